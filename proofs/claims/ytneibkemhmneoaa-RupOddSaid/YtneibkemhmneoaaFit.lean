/- Contracts: the formula that a statement makes of its arguments; the formulas of the examples. -/
import Derived.Test.YtneibkemhmneoaaW5
namespace Go.Proofs.Ytneibkemhmneoaa
set_option linter.unusedVariables false
set_option linter.unusedSimpArgs false
open Go.RowKit

def bytes8 (xs : List Int) : List Value := xs.map (.int .i8)
/-- A slice of slices of int8 that is read. -/
def RdB (w : World) (v : Value) (css : List (List Int)) : Prop := ∃ vs, Rd w v vs ∧ vs.length = css.length ∧ ∀ (j : Nat) u c, vs[j]? = some u → css[j]? = some c → Rd w u (bytes8 c)
theorem RdB.below {w w' : World} {v : Value} {css : List (List Int)} (h : RdB w v css) (hb : Below w.heap.size w w') : RdB w' v css :=
  let ⟨vs, h1, h2, h3⟩ := h; ⟨vs, h1.below hb, h2, fun j u c hu hc => (h3 j u c hu hc).below hb⟩
theorem rd8_shape {w : World} {v : Value} {xs : List Int} (h : Rd w v (bytes8 xs)) : ∃ a cap, v = .slice a xs.length cap ∧ xs.length ≤ cap ∧ (∀ (k : Nat) (hk : k < xs.length), ∃ b off, a = some ⟨b, off, none⟩ ∧ w.cell? ⟨b, off + k, none⟩ = some (.int .i8 xs[k])) := by
  obtain ⟨a, cap, rfl, hc, h⟩ := h
  have hl : (bytes8 xs).length = xs.length := by simp [bytes8]
  refine ⟨a, cap, by rw [hl], by omega, fun k hk => ?_⟩
  rcases h with h | ⟨b, off, rfl, h⟩
  · have h2 : (bytes8 xs).length = 0 := by rw [h]; rfl
    omega
  · exact ⟨b, off, rfl, h k _ (by simp [bytes8, hk])⟩
theorem RdB.shape {w : World} {v : Value} {css : List (List Int)} (h : RdB w v css) : ∃ a cap, v = .slice a css.length cap ∧ css.length ≤ cap ∧ (∀ (k : Nat) (hk : k < css.length), ∃ b off u, a = some ⟨b, off, none⟩ ∧ w.cell? ⟨b, off + k, none⟩ = some u ∧ Rd w u (bytes8 css[k])) := by
  obtain ⟨vs, ⟨a, cap, rfl, hc, h⟩, hl, h3⟩ := h
  refine ⟨a, cap, by rw [hl], by rw [← hl]; exact hc, fun k hk => ?_⟩
  rcases h with h | ⟨b, off, rfl, h⟩
  · rw [h] at hl
    simp at hl
    omega
  · have hk' : k < vs.length := by omega
    have hv : vs[k]? = some vs[k] := List.getElem?_eq_getElem hk'
    exact ⟨b, off, vs[k], rfl, h k _ hv, h3 k _ _ hv (List.getElem?_eq_getElem hk)⟩

/-- The literals are of n variables. -/
def OkC (n : Int) (c : List Int) : Prop := ∀ x ∈ c, x ≠ 0 ∧ -n ≤ x ∧ x ≤ n
def OkF (n : Int) (css : List (List Int)) : Prop := ∀ c ∈ css, OkC n c ∧ c.length ≤ 20

theorem tmod_bound {x n : Int} (hn : 1 ≤ n) : -n ≤ x.tmod (n + 1) ∧ x.tmod (n + 1) ≤ n := by
  have h1 := Int.tmod_lt_of_pos x (show 0 < n + 1 by omega)
  have h2 : -(n + 1) < x.tmod (n + 1) := Int.lt_tmod_of_pos x (show 0 < n + 1 by omega)
  omega

theorem OkC.snoc {n x : Int} {c : List Int} (h : OkC n c) (hx : x ≠ 0 ∧ -n ≤ x ∧ x ≤ n) : OkC n (c ++ [x]) := fun y hy => by
  rcases List.mem_append.1 hy with hy | hy
  · exact h y hy
  · rw [List.mem_singleton.1 hy]; exact hx

set_option maxHeartbeats 2000000 in
theorem fit_any (a0 : Int) (v : Value) (css : List (List Int)) (w : World) (ha : 0 ≤ a0) (ha' : a0 ≤ 255) (hv : RdB w v css) (hmx : ∀ c ∈ css, (c.length : Int) ≤ 140737488355328) (hr : ∀ c ∈ css, ∀ x ∈ c, -128 ≤ x ∧ x ≤ 127) (hmax : (css.length : Int) ≤ 140737488355328) :
    Calls Try.prog 10 #[.int .u8 a0, v] w fun e w' => (e = .returned (.tuple #[.agg #[.int .i64 0, .slice none 0 0], .bool false]) ∧ Below w.heap.size w w') ∨
      ∃ n v' fs, e = .returned (.tuple #[.agg #[.int .i64 n, v'], .bool true]) ∧ 1 ≤ n ∧ n ≤ 12 ∧ fs.length ≤ 30 ∧ OkF n fs ∧ St w w' [LL v' fs] := by
  obtain ⟨a, cap, rfl, hcap, hcell⟩ := hv.shape
  have HC := Hd.mk hcell
  have HM := Hd.mk hmx
  have HR := Hd.mk hr
  clear hcell hcap hv hmx hr
  have hB := Hd.mk (((Below.refl w.heap.size w).alloc (Nat.le_refl _) (.cells #[.int .i64 0, .slice none 0 0] 25)).alloc (by simp) (.cells #[.int .i64 (1 + a0 % 12), .slice none 0 0] 25))
  have hn1 : 1 ≤ 1 + a0 % 12 := by omega
  have hn2 : 1 + a0 % 12 ≤ 12 := by omega
  by_cases h30 : (css.length : Int) > 30
  · go_enter Try.func10, Try.ntmps10
    go_wp2
    exact bodyPost_ret (v := .tuple #[.agg #[.int .i64 0, .slice none 0 0], .bool false]) (by simp [results, Try.results10, go_sem]) rfl (.inl ⟨rfl, hB.out⟩)
  · have h30' : (css.length : Int) ≤ 30 := by omega
    clear h30
    go_enter Try.func10, Try.ntmps10
    go_wp2
    have hst0 : St w ((w.alloc (Obj.cells #[.int .i64 0, .slice none 0 0] 25)).alloc (Obj.cells #[.int .i64 (1 + a0 % 12), .slice none 0 0] 25)) [Blk (w.heap.size + 1) (.cells #[.int .i64 (1 + a0 % 12), .slice none 0 0] 25), LL (.slice none 0 0) [], Blk w.heap.size (.cells #[.int .i64 0, .slice none 0 0] 25)] := by
      have h := (((St.refl w).alloc (Obj.cells #[.int .i64 0, .slice none 0 0] 25)).ll_nil.alloc (Obj.cells #[.int .i64 (1 + a0 % 12), .slice none 0 0] 25))
      rw [World.size_alloc] at h
      exact h
    have HB0 := Hd.mk hst0
    clear hst0 hB
    generalize 1 + a0 % 12 = n at *
    generalize a0 % 12 = n' at *
    go_loopw [7] (fun i wr => ∃ k : Nat, k ≤ css.length ∧ i = .int .i64 k ∧ Hd (∃ v' fs, fs.length = k ∧ OkF n fs ∧ St w wr [Blk (w.heap.size + 1) (.cells #[.int .i64 n, v'] 25), LL v' fs, Blk w.heap.size (.cells #[.int .i64 0, .slice none 0 0] 25)])) (fun i _ => css.length - (intOf i).toNat)
    case atStart => exact ⟨0, Nat.zero_le _, rfl, ⟨_, [], rfl, (fun _ h => by cases h), HB0.out⟩⟩
    case round =>
      clear HB0
      obtain ⟨k, hk, rfl, ⟨v', fs, hfl, hok, hst⟩⟩ := hrel
      obtain ⟨a6, n6, c6, rfl⟩ := hst.p1.llShape
      obtain ⟨wo, rfl⟩ : ∃ wo : World, wo = wr := ⟨_, rfl⟩
      have HOK := Hd.mk hok
      have HFL := Hd.mk hfl
      have HST := Hd.mk hst
      have c0 := hst.cell 0
      have c1 := hst.cell 1
      have d0 := (hst.p2).cell 0
      have d1 := (hst.p2).cell 1
      simp only [List.getElem?_toArray, List.getElem?_cons_zero, List.getElem?_cons_succ] at c0 c1 d0 d1
      have f1 := hst.free 1
      have e0 := (hst.p2).free 0
      have e1 := (hst.p2).free 1
      clear hfl hok hst
      by_cases hlt : k < css.length
      · obtain ⟨b, off, u, rfl, hcell0, hu0⟩ := HC.out k hlt
        obtain ⟨a2, cap2, rfl, hc2, hu⟩ := rd8_shape hu0
        have hcell := (HST.out.below.cell (World.block_lt_of_cell? w _ hcell0)).trans hcell0
        have HCELL := Hd.mk hcell0
        have HU := Hd.mk hu
        have hlen := HM.out _ (List.getElem_mem hlt)
        have HX := Hd.mk (HR.out _ (List.getElem_mem hlt))
        clear hcell0 hu0 hu hc2
        generalize hcss : css[k] = c at *
        clear hcss
        by_cases h20 : (c.length : Int) > 20
        · clear c0 c1 f1
          go_wp2
          exact bodyPost_ret (v := .tuple #[.agg #[.int .i64 0, .slice none 0 0], .bool false]) (by simp [results, Try.results10, go_sem, d0, d1, World.cell?_setCell_same, World.cell?_setCell_other]) rfl (.inl ⟨rfl, (HST.out.below.setCell (Nat.le_refl _) _).setCell (Nat.le_refl _) _⟩)
        · have h20' : (c.length : Int) ≤ 20 := by omega
          clear h20 d0 d1 e0 e1
          go_wp2
          clear f1 c0 c1
          go_loopw [8, 9] (fun cv i wr => ∃ j : Nat, j ≤ c.length ∧ i = .int .i64 j ∧ Hd (∃ cs, cs.length ≤ j ∧ OkC n cs ∧ St w wr [Sl 3 cv (ints cs), Blk (w.heap.size + 1) (.cells #[.int .i64 n, .slice a6 n6 c6] 25), LL (.slice a6 n6 c6) fs, Blk w.heap.size (.cells #[.int .i64 0, .slice none 0 0] 25)] )) (fun _ i _ => c.length - (intOf i).toNat)
          case atStart => exact ⟨0, Nat.zero_le _, rfl, ⟨[], Nat.le_refl _, (fun _ h => by cases h), HST.out.sl_nil 3⟩⟩
          case round =>
            obtain ⟨j, hj, rfl, ⟨cs, hcl, hoc, hst⟩⟩ := hrel
            have HST2 := Hd.mk hst
            have HOC := Hd.mk hoc
            clear hcell HST hst hoc
            have hcell := (HST2.out.below.cell (World.block_lt_of_cell? w _ HCELL.out)).trans HCELL.out
            by_cases hjl : j < c.length
            · obtain ⟨b3, off3, rfl, hx0⟩ := HU.out j hjl
              have hx := (HST2.out.below.cell (World.block_lt_of_cell? w _ hx0)).trans hx0
              obtain ⟨x1, x2⟩ := HX.out _ (List.getElem_mem hjl)
              have c0 := (HST2.out.p1).cell 0
              simp only [List.getElem?_toArray, List.getElem?_cons_zero, List.getElem?_cons_succ] at c0
              have hki : (k : Int) < (css.length : Int) := by omega
              have hk0 : (0 : Int) ≤ (k : Int) := by omega
              have hji : (j : Int) < (c.length : Int) := by omega
              have hj0 : (0 : Int) ≤ (j : Int) := by omega
              have TB := Hd.mk (tmod_bound (x := c[j]) hn1)
              clear hx0
              generalize c[j] = x at *
              have hw1 : IntKind.i64.wrap (n + 1) = n + 1 := IntWalk.i64_in _ (by omega)
              have hw2 : IntKind.i64.wrap (x.tmod (n + 1)) = x.tmod (n + 1) := IntWalk.i64_in _ (by have := TB.out; omega)
              have hw3 : IntKind.i64.wrap x = x := IntWalk.i64_in _ (by omega)
              go_wp2
              go_quiet (fail)
              clear hw1 hw2 hw3 x1 x2 hx
              generalize x.tmod (n + 1) = y at *
              have HST3 := Hd.mk (HST2.out.drewN nq)
              clear hcell c0 HST2
              generalize wr.drewN nq = w5 at *
              by_cases hy : y = 0
              · have hy1 : (y != 0) = false := by simp [hy]
                clear hy
                go_wp2
                go_roundw
                case rel => exact ⟨j + 1, by omega, by go_num, ⟨cs, by omega, HOC.out, HST3.out⟩⟩
                case measure => simp [intOf]; omega
              · have hy1 : (y != 0) = true := by simp [hy]
                have HY := Hd.mk (HOC.out.snoc ⟨hy, TB.out⟩)
                have hcl2 := Hd.mk (show (ints cs).length < 1099511627776 by rw [ints_length]; omega)
                clear hy
                go_wp2_with (first | (at_builtin; go_must (refine wpList_append1 rfl _ _ 29 rfl 3 (.int .i64 0) 8 Try.underlying29 info3 rfl (by decide) _ _ _ rfl ((HST3.out.alloc _).p1) _ _ (.int .i64 y) rfl (by simp) rfl hcl2.out ?_); intro v2 w1 hst1; have hst1' := Hd.mk hst1.p1.drop; clear hst1))
                go_roundw
                case rel => exact ⟨j + 1, by omega, by go_num, ⟨cs ++ [y], by simp; omega, HY.out, by rw [show ints (cs ++ [y]) = ints cs ++ [.int .i64 y] by simp [ints]]; exact hst1'.out⟩⟩
                case measure => simp [intOf]; omega
            · have c1 := (HST2.out.p1).cell 1
              simp only [List.getElem?_toArray, List.getElem?_cons_zero, List.getElem?_cons_succ] at c1
              obtain ⟨a4, cap4, rfl, _⟩ := HST2.out.rd
              obtain ⟨vs, hl, hst3⟩ := HST2.out.p2.llOpen
              have HST3 := Hd.mk hst3
              have HL := Hd.mk hl
              have hl2 := Hd.mk (show vs.length < 1099511627776 by rw [hl]; have := HFL.out; omega)
              clear hst3 hl
              go_wp2_with (first | (at_builtin; go_must (refine wpList_append1 rfl _ _ 23 rfl 29 (.slice none 0 0) 24 Try.underlying23 info29 rfl (by decide) _ _ _ rfl ((HST3.out.alloc _).p1) _ _ (.slice a4 (ints cs).length cap4) rfl (by simp) rfl hl2.out ?_); intro v2 w1 hst1; obtain ⟨a5, n5, cap5, rfl⟩ := hst1.shape; have hst1' := Hd.mk (St.llAppend HL.out hst1.p1.drop).p1; clear hst1; have c1' := hst1'.out.cell 1; have f1' := hst1'.out.free 1; simp only [List.getElem?_toArray, List.getElem?_cons_zero, List.getElem?_cons_succ] at c1'))
              go_roundw
              case rel => exact ⟨k + 1, by omega, by go_num, ⟨_, fs ++ [cs], by have := HFL.out; simp; omega, (fun c' hc' => by
                rcases List.mem_append.1 hc' with h | h
                · exact HOK.out c' h
                · rw [List.mem_singleton.1 h]
                  exact ⟨HOC.out, by omega⟩), hst1'.out.setCell _⟩⟩
              case measure => simp [intOf]; omega
      · have hle : fs.length ≤ 30 := by have := HFL.out; omega
        go_wp2
        exact bodyPost_ret (v := .tuple #[.agg #[.int .i64 n, .slice a6 n6 c6], .bool true]) (by simp [results, Try.results10, go_sem, c0, c1, d0, d1, e0, e1, World.cell?_setCell_same, World.cell?_setCell_other]) rfl (Or.inr ⟨n, _, fs, rfl, hn1, hn2, hle, HOK.out, (HST.out.p2.setCell _).setCell _ |>.drop |>.drop⟩)
end Go.Proofs.Ytneibkemhmneoaa
