/- Contracts: the reference's unit propagation: propagate, Fails. -/
import Derived.Test.YtneibkemhmneoaaRp
namespace Go.Proofs.Ytneibkemhmneoaa
set_option linter.unusedVariables false
set_option linter.unusedSimpArgs false
open Go.RowKit

theorem runit_is (b : Nat) (S : Int → Bool) (v : Value) (c : List Int) (W w : World) (l : List As) (hst : St W w (KB b S :: l)) (hv : RdI w v c) (hN : ∀ x ∈ c, Lt40 x) (hmax : (c.length : Int) ≤ 1000000000) (r : Int) (q : Bool) (he : refUnit S c 0 = (r, q)) :
    Calls Try.prog 71 #[.map (some b), v] w fun e w' => e = .returned (.tuple #[.int .i64 r, .bool q]) ∧ w = w' :=
  (runit_any b S v c W w l hst hv hN hmax).mono fun _ _ ⟨h1, h2⟩ => ⟨by rw [h1, he], h2⟩

theorem kb_store {b : Nat} {S : Int → Bool} {x : Int} : (Mp Try.prog b (fun y => if y = x then some (.bool true) else if S y = true then some (.bool true) else none)) = KB b (fun y => decide (y = x) || S y) := by
  unfold KB
  congr 1
  funext y
  by_cases h : y = x
  · simp [h]
  · simp [h]

theorem wpList_store_kb {W w : World} {ops : Array Oper} {rest : List Oper} {o : Oper} {a : Act} {Q : Exit → Act → World → Prop} (hg : o.guard = none) (m k v : Operand) (hop : o.op = Op.mapUpdate 63 m k v) (b : Nat) (S : Int → Bool) (l : List As) (x : Int)
    (hm : a.eval m = .map (some b)) (hk : a.eval k = .int .i64 x) (hv : a.eval v = .bool true) (h : St W w (KB b S :: l)) (hx : Lt40 x) (hS : ∀ y, S y = true → Lt40 y)
    (hK : ∀ w', St W w' (KB b (fun y => decide (y = x) || S y) :: l) → wpList Try.prog ops Q rest (a.put o.dst undef) w') : wpList Try.prog ops Q (o :: rest) a w :=
  wpList_store_mp hg m k v 63 4 hop Try.underlying3 Try.underlying63 b _ l x (.bool true) hm hk hv h (by have := hx.1; omega) (by have := hx.2; omega)
    (fun ks hn hks => by
      have h1 := nodup_range (N := 1099511627776) hn (fun y hy => by
        have h2 := hks y hy
        have h3 : S y = true := by
          cases hy : S y with
          | true => rfl
          | false => simp [hy] at h2
        exact hS y h3)
      unfold maxLen
      omega)
    (fun w' hw => hK w' (by rw [← kb_store]; exact hw))

theorem St.kbLen {W w : World} {b : Nat} {S : Int → Bool} {l : List As} (h : St W w (KB b S :: l)) (ty : TypeId) :
    ∃ ks : List Int, ks.Nodup ∧ (∀ x : Int, x ∈ ks ↔ S x = true) ∧ (Builtin.len_ #[63] ty #[.map (some b)]).run Try.prog w = .ok (.int .i64 ks.length) w := by
  obtain ⟨ks, h1, h2, h3⟩ := h.mlen (E := 4) Try.underlying3 Try.underlying63 ty
  refine ⟨ks, h1, fun x => ?_, h3⟩
  rw [h2 x]
  cases S x <;> simp

/-- What the known set is, round by round. -/
structure Kn (css : List (List Int)) (asm : List Int) (S : Int → Bool) : Prop where
  der : ∀ x, S x = true → Der css asm x
  cons : ∀ x, S x = true → S (-x) = false
  lt : ∀ x, S x = true → Lt40 x ∧ x ≠ 0

theorem Kn.add {css : List (List Int)} {asm : List Int} {S : Int → Bool} (h : Kn css asm S) {x : Int} (hd : Der css asm x) (hn : S (-x) = false) (hx : Lt40 x) (h0 : x ≠ 0) : Kn css asm (fun y => decide (y = x) || S y) where
  der y hy := by
    simp only [Bool.or_eq_true, decide_eq_true_eq] at hy
    rcases hy with rfl | hy
    · exact hd
    · exact h.der y hy
  cons y hy := by
    simp only [Bool.or_eq_true, decide_eq_true_eq, Bool.or_eq_false_iff, decide_eq_false_iff_not] at hy ⊢
    rcases hy with rfl | hy
    · exact ⟨by omega, hn⟩
    · refine ⟨fun e => ?_, h.cons y hy⟩
      have : y = -x := by omega
      rw [this] at hy
      rw [hn] at hy
      cases hy
  lt y hy := by
    simp only [Bool.or_eq_true, decide_eq_true_eq] at hy
    rcases hy with rfl | hy
    · exact ⟨hx, h0⟩
    · exact h.lt y hy

theorem mem_take_succ {x : List Int} {k : Nat} (hk : k < x.length) (y : Int) : y ∈ x.take (k + 1) ↔ y = x[k] ∨ y ∈ x.take k := by
  rw [List.take_succ_eq_append_getElem hk, List.mem_append, List.mem_singleton]
  exact Or.comm

/-- What the outer loop knows of a set and of the number of keys that it had a round before. -/
def Rounds (css : List (List Int)) (S : Int → Bool) (bf : Int) : Prop := ∀ ks : List Int, ks.Nodup → (∀ x, x ∈ ks ↔ S x = true) → bf ≤ ks.length ∧ (bf = ks.length → ∀ c ∈ css, refUnit S c 0 = (0, true))

/-- What the inner loop knows. -/
structure Inner (css : List (List Int)) (S0 S : Int → Bool) (k : Nat) : Prop where
  up : ∀ x, S0 x = true → S x = true
  look : (∀ x, S x = true → S0 x = true) → ∀ (j : Nat) (hj : j < css.length), j < k → refUnit S0 css[j] 0 = (0, true)

theorem Inner.rounds {css : List (List Int)} {S0 S : Int → Bool} {k : Nat} (h : Inner css S0 S k) (hk : css.length ≤ k) {ks0 : List Int} (hn : ks0.Nodup) (hm : ∀ x, x ∈ ks0 ↔ S0 x = true) : Rounds css S (ks0.length : Int) := by
  intro ks hn2 hm2
  have hsub : ∀ x ∈ ks0, x ∈ ks := fun x hx => (hm2 x).2 (h.up x ((hm x).1 hx))
  refine ⟨by have := nodup_le hn hsub; omega, fun he c hc => ?_⟩
  have hback := nodup_eq hn hsub (by omega)
  have hdown : ∀ x, S x = true → S0 x = true := fun x hx => (hm x).1 (hback x ((hm2 x).2 hx))
  have hSS : S = S0 := by
    funext x
    cases h1 : S x with
    | true => exact (hdown x h1).symm
    | false =>
      cases h2 : S0 x with
      | false => rfl
      | true => rw [h.up x h2] at h1; cases h1
  obtain ⟨j, hj, rfl⟩ := List.getElem_of_mem hc
  rw [hSS]
  exact h.look hdown j hj (by omega)

def PropEnd (css : List (List Int)) (asm : List Int) (w : World) (e : Ending) (w' : World) : Prop :=
  (e = .returned (.tuple #[.map none, .bool true]) ∧ Bad css asm ∧ Below w.heap.size w w') ∨
      ∃ b S, e = .returned (.tuple #[.map (some b), .bool false]) ∧ ¬ Bad css asm ∧ (∀ x, S x = true ↔ Der css asm x) ∧ St w w' [KB b S]

set_option maxHeartbeats 4000000 in
theorem propagate_any (v u : Value) (css : List (List Int)) (asm : List Int) (w : World) (hv : RdL w v css) (hu : RdI w u asm) (hmax : (css.length : Int) ≤ 1000000000) (hmx : ∀ c ∈ css, (c.length : Int) ≤ 1000000000)
    (hla : (asm.length : Int) ≤ 1000000000) (hN : ∀ c ∈ css, ∀ x ∈ c, Lt40 x ∧ x ≠ 0) (hA : ∀ x ∈ asm, Lt40 x ∧ x ≠ 0) :
    Calls Try.prog 48 #[v, u] w (PropEnd css asm w) := by
  obtain ⟨a, cap, rfl, hcap, hcell⟩ := hv.shape
  obtain ⟨a2, cap2, rfl, hcap2, hcell2⟩ := hu.shape
  have HC := Hd.mk hcell
  have HC2 := Hd.mk hcell2
  have HM := Hd.mk hmx
  have HN := Hd.mk hN
  have HA := Hd.mk hA
  clear hcell hcell2 hcap hcap2 hv hu hmx hN hA
  have hmm := @run_makeMap Try.prog
  have HST0 := Hd.mk (show St w (w.alloc (.map #[] 0)) [KB w.heap.size (fun _ => false)] from (((St.refl w).alloc (.map #[] 0)).made (P := Try.prog)))
  go_enter Try.func48, Try.ntmps48
  go_wp2
  clear hmm
  go_loopw [7] (fun i wr => ∃ k : Nat, k ≤ asm.length ∧ i = .int .i64 k ∧ Hd (∃ S, St w wr [KB w.heap.size S] ∧ Kn css asm S ∧ ∀ x, S x = true ↔ x ∈ asm.take k)) (fun i _ => asm.length - (intOf i).toNat)
  case atStart => exact ⟨0, Nat.zero_le _, rfl, ⟨_, HST0.out, ⟨by simp, by simp, by simp⟩, by simp⟩⟩
  case round =>
    obtain ⟨k, hk, rfl, ⟨S, hst, hkn, hS⟩⟩ := hrel
    have HST := Hd.mk hst
    have HKN := Hd.mk hkn
    have HS := Hd.mk hS
    clear hst hkn hS HST0
    by_cases hlt : k < asm.length
    · obtain ⟨bb, off, rfl, hcell0⟩ := HC2.out k hlt
      have hcell := (HST.out.below.cell (World.block_lt_of_cell? w _ hcell0)).trans hcell0
      obtain ⟨hin, hne⟩ := HA.out _ (List.getElem_mem hlt)
      have HD := Hd.mk (Der.asm (cls := css) (List.getElem_mem hlt))
      have HT := Hd.mk (mem_take_succ hlt)
      have HIN := Hd.mk hin
      have HNE := Hd.mk hne
      clear hcell0 hne
      generalize asm[k] = x at *
      obtain ⟨n1, n2⟩ := hin
      by_cases h1 : S (-x) = true
      · have hl1 := HST.out.kbLook (x := -x) ⟨by omega, by omega⟩ h1
        have HBAD := Hd.mk (show Bad css asm from .inl ⟨x, HD.out, HKN.out.der _ h1⟩)
        clear h1
        go_wp2
        go_ret2
        exact .inl ⟨rfl, HBAD.out, HST.out.below⟩
      · have h1' : S (-x) = false := by simpa using h1
        have hl1 := HST.out.kbLook (x := -x) ⟨by omega, by omega⟩ h1'
        have HKN2 := Hd.mk (HKN.out.add HD.out h1' HIN.out HNE.out)
        have HLT := Hd.mk (fun y hy => (HKN.out.lt y hy).1)
        clear h1 h1'
        go_wp2_with (first | (at_mapUpdate; go_must (refine wpList_store_kb rfl _ _ _ rfl _ _ _ _ rfl rfl rfl HST.out HIN.out HLT.out ?_); intro w1 hst1; have hst1' := Hd.mk hst1; clear hst1))
        go_roundw
        case rel => exact ⟨k + 1, by omega, by go_num, ⟨_, hst1'.out, HKN2.out, fun y => by
          rw [HT.out y, ← HS.out y]; simp⟩⟩
        case measure => simp [intOf]; omega
    · have HASM := Hd.mk (show ∀ y, S y = true ↔ y ∈ asm by
        intro y
        rw [HS.out y, List.take_of_length_le (by omega)])
      clear HS HC2
      go_wp2
      clear hlt hk
      go_loopw [8] (fun t wr => ∃ bf : Int, -1 ≤ bf ∧ bf ≤ 2199023255553 ∧ t = .int .i64 bf ∧ Hd (∃ S, St w wr [KB w.heap.size S] ∧ Kn css asm S ∧ (∀ y, y ∈ asm → S y = true) ∧ Rounds css S bf)) (fun t _ => (2199023255600 - intOf t).toNat)
      case atStart => exact ⟨-1, by omega, by omega, rfl, ⟨S, HST.out, HKN.out, fun y hy => (HASM.out y).2 hy, fun ks _ _ => ⟨by omega, fun h => by omega⟩⟩⟩
      case round =>
        clear HST HKN HASM
        obtain ⟨bf, hb1, hb2, rfl, ⟨S0, hst, hkn, hasm, hrd⟩⟩ := hrel
        obtain ⟨ks0, hn0, hm0, hlen⟩ := hst.kbLen 3
        have hks : (ks0.length : Int) ≤ 2199023255553 := by
          have := nodup_range (N := 1099511627776) hn0 (fun y hy => (hkn.lt y ((hm0 y).1 hy)).1)
          omega
        obtain ⟨hr1, hr2⟩ := hrd ks0 hn0 hm0
        have HR2 := Hd.mk hr2
        have HST := Hd.mk hst
        have HKN := Hd.mk hkn
        have HASM := Hd.mk hasm
        have HN0 := Hd.mk hn0
        have HM0 := Hd.mk hm0
        clear hst hkn hasm hn0 hm0 hr2 hrd
        obtain ⟨wo, rfl⟩ : ∃ wo : World, wo = wr := ⟨_, rfl⟩
        by_cases hlt : bf < (ks0.length : Int)
        · go_wp2
          clear hlen
          go_loopw [9] (fun i wr => ∃ k : Nat, k ≤ css.length ∧ i = .int .i64 k ∧ Hd (∃ S, St w wr [KB w.heap.size S] ∧ Kn css asm S ∧ (∀ y, y ∈ asm → S y = true) ∧ Inner css S0 S k)) (fun i _ => css.length - (intOf i).toNat)
          case atStart => exact ⟨0, Nat.zero_le _, rfl, ⟨S0, HST.out, HKN.out, HASM.out, ⟨fun _ h => h, fun _ j _ h => by omega⟩⟩⟩
          case round =>
            clear HST HKN HASM
            obtain ⟨k, hk, rfl, ⟨S, hst, hkn, hasm, hin⟩⟩ := hrel
            have HST := Hd.mk hst
            have HKN := Hd.mk hkn
            have HASM := Hd.mk hasm
            have HIN := Hd.mk hin
            clear hst hkn hasm hin
            by_cases hlt2 : k < css.length
            · obtain ⟨bb, off, p, rfl, hcell0, hp0⟩ := HC.out k hlt2
              have hcell := (HST.out.below.cell (World.block_lt_of_cell? w _ hcell0)).trans hcell0
              have HP := Hd.mk (hp0.below HST.out.below)
              have hlen := HM.out _ (List.getElem_mem hlt2)
              have HL := Hd.mk (HN.out _ (List.getElem_mem hlt2))
              have HMEM := Hd.mk (List.getElem_mem hlt2)
              have HLK := Hd.mk (show ∀ (j : Nat) (hj : j < css.length), j < k + 1 → ¬ j < k → css[j] = css[k] from fun j hj h1 h2 => by
                have : j = k := by omega
                subst this
                rfl)
              clear hcell0 hp0
              generalize css[k] = c at *
              rcases refUnit_spec (k := S) c (fun h => (HL.out 0 h).2 rfl) with ⟨he, hall⟩ | ⟨x, hx, hx0, he, hkx, hkn, hoth⟩ | ⟨he, _⟩
              · have HE := Hd.mk he
                have HBAD := Hd.mk (show Bad css asm from .inr ⟨c, HMEM.out, fun y hy => HKN.out.der _ (hall y hy)⟩)
                clear he hall
                go_wp2_with (first | (go_at_call 71; refine (runit_is _ _ _ _ _ _ _ HST.out HP.out (fun x hx => (HL.out x hx).1) hlen _ _ HE.out).mono ?_; rintro e w' ⟨rfl, rfl⟩))
                go_ret2
                exact .inl ⟨rfl, HBAD.out, HST.out.below⟩
              · have HE := Hd.mk he
                have HX := Hd.mk (HL.out x hx).1
                have hb0 : (x != 0) = true := by simp [hx0]
                have HD := Hd.mk (Der.unit HMEM.out hx (fun y hy hne => HKN.out.der _ (hoth y hy hne)))
                have HKN2 := Hd.mk (HKN.out.add HD.out hkn HX.out hx0)
                have HLT := Hd.mk (fun y hy => (HKN.out.lt y hy).1)
                have HIN2 := Hd.mk (show Inner css S0 (fun y => decide (y = x) || S y) (k + 1) from
                  ⟨fun y hy => by simp [HIN.out.up y hy], fun h => by
                    have h1 := h x (by simp)
                    rw [HIN.out.up x h1] at hkx
                    cases hkx⟩)
                clear he hx hx0 hkx hkn hoth
                go_wp2_with (first
                  | (go_at_call 71; refine (runit_is _ _ _ _ _ _ _ HST.out HP.out (fun x hx => (HL.out x hx).1) hlen _ _ HE.out).mono ?_; rintro e w' ⟨rfl, rfl⟩)
                  | (at_mapUpdate; go_must (refine wpList_store_kb rfl _ _ _ rfl _ _ _ _ rfl rfl rfl HST.out HX.out HLT.out ?_); intro w1 hst1; have hst1' := Hd.mk hst1; clear hst1))
                go_roundw
                case rel => exact ⟨k + 1, by omega, by go_num, ⟨_, hst1'.out, HKN2.out, fun y hy => by simp [HASM.out y hy], HIN2.out⟩⟩
                case measure => simp [intOf]; omega
              · have HE := Hd.mk he
                have HIN2 := Hd.mk (show Inner css S0 S (k + 1) from
                  ⟨HIN.out.up, fun h j hj hjk => by
                    by_cases hj2 : j < k
                    · exact HIN.out.look h j hj hj2
                    · rw [HLK.out j hj hjk hj2]
                      have hSS : S = S0 := by
                        funext y
                        cases h1 : S y with
                        | true => exact (h y h1).symm
                        | false =>
                          cases h2 : S0 y with
                          | false => rfl
                          | true => rw [HIN.out.up y h2] at h1; cases h1
                      rw [← hSS]
                      exact HE.out⟩)
                clear he
                go_wp2_with (first
                  | (go_at_call 71; refine (runit_is _ _ _ _ _ _ _ HST.out HP.out (fun x hx => (HL.out x hx).1) hlen _ _ HE.out).mono ?_; rintro e w' ⟨rfl, rfl⟩))
                go_roundw
                case rel => exact ⟨k + 1, by omega, by go_num, ⟨_, HST.out, HKN.out, HASM.out, HIN2.out⟩⟩
                case measure => simp [intOf]; omega
            · have HR := Hd.mk (HIN.out.rounds (by omega) HN0.out HM0.out)
              go_wp2
              go_roundw
              case rel => exact ⟨ks0.length, by omega, hks, rfl, ⟨S, HST.out, HKN.out, HASM.out, HR.out⟩⟩
              case measure => simp [intOf]; omega
        · have HCL := Hd.mk (closed_of_look (fun c hc h0 => (HN.out c hc 0 h0).2 rfl) HASM.out HKN.out.cons (HR2.out (by omega)))
          go_wp2
          go_ret2
          exact .inr ⟨_, S0, rfl, HCL.out.not_bad, fun x => ⟨HKN.out.der x, fun d => d.sub HCL.out⟩, HST.out⟩

set_option maxHeartbeats 1000000 in
theorem rfails_any (v u : Value) (css : List (List Int)) (asm : List Int) (w : World) (hv : RdL w v css) (hu : RdI w u asm) (hmax : (css.length : Int) ≤ 1000000000) (hmx : ∀ c ∈ css, (c.length : Int) ≤ 1000000000)
    (hla : (asm.length : Int) ≤ 1000000000) (hN : ∀ c ∈ css, ∀ x ∈ c, Lt40 x ∧ x ≠ 0) (hA : ∀ x ∈ asm, Lt40 x ∧ x ≠ 0) :
    Calls Try.prog 38 #[v, u] w fun e w' => e = .returned (.bool (badB css asm)) ∧ Below w.heap.size w w' := by
  have HP := Hd.mk (propagate_any v u css asm w hv hu hmax hmx hla hN hA)
  clear hv hu hmax hmx hla hN hA
  go_enter Try.func38, Try.ntmps38
  go_wp2_with (first | (go_at_call 48; refine HP.out.mono ?_; rintro e w' (⟨rfl, hb, hw⟩ | ⟨b, S, rfl, hb, _, hst⟩)))
  · have hb' := Hd.mk hb
    have hw' := Hd.mk hw
    clear hb hw
    go_wp2
    go_ret
    exact ⟨by rw [badB_true hb'.out]; rfl, hw'.out⟩
  · have hb' := Hd.mk hb
    have hw' := Hd.mk hst.below
    clear hb hst
    go_wp2
    go_ret
    exact ⟨by rw [badB_false hb'.out]; rfl, hw'.out⟩
end Go.Proofs.Ytneibkemhmneoaa
