/- Contracts: equality of lists of lists; whether a formula is small. -/
import Derived.Test.YtneibkemhmneoaaLL
namespace Go.Proofs.Ytneibkemhmneoaa
set_option linter.unusedVariables false
set_option linter.unusedSimpArgs false
open Go.RowKit

theorem Calls.qd {P : Program} {f : FuncId} {args : Array Value} {w : World} {n : Nat} {v : Value}
    (h : Calls P f args (w.drewN n) fun e w' => e = .returned v ∧ Dr (w.drewN n) w') : Calls P f args (w.drewN n) fun e w'' => e = .returned v ∧ ∃ m, w'' = w.drewN m :=
  h.mono fun _ _ ⟨he, hm⟩ => ⟨he, by obtain ⟨m, rfl⟩ := hm; exact ⟨n + m, by simp⟩⟩

theorem eqInts_is (v u : Value) (x y : List Int) (w : World) (hv : RdI w v x) (hu : RdI w u y) (hmax : (x.length : Int) ≤ 140737488355328) (r : Bool) (hr : decide (x = y) = r) :
    Calls Try.prog 20 #[v, u] w fun e w' => e = .returned (.bool r) ∧ Dr w w' :=
  (eqInts_any v u x y w hv hu hmax).mono fun _ _ ⟨h1, h2⟩ => ⟨by rw [h1, hr], h2⟩

theorem eq_take_succL {x y : List (List Int)} {k : Nat} (h : x.length = y.length) (hx : k < x.length) (he : x.take k = y.take k) (hk : x[k] = y[k]'(by omega)) : x.take (k + 1) = y.take (k + 1) := by
  rw [List.take_succ_eq_append_getElem hx, List.take_succ_eq_append_getElem (by omega), he, hk]

set_option maxHeartbeats 1000000 in
theorem eqLists_any (v u : Value) (x y : List (List Int)) (w : World) (hv : RdL w v x) (hu : RdL w u y) (hmax : (x.length : Int) ≤ 1000000000) (hmx : ∀ c ∈ x, (c.length : Int) ≤ 1000000000) :
    Calls Try.prog 15 #[v, u] w fun e w' => e = .returned (.bool (decide (x = y))) ∧ Dr w w' := by
  obtain ⟨a, cap, rfl, hcap, hcell⟩ := hv.shape
  obtain ⟨a2, cap2, rfl, hcap2, hcell2⟩ := hu.shape
  have HC := Hd.mk hcell
  have HC2 := Hd.mk hcell2
  have HM := Hd.mk hmx
  clear hcell hcell2 hcap hcap2 hv hu hmx
  by_cases h0 : x.length = y.length
  · have hb : ((x.length : Int) != (y.length : Int)) = false := by simp [h0]
    have H0 := Hd.mk h0
    clear h0
    go_enter Try.func15, Try.ntmps15
    go_wp2
    go_loopw [5] (fun i wr => ∃ k : Nat, k ≤ x.length ∧ i = .int .i64 k ∧ Hd (x.take k = y.take k) ∧ Dr w wr) (fun i _ => x.length - (intOf i).toNat)
    case atStart => exact ⟨0, Nat.zero_le _, rfl, ⟨by simp⟩, Dr.refl _⟩
    case round =>
      obtain ⟨k, hk, rfl, hf, hD⟩ := hrel
      by_cases hlt : k < x.length
      · have hlt2 : k < y.length := by have := H0.out; omega
        obtain ⟨b, off, p, rfl, hcell0, hp0⟩ := HC.out k hlt
        obtain ⟨b2, off2, q, rfl, hcell20, hq0⟩ := HC2.out k hlt2
        have hcell := (hD.cell _).trans hcell0
        have hcell2 := (hD.cell _).trans hcell20
        have hp := Hd.mk (hD.rdI hp0)
        have hq := Hd.mk (hD.rdI hq0)
        clear hcell0 hcell20 hp0 hq0
        have hki : (k : Int) < (x.length : Int) := by omega
        have hki2 : (k : Int) < (y.length : Int) := by omega
        have hk0 : (0 : Int) ≤ (k : Int) := by omega
        have hlen := Hd.mk (show (x[k].length : Int) ≤ 140737488355328 by have := HM.out _ (List.getElem_mem hlt); omega)
        by_cases he : x[k] = y[k]
        · have hf' := Hd.mk (eq_take_succL H0.out hlt hf.out he)
          have he' := Hd.mk he
          clear he
          go_wp2_with fail
          go_quiet ((go_at_call 20; exact Calls.qd (eqInts_is _ _ _ _ _ (by exact hp.out) (by exact hq.out) hlen.out true (decide_eq_true he'.out))))
          go_wp2
          go_roundw
          case rel => exact ⟨k + 1, by omega, by go_num, hf', hD.step _⟩
          case measure => simp [intOf]; omega
        · have he' := Hd.mk he
          clear he
          go_wp2_with fail
          go_quiet ((go_at_call 20; exact Calls.qd (eqInts_is _ _ _ _ _ (by exact hp.out) (by exact hq.out) hlen.out false (decide_eq_false he'.out))))
          go_wp2
          go_ret
          refine ⟨?_, hD.step _⟩
          rw [show decide (x = y) = false from decide_eq_false (fun h => he'.out (by subst h; rfl))]
          rfl
      · go_wp2
        go_ret
        refine ⟨?_, hD⟩
        have h1 : k = x.length := by omega
        have h2 := hf.out
        rw [List.take_of_length_le (by omega), List.take_of_length_le (by have := H0.out; omega)] at h2
        rw [decide_eq_true h2]
        rfl
  · have hb : ((x.length : Int) != (y.length : Int)) = true := by rw [bne_iff_ne]; omega
    have hr := Hd.mk (show decide (x = y) = false from decide_eq_false (fun h => h0 (by rw [h])))
    clear h0
    go_enter Try.func15, Try.ntmps15
    go_wp2
    go_ret
    exact ⟨by rw [hr.out]; rfl, Dr.refl _⟩

/-- law02.Small. -/
def smallB (css : List (List Int)) : Bool := (css.take 60).all (fun c => decide (c.length ≤ 40)) && decide (css.length ≤ 60)

theorem all_take_succ {p : List Int → Bool} {c : List (List Int)} {k : Nat} (hk : k < c.length) : (c.take (k + 1)).all p = ((c.take k).all p && p c[k]) := by
  rw [List.take_succ_eq_append_getElem hk, List.all_append]; simp

set_option maxHeartbeats 1000000 in
theorem small_any (n : Int) (v : Value) (css : List (List Int)) (w : World) (hr : RdL w v css) (hmax : (css.length : Int) ≤ 140737488355328) (hmx : ∀ c ∈ css, (c.length : Int) ≤ 140737488355328) :
    Calls Try.prog 21 #[.agg #[.int .i64 n, v]] w fun e w' => e = .returned (.bool (smallB css)) ∧ Below w.heap.size w w' := by
  have hB := Hd.mk ((Below.refl w.heap.size w).alloc (Nat.le_refl _) (.cells #[.int .i64 n, v] 25))
  have hrb := hr.below hB.out
  obtain ⟨a, cap, rfl, hcap, hcell⟩ := hrb.shape
  have HC := Hd.mk hcell
  have HM := Hd.mk hmx
  clear hcell hr hrb hcap hmx
  go_enter Try.func21, Try.ntmps21
  go_wp2
  go_loop [3] (fun i => ∃ k : Nat, k ≤ css.length ∧ k ≤ 60 ∧ i = .int .i64 k ∧ Hd ((css.take k).all (fun c => decide (c.length ≤ 40)) = true)) (fun i => css.length - (intOf i).toNat)
  case atStart => exact ⟨0, Nat.zero_le _, by omega, rfl, ⟨by simp⟩⟩
  case round =>
    obtain ⟨k, hk, hk60, rfl, hf⟩ := hrel
    by_cases hlt : k < css.length ∧ k < 60
    · obtain ⟨hlt, hlt60⟩ := hlt
      obtain ⟨b, off, u, rfl, hcell, hu0⟩ := HC.out k hlt
      obtain ⟨a2, cap2, rfl, _, _⟩ := hu0.shape
      clear hu0
      have hs := Hd.mk (all_take_succ (p := fun c => decide (c.length ≤ 40)) hlt)
      have hlen := HM.out _ (List.getElem_mem hlt)
      by_cases h40 : (css[k].length : Int) > 40
      · have hr := Hd.mk (show smallB css = false by
          have : (css.take 60).all (fun c => decide (c.length ≤ 40)) = false := by
            rw [List.all_eq_false]
            exact ⟨css[k], List.mem_take_iff_getElem.2 ⟨k, by omega, rfl⟩, by simp; omega⟩
          rw [smallB, this, Bool.false_and])
        go_wp2
        go_ret
        exact ⟨by rw [hr.out]; rfl, hB.out⟩
      · go_wp2
        go_round
        case rel => exact ⟨k + 1, by omega, by omega, by go_num, ⟨by rw [hs.out, hf.out]; simp; omega⟩⟩
        case measure => simp [intOf]; omega
    · by_cases hl : k < css.length
      · have hl60 : ¬ (k : Int) < 60 := by omega
        have hr := Hd.mk (show smallB css = false by rw [smallB, decide_eq_false (show ¬ css.length ≤ 60 by omega), Bool.and_false])
        have hgt : ¬ (css.length : Int) ≤ 60 := by omega
        clear hlt
        go_wp2
        go_ret
        exact ⟨by rw [hr.out]; simp, hB.out⟩
      · have hr := Hd.mk (show smallB css = decide ((css.length : Int) ≤ 60) by
          have h := hf.out
          rw [List.take_of_length_le (by omega)] at h
          rw [smallB, List.take_of_length_le (by omega), h, Bool.true_and]
          congr 1
          exact propext ⟨fun h => by omega, fun h => by omega⟩)
        clear hlt
        go_wp2
        go_ret
        exact ⟨by rw [hr.out]; simp, hB.out⟩

end Go.Proofs.Ytneibkemhmneoaa
