/- Contracts: the reference's check of a formula; equality and copies of lists; negatives. -/
import Derived.Test.YtneibkemhmneoaaW2
namespace Go.Proofs.Ytneibkemhmneoaa
set_option linter.unusedVariables false
set_option linter.unusedSimpArgs false
open Go.RowKit

theorem Calls.qs {P : Program} {f : FuncId} {args : Array Value} {w : World} {n : Nat} {v : Value}
    (h : Calls P f args (w.drewN n) fun e w' => e = .returned v ∧ w.drewN n = w') : Calls P f args (w.drewN n) fun e w'' => e = .returned v ∧ ∃ m, w'' = w.drewN m :=
  h.mono fun _ _ ⟨he, hm⟩ => ⟨he, n, hm.symm⟩

/-- The same heap, some draws later. -/
structure Dr (w w' : World) : Prop where mk :: (out : ∃ n, w' = w.drewN n)
theorem Dr.refl (w : World) : Dr w w := ⟨0, rfl⟩
theorem Dr.step {w w' : World} (h : Dr w w') (n : Nat) : Dr w (w'.drewN n) := by obtain ⟨m, rfl⟩ := h; exact ⟨m + n, by simp⟩
theorem Dr.drew {w w' : World} (h : Dr w w') : Dr w w'.drew := h.step 1
theorem Dr.trans {w w' w'' : World} (h : Dr w w') (k : Dr w' w'') : Dr w w'' := by obtain ⟨m, rfl⟩ := k; exact h.step m
theorem Dr.cell {w w' : World} (h : Dr w w') (a : Addr) : w'.cell? a = w.cell? a := by obtain ⟨m, rfl⟩ := h; rfl
theorem Dr.heap {w w' : World} (h : Dr w w') : w'.heap = w.heap := by obtain ⟨m, rfl⟩ := h; rfl
theorem Dr.rd {w w' : World} {v : Value} {xs : List Value} (h : Dr w w') (r : Rd w v xs) : Rd w' v xs := by obtain ⟨m, rfl⟩ := h; exact r
theorem Dr.rdI {w w' : World} {v : Value} {xs : List Int} (h : Dr w w') (r : RdI w v xs) : RdI w' v xs := h.rd r
theorem Dr.below {w w' : World} (h : Dr w w') : Below w.heap.size w w' := by obtain ⟨m, rfl⟩ := h; exact ⟨rfl, rfl, rfl, Nat.le_refl _, fun _ _ => rfl⟩
theorem Dr.st {W w w' : World} {l : List As} (h : Dr w w') (s : St W w l) : St W w' l := s.quiet h.below
theorem Dr.belows {w0 w w' : World} {B : Nat} (h : Dr w w') (b : Below B w0 w) : Below B w0 w' := by obtain ⟨m, rfl⟩ := h; exact ⟨b.os, b.tape, b.output, b.size, b.block⟩

theorem below_drewN {B : Nat} {a w : World} (h : Below B a w) (n : Nat) : Below B a (w.drewN n) := ⟨h.os, h.tape, h.output, h.size, h.block⟩

set_option maxHeartbeats 1000000 in
theorem rccheck_any (n : Int) (v : Value) (css : List (List Int)) (w : World) (hn : In64 n) (hr : RdL w v css) (hc : InL css) :
    Calls Try.prog 36 #[.agg #[.int .i64 n, v]] w fun e w' => e = .returned (.int .i64 (cnfCheck n css)) ∧ Below w.heap.size w w' := by
  have hB := Hd.mk ((Below.refl w.heap.size w).alloc (Nat.le_refl _) (.cells #[.int .i64 n, v] 25))
  have hrb := hr.below hB.out
  obtain ⟨a, cap, rfl, hcap, hcell⟩ := hrb.shape
  have HC := Hd.mk hcell
  clear hcell hr hrb hcap
  by_cases h1 : n < 0
  · have hR := Hd.mk (show cnfCheck n css = 3 by simp [cnfCheck, h1])
    go_enter Try.func36, Try.ntmps36
    go_wp2
    go_ret
    exact ⟨by rw [hR.out]; rfl, hB.out⟩
  by_cases h2 : n > 1048576
  · have hR := Hd.mk (show cnfCheck n css = 3 by simp [cnfCheck, h2])
    go_enter Try.func36, Try.ntmps36
    go_wp2
    go_ret
    exact ⟨by rw [hR.out]; rfl, hB.out⟩
  have h1' : 0 ≤ n := by omega
  have h2' : n ≤ 1048576 := by omega
  by_cases h3 : (css.length : Int) > 1048576
  · have hR := Hd.mk (show cnfCheck n css = 5 by simp [cnfCheck, h1, h2, show css.length > 1048576 by omega])
    go_enter Try.func36, Try.ntmps36
    go_wp2
    go_ret
    exact ⟨by rw [hR.out]; rfl, hB.out⟩
  have h3' : (css.length : Int) ≤ 1048576 := by omega
  have hR := Hd.mk (show cnfCheck n css = firstErr n css by simp [cnfCheck, h1, h2, show ¬ css.length > 1048576 by omega])
  have HI := Hd.mk hc
  have HN := Hd.mk hn
  clear hc h1 h2 h3 hn
  go_enter Try.func36, Try.ntmps36
  go_wp2
  go_loopw [3] (fun i wr => ∃ k : Nat, k ≤ css.length ∧ i = .int .i64 k ∧ Hd (firstErr n css = firstErr n (css.drop k)) ∧ Dr (w.alloc (.cells #[.int .i64 n, .slice a css.length cap] 25)) wr) (fun i _ => css.length - (intOf i).toNat)
  case atStart => exact ⟨0, Nat.zero_le _, rfl, ⟨by simp⟩, Dr.refl _⟩
  case round =>
    obtain ⟨k, hk, rfl, hf, hD⟩ := hrel
    have c0 : wr.cell? ⟨w.heap.size, 0, none⟩ = some (.int .i64 n) := by rw [hD.cell]; simp
    have c1 : wr.cell? ⟨w.heap.size, 1, none⟩ = some (.slice a css.length cap) := by rw [hD.cell]; simp
    by_cases hlt : k < css.length
    · obtain ⟨b, off, u, rfl, hcell0, hu0⟩ := HC.out k hlt
      have hcell := (hD.cell _).trans hcell0
      have hu := hD.rdI hu0
      clear hcell0 hu0
      have hin : ∀ x ∈ css[k], In64 x := HI.out _ (List.getElem_mem hlt)
      have hd := Hd.mk (firstErr_drop (n := n) hlt)
      have hu' := Hd.mk hu
      have hki : (k : Int) < (css.length : Int) := by omega
      have hk0 : (0 : Int) ≤ (k : Int) := by omega
      clear hu
      by_cases he : litCheck n css[k] = 0
      · have hg : (litCheck n css[k] != 0) = false := by simp [he]
        have he' := Hd.mk he
        clear he
        go_wp2_with fail
        go_quiet ((go_at_call 37; exact Calls.qs (rlcheck_any _ _ _ _ HN.out (hu'.out) hin)))
        go_wp2
        go_roundw
        case rel => exact ⟨k + 1, by omega, by go_num, ⟨by rw [hf.out, hd.out, he'.out]; simp⟩, hD.step _⟩
        case measure => simp [intOf]; omega
      · have hg : (litCheck n css[k] != 0) = true := by simp [he]
        have he' := Hd.mk he
        clear he
        go_wp2_with fail
        go_quiet ((go_at_call 37; exact Calls.qs (rlcheck_any _ _ _ _ HN.out (hu'.out) hin)))
        go_wp2
        go_ret
        refine ⟨?_, (hD.step _).belows hB.out⟩
        rw [hR.out, hf.out, hd.out, if_pos he'.out]
        rfl
    · go_wp2
      go_ret
      refine ⟨?_, hD.belows hB.out⟩
      rw [hR.out, hf.out, show css.drop k = [] from List.drop_eq_nil_of_le (by omega)]
      rfl

/-- kit.EqualInts. -/
theorem eq_take_succ {x y : List Int} {k : Nat} (h : x.length = y.length) (hx : k < x.length) (he : x.take k = y.take k) (hk : x[k] = y[k]'(by omega)) : x.take (k + 1) = y.take (k + 1) := by
  rw [List.take_succ_eq_append_getElem hx, List.take_succ_eq_append_getElem (by omega), he, hk]

set_option maxHeartbeats 1000000 in
theorem eqInts_any (v u : Value) (x y : List Int) (w : World) (hv : RdI w v x) (hu : RdI w u y) (hmax : (x.length : Int) ≤ 140737488355328) :
    Calls Try.prog 20 #[v, u] w fun e w' => e = .returned (.bool (decide (x = y))) ∧ Dr w w' := by
  obtain ⟨a, cap, rfl, hcap, hcell⟩ := hv.shape
  obtain ⟨a2, cap2, rfl, hcap2, hcell2⟩ := hu.shape
  have HC := Hd.mk hcell
  have HC2 := Hd.mk hcell2
  clear hcell hcell2 hcap hcap2 hv hu
  by_cases h0 : x.length = y.length
  · have hb : ((x.length : Int) != (y.length : Int)) = false := by simp [h0]
    have H0 := Hd.mk h0
    clear h0
    · go_enter Try.func20, Try.ntmps20
      go_wp2
      go_loopw [5] (fun i wr => ∃ k : Nat, k ≤ x.length ∧ i = .int .i64 k ∧ Hd (x.take k = y.take k) ∧ Dr w wr) (fun i _ => x.length - (intOf i).toNat)
      case atStart => exact ⟨0, Nat.zero_le _, rfl, ⟨by simp⟩, Dr.refl _⟩
      case round =>
        obtain ⟨k, hk, rfl, hf, hD⟩ := hrel
        by_cases hlt : k < x.length
        · have hlt2 : k < y.length := by have := H0.out; omega
          obtain ⟨b, off, rfl, hcell0⟩ := HC.out k hlt
          obtain ⟨b2, off2, rfl, hcell20⟩ := HC2.out k hlt2
          have hcell := (hD.cell _).trans hcell0
          have hcell2 := (hD.cell _).trans hcell20
          clear hcell0 hcell20
          have hki : (k : Int) < (x.length : Int) := by omega
          have hki2 : (k : Int) < (y.length : Int) := by omega
          have hk0 : (0 : Int) ≤ (k : Int) := by omega
          by_cases he : x[k] = y[k]
          · have hg : (x[k] != y[k]) = false := by simp [he]
            have hf' := Hd.mk (eq_take_succ H0.out hlt hf.out he)
            clear he
            go_wp2_with fail
            go_quiet (fail)
            go_wp2
            go_roundw
            case rel => exact ⟨k + 1, by omega, by go_num, hf', hD.step _⟩
            case measure => simp [intOf]; omega
          · have hg : (x[k] != y[k]) = true := by simp [he]
            have he' := Hd.mk he
            clear he
            go_wp2_with fail
            go_quiet (fail)
            go_wp2
            go_ret
            refine ⟨?_, hD.step _⟩
            rw [show decide (x = y) = false from decide_eq_false (fun h => he'.out (by subst h; rfl))]
            rfl
        · go_wp2
          go_ret
          refine ⟨?_, hD⟩
          have h1 : k = x.length := by omega
          have h2 := hf.out
          rw [List.take_of_length_le (by omega), List.take_of_length_le (by have := H0.out; omega)] at h2
          rw [decide_eq_true h2]
          rfl
  · have hb : ((x.length : Int) != (y.length : Int)) = true := by rw [bne_iff_ne]; omega
    have hr := Hd.mk (show decide (x = y) = false from decide_eq_false (fun h => h0 (by rw [h])))
    clear h0
    go_enter Try.func20, Try.ntmps20
    go_wp2
    go_ret
    exact ⟨by rw [hr.out]; rfl, Dr.refl _⟩

end Go.Proofs.Ytneibkemhmneoaa
