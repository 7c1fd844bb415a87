/- Contracts: Implied, the program's and the reference's. -/
import Derived.Test.YtneibkemhmneoaaLb
namespace Go.Proofs.Ytneibkemhmneoaa
set_option linter.unusedVariables false
set_option linter.unusedSimpArgs false
open Go.RowKit

theorem iRes_cnf {n : Int} {fs : List (List Int)} {c : List Int} (h : cnfCheck n fs ≠ 0) : iRes n fs c = (false, cnfCheck n fs) := by unfold iRes; rw [if_pos h]
theorem iRes_lit {n : Int} {fs : List (List Int)} {c : List Int} (h : cnfCheck n fs = 0) (h2 : litCheck n c ≠ 0) : iRes n fs c = (false, litCheck n c) := by unfold iRes; rw [if_neg (by simp [h]), if_pos h2]
theorem iRes_ok {n : Int} {fs : List (List Int)} {c : List Int} (h : cnfCheck n fs = 0) (h2 : litCheck n c = 0) : iRes n fs c = (badB fs (c.map (- ·)), 0) := by unfold iRes; rw [if_neg (by simp [h]), if_neg (by simp [h2])]

theorem neg_in {c : List Int} {n : Int} (h : litCheck n c = 0) : ∀ y ∈ c.map (- ·), In64 y := fun y hy => by
  obtain ⟨h1, h2, _, h3⟩ := litCheck_ok h
  obtain ⟨b, hb, rfl⟩ := List.mem_map.1 hy
  have := h3 b hb
  exact ⟨by omega, by omega⟩

section
variable (n : Int) (v u : Value) (fs : List (List Int)) (c : List Int) (w : World)
set_option maxRecDepth 100000 in
set_option maxHeartbeats 4000000 in
theorem implied_any (hv : RdL w v fs) (hu : RdI w u c) (hn : In64 n) (hif : InL fs) (hmf : (fs.length : Int) ≤ 140737488355328) (hic : ∀ y ∈ c, In64 y) :
    Calls Try.prog 26 #[.agg #[.int .i64 n, v], u] w fun e w' => e = .returned (.tuple #[.bool (iRes n fs c).1, .int .i64 (iRes n fs c).2]) ∧ Below w.heap.size w w' := by
  obtain ⟨a, cap, rfl, _, _⟩ := hv.shape
  obtain ⟨a2, cap2, rfl, _, hcell2⟩ := hu.shape
  have HST := Hd.mk ((St.refl w).alloc (.cells #[.int .i64 n, .slice a fs.length cap] 25))
  have HC2 := Hd.mk hcell2
  have HV := Hd.mk hv
  have HU := Hd.mk hu
  have HIC := Hd.mk hic
  have HNN := Hd.mk hn
  have HIF := Hd.mk hif
  clear hv hu hn hif hic hcell2
  by_cases h1 : cnfCheck n fs = 0
  · have hb : (cnfCheck n fs != 0) = false := by simp [h1]
    by_cases h2 : litCheck n c = 0
    · have hb2 : (litCheck n c != 0) = false := by simp [h2]
      have HR := Hd.mk (iRes_ok h1 h2)
      have HL := Hd.mk (litCheck_ok h2)
      have HNG := Hd.mk (neg_in h2)
      have HUR := Hd.mk (uRes_neg h1 h2)
      obtain ⟨rl, rb, re, hru⟩ : ∃ rl rb re, uRes n fs (c.map (- ·)) = (rl, rb, re) := ⟨_, _, _, rfl⟩
      have HRU := Hd.mk hru
      have HRB := Hd.mk (show (rb, re) = (badB fs (c.map (- ·)), 0) by have := HUR.out; rw [hru] at this; exact this)
      have hcl : (c.length : Int) ≤ 4096 := by have := (litCheck_ok h2).2.2.1; omega
      clear h1 h2 hru
      go_enter Try.func26, Try.ntmps26
      go_wp2_with (first
        | (go_at_call 29; go_must (refine (ccheck_any _ _ _ _ HNN.out (HV.out.below HST.out.below) HIF.out).mono ?_; rintro e w2 ⟨rfl, hb2⟩; have HST2 := Hd.mk (HST.out.quiet hb2); clear hb2; have c0 := HST2.out.cell 0; have c1 := HST2.out.cell 1; simp only [List.getElem?_toArray, List.getElem?_cons_zero, List.getElem?_cons_succ] at c0 c1))
        | (go_at_call 30; go_must (refine (lcheck_any _ _ _ _ HNN.out (HU.out.below HST2.out.below) HIC.out).mono ?_; rintro e w3 ⟨rfl, rfl⟩))
        | (at_make; go_must (refine wpList_make1 rfl _ _ 29 rfl 3 (.int .i64 0) 8 Try.underlying29 info3 (by decide) .i64 .i64 _ c.length rfl rfl rfl (by omega) _ HST2.out ?_); intro w4 hst4; have HST4 := Hd.mk hst4; clear hst4))
      have HS0 := Hd.mk (show St w w4 [Sl 3 (.slice (some ⟨w2.heap.size, 0, none⟩) 0 c.length) (ints ((c.take 0).map (- ·))), Blk w.heap.size (.cells #[.int .i64 n, .slice a fs.length cap] 25 (0, 0))] from HST4.out)
      clear HST4 HST2 HST c0 c1
      go_loopw [8, 31] (fun ov iv wr => ∃ ax nn cx, ∃ k : Nat, k ≤ c.length ∧ ov = .slice ax nn cx ∧ iv = .int .i64 k ∧ Hd (St w wr [Sl 3 (.slice ax nn cx) (ints ((c.take k).map (- ·))), Blk w.heap.size (.cells #[.int .i64 n, .slice a fs.length cap] 25 (0, 0))])) (fun _ iv _ => c.length - (intOf iv).toNat)
      case atStart => exact ⟨_, _, _, 0, Nat.zero_le _, rfl, rfl, HS0⟩
      case round =>
        obtain ⟨ax, nn, cx, k, hk, rfl, rfl, hs⟩ := hrel
        clear HS0
        by_cases hlt : k < c.length
        · obtain ⟨b, off, rfl, hcell0⟩ := HC2.out k hlt
          have hcell := (hs.out.below.cell (World.block_lt_of_cell? w _ hcell0)).trans hcell0
          have hyb := HL.out.2.2.2 _ (List.getElem_mem hlt)
          have HTS := Hd.mk (show ints ((c.take (k + 1)).map (- ·)) = ints ((c.take k).map (- ·)) ++ [.int .i64 (-c[k])] by rw [take_succ_get hlt, List.map_append]; simp only [ints, List.map_append, List.map_cons, List.map_nil])
          have HLEN := Hd.mk (show (ints ((c.take k).map (- ·))).length < 1099511627776 by simp [ints]; omega)
          have hki : (k : Int) < (c.length : Int) := by omega
          have hk0 : (0 : Int) ≤ (k : Int) := by omega
          have hn1 : n ≤ 1048576 := HL.out.2.1
          generalize c[k] = y at *
          obtain ⟨_, hy1, hy2⟩ := hyb
          clear hcell0
          go_wp2_with (first
            | (at_builtin; go_must (refine wpList_append1 rfl _ _ 29 rfl 3 (.int .i64 0) 8 Try.underlying29 info3 rfl (by decide) _ _ _ rfl ((hs.out.alloc _).p1) _ _ (.int .i64 (-y)) rfl (by simp) rfl HLEN.out ?_); intro v9 w9 hst9; obtain ⟨a9, n9, c9, rfl⟩ := hst9.shape; have HST9 := Hd.mk (hst9.p1.drop); clear hst9))
          go_roundw
          case rel => exact ⟨_, _, _, k + 1, by omega, rfl, by go_num, ⟨by rw [HTS.out]; exact HST9.out⟩⟩
          case measure => simp [intOf]; omega
        · have hkI : ¬ (k : Int) < (c.length : Int) := by omega
          have HS := Hd.mk (show St w wr [Sl 3 (.slice ax nn cx) (ints (c.map (- ·))), Blk w.heap.size (.cells #[.int .i64 n, .slice a fs.length cap] 25 (0, 0))] from by
            have h := hs.out
            rw [List.take_of_length_le (by omega)] at h
            exact h)
          have c0 := hs.out.p1.cell 0
          have c1 := hs.out.p1.cell 1
          simp only [List.getElem?_toArray, List.getElem?_cons_zero, List.getElem?_cons_succ] at c0 c1
          clear hs
          go_wp2_with (first
            | (go_at_call 17; go_must (refine (units_val n _ _ fs (c.map (- ·)) _ (HV.out.below HS.out.below) HS.out.rd HNN.out HIF.out HNG.out hmf (by simp; omega)).mono ?_; rintro e w5 ⟨a8, n8, c8, rfl, hst5⟩; rw [HRU.out] at hst5 ⊢; have H5 := Hd.mk (HS.out.call hst5); clear hst5)))
          go_ret2
          refine ⟨?_, H5.out.below⟩
          rw [HR.out, ← HRB.out]
          rfl
    · have hb2 : (litCheck n c != 0) = true := by simp [h2]
      have HR := Hd.mk (iRes_lit h1 h2)
      clear h1 h2
      go_enter Try.func26, Try.ntmps26
      go_wp2_with (first
        | (go_at_call 29; go_must (refine (ccheck_any _ _ _ _ HNN.out (HV.out.below HST.out.below) HIF.out).mono ?_; rintro e w2 ⟨rfl, hb2⟩; have HST2 := Hd.mk (HST.out.quiet hb2); clear hb2; have c0 := HST2.out.cell 0; simp only [List.getElem?_toArray, List.getElem?_cons_zero, List.getElem?_cons_succ] at c0))
        | (go_at_call 30; go_must (refine (lcheck_any _ _ _ _ HNN.out (HU.out.below HST2.out.below) HIC.out).mono ?_; rintro e w3 ⟨rfl, rfl⟩)))
      go_ret2
      exact ⟨by rw [HR.out]; rfl, HST2.out.below⟩
  · have hb : (cnfCheck n fs != 0) = true := by simp [h1]
    have HR := Hd.mk (iRes_cnf (c := c) h1)
    clear h1
    go_enter Try.func26, Try.ntmps26
    go_wp2_with (first
      | (go_at_call 29; go_must (refine (ccheck_any _ _ _ _ HNN.out (HV.out.below HST.out.below) HIF.out).mono ?_; rintro e w2 ⟨rfl, hb2⟩; have HST2 := Hd.mk (HST.out.quiet hb2); clear hb2)))
    go_ret2
    exact ⟨by rw [HR.out]; rfl, HST2.out.below⟩

set_option maxRecDepth 100000 in
set_option maxHeartbeats 4000000 in
theorem rimplied_any (hv : RdL w v fs) (hu : RdI w u c) (hn : In64 n) (hif : InL fs) (hmf : (fs.length : Int) ≤ 140737488355328) (hic : ∀ y ∈ c, In64 y) :
    Calls Try.prog 27 #[.agg #[.int .i64 n, v], u] w fun e w' => e = .returned (.tuple #[.bool (iRes n fs c).1, .int .i64 (iRes n fs c).2]) ∧ Below w.heap.size w w' := by
  obtain ⟨a, cap, rfl, _, _⟩ := hv.shape
  obtain ⟨a2, cap2, rfl, _, _⟩ := hu.shape
  have HST := Hd.mk ((St.refl w).alloc (.cells #[.int .i64 n, .slice a fs.length cap] 25))
  have HV := Hd.mk hv
  have HU := Hd.mk hu
  have HIC := Hd.mk hic
  have HNN := Hd.mk hn
  have HIF := Hd.mk hif
  clear hv hu hn hif hic
  by_cases h1 : cnfCheck n fs = 0
  · have hb : (cnfCheck n fs != 0) = false := by simp [h1]
    by_cases h2 : litCheck n c = 0
    · have hb2 : (litCheck n c != 0) = false := by simp [h2]
      have HR := Hd.mk (iRes_ok h1 h2)
      have HNG := Hd.mk (neg_in h2)
      have HUR := Hd.mk (uRes_neg h1 h2)
      obtain ⟨rl, rb, re, hru⟩ : ∃ rl rb re, uRes n fs (c.map (- ·)) = (rl, rb, re) := ⟨_, _, _, rfl⟩
      have HRU := Hd.mk hru
      have HRB := Hd.mk (show (rb, re) = (badB fs (c.map (- ·)), 0) by have := HUR.out; rw [hru] at this; exact this)
      have hcl : (c.length : Int) ≤ 4096 := by have := (litCheck_ok h2).2.2.1; omega
      have HLC := Hd.mk (lits_of_check h2)
      clear h1 h2 hru
      go_enter Try.func27, Try.ntmps27
      go_wp2_with (first
        | (go_at_call 36; go_must (refine (rccheck_any _ _ _ _ HNN.out (HV.out.below HST.out.below) HIF.out).mono ?_; rintro e w2 ⟨rfl, hb2⟩; have HST2 := Hd.mk (HST.out.quiet hb2); clear hb2; have c0 := HST2.out.cell 0; have c1 := HST2.out.cell 1; simp only [List.getElem?_toArray, List.getElem?_cons_zero, List.getElem?_cons_succ] at c0 c1))
        | (go_at_call 37; go_must (refine (rlcheck_any _ _ _ _ HNN.out (HU.out.below HST2.out.below) HIC.out).mono ?_; rintro e w3 ⟨rfl, rfl⟩)))
      have hs0 : w2.drew.cell? ⟨w.heap.size, 0, none⟩ = some (.int .i64 n) ∧ w2.drew.cell? ⟨w.heap.size, 1, none⟩ = some (.slice a fs.length cap) := ⟨c0, c1⟩
      go_region_held3 (fun w' => w'.cell? ⟨w.heap.size, 0, none⟩ = some (.int .i64 n) ∧ w'.cell? ⟨w.heap.size, 1, none⟩ = some (.slice a fs.length cap)) (first | exact hs0 | exact hs1 | exact hs2)
        (first
          | (go_at_call 39; go_must (refine (negatives_any _ c _ (HU.out.below HST2.out.drew.below) (by omega) (fun y hy => by have h := (HLC.out y hy).1; exact ⟨by have := h.1; omega, by have := h.2; omega⟩)).mono ?_; rintro e w4 ⟨v4, rfl, hst4⟩); obtain ⟨a4, n4, c4, rfl⟩ := hst4.shape; have H4 := Hd.mk (HST2.out.drew.call hst4); have hs1 : w4.cell? ⟨w.heap.size, 0, none⟩ = some (.int .i64 n) ∧ w4.cell? ⟨w.heap.size, 1, none⟩ = some (.slice a fs.length cap) := ⟨(H4.out.pick 1 rfl).cell 0, (H4.out.pick 1 rfl).cell 1⟩; clear hst4)
          | (go_at_call 19; go_must (refine (runits_val n _ _ fs (c.map (- ·)) _ (HV.out.below H4.out.below) H4.out.rd HNN.out HIF.out HNG.out hmf (by simp; omega)).mono ?_; rintro e w5 ⟨a8, n8, c8, rfl, hst5⟩; rw [HRU.out] at hst5 ⊢); have H5 := Hd.mk (H4.out.call hst5); have hs2 : w5.cell? ⟨w.heap.size, 0, none⟩ = some (.int .i64 n) ∧ w5.cell? ⟨w.heap.size, 1, none⟩ = some (.slice a fs.length cap) := ⟨(H5.out.pick 2 rfl).cell 0, (H5.out.pick 2 rfl).cell 1⟩; clear hst5))
      clear hs0 hs1 hs2
      go_wp2
      go_ret2
      refine ⟨?_, H5.out.below⟩
      have h := HRB.out
      injection h with h3 h4
      rw [HR.out, h3]
      rfl
    · have hb2 : (litCheck n c != 0) = true := by simp [h2]
      have HR := Hd.mk (iRes_lit h1 h2)
      clear h1 h2
      go_enter Try.func27, Try.ntmps27
      go_wp2_with (first
        | (go_at_call 36; go_must (refine (rccheck_any _ _ _ _ HNN.out (HV.out.below HST.out.below) HIF.out).mono ?_; rintro e w2 ⟨rfl, hb2⟩; have HST2 := Hd.mk (HST.out.quiet hb2); clear hb2; have c0 := HST2.out.cell 0; simp only [List.getElem?_toArray, List.getElem?_cons_zero, List.getElem?_cons_succ] at c0))
        | (go_at_call 37; go_must (refine (rlcheck_any _ _ _ _ HNN.out (HU.out.below HST2.out.below) HIC.out).mono ?_; rintro e w3 ⟨rfl, rfl⟩)))
      go_ret2
      exact ⟨by rw [HR.out]; rfl, HST2.out.below⟩
  · have hb : (cnfCheck n fs != 0) = true := by simp [h1]
    have HR := Hd.mk (iRes_cnf (c := c) h1)
    clear h1
    go_enter Try.func27, Try.ntmps27
    go_wp2_with (first
      | (go_at_call 36; go_must (refine (rccheck_any _ _ _ _ HNN.out (HV.out.below HST.out.below) HIF.out).mono ?_; rintro e w2 ⟨rfl, hb2⟩; have HST2 := Hd.mk (HST.out.quiet hb2); clear hb2)))
    go_ret2
    exact ⟨by rw [HR.out]; rfl, HST2.out.below⟩
end
end Go.Proofs.Ytneibkemhmneoaa
