/- Contract: the law PropOdd. -/
import Derived.Test.YtneibkemhmneoaaLb
namespace Go.Proofs.Ytneibkemhmneoaa
set_option linter.unusedVariables false
set_option linter.unusedSimpArgs false
open Go.RowKit
set_option maxRecDepth 100000 in
set_option maxHeartbeats 4000000 in
theorem propOdd_any (n : Int) (v u : Value) (fs : List (List Int)) (asm : List Int) (w : World) (hv : RdL w v fs) (hu : RdI w u asm) (hn : In64 n) (hif : InL fs) (hmf : (fs.length : Int) ≤ 140737488355328) (hmx : ∀ c ∈ fs, (c.length : Int) ≤ 140737488355328) (hia : ∀ y ∈ asm, In64 y) :
    Calls Try.prog 5 #[.agg #[.int .i64 n, v], u] w fun e w' => e = .returned (.bool true) ∧ Below w.heap.size w w' := by
  obtain ⟨a, cap, rfl, _, _⟩ := hv.shape
  obtain ⟨a2, cap2, rfl, _, _⟩ := hu.shape
  have HST := Hd.mk ((St.refl w).alloc (.cells #[.int .i64 n, .slice a fs.length cap] 25))
  have HV := Hd.mk hv
  have HU := Hd.mk hu
  have HIA := Hd.mk hia
  have HNN := Hd.mk hn
  have HIF := Hd.mk hif
  have HMX := Hd.mk hmx
  clear hv hu hn hif hia hmx
  by_cases hs : smallB fs = true
  · have HS := Hd.mk hs
    clear hs
    by_cases hp : (20 : Int) < (asm.length : Int)
    · go_enter Try.func5, Try.ntmps5
      go_wp2_with (first
        | (go_at_call 21; go_must (refine (small_any n _ fs _ (HV.out.below HST.out.below) hmf HMX.out).mono ?_; rintro e w2 ⟨rfl, hb2⟩; rw [HS.out]; have HST2 := Hd.mk (HST.out.quiet hb2); clear hb2))
        | (go_at_call 16; refine (known4_any _).mono ?_; rintro e w3 ⟨rfl, hb3⟩; have H3 := Hd.mk (HST2.out.quiet hb3); clear hb3))
      go_ret
      exact ⟨rfl, H3.out.below⟩
    · by_cases hq : (500 : Int) < n
      · go_enter Try.func5, Try.ntmps5
        go_wp2_with (first
          | (go_at_call 21; go_must (refine (small_any n _ fs _ (HV.out.below HST.out.below) hmf HMX.out).mono ?_; rintro e w2 ⟨rfl, hb2⟩; rw [HS.out]; have HST2 := Hd.mk (HST.out.quiet hb2); clear hb2; have c0 := HST2.out.cell 0; simp only [List.getElem?_toArray, List.getElem?_cons_zero, List.getElem?_cons_succ] at c0))
          | (go_at_call 16; refine (known4_any _).mono ?_; rintro e w3 ⟨rfl, hb3⟩; have H3 := Hd.mk (HST2.out.quiet hb3); clear hb3))
        go_ret
        exact ⟨rfl, H3.out.below⟩
      · have hps : (asm.length : Int) ≤ 20 := by omega
        obtain ⟨rl, rb, re, hru⟩ : ∃ rl rb re, uRes n fs asm = (rl, rb, re) := ⟨_, _, _, rfl⟩
        have HRL := Hd.mk (show (rl.length : Int) ≤ 140737488355328 by have := uRes_len n fs asm; rw [hru] at this; exact this)
        have HRU := Hd.mk hru
        clear hru
        go_enter Try.func5, Try.ntmps5
        go_wp2_with (first
          | (go_at_call 21; go_must (refine (small_any n _ fs _ (HV.out.below HST.out.below) hmf HMX.out).mono ?_; rintro e w2 ⟨rfl, hb2⟩; rw [HS.out]; have HST2 := Hd.mk (HST.out.quiet hb2); clear hb2; have c0 := HST2.out.cell 0; have c1 := HST2.out.cell 1; simp only [List.getElem?_toArray, List.getElem?_cons_zero, List.getElem?_cons_succ] at c0 c1))
          | (go_at_call 17; go_must (refine (units_val n _ _ fs asm _ (HV.out.below HST2.out.below) (HU.out.below HST2.out.below) HNN.out HIF.out HIA.out hmf (by omega)).mono ?_; rintro e w5 ⟨a8, n8, c8, rfl, hst5⟩; rw [HRU.out] at hst5 ⊢; have H5 := Hd.mk (HST2.out.call hst5); have d0 := (H5.out.pick 1 rfl).cell 0; have d1 := (H5.out.pick 1 rfl).cell 1; simp only [List.getElem?_toArray, List.getElem?_cons_zero, List.getElem?_cons_succ] at d0 d1; clear hst5))
          | (go_at_call 19; go_must (refine (runits_val n _ _ fs asm _ (HV.out.below H5.out.below) (HU.out.below H5.out.below) HNN.out HIF.out HIA.out hmf (by omega)).mono ?_; rintro e w6 ⟨a9, n9, c9, rfl, hst6⟩; rw [HRU.out] at hst6 ⊢; have H6 := Hd.mk (H5.out.call hst6); clear hst6))
          | (go_at_call 20; go_must (refine (eqInts_is _ _ rl rl _ (H6.out.pick 1 rfl).rd H6.out.rd HRL.out true (by simp)).mono ?_; rintro e w7 ⟨rfl, hd⟩; have H7 := Hd.mk (hd.st H6.out); clear hd))
          | (go_at_call 16; refine (known4_any _).mono ?_; rintro e w8 ⟨rfl, hb8⟩; have H8 := Hd.mk (H7.out.quiet hb8); clear hb8))
        go_ret
        exact ⟨rfl, H8.out.below⟩
  · have hs2 : smallB fs = false := by simpa using hs
    have HS := Hd.mk hs2
    clear hs hs2
    go_enter Try.func5, Try.ntmps5
    go_wp2_with (first
      | (go_at_call 21; go_must (refine (small_any n _ fs _ (HV.out.below HST.out.below) hmf HMX.out).mono ?_; rintro e w2 ⟨rfl, hb2⟩; rw [HS.out]; have HST2 := Hd.mk (HST.out.quiet hb2); clear hb2))
      | (go_at_call 16; refine (known4_any _).mono ?_; rintro e w3 ⟨rfl, hb3⟩; have H3 := Hd.mk (HST2.out.quiet hb3); clear hb3))
    go_ret
    exact ⟨rfl, H3.out.below⟩
end Go.Proofs.Ytneibkemhmneoaa
