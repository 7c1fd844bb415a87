/- Contract: the law RupOdd. -/
import Derived.Test.YtneibkemhmneoaaLi
import Derived.Test.YtneibkemhmneoaaKx
namespace Go.Proofs.Ytneibkemhmneoaa
set_option linter.unusedVariables false
set_option linter.unusedSimpArgs false
open Go.RowKit

theorem oneRow {w : World} {a : Option Addr} {n cp : Nat} {c : List Int} (h : RdI w (.slice a n cp) c) : RdL (w.alloc (.cells #[.slice a n cp] 29)) (.slice (some ⟨w.heap.size, 0, none⟩) 1 1) [c] := by
  have h0 := (St.refl w).alloc (.cells #[.slice a n cp] 29)
  have hs := (h0.sl_of_blk (cap := 1) (xs := [.slice a n cp]) (by simp) (by unfold maxLen; simp) (by simp) (by simp)).rd
  refine ⟨_, hs, rfl, fun j u d hu hd => ?_⟩
  match j, hu, hd with
  | 0, hu, hd => simp at hu hd; subst hu; subst hd; exact h.below h0.below
  | j + 1, hu, hd => simp at hd
set_option maxRecDepth 100000 in
set_option maxHeartbeats 4000000 in
theorem rupOdd_any (n : Int) (v u : Value) (fs : List (List Int)) (asm : List Int) (w : World) (hv : RdL w v fs) (hu : RdI w u asm) (hn : In64 n) (hif : InL fs) (hmf : (fs.length : Int) ≤ 140737488355328) (hmx : ∀ c ∈ fs, (c.length : Int) ≤ 140737488355328) (hia : ∀ y ∈ asm, In64 y) :
    Calls Try.prog 9 #[.agg #[.int .i64 n, v], u] w fun e w' => e = .returned (.bool true) ∧ Below w.heap.size w w' := by
  obtain ⟨a, cap, rfl, _, _⟩ := hv.shape
  obtain ⟨a2, cap2, rfl, _, _⟩ := hu.shape
  have HST := Hd.mk ((St.refl w).alloc (.cells #[.int .i64 n, .slice a fs.length cap] 25))
  have HV := Hd.mk hv
  have HU := Hd.mk hu
  have HIA := Hd.mk hia
  have HNN := Hd.mk hn
  have HIF := Hd.mk hif
  have HMX := Hd.mk hmx
  clear hv hu hn hif hia hmx
  by_cases hs : smallB fs = true
  · have HS := Hd.mk hs
    clear hs
    by_cases hp : (20 : Int) < (asm.length : Int)
    · go_enter Try.func9, Try.ntmps9
      go_wp2_with (first
        | (go_at_call 21; go_must (refine (small_any n _ fs _ (HV.out.below HST.out.below) hmf HMX.out).mono ?_; rintro e w2 ⟨rfl, hb2⟩; rw [HS.out]; have HST2 := Hd.mk (HST.out.quiet hb2); clear hb2))
        | (go_at_call 11; refine (known_any _).mono ?_; rintro e w3 ⟨rfl, hb3⟩; have H3 := Hd.mk (HST2.out.quiet hb3); clear hb3))
      go_ret
      exact ⟨rfl, H3.out.below⟩
    · by_cases hq : (500 : Int) < n
      · go_enter Try.func9, Try.ntmps9
        go_wp2_with (first
          | (go_at_call 21; go_must (refine (small_any n _ fs _ (HV.out.below HST.out.below) hmf HMX.out).mono ?_; rintro e w2 ⟨rfl, hb2⟩; rw [HS.out]; have HST2 := Hd.mk (HST.out.quiet hb2); clear hb2; have c0 := HST2.out.cell 0; simp only [List.getElem?_toArray, List.getElem?_cons_zero, List.getElem?_cons_succ] at c0))
          | (go_at_call 11; refine (known_any _).mono ?_; rintro e w3 ⟨rfl, hb3⟩; have H3 := Hd.mk (HST2.out.quiet hb3); clear hb3))
        go_ret
        exact ⟨rfl, H3.out.below⟩
      · have hps : (asm.length : Int) ≤ 20 := by omega
        obtain ⟨rb, re, hru⟩ : ∃ rb re, iRes n fs asm = (rb, re) := ⟨_, _, rfl⟩
        have HRU := Hd.mk hru
        obtain ⟨qb, qe, hqu⟩ : ∃ qb qe, chkRes n fs [asm] = (qb, qe) := ⟨_, _, rfl⟩
        have HQU := Hd.mk hqu
        have HIP := Hd.mk (show InL [asm] from fun c hc y hy => by rw [List.mem_singleton.1 hc] at hy; exact HIA.out y hy)
        clear hru hqu
        go_enter Try.func9, Try.ntmps9
        go_wp2_with (first
          | (go_at_call 21; go_must (refine (small_any n _ fs _ (HV.out.below HST.out.below) hmf HMX.out).mono ?_; rintro e w2 ⟨rfl, hb2⟩; rw [HS.out]; have HST2 := Hd.mk (HST.out.quiet hb2); clear hb2; have c0 := HST2.out.cell 0; have c1 := HST2.out.cell 1; simp only [List.getElem?_toArray, List.getElem?_cons_zero, List.getElem?_cons_succ] at c0 c1))
          | (go_at_call 26; go_must (refine (implied_any n _ _ fs asm _ (HV.out.below HST2.out.below) (HU.out.below HST2.out.below) HNN.out HIF.out hmf HIA.out).mono ?_; rintro e w5 ⟨rfl, hb5⟩; rw [HRU.out]; have H5 := Hd.mk (HST2.out.quiet hb5); have d0 := H5.out.cell 0; have d1 := H5.out.cell 1; simp only [List.getElem?_toArray, List.getElem?_cons_zero, List.getElem?_cons_succ] at d0 d1; clear hb5))
          | (go_at_call 27; go_must (refine (rimplied_any n _ _ fs asm _ (HV.out.below H5.out.below) (HU.out.below H5.out.below) HNN.out HIF.out hmf HIA.out).mono ?_; rintro e w6 ⟨rfl, hb6⟩; rw [HRU.out]; have H6 := Hd.mk (H5.out.quiet hb6); have f0 := H6.out.cell 0; have f1 := H6.out.cell 1; simp only [List.getElem?_toArray, List.getElem?_cons_zero, List.getElem?_cons_succ] at f0 f1; clear hb6))
          | (go_at_call 13; go_must (refine (check_any n _ _ fs [asm] _ (HV.out.below (H6.out.alloc _).below) (oneRow (HU.out.below H6.out.below)) HNN.out HIF.out HIP.out hmf (by simp)).mono ?_; rintro e w7 ⟨rfl, hb7⟩; rw [HQU.out]; have H7 := Hd.mk ((H6.out.alloc _).quiet hb7); have g0 := (H7.out.p1).cell 0; have g1 := (H7.out.p1).cell 1; simp only [List.getElem?_toArray, List.getElem?_cons_zero, List.getElem?_cons_succ] at g0 g1; clear hb7))
          | (go_at_call 14; go_must (refine (rchk_any n _ _ fs [asm] _ (HV.out.below (H7.out.alloc _).below) (oneRow (HU.out.below H7.out.below)) HNN.out HIF.out HIP.out hmf (by simp)).mono ?_; rintro e w9 ⟨rfl, hb9⟩; rw [HQU.out]; have H9 := Hd.mk ((H7.out.alloc _).quiet hb9); clear hb9))
          | (go_at_call 11; refine (known_any _).mono ?_; rintro e w8 ⟨rfl, hb8⟩; have H8 := Hd.mk (H9.out.quiet hb8); clear hb8))
        go_ret
        exact ⟨rfl, H8.out.below⟩
  · have hs2 : smallB fs = false := by simpa using hs
    have HS := Hd.mk hs2
    clear hs hs2
    go_enter Try.func9, Try.ntmps9
    go_wp2_with (first
      | (go_at_call 21; go_must (refine (small_any n _ fs _ (HV.out.below HST.out.below) hmf HMX.out).mono ?_; rintro e w2 ⟨rfl, hb2⟩; rw [HS.out]; have HST2 := Hd.mk (HST.out.quiet hb2); clear hb2))
      | (go_at_call 11; refine (known_any _).mono ?_; rintro e w3 ⟨rfl, hb3⟩; have H3 := Hd.mk (HST2.out.quiet hb3); clear hb3))
    go_ret
    exact ⟨rfl, H3.out.below⟩
end Go.Proofs.Ytneibkemhmneoaa
