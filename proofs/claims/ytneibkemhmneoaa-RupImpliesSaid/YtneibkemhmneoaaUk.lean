/- The known example of the laws on Units: contracts of three, units, known. -/
import Derived.Test.YtneibkemhmneoaaUv
namespace Go.Proofs.Ytneibkemhmneoaa
set_option linter.unusedVariables false
set_option linter.unusedSimpArgs false
open Go.RowKit

def threeC : List (List Int) := [[1, 2], [-1, 3], [-2, -3]]

set_option maxRecDepth 8000 in
theorem three_any (w : World) : Calls Try.prog 41 #[] w fun e w' => ∃ v, e = .returned (.agg #[.int .i64 3, v]) ∧ RdL w' v threeC ∧ Below w.heap.size w w' := by
  go_enter Try.func41, Try.ntmps41
  go_wp2
  generalize hb : w.heap.size = b at *
  have h0 := ((((((St.refl w).alloc (.cells #[.int .i64 3, .slice (some ⟨b + 1 + 1 + 1 + 1, 0, none⟩) 3 3] 25)).alloc (.cells #[.int .i64 1, .int .i64 2] 3)).alloc (.cells #[.int .i64 (-1), .int .i64 3] 3)).alloc (.cells #[.int .i64 (-2), .int .i64 (-3)] 3)).alloc (.cells #[.slice (some ⟨b + 1, 0, none⟩) 2 2, .slice (some ⟨b + 1 + 1, 0, none⟩) 2 2, .slice (some ⟨b + 1 + 1 + 1, 0, none⟩) 2 2] 29))
  simp [hb] at h0
  have hbel := h0.below
  have c0 := (h0.pick 4 rfl).cell 0
  have c1 := (h0.pick 4 rfl).cell 1
  simp only [List.getElem?_toArray, List.getElem?_cons_zero, List.getElem?_cons_succ] at c0 c1
  have hs := (h0.sl_of_blk (cap := 3) (xs := [.slice (some ⟨b + 1, 0, none⟩) 2 2, .slice (some ⟨b + 1 + 1, 0, none⟩) 2 2, .slice (some ⟨b + 1 + 1 + 1, 0, none⟩) 2 2]) (by simp) (by unfold maxLen; simp) (by simp) (by simp)).rd
  have r1 := ((h0.pick 3 rfl).sl_of_blk (cap := 2) (xs := ints [1, 2]) (by simp [ints]) (by unfold maxLen; simp) (by simp) (by simp [ints])).rd
  have r2 := ((h0.pick 2 rfl).sl_of_blk (cap := 2) (xs := ints [-1, 3]) (by simp [ints]) (by unfold maxLen; simp) (by simp) (by simp [ints])).rd
  have r3 := ((h0.pick 1 rfl).sl_of_blk (cap := 2) (xs := ints [-2, -3]) (by simp [ints]) (by unfold maxLen; simp) (by simp) (by simp [ints])).rd
  refine bodyPost_ret (v := .agg #[.int .i64 3, .slice (some ⟨b + 1 + 1 + 1 + 1, 0, none⟩) 3 3]) (by simp [results, Try.results41, go_sem, c0, c1]) rfl ⟨_, rfl, ⟨_, hs, rfl, fun j u c hu hc => ?_⟩, hb ▸ hbel⟩
  match j, hu, hc with
  | 0, hu, hc => simp [threeC] at hu hc; subst hu; subst hc; exact r1
  | 1, hu, hc => simp [threeC] at hu hc; subst hu; subst hc; exact r2
  | 2, hu, hc => simp [threeC] at hu hc; subst hu; subst hc; exact r3
  | j + 3, hu, hc => simp [threeC] at hc

theorem three_closed : Closed threeC [1] (fun x => x ∈ [1, -2, 3]) where
  asm := by simp
  cons x h := by
    simp at h
    rcases h with rfl | rfl | rfl <;> decide
  unit := by
    intro c hc x hx hall
    simp [threeC] at hc
    rcases hc with rfl | rfl | rfl <;> simp at hx <;> rcases hx with rfl | rfl <;> simp at hall ⊢
  safe := by
    intro c hc
    simp [threeC] at hc
    rcases hc with rfl | rfl | rfl
    · exact ⟨1, by simp, by decide⟩
    · exact ⟨3, by simp, by decide⟩
    · exact ⟨-2, by simp, by decide⟩
theorem three_val : uRes 3 threeC [1] = ([1, -2, 3], false, 0) := by
  have h1 : cnfCheck 3 threeC = 0 := by decide
  have hn : ¬ ∃ a ∈ [(1 : Int)], a = 0 ∨ 3 < a ∨ a < -3 := by simp
  have d1 : Der threeC [1] 1 := .asm (by simp)
  have d3 : Der threeC [1] 3 := .unit (c := [-1, 3]) (by simp [threeC]) (by simp) (fun y hy hne => by
    simp at hy
    rcases hy with rfl | rfl
    · exact d1
    · exact absurd rfl hne)
  have d2 : Der threeC [1] (-2) := .unit (c := [-2, -3]) (by simp [threeC]) (by simp) (fun y hy hne => by
    simp at hy
    rcases hy with rfl | rfl
    · exact absurd rfl hne
    · exact d3)
  have hd : derL threeC [1] = [1, -2, 3] := derL_eq (by unfold SortedL; decide) (fun y => ⟨fun h => by
    simp at h
    rcases h with rfl | rfl | rfl
    · exact d1
    · exact d2
    · exact d3, fun h => h.sub three_closed⟩)
  unfold uRes
  rw [if_neg (by simp [h1]), if_neg hn, if_neg three_closed.not_bad, hd]

/-- units, where the answer is the one that is wanted. -/
theorem unitsLaw_any (n : Int) (v u t : Value) (fs : List (List Int)) (asm want : List Int) (w : World) (hv : RdL w v fs) (hu : RdI w u want) (ht : RdI w t asm) (hn : In64 n) (hif : InL fs) (hia : ∀ y ∈ asm, In64 y) (hmf : (fs.length : Int) ≤ 140737488355328) (hma : (asm.length : Int) ≤ 1000000) (hwl : want.length ≤ 1000000000)
    (hr : uRes n fs asm = (want, false, 0)) : Calls Try.prog 40 #[.agg #[.int .i64 n, v], u, t] w fun e w' => e = .returned (.bool true) ∧ Below w.heap.size w w' := by
  obtain ⟨a, cap, rfl, hcap, _⟩ := hv.shape
  obtain ⟨a2, cap2, rfl, _, _⟩ := hu.shape
  obtain ⟨a3, cap3, rfl, _, _⟩ := ht.shape
  have HST := Hd.mk ((St.refl w).alloc (.cells #[.int .i64 n, .slice a fs.length cap] 25))
  have HV := Hd.mk hv
  have HU := Hd.mk hu
  have HT := Hd.mk ht
  have HN := Hd.mk hn
  have HIF := Hd.mk hif
  have HIA := Hd.mk hia
  have HR := Hd.mk hr
  have HWL := Hd.mk (show (want.length : Int) ≤ 140737488355328 by omega)
  clear hv hu ht hn hif hia hr hcap hwl
  go_enter Try.func40, Try.ntmps40
  go_wp2_with (first
    | (go_at_call 17; go_must (refine (units_val n _ _ fs asm _ (HV.out.below HST.out.below) (HT.out.below HST.out.below) HN.out HIF.out HIA.out hmf hma).mono ?_; rintro e w2 ⟨a8, n8, c8, rfl, hst⟩; rw [HR.out] at hst ⊢; have HS2 := Hd.mk (HST.out.call hst); clear hst))
    | (go_at_call 20; go_must (refine (eqInts_is _ _ want want _ HS2.out.rd (HU.out.below HS2.out.below) HWL.out true (by simp)).mono ?_; rintro e w3 ⟨rfl, hd⟩; have HS3 := Hd.mk (hd.st HS2.out); clear hd)))
  go_ret
  exact ⟨rfl, HS3.out.below⟩
theorem known_args (w2 : World) : St w2 ((w2.alloc (.cells #[.int .i64 1, .int .i64 (-2), .int .i64 3] 3)).alloc (.cells #[.int .i64 1] 3)) [Sl 3 (.slice (some ⟨w2.heap.size + 1, 0, none⟩) 1 1) (ints [1])] ∧
    RdI ((w2.alloc (.cells #[.int .i64 1, .int .i64 (-2), .int .i64 3] 3)).alloc (.cells #[.int .i64 1] 3)) (.slice (some ⟨w2.heap.size, 0, none⟩) 3 3) [1, -2, 3] := by
  have h0 := ((St.refl w2).alloc (.cells #[.int .i64 1, .int .i64 (-2), .int .i64 3] 3)).alloc (.cells #[.int .i64 1] 3)
  simp at h0
  refine ⟨(h0.sl_of_blk (cap := 1) (xs := ints [1]) (by simp [ints]) (by unfold maxLen; simp) (by simp) (by simp [ints])).only, ((h0.pick 1 rfl).sl_of_blk (cap := 3) (xs := ints [1, -2, 3]) (by simp [ints]) (by unfold maxLen; simp) (by simp) (by simp [ints])).rd⟩

set_option maxRecDepth 8000 in
theorem known4_any (w : World) : Calls Try.prog 16 #[] w fun e w' => e = .returned (.bool true) ∧ Below w.heap.size w w' := by
  go_enter Try.func16, Try.ntmps16
  go_wp2_with (first
    | (go_at_call 41; refine (three_any _).mono ?_; rintro e w2 ⟨v, rfl, hr, hb⟩; have HR := Hd.mk hr; have HB := Hd.mk hb; clear hr hb)
    | (go_at_call 40; go_must (refine (unitsLaw_any 3 v _ _ threeC [1] [1, -2, 3] _ (HR.out.below (known_args w2).1.below) (known_args w2).2 (known_args w2).1.rd ⟨by decide, by decide⟩ (by unfold InL In64; decide) (by unfold In64; decide) (by decide) (by decide) (by decide) three_val).mono ?_; rintro e w3 ⟨rfl, hb3⟩; have H3 := Hd.mk hb3; clear hb3)))
  go_ret
  exact ⟨rfl, (HB.out.trans ((known_args w2).1.below.mono HB.out.size)).trans (H3.out.mono (by have := HB.out.size; simp; omega))⟩
end Go.Proofs.Ytneibkemhmneoaa
