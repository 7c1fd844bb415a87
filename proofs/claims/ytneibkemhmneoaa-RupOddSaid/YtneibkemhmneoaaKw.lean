/- Contract: four (the known formula). -/
import Derived.Test.YtneibkemhmneoaaBk
import Derived.Test.YtneibkemhmneoaaKv
namespace Go.Proofs.Ytneibkemhmneoaa
set_option linter.unusedVariables false
set_option linter.unusedSimpArgs false
open Go.RowKit

set_option maxRecDepth 8000 in
theorem four_any (w : World) : Calls Try.prog 28 #[] w fun e w' => ∃ v, e = .returned (.agg #[.int .i64 2, v]) ∧ RdL w' v fourC ∧ Below w.heap.size w w' := by
  go_enter Try.func28, Try.ntmps28
  go_wp2
  generalize hb : w.heap.size = b at *
  have h0 := (((((((St.refl w).alloc (.cells #[.int .i64 2, .slice (some ⟨b + 1 + 1 + 1 + 1 + 1, 0, none⟩) 4 4] 25)).alloc (.cells #[.int .i64 1, .int .i64 2] 3)).alloc (.cells #[.int .i64 1, .int .i64 (-2)] 3)).alloc (.cells #[.int .i64 (-1), .int .i64 2] 3)).alloc (.cells #[.int .i64 (-1), .int .i64 (-2)] 3)).alloc (.cells #[.slice (some ⟨b + 1, 0, none⟩) 2 2, .slice (some ⟨b + 1 + 1, 0, none⟩) 2 2, .slice (some ⟨b + 1 + 1 + 1, 0, none⟩) 2 2, .slice (some ⟨b + 1 + 1 + 1 + 1, 0, none⟩) 2 2] 29))
  simp [hb] at h0
  have hbel := h0.below
  have c0 := (h0.pick 5 rfl).cell 0
  have c1 := (h0.pick 5 rfl).cell 1
  simp only [List.getElem?_toArray, List.getElem?_cons_zero, List.getElem?_cons_succ] at c0 c1
  have hs := (h0.sl_of_blk (cap := 4) (xs := [.slice (some ⟨b + 1, 0, none⟩) 2 2, .slice (some ⟨b + 1 + 1, 0, none⟩) 2 2, .slice (some ⟨b + 1 + 1 + 1, 0, none⟩) 2 2, .slice (some ⟨b + 1 + 1 + 1 + 1, 0, none⟩) 2 2]) (by simp) (by unfold maxLen; simp) (by simp) (by simp)).rd
  have r1 := ((h0.pick 4 rfl).sl_of_blk (cap := 2) (xs := ints [1, 2]) (by simp [ints]) (by unfold maxLen; simp) (by simp) (by simp [ints])).rd
  have r2 := ((h0.pick 3 rfl).sl_of_blk (cap := 2) (xs := ints [1, -2]) (by simp [ints]) (by unfold maxLen; simp) (by simp) (by simp [ints])).rd
  have r3 := ((h0.pick 2 rfl).sl_of_blk (cap := 2) (xs := ints [-1, 2]) (by simp [ints]) (by unfold maxLen; simp) (by simp) (by simp [ints])).rd
  have r4 := ((h0.pick 1 rfl).sl_of_blk (cap := 2) (xs := ints [-1, -2]) (by simp [ints]) (by unfold maxLen; simp) (by simp) (by simp [ints])).rd
  refine bodyPost_ret (v := .agg #[.int .i64 2, .slice (some ⟨b + 1 + 1 + 1 + 1 + 1, 0, none⟩) 4 4]) (by simp [results, Try.results28, go_sem, c0, c1]) rfl ⟨_, rfl, ⟨_, hs, rfl, fun j u c hu hc => ?_⟩, hb ▸ hbel⟩
  match j, hu, hc with
  | 0, hu, hc => simp [fourC] at hu hc; subst hu; subst hc; exact r1
  | 1, hu, hc => simp [fourC] at hu hc; subst hu; subst hc; exact r2
  | 2, hu, hc => simp [fourC] at hu hc; subst hu; subst hc; exact r3
  | 3, hu, hc => simp [fourC] at hu hc; subst hu; subst hc; exact r4
  | j + 4, hu, hc => simp [fourC] at hc
end Go.Proofs.Ytneibkemhmneoaa
