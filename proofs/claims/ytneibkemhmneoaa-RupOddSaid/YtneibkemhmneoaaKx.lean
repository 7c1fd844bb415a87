/- Contract: known. -/
import Derived.Test.YtneibkemhmneoaaKw
namespace Go.Proofs.Ytneibkemhmneoaa
set_option linter.unusedVariables false
set_option linter.unusedSimpArgs false
open Go.RowKit

theorem known_proof (w2 : World) : RdL ((w2.alloc (.cells #[.int .i64 1] 3)).alloc (.cells #[.slice (some ⟨w2.heap.size, 0, none⟩) 1 1, .slice none 0 0] 29)) (.slice (some ⟨w2.heap.size + 1, 0, none⟩) 2 2) [[1], []] ∧
    Below w2.heap.size w2 ((w2.alloc (.cells #[.int .i64 1] 3)).alloc (.cells #[.slice (some ⟨w2.heap.size, 0, none⟩) 1 1, .slice none 0 0] 29)) := by
  have h0 := ((St.refl w2).alloc (.cells #[.int .i64 1] 3)).alloc (.cells #[.slice (some ⟨w2.heap.size, 0, none⟩) 1 1, .slice none 0 0] 29)
  simp at h0
  have hs := (h0.sl_of_blk (cap := 2) (xs := [.slice (some ⟨w2.heap.size, 0, none⟩) 1 1, .slice none 0 0]) (by simp) (by unfold maxLen; simp) (by simp) (by simp)).rd
  have r1 := ((h0.pick 1 rfl).sl_of_blk (cap := 1) (xs := ints [1]) (by simp [ints]) (by unfold maxLen; simp) (by simp) (by simp [ints])).rd
  refine ⟨⟨_, hs, rfl, fun j u c hu hc => ?_⟩, h0.below⟩
  match j, hu, hc with
  | 0, hu, hc => simp at hu hc; subst hu; subst hc; exact r1
  | 1, hu, hc => simp at hu hc; subst hu; subst hc; exact Rd.nil _
  | j + 2, hu, hc => simp at hc

set_option maxRecDepth 8000 in
theorem known_any (w : World) : Calls Try.prog 11 #[] w fun e w' => e = .returned (.bool true) ∧ Below w.heap.size w w' := by
  go_enter Try.func11, Try.ntmps11
  go_wp2_with (first
    | (go_at_call 28; refine (four_any _).mono ?_; rintro e w2 ⟨v, rfl, hr, hb⟩; have HR := Hd.mk hr; have HB := Hd.mk hb; clear hr hb)
    | (go_at_call 13; refine (check_any 2 v _ fourC [[1], []] _ (HR.out.below (known_proof w2).2) (known_proof w2).1 ⟨by decide, by decide⟩ (by unfold InL In64; decide) (by unfold InL In64; decide) (by decide) (by decide)).mono ?_; rintro e w3 ⟨rfl, hb3⟩; have H3 := Hd.mk hb3; clear hb3; rw [known_val]))
  go_ret
  exact ⟨rfl, (HB.out.trans ((known_proof w2).2.mono HB.out.size)).trans (H3.out.mono (by have := HB.out.size; simp; omega))⟩
end Go.Proofs.Ytneibkemhmneoaa
