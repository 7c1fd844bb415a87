/- Words: what Units comes to, the program's and the reference's. -/
import Derived.Test.YtneibkemhmneoaaUt
import Derived.Test.YtneibkemhmneoaaRc
namespace Go.Proofs.Ytneibkemhmneoaa
set_option linter.unusedVariables false
set_option linter.unusedSimpArgs false
open Go.RowKit Go.Conc

/-- What Units comes to. -/
def UnitsEnd (n : Int) (fs : List (List Int)) (asm : List Int) (w : World) (e : Ending) (w' : World) : Prop :=
  (cnfCheck n fs ≠ 0 ∧ e = .returned (.tuple #[.slice none 0 0, .bool false, .int .i64 (cnfCheck n fs)]) ∧ Below w.heap.size w w') ∨
  (cnfCheck n fs = 0 ∧ (∃ a ∈ asm, a = 0 ∨ n < a ∨ a < -n) ∧ e = .returned (.tuple #[.slice none 0 0, .bool false, .int .i64 3]) ∧ Below w.heap.size w w') ∨
  (cnfCheck n fs = 0 ∧ (∀ a ∈ asm, a ≠ 0 ∧ -n ≤ a ∧ a ≤ n) ∧ UEnd fs asm w e w')

theorem bodyPost_mono {P : Program} {fn : Func} {R R' : Ending → World → Prop} (h : ∀ e w, R e w → R' e w) : ∀ e a w, bodyPost P fn R e a w → bodyPost P fn R' e a w := fun e a w hq => by
  cases e with
  | normal => obtain ⟨h1, v, h2, h3⟩ := hq; exact ⟨h1, v, h2, h _ _ h3⟩
  | ret => obtain ⟨h1, v, h2, h3⟩ := hq; exact ⟨h1, v, h2, h _ _ h3⟩
  | panic c => obtain ⟨h1, h3⟩ := hq; exact ⟨h1, h _ _ h3⟩
  | exit id => exact hq.elim
  | goto l => exact hq.elim
  | outgrown => exact h _ _ hq

theorem der_lit {fs : List (List Int)} {asm : List Int} {P : Int → Prop} (h1 : ∀ c ∈ fs, ∀ y ∈ c, P y) (h2 : ∀ y ∈ asm, P y) {y : Int} (h : Der fs asm y) : P y := by
  cases h with
  | asm h => exact h2 _ h
  | unit hc hx _ => exact h1 _ hc _ hx
end Go.Proofs.Ytneibkemhmneoaa
