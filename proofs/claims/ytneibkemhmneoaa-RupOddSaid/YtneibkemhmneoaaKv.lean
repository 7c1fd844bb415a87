/- The plain law of the known formula: its proof is accepted. No program. -/
import Derived.Test.YtneibkemhmneoaaRc
namespace Go.Proofs.Ytneibkemhmneoaa
set_option linter.unusedVariables false
set_option linter.unusedSimpArgs false

def fourC : List (List Int) := [[1, 2], [1, -2], [-1, 2], [-1, -2]]

theorem four_bad1 : Bad fourC [-1] := by
  have d : Der fourC [-1] (-1) := .asm (by simp)
  have d2 : Der fourC [-1] 2 := .unit (c := [1, 2]) (by simp [fourC]) (by simp) (fun y hy hne => by
    simp at hy
    rcases hy with rfl | rfl
    · exact d
    · exact absurd rfl hne)
  have d3 : Der fourC [-1] (-2) := .unit (c := [1, -2]) (by simp [fourC]) (by simp) (fun y hy hne => by
    simp at hy
    rcases hy with rfl | rfl
    · exact d
    · exact absurd rfl hne)
  exact .inl ⟨2, d2, d3⟩

theorem four_bad2 : Bad (fourC ++ [[1]]) [] := by
  have d : Der (fourC ++ [[1]]) [] 1 := .unit (c := [1]) (by simp [fourC]) (by simp) (fun y hy hne => by
    simp at hy
    exact absurd hy hne)
  have d2 : Der (fourC ++ [[1]]) [] 2 := .unit (c := [-1, 2]) (by simp [fourC]) (by simp) (fun y hy hne => by
    simp at hy
    rcases hy with rfl | rfl
    · exact d
    · exact absurd rfl hne)
  have d3 : Der (fourC ++ [[1]]) [] (-2) := .unit (c := [-1, -2]) (by simp [fourC]) (by simp) (fun y hy hne => by
    simp at hy
    rcases hy with rfl | rfl
    · exact d
    · exact absurd rfl hne)
  exact .inl ⟨2, d2, d3⟩

theorem known_val : chkRes 2 fourC [[1], []] = (-1, 0) := by
  have h1 : cnfCheck 2 fourC = 0 := by decide
  have h2 : firstErr 2 [[1], []] = 0 := by decide
  have h3 : chkEnd fourC [[1], []] = -1 := by
    unfold chkEnd
    have : chkGo fourC [[1], []] 0 = none := by
      rw [chkGo, if_pos (badB_true (by simpa using four_bad1)), chkGo, if_pos (badB_true (by simpa using four_bad2)), chkGo]
    rw [this]
    rfl
  rw [chkRes, if_neg (by simp [h1]), if_neg (by simp [h2]), h3]
end Go.Proofs.Ytneibkemhmneoaa
