/-
  No cell of these rows narrows 'for every input' (looked for: loops, veiled, ifaces, maps, wideKeys, modest, calm, conditions, laid).
  DERIVED. THE GIVEN ROWS OF THIS SEAT. 7 by the template 'for every input the law returns true; each argument reads behind the call as it read before'; 0 by the template 'total and deterministic' (their statements: YtneibkemhmneoaaTotals.lean).
  GIVEN WITH THE SEED: the statements are not yours to turn. If you find one false, say at which input.
  Laid BY PROGRAM, IN A SANDBOX (cutbox-rows.mjs): the forced cells as the released guide's own fill.sh prints them over the translation 7996a104f04b9129… (all of the seat's roots in one cut). By AI agents, Wed Nov 11 2026. No macro, syntax, notation, axiom, sorry.
-/
import Derived.Test.YtneibkemhmneoaaChecked
import GoSem.Claim
import GoSem.ClaimJoined
import GoSem.ClaimMapViews
import Derived.JoinedTies
import Derived.KernelRfl
namespace Go.Proofs.Ytneibkemhmneoaa
/- THE CELL 'sum', in the pinned program and in every row, IS THE sha256 OF THE DUMP (.gsa) THAT YtneibkemhmneoaaProg.lean LOADS. Nothing in Lean hashes anything: it is a label: what it is worth is what the hold of that sum in a sandbox is worth. -/
noncomputable def Try.pinned : Pinned := { name := "ytneibkemhmneoaa", sum := "7996a104f04b91290add699e68ef4c0c7b2d9a5e2abb5184e87b516d2c4df9dc", checked := Try.checked }
namespace Rows
def none {H : Type} : Left H := { results := [], args := [] }

/-- 'weepholelaw05.RupChecks': WHATEVER THE INPUT: true; the input reads as it did. -/
def rupChecksSpec : ChangeSpec := { name := "rupChecks", fn := fun _ => fun
  | [d1, d2, d3] => { results := [.lit (.bool true)], args := [d1, d2, d3] }
  | _ => none }
def rupChecksRow : OpenClaim := { program := "ytneibkemhmneoaa", sum := "7996a104f04b91290add699e68ef4c0c7b2d9a5e2abb5184e87b516d2c4df9dc", func := "weephole/weepholelaw05.RupChecks", spec := "rupChecks", unfollowed := true, recurses := true, apart := false }
def RupChecksSaid : Prop := rupChecksRow.holds Try.pinned (OpenSpec.ofChange rupChecksSpec)

/-- ITS FALSE NEIGHBOUR: 'it returns false'. Refute it at one input. -/
def rupChecksWrong : ChangeSpec := { name := "rupChecks", fn := fun _ => fun
  | [d1, d2, d3] => { results := [.lit (.bool false)], args := [d1, d2, d3] }
  | _ => none }
def RupChecksWrongFalsely : Prop := rupChecksRow.holds Try.pinned (OpenSpec.ofChange rupChecksWrong)

/-- 'weepholelaw04.PropUnits': WHATEVER THE INPUT: true; the input reads as it did. -/
def propUnitsSpec : ChangeSpec := { name := "propUnits", fn := fun _ => fun
  | [d1, d2, d3] => { results := [.lit (.bool true)], args := [d1, d2, d3] }
  | _ => none }
def propUnitsRow : OpenClaim := { program := "ytneibkemhmneoaa", sum := "7996a104f04b91290add699e68ef4c0c7b2d9a5e2abb5184e87b516d2c4df9dc", func := "weephole/weepholelaw04.PropUnits", spec := "propUnits", unfollowed := true, recurses := true, apart := false }
def PropUnitsSaid : Prop := propUnitsRow.holds Try.pinned (OpenSpec.ofChange propUnitsSpec)

/-- ITS FALSE NEIGHBOUR: 'it returns false'. Refute it at one input. -/
def propUnitsWrong : ChangeSpec := { name := "propUnits", fn := fun _ => fun
  | [d1, d2, d3] => { results := [.lit (.bool false)], args := [d1, d2, d3] }
  | _ => none }
def PropUnitsWrongFalsely : Prop := propUnitsRow.holds Try.pinned (OpenSpec.ofChange propUnitsWrong)

/-- 'weepholelaw04.PropOdd': WHATEVER THE INPUT: true; the input reads as it did. -/
def propOddSpec : ChangeSpec := { name := "propOdd", fn := fun _ => fun
  | [d1, d2] => { results := [.lit (.bool true)], args := [d1, d2] }
  | _ => none }
def propOddRow : OpenClaim := { program := "ytneibkemhmneoaa", sum := "7996a104f04b91290add699e68ef4c0c7b2d9a5e2abb5184e87b516d2c4df9dc", func := "weephole/weepholelaw04.PropOdd", spec := "propOdd", unfollowed := true, recurses := true, apart := false }
def PropOddSaid : Prop := propOddRow.holds Try.pinned (OpenSpec.ofChange propOddSpec)

/-- ITS FALSE NEIGHBOUR: 'it returns false'. Refute it at one input. -/
def propOddWrong : ChangeSpec := { name := "propOdd", fn := fun _ => fun
  | [d1, d2] => { results := [.lit (.bool false)], args := [d1, d2] }
  | _ => none }
def PropOddWrongFalsely : Prop := propOddRow.holds Try.pinned (OpenSpec.ofChange propOddWrong)

/-- 'weepholelaw07.SolveAnswers': WHATEVER THE INPUT: true; the input reads as it did. -/
def solveAnswersSpec : ChangeSpec := { name := "solveAnswers", fn := fun _ => fun
  | [d1, d2] => { results := [.lit (.bool true)], args := [d1, d2] }
  | _ => none }
def solveAnswersRow : OpenClaim := { program := "ytneibkemhmneoaa", sum := "7996a104f04b91290add699e68ef4c0c7b2d9a5e2abb5184e87b516d2c4df9dc", func := "weephole/weepholelaw07.SolveAnswers", spec := "solveAnswers", unfollowed := true, recurses := true, apart := false }
def SolveAnswersSaid : Prop := solveAnswersRow.holds Try.pinned (OpenSpec.ofChange solveAnswersSpec)

/-- ITS FALSE NEIGHBOUR: 'it returns false'. Refute it at one input. -/
def solveAnswersWrong : ChangeSpec := { name := "solveAnswers", fn := fun _ => fun
  | [d1, d2] => { results := [.lit (.bool false)], args := [d1, d2] }
  | _ => none }
def SolveAnswersWrongFalsely : Prop := solveAnswersRow.holds Try.pinned (OpenSpec.ofChange solveAnswersWrong)

/-- 'weepholelaw07.SolveBudgets': WHATEVER THE INPUT: true; the input reads as it did. -/
def solveBudgetsSpec : ChangeSpec := { name := "solveBudgets", fn := fun _ => fun
  | [d1, d2, d3] => { results := [.lit (.bool true)], args := [d1, d2, d3] }
  | _ => none }
def solveBudgetsRow : OpenClaim := { program := "ytneibkemhmneoaa", sum := "7996a104f04b91290add699e68ef4c0c7b2d9a5e2abb5184e87b516d2c4df9dc", func := "weephole/weepholelaw07.SolveBudgets", spec := "solveBudgets", unfollowed := true, recurses := true, apart := false }
def SolveBudgetsSaid : Prop := solveBudgetsRow.holds Try.pinned (OpenSpec.ofChange solveBudgetsSpec)

/-- ITS FALSE NEIGHBOUR: 'it returns false'. Refute it at one input. -/
def solveBudgetsWrong : ChangeSpec := { name := "solveBudgets", fn := fun _ => fun
  | [d1, d2, d3] => { results := [.lit (.bool false)], args := [d1, d2, d3] }
  | _ => none }
def SolveBudgetsWrongFalsely : Prop := solveBudgetsRow.holds Try.pinned (OpenSpec.ofChange solveBudgetsWrong)

/-- 'weepholelaw05.RupImplies': WHATEVER THE INPUT: true; the input reads as it did. -/
def rupImpliesSpec : ChangeSpec := { name := "rupImplies", fn := fun _ => fun
  | [d1, d2, d3] => { results := [.lit (.bool true)], args := [d1, d2, d3] }
  | _ => none }
def rupImpliesRow : OpenClaim := { program := "ytneibkemhmneoaa", sum := "7996a104f04b91290add699e68ef4c0c7b2d9a5e2abb5184e87b516d2c4df9dc", func := "weephole/weepholelaw05.RupImplies", spec := "rupImplies", unfollowed := true, recurses := true, apart := false }
def RupImpliesSaid : Prop := rupImpliesRow.holds Try.pinned (OpenSpec.ofChange rupImpliesSpec)

/-- ITS FALSE NEIGHBOUR: 'it returns false'. Refute it at one input. -/
def rupImpliesWrong : ChangeSpec := { name := "rupImplies", fn := fun _ => fun
  | [d1, d2, d3] => { results := [.lit (.bool false)], args := [d1, d2, d3] }
  | _ => none }
def RupImpliesWrongFalsely : Prop := rupImpliesRow.holds Try.pinned (OpenSpec.ofChange rupImpliesWrong)

/-- 'weepholelaw05.RupOdd': WHATEVER THE INPUT: true; the input reads as it did. -/
def rupOddSpec : ChangeSpec := { name := "rupOdd", fn := fun _ => fun
  | [d1, d2] => { results := [.lit (.bool true)], args := [d1, d2] }
  | _ => none }
def rupOddRow : OpenClaim := { program := "ytneibkemhmneoaa", sum := "7996a104f04b91290add699e68ef4c0c7b2d9a5e2abb5184e87b516d2c4df9dc", func := "weephole/weepholelaw05.RupOdd", spec := "rupOdd", unfollowed := true, recurses := true, apart := false }
def RupOddSaid : Prop := rupOddRow.holds Try.pinned (OpenSpec.ofChange rupOddSpec)

/-- ITS FALSE NEIGHBOUR: 'it returns false'. Refute it at one input. -/
def rupOddWrong : ChangeSpec := { name := "rupOdd", fn := fun _ => fun
  | [d1, d2] => { results := [.lit (.bool false)], args := [d1, d2] }
  | _ => none }
def RupOddWrongFalsely : Prop := rupOddRow.holds Try.pinned (OpenSpec.ofChange rupOddWrong)

/- THE SECOND FORM. 'bulk': how many values and letters a reading holds, each counted each time it is reached (what is shared counts as often as it is met; a slice's spare places count too). A statement '..UptoSaid' is the law's where the arguments, and the package variables that the reading takes, are together of bulk at most 1048576: NARROWER than '..Said'. Prove '..Said' where nothing that the law and all that it calls make is longer than what came in: it says more and counts as full. Else prove '..UptoSaid'. A law counts once. -/
mutual
def uptoBulk {H : Type} : DataW H → Nat
  | .lit (.string bytes) => bytes.length + 1
  | .lit _ => 1
  | .nil => 1
  | .ptr d => uptoBulk d + 1
  | .slice elems spare => uptoBulkAll elems + uptoBulkAll spare + 1
  | .agg parts => uptoBulkAll parts + 1
  | .iface _ d => uptoBulk d + 1
  | .map entries => uptoBulkEntries entries + 1
  | .held _ => 1
def uptoBulkAll {H : Type} : List (DataW H) → Nat
  | [] => 0
  | d :: r => uptoBulk d + uptoBulkAll r
def uptoBulkEntries {H : Type} : List (Lit × DataW H) → Nat
  | [] => 0
  | x :: r => uptoBulkEntry x + uptoBulkEntries r
def uptoBulkEntry {H : Type} : Lit × DataW H → Nat
  | (.string bytes, d) => bytes.length + uptoBulk d + 1
  | (_, d) => uptoBulk d + 1
 end
def uptoSmall : (H : Type) → List (DataW H) → Bool := fun _ ds => decide (uptoBulkAll ds ≤ 1048576)
def OpenSpec.upto (s : _root_.Go.ChangeSpec) : _root_.Go.OpenSpec := { _root_.Go.OpenSpec.ofChange s with cond := some uptoSmall }

/-- 'weepholelaw05.RupChecks', WHERE WHAT IT READS IS OF BULK AT MOST 1048576: true; the input reads as it did. -/
def rupChecksUptoRow : OpenClaim := { program := "ytneibkemhmneoaa", sum := "7996a104f04b91290add699e68ef4c0c7b2d9a5e2abb5184e87b516d2c4df9dc", func := "weephole/weepholelaw05.RupChecks", spec := "rupChecks", unfollowed := true, recurses := true, apart := false, narrowed := true }
def RupChecksUptoSaid : Prop := rupChecksUptoRow.holds Try.pinned (OpenSpec.upto rupChecksSpec)

/-- 'weepholelaw04.PropUnits', WHERE WHAT IT READS IS OF BULK AT MOST 1048576: true; the input reads as it did. -/
def propUnitsUptoRow : OpenClaim := { program := "ytneibkemhmneoaa", sum := "7996a104f04b91290add699e68ef4c0c7b2d9a5e2abb5184e87b516d2c4df9dc", func := "weephole/weepholelaw04.PropUnits", spec := "propUnits", unfollowed := true, recurses := true, apart := false, narrowed := true }
def PropUnitsUptoSaid : Prop := propUnitsUptoRow.holds Try.pinned (OpenSpec.upto propUnitsSpec)

/-- 'weepholelaw04.PropOdd', WHERE WHAT IT READS IS OF BULK AT MOST 1048576: true; the input reads as it did. -/
def propOddUptoRow : OpenClaim := { program := "ytneibkemhmneoaa", sum := "7996a104f04b91290add699e68ef4c0c7b2d9a5e2abb5184e87b516d2c4df9dc", func := "weephole/weepholelaw04.PropOdd", spec := "propOdd", unfollowed := true, recurses := true, apart := false, narrowed := true }
def PropOddUptoSaid : Prop := propOddUptoRow.holds Try.pinned (OpenSpec.upto propOddSpec)

/-- 'weepholelaw07.SolveAnswers', WHERE WHAT IT READS IS OF BULK AT MOST 1048576: true; the input reads as it did. -/
def solveAnswersUptoRow : OpenClaim := { program := "ytneibkemhmneoaa", sum := "7996a104f04b91290add699e68ef4c0c7b2d9a5e2abb5184e87b516d2c4df9dc", func := "weephole/weepholelaw07.SolveAnswers", spec := "solveAnswers", unfollowed := true, recurses := true, apart := false, narrowed := true }
def SolveAnswersUptoSaid : Prop := solveAnswersUptoRow.holds Try.pinned (OpenSpec.upto solveAnswersSpec)

/-- 'weepholelaw07.SolveBudgets', WHERE WHAT IT READS IS OF BULK AT MOST 1048576: true; the input reads as it did. -/
def solveBudgetsUptoRow : OpenClaim := { program := "ytneibkemhmneoaa", sum := "7996a104f04b91290add699e68ef4c0c7b2d9a5e2abb5184e87b516d2c4df9dc", func := "weephole/weepholelaw07.SolveBudgets", spec := "solveBudgets", unfollowed := true, recurses := true, apart := false, narrowed := true }
def SolveBudgetsUptoSaid : Prop := solveBudgetsUptoRow.holds Try.pinned (OpenSpec.upto solveBudgetsSpec)

/-- 'weepholelaw05.RupImplies', WHERE WHAT IT READS IS OF BULK AT MOST 1048576: true; the input reads as it did. -/
def rupImpliesUptoRow : OpenClaim := { program := "ytneibkemhmneoaa", sum := "7996a104f04b91290add699e68ef4c0c7b2d9a5e2abb5184e87b516d2c4df9dc", func := "weephole/weepholelaw05.RupImplies", spec := "rupImplies", unfollowed := true, recurses := true, apart := false, narrowed := true }
def RupImpliesUptoSaid : Prop := rupImpliesUptoRow.holds Try.pinned (OpenSpec.upto rupImpliesSpec)

/-- 'weepholelaw05.RupOdd', WHERE WHAT IT READS IS OF BULK AT MOST 1048576: true; the input reads as it did. -/
def rupOddUptoRow : OpenClaim := { program := "ytneibkemhmneoaa", sum := "7996a104f04b91290add699e68ef4c0c7b2d9a5e2abb5184e87b516d2c4df9dc", func := "weephole/weepholelaw05.RupOdd", spec := "rupOdd", unfollowed := true, recurses := true, apart := false, narrowed := true }
def RupOddUptoSaid : Prop := rupOddUptoRow.holds Try.pinned (OpenSpec.upto rupOddSpec)

end Rows
end Go.Proofs.Ytneibkemhmneoaa
