/-
  StateMarks: what is to be shown of the program's text alone (a text of its own: it takes nearly all the memory that a Lean process has).
  Conditions: none.
-/
import Derived.Test.YtkhjanjlcdhdcaaRows
import Derived.WalkKit
import Derived.ProofKit
import Derived.OpenShut
import Derived.ShutString
namespace Go.Proofs.Ytkhjanjlcdhdcaa.stateMarks
open Go.ChangeShapes Go.WideShapes Go.ChangeAt Go.RowKit
theorem facts : joinedFacts Try.pinned.checked.prog 3 Try.f3 Rows.stateMarksSpec Rows.stateMarksRow = true := by kernel_rfl
end Go.Proofs.Ytkhjanjlcdhdcaa.stateMarks
