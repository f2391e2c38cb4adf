/-
  StateCopies: what is to be shown of the program's text alone (a text of its own: it takes nearly all the memory that a Lean process has).
  Conditions: none.
-/
import Derived.Test.YtkhjanjlcdhdcaaGreatRows
import Derived.WalkKit
import Derived.ProofKit
import Derived.OpenShut
import Derived.ShutString
namespace Go.Proofs.YtkhjanjlcdhdcaaGreat.stateCopies
open Go.ChangeShapes Go.WideShapes Go.ChangeAt Go.RowKit
theorem facts : joinedFacts Tryz.pinned.checked.prog 3 Tryz.f3 Rows.stateCopiesSpec Rows.stateCopiesRow = true := by kernel_rfl
end Go.Proofs.YtkhjanjlcdhdcaaGreat.stateCopies
