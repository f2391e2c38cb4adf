/-
  SnapPlays: what is to be shown of the program's text alone (a text of its own: it takes nearly all the memory that a Lean process has).
  Conditions: none.
-/
import Derived.Test.YtohlgnfachkmaaaGreatRows
import Derived.WalkKit
import Derived.ProofKit
import Derived.OpenShut
import Derived.ShutString
namespace Go.Proofs.YtohlgnfachkmaaaGreat.snapPlays
open Go.ChangeShapes Go.WideShapes Go.ChangeAt Go.RowKit
theorem facts : joinedFacts Tryz.pinned.checked.prog 3 Tryz.f3 Rows.snapPlaysSpec Rows.snapPlaysRow = true := by kernel_rfl
end Go.Proofs.YtohlgnfachkmaaaGreat.snapPlays
