/-
  NodesLong: what is to be shown of the program's text alone (a text of its own: it takes nearly all the memory that a Lean process has).
  Conditions: none.
-/
import Derived.Test.YtaoicebcdmpemaaGreatRows
import Derived.WalkKit
import Derived.ProofKit
import Derived.OpenShut
import Derived.ShutString
namespace Go.Proofs.YtaoicebcdmpemaaGreat.nodesLong
open Go.ChangeShapes Go.WideShapes Go.ChangeAt Go.RowKit
theorem facts : joinedFacts Tryz.pinned.checked.prog 4 Tryz.f4 Rows.nodesLongSpec Rows.nodesLongRow = true := by kernel_rfl
end Go.Proofs.YtaoicebcdmpemaaGreat.nodesLong
