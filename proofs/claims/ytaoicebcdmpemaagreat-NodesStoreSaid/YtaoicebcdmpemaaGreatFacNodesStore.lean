/-
  NodesStore: what is to be shown of the program's text alone (a text of its own: it takes nearly all the memory that a Lean process has).
  Conditions: none.
-/
import Derived.Test.YtaoicebcdmpemaaGreatRows
import Derived.WalkKit
import Derived.ProofKit
import Derived.OpenShut
import Derived.ShutString
namespace Go.Proofs.YtaoicebcdmpemaaGreat.nodesStore
open Go.ChangeShapes Go.WideShapes Go.ChangeAt Go.RowKit
theorem facts : joinedFacts Tryz.pinned.checked.prog 6 Tryz.f6 Rows.nodesStoreSpec Rows.nodesStoreRow = true := by kernel_rfl
end Go.Proofs.YtaoicebcdmpemaaGreat.nodesStore
