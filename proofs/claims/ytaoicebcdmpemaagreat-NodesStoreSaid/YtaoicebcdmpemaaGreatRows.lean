/-
  No cell of these rows narrows 'for every input' (looked for: loops, veiled, ifaces, maps, wideKeys, modest, calm, conditions, laid).
  DERIVED. THE GIVEN ROWS OF THIS SEAT. 5 by the template 'for every input the law returns true; each argument reads behind the call as it read before'; 0 by the template 'total and deterministic' (their statements: YtaoicebcdmpemaaGreatTotals.lean).
  GIVEN WITH THE SEED: the statements are not yours to turn. If you find one false, say at which input.
  Laid BY PROGRAM, IN A SANDBOX (cutbox-rows.mjs): the forced cells as the released guide's own fill.sh prints them over the translation d79837775eb8d8b2… (all of the seat's roots in one cut). By AI agents, Wed Nov 11 2026. No macro, syntax, notation, axiom, sorry.
-/
import Derived.Test.YtaoicebcdmpemaaGreatChecked
import GoSem.Claim
import GoSem.ClaimJoined
import GoSem.ClaimMapViews
import Derived.JoinedTies
import Derived.KernelRfl
namespace Go.Proofs.YtaoicebcdmpemaaGreat
/- THE CELL 'sum', in the pinned program and in every row, IS THE sha256 OF THE DUMP (.gsa) THAT YtaoicebcdmpemaaGreatProg.lean LOADS. Nothing in Lean hashes anything: it is a label: what it is worth is what the hold of that sum in a sandbox is worth. -/
noncomputable def Tryz.pinned : Pinned := { name := "ytaoicebcdmpemaagreat", sum := "d79837775eb8d8b210349f56bbe4871bcb6cf17ed7f24640f45d89f748195d7a", checked := Tryz.checked }
namespace Rows
def none {H : Type} : Left H := { results := [], args := [] }

/-- 'munimentslaw24.RefsPlay': WHATEVER THE INPUT: true; the input reads as it did. -/
def refsPlaySpec : ChangeSpec := { name := "refsPlay", fn := fun _ => fun
  | [d] => { results := [.lit (.bool true)], args := [d] }
  | _ => none }
def refsPlayRow : OpenClaim := { program := "ytaoicebcdmpemaagreat", sum := "d79837775eb8d8b210349f56bbe4871bcb6cf17ed7f24640f45d89f748195d7a", func := "muniments/munimentslaw24.RefsPlay", spec := "refsPlay", inPlace := ["internal/bytealg.Compare"], unfollowed := true, recurses := true, plainKeys := false, apart := false }
def RefsPlaySaid : Prop := refsPlayRow.holds Tryz.pinned (OpenSpec.ofChange refsPlaySpec)

/-- ITS FALSE NEIGHBOUR: 'it returns false'. Refute it at one input. -/
def refsPlayWrong : ChangeSpec := { name := "refsPlay", fn := fun _ => fun
  | [d] => { results := [.lit (.bool false)], args := [d] }
  | _ => none }
def RefsPlayWrongFalsely : Prop := refsPlayRow.holds Tryz.pinned (OpenSpec.ofChange refsPlayWrong)

/-- 'munimentslaw7.NodesLong': WHATEVER THE INPUT: true; the input reads as it did. -/
def nodesLongSpec : ChangeSpec := { name := "nodesLong", fn := fun _ => fun
  | [d1, d2] => { results := [.lit (.bool true)], args := [d1, d2] }
  | _ => none }
def nodesLongRow : OpenClaim := { program := "ytaoicebcdmpemaagreat", sum := "d79837775eb8d8b210349f56bbe4871bcb6cf17ed7f24640f45d89f748195d7a", func := "muniments/munimentslaw7.NodesLong", spec := "nodesLong", inPlace := ["internal/bytealg.Compare"], unfollowed := true, recurses := true, plainKeys := false, apart := false }
def NodesLongSaid : Prop := nodesLongRow.holds Tryz.pinned (OpenSpec.ofChange nodesLongSpec)

/-- ITS FALSE NEIGHBOUR: 'it returns false'. Refute it at one input. -/
def nodesLongWrong : ChangeSpec := { name := "nodesLong", fn := fun _ => fun
  | [d1, d2] => { results := [.lit (.bool false)], args := [d1, d2] }
  | _ => none }
def NodesLongWrongFalsely : Prop := nodesLongRow.holds Tryz.pinned (OpenSpec.ofChange nodesLongWrong)

/-- 'munimentslaw7.NodesTwice': WHATEVER THE INPUT: true; the input reads as it did. -/
def nodesTwiceSpec : ChangeSpec := { name := "nodesTwice", fn := fun _ => fun
  | [d] => { results := [.lit (.bool true)], args := [d] }
  | _ => none }
def nodesTwiceRow : OpenClaim := { program := "ytaoicebcdmpemaagreat", sum := "d79837775eb8d8b210349f56bbe4871bcb6cf17ed7f24640f45d89f748195d7a", func := "muniments/munimentslaw7.NodesTwice", spec := "nodesTwice", inPlace := ["internal/bytealg.Compare"], unfollowed := true, recurses := true, plainKeys := false, apart := false }
def NodesTwiceSaid : Prop := nodesTwiceRow.holds Tryz.pinned (OpenSpec.ofChange nodesTwiceSpec)

/-- ITS FALSE NEIGHBOUR: 'it returns false'. Refute it at one input. -/
def nodesTwiceWrong : ChangeSpec := { name := "nodesTwice", fn := fun _ => fun
  | [d] => { results := [.lit (.bool false)], args := [d] }
  | _ => none }
def NodesTwiceWrongFalsely : Prop := nodesTwiceRow.holds Tryz.pinned (OpenSpec.ofChange nodesTwiceWrong)

/-- 'munimentslaw7.NodesStore': WHATEVER THE INPUT: true; the input reads as it did. -/
def nodesStoreSpec : ChangeSpec := { name := "nodesStore", fn := fun _ => fun
  | [d1, d2, d3] => { results := [.lit (.bool true)], args := [d1, d2, d3] }
  | _ => none }
def nodesStoreRow : OpenClaim := { program := "ytaoicebcdmpemaagreat", sum := "d79837775eb8d8b210349f56bbe4871bcb6cf17ed7f24640f45d89f748195d7a", func := "muniments/munimentslaw7.NodesStore", spec := "nodesStore", inPlace := ["internal/bytealg.Compare"], unfollowed := true, recurses := true, plainKeys := false, apart := false }
def NodesStoreSaid : Prop := nodesStoreRow.holds Tryz.pinned (OpenSpec.ofChange nodesStoreSpec)

/-- ITS FALSE NEIGHBOUR: 'it returns false'. Refute it at one input. -/
def nodesStoreWrong : ChangeSpec := { name := "nodesStore", fn := fun _ => fun
  | [d1, d2, d3] => { results := [.lit (.bool false)], args := [d1, d2, d3] }
  | _ => none }
def NodesStoreWrongFalsely : Prop := nodesStoreRow.holds Tryz.pinned (OpenSpec.ofChange nodesStoreWrong)

/-- 'munimentslaw7.NodesBack': WHATEVER THE INPUT: true; the input reads as it did. -/
def nodesBackSpec : ChangeSpec := { name := "nodesBack", fn := fun _ => fun
  | [d1, d2] => { results := [.lit (.bool true)], args := [d1, d2] }
  | _ => none }
def nodesBackRow : OpenClaim := { program := "ytaoicebcdmpemaagreat", sum := "d79837775eb8d8b210349f56bbe4871bcb6cf17ed7f24640f45d89f748195d7a", func := "muniments/munimentslaw7.NodesBack", spec := "nodesBack", inPlace := ["internal/bytealg.Compare"], unfollowed := true, recurses := true, plainKeys := false, apart := false }
def NodesBackSaid : Prop := nodesBackRow.holds Tryz.pinned (OpenSpec.ofChange nodesBackSpec)

/-- ITS FALSE NEIGHBOUR: 'it returns false'. Refute it at one input. -/
def nodesBackWrong : ChangeSpec := { name := "nodesBack", fn := fun _ => fun
  | [d1, d2] => { results := [.lit (.bool false)], args := [d1, d2] }
  | _ => none }
def NodesBackWrongFalsely : Prop := nodesBackRow.holds Tryz.pinned (OpenSpec.ofChange nodesBackWrong)

/- THE SECOND FORM. 'bulk': how many values and letters a reading holds, each counted each time it is reached (what is shared counts as often as it is met; a slice's spare places count too). A statement '..UptoSaid' is the law's where the arguments, and the package variables that the reading takes, are together of bulk at most 1048576: NARROWER than '..Said'. Prove '..Said' where nothing that the law and all that it calls make is longer than what came in: it says more and counts as full. Else prove '..UptoSaid'. A law counts once. -/
mutual
def uptoBulk {H : Type} : DataW H → Nat
  | .lit (.string bytes) => bytes.length + 1
  | .lit _ => 1
  | .nil => 1
  | .ptr d => uptoBulk d + 1
  | .slice elems spare => uptoBulkAll elems + uptoBulkAll spare + 1
  | .agg parts => uptoBulkAll parts + 1
  | .iface _ d => uptoBulk d + 1
  | .map entries => uptoBulkEntries entries + 1
  | .held _ => 1
def uptoBulkAll {H : Type} : List (DataW H) → Nat
  | [] => 0
  | d :: r => uptoBulk d + uptoBulkAll r
def uptoBulkEntries {H : Type} : List (Lit × DataW H) → Nat
  | [] => 0
  | x :: r => uptoBulkEntry x + uptoBulkEntries r
def uptoBulkEntry {H : Type} : Lit × DataW H → Nat
  | (.string bytes, d) => bytes.length + uptoBulk d + 1
  | (_, d) => uptoBulk d + 1
 end
def uptoSmall : (H : Type) → List (DataW H) → Bool := fun _ ds => decide (uptoBulkAll ds ≤ 1048576)
def OpenSpec.upto (s : _root_.Go.ChangeSpec) : _root_.Go.OpenSpec := { _root_.Go.OpenSpec.ofChange s with cond := some uptoSmall }

/-- 'munimentslaw24.RefsPlay', WHERE WHAT IT READS IS OF BULK AT MOST 1048576: true; the input reads as it did. -/
def refsPlayUptoRow : OpenClaim := { program := "ytaoicebcdmpemaagreat", sum := "d79837775eb8d8b210349f56bbe4871bcb6cf17ed7f24640f45d89f748195d7a", func := "muniments/munimentslaw24.RefsPlay", spec := "refsPlay", inPlace := ["internal/bytealg.Compare"], unfollowed := true, recurses := true, plainKeys := false, apart := false, narrowed := true }
def RefsPlayUptoSaid : Prop := refsPlayUptoRow.holds Tryz.pinned (OpenSpec.upto refsPlaySpec)

/-- 'munimentslaw7.NodesLong', WHERE WHAT IT READS IS OF BULK AT MOST 1048576: true; the input reads as it did. -/
def nodesLongUptoRow : OpenClaim := { program := "ytaoicebcdmpemaagreat", sum := "d79837775eb8d8b210349f56bbe4871bcb6cf17ed7f24640f45d89f748195d7a", func := "muniments/munimentslaw7.NodesLong", spec := "nodesLong", inPlace := ["internal/bytealg.Compare"], unfollowed := true, recurses := true, plainKeys := false, apart := false, narrowed := true }
def NodesLongUptoSaid : Prop := nodesLongUptoRow.holds Tryz.pinned (OpenSpec.upto nodesLongSpec)

/-- 'munimentslaw7.NodesTwice', WHERE WHAT IT READS IS OF BULK AT MOST 1048576: true; the input reads as it did. -/
def nodesTwiceUptoRow : OpenClaim := { program := "ytaoicebcdmpemaagreat", sum := "d79837775eb8d8b210349f56bbe4871bcb6cf17ed7f24640f45d89f748195d7a", func := "muniments/munimentslaw7.NodesTwice", spec := "nodesTwice", inPlace := ["internal/bytealg.Compare"], unfollowed := true, recurses := true, plainKeys := false, apart := false, narrowed := true }
def NodesTwiceUptoSaid : Prop := nodesTwiceUptoRow.holds Tryz.pinned (OpenSpec.upto nodesTwiceSpec)

/-- 'munimentslaw7.NodesStore', WHERE WHAT IT READS IS OF BULK AT MOST 1048576: true; the input reads as it did. -/
def nodesStoreUptoRow : OpenClaim := { program := "ytaoicebcdmpemaagreat", sum := "d79837775eb8d8b210349f56bbe4871bcb6cf17ed7f24640f45d89f748195d7a", func := "muniments/munimentslaw7.NodesStore", spec := "nodesStore", inPlace := ["internal/bytealg.Compare"], unfollowed := true, recurses := true, plainKeys := false, apart := false, narrowed := true }
def NodesStoreUptoSaid : Prop := nodesStoreUptoRow.holds Tryz.pinned (OpenSpec.upto nodesStoreSpec)

/-- 'munimentslaw7.NodesBack', WHERE WHAT IT READS IS OF BULK AT MOST 1048576: true; the input reads as it did. -/
def nodesBackUptoRow : OpenClaim := { program := "ytaoicebcdmpemaagreat", sum := "d79837775eb8d8b210349f56bbe4871bcb6cf17ed7f24640f45d89f748195d7a", func := "muniments/munimentslaw7.NodesBack", spec := "nodesBack", inPlace := ["internal/bytealg.Compare"], unfollowed := true, recurses := true, plainKeys := false, apart := false, narrowed := true }
def NodesBackUptoSaid : Prop := nodesBackUptoRow.holds Tryz.pinned (OpenSpec.upto nodesBackSpec)

end Rows
end Go.Proofs.YtaoicebcdmpemaaGreat
