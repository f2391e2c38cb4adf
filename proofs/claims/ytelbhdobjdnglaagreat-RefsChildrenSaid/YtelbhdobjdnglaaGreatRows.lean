/-
  No cell of these rows narrows 'for every input' (looked for: loops, veiled, ifaces, maps, wideKeys, modest, calm, conditions, laid).
  DERIVED. THE GIVEN ROWS OF THIS SEAT. 8 by the template 'for every input the law returns true; each argument reads behind the call as it read before'; 0 by the template 'total and deterministic' (their statements: YtelbhdobjdnglaaGreatTotals.lean).
  GIVEN WITH THE SEED: the statements are not yours to turn. If you find one false, say at which input.
  Laid BY PROGRAM, IN A SANDBOX (cutbox-rows.mjs): the forced cells as the released guide's own fill.sh prints them over the translation d710053c2e59aaf5… (all of the seat's roots in one cut). By AI agents, Wed Nov 11 2026. No macro, syntax, notation, axiom, sorry.
-/
import Derived.Test.YtelbhdobjdnglaaGreatChecked
import GoSem.Claim
import GoSem.ClaimJoined
import GoSem.ClaimMapViews
import Derived.JoinedTies
import Derived.KernelRfl
namespace Go.Proofs.YtelbhdobjdnglaaGreat
/- THE CELL 'sum', in the pinned program and in every row, IS THE sha256 OF THE DUMP (.gsa) THAT YtelbhdobjdnglaaGreatProg.lean LOADS. Nothing in Lean hashes anything: it is a label: what it is worth is what the hold of that sum in a sandbox is worth. -/
noncomputable def Tryz.pinned : Pinned := { name := "ytelbhdobjdnglaagreat", sum := "d710053c2e59aaf584a11353c6a8efc9957bc9fcf2fd3718c263d30e417ab64d", checked := Tryz.checked }
namespace Rows
def none {H : Type} : Left H := { results := [], args := [] }

/-- 'munimentslaw6.TrieNodes': WHATEVER THE INPUT: true; the input reads as it did. -/
def trieNodesSpec : ChangeSpec := { name := "trieNodes", fn := fun _ => fun
  | [d] => { results := [.lit (.bool true)], args := [d] }
  | _ => none }
def trieNodesRow : OpenClaim := { program := "ytelbhdobjdnglaagreat", sum := "d710053c2e59aaf584a11353c6a8efc9957bc9fcf2fd3718c263d30e417ab64d", func := "muniments/munimentslaw6.TrieNodes", spec := "trieNodes", inPlace := ["internal/bytealg.Compare"], unfollowed := true, recurses := true, plainKeys := false, apart := false }
def TrieNodesSaid : Prop := trieNodesRow.holds Tryz.pinned (OpenSpec.ofChange trieNodesSpec)

/-- ITS FALSE NEIGHBOUR: 'it returns false'. Refute it at one input. -/
def trieNodesWrong : ChangeSpec := { name := "trieNodes", fn := fun _ => fun
  | [d] => { results := [.lit (.bool false)], args := [d] }
  | _ => none }
def TrieNodesWrongFalsely : Prop := trieNodesRow.holds Tryz.pinned (OpenSpec.ofChange trieNodesWrong)

/-- 'munimentslaw24.RefsChildren': WHATEVER THE INPUT: true; the input reads as it did. -/
def refsChildrenSpec : ChangeSpec := { name := "refsChildren", fn := fun _ => fun
  | [d] => { results := [.lit (.bool true)], args := [d] }
  | _ => none }
def refsChildrenRow : OpenClaim := { program := "ytelbhdobjdnglaagreat", sum := "d710053c2e59aaf584a11353c6a8efc9957bc9fcf2fd3718c263d30e417ab64d", func := "muniments/munimentslaw24.RefsChildren", spec := "refsChildren", inPlace := ["internal/bytealg.Compare"], unfollowed := true, recurses := true, plainKeys := false, apart := false }
def RefsChildrenSaid : Prop := refsChildrenRow.holds Tryz.pinned (OpenSpec.ofChange refsChildrenSpec)

/-- ITS FALSE NEIGHBOUR: 'it returns false'. Refute it at one input. -/
def refsChildrenWrong : ChangeSpec := { name := "refsChildren", fn := fun _ => fun
  | [d] => { results := [.lit (.bool false)], args := [d] }
  | _ => none }
def RefsChildrenWrongFalsely : Prop := refsChildrenRow.holds Tryz.pinned (OpenSpec.ofChange refsChildrenWrong)

/-- 'munimentslaw24.RefsLeads': WHATEVER THE INPUT: true; the input reads as it did. -/
def refsLeadsSpec : ChangeSpec := { name := "refsLeads", fn := fun _ => fun
  | [d] => { results := [.lit (.bool true)], args := [d] }
  | _ => none }
def refsLeadsRow : OpenClaim := { program := "ytelbhdobjdnglaagreat", sum := "d710053c2e59aaf584a11353c6a8efc9957bc9fcf2fd3718c263d30e417ab64d", func := "muniments/munimentslaw24.RefsLeads", spec := "refsLeads", inPlace := ["internal/bytealg.Compare"], unfollowed := true, recurses := true, plainKeys := false, apart := false }
def RefsLeadsSaid : Prop := refsLeadsRow.holds Tryz.pinned (OpenSpec.ofChange refsLeadsSpec)

/-- ITS FALSE NEIGHBOUR: 'it returns false'. Refute it at one input. -/
def refsLeadsWrong : ChangeSpec := { name := "refsLeads", fn := fun _ => fun
  | [d] => { results := [.lit (.bool false)], args := [d] }
  | _ => none }
def RefsLeadsWrongFalsely : Prop := refsLeadsRow.holds Tryz.pinned (OpenSpec.ofChange refsLeadsWrong)

/-- 'munimentslaw24.RefsKeep': WHATEVER THE INPUT: true; the input reads as it did. -/
def refsKeepSpec : ChangeSpec := { name := "refsKeep", fn := fun _ => fun
  | [d1, d2] => { results := [.lit (.bool true)], args := [d1, d2] }
  | _ => none }
def refsKeepRow : OpenClaim := { program := "ytelbhdobjdnglaagreat", sum := "d710053c2e59aaf584a11353c6a8efc9957bc9fcf2fd3718c263d30e417ab64d", func := "muniments/munimentslaw24.RefsKeep", spec := "refsKeep", inPlace := ["internal/bytealg.Compare"], unfollowed := true, recurses := true, plainKeys := false, apart := false }
def RefsKeepSaid : Prop := refsKeepRow.holds Tryz.pinned (OpenSpec.ofChange refsKeepSpec)

/-- ITS FALSE NEIGHBOUR: 'it returns false'. Refute it at one input. -/
def refsKeepWrong : ChangeSpec := { name := "refsKeep", fn := fun _ => fun
  | [d1, d2] => { results := [.lit (.bool false)], args := [d1, d2] }
  | _ => none }
def RefsKeepWrongFalsely : Prop := refsKeepRow.holds Tryz.pinned (OpenSpec.ofChange refsKeepWrong)

/-- 'munimentslaw24.RefsWithin': WHATEVER THE INPUT: true; the input reads as it did. -/
def refsWithinSpec : ChangeSpec := { name := "refsWithin", fn := fun _ => fun
  | [d1, d2] => { results := [.lit (.bool true)], args := [d1, d2] }
  | _ => none }
def refsWithinRow : OpenClaim := { program := "ytelbhdobjdnglaagreat", sum := "d710053c2e59aaf584a11353c6a8efc9957bc9fcf2fd3718c263d30e417ab64d", func := "muniments/munimentslaw24.RefsWithin", spec := "refsWithin", inPlace := ["internal/bytealg.Compare"], unfollowed := true, recurses := true, plainKeys := false, apart := false }
def RefsWithinSaid : Prop := refsWithinRow.holds Tryz.pinned (OpenSpec.ofChange refsWithinSpec)

/-- ITS FALSE NEIGHBOUR: 'it returns false'. Refute it at one input. -/
def refsWithinWrong : ChangeSpec := { name := "refsWithin", fn := fun _ => fun
  | [d1, d2] => { results := [.lit (.bool false)], args := [d1, d2] }
  | _ => none }
def RefsWithinWrongFalsely : Prop := refsWithinRow.holds Tryz.pinned (OpenSpec.ofChange refsWithinWrong)

/-- 'munimentslaw24.RefsTwice': WHATEVER THE INPUT: true; the input reads as it did. -/
def refsTwiceSpec : ChangeSpec := { name := "refsTwice", fn := fun _ => fun
  | [d1, d2, d3] => { results := [.lit (.bool true)], args := [d1, d2, d3] }
  | _ => none }
def refsTwiceRow : OpenClaim := { program := "ytelbhdobjdnglaagreat", sum := "d710053c2e59aaf584a11353c6a8efc9957bc9fcf2fd3718c263d30e417ab64d", func := "muniments/munimentslaw24.RefsTwice", spec := "refsTwice", inPlace := ["internal/bytealg.Compare"], unfollowed := true, recurses := true, plainKeys := false, apart := false }
def RefsTwiceSaid : Prop := refsTwiceRow.holds Tryz.pinned (OpenSpec.ofChange refsTwiceSpec)

/-- ITS FALSE NEIGHBOUR: 'it returns false'. Refute it at one input. -/
def refsTwiceWrong : ChangeSpec := { name := "refsTwice", fn := fun _ => fun
  | [d1, d2, d3] => { results := [.lit (.bool false)], args := [d1, d2, d3] }
  | _ => none }
def RefsTwiceWrongFalsely : Prop := refsTwiceRow.holds Tryz.pinned (OpenSpec.ofChange refsTwiceWrong)

/-- 'munimentslaw8.ProofTurned': WHATEVER THE INPUT: true; the input reads as it did. -/
def proofTurnedSpec : ChangeSpec := { name := "proofTurned", fn := fun _ => fun
  | [d1, d2, d3, d4, d5] => { results := [.lit (.bool true)], args := [d1, d2, d3, d4, d5] }
  | _ => none }
def proofTurnedRow : OpenClaim := { program := "ytelbhdobjdnglaagreat", sum := "d710053c2e59aaf584a11353c6a8efc9957bc9fcf2fd3718c263d30e417ab64d", func := "muniments/munimentslaw8.ProofTurned", spec := "proofTurned", inPlace := ["internal/bytealg.Compare"], unfollowed := true, recurses := true, plainKeys := false, apart := false }
def ProofTurnedSaid : Prop := proofTurnedRow.holds Tryz.pinned (OpenSpec.ofChange proofTurnedSpec)

/-- ITS FALSE NEIGHBOUR: 'it returns false'. Refute it at one input. -/
def proofTurnedWrong : ChangeSpec := { name := "proofTurned", fn := fun _ => fun
  | [d1, d2, d3, d4, d5] => { results := [.lit (.bool false)], args := [d1, d2, d3, d4, d5] }
  | _ => none }
def ProofTurnedWrongFalsely : Prop := proofTurnedRow.holds Tryz.pinned (OpenSpec.ofChange proofTurnedWrong)

/-- 'munimentslaw24.RefsPlay': WHATEVER THE INPUT: true; the input reads as it did. -/
def refsPlaySpec : ChangeSpec := { name := "refsPlay", fn := fun _ => fun
  | [d] => { results := [.lit (.bool true)], args := [d] }
  | _ => none }
def refsPlayRow : OpenClaim := { program := "ytelbhdobjdnglaagreat", sum := "d710053c2e59aaf584a11353c6a8efc9957bc9fcf2fd3718c263d30e417ab64d", func := "muniments/munimentslaw24.RefsPlay", spec := "refsPlay", inPlace := ["internal/bytealg.Compare"], unfollowed := true, recurses := true, plainKeys := false, apart := false }
def RefsPlaySaid : Prop := refsPlayRow.holds Tryz.pinned (OpenSpec.ofChange refsPlaySpec)

/-- ITS FALSE NEIGHBOUR: 'it returns false'. Refute it at one input. -/
def refsPlayWrong : ChangeSpec := { name := "refsPlay", fn := fun _ => fun
  | [d] => { results := [.lit (.bool false)], args := [d] }
  | _ => none }
def RefsPlayWrongFalsely : Prop := refsPlayRow.holds Tryz.pinned (OpenSpec.ofChange refsPlayWrong)

/- THE SECOND FORM. 'bulk': how many values and letters a reading holds, each counted each time it is reached (what is shared counts as often as it is met; a slice's spare places count too). A statement '..UptoSaid' is the law's where the arguments, and the package variables that the reading takes, are together of bulk at most 1048576: NARROWER than '..Said'. Prove '..Said' where nothing that the law and all that it calls make is longer than what came in: it says more and counts as full. Else prove '..UptoSaid'. A law counts once. -/
mutual
def uptoBulk {H : Type} : DataW H → Nat
  | .lit (.string bytes) => bytes.length + 1
  | .lit _ => 1
  | .nil => 1
  | .ptr d => uptoBulk d + 1
  | .slice elems spare => uptoBulkAll elems + uptoBulkAll spare + 1
  | .agg parts => uptoBulkAll parts + 1
  | .iface _ d => uptoBulk d + 1
  | .map entries => uptoBulkEntries entries + 1
  | .held _ => 1
def uptoBulkAll {H : Type} : List (DataW H) → Nat
  | [] => 0
  | d :: r => uptoBulk d + uptoBulkAll r
def uptoBulkEntries {H : Type} : List (Lit × DataW H) → Nat
  | [] => 0
  | x :: r => uptoBulkEntry x + uptoBulkEntries r
def uptoBulkEntry {H : Type} : Lit × DataW H → Nat
  | (.string bytes, d) => bytes.length + uptoBulk d + 1
  | (_, d) => uptoBulk d + 1
 end
def uptoSmall : (H : Type) → List (DataW H) → Bool := fun _ ds => decide (uptoBulkAll ds ≤ 1048576)
def OpenSpec.upto (s : _root_.Go.ChangeSpec) : _root_.Go.OpenSpec := { _root_.Go.OpenSpec.ofChange s with cond := some uptoSmall }

/-- 'munimentslaw6.TrieNodes', WHERE WHAT IT READS IS OF BULK AT MOST 1048576: true; the input reads as it did. -/
def trieNodesUptoRow : OpenClaim := { program := "ytelbhdobjdnglaagreat", sum := "d710053c2e59aaf584a11353c6a8efc9957bc9fcf2fd3718c263d30e417ab64d", func := "muniments/munimentslaw6.TrieNodes", spec := "trieNodes", inPlace := ["internal/bytealg.Compare"], unfollowed := true, recurses := true, plainKeys := false, apart := false, narrowed := true }
def TrieNodesUptoSaid : Prop := trieNodesUptoRow.holds Tryz.pinned (OpenSpec.upto trieNodesSpec)

/-- 'munimentslaw24.RefsChildren', WHERE WHAT IT READS IS OF BULK AT MOST 1048576: true; the input reads as it did. -/
def refsChildrenUptoRow : OpenClaim := { program := "ytelbhdobjdnglaagreat", sum := "d710053c2e59aaf584a11353c6a8efc9957bc9fcf2fd3718c263d30e417ab64d", func := "muniments/munimentslaw24.RefsChildren", spec := "refsChildren", inPlace := ["internal/bytealg.Compare"], unfollowed := true, recurses := true, plainKeys := false, apart := false, narrowed := true }
def RefsChildrenUptoSaid : Prop := refsChildrenUptoRow.holds Tryz.pinned (OpenSpec.upto refsChildrenSpec)

/-- 'munimentslaw24.RefsLeads', WHERE WHAT IT READS IS OF BULK AT MOST 1048576: true; the input reads as it did. -/
def refsLeadsUptoRow : OpenClaim := { program := "ytelbhdobjdnglaagreat", sum := "d710053c2e59aaf584a11353c6a8efc9957bc9fcf2fd3718c263d30e417ab64d", func := "muniments/munimentslaw24.RefsLeads", spec := "refsLeads", inPlace := ["internal/bytealg.Compare"], unfollowed := true, recurses := true, plainKeys := false, apart := false, narrowed := true }
def RefsLeadsUptoSaid : Prop := refsLeadsUptoRow.holds Tryz.pinned (OpenSpec.upto refsLeadsSpec)

/-- 'munimentslaw24.RefsKeep', WHERE WHAT IT READS IS OF BULK AT MOST 1048576: true; the input reads as it did. -/
def refsKeepUptoRow : OpenClaim := { program := "ytelbhdobjdnglaagreat", sum := "d710053c2e59aaf584a11353c6a8efc9957bc9fcf2fd3718c263d30e417ab64d", func := "muniments/munimentslaw24.RefsKeep", spec := "refsKeep", inPlace := ["internal/bytealg.Compare"], unfollowed := true, recurses := true, plainKeys := false, apart := false, narrowed := true }
def RefsKeepUptoSaid : Prop := refsKeepUptoRow.holds Tryz.pinned (OpenSpec.upto refsKeepSpec)

/-- 'munimentslaw24.RefsWithin', WHERE WHAT IT READS IS OF BULK AT MOST 1048576: true; the input reads as it did. -/
def refsWithinUptoRow : OpenClaim := { program := "ytelbhdobjdnglaagreat", sum := "d710053c2e59aaf584a11353c6a8efc9957bc9fcf2fd3718c263d30e417ab64d", func := "muniments/munimentslaw24.RefsWithin", spec := "refsWithin", inPlace := ["internal/bytealg.Compare"], unfollowed := true, recurses := true, plainKeys := false, apart := false, narrowed := true }
def RefsWithinUptoSaid : Prop := refsWithinUptoRow.holds Tryz.pinned (OpenSpec.upto refsWithinSpec)

/-- 'munimentslaw24.RefsTwice', WHERE WHAT IT READS IS OF BULK AT MOST 1048576: true; the input reads as it did. -/
def refsTwiceUptoRow : OpenClaim := { program := "ytelbhdobjdnglaagreat", sum := "d710053c2e59aaf584a11353c6a8efc9957bc9fcf2fd3718c263d30e417ab64d", func := "muniments/munimentslaw24.RefsTwice", spec := "refsTwice", inPlace := ["internal/bytealg.Compare"], unfollowed := true, recurses := true, plainKeys := false, apart := false, narrowed := true }
def RefsTwiceUptoSaid : Prop := refsTwiceUptoRow.holds Tryz.pinned (OpenSpec.upto refsTwiceSpec)

/-- 'munimentslaw8.ProofTurned', WHERE WHAT IT READS IS OF BULK AT MOST 1048576: true; the input reads as it did. -/
def proofTurnedUptoRow : OpenClaim := { program := "ytelbhdobjdnglaagreat", sum := "d710053c2e59aaf584a11353c6a8efc9957bc9fcf2fd3718c263d30e417ab64d", func := "muniments/munimentslaw8.ProofTurned", spec := "proofTurned", inPlace := ["internal/bytealg.Compare"], unfollowed := true, recurses := true, plainKeys := false, apart := false, narrowed := true }
def ProofTurnedUptoSaid : Prop := proofTurnedUptoRow.holds Tryz.pinned (OpenSpec.upto proofTurnedSpec)

/-- 'munimentslaw24.RefsPlay', WHERE WHAT IT READS IS OF BULK AT MOST 1048576: true; the input reads as it did. -/
def refsPlayUptoRow : OpenClaim := { program := "ytelbhdobjdnglaagreat", sum := "d710053c2e59aaf584a11353c6a8efc9957bc9fcf2fd3718c263d30e417ab64d", func := "muniments/munimentslaw24.RefsPlay", spec := "refsPlay", inPlace := ["internal/bytealg.Compare"], unfollowed := true, recurses := true, plainKeys := false, apart := false, narrowed := true }
def RefsPlayUptoSaid : Prop := refsPlayUptoRow.holds Tryz.pinned (OpenSpec.upto refsPlaySpec)

end Rows
end Go.Proofs.YtelbhdobjdnglaaGreat
