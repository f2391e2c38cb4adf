/-
  No cell of these rows narrows 'for every input' (looked for: loops, veiled, ifaces, maps, wideKeys, modest, calm, conditions, laid).
  DERIVED. THE GIVEN ROWS OF THIS SEAT. 5 by the template 'for every input the law returns true; each argument reads behind the call as it read before'; 0 by the template 'total and deterministic' (their statements: YtmlajcbabimkjaaGreatTotals.lean).
  GIVEN WITH THE SEED: the statements are not yours to turn. If you find one false, say at which input.
  Laid BY PROGRAM, IN A SANDBOX (cutbox-rows.mjs): the forced cells as the released guide's own fill.sh prints them over the translation 3e8808ccdf43616b… (all of the seat's roots in one cut). By AI agents, Wed Nov 11 2026. No macro, syntax, notation, axiom, sorry.
-/
import Derived.Test.YtmlajcbabimkjaaGreatChecked
import GoSem.Claim
import GoSem.ClaimJoined
import GoSem.ClaimMapViews
import Derived.JoinedTies
import Derived.KernelRfl
namespace Go.Proofs.YtmlajcbabimkjaaGreat
/- THE CELL 'sum', in the pinned program and in every row, IS THE sha256 OF THE DUMP (.gsa) THAT YtmlajcbabimkjaaGreatProg.lean LOADS. Nothing in Lean hashes anything: it is a label: what it is worth is what the hold of that sum in a sandbox is worth. -/
noncomputable def Tryz.pinned : Pinned := { name := "ytmlajcbabimkjaagreat", sum := "3e8808ccdf43616bdf208b807ca1aea5ac1ca8ab99e3964cb3e3bbb0bb391307", checked := Tryz.checked }
namespace Rows
def none {H : Type} : Left H := { results := [], args := [] }

/-- 'munimentslaw9.AcctApart': WHATEVER THE INPUT: true; the input reads as it did. -/
def acctApartSpec : ChangeSpec := { name := "acctApart", fn := fun _ => fun
  | [d1, d2, d3] => { results := [.lit (.bool true)], args := [d1, d2, d3] }
  | _ => none }
def acctApartRow : OpenClaim := { program := "ytmlajcbabimkjaagreat", sum := "3e8808ccdf43616bdf208b807ca1aea5ac1ca8ab99e3964cb3e3bbb0bb391307", func := "muniments/munimentslaw9.AcctApart", spec := "acctApart", inPlace := ["internal/bytealg.Compare"], unfollowed := true, recurses := true, plainKeys := false, apart := false }
def AcctApartSaid : Prop := acctApartRow.holds Tryz.pinned (OpenSpec.ofChange acctApartSpec)

/-- ITS FALSE NEIGHBOUR: 'it returns false'. Refute it at one input. -/
def acctApartWrong : ChangeSpec := { name := "acctApart", fn := fun _ => fun
  | [d1, d2, d3] => { results := [.lit (.bool false)], args := [d1, d2, d3] }
  | _ => none }
def AcctApartWrongFalsely : Prop := acctApartRow.holds Tryz.pinned (OpenSpec.ofChange acctApartWrong)

/-- 'munimentslaw6.TrieTells': WHATEVER THE INPUT: true; the input reads as it did. -/
def trieTellsSpec : ChangeSpec := { name := "trieTells", fn := fun _ => fun
  | [d] => { results := [.lit (.bool true)], args := [d] }
  | _ => none }
def trieTellsRow : OpenClaim := { program := "ytmlajcbabimkjaagreat", sum := "3e8808ccdf43616bdf208b807ca1aea5ac1ca8ab99e3964cb3e3bbb0bb391307", func := "muniments/munimentslaw6.TrieTells", spec := "trieTells", inPlace := ["internal/bytealg.Compare"], unfollowed := true, recurses := true, plainKeys := false, apart := false }
def TrieTellsSaid : Prop := trieTellsRow.holds Tryz.pinned (OpenSpec.ofChange trieTellsSpec)

/-- ITS FALSE NEIGHBOUR: 'it returns false'. Refute it at one input. -/
def trieTellsWrong : ChangeSpec := { name := "trieTells", fn := fun _ => fun
  | [d] => { results := [.lit (.bool false)], args := [d] }
  | _ => none }
def TrieTellsWrongFalsely : Prop := trieTellsRow.holds Tryz.pinned (OpenSpec.ofChange trieTellsWrong)

/-- 'munimentslaw6.TrieNodes': WHATEVER THE INPUT: true; the input reads as it did. -/
def trieNodesSpec : ChangeSpec := { name := "trieNodes", fn := fun _ => fun
  | [d] => { results := [.lit (.bool true)], args := [d] }
  | _ => none }
def trieNodesRow : OpenClaim := { program := "ytmlajcbabimkjaagreat", sum := "3e8808ccdf43616bdf208b807ca1aea5ac1ca8ab99e3964cb3e3bbb0bb391307", func := "muniments/munimentslaw6.TrieNodes", spec := "trieNodes", inPlace := ["internal/bytealg.Compare"], unfollowed := true, recurses := true, plainKeys := false, apart := false }
def TrieNodesSaid : Prop := trieNodesRow.holds Tryz.pinned (OpenSpec.ofChange trieNodesSpec)

/-- ITS FALSE NEIGHBOUR: 'it returns false'. Refute it at one input. -/
def trieNodesWrong : ChangeSpec := { name := "trieNodes", fn := fun _ => fun
  | [d] => { results := [.lit (.bool false)], args := [d] }
  | _ => none }
def TrieNodesWrongFalsely : Prop := trieNodesRow.holds Tryz.pinned (OpenSpec.ofChange trieNodesWrong)

/-- 'munimentslaw6.TrieOne': WHATEVER THE INPUT: true; the input reads as it did. -/
def trieOneSpec : ChangeSpec := { name := "trieOne", fn := fun _ => fun
  | [d1, d2] => { results := [.lit (.bool true)], args := [d1, d2] }
  | _ => none }
def trieOneRow : OpenClaim := { program := "ytmlajcbabimkjaagreat", sum := "3e8808ccdf43616bdf208b807ca1aea5ac1ca8ab99e3964cb3e3bbb0bb391307", func := "muniments/munimentslaw6.TrieOne", spec := "trieOne", inPlace := ["internal/bytealg.Compare"], unfollowed := true, recurses := true, plainKeys := false, apart := false }
def TrieOneSaid : Prop := trieOneRow.holds Tryz.pinned (OpenSpec.ofChange trieOneSpec)

/-- ITS FALSE NEIGHBOUR: 'it returns false'. Refute it at one input. -/
def trieOneWrong : ChangeSpec := { name := "trieOne", fn := fun _ => fun
  | [d1, d2] => { results := [.lit (.bool false)], args := [d1, d2] }
  | _ => none }
def TrieOneWrongFalsely : Prop := trieOneRow.holds Tryz.pinned (OpenSpec.ofChange trieOneWrong)

/-- 'munimentslaw9.AcctRoots': WHATEVER THE INPUT: true; the input reads as it did. -/
def acctRootsSpec : ChangeSpec := { name := "acctRoots", fn := fun _ => fun
  | [d1, d2] => { results := [.lit (.bool true)], args := [d1, d2] }
  | _ => none }
def acctRootsRow : OpenClaim := { program := "ytmlajcbabimkjaagreat", sum := "3e8808ccdf43616bdf208b807ca1aea5ac1ca8ab99e3964cb3e3bbb0bb391307", func := "muniments/munimentslaw9.AcctRoots", spec := "acctRoots", inPlace := ["internal/bytealg.Compare"], unfollowed := true, recurses := true, plainKeys := false, apart := false }
def AcctRootsSaid : Prop := acctRootsRow.holds Tryz.pinned (OpenSpec.ofChange acctRootsSpec)

/-- ITS FALSE NEIGHBOUR: 'it returns false'. Refute it at one input. -/
def acctRootsWrong : ChangeSpec := { name := "acctRoots", fn := fun _ => fun
  | [d1, d2] => { results := [.lit (.bool false)], args := [d1, d2] }
  | _ => none }
def AcctRootsWrongFalsely : Prop := acctRootsRow.holds Tryz.pinned (OpenSpec.ofChange acctRootsWrong)

/- THE SECOND FORM. 'bulk': how many values and letters a reading holds, each counted each time it is reached (what is shared counts as often as it is met; a slice's spare places count too). A statement '..UptoSaid' is the law's where the arguments, and the package variables that the reading takes, are together of bulk at most 1048576: NARROWER than '..Said'. Prove '..Said' where nothing that the law and all that it calls make is longer than what came in: it says more and counts as full. Else prove '..UptoSaid'. A law counts once. -/
mutual
def uptoBulk {H : Type} : DataW H → Nat
  | .lit (.string bytes) => bytes.length + 1
  | .lit _ => 1
  | .nil => 1
  | .ptr d => uptoBulk d + 1
  | .slice elems spare => uptoBulkAll elems + uptoBulkAll spare + 1
  | .agg parts => uptoBulkAll parts + 1
  | .iface _ d => uptoBulk d + 1
  | .map entries => uptoBulkEntries entries + 1
  | .held _ => 1
def uptoBulkAll {H : Type} : List (DataW H) → Nat
  | [] => 0
  | d :: r => uptoBulk d + uptoBulkAll r
def uptoBulkEntries {H : Type} : List (Lit × DataW H) → Nat
  | [] => 0
  | x :: r => uptoBulkEntry x + uptoBulkEntries r
def uptoBulkEntry {H : Type} : Lit × DataW H → Nat
  | (.string bytes, d) => bytes.length + uptoBulk d + 1
  | (_, d) => uptoBulk d + 1
 end
def uptoSmall : (H : Type) → List (DataW H) → Bool := fun _ ds => decide (uptoBulkAll ds ≤ 1048576)
def OpenSpec.upto (s : _root_.Go.ChangeSpec) : _root_.Go.OpenSpec := { _root_.Go.OpenSpec.ofChange s with cond := some uptoSmall }

/-- 'munimentslaw9.AcctApart', WHERE WHAT IT READS IS OF BULK AT MOST 1048576: true; the input reads as it did. -/
def acctApartUptoRow : OpenClaim := { program := "ytmlajcbabimkjaagreat", sum := "3e8808ccdf43616bdf208b807ca1aea5ac1ca8ab99e3964cb3e3bbb0bb391307", func := "muniments/munimentslaw9.AcctApart", spec := "acctApart", inPlace := ["internal/bytealg.Compare"], unfollowed := true, recurses := true, plainKeys := false, apart := false, narrowed := true }
def AcctApartUptoSaid : Prop := acctApartUptoRow.holds Tryz.pinned (OpenSpec.upto acctApartSpec)

/-- 'munimentslaw6.TrieTells', WHERE WHAT IT READS IS OF BULK AT MOST 1048576: true; the input reads as it did. -/
def trieTellsUptoRow : OpenClaim := { program := "ytmlajcbabimkjaagreat", sum := "3e8808ccdf43616bdf208b807ca1aea5ac1ca8ab99e3964cb3e3bbb0bb391307", func := "muniments/munimentslaw6.TrieTells", spec := "trieTells", inPlace := ["internal/bytealg.Compare"], unfollowed := true, recurses := true, plainKeys := false, apart := false, narrowed := true }
def TrieTellsUptoSaid : Prop := trieTellsUptoRow.holds Tryz.pinned (OpenSpec.upto trieTellsSpec)

/-- 'munimentslaw6.TrieNodes', WHERE WHAT IT READS IS OF BULK AT MOST 1048576: true; the input reads as it did. -/
def trieNodesUptoRow : OpenClaim := { program := "ytmlajcbabimkjaagreat", sum := "3e8808ccdf43616bdf208b807ca1aea5ac1ca8ab99e3964cb3e3bbb0bb391307", func := "muniments/munimentslaw6.TrieNodes", spec := "trieNodes", inPlace := ["internal/bytealg.Compare"], unfollowed := true, recurses := true, plainKeys := false, apart := false, narrowed := true }
def TrieNodesUptoSaid : Prop := trieNodesUptoRow.holds Tryz.pinned (OpenSpec.upto trieNodesSpec)

/-- 'munimentslaw6.TrieOne', WHERE WHAT IT READS IS OF BULK AT MOST 1048576: true; the input reads as it did. -/
def trieOneUptoRow : OpenClaim := { program := "ytmlajcbabimkjaagreat", sum := "3e8808ccdf43616bdf208b807ca1aea5ac1ca8ab99e3964cb3e3bbb0bb391307", func := "muniments/munimentslaw6.TrieOne", spec := "trieOne", inPlace := ["internal/bytealg.Compare"], unfollowed := true, recurses := true, plainKeys := false, apart := false, narrowed := true }
def TrieOneUptoSaid : Prop := trieOneUptoRow.holds Tryz.pinned (OpenSpec.upto trieOneSpec)

/-- 'munimentslaw9.AcctRoots', WHERE WHAT IT READS IS OF BULK AT MOST 1048576: true; the input reads as it did. -/
def acctRootsUptoRow : OpenClaim := { program := "ytmlajcbabimkjaagreat", sum := "3e8808ccdf43616bdf208b807ca1aea5ac1ca8ab99e3964cb3e3bbb0bb391307", func := "muniments/munimentslaw9.AcctRoots", spec := "acctRoots", inPlace := ["internal/bytealg.Compare"], unfollowed := true, recurses := true, plainKeys := false, apart := false, narrowed := true }
def AcctRootsUptoSaid : Prop := acctRootsUptoRow.holds Tryz.pinned (OpenSpec.upto acctRootsSpec)

end Rows
end Go.Proofs.YtmlajcbabimkjaaGreat
