/-
  No cell of these rows narrows 'for every input' (looked for: loops, veiled, ifaces, maps, wideKeys, modest, calm, conditions, laid).
  DERIVED. THE GIVEN ROWS OF THIS SEAT. 5 by the template 'for every input the law returns true; each argument reads behind the call as it read before'; 0 by the template 'total and deterministic' (their statements: YtmlajcbabimkjaaTotals.lean).
  GIVEN WITH THE SEED: the statements are not yours to turn. If you find one false, say at which input.
  Laid BY PROGRAM, IN A SANDBOX (cutbox-rows.mjs): the forced cells as the released guide's own fill.sh prints them over the translation 584aee45a0e0cad8… (all of the seat's roots in one cut). By AI agents, Wed Nov 11 2026. No macro, syntax, notation, axiom, sorry.
-/
import Derived.Test.YtmlajcbabimkjaaChecked
import GoSem.Claim
import GoSem.ClaimJoined
import GoSem.ClaimMapViews
import Derived.JoinedTies
import Derived.KernelRfl
namespace Go.Proofs.Ytmlajcbabimkjaa
/- THE CELL 'sum', in the pinned program and in every row, IS THE sha256 OF THE DUMP (.gsa) THAT YtmlajcbabimkjaaProg.lean LOADS. Nothing in Lean hashes anything: it is a label: what it is worth is what the hold of that sum in a sandbox is worth. -/
noncomputable def Try.pinned : Pinned := { name := "ytmlajcbabimkjaa", sum := "584aee45a0e0cad8c8bb68bafdc27db02dd4f93ade37dfa1b05174d588f06c27", checked := Try.checked }
namespace Rows
def none {H : Type} : Left H := { results := [], args := [] }

/-- 'munimentslaw6.TrieOrder': WHATEVER THE INPUT: true; the input reads as it did. -/
def trieOrderSpec : ChangeSpec := { name := "trieOrder", fn := fun _ => fun
  | [d1, d2, d3] => { results := [.lit (.bool true)], args := [d1, d2, d3] }
  | _ => none }
def trieOrderRow : OpenClaim := { program := "ytmlajcbabimkjaa", sum := "584aee45a0e0cad8c8bb68bafdc27db02dd4f93ade37dfa1b05174d588f06c27", func := "muniments/munimentslaw6.TrieOrder", spec := "trieOrder", inPlace := ["internal/bytealg.Compare"], unfollowed := true, recurses := true, plainKeys := false, apart := false }
def TrieOrderSaid : Prop := trieOrderRow.holds Try.pinned (OpenSpec.ofChange trieOrderSpec)

/-- ITS FALSE NEIGHBOUR: 'it returns false'. Refute it at one input. -/
def trieOrderWrong : ChangeSpec := { name := "trieOrder", fn := fun _ => fun
  | [d1, d2, d3] => { results := [.lit (.bool false)], args := [d1, d2, d3] }
  | _ => none }
def TrieOrderWrongFalsely : Prop := trieOrderRow.holds Try.pinned (OpenSpec.ofChange trieOrderWrong)

/-- 'munimentslaw6.TrieTwo': WHATEVER THE INPUT: true; the input reads as it did. -/
def trieTwoSpec : ChangeSpec := { name := "trieTwo", fn := fun _ => fun
  | [d1, d2, d3, d4] => { results := [.lit (.bool true)], args := [d1, d2, d3, d4] }
  | _ => none }
def trieTwoRow : OpenClaim := { program := "ytmlajcbabimkjaa", sum := "584aee45a0e0cad8c8bb68bafdc27db02dd4f93ade37dfa1b05174d588f06c27", func := "muniments/munimentslaw6.TrieTwo", spec := "trieTwo", inPlace := ["internal/bytealg.Compare"], unfollowed := true, recurses := true, plainKeys := false, apart := false }
def TrieTwoSaid : Prop := trieTwoRow.holds Try.pinned (OpenSpec.ofChange trieTwoSpec)

/-- ITS FALSE NEIGHBOUR: 'it returns false'. Refute it at one input. -/
def trieTwoWrong : ChangeSpec := { name := "trieTwo", fn := fun _ => fun
  | [d1, d2, d3, d4] => { results := [.lit (.bool false)], args := [d1, d2, d3, d4] }
  | _ => none }
def TrieTwoWrongFalsely : Prop := trieTwoRow.holds Try.pinned (OpenSpec.ofChange trieTwoWrong)

/-- 'munimentslaw6.TrieWrong': WHATEVER THE INPUT: true; the input reads as it did. -/
def trieWrongSpec : ChangeSpec := { name := "trieWrong", fn := fun _ => fun
  | [d1, d2] => { results := [.lit (.bool true)], args := [d1, d2] }
  | _ => none }
def trieWrongRow : OpenClaim := { program := "ytmlajcbabimkjaa", sum := "584aee45a0e0cad8c8bb68bafdc27db02dd4f93ade37dfa1b05174d588f06c27", func := "muniments/munimentslaw6.TrieWrong", spec := "trieWrong", inPlace := ["internal/bytealg.Compare"], unfollowed := true, recurses := true, plainKeys := false, apart := false }
def TrieWrongSaid : Prop := trieWrongRow.holds Try.pinned (OpenSpec.ofChange trieWrongSpec)

/-- ITS FALSE NEIGHBOUR: 'it returns false'. Refute it at one input. -/
def trieWrongWrong : ChangeSpec := { name := "trieWrong", fn := fun _ => fun
  | [d1, d2] => { results := [.lit (.bool false)], args := [d1, d2] }
  | _ => none }
def TrieWrongWrongFalsely : Prop := trieWrongRow.holds Try.pinned (OpenSpec.ofChange trieWrongWrong)

/-- 'munimentslaw9.AcctWrong': WHATEVER THE INPUT: true; the input reads as it did. -/
def acctWrongSpec : ChangeSpec := { name := "acctWrong", fn := fun _ => fun
  | [d] => { results := [.lit (.bool true)], args := [d] }
  | _ => none }
def acctWrongRow : OpenClaim := { program := "ytmlajcbabimkjaa", sum := "584aee45a0e0cad8c8bb68bafdc27db02dd4f93ade37dfa1b05174d588f06c27", func := "muniments/munimentslaw9.AcctWrong", spec := "acctWrong", inPlace := ["internal/bytealg.Compare"], unfollowed := true, recurses := true, plainKeys := false, apart := false }
def AcctWrongSaid : Prop := acctWrongRow.holds Try.pinned (OpenSpec.ofChange acctWrongSpec)

/-- ITS FALSE NEIGHBOUR: 'it returns false'. Refute it at one input. -/
def acctWrongWrong : ChangeSpec := { name := "acctWrong", fn := fun _ => fun
  | [d] => { results := [.lit (.bool false)], args := [d] }
  | _ => none }
def AcctWrongWrongFalsely : Prop := acctWrongRow.holds Try.pinned (OpenSpec.ofChange acctWrongWrong)

/-- 'munimentslaw9.AcctBodies': WHATEVER THE INPUT: true; the input reads as it did. -/
def acctBodiesSpec : ChangeSpec := { name := "acctBodies", fn := fun _ => fun
  | [d1, d2] => { results := [.lit (.bool true)], args := [d1, d2] }
  | _ => none }
def acctBodiesRow : OpenClaim := { program := "ytmlajcbabimkjaa", sum := "584aee45a0e0cad8c8bb68bafdc27db02dd4f93ade37dfa1b05174d588f06c27", func := "muniments/munimentslaw9.AcctBodies", spec := "acctBodies", inPlace := ["internal/bytealg.Compare"], unfollowed := true, recurses := true, plainKeys := false, apart := false }
def AcctBodiesSaid : Prop := acctBodiesRow.holds Try.pinned (OpenSpec.ofChange acctBodiesSpec)

/-- ITS FALSE NEIGHBOUR: 'it returns false'. Refute it at one input. -/
def acctBodiesWrong : ChangeSpec := { name := "acctBodies", fn := fun _ => fun
  | [d1, d2] => { results := [.lit (.bool false)], args := [d1, d2] }
  | _ => none }
def AcctBodiesWrongFalsely : Prop := acctBodiesRow.holds Try.pinned (OpenSpec.ofChange acctBodiesWrong)

/- THE SECOND FORM. 'bulk': how many values and letters a reading holds, each counted each time it is reached (what is shared counts as often as it is met; a slice's spare places count too). A statement '..UptoSaid' is the law's where the arguments, and the package variables that the reading takes, are together of bulk at most 1048576: NARROWER than '..Said'. Prove '..Said' where nothing that the law and all that it calls make is longer than what came in: it says more and counts as full. Else prove '..UptoSaid'. A law counts once. -/
mutual
def uptoBulk {H : Type} : DataW H → Nat
  | .lit (.string bytes) => bytes.length + 1
  | .lit _ => 1
  | .nil => 1
  | .ptr d => uptoBulk d + 1
  | .slice elems spare => uptoBulkAll elems + uptoBulkAll spare + 1
  | .agg parts => uptoBulkAll parts + 1
  | .iface _ d => uptoBulk d + 1
  | .map entries => uptoBulkEntries entries + 1
  | .held _ => 1
def uptoBulkAll {H : Type} : List (DataW H) → Nat
  | [] => 0
  | d :: r => uptoBulk d + uptoBulkAll r
def uptoBulkEntries {H : Type} : List (Lit × DataW H) → Nat
  | [] => 0
  | x :: r => uptoBulkEntry x + uptoBulkEntries r
def uptoBulkEntry {H : Type} : Lit × DataW H → Nat
  | (.string bytes, d) => bytes.length + uptoBulk d + 1
  | (_, d) => uptoBulk d + 1
 end
def uptoSmall : (H : Type) → List (DataW H) → Bool := fun _ ds => decide (uptoBulkAll ds ≤ 1048576)
def OpenSpec.upto (s : _root_.Go.ChangeSpec) : _root_.Go.OpenSpec := { _root_.Go.OpenSpec.ofChange s with cond := some uptoSmall }

/-- 'munimentslaw6.TrieOrder', WHERE WHAT IT READS IS OF BULK AT MOST 1048576: true; the input reads as it did. -/
def trieOrderUptoRow : OpenClaim := { program := "ytmlajcbabimkjaa", sum := "584aee45a0e0cad8c8bb68bafdc27db02dd4f93ade37dfa1b05174d588f06c27", func := "muniments/munimentslaw6.TrieOrder", spec := "trieOrder", inPlace := ["internal/bytealg.Compare"], unfollowed := true, recurses := true, plainKeys := false, apart := false, narrowed := true }
def TrieOrderUptoSaid : Prop := trieOrderUptoRow.holds Try.pinned (OpenSpec.upto trieOrderSpec)

/-- 'munimentslaw6.TrieTwo', WHERE WHAT IT READS IS OF BULK AT MOST 1048576: true; the input reads as it did. -/
def trieTwoUptoRow : OpenClaim := { program := "ytmlajcbabimkjaa", sum := "584aee45a0e0cad8c8bb68bafdc27db02dd4f93ade37dfa1b05174d588f06c27", func := "muniments/munimentslaw6.TrieTwo", spec := "trieTwo", inPlace := ["internal/bytealg.Compare"], unfollowed := true, recurses := true, plainKeys := false, apart := false, narrowed := true }
def TrieTwoUptoSaid : Prop := trieTwoUptoRow.holds Try.pinned (OpenSpec.upto trieTwoSpec)

/-- 'munimentslaw6.TrieWrong', WHERE WHAT IT READS IS OF BULK AT MOST 1048576: true; the input reads as it did. -/
def trieWrongUptoRow : OpenClaim := { program := "ytmlajcbabimkjaa", sum := "584aee45a0e0cad8c8bb68bafdc27db02dd4f93ade37dfa1b05174d588f06c27", func := "muniments/munimentslaw6.TrieWrong", spec := "trieWrong", inPlace := ["internal/bytealg.Compare"], unfollowed := true, recurses := true, plainKeys := false, apart := false, narrowed := true }
def TrieWrongUptoSaid : Prop := trieWrongUptoRow.holds Try.pinned (OpenSpec.upto trieWrongSpec)

/-- 'munimentslaw9.AcctWrong', WHERE WHAT IT READS IS OF BULK AT MOST 1048576: true; the input reads as it did. -/
def acctWrongUptoRow : OpenClaim := { program := "ytmlajcbabimkjaa", sum := "584aee45a0e0cad8c8bb68bafdc27db02dd4f93ade37dfa1b05174d588f06c27", func := "muniments/munimentslaw9.AcctWrong", spec := "acctWrong", inPlace := ["internal/bytealg.Compare"], unfollowed := true, recurses := true, plainKeys := false, apart := false, narrowed := true }
def AcctWrongUptoSaid : Prop := acctWrongUptoRow.holds Try.pinned (OpenSpec.upto acctWrongSpec)

/-- 'munimentslaw9.AcctBodies', WHERE WHAT IT READS IS OF BULK AT MOST 1048576: true; the input reads as it did. -/
def acctBodiesUptoRow : OpenClaim := { program := "ytmlajcbabimkjaa", sum := "584aee45a0e0cad8c8bb68bafdc27db02dd4f93ade37dfa1b05174d588f06c27", func := "muniments/munimentslaw9.AcctBodies", spec := "acctBodies", inPlace := ["internal/bytealg.Compare"], unfollowed := true, recurses := true, plainKeys := false, apart := false, narrowed := true }
def AcctBodiesUptoSaid : Prop := acctBodiesUptoRow.holds Try.pinned (OpenSpec.upto acctBodiesSpec)

end Rows
end Go.Proofs.Ytmlajcbabimkjaa
