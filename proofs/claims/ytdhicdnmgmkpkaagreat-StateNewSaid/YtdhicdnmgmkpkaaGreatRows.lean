/-
  No cell of these rows narrows 'for every input' (looked for: loops, veiled, ifaces, maps, wideKeys, modest, calm, conditions, laid).
  DERIVED. THE GIVEN ROWS OF THIS SEAT. 8 by the template 'for every input the law returns true; each argument reads behind the call as it read before'; 0 by the template 'total and deterministic' (their statements: YtdhicdnmgmkpkaaGreatTotals.lean).
  GIVEN WITH THE SEED: the statements are not yours to turn. If you find one false, say at which input.
  Laid BY PROGRAM, IN A SANDBOX (cutbox-rows.mjs): the forced cells as the released guide's own fill.sh prints them over the translation 50c3c4d8fb9113dc… (all of the seat's roots in one cut). By AI agents, Wed Nov 11 2026. No macro, syntax, notation, axiom, sorry.
-/
import Derived.Test.YtdhicdnmgmkpkaaGreatChecked
import GoSem.Claim
import GoSem.ClaimJoined
import GoSem.ClaimMapViews
import Derived.JoinedTies
import Derived.KernelRfl
namespace Go.Proofs.YtdhicdnmgmkpkaaGreat
/- THE CELL 'sum', in the pinned program and in every row, IS THE sha256 OF THE DUMP (.gsa) THAT YtdhicdnmgmkpkaaGreatProg.lean LOADS. Nothing in Lean hashes anything: it is a label: what it is worth is what the hold of that sum in a sandbox is worth. -/
noncomputable def Tryz.pinned : Pinned := { name := "ytdhicdnmgmkpkaagreat", sum := "50c3c4d8fb9113dc924ba8d35f3d2ef1691ff95901bb2f465d6c0b31e8a8feff", checked := Tryz.checked }
namespace Rows
def none {H : Type} : Left H := { results := [], args := [] }

/-- 'munimentslaw10.StateCopies': WHATEVER THE INPUT: true; the input reads as it did. -/
def stateCopiesSpec : ChangeSpec := { name := "stateCopies", fn := fun _ => fun
  | [d1, d2, d3] => { results := [.lit (.bool true)], args := [d1, d2, d3] }
  | _ => none }
def stateCopiesRow : OpenClaim := { program := "ytdhicdnmgmkpkaagreat", sum := "50c3c4d8fb9113dc924ba8d35f3d2ef1691ff95901bb2f465d6c0b31e8a8feff", func := "muniments/munimentslaw10.StateCopies", spec := "stateCopies", inPlace := ["math/bits.Add64", "math/bits.Sub64", "internal/bytealg.Compare"], unfollowed := true, recurses := true, plainKeys := false, apart := false }
def StateCopiesSaid : Prop := stateCopiesRow.holds Tryz.pinned (OpenSpec.ofChange stateCopiesSpec)

/-- ITS FALSE NEIGHBOUR: 'it returns false'. Refute it at one input. -/
def stateCopiesWrong : ChangeSpec := { name := "stateCopies", fn := fun _ => fun
  | [d1, d2, d3] => { results := [.lit (.bool false)], args := [d1, d2, d3] }
  | _ => none }
def StateCopiesWrongFalsely : Prop := stateCopiesRow.holds Tryz.pinned (OpenSpec.ofChange stateCopiesWrong)

/-- 'munimentslaw25.SnapPlays': WHATEVER THE INPUT: true; the input reads as it did. -/
def snapPlaysSpec : ChangeSpec := { name := "snapPlays", fn := fun _ => fun
  | [d1, d2, d3] => { results := [.lit (.bool true)], args := [d1, d2, d3] }
  | _ => none }
def snapPlaysRow : OpenClaim := { program := "ytdhicdnmgmkpkaagreat", sum := "50c3c4d8fb9113dc924ba8d35f3d2ef1691ff95901bb2f465d6c0b31e8a8feff", func := "muniments/munimentslaw25.SnapPlays", spec := "snapPlays", inPlace := ["internal/bytealg.Compare"], unfollowed := true, recurses := true, plainKeys := false, apart := false }
def SnapPlaysSaid : Prop := snapPlaysRow.holds Tryz.pinned (OpenSpec.ofChange snapPlaysSpec)

/-- ITS FALSE NEIGHBOUR: 'it returns false'. Refute it at one input. -/
def snapPlaysWrong : ChangeSpec := { name := "snapPlays", fn := fun _ => fun
  | [d1, d2, d3] => { results := [.lit (.bool false)], args := [d1, d2, d3] }
  | _ => none }
def SnapPlaysWrongFalsely : Prop := snapPlaysRow.holds Tryz.pinned (OpenSpec.ofChange snapPlaysWrong)

/-- 'munimentslaw25.SnapBetween': WHATEVER THE INPUT: true; the input reads as it did. -/
def snapBetweenSpec : ChangeSpec := { name := "snapBetween", fn := fun _ => fun
  | [d1, d2] => { results := [.lit (.bool true)], args := [d1, d2] }
  | _ => none }
def snapBetweenRow : OpenClaim := { program := "ytdhicdnmgmkpkaagreat", sum := "50c3c4d8fb9113dc924ba8d35f3d2ef1691ff95901bb2f465d6c0b31e8a8feff", func := "muniments/munimentslaw25.SnapBetween", spec := "snapBetween", inPlace := ["internal/bytealg.Compare"], unfollowed := true, recurses := true, plainKeys := false, apart := false }
def SnapBetweenSaid : Prop := snapBetweenRow.holds Tryz.pinned (OpenSpec.ofChange snapBetweenSpec)

/-- ITS FALSE NEIGHBOUR: 'it returns false'. Refute it at one input. -/
def snapBetweenWrong : ChangeSpec := { name := "snapBetween", fn := fun _ => fun
  | [d1, d2] => { results := [.lit (.bool false)], args := [d1, d2] }
  | _ => none }
def SnapBetweenWrongFalsely : Prop := snapBetweenRow.holds Tryz.pinned (OpenSpec.ofChange snapBetweenWrong)

/-- 'munimentslaw25.SnapNone': WHATEVER THE INPUT: true; the input reads as it did. -/
def snapNoneSpec : ChangeSpec := { name := "snapNone", fn := fun _ => fun
  | [d] => { results := [.lit (.bool true)], args := [d] }
  | _ => none }
def snapNoneRow : OpenClaim := { program := "ytdhicdnmgmkpkaagreat", sum := "50c3c4d8fb9113dc924ba8d35f3d2ef1691ff95901bb2f465d6c0b31e8a8feff", func := "muniments/munimentslaw25.SnapNone", spec := "snapNone", inPlace := ["internal/bytealg.Compare"], unfollowed := true, recurses := true, plainKeys := false, apart := false }
def SnapNoneSaid : Prop := snapNoneRow.holds Tryz.pinned (OpenSpec.ofChange snapNoneSpec)

/-- ITS FALSE NEIGHBOUR: 'it returns false'. Refute it at one input. -/
def snapNoneWrong : ChangeSpec := { name := "snapNone", fn := fun _ => fun
  | [d] => { results := [.lit (.bool false)], args := [d] }
  | _ => none }
def SnapNoneWrongFalsely : Prop := snapNoneRow.holds Tryz.pinned (OpenSpec.ofChange snapNoneWrong)

/-- 'munimentslaw25.SnapChain': WHATEVER THE INPUT: true; the input reads as it did. -/
def snapChainSpec : ChangeSpec := { name := "snapChain", fn := fun _ => fun
  | [d1, d2] => { results := [.lit (.bool true)], args := [d1, d2] }
  | _ => none }
def snapChainRow : OpenClaim := { program := "ytdhicdnmgmkpkaagreat", sum := "50c3c4d8fb9113dc924ba8d35f3d2ef1691ff95901bb2f465d6c0b31e8a8feff", func := "muniments/munimentslaw25.SnapChain", spec := "snapChain", inPlace := ["internal/bytealg.Compare"], unfollowed := true, recurses := true, plainKeys := false, apart := false }
def SnapChainSaid : Prop := snapChainRow.holds Tryz.pinned (OpenSpec.ofChange snapChainSpec)

/-- ITS FALSE NEIGHBOUR: 'it returns false'. Refute it at one input. -/
def snapChainWrong : ChangeSpec := { name := "snapChain", fn := fun _ => fun
  | [d1, d2] => { results := [.lit (.bool false)], args := [d1, d2] }
  | _ => none }
def SnapChainWrongFalsely : Prop := snapChainRow.holds Tryz.pinned (OpenSpec.ofChange snapChainWrong)

/-- 'munimentslaw10.StateNew': WHATEVER THE INPUT: true; the input reads as it did. -/
def stateNewSpec : ChangeSpec := { name := "stateNew", fn := fun _ => fun
  | [d] => { results := [.lit (.bool true)], args := [d] }
  | _ => none }
def stateNewRow : OpenClaim := { program := "ytdhicdnmgmkpkaagreat", sum := "50c3c4d8fb9113dc924ba8d35f3d2ef1691ff95901bb2f465d6c0b31e8a8feff", func := "muniments/munimentslaw10.StateNew", spec := "stateNew", inPlace := ["internal/bytealg.Compare"], unfollowed := true, recurses := true, plainKeys := false, apart := false }
def StateNewSaid : Prop := stateNewRow.holds Tryz.pinned (OpenSpec.ofChange stateNewSpec)

/-- ITS FALSE NEIGHBOUR: 'it returns false'. Refute it at one input. -/
def stateNewWrong : ChangeSpec := { name := "stateNew", fn := fun _ => fun
  | [d] => { results := [.lit (.bool false)], args := [d] }
  | _ => none }
def StateNewWrongFalsely : Prop := stateNewRow.holds Tryz.pinned (OpenSpec.ofChange stateNewWrong)

/-- 'munimentslaw10.StateEmpty': WHATEVER THE INPUT: true; the input reads as it did. -/
def stateEmptySpec : ChangeSpec := { name := "stateEmpty", fn := fun _ => fun
  | [d1, d2, d3, d4, d5, d6] => { results := [.lit (.bool true)], args := [d1, d2, d3, d4, d5, d6] }
  | _ => none }
def stateEmptyRow : OpenClaim := { program := "ytdhicdnmgmkpkaagreat", sum := "50c3c4d8fb9113dc924ba8d35f3d2ef1691ff95901bb2f465d6c0b31e8a8feff", func := "muniments/munimentslaw10.StateEmpty", spec := "stateEmpty", inPlace := ["internal/bytealg.Compare"], unfollowed := true, recurses := true, plainKeys := false, apart := false }
def StateEmptySaid : Prop := stateEmptyRow.holds Tryz.pinned (OpenSpec.ofChange stateEmptySpec)

/-- ITS FALSE NEIGHBOUR: 'it returns false'. Refute it at one input. -/
def stateEmptyWrong : ChangeSpec := { name := "stateEmpty", fn := fun _ => fun
  | [d1, d2, d3, d4, d5, d6] => { results := [.lit (.bool false)], args := [d1, d2, d3, d4, d5, d6] }
  | _ => none }
def StateEmptyWrongFalsely : Prop := stateEmptyRow.holds Tryz.pinned (OpenSpec.ofChange stateEmptyWrong)

/-- 'munimentslaw10.StatePlays': WHATEVER THE INPUT: true; the input reads as it did. -/
def statePlaysSpec : ChangeSpec := { name := "statePlays", fn := fun _ => fun
  | [d1, d2] => { results := [.lit (.bool true)], args := [d1, d2] }
  | _ => none }
def statePlaysRow : OpenClaim := { program := "ytdhicdnmgmkpkaagreat", sum := "50c3c4d8fb9113dc924ba8d35f3d2ef1691ff95901bb2f465d6c0b31e8a8feff", func := "muniments/munimentslaw10.StatePlays", spec := "statePlays", inPlace := ["math/bits.Add64", "math/bits.Sub64", "internal/bytealg.Compare"], unfollowed := true, recurses := true, plainKeys := false, apart := false }
def StatePlaysSaid : Prop := statePlaysRow.holds Tryz.pinned (OpenSpec.ofChange statePlaysSpec)

/-- ITS FALSE NEIGHBOUR: 'it returns false'. Refute it at one input. -/
def statePlaysWrong : ChangeSpec := { name := "statePlays", fn := fun _ => fun
  | [d1, d2] => { results := [.lit (.bool false)], args := [d1, d2] }
  | _ => none }
def StatePlaysWrongFalsely : Prop := statePlaysRow.holds Tryz.pinned (OpenSpec.ofChange statePlaysWrong)

/- THE SECOND FORM. 'bulk': how many values and letters a reading holds, each counted each time it is reached (what is shared counts as often as it is met; a slice's spare places count too). A statement '..UptoSaid' is the law's where the arguments, and the package variables that the reading takes, are together of bulk at most 1048576: NARROWER than '..Said'. Prove '..Said' where nothing that the law and all that it calls make is longer than what came in: it says more and counts as full. Else prove '..UptoSaid'. A law counts once. -/
mutual
def uptoBulk {H : Type} : DataW H → Nat
  | .lit (.string bytes) => bytes.length + 1
  | .lit _ => 1
  | .nil => 1
  | .ptr d => uptoBulk d + 1
  | .slice elems spare => uptoBulkAll elems + uptoBulkAll spare + 1
  | .agg parts => uptoBulkAll parts + 1
  | .iface _ d => uptoBulk d + 1
  | .map entries => uptoBulkEntries entries + 1
  | .held _ => 1
def uptoBulkAll {H : Type} : List (DataW H) → Nat
  | [] => 0
  | d :: r => uptoBulk d + uptoBulkAll r
def uptoBulkEntries {H : Type} : List (Lit × DataW H) → Nat
  | [] => 0
  | x :: r => uptoBulkEntry x + uptoBulkEntries r
def uptoBulkEntry {H : Type} : Lit × DataW H → Nat
  | (.string bytes, d) => bytes.length + uptoBulk d + 1
  | (_, d) => uptoBulk d + 1
 end
def uptoSmall : (H : Type) → List (DataW H) → Bool := fun _ ds => decide (uptoBulkAll ds ≤ 1048576)
def OpenSpec.upto (s : _root_.Go.ChangeSpec) : _root_.Go.OpenSpec := { _root_.Go.OpenSpec.ofChange s with cond := some uptoSmall }

/-- 'munimentslaw10.StateCopies', WHERE WHAT IT READS IS OF BULK AT MOST 1048576: true; the input reads as it did. -/
def stateCopiesUptoRow : OpenClaim := { program := "ytdhicdnmgmkpkaagreat", sum := "50c3c4d8fb9113dc924ba8d35f3d2ef1691ff95901bb2f465d6c0b31e8a8feff", func := "muniments/munimentslaw10.StateCopies", spec := "stateCopies", inPlace := ["math/bits.Add64", "math/bits.Sub64", "internal/bytealg.Compare"], unfollowed := true, recurses := true, plainKeys := false, apart := false, narrowed := true }
def StateCopiesUptoSaid : Prop := stateCopiesUptoRow.holds Tryz.pinned (OpenSpec.upto stateCopiesSpec)

/-- 'munimentslaw25.SnapPlays', WHERE WHAT IT READS IS OF BULK AT MOST 1048576: true; the input reads as it did. -/
def snapPlaysUptoRow : OpenClaim := { program := "ytdhicdnmgmkpkaagreat", sum := "50c3c4d8fb9113dc924ba8d35f3d2ef1691ff95901bb2f465d6c0b31e8a8feff", func := "muniments/munimentslaw25.SnapPlays", spec := "snapPlays", inPlace := ["internal/bytealg.Compare"], unfollowed := true, recurses := true, plainKeys := false, apart := false, narrowed := true }
def SnapPlaysUptoSaid : Prop := snapPlaysUptoRow.holds Tryz.pinned (OpenSpec.upto snapPlaysSpec)

/-- 'munimentslaw25.SnapBetween', WHERE WHAT IT READS IS OF BULK AT MOST 1048576: true; the input reads as it did. -/
def snapBetweenUptoRow : OpenClaim := { program := "ytdhicdnmgmkpkaagreat", sum := "50c3c4d8fb9113dc924ba8d35f3d2ef1691ff95901bb2f465d6c0b31e8a8feff", func := "muniments/munimentslaw25.SnapBetween", spec := "snapBetween", inPlace := ["internal/bytealg.Compare"], unfollowed := true, recurses := true, plainKeys := false, apart := false, narrowed := true }
def SnapBetweenUptoSaid : Prop := snapBetweenUptoRow.holds Tryz.pinned (OpenSpec.upto snapBetweenSpec)

/-- 'munimentslaw25.SnapNone', WHERE WHAT IT READS IS OF BULK AT MOST 1048576: true; the input reads as it did. -/
def snapNoneUptoRow : OpenClaim := { program := "ytdhicdnmgmkpkaagreat", sum := "50c3c4d8fb9113dc924ba8d35f3d2ef1691ff95901bb2f465d6c0b31e8a8feff", func := "muniments/munimentslaw25.SnapNone", spec := "snapNone", inPlace := ["internal/bytealg.Compare"], unfollowed := true, recurses := true, plainKeys := false, apart := false, narrowed := true }
def SnapNoneUptoSaid : Prop := snapNoneUptoRow.holds Tryz.pinned (OpenSpec.upto snapNoneSpec)

/-- 'munimentslaw25.SnapChain', WHERE WHAT IT READS IS OF BULK AT MOST 1048576: true; the input reads as it did. -/
def snapChainUptoRow : OpenClaim := { program := "ytdhicdnmgmkpkaagreat", sum := "50c3c4d8fb9113dc924ba8d35f3d2ef1691ff95901bb2f465d6c0b31e8a8feff", func := "muniments/munimentslaw25.SnapChain", spec := "snapChain", inPlace := ["internal/bytealg.Compare"], unfollowed := true, recurses := true, plainKeys := false, apart := false, narrowed := true }
def SnapChainUptoSaid : Prop := snapChainUptoRow.holds Tryz.pinned (OpenSpec.upto snapChainSpec)

/-- 'munimentslaw10.StateNew', WHERE WHAT IT READS IS OF BULK AT MOST 1048576: true; the input reads as it did. -/
def stateNewUptoRow : OpenClaim := { program := "ytdhicdnmgmkpkaagreat", sum := "50c3c4d8fb9113dc924ba8d35f3d2ef1691ff95901bb2f465d6c0b31e8a8feff", func := "muniments/munimentslaw10.StateNew", spec := "stateNew", inPlace := ["internal/bytealg.Compare"], unfollowed := true, recurses := true, plainKeys := false, apart := false, narrowed := true }
def StateNewUptoSaid : Prop := stateNewUptoRow.holds Tryz.pinned (OpenSpec.upto stateNewSpec)

/-- 'munimentslaw10.StateEmpty', WHERE WHAT IT READS IS OF BULK AT MOST 1048576: true; the input reads as it did. -/
def stateEmptyUptoRow : OpenClaim := { program := "ytdhicdnmgmkpkaagreat", sum := "50c3c4d8fb9113dc924ba8d35f3d2ef1691ff95901bb2f465d6c0b31e8a8feff", func := "muniments/munimentslaw10.StateEmpty", spec := "stateEmpty", inPlace := ["internal/bytealg.Compare"], unfollowed := true, recurses := true, plainKeys := false, apart := false, narrowed := true }
def StateEmptyUptoSaid : Prop := stateEmptyUptoRow.holds Tryz.pinned (OpenSpec.upto stateEmptySpec)

/-- 'munimentslaw10.StatePlays', WHERE WHAT IT READS IS OF BULK AT MOST 1048576: true; the input reads as it did. -/
def statePlaysUptoRow : OpenClaim := { program := "ytdhicdnmgmkpkaagreat", sum := "50c3c4d8fb9113dc924ba8d35f3d2ef1691ff95901bb2f465d6c0b31e8a8feff", func := "muniments/munimentslaw10.StatePlays", spec := "statePlays", inPlace := ["math/bits.Add64", "math/bits.Sub64", "internal/bytealg.Compare"], unfollowed := true, recurses := true, plainKeys := false, apart := false, narrowed := true }
def StatePlaysUptoSaid : Prop := statePlaysUptoRow.holds Tryz.pinned (OpenSpec.upto statePlaysSpec)

end Rows
end Go.Proofs.YtdhicdnmgmkpkaaGreat
