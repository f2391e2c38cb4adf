/-
  NARROWER THAN 'FOR EVERY INPUT', by the rows' own cells (each row's printed sentence says how): RlpInside: loops · RlpNumbers: loops · RlpPacks: loops.
  DERIVED. THE GIVEN ROWS OF THIS SEAT. 14 by the template 'for every input the law returns true; each argument reads behind the call as it read before'; 0 by the template 'total and deterministic' (their statements: YtfpigemikpbbhaaTotals.lean).
  GIVEN WITH THE SEED: the statements are not yours to turn. If you find one false, say at which input.
  Laid BY PROGRAM, IN A SANDBOX (cutbox-rows.mjs): the forced cells as the released guide's own fill.sh prints them over the translation 85c55753514d5ae6… (all of the seat's roots in one cut). By AI agents, Wed Nov 11 2026. No macro, syntax, notation, axiom, sorry.
-/
import Derived.Test.YtfpigemikpbbhaaChecked
import GoSem.Claim
import GoSem.ClaimJoined
import GoSem.ClaimMapViews
import Derived.JoinedTies
import Derived.KernelRfl
namespace Go.Proofs.Ytfpigemikpbbhaa
/- THE CELL 'sum', in the pinned program and in every row, IS THE sha256 OF THE DUMP (.gsa) THAT YtfpigemikpbbhaaProg.lean LOADS. Nothing in Lean hashes anything: it is a label: what it is worth is what the hold of that sum in a sandbox is worth. -/
noncomputable def Try.pinned : Pinned := { name := "ytfpigemikpbbhaa", sum := "85c55753514d5ae6987df5582000761fd5ff52d7ab1d8270f5352ef314efe435", checked := Try.checked }
namespace Rows
def none {H : Type} : Left H := { results := [], args := [] }

/-- 'munimentslaw5.PathAlike': WHATEVER THE INPUT: true; the input reads as it did. -/
def pathAlikeSpec : ChangeSpec := { name := "pathAlike", fn := fun _ => fun
  | [d1, d2, d3] => { results := [.lit (.bool true)], args := [d1, d2, d3] }
  | _ => none }
def pathAlikeRow : OpenClaim := { program := "ytfpigemikpbbhaa", sum := "85c55753514d5ae6987df5582000761fd5ff52d7ab1d8270f5352ef314efe435", func := "muniments/munimentslaw5.PathAlike", spec := "pathAlike", unfollowed := true, recurses := true, apart := false }
def PathAlikeSaid : Prop := pathAlikeRow.holds Try.pinned (OpenSpec.ofChange pathAlikeSpec)

/-- ITS FALSE NEIGHBOUR: 'it returns false'. Refute it at one input. -/
def pathAlikeWrong : ChangeSpec := { name := "pathAlike", fn := fun _ => fun
  | [d1, d2, d3] => { results := [.lit (.bool false)], args := [d1, d2, d3] }
  | _ => none }
def PathAlikeWrongFalsely : Prop := pathAlikeRow.holds Try.pinned (OpenSpec.ofChange pathAlikeWrong)

/-- 'munimentslaw5.PathBack': WHATEVER THE INPUT: true; the input reads as it did. -/
def pathBackSpec : ChangeSpec := { name := "pathBack", fn := fun _ => fun
  | [d1, d2, d3] => { results := [.lit (.bool true)], args := [d1, d2, d3] }
  | _ => none }
def pathBackRow : OpenClaim := { program := "ytfpigemikpbbhaa", sum := "85c55753514d5ae6987df5582000761fd5ff52d7ab1d8270f5352ef314efe435", func := "muniments/munimentslaw5.PathBack", spec := "pathBack", unfollowed := true, recurses := true, apart := false }
def PathBackSaid : Prop := pathBackRow.holds Try.pinned (OpenSpec.ofChange pathBackSpec)

/-- ITS FALSE NEIGHBOUR: 'it returns false'. Refute it at one input. -/
def pathBackWrong : ChangeSpec := { name := "pathBack", fn := fun _ => fun
  | [d1, d2, d3] => { results := [.lit (.bool false)], args := [d1, d2, d3] }
  | _ => none }
def PathBackWrongFalsely : Prop := pathBackRow.holds Try.pinned (OpenSpec.ofChange pathBackWrong)

/-- 'munimentslaw5.PathTells': WHATEVER THE INPUT: true; the input reads as it did. -/
def pathTellsSpec : ChangeSpec := { name := "pathTells", fn := fun _ => fun
  | [d1, d2, d3] => { results := [.lit (.bool true)], args := [d1, d2, d3] }
  | _ => none }
def pathTellsRow : OpenClaim := { program := "ytfpigemikpbbhaa", sum := "85c55753514d5ae6987df5582000761fd5ff52d7ab1d8270f5352ef314efe435", func := "muniments/munimentslaw5.PathTells", spec := "pathTells", unfollowed := true, recurses := true, apart := false }
def PathTellsSaid : Prop := pathTellsRow.holds Try.pinned (OpenSpec.ofChange pathTellsSpec)

/-- ITS FALSE NEIGHBOUR: 'it returns false'. Refute it at one input. -/
def pathTellsWrong : ChangeSpec := { name := "pathTells", fn := fun _ => fun
  | [d1, d2, d3] => { results := [.lit (.bool false)], args := [d1, d2, d3] }
  | _ => none }
def PathTellsWrongFalsely : Prop := pathTellsRow.holds Try.pinned (OpenSpec.ofChange pathTellsWrong)

/-- 'munimentslaw2.KeccakSums': WHATEVER THE INPUT: true; the input reads as it did. -/
def keccakSumsSpec : ChangeSpec := { name := "keccakSums", fn := fun _ => fun
  | [d] => { results := [.lit (.bool true)], args := [d] }
  | _ => none }
def keccakSumsRow : OpenClaim := { program := "ytfpigemikpbbhaa", sum := "85c55753514d5ae6987df5582000761fd5ff52d7ab1d8270f5352ef314efe435", func := "muniments/munimentslaw2.KeccakSums", spec := "keccakSums", apart := false }
def KeccakSumsSaid : Prop := keccakSumsRow.holds Try.pinned (OpenSpec.ofChange keccakSumsSpec)

/-- ITS FALSE NEIGHBOUR: 'it returns false'. Refute it at one input. -/
def keccakSumsWrong : ChangeSpec := { name := "keccakSums", fn := fun _ => fun
  | [d] => { results := [.lit (.bool false)], args := [d] }
  | _ => none }
def KeccakSumsWrongFalsely : Prop := keccakSumsRow.holds Try.pinned (OpenSpec.ofChange keccakSumsWrong)

/-- 'munimentslaw2.KeccakLengths': WHATEVER THE INPUT: true; the input reads as it did. -/
def keccakLengthsSpec : ChangeSpec := { name := "keccakLengths", fn := fun _ => fun
  | [d1, d2] => { results := [.lit (.bool true)], args := [d1, d2] }
  | _ => none }
def keccakLengthsRow : OpenClaim := { program := "ytfpigemikpbbhaa", sum := "85c55753514d5ae6987df5582000761fd5ff52d7ab1d8270f5352ef314efe435", func := "muniments/munimentslaw2.KeccakLengths", spec := "keccakLengths", apart := false }
def KeccakLengthsSaid : Prop := keccakLengthsRow.holds Try.pinned (OpenSpec.ofChange keccakLengthsSpec)

/-- ITS FALSE NEIGHBOUR: 'it returns false'. Refute it at one input. -/
def keccakLengthsWrong : ChangeSpec := { name := "keccakLengths", fn := fun _ => fun
  | [d1, d2] => { results := [.lit (.bool false)], args := [d1, d2] }
  | _ => none }
def KeccakLengthsWrongFalsely : Prop := keccakLengthsRow.holds Try.pinned (OpenSpec.ofChange keccakLengthsWrong)

/-- 'munimentslaw2.KeccakTurned': WHATEVER THE INPUT: true; the input reads as it did. -/
def keccakTurnedSpec : ChangeSpec := { name := "keccakTurned", fn := fun _ => fun
  | [d1, d2, d3] => { results := [.lit (.bool true)], args := [d1, d2, d3] }
  | _ => none }
def keccakTurnedRow : OpenClaim := { program := "ytfpigemikpbbhaa", sum := "85c55753514d5ae6987df5582000761fd5ff52d7ab1d8270f5352ef314efe435", func := "muniments/munimentslaw2.KeccakTurned", spec := "keccakTurned", apart := false }
def KeccakTurnedSaid : Prop := keccakTurnedRow.holds Try.pinned (OpenSpec.ofChange keccakTurnedSpec)

/-- ITS FALSE NEIGHBOUR: 'it returns false'. Refute it at one input. -/
def keccakTurnedWrong : ChangeSpec := { name := "keccakTurned", fn := fun _ => fun
  | [d1, d2, d3] => { results := [.lit (.bool false)], args := [d1, d2, d3] }
  | _ => none }
def KeccakTurnedWrongFalsely : Prop := keccakTurnedRow.holds Try.pinned (OpenSpec.ofChange keccakTurnedWrong)

/-- 'munimentslaw4.RlpInside': WHATEVER THE INPUT: true; the input reads as it did. -/
def rlpInsideSpec : ChangeSpec := { name := "rlpInside", fn := fun _ => fun
  | [d] => { results := [.lit (.bool true)], args := [d] }
  | _ => none }
def rlpInsideRow : OpenClaim := { program := "ytfpigemikpbbhaa", sum := "85c55753514d5ae6987df5582000761fd5ff52d7ab1d8270f5352ef314efe435", func := "muniments/munimentslaw4.RlpInside", spec := "rlpInside", recurses := true, loops := true, apart := false }
def RlpInsideSaid : Prop := rlpInsideRow.holds Try.pinned (OpenSpec.ofChange rlpInsideSpec)

/-- ITS FALSE NEIGHBOUR: 'it returns false'. Refute it at one input. -/
def rlpInsideWrong : ChangeSpec := { name := "rlpInside", fn := fun _ => fun
  | [d] => { results := [.lit (.bool false)], args := [d] }
  | _ => none }
def RlpInsideWrongFalsely : Prop := rlpInsideRow.holds Try.pinned (OpenSpec.ofChange rlpInsideWrong)

/-- 'munimentslaw4.RlpNumbers': WHATEVER THE INPUT: true; the input reads as it did. -/
def rlpNumbersSpec : ChangeSpec := { name := "rlpNumbers", fn := fun _ => fun
  | [d1, d2, d3] => { results := [.lit (.bool true)], args := [d1, d2, d3] }
  | _ => none }
def rlpNumbersRow : OpenClaim := { program := "ytfpigemikpbbhaa", sum := "85c55753514d5ae6987df5582000761fd5ff52d7ab1d8270f5352ef314efe435", func := "muniments/munimentslaw4.RlpNumbers", spec := "rlpNumbers", recurses := true, loops := true, apart := false }
def RlpNumbersSaid : Prop := rlpNumbersRow.holds Try.pinned (OpenSpec.ofChange rlpNumbersSpec)

/-- ITS FALSE NEIGHBOUR: 'it returns false'. Refute it at one input. -/
def rlpNumbersWrong : ChangeSpec := { name := "rlpNumbers", fn := fun _ => fun
  | [d1, d2, d3] => { results := [.lit (.bool false)], args := [d1, d2, d3] }
  | _ => none }
def RlpNumbersWrongFalsely : Prop := rlpNumbersRow.holds Try.pinned (OpenSpec.ofChange rlpNumbersWrong)

/-- 'munimentslaw4.RlpPacks': WHATEVER THE INPUT: true; the input reads as it did. -/
def rlpPacksSpec : ChangeSpec := { name := "rlpPacks", fn := fun _ => fun
  | [d] => { results := [.lit (.bool true)], args := [d] }
  | _ => none }
def rlpPacksRow : OpenClaim := { program := "ytfpigemikpbbhaa", sum := "85c55753514d5ae6987df5582000761fd5ff52d7ab1d8270f5352ef314efe435", func := "muniments/munimentslaw4.RlpPacks", spec := "rlpPacks", recurses := true, loops := true, apart := false }
def RlpPacksSaid : Prop := rlpPacksRow.holds Try.pinned (OpenSpec.ofChange rlpPacksSpec)

/-- ITS FALSE NEIGHBOUR: 'it returns false'. Refute it at one input. -/
def rlpPacksWrong : ChangeSpec := { name := "rlpPacks", fn := fun _ => fun
  | [d] => { results := [.lit (.bool false)], args := [d] }
  | _ => none }
def RlpPacksWrongFalsely : Prop := rlpPacksRow.holds Try.pinned (OpenSpec.ofChange rlpPacksWrong)

/-- 'munimentslaw4.RlpReads': WHATEVER THE INPUT: true; the input reads as it did. -/
def rlpReadsSpec : ChangeSpec := { name := "rlpReads", fn := fun _ => fun
  | [d] => { results := [.lit (.bool true)], args := [d] }
  | _ => none }
def rlpReadsRow : OpenClaim := { program := "ytfpigemikpbbhaa", sum := "85c55753514d5ae6987df5582000761fd5ff52d7ab1d8270f5352ef314efe435", func := "muniments/munimentslaw4.RlpReads", spec := "rlpReads", recurses := true, apart := false }
def RlpReadsSaid : Prop := rlpReadsRow.holds Try.pinned (OpenSpec.ofChange rlpReadsSpec)

/-- ITS FALSE NEIGHBOUR: 'it returns false'. Refute it at one input. -/
def rlpReadsWrong : ChangeSpec := { name := "rlpReads", fn := fun _ => fun
  | [d] => { results := [.lit (.bool false)], args := [d] }
  | _ => none }
def RlpReadsWrongFalsely : Prop := rlpReadsRow.holds Try.pinned (OpenSpec.ofChange rlpReadsWrong)

/-- 'munimentslaw4.RlpOne': WHATEVER THE INPUT: true; the input reads as it did. -/
def rlpOneSpec : ChangeSpec := { name := "rlpOne", fn := fun _ => fun
  | [d1, d2, d3] => { results := [.lit (.bool true)], args := [d1, d2, d3] }
  | _ => none }
def rlpOneRow : OpenClaim := { program := "ytfpigemikpbbhaa", sum := "85c55753514d5ae6987df5582000761fd5ff52d7ab1d8270f5352ef314efe435", func := "muniments/munimentslaw4.RlpOne", spec := "rlpOne", recurses := true, apart := false }
def RlpOneSaid : Prop := rlpOneRow.holds Try.pinned (OpenSpec.ofChange rlpOneSpec)

/-- ITS FALSE NEIGHBOUR: 'it returns false'. Refute it at one input. -/
def rlpOneWrong : ChangeSpec := { name := "rlpOne", fn := fun _ => fun
  | [d1, d2, d3] => { results := [.lit (.bool false)], args := [d1, d2, d3] }
  | _ => none }
def RlpOneWrongFalsely : Prop := rlpOneRow.holds Try.pinned (OpenSpec.ofChange rlpOneWrong)

/-- 'munimentslaw4.RlpDeep': WHATEVER THE INPUT: true; the input reads as it did. -/
def rlpDeepSpec : ChangeSpec := { name := "rlpDeep", fn := fun _ => fun
  | [d] => { results := [.lit (.bool true)], args := [d] }
  | _ => none }
def rlpDeepRow : OpenClaim := { program := "ytfpigemikpbbhaa", sum := "85c55753514d5ae6987df5582000761fd5ff52d7ab1d8270f5352ef314efe435", func := "muniments/munimentslaw4.RlpDeep", spec := "rlpDeep", recurses := true, apart := false }
def RlpDeepSaid : Prop := rlpDeepRow.holds Try.pinned (OpenSpec.ofChange rlpDeepSpec)

/-- ITS FALSE NEIGHBOUR: 'it returns false'. Refute it at one input. -/
def rlpDeepWrong : ChangeSpec := { name := "rlpDeep", fn := fun _ => fun
  | [d] => { results := [.lit (.bool false)], args := [d] }
  | _ => none }
def RlpDeepWrongFalsely : Prop := rlpDeepRow.holds Try.pinned (OpenSpec.ofChange rlpDeepWrong)

/-- 'munimentslaw4.RlpHeads': WHATEVER THE INPUT: true; the input reads as it did. -/
def rlpHeadsSpec : ChangeSpec := { name := "rlpHeads", fn := fun _ => fun
  | [d1, d2] => { results := [.lit (.bool true)], args := [d1, d2] }
  | _ => none }
def rlpHeadsRow : OpenClaim := { program := "ytfpigemikpbbhaa", sum := "85c55753514d5ae6987df5582000761fd5ff52d7ab1d8270f5352ef314efe435", func := "muniments/munimentslaw4.RlpHeads", spec := "rlpHeads", recurses := true, apart := false }
def RlpHeadsSaid : Prop := rlpHeadsRow.holds Try.pinned (OpenSpec.ofChange rlpHeadsSpec)

/-- ITS FALSE NEIGHBOUR: 'it returns false'. Refute it at one input. -/
def rlpHeadsWrong : ChangeSpec := { name := "rlpHeads", fn := fun _ => fun
  | [d1, d2] => { results := [.lit (.bool false)], args := [d1, d2] }
  | _ => none }
def RlpHeadsWrongFalsely : Prop := rlpHeadsRow.holds Try.pinned (OpenSpec.ofChange rlpHeadsWrong)

/-- 'munimentslaw4.RlpWrong': WHATEVER THE INPUT: true; the input reads as it did. -/
def rlpWrongSpec : ChangeSpec := { name := "rlpWrong", fn := fun _ => fun
  | [d] => { results := [.lit (.bool true)], args := [d] }
  | _ => none }
def rlpWrongRow : OpenClaim := { program := "ytfpigemikpbbhaa", sum := "85c55753514d5ae6987df5582000761fd5ff52d7ab1d8270f5352ef314efe435", func := "muniments/munimentslaw4.RlpWrong", spec := "rlpWrong", recurses := true, apart := false }
def RlpWrongSaid : Prop := rlpWrongRow.holds Try.pinned (OpenSpec.ofChange rlpWrongSpec)

/-- ITS FALSE NEIGHBOUR: 'it returns false'. Refute it at one input. -/
def rlpWrongWrong : ChangeSpec := { name := "rlpWrong", fn := fun _ => fun
  | [d] => { results := [.lit (.bool false)], args := [d] }
  | _ => none }
def RlpWrongWrongFalsely : Prop := rlpWrongRow.holds Try.pinned (OpenSpec.ofChange rlpWrongWrong)

/- THE SECOND FORM. 'bulk': how many values and letters a reading holds, each counted each time it is reached (what is shared counts as often as it is met; a slice's spare places count too). A statement '..UptoSaid' is the law's where the arguments, and the package variables that the reading takes, are together of bulk at most 1048576: NARROWER than '..Said'. Prove '..Said' where nothing that the law and all that it calls make is longer than what came in: it says more and counts as full. Else prove '..UptoSaid'. A law counts once. -/
mutual
def uptoBulk {H : Type} : DataW H → Nat
  | .lit (.string bytes) => bytes.length + 1
  | .lit _ => 1
  | .nil => 1
  | .ptr d => uptoBulk d + 1
  | .slice elems spare => uptoBulkAll elems + uptoBulkAll spare + 1
  | .agg parts => uptoBulkAll parts + 1
  | .iface _ d => uptoBulk d + 1
  | .map entries => uptoBulkEntries entries + 1
  | .held _ => 1
def uptoBulkAll {H : Type} : List (DataW H) → Nat
  | [] => 0
  | d :: r => uptoBulk d + uptoBulkAll r
def uptoBulkEntries {H : Type} : List (Lit × DataW H) → Nat
  | [] => 0
  | x :: r => uptoBulkEntry x + uptoBulkEntries r
def uptoBulkEntry {H : Type} : Lit × DataW H → Nat
  | (.string bytes, d) => bytes.length + uptoBulk d + 1
  | (_, d) => uptoBulk d + 1
 end
def uptoSmall : (H : Type) → List (DataW H) → Bool := fun _ ds => decide (uptoBulkAll ds ≤ 1048576)
def OpenSpec.upto (s : _root_.Go.ChangeSpec) : _root_.Go.OpenSpec := { _root_.Go.OpenSpec.ofChange s with cond := some uptoSmall }

/-- 'munimentslaw5.PathAlike', WHERE WHAT IT READS IS OF BULK AT MOST 1048576: true; the input reads as it did. -/
def pathAlikeUptoRow : OpenClaim := { program := "ytfpigemikpbbhaa", sum := "85c55753514d5ae6987df5582000761fd5ff52d7ab1d8270f5352ef314efe435", func := "muniments/munimentslaw5.PathAlike", spec := "pathAlike", unfollowed := true, recurses := true, apart := false, narrowed := true }
def PathAlikeUptoSaid : Prop := pathAlikeUptoRow.holds Try.pinned (OpenSpec.upto pathAlikeSpec)

/-- 'munimentslaw5.PathBack', WHERE WHAT IT READS IS OF BULK AT MOST 1048576: true; the input reads as it did. -/
def pathBackUptoRow : OpenClaim := { program := "ytfpigemikpbbhaa", sum := "85c55753514d5ae6987df5582000761fd5ff52d7ab1d8270f5352ef314efe435", func := "muniments/munimentslaw5.PathBack", spec := "pathBack", unfollowed := true, recurses := true, apart := false, narrowed := true }
def PathBackUptoSaid : Prop := pathBackUptoRow.holds Try.pinned (OpenSpec.upto pathBackSpec)

/-- 'munimentslaw5.PathTells', WHERE WHAT IT READS IS OF BULK AT MOST 1048576: true; the input reads as it did. -/
def pathTellsUptoRow : OpenClaim := { program := "ytfpigemikpbbhaa", sum := "85c55753514d5ae6987df5582000761fd5ff52d7ab1d8270f5352ef314efe435", func := "muniments/munimentslaw5.PathTells", spec := "pathTells", unfollowed := true, recurses := true, apart := false, narrowed := true }
def PathTellsUptoSaid : Prop := pathTellsUptoRow.holds Try.pinned (OpenSpec.upto pathTellsSpec)

/-- 'munimentslaw2.KeccakSums', WHERE WHAT IT READS IS OF BULK AT MOST 1048576: true; the input reads as it did. -/
def keccakSumsUptoRow : OpenClaim := { program := "ytfpigemikpbbhaa", sum := "85c55753514d5ae6987df5582000761fd5ff52d7ab1d8270f5352ef314efe435", func := "muniments/munimentslaw2.KeccakSums", spec := "keccakSums", apart := false, narrowed := true }
def KeccakSumsUptoSaid : Prop := keccakSumsUptoRow.holds Try.pinned (OpenSpec.upto keccakSumsSpec)

/-- 'munimentslaw2.KeccakLengths', WHERE WHAT IT READS IS OF BULK AT MOST 1048576: true; the input reads as it did. -/
def keccakLengthsUptoRow : OpenClaim := { program := "ytfpigemikpbbhaa", sum := "85c55753514d5ae6987df5582000761fd5ff52d7ab1d8270f5352ef314efe435", func := "muniments/munimentslaw2.KeccakLengths", spec := "keccakLengths", apart := false, narrowed := true }
def KeccakLengthsUptoSaid : Prop := keccakLengthsUptoRow.holds Try.pinned (OpenSpec.upto keccakLengthsSpec)

/-- 'munimentslaw2.KeccakTurned', WHERE WHAT IT READS IS OF BULK AT MOST 1048576: true; the input reads as it did. -/
def keccakTurnedUptoRow : OpenClaim := { program := "ytfpigemikpbbhaa", sum := "85c55753514d5ae6987df5582000761fd5ff52d7ab1d8270f5352ef314efe435", func := "muniments/munimentslaw2.KeccakTurned", spec := "keccakTurned", apart := false, narrowed := true }
def KeccakTurnedUptoSaid : Prop := keccakTurnedUptoRow.holds Try.pinned (OpenSpec.upto keccakTurnedSpec)

/-- 'munimentslaw4.RlpInside', WHERE WHAT IT READS IS OF BULK AT MOST 1048576: true; the input reads as it did. -/
def rlpInsideUptoRow : OpenClaim := { program := "ytfpigemikpbbhaa", sum := "85c55753514d5ae6987df5582000761fd5ff52d7ab1d8270f5352ef314efe435", func := "muniments/munimentslaw4.RlpInside", spec := "rlpInside", recurses := true, loops := true, apart := false, narrowed := true }
def RlpInsideUptoSaid : Prop := rlpInsideUptoRow.holds Try.pinned (OpenSpec.upto rlpInsideSpec)

/-- 'munimentslaw4.RlpNumbers', WHERE WHAT IT READS IS OF BULK AT MOST 1048576: true; the input reads as it did. -/
def rlpNumbersUptoRow : OpenClaim := { program := "ytfpigemikpbbhaa", sum := "85c55753514d5ae6987df5582000761fd5ff52d7ab1d8270f5352ef314efe435", func := "muniments/munimentslaw4.RlpNumbers", spec := "rlpNumbers", recurses := true, loops := true, apart := false, narrowed := true }
def RlpNumbersUptoSaid : Prop := rlpNumbersUptoRow.holds Try.pinned (OpenSpec.upto rlpNumbersSpec)

/-- 'munimentslaw4.RlpPacks', WHERE WHAT IT READS IS OF BULK AT MOST 1048576: true; the input reads as it did. -/
def rlpPacksUptoRow : OpenClaim := { program := "ytfpigemikpbbhaa", sum := "85c55753514d5ae6987df5582000761fd5ff52d7ab1d8270f5352ef314efe435", func := "muniments/munimentslaw4.RlpPacks", spec := "rlpPacks", recurses := true, loops := true, apart := false, narrowed := true }
def RlpPacksUptoSaid : Prop := rlpPacksUptoRow.holds Try.pinned (OpenSpec.upto rlpPacksSpec)

/-- 'munimentslaw4.RlpReads', WHERE WHAT IT READS IS OF BULK AT MOST 1048576: true; the input reads as it did. -/
def rlpReadsUptoRow : OpenClaim := { program := "ytfpigemikpbbhaa", sum := "85c55753514d5ae6987df5582000761fd5ff52d7ab1d8270f5352ef314efe435", func := "muniments/munimentslaw4.RlpReads", spec := "rlpReads", recurses := true, apart := false, narrowed := true }
def RlpReadsUptoSaid : Prop := rlpReadsUptoRow.holds Try.pinned (OpenSpec.upto rlpReadsSpec)

/-- 'munimentslaw4.RlpOne', WHERE WHAT IT READS IS OF BULK AT MOST 1048576: true; the input reads as it did. -/
def rlpOneUptoRow : OpenClaim := { program := "ytfpigemikpbbhaa", sum := "85c55753514d5ae6987df5582000761fd5ff52d7ab1d8270f5352ef314efe435", func := "muniments/munimentslaw4.RlpOne", spec := "rlpOne", recurses := true, apart := false, narrowed := true }
def RlpOneUptoSaid : Prop := rlpOneUptoRow.holds Try.pinned (OpenSpec.upto rlpOneSpec)

/-- 'munimentslaw4.RlpDeep', WHERE WHAT IT READS IS OF BULK AT MOST 1048576: true; the input reads as it did. -/
def rlpDeepUptoRow : OpenClaim := { program := "ytfpigemikpbbhaa", sum := "85c55753514d5ae6987df5582000761fd5ff52d7ab1d8270f5352ef314efe435", func := "muniments/munimentslaw4.RlpDeep", spec := "rlpDeep", recurses := true, apart := false, narrowed := true }
def RlpDeepUptoSaid : Prop := rlpDeepUptoRow.holds Try.pinned (OpenSpec.upto rlpDeepSpec)

/-- 'munimentslaw4.RlpHeads', WHERE WHAT IT READS IS OF BULK AT MOST 1048576: true; the input reads as it did. -/
def rlpHeadsUptoRow : OpenClaim := { program := "ytfpigemikpbbhaa", sum := "85c55753514d5ae6987df5582000761fd5ff52d7ab1d8270f5352ef314efe435", func := "muniments/munimentslaw4.RlpHeads", spec := "rlpHeads", recurses := true, apart := false, narrowed := true }
def RlpHeadsUptoSaid : Prop := rlpHeadsUptoRow.holds Try.pinned (OpenSpec.upto rlpHeadsSpec)

/-- 'munimentslaw4.RlpWrong', WHERE WHAT IT READS IS OF BULK AT MOST 1048576: true; the input reads as it did. -/
def rlpWrongUptoRow : OpenClaim := { program := "ytfpigemikpbbhaa", sum := "85c55753514d5ae6987df5582000761fd5ff52d7ab1d8270f5352ef314efe435", func := "muniments/munimentslaw4.RlpWrong", spec := "rlpWrong", recurses := true, apart := false, narrowed := true }
def RlpWrongUptoSaid : Prop := rlpWrongUptoRow.holds Try.pinned (OpenSpec.upto rlpWrongSpec)

end Rows
end Go.Proofs.Ytfpigemikpbbhaa
