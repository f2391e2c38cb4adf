/-
  Merged (wip/tools/merge.py): Open, OpenAll, LawM.
  Conditions: none.
-/
import Derived.Test.YtmlajcbabimkjaaZW2
import Derived.OpenShut
import Derived.Deep.Slices
import Derived.ChangeSame
import Derived.Test.YtmlajcbabimkjaaZW11
import Derived.Below
/-
  What a slice of bytes that comes in reads as.
  Conditions: none.
-/
namespace Go.Proofs.Ytmlajcbabimkjaa
open Go.RowKit Mono
end Go.Proofs.Ytmlajcbabimkjaa
/-
  What data that come in read as: bytes, lists of bytes, arrays of bytes.
  Conditions: none.
-/
namespace Go.Proofs.Ytmlajcbabimkjaa
open Go.RowKit Mono Go.ChangeShapes Go.WideShapes Go.Deep
section
variable {H : Type} {enc : TypeId × Value → H} {w : World} {spare : Nat → Bool} {held : Bool}
/-! ### A parameter, by its type -/
set_option maxRecDepth 100000
variable {r : Reach} {b0 : Nat} {v : Value} {d : DataW H} {ps : List MemPlace}
theorem o_int (hv : Value.okWide Try.prog w r b0 3 v) (h : DataW.Trod enc Try.prog w 0 spare held 3 v d ps) : ∃ n : Int, v = .int .i64 n ∧ -9223372036854775808 ≤ n ∧ n ≤ 9223372036854775807 := by
  obtain ⟨n, rfl, _, _, hw⟩ := open_int Try.underlying3 hv h
  exact ⟨n, rfl, bounds_i64 hw⟩
end
end Go.Proofs.Ytmlajcbabimkjaa
/-
  A law's function that answers true and whose pieces are none.
  Conditions: none.
-/
namespace Go.Proofs.Ytmlajcbabimkjaa
set_option linter.unusedVariables false
open Go.RowKit Mono
namespace E
theorem law_boolM {f : FuncId} {ds : List D} {xs : List Value} {w : World} (h : FnM f ds [] (fun r os' => r = .val (.v (.bool true)) ∧ os' = [])) (hr : ReadVs (fun b => b < w.heap.size) w ds xs) : Calls Try.prog f xs.toArray w fun e w' => e = .returned (.bool true) ∧ Below w.heap.size w w' :=
  (h.go _ w xs (fun b hb => hb) ⟨fun o ho => by simp at ho, .nil, fun b ⟨o, ho, _⟩ => by simp at ho⟩ hr).mono fun e w' ⟨v, r, os', he, ⟨h1, h2⟩, ht, hv⟩ => by
    subst he h1
    have hg := ht.gr.gr fun b ⟨o, ho, _⟩ => by simp at ho
    exact ⟨by rw [(readV_v.1 hv).2], hg⟩
end E
end Go.Proofs.Ytmlajcbabimkjaa
