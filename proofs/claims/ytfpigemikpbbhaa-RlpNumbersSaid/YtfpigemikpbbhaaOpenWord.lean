/-
  What data that come in read as: words and addresses.
  Conditions: none.
-/
import Derived.Test.YtfpigemikpbbhaaOpenAll
import Derived.OpenShut
namespace Go.Proofs.Ytfpigemikpbbhaa
set_option linter.unusedVariables false
set_option maxRecDepth 100000
open Go.RowKit Mono Go.ChangeShapes Go.WideShapes Go.Deep
section
variable {H : Type} {enc : TypeId × Value → H} {w : World} {spare : Nat → Bool} {held : Bool}
theorem bvs_of (cs : List Value) (h : ∀ u ∈ cs, ∃ b : UInt8, u = bv b) : ∃ l : List UInt8, cs = bvs l := by
  induction cs with
  | nil => exact ⟨[], rfl⟩
  | cons u cs ih =>
    obtain ⟨l, hl⟩ := ih fun u hu => h u (by simp [hu])
    obtain ⟨b, rfl⟩ := h u (by simp)
    exact ⟨b :: l, by rw [hl]; rfl⟩
theorem arr_of_trod {t : TypeId} {n fuel : Nat} {cs : List Value} {x : DataW H × List MemPlace} (ht : Try.prog.underlying t = some (.array n 5)) (hc : Try.prog.cellsOf t = n) (h : DataW.trod enc Try.prog w 0 spare held fuel t cs = some x) :
    ∃ l : List UInt8, l.length = n ∧ cs = bvs l := by
  obtain ⟨xs, m, _, _, hl, hxl, hg⟩ := DataW.trod_array ht h
  rw [hc] at hl
  obtain ⟨l, rfl⟩ := bvs_of cs fun u hu => by
    obtain ⟨i, hi, rfl⟩ := List.getElem_of_mem hu
    have h1 := hg i (by omega)
    rw [(by kernel_rfl : Try.prog.cellsOf 5 = 1), Nat.mul_one, List.drop_eq_getElem_cons hi, List.take_succ_cons, List.take_zero, List.getElem?_eq_getElem (by omega)] at h1
    obtain ⟨b, hb⟩ := u8_of_trod h1
    exact ⟨b, by simpa using hb⟩
  exact ⟨l, by rw [← hl, bvs_length], rfl⟩
variable {r : Reach} {b0 : Nat} {v : Value} {d : DataW H} {ps : List MemPlace}
theorem arr_opens {t : TypeId} {n : Nat} (ht : Try.prog.underlying t = some (.array n 5)) (hc : Try.prog.cellsOf t = n) (hv : Value.okWide Try.prog w r b0 t v) (h : DataW.Trod enc Try.prog w 0 spare held t v d ps) : ∃ l : List UInt8, l.length = n ∧ v = arrV l := by
  simp only [Value.okWide, ht] at hv
  obtain ⟨cs, rfl, _⟩ := hv
  obtain ⟨fuel, hf⟩ := h
  obtain ⟨l, h1, h2⟩ := arr_of_trod ht hc hf
  refine ⟨l, h1, ?_⟩
  unfold arrV
  rw [← h2]
  simp [Value.cells]

theorem o_word (hv : Value.okWide Try.prog w r b0 36 v) (h : DataW.Trod enc Try.prog w 0 spare held 36 v d ps) : ∃ l : List UInt8, l.length = 32 ∧ v = arrV l :=
  arr_opens Try.underlying36 (by kernel_rfl) hv h
end
end Go.Proofs.Ytfpigemikpbbhaa
