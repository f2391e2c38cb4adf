/-
  A string out of bytes.
  Conditions: none.
-/
import Derived.Test.YtfpigemikpbbhaaBase
namespace Go.Proofs.Ytfpigemikpbbhaa
open Go.RowKit Mono

theorem loop_eq (b : ByteArray) : ∀ (k i : Nat) (r : List UInt8), b.size - i = k → ByteArray.toList.loop b i r = r.reverse ++ b.data.toList.drop i
  | 0, i, r, h => by
    rw [ByteArray.toList.loop, if_neg (by omega), List.drop_eq_nil_of_le (by simp; have : b.data.size = b.size := rfl; omega)]
    simp
  | k + 1, i, r, h => by
    have hi : i < b.data.toList.length := by simp; have : b.data.size = b.size := rfl; omega
    rw [ByteArray.toList.loop, if_pos (by omega), loop_eq b k (i + 1) _ (by omega), List.drop_eq_getElem_cons hi]
    have : b.get! i = b.data.toList[i] := by
      simp at hi
      show b.data[i]! = _
      simp [hi]
    rw [this]
    simp
theorem toList_data (b : ByteArray) : b.toList = b.data.toList := by
  unfold ByteArray.toList
  rw [loop_eq b b.size 0 [] (by omega)]
  simp

/-- The bytes as a string's. -/
def bs (l : List UInt8) : ByteArray := ⟨l.toArray⟩
theorem bs_toList (l : List UInt8) : (bs l).toList = l := by
  rw [toList_data]
  simp [bs]
theorem bs_beq (l m : List UInt8) : ((bs l).toList == (bs m).toList) = decide (l = m) := by
  rw [bs_toList, bs_toList, Bool.eq_iff_iff]
  simp
theorem conv_bytes {w : World} {v : Value} {l : List UInt8} (h : IsB w v l) : (convert 22 9 v).run Try.prog w = .ok (.string (bs l)) w := by
  obtain ⟨A, c, rfl, h1, h2, hr⟩ := h
  cases A with
  | none =>
    have : l = [] := by
      by_cases hl : bvs l = []
      · simpa [bvs] using hl
      · obtain ⟨b, o, e, _⟩ := hr hl
        cases e
    subst this
    rw [run_convert_bytes_string w _ _ 5 none _ c Try.underlying22 Try.underlying5 Try.underlying9]
    rfl
  | some ad =>
    refine run_convert_bytes_back w _ _ 5 ad c l Try.underlying22 Try.underlying5 Try.underlying9 fun j hj => ?_
    obtain ⟨b, o, e, _, hc⟩ := hr (by intro e; have := bvs_length l; rw [e] at this; simp at this; omega)
    injection e with e
    subst e
    rw [add_none]
    exact hc j _ (bvs_at l j hj)
theorem conv_later {w : World} {v : Value} {l : List UInt8} (h : IsB w v l) (x : Later w) : (convert 22 9 v).run Try.prog x.1 = .ok (.string (bs l)) x.1 := conv_bytes (h.gr x.2)

namespace Mono
section
variable {P : Program} {ops : Array Oper} {C : World → Prop}
def guardFree (ops : Array Oper) (o : Oper) (ts : List Tmp) : Bool :=
  match o.guard with
  | none => true
  | some (g, _) => match dstOf ops g with
    | none => true
    | some d => !ts.contains d
theorem wanted_guard {o : Oper} {a b : Act} (h : ∀ g want d, o.guard = some (g, want) → dstOf ops g = some d → b.tmps.getD d undef = a.tmps.getD d undef) :
    Region.wanted o (yielded ops b.tmps) = Region.wanted o (yielded ops a.tmps) := by
  unfold Region.wanted
  cases hg : o.guard with
  | none => rfl
  | some x =>
    obtain ⟨g, want⟩ := x
    simp only [yielded_eq]
    cases hd : dstOf ops g with
    | none => rfl
    | some d =>
      simp only [Option.bind_some]
      rw [h g want d hg hd]
theorem guard_looks {o : Oper} {g : Nat} {want : Bool} {d : Tmp} (hg : o.guard = some (g, want)) (hd : dstOf ops g = some d) : d ∈ o.looksAt ops := by
  unfold Oper.looksAt
  rw [hg]
  simp only [List.mem_append]
  right
  unfold dstOf at hd
  simp [hd]
/-- A slot that is known by a predicate is made into a value that is known. -/
theorem wpN_conv {R : Act → World → Prop} {a : Act} {N : List (Tmp × VP)} {o : Oper} {l : List Oper} (t : Tmp) (V : VP) (c : Value) (ht : t ∈ o.looksAt ops) (hN : look N t = some V)
    (hf : (guardFree ops o (N.map (·.1)) && dstFree o (N.map (·.1))) = true) (hw : Region.wanted o (yielded ops a.tmps) = true)
    (hop : ∀ (b : Act) (w : World), C w → V (b.tmps.getD t undef) w → growsTo P (eqV c) w ((execOp b.eval o).run P w)) (hr : wpN P ops C R l (a.put o.dst c) N) : wpN P ops C R (o :: l) a N := by
  simp only [Bool.and_eq_true] at hf
  refine wpN_det c hf.2 (fun b w hC hb => ?_) hr
  have h1 := hb t ht
  unfold phiN at h1
  rw [hN] at h1
  have hwb : Region.wanted o (yielded ops b.tmps) = true := by
    rw [wanted_guard (a := a) (b := b) fun g want d hg hd => ?_, hw]
    have h2 := hb d (guard_looks hg hd)
    have h3 := hf.1
    unfold guardFree at h3
    simp only [hg, hd] at h3
    unfold phiN at h2
    rw [look_none N (by simpa using h3)] at h2
    exact h2
  exact ⟨fun _ => hop b w hC h1, fun hnot => by rw [hwb] at hnot; cases hnot⟩
end
end Mono
/-- 'string(b)' of a slot that is known to read as l. -/
theorem conv_slot {o : Oper} {t : Tmp} (ho : o.op = .convert 22 9 (.tmp t)) {l : List UInt8} (b : Act) (w : World) (h : IsB w (b.tmps.getD t undef) l) : growsTo Try.prog (eqV (.string (bs l))) w ((execOp b.eval o).run Try.prog w) := by
  have hr := conv_bytes h
  have he : b.eval (.tmp t) = b.tmps.getD t undef := rfl
  unfold execOp
  simp only [ho, he, Sem.run_bind, Sem.run_pure, hr, Result.andThen_ok]
  exact ⟨Gr.refl w, rfl⟩
end Go.Proofs.Ytfpigemikpbbhaa
