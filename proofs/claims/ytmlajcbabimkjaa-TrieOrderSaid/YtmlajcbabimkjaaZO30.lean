/-
  Merged (wip/tools/merge.py): OpenSh, OpenPr, LawM.
  Conditions: none.
-/
import Derived.Test.YtmlajcbabimkjaaZO2
import Derived.Test.YtmlajcbabimkjaaZO29
import Derived.Test.YtmlajcbabimkjaaZO18
import Derived.Test.YtmlajcbabimkjaaZO10
import Derived.Below
/-
  What data that come in read as, by their shape: numbers, bools, arrays of bytes, bytes, slices and structs of these.
  Conditions: none.
-/
namespace Go.Proofs.Ytmlajcbabimkjaa
set_option linter.unusedVariables false
set_option maxRecDepth 100000
open Go.RowKit Mono Go.ChangeShapes Go.WideShapes Go.Deep
namespace E
inductive Sh where
  | bool
  | int (k : IntKind)
  | arr (n : Nat)
  | bytes
  | slice (b : Nat) (s : Sh)
  | struct (ss : List Sh)
mutual
def Sh.size : Sh → Nat
  | .arr n => n
  | .struct ss => Sh.sizes ss
  | _ => 1
def Sh.sizes : List Sh → Nat
  | [] => 0
  | s :: ss => s.size + Sh.sizes ss
end
def Sh.agg : Sh → Bool
  | .arr _ => true
  | .struct _ => true
  | _ => false
mutual
def Sh.Is : Sh → TypeId → Prop
  | .bool, t => Try.prog.underlying t = some .bool ∧ Try.prog.cellsOf t = 1
  | .int k, t => Try.prog.underlying t = some (.int k) ∧ Try.prog.cellsOf t = 1
  | .arr n, t => Try.prog.underlying t = some (.array n 5) ∧ Try.prog.cellsOf t = n
  | .bytes, t => Try.prog.underlying t = some (.slice 5) ∧ Try.prog.cellsOf t = 1
  | .slice b s, t => Try.prog.cellsOf t = 1 ∧ ∃ e, Try.prog.underlying t = some (.slice e) ∧ Try.prog.bytesOf e = b ∧ s.Is e
  | .struct ss, t => ∃ fs : Array Field, Try.prog.underlying t = some (.struct fs) ∧ Try.prog.cellsOf t = Sh.sizes ss ∧ Sh.IsF ss 0 fs.toList
def Sh.IsF : List Sh → Nat → List Field → Prop
  | [], _, fs => fs = []
  | s :: ss, o, fs => ∃ f rest, fs = f :: rest ∧ f.offset = o ∧ s.Is f.type ∧ Sh.IsF ss (o + s.size) rest
end
mutual
def Sh.Of (N : Nat) : Sh → D → Prop
  | .bool, d => ∃ b, d = .v (.bool b)
  | .int k, d => ∃ n, d = .v (.int k n) ∧ (Lit.int k n).wf = true
  | .arr n, d => ∃ l : List UInt8, l.length = n ∧ d = .arr n l
  | .bytes, d => ∃ l : List UInt8, l.length ≤ N ∧ d = .bs l
  | .slice b s, d => ∃ ds : List D, ds.length * b ≤ N ∧ d = .sl s.size ds ∧ ∀ x ∈ ds, s.Of N x
  | .struct ss, d => ∃ ds, d = .tup ds ∧ Sh.OfL N ss ds
def Sh.OfL (N : Nat) : List Sh → List D → Prop
  | [], ds => ds = []
  | s :: ss, ds => ∃ d rest, ds = d :: rest ∧ s.Of N d ∧ Sh.OfL N ss rest
end
theorem Sh.Is.cells : ∀ {s : Sh} {t : TypeId}, s.Is t → Try.prog.cellsOf t = s.size
  | .bool, t, h => by rw [Sh.Is] at h; exact h.2
  | .int k, t, h => by rw [Sh.Is] at h; exact h.2
  | .arr n, t, h => by rw [Sh.Is] at h; exact h.2
  | .bytes, t, h => by rw [Sh.Is] at h; exact h.2
  | .slice b s, t, h => by rw [Sh.Is] at h; exact h.1
  | .struct ss, t, h => by
    rw [Sh.Is] at h
    obtain ⟨fs, _, h2, _⟩ := h
    exact h2
theorem rows_mk {ok : Nat → Prop} {w : World} {z : Nat} {Q : D → Prop} : ∀ {rows : List (List Value)}, (∀ r ∈ rows, r.length = z ∧ ∃ d, Q d ∧ Reads ok w d r) → ∃ ds, ds.length = rows.length ∧ (∀ x ∈ ds, Q x) ∧ ReadsRows ok w z ds rows
  | [], _ => ⟨[], rfl, by simp, by rw [ReadsRows]⟩
  | r :: rows, h => by
    obtain ⟨ds, h1, h2, h3⟩ := rows_mk (rows := rows) fun r hr => h r (by simp [hr])
    obtain ⟨hz, d, hd, hr⟩ := h r (by simp)
    refine ⟨d :: ds, by simp [h1], fun x hx => ?_, by rw [ReadsRows]; exact ⟨r, rows, rfl, hz, hr, h3⟩⟩
    rcases List.mem_cons.1 hx with rfl | hx
    · exact hd
    · exact h2 x hx
section
variable {H : Type} {enc : TypeId × Value → H} {w : World} {spare : Nat → Bool} {held : Bool} {N : Nat}
mutual
theorem sh_trod : ∀ (s : Sh) (t : TypeId) (fuel : Nat) (cs : List Value) (x : DataW H × List MemPlace), s.Is t → DataW.trod enc Try.prog w 0 spare held fuel t cs = some x → (∀ k ∈ x.1.weights Try.prog t, k ≤ N) → ∃ d, s.Of N d ∧ Reads (fun b => b < w.heap.size) w d cs
  | .bool, t, fuel, cs, x, hs, h, hN => by
    rw [Sh.Is] at hs
    obtain ⟨b, rfl, _⟩ := DataW.trod_bool hs.1 h
    exact ⟨.v (.bool b), by rw [Sh.Of]; exact ⟨b, rfl⟩, by rw [Reads]; exact ⟨rfl, rfl⟩⟩
  | .int k, t, fuel, cs, x, hs, h, hN => by
    rw [Sh.Is] at hs
    obtain ⟨n, rfl, _, hw⟩ := DataW.trod_int hs.1 h
    exact ⟨.v (.int k n), by rw [Sh.Of]; exact ⟨n, rfl, hw⟩, by rw [Reads]; exact ⟨rfl, rfl⟩⟩
  | .arr n, t, fuel, cs, x, hs, h, hN => by
    rw [Sh.Is] at hs
    obtain ⟨l, hl, rfl⟩ := arr_of_trod hs.1 hs.2 h
    exact ⟨.arr n l, by rw [Sh.Of]; exact ⟨l, hl, rfl⟩, by rw [Reads]; exact ⟨hl, rfl⟩⟩
  | .bytes, t, fuel, cs, x, hs, h, hN => by
    rw [Sh.Is] at hs
    have hl : ∃ v, cs = [v] := by
      rcases DataW.trod_slice hs.1 h with ⟨hcs, _⟩ | ⟨a, len, cap, elems, rest, f, hfu, hcs, _⟩
      · exact ⟨_, hcs⟩
      · exact ⟨_, hcs⟩
    obtain ⟨v, rfl⟩ := hl
    obtain ⟨A, c, f, rows, rfl, h1, h2, h3, _, _, _, h5, h8⟩ := slice_rowsW hs.1 (by kernel_rfl : Try.prog.cellsOf 5 = 1) h
    obtain ⟨l, h6, h7⟩ := bytes_of_rows fun r hr => by
      obtain ⟨y, hy, _⟩ := h5 r hr
      exact u8_of_trod hy
    rw [h7] at h3
    have hl : l.length ≤ N := by
      rw [h6]
      by_cases hr : rows = []
      · rw [hr]; simp
      · obtain ⟨k, hk, hk2⟩ := h8 hr
        rw [(by kernel_rfl : Try.prog.bytesOf 5 = 1), Nat.mul_one] at hk2
        exact Nat.le_trans hk2 (hN k hk)
    exact ⟨.bs l, by rw [Sh.Of]; exact ⟨l, hl, rfl⟩, by rw [Reads]; exact ⟨_, rfl, A, c, by rw [h6], by rw [h6]; exact h1, h2, h3⟩⟩
  | .slice b s, t, fuel, cs, x, hs, h, hN => by
    rw [Sh.Is] at hs
    obtain ⟨_, e, hu, hb, he⟩ := hs
    have hl : ∃ v, cs = [v] := by
      rcases DataW.trod_slice hu h with ⟨hcs, _⟩ | ⟨a, len, cap, elems, rest, f, hfu, hcs, _⟩
      · exact ⟨_, hcs⟩
      · exact ⟨_, hcs⟩
    obtain ⟨v, rfl⟩ := hl
    obtain ⟨A, c, f, rows, rfl, h1, h2, h3, h4, h5, _, h6, h8⟩ := slice_rowsW hu he.cells h
    obtain ⟨ds, g1, g2, g3⟩ := rows_mk (ok := fun b => b < w.heap.size) (w := w) (z := s.size) (Q := s.Of N) fun r hr => by
      obtain ⟨y, hy, hk⟩ := h6 r hr
      exact ⟨h4 r hr, sh_trod s e f r y he hy fun k hk' => hN k (hk k hk')⟩
    have hl : ds.length * b ≤ N := by
      rw [g1, ← hb]
      by_cases hr : rows = []
      · rw [hr]; simp
      · obtain ⟨k, hk, hk2⟩ := h8 hr
        exact Nat.le_trans hk2 (hN k hk)
    refine ⟨.sl s.size ds, by rw [Sh.Of]; exact ⟨ds, hl, rfl, g2⟩, ?_⟩
    rw [Reads]
    exact ⟨A, c, rows, by rw [g1], by rw [g1]; exact h1, h2, fun e => by rw [g1, (h5 e).1]; exact ⟨rfl, (h5 e).2⟩, h3, g3⟩
  | .struct ss, t, fuel, cs, x, hs, h, hN => by
    rw [Sh.Is] at hs
    obtain ⟨fs, hu, hc, hf⟩ := hs
    obtain ⟨xs, n, _, hx, hl, hxl, hg⟩ := DataW.trod_struct hu h
    obtain ⟨ds, h1, h2⟩ := sh_trods ss 0 n cs fs.toList hf (by rw [hl, hc, Nat.zero_add]) fun f hm => by
      obtain ⟨i, hi, rfl⟩ := List.getElem_of_mem hm
      have hi' : i < fs.size := by simpa using hi
      have := hg i fs[i] (by rw [Array.getElem?_eq_getElem hi'])
      rw [List.getElem?_eq_getElem (by omega)] at this
      refine ⟨_, this, fun k hk => hN k ?_⟩
      rw [hx]
      simp only [DataW.weights, hu]
      exact DataW.weights_mem_each (j := i) (t := fs[i].type) (d := xs[i].1) (by simp [Array.getElem?_eq_getElem hi']) (by rw [List.getElem?_map, List.getElem?_eq_getElem (by omega)]; rfl) k hk
    exact ⟨.tup ds, by rw [Sh.Of]; exact ⟨ds, rfl, h1⟩, by rw [Reads]; simpa using h2⟩
theorem sh_trods : ∀ (ss : List Sh) (o n : Nat) (cs : List Value) (fs : List Field), Sh.IsF ss o fs → cs.length = o + Sh.sizes ss → (∀ f ∈ fs, ∃ y, DataW.trod enc Try.prog w 0 spare held n f.type ((cs.drop f.offset).take (Try.prog.cellsOf f.type)) = some y ∧ ∀ k ∈ y.1.weights Try.prog f.type, k ≤ N) →
    ∃ ds, Sh.OfL N ss ds ∧ ReadsL (fun b => b < w.heap.size) w ds (cs.drop o)
  | [], o, n, cs, fs, hf, hl, h => ⟨[], by rw [Sh.OfL], by
    rw [ReadsL]
    rw [Sh.sizes] at hl
    exact List.drop_eq_nil_of_le (by omega)⟩
  | s :: ss, o, n, cs, fs, hf, hl, h => by
    rw [Sh.IsF] at hf
    obtain ⟨f, rest, rfl, rfl, hs, hf⟩ := hf
    rw [Sh.sizes] at hl
    obtain ⟨y, hy, hk⟩ := h f (by simp)
    rw [hs.cells] at hy
    obtain ⟨d, h1, h2⟩ := sh_trod s f.type n _ y hs hy hk
    obtain ⟨ds, h3, h4⟩ := sh_trods ss (f.offset + s.size) n cs rest hf (by omega) fun g hg => h g (by simp [hg])
    refine ⟨d :: ds, by rw [Sh.OfL]; exact ⟨d, ds, rfl, h1, h3⟩, ?_⟩
    rw [ReadsL]
    refine ⟨_, _, ?_, h2, h4⟩
    rw [← List.drop_drop, List.take_append_drop]
end
theorem sh_agg {s : Sh} {d : D} (h : s.Of N d) : d.agg = s.agg := by
  cases s <;> rw [Sh.Of] at h
  · obtain ⟨_, rfl⟩ := h
    rfl
  · obtain ⟨_, rfl, _⟩ := h
    rfl
  · obtain ⟨_, _, rfl⟩ := h
    rfl
  · obtain ⟨_, _, rfl⟩ := h
    rfl
  · obtain ⟨_, _, rfl, _⟩ := h
    rfl
  · obtain ⟨_, rfl, _⟩ := h
    rfl
variable {r : Reach} {b0 : Nat} {v : Value} {d : DataW H} {ps : List MemPlace}
theorem sh_value {s : Sh} {t : TypeId} (hs : s.Is t) (hv : Value.okWide Try.prog w r b0 t v) (h : DataW.Trod enc Try.prog w 0 spare held t v d ps) : v = if s.agg then .agg v.cells else v.cells.toList.headD undef := by
  cases s <;> rw [Sh.Is] at hs
  · obtain ⟨b, rfl, _⟩ := open_bool hs.1 hv h
    rfl
  · obtain ⟨n, rfl, _⟩ := open_int hs.1 hv h
    rfl
  · simp only [Value.okWide, hs.1] at hv
    obtain ⟨cs, rfl, _⟩ := hv
    rfl
  · obtain ⟨a, n, c, rfl⟩ := okWide_slice hs.1 hv
    rfl
  · obtain ⟨_, e, hu, _, _⟩ := hs
    obtain ⟨a, n, c, rfl⟩ := okWide_slice hu hv
    rfl
  · obtain ⟨fs, hu, _⟩ := hs
    simp only [Value.okWide, hu] at hv
    obtain ⟨cs, rfl, _⟩ := hv
    rfl
theorem o_sh {s : Sh} {t : TypeId} (hs : s.Is t) (hv : Value.okWide Try.prog w r b0 t v) (h : DataW.Trod enc Try.prog w 0 spare held t v d ps) (hN : ∀ k ∈ d.weights Try.prog t, k ≤ N) : ∃ D, s.Of N D ∧ ReadV (fun b => b < w.heap.size) w D v := by
  have h3 := sh_value hs hv h
  obtain ⟨fuel, hf⟩ := h
  obtain ⟨D, h1, h2⟩ := sh_trod s t fuel _ _ hs hf hN
  refine ⟨D, h1, _, h2, ?_⟩
  unfold form
  rw [sh_agg h1]
  simpa using h3
end
end E
end Go.Proofs.Ytmlajcbabimkjaa
/-
  What data that come in read as: lists of pairs.
  Conditions: none.
-/
namespace Go.Proofs.Ytmlajcbabimkjaa
set_option linter.unusedVariables false
set_option maxRecDepth 100000
open Go.RowKit Mono Go.ChangeShapes Go.WideShapes Go.Deep
namespace E
def shPr : Sh := .struct [.bytes, .bytes]
theorem is_pairP : shPr.Is 28 := by
  unfold shPr
  rw [Sh.Is]
  refine ⟨_, Try.underlying28, by kernel_rfl, ?_⟩
  simp only [Sh.IsF, Sh.Is]
  exact ⟨_, _, rfl, rfl, ⟨Try.underlying23, by kernel_rfl⟩, _, _, rfl, rfl, ⟨Try.underlying23, by kernel_rfl⟩, rfl⟩
theorem is_pairsP : (Sh.slice 48 shPr).Is 22 := by
  rw [Sh.Is]
  exact ⟨by kernel_rfl, _, Try.underlying22, by kernel_rfl, is_pairP⟩
theorem maps_ofP {α : Type} {Q : D → Prop} {f : α → D} (h : ∀ d, Q d → ∃ a, d = f a) : ∀ {ds : List D}, (∀ x ∈ ds, Q x) → ∃ rs : List α, ds = rs.map f
  | [], _ => ⟨[], rfl⟩
  | d :: ds, hd => by
    obtain ⟨a, rfl⟩ := h d (hd d (by simp))
    obtain ⟨rs, rfl⟩ := maps_ofP h fun x hx => hd x (List.mem_cons_of_mem _ hx)
    exact ⟨a :: rs, rfl⟩
variable {N : Nat}
theorem of_pairP {d : D} (h : shPr.Of N d) : ∃ s : Pr, d = dPr s := by
  unfold shPr at h
  simp only [Sh.Of, Sh.OfL] at h
  obtain ⟨_, rfl, _, _, rfl, ⟨k, h1, rfl⟩, _, _, rfl, ⟨v, h2, rfl⟩, rfl⟩ := h
  exact ⟨(k, v), rfl⟩
theorem le_sumP (l : List Nat) : ∀ k ∈ l, k ≤ l.sum := by
  induction l with
  | nil => intro k hk; cases hk
  | cons a l ih =>
    intro k hk
    rw [List.sum_cons]
    rcases List.mem_cons.1 hk with rfl | hk
    · omega
    · have := ih k hk
      omega
end E
def o_prs_says (w : World) (v : Value) : Prop := ∃ l : List E.Pr, E.ReadV (fun b => b < w.heap.size) w (.sl 2 (l.map E.dPr)) v
section
variable {H : Type} {enc : TypeId × Value → H} {w : World} {spare : Nat → Bool} {held : Bool} {r : Reach} {b0 : Nat} {v : Value} {d : DataW H} {ps : List MemPlace}
theorem o_prs (hv : Value.okWide Try.prog w r b0 22 v) (h : DataW.Trod enc Try.prog w 0 spare held 22 v d ps) : o_prs_says w v := by
  obtain ⟨D, h1, h2⟩ := E.o_sh E.is_pairsP hv h (E.le_sumP _)
  rw [E.Sh.Of] at h1
  obtain ⟨ds, _, rfl, h3⟩ := h1
  obtain ⟨l, rfl⟩ := E.maps_ofP (fun _ => E.of_pairP) h3
  exact ⟨l, h2⟩
end
end Go.Proofs.Ytmlajcbabimkjaa
/-
  A law's function that answers true and whose pieces are none.
  Conditions: none.
-/
namespace Go.Proofs.Ytmlajcbabimkjaa
set_option linter.unusedVariables false
open Go.RowKit Mono
namespace E
theorem law_boolM {f : FuncId} {ds : List D} {xs : List Value} {w : World} (h : FnM f ds [] (fun r os' => r = .val (.v (.bool true)) ∧ os' = [])) (hr : ReadVs (fun b => b < w.heap.size) w ds xs) : Calls Try.prog f xs.toArray w fun e w' => e = .returned (.bool true) ∧ Below w.heap.size w w' :=
  (h.go _ w xs (fun b hb => hb) ⟨fun o ho => by simp at ho, .nil, fun b ⟨o, ho, _⟩ => by simp at ho⟩ hr).mono fun e w' ⟨v, r, os', he, ⟨h1, h2⟩, ht, hv⟩ => by
    subst he h1
    have hg := ht.gr.gr fun b ⟨o, ho, _⟩ => by simp at ho
    exact ⟨by rw [(readV_v.1 hv).2], hg⟩
end E
end Go.Proofs.Ytmlajcbabimkjaa
