/-
  What data that come in read as: items.
  Conditions: none.
-/
import Derived.Test.YtfpigemikpbbhaaOpenAll
import Derived.Test.YtfpigemikpbbhaaItem
namespace Go.Proofs.Ytfpigemikpbbhaa
set_option linter.unusedVariables false
open Go.RowKit Mono Rlp Go.ChangeShapes Go.WideShapes Go.Deep
section
variable {H : Type} {enc : TypeId × Value → H} {w : World} {spare : Nat → Bool} {held : Bool}
theorem slice_rowsF {t e n : TypeId} {fuel : Nat} {v : Value} {x : DataW H × List MemPlace} (ht : Try.prog.underlying t = some (.slice e)) (hn : Try.prog.cellsOf e = n) (h : DataW.trod enc Try.prog w 0 spare held fuel t [v] = some x) :
    ∃ (A : Option Addr) (c f : Nat) (rows : List (List Value)), v = .slice A rows.length c ∧ rows.length ≤ c ∧ c ≤ maxLen ∧ Rd w w.heap.size A rows.flatten ∧ (∀ r ∈ rows, r.length = n) ∧ (A = none → rows = [] ∧ c = 0) ∧ (rows ≠ [] → f < fuel) ∧ ∀ r ∈ rows, ∃ y, DataW.trod enc Try.prog w 0 spare held f e r = some y := by
  rcases DataW.trod_slice ht h with ⟨hcs, _⟩ | ⟨a, len, cap, elems, rest, f, hfu, hcs, _, _, hl, hm, hel, hi, _⟩
  · simp at hcs
    subst hcs
    exact ⟨none, 0, 0, [], rfl, Nat.le_refl _, by simp [maxLen], Rd.nil, by simp, fun _ => ⟨rfl, rfl⟩, fun hne => absurd rfl hne, by simp⟩
  · simp at hcs
    subst hcs
    rw [hn] at hi
    let row : Nat → List Value := fun i => (w.cells? 0 (a.add (i * n)) n).getD []
    have hrow : ∀ i, i < len → w.cells? 0 (a.add (i * n)) n = some (row i) ∧ ∃ y, DataW.trod enc Try.prog w 0 spare held f e (row i) = some y := fun i hil => by
      have h1 := hi i hil
      rw [List.getElem?_eq_getElem (by omega)] at h1
      cases hc : w.cells? 0 (a.add (i * n)) n with
      | none => rw [hc] at h1; cases h1
      | some cs' =>
        rw [hc] at h1
        have : row i = cs' := by simp only [row]; rw [hc]; rfl
        rw [this]
        exact ⟨rfl, _, h1⟩
    have hmem : ∀ r ∈ (List.range len).map row, ∃ i, i < len ∧ r = row i := fun r hr => by
      obtain ⟨i, h1, h2⟩ := List.mem_map.1 hr
      exact ⟨i, List.mem_range.1 h1, h2.symm⟩
    have hlen : ∀ r ∈ (List.range len).map row, r.length = n := fun r hr => by
      obtain ⟨i, h1, rfl⟩ := hmem r hr
      exact (World.cells?_some (hrow i h1).1).2.1
    refine ⟨some a, cap, f, (List.range len).map row, by simp, by simpa using hl, hm, ?_, hlen, (fun e => by cases e), fun _ => by omega, fun r hr => ?_⟩
    · have hcell : ∀ j u, ((List.range len).map row).flatten[j]? = some u → w.cell? (a.add j) = some u := fun j u hu => by
        obtain ⟨i, r, row', rfl, h2, h3, h4⟩ := flat_get _ j hlen hu
        have hil : i < len := by
          have := (List.getElem?_eq_some_iff.1 h3).1
          simpa using this
        have h5 : row' = row i := by
          rw [List.getElem?_map, List.getElem?_range hil] at h3
          exact (Option.some.inj h3).symm
        subst h5
        have h6 := (World.cells?_some (hrow i hil).1).2.2 r h2
        rw [h4, Go.Deep.add_add] at h6
        exact h6
      intro hne
      obtain ⟨u0, rest, he⟩ := List.exists_cons_of_ne_nil hne
      have h0 := hcell 0 u0 (by rw [he]; rfl)
      rw [show a.add 0 = a from if_pos rfl] at h0
      obtain ⟨h1, b, o, rfl⟩ := cell_spot h0
      refine ⟨b, o, rfl, h1, fun j u hu => ?_⟩
      have := hcell j u hu
      rw [add_none] at this
      exact this
    · obtain ⟨i, h1, rfl⟩ := hmem r hr
      exact (hrow i h1).2
theorem itemsAt_of {rows : List (List Value)} (h : ∀ r ∈ rows, ∃ x, ItemAt w x r) : ∃ xs : List Raw, xs.length = rows.length ∧ ItemsAt w xs rows := by
  induction rows with
  | nil => exact ⟨[], rfl, by rw [ItemsAt.nil_eq]⟩
  | cons r rows ih =>
    obtain ⟨xs, h1, h2⟩ := ih fun r hr => h r (by simp [hr])
    obtain ⟨x, hx⟩ := h r (by simp)
    exact ⟨x :: xs, by simp [h1], by rw [ItemsAt.cons_eq]; exact ⟨r, rows, rfl, hx, h2⟩⟩
set_option maxRecDepth 100000 in
theorem item_of_trod (fuel : Nat) : ∀ (cs : List Value) (x : DataW H × List MemPlace), DataW.trod enc Try.prog w 0 spare held fuel 45 cs = some x → ∃ r, ItemAt w r cs := by
  induction fuel using Nat.strongRecOn with
  | ind fuel ih =>
    intro cs x h
    obtain ⟨xs, n, hf, _, hl, hxl, hg⟩ := DataW.trod_struct Try.underlying45 h
    have h0 := hg 0 _ rfl
    have h1 := hg 1 _ rfl
    have h2 := hg 2 _ rfl
    rw [(by kernel_rfl : Try.prog.cellsOf 45 = 3)] at hl
    match cs, hl with
    | [c0, c1, c2], _ =>
      match xs, hxl with
      | [y0, y1, y2], _ =>
        have k0 : DataW.trod enc Try.prog w 0 spare held n 4 [c0] = some y0 := by
          rw [(by kernel_rfl : Try.prog.cellsOf _ = 1)] at h0
          exact h0
        have k1 : DataW.trod enc Try.prog w 0 spare held n 22 [c1] = some y1 := by
          rw [(by kernel_rfl : Try.prog.cellsOf _ = 1)] at h1
          exact h1
        have k2 : DataW.trod enc Try.prog w 0 spare held n 42 [c2] = some y2 := by
          rw [(by kernel_rfl : Try.prog.cellsOf _ = 1)] at h2
          exact h2
        obtain ⟨b, e0, _⟩ := DataW.trod_bool Try.underlying4 k0
        obtain rfl : c0 = .bool b := by simpa using e0
        obtain ⟨l, hb⟩ := bytes_of_trod k1
        obtain ⟨A, c, f, rows, rfl, g1, g2, g3, _, g4, g5, g6⟩ := slice_rowsF Try.underlying42 (by kernel_rfl : Try.prog.cellsOf 45 = 3) k2
        obtain ⟨ys, m1, m2⟩ := itemsAt_of (w := w) fun r hr => by
          obtain ⟨y, hy⟩ := g6 r hr
          have hne : rows ≠ [] := fun e => by rw [e] at hr; cases hr
          exact ih f (by have := g5 hne; omega) r y hy
        refine ⟨.mk b l ys, ?_⟩
        rw [ItemAt.eq, m1]
        exact ⟨c1, A, c, rows, rfl, hb, g1, g2, fun e => by rw [(g4 e).1]; exact ⟨rfl, (g4 e).2⟩, g3, m2⟩
variable {r : Reach} {b0 : Nat} {v : Value} {d : DataW H} {ps : List MemPlace}
set_option maxRecDepth 100000 in
theorem o_item (hv : Value.okWide Try.prog w r b0 45 v) (h : DataW.Trod enc Try.prog w 0 spare held 45 v d ps) : ∃ x, IsItem w v x := by
  obtain ⟨cs, rfl, _⟩ := okWide_struct Try.underlying45 hv
  obtain ⟨fuel, hf⟩ := h
  obtain ⟨x, hx⟩ := item_of_trod _ _ _ hf
  exact ⟨x, cs.toList, by simp, hx⟩
set_option maxRecDepth 100000 in
theorem o_items (hv : Value.okWide Try.prog w r b0 42 v) (h : DataW.Trod enc Try.prog w 0 spare held 42 v d ps) : ∃ xs, IsItems w v xs := by
  obtain ⟨a, n, c, rfl⟩ := okWide_slice Try.underlying42 hv
  obtain ⟨fuel, hf⟩ := h
  obtain ⟨A, c, f, rows, e, g1, g2, g3, _, g4, g5, g6⟩ := slice_rowsF Try.underlying42 (by kernel_rfl : Try.prog.cellsOf 45 = 3) hf
  obtain ⟨ys, m1, m2⟩ := itemsAt_of (w := w) fun r hr => by
    obtain ⟨y, hy⟩ := g6 r hr
    exact item_of_trod f r y hy
  rw [← m1] at e g1
  exact ⟨ys, A, c, rows, e, g1, g2, fun h => by rw [m1, (g4 h).1]; exact ⟨rfl, (g4 h).2⟩, g3, m2⟩
end
end Go.Proofs.Ytfpigemikpbbhaa
