/-
  What data that come in read as: bytes, lists of bytes, arrays of bytes.
  Conditions: none.
-/
import Derived.Test.YtfpigemikpbbhaaArr
import Derived.Test.YtfpigemikpbbhaaOpen
import Derived.Deep.Slices
import Derived.ChangeSame
namespace Go.Proofs.Ytfpigemikpbbhaa
open Go.RowKit Mono Go.ChangeShapes Go.WideShapes Go.Deep

theorem cell_spot {w : World} {p : Addr} {v : Value} (h : w.cell? p = some v) : p.block < w.heap.size ∧ ∃ b o, p = ⟨b, o, none⟩ := by
  obtain ⟨blk, off, spot⟩ := p
  have hspot : spot = none := by
    simp only [World.cell?] at h
    cases spot with
    | none => rfl
    | some s =>
      simp at h
      split at h <;> simp at h
  subst hspot
  refine ⟨?_, blk, off, rfl⟩
  rcases Nat.lt_or_ge blk w.heap.size with hlt | hge
  · exact hlt
  · simp [World.cell?, Array.getElem?_eq_none hge] at h
theorem flat_get {n : Nat} {u : Value} : ∀ (rows : List (List Value)) (j : Nat), (∀ r ∈ rows, r.length = n) → rows.flatten[j]? = some u → ∃ i r row, j = i * n + r ∧ r < n ∧ rows[i]? = some row ∧ row[r]? = some u
  | [], j, _, h => by simp at h
  | row :: rows, j, hn, h => by
    have hr : row.length = n := hn row (by simp)
    rw [List.flatten_cons] at h
    by_cases hj : j < n
    · rw [List.getElem?_append_left (by omega)] at h
      exact ⟨0, j, row, by simp, hj, rfl, h⟩
    · rw [List.getElem?_append_right (by omega), hr] at h
      obtain ⟨i, r, row', h1, h2, h3, h4⟩ := flat_get rows (j - n) (fun r hr => hn r (by simp [hr])) h
      exact ⟨i + 1, r, row', by rw [Nat.add_mul]; omega, h2, by simpa using h3, h4⟩
section
variable {H : Type} {enc : TypeId × Value → H} {w : World} {spare : Nat → Bool} {held : Bool}
/-- A slice reads as rows of cells, each of which reads as an element. -/
theorem slice_rows {t e n : TypeId} {fuel : Nat} {v : Value} {x : DataW H × List MemPlace} (ht : Try.prog.underlying t = some (.slice e)) (hn : Try.prog.cellsOf e = n) (h : DataW.trod enc Try.prog w 0 spare held fuel t [v] = some x) :
    ∃ (A : Option Addr) (c f : Nat) (rows : List (List Value)), v = .slice A rows.length c ∧ rows.length ≤ c ∧ c ≤ maxLen ∧ Rd w w.heap.size A rows.flatten ∧ (∀ r ∈ rows, r.length = n) ∧ (A = none → rows = [] ∧ c = 0) ∧ ∀ r ∈ rows, ∃ y, DataW.trod enc Try.prog w 0 spare held f e r = some y := by
  rcases open_slice ht h with ⟨hcs, _⟩ | ⟨a, len, cap, m, f, D, Pl, hcs, _, hl, hm, hmm, _, hi⟩
  · simp at hcs
    subst hcs
    exact ⟨none, 0, 0, [], rfl, Nat.le_refl _, by simp [maxLen], Rd.nil, by simp, fun _ => ⟨rfl, rfl⟩, by simp⟩
  · simp at hcs
    subst hcs
    have hlm : len ≤ m := by rw [hmm]; split <;> omega
    rw [hn] at hi
    let row : Nat → List Value := fun i => (w.cells? 0 (a.add (i * n)) n).getD []
    have hrow : ∀ i, i < len → w.cells? 0 (a.add (i * n)) n = some (row i) ∧ ∃ y, DataW.trod enc Try.prog w 0 spare held f e (row i) = some y := fun i hil => by
      obtain ⟨cs', h1, h2⟩ := hi i (by omega)
      have : row i = cs' := by simp only [row]; rw [h1]; rfl
      rw [this]
      exact ⟨h1, _, h2⟩
    have hmem : ∀ r ∈ (List.range len).map row, ∃ i, i < len ∧ r = row i := fun r hr => by
      obtain ⟨i, h1, h2⟩ := List.mem_map.1 hr
      exact ⟨i, List.mem_range.1 h1, h2.symm⟩
    have hlen : ∀ r ∈ (List.range len).map row, r.length = n := fun r hr => by
      obtain ⟨i, h1, rfl⟩ := hmem r hr
      exact (World.cells?_some (hrow i h1).1).2.1
    refine ⟨some a, cap, f, (List.range len).map row, by simp, by simpa using hl, hm, ?_, hlen, (fun e => by cases e), fun r hr => ?_⟩
    · have hcell : ∀ j u, ((List.range len).map row).flatten[j]? = some u → w.cell? (a.add j) = some u := fun j u hu => by
        obtain ⟨i, r, row', rfl, h2, h3, h4⟩ := flat_get _ j hlen hu
        have hil : i < len := by
          have := (List.getElem?_eq_some_iff.1 h3).1
          simpa using this
        have h5 : row' = row i := by
          rw [List.getElem?_map, List.getElem?_range hil] at h3
          exact (Option.some.inj h3).symm
        subst h5
        have h6 := (World.cells?_some (hrow i hil).1).2.2 r h2
        rw [h4, Go.Deep.add_add] at h6
        exact h6
      intro hne
      obtain ⟨u0, rest, he⟩ := List.exists_cons_of_ne_nil hne
      have h0 := hcell 0 u0 (by rw [he]; rfl)
      rw [show a.add 0 = a from if_pos rfl] at h0
      obtain ⟨h1, b, o, rfl⟩ := cell_spot h0
      refine ⟨b, o, rfl, h1, fun j u hu => ?_⟩
      have := hcell j u hu
      rw [add_none] at this
      exact this
    · obtain ⟨i, h1, rfl⟩ := hmem r hr
      exact (hrow i h1).2
theorem int_of_trod {t : TypeId} {k : IntKind} {fuel : Nat} {cs : List Value} {x : DataW H × List MemPlace} (ht : Try.prog.underlying t = some (.int k)) (h : DataW.trod enc Try.prog w 0 spare held fuel t cs = some x) : ∃ n, cs = [.int k n] ∧ (Lit.int k n).wf = true := by
  obtain ⟨n, h1, _, h2⟩ := DataW.trod_int ht h
  exact ⟨n, h1, h2⟩
theorem u8_of_trod {fuel : Nat} {cs : List Value} {x : DataW H × List MemPlace} (h : DataW.trod enc Try.prog w 0 spare held fuel 5 cs = some x) : ∃ b : UInt8, cs = [bv b] := by
  obtain ⟨n, rfl, hw⟩ := int_of_trod Try.underlying5 h
  have hb := bounds_u8 hw
  refine ⟨UInt8.ofNat n.toNat, ?_⟩
  unfold bv
  rw [UInt8.toNat_ofNat']
  have : ((n.toNat % 2 ^ 8 : Nat) : Int) = n := by omega
  rw [this]
theorem bytes_of_rows {rows : List (List Value)} (h : ∀ r ∈ rows, ∃ b : UInt8, r = [bv b]) : ∃ l : List UInt8, l.length = rows.length ∧ rows.flatten = bvs l := by
  induction rows with
  | nil => exact ⟨[], rfl, rfl⟩
  | cons r rows ih =>
    obtain ⟨l, h1, h2⟩ := ih fun r hr => h r (by simp [hr])
    obtain ⟨b, rfl⟩ := h r (by simp)
    exact ⟨b :: l, by simp [h1], by simp [h2, bvs]⟩
theorem bytes_of_trod {fuel : Nat} {v : Value} {x : DataW H × List MemPlace} (h : DataW.trod enc Try.prog w 0 spare held fuel 22 [v] = some x) : ∃ l, IsB w v l := by
  obtain ⟨A, c, f, rows, rfl, h1, h2, h3, _, _, h5⟩ := slice_rows Try.underlying22 (by kernel_rfl : Try.prog.cellsOf 5 = 1) h
  obtain ⟨l, h6, h7⟩ := bytes_of_rows fun r hr => by
    obtain ⟨y, hy⟩ := h5 r hr
    exact u8_of_trod hy
  rw [h7] at h3
  exact ⟨l, A, c, by rw [h6], by rw [h6]; exact h1, h2, h3⟩
theorem flat_one : ∀ vals : List Value, (vals.map fun v => [v]).flatten = vals
  | [] => rfl
  | v :: vals => by rw [List.map_cons, List.flatten_cons, flat_one vals]; rfl
theorem bytes_rows {rows : List (List Value)} (h : ∀ r ∈ rows, ∃ v, r = [v] ∧ ∃ l, IsB w v l) :
    ∃ (vals : List Value) (ms : List (List UInt8)), rows = vals.map (fun v => [v]) ∧ vals.length = ms.length ∧ ∀ (i : Nat) (x : Value) (m : List UInt8), vals[i]? = some x → ms[i]? = some m → IsB w x m := by
  induction rows with
  | nil => exact ⟨[], [], rfl, rfl, fun i x m h => by simp at h⟩
  | cons r rows ih =>
    obtain ⟨vals, ms, h1, h2, h3⟩ := ih fun r hr => h r (by simp [hr])
    obtain ⟨v, rfl, l, hl⟩ := h r (by simp)
    refine ⟨v :: vals, l :: ms, by simp [h1], by simp [h2], fun i x m hx hm => ?_⟩
    cases i with
    | zero =>
      simp at hx hm
      rw [← hx, ← hm]
      exact hl
    | succ i =>
      simp at hx hm
      exact h3 i x m hx hm
theorem bb_of_trod {fuel : Nat} {v : Value} {x : DataW H × List MemPlace} (h : DataW.trod enc Try.prog w 0 spare held fuel 34 [v] = some x) : ∃ ms, IsBB w v ms := by
  obtain ⟨A, c, f, rows, rfl, h1, h2, h3, h4, _, h5⟩ := slice_rows Try.underlying34 (by kernel_rfl : Try.prog.cellsOf 22 = 1) h
  obtain ⟨vals, ms, h6, h7, h8⟩ := bytes_rows fun r hr => by
    obtain ⟨y, hy⟩ := h5 r hr
    obtain ⟨v, rfl⟩ := List.length_eq_one_iff.1 (h4 r hr)
    exact ⟨v, rfl, bytes_of_trod hy⟩
  have h9 : rows.length = ms.length := by rw [h6, List.length_map, h7]
  rw [h9] at h1 ⊢
  refine ⟨ms, A, c, vals, rfl, h1, h2, h7, ?_, h8⟩
  rw [h6] at h3
  rwa [flat_one] at h3

/-! ### A parameter, by its type -/
set_option maxRecDepth 100000
variable {r : Reach} {b0 : Nat} {v : Value} {d : DataW H} {ps : List MemPlace}
theorem o_int (hv : Value.okWide Try.prog w r b0 3 v) (h : DataW.Trod enc Try.prog w 0 spare held 3 v d ps) : ∃ n : Int, v = .int .i64 n ∧ -9223372036854775808 ≤ n ∧ n ≤ 9223372036854775807 := by
  obtain ⟨n, rfl, _, _, hw⟩ := open_int Try.underlying3 hv h
  exact ⟨n, rfl, bounds_i64 hw⟩
theorem o_u8 (hv : Value.okWide Try.prog w r b0 5 v) (h : DataW.Trod enc Try.prog w 0 spare held 5 v d ps) : ∃ n : Int, v = .int .u8 n ∧ 0 ≤ n ∧ n ≤ 255 := by
  obtain ⟨n, rfl, _, _, hw⟩ := open_int Try.underlying5 hv h
  exact ⟨n, rfl, bounds_u8 hw⟩
theorem o_bool (hv : Value.okWide Try.prog w r b0 4 v) (h : DataW.Trod enc Try.prog w 0 spare held 4 v d ps) : ∃ b : Bool, v = .bool b := by
  obtain ⟨b, rfl, _, _⟩ := open_bool Try.underlying4 hv h
  exact ⟨b, rfl⟩
theorem o_bytes (hv : Value.okWide Try.prog w r b0 22 v) (h : DataW.Trod enc Try.prog w 0 spare held 22 v d ps) : ∃ l, IsB w v l := by
  obtain ⟨a, n, c, rfl⟩ := okWide_slice Try.underlying22 hv
  obtain ⟨fuel, hf⟩ := h
  exact bytes_of_trod hf
theorem o_bb (hv : Value.okWide Try.prog w r b0 34 v) (h : DataW.Trod enc Try.prog w 0 spare held 34 v d ps) : ∃ ms, IsBB w v ms := by
  obtain ⟨a, n, c, rfl⟩ := okWide_slice Try.underlying34 hv
  obtain ⟨fuel, hf⟩ := h
  exact bb_of_trod hf
end
end Go.Proofs.Ytfpigemikpbbhaa
