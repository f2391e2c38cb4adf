/-
 Merged (wip/tools/merge.py): Open, OpenAll, OpenWord, OpenW, OpenSh, OpenAcR, LawM.
 Conditions: none.
-/
import Derived.Test.YtiledgojbpmoiaaGreatZQ2
import Derived.OpenShut
import Derived.Deep.Slices
import Derived.ChangeSame
import Derived.SizedLaws
import Derived.Test.YtiledgojbpmoiaaGreatZQ26
import Derived.Test.YtiledgojbpmoiaaGreatZQ10
import Derived.Below
namespace Go.Proofs.YtiledgojbpmoiaaGreat
open Go.RowKit Mono

end Go.Proofs.YtiledgojbpmoiaaGreat
namespace Go.Proofs.YtiledgojbpmoiaaGreat
set_option linter.unusedVariables false
set_option maxRecDepth 100000
open Go.RowKit Mono Go.ChangeShapes Go.WideShapes Go.Deep
theorem cell_spot {w : World} {p : Addr} {v : Value} (h : w.cell? p = some v) : p.block < w.heap.size ∧ ∃ b o, p = ⟨b, o, none⟩ := by
 obtain ⟨blk, off, spot⟩ := p
 have hspot : spot = none := by
  simp only [World.cell?] at h
  cases spot with
  | none => rfl
  | some s =>
   simp at h
   split at h <;> simp at h
 subst hspot
 refine ⟨?_, blk, off, rfl⟩
 rcases Nat.lt_or_ge blk w.heap.size with hlt | hge
 · exact hlt
 · simp [World.cell?, Array.getElem?_eq_none hge] at h
theorem flat_get {n : Nat} {u : Value} : ∀ (rows : List (List Value)) (j : Nat), (∀ r ∈ rows, r.length = n) → rows.flatten[j]? = some u → ∃ i r row, j = i * n + r ∧ r < n ∧ rows[i]? = some row ∧ row[r]? = some u
 | [], j, _, h => by simp at h
 | row :: rows, j, hn, h => by
  have hr : row.length = n := hn row (by simp)
  rw [List.flatten_cons] at h
  by_cases hj : j < n
  ·
   rw [List.getElem?_append_left (by omega)] at h
   exact ⟨0, j, row, by simp, hj, rfl, h⟩
  ·
   rw [List.getElem?_append_right (by omega), hr] at h
   obtain ⟨i, r, row', h1, h2, h3, h4⟩ := flat_get rows (j - n) (fun r hr => hn r (by simp [hr])) h
   exact ⟨i + 1, r, row', by rw [Nat.add_mul]; omega, h2, by simpa using h3, h4⟩
section
variable {H : Type} {enc : TypeId × Value → H} {w : World} {spare : Nat → Bool} {held : Bool}
theorem int_of_trod {t : TypeId} {k : IntKind} {fuel : Nat} {cs : List Value} {x : DataW H × List MemPlace} (ht : Tryz.prog.underlying t = some (.int k)) (h : DataW.trod enc Tryz.prog w 0 spare held fuel t cs = some x) : ∃ n, cs = [.int k n] ∧ (Lit.int k n).wf = true := by
 obtain ⟨n, h1, _, h2⟩ := DataW.trod_int ht h
 exact ⟨n, h1, h2⟩
theorem xX {fuel : Nat} {cs : List Value} {x : DataW H × List MemPlace} (h : DataW.trod enc Tryz.prog w 0 spare held fuel 5 cs = some x) : ∃ b : UInt8, cs = [bv b] := by
 obtain ⟨n, rfl, hw⟩ := int_of_trod Tryz.underlying5 h
 have hb := bounds_u8 hw
 refine ⟨UInt8.ofNat n.toNat, ?_⟩
 unfold bv
 rw [UInt8.toNat_ofNat']
 have : ((n.toNat % 2 ^ 8 : Nat) : Int) = n := by omega
 rw [this]
theorem Ai {rows : List (List Value)} (h : ∀ r ∈ rows, ∃ b : UInt8, r = [bv b]) : ∃ l : List UInt8, l.length = rows.length ∧ rows.flatten = bvs l := by
 induction rows with
 | nil => exact ⟨[], rfl, rfl⟩
 | cons r rows ih =>
  obtain ⟨l, h1, h2⟩ := ih fun r hr => h r (by simp [hr])
  obtain ⟨b, rfl⟩ := h r (by simp)
  exact ⟨b :: l, by simp [h1], by simp [h2, bvs]⟩
set_option maxRecDepth 100000
variable {r : Reach} {b0 : Nat} {v : Value} {d : DataW H} {ps : List MemPlace}
theorem Tt (hv : Value.okWide Tryz.prog w r b0 3 v) (h : DataW.Trod enc Tryz.prog w 0 spare held 3 v d ps) : ∃ n : Int, v = .int .i64 n ∧ -9223372036854775808 ≤ n ∧ n ≤ 9223372036854775807 := by
 obtain ⟨n, rfl, _, _, hw⟩ := open_int Tryz.underlying3 hv h
 exact ⟨n, rfl, bounds_i64 hw⟩
end
section
variable {H : Type} {enc : TypeId × Value → H} {w : World} {spare : Nat → Bool} {held : Bool}
theorem U4 (cs : List Value) (h : ∀ u ∈ cs, ∃ b : UInt8, u = bv b) : ∃ l : List UInt8, cs = bvs l := by
 induction cs with
 | nil => exact ⟨[], rfl⟩
 | cons u cs ih =>
  obtain ⟨l, hl⟩ := ih fun u hu => h u (by simp [hu])
  obtain ⟨b, rfl⟩ := h u (by simp)
  exact ⟨b :: l, by rw [hl]; rfl⟩
theorem Hu {t : TypeId} {n fuel : Nat} {cs : List Value} {x : DataW H × List MemPlace} (ht : Tryz.prog.underlying t = some (.array n 5)) (hc : Tryz.prog.cellsOf t = n) (h : DataW.trod enc Tryz.prog w 0 spare held fuel t cs = some x) :
  ∃ l : List UInt8, l.length = n ∧ cs = bvs l := by
 obtain ⟨xs, m, _, _, hl, hxl, hg⟩ := DataW.trod_array ht h
 rw [hc] at hl
 obtain ⟨l, rfl⟩ := U4 cs fun u hu => by
  obtain ⟨i, hi, rfl⟩ := List.getElem_of_mem hu
  have h1 := hg i (by omega)
  rw [(by kernel_rfl : Tryz.prog.cellsOf 5 = 1), Nat.mul_one, List.drop_eq_getElem_cons hi, List.take_succ_cons, List.take_zero, List.getElem?_eq_getElem (by omega)] at h1
  obtain ⟨b, hb⟩ := xX h1
  exact ⟨b, by simpa using hb⟩
 exact ⟨l, by rw [← hl, bI], rfl⟩
variable {r : Reach} {b0 : Nat} {v : Value} {d : DataW H} {ps : List MemPlace}
end
section
variable {H : Type} {enc : TypeId × Value → H} {w : World} {spare : Nat → Bool} {held : Bool}
theorem wE {P : Program} {e : TypeId} {d : DataW H} {k : Nat} : ∀ {ds : List (DataW H)}, d ∈ ds → k ∈ d.weights P e → k ∈ DataW.weightsAll P e ds
 | [], h, _ => by cases h
 | x :: xs, h, hk => by
  rw [DataW.weightsAll]
  rcases List.mem_cons.1 h with rfl | h
  · exact List.mem_append_left _ hk
  · exact List.mem_append_right _ (wE h hk)
theorem wH {t e n : TypeId} {fuel : Nat} {v : Value} {x : DataW H × List MemPlace} (ht : Tryz.prog.underlying t = some (.slice e)) (hn : Tryz.prog.cellsOf e = n) (h : DataW.trod enc Tryz.prog w 0 spare held fuel t [v] = some x) :
  ∃ (A : Option Addr) (c f : Nat) (rows : List (List Value)), v = .slice A rows.length c ∧ rows.length ≤ c ∧ c ≤ maxLen ∧ Rd w w.heap.size A rows.flatten ∧ (∀ r ∈ rows, r.length = n) ∧ (A = none → rows = [] ∧ c = 0) ∧ (rows ≠ [] → f < fuel) ∧ (∀ r ∈ rows, ∃ y, DataW.trod enc Tryz.prog w 0 spare held f e r = some y ∧ ∀ k ∈ y.1.weights Tryz.prog e, k ∈ x.1.weights Tryz.prog t) ∧ (rows ≠ [] → ∃ k ∈ x.1.weights Tryz.prog t, rows.length * Tryz.prog.bytesOf e ≤ k) := by
 rcases DataW.trod_slice ht h with ⟨hcs, hx⟩ | ⟨a, len, cap, elems, rest, f, hfu, hcs, hx, _, hl, hm, hel, hi, _⟩
 ·
  simp at hcs
  subst hcs
  exact ⟨none, 0, 0, [], rfl, Nat.le_refl _, by simp [maxLen], Rd.nil, by simp, fun _ => ⟨rfl, rfl⟩, fun hne => absurd rfl hne, by simp, fun hne => absurd rfl hne⟩
 ·
  simp at hcs
  subst hcs
  rw [hn] at hi
  let row : Nat → List Value := fun i => (w.cells? 0 (a.add (i * n)) n).getD []
  have hrow : ∀ i, i < len → w.cells? 0 (a.add (i * n)) n = some (row i) ∧ ∃ y, DataW.trod enc Tryz.prog w 0 spare held f e (row i) = some y ∧ ∀ k ∈ y.1.weights Tryz.prog e, k ∈ x.1.weights Tryz.prog t := fun i hil => by
   have h1 := hi i hil
   rw [List.getElem?_eq_getElem (by omega)] at h1
   cases hc : w.cells? 0 (a.add (i * n)) n with
   | none => rw [hc] at h1; cases h1
   | some cs' =>
    rw [hc] at h1
    have : row i = cs' := by simp only [row]; rw [hc]; rfl
    rw [this]
    refine ⟨rfl, _, h1, fun k hk => ?_⟩
    rw [hx, DataW.weights, ht]
    exact List.mem_cons_of_mem _ (List.mem_append_left _ (wE (List.mem_map_of_mem (List.getElem_mem (by omega))) hk))
  have hmem : ∀ r ∈ (List.range len).map row, ∃ i, i < len ∧ r = row i := fun r hr => by
   obtain ⟨i, h1, h2⟩ := List.mem_map.1 hr
   exact ⟨i, List.mem_range.1 h1, h2.symm⟩
  have hlen : ∀ r ∈ (List.range len).map row, r.length = n := fun r hr => by
   obtain ⟨i, h1, rfl⟩ := hmem r hr
   exact (World.cells?_some (hrow i h1).1).2.1
  refine ⟨some a, cap, f, (List.range len).map row, by simp, by simpa using hl, hm, ?_, hlen, (fun e => by cases e), fun _ => by omega, fun r hr => ?_, fun _ => ⟨(elems.length + rest.length) * Tryz.prog.bytesOf e, ?_, ?_⟩⟩
  ·
   have hcell : ∀ j u, ((List.range len).map row).flatten[j]? = some u → w.cell? (a.add j) = some u := fun j u hu => by
    obtain ⟨i, r, row', rfl, h2, h3, h4⟩ := flat_get _ j hlen hu
    have hil : i < len := by
     have := (List.getElem?_eq_some_iff.1 h3).1
     simpa using this
    have h5 : row' = row i := by
     rw [List.getElem?_map, List.getElem?_range hil] at h3
     exact (Option.some.inj h3).symm
    subst h5
    have h6 := (World.cells?_some (hrow i hil).1).2.2 r h2
    rw [h4, Go.Deep.add_add] at h6
    exact h6
   intro hne
   obtain ⟨u0, rest, he⟩ := List.exists_cons_of_ne_nil hne
   have h0 := hcell 0 u0 (by rw [he]; rfl)
   rw [show a.add 0 = a from if_pos rfl] at h0
   obtain ⟨h1, b, o, rfl⟩ := cell_spot h0
   refine ⟨b, o, rfl, h1, fun j u hu => ?_⟩
   have := hcell j u hu
   rw [dN] at this
   exact this
  ·
   obtain ⟨i, h1, rfl⟩ := hmem r hr
   exact (hrow i h1).2
  ·
   rw [hx, DataW.weights, ht]
   simp
  ·
   rw [List.length_map, List.length_range]
   exact Nat.mul_le_mul_right _ (by omega)
end
end Go.Proofs.YtiledgojbpmoiaaGreat
namespace Go.Proofs.YtiledgojbpmoiaaGreat
set_option linter.unusedVariables false
set_option maxRecDepth 100000
open Go.RowKit Mono Go.ChangeShapes Go.WideShapes Go.Deep
namespace E
inductive Sh where
 | bool
 | int (k : IntKind)
 | arr (n : Nat)
 | bytes
 | slice (b : Nat) (s : Sh)
 | struct (ss : List Sh)
mutual
def Sh.size : Sh → Nat
 | .arr n => n
 | .struct ss => Sh.sizes ss
 | _ => 1
def Sh.sizes : List Sh → Nat
 | [] => 0
 | s :: ss => s.size + Sh.sizes ss
end
def Sh.agg : Sh → Bool
 | .arr _ => true
 | .struct _ => true
 | _ => false
mutual
def Sh.Is : Sh → TypeId → Prop
 | .bool, t => Tryz.prog.underlying t = some .bool ∧ Tryz.prog.cellsOf t = 1
 | .int k, t => Tryz.prog.underlying t = some (.int k) ∧ Tryz.prog.cellsOf t = 1
 | .arr n, t => Tryz.prog.underlying t = some (.array n 5) ∧ Tryz.prog.cellsOf t = n
 | .bytes, t => Tryz.prog.underlying t = some (.slice 5) ∧ Tryz.prog.cellsOf t = 1
 | .slice b s, t => Tryz.prog.cellsOf t = 1 ∧ ∃ e, Tryz.prog.underlying t = some (.slice e) ∧ Tryz.prog.bytesOf e = b ∧ s.Is e
 | .struct ss, t => ∃ fs : Array Field, Tryz.prog.underlying t = some (.struct fs) ∧ Tryz.prog.cellsOf t = Sh.sizes ss ∧ Sh.IsF ss 0 fs.toList
def Sh.IsF : List Sh → Nat → List Field → Prop
 | [], _, fs => fs = []
 | s :: ss, o, fs => ∃ f rest, fs = f :: rest ∧ f.offset = o ∧ s.Is f.type ∧ Sh.IsF ss (o + s.size) rest
end
mutual
def Sh.Of (N : Nat) : Sh → D → Prop
 | .bool, d => ∃ b, d = .v (.bool b)
 | .int k, d => ∃ n, d = .v (.int k n) ∧ (Lit.int k n).wf = true
 | .arr n, d => ∃ l : List UInt8, l.length = n ∧ d = .arr n l
 | .bytes, d => ∃ l : List UInt8, l.length ≤ N ∧ d = .bs l
 | .slice b s, d => ∃ ds : List D, ds.length * b ≤ N ∧ d = .sl s.size ds ∧ ∀ x ∈ ds, s.Of N x
 | .struct ss, d => ∃ ds, d = .tup ds ∧ Sh.OfL N ss ds
def Sh.OfL (N : Nat) : List Sh → List D → Prop
 | [], ds => ds = []
 | s :: ss, ds => ∃ d rest, ds = d :: rest ∧ s.Of N d ∧ Sh.OfL N ss rest
end
theorem Sh.Is.cells : ∀ {s : Sh} {t : TypeId}, s.Is t → Tryz.prog.cellsOf t = s.size
 | .bool, t, h => by rw [Sh.Is] at h; exact h.2
 | .int k, t, h => by rw [Sh.Is] at h; exact h.2
 | .arr n, t, h => by rw [Sh.Is] at h; exact h.2
 | .bytes, t, h => by rw [Sh.Is] at h; exact h.2
 | .slice b s, t, h => by rw [Sh.Is] at h; exact h.1
 | .struct ss, t, h => by
  rw [Sh.Is] at h
  obtain ⟨fs, _, h2, _⟩ := h
  exact h2
theorem JR {ok : Nat → Prop} {w : World} {z : Nat} {Q : D → Prop} : ∀ {rows : List (List Value)}, (∀ r ∈ rows, r.length = z ∧ ∃ d, Q d ∧ Reads ok w d r) → ∃ ds, ds.length = rows.length ∧ (∀ x ∈ ds, Q x) ∧ ay ok w z ds rows
 | [], _ => ⟨[], rfl, by simp, by rw [ay]⟩
 | r :: rows, h => by
  obtain ⟨ds, h1, h2, h3⟩ := JR (rows := rows) fun r hr => h r (by simp [hr])
  obtain ⟨hz, d, hd, hr⟩ := h r (by simp)
  refine ⟨d :: ds, by simp [h1], fun x hx => ?_, by rw [ay]; exact ⟨r, rows, rfl, hz, hr, h3⟩⟩
  rcases List.mem_cons.1 hx with rfl | hx
  · exact hd
  · exact h2 x hx
section
variable {H : Type} {enc : TypeId × Value → H} {w : World} {spare : Nat → Bool} {held : Bool} {N : Nat}
mutual
theorem CZ : ∀ (s : Sh) (t : TypeId) (fuel : Nat) (cs : List Value) (x : DataW H × List MemPlace), s.Is t → DataW.trod enc Tryz.prog w 0 spare held fuel t cs = some x → (∀ k ∈ x.1.weights Tryz.prog t, k ≤ N) → ∃ d, s.Of N d ∧ Reads (fun b => b < w.heap.size) w d cs
 | .bool, t, fuel, cs, x, hs, h, hN => by
  rw [Sh.Is] at hs
  obtain ⟨b, rfl, _⟩ := DataW.trod_bool hs.1 h
  exact ⟨.v (.bool b), by rw [Sh.Of]; exact ⟨b, rfl⟩, by rw [Reads]; exact ⟨rfl, rfl⟩⟩
 | .int k, t, fuel, cs, x, hs, h, hN => by
  rw [Sh.Is] at hs
  obtain ⟨n, rfl, _, hw⟩ := DataW.trod_int hs.1 h
  exact ⟨.v (.int k n), by rw [Sh.Of]; exact ⟨n, rfl, hw⟩, by rw [Reads]; exact ⟨rfl, rfl⟩⟩
 | .arr n, t, fuel, cs, x, hs, h, hN => by
  rw [Sh.Is] at hs
  obtain ⟨l, hl, rfl⟩ := Hu hs.1 hs.2 h
  exact ⟨.arr n l, by rw [Sh.Of]; exact ⟨l, hl, rfl⟩, by rw [Reads]; exact ⟨hl, rfl⟩⟩
 | .bytes, t, fuel, cs, x, hs, h, hN => by
  rw [Sh.Is] at hs
  have hl : ∃ v, cs = [v] := by
   rcases DataW.trod_slice hs.1 h with ⟨hcs, _⟩ | ⟨a, len, cap, elems, rest, f, hfu, hcs, _⟩
   · exact ⟨_, hcs⟩
   · exact ⟨_, hcs⟩
  obtain ⟨v, rfl⟩ := hl
  obtain ⟨A, c, f, rows, rfl, h1, h2, h3, _, _, _, h5, h8⟩ := wH hs.1 (by kernel_rfl : Tryz.prog.cellsOf 5 = 1) h
  obtain ⟨l, h6, h7⟩ := Ai fun r hr => by
   obtain ⟨y, hy, _⟩ := h5 r hr
   exact xX hy
  rw [h7] at h3
  have hl : l.length ≤ N := by
   rw [h6]
   by_cases hr : rows = []
   · rw [hr]; simp
   ·
    obtain ⟨k, hk, hk2⟩ := h8 hr
    rw [(by kernel_rfl : Tryz.prog.bytesOf 5 = 1), Nat.mul_one] at hk2
    exact Nat.le_trans hk2 (hN k hk)
  exact ⟨.bs l, by rw [Sh.Of]; exact ⟨l, hl, rfl⟩, by rw [Reads]; exact ⟨_, rfl, A, c, by rw [h6], by rw [h6]; exact h1, h2, h3⟩⟩
 | .slice b s, t, fuel, cs, x, hs, h, hN => by
  rw [Sh.Is] at hs
  obtain ⟨_, e, hu, hb, he⟩ := hs
  have hl : ∃ v, cs = [v] := by
   rcases DataW.trod_slice hu h with ⟨hcs, _⟩ | ⟨a, len, cap, elems, rest, f, hfu, hcs, _⟩
   · exact ⟨_, hcs⟩
   · exact ⟨_, hcs⟩
  obtain ⟨v, rfl⟩ := hl
  obtain ⟨A, c, f, rows, rfl, h1, h2, h3, h4, h5, _, h6, h8⟩ := wH hu he.cells h
  obtain ⟨ds, g1, g2, g3⟩ := JR (ok := fun b => b < w.heap.size) (w := w) (z := s.size) (Q := s.Of N) fun r hr => by
   obtain ⟨y, hy, hk⟩ := h6 r hr
   exact ⟨h4 r hr, CZ s e f r y he hy fun k hk' => hN k (hk k hk')⟩
  have hl : ds.length * b ≤ N := by
   rw [g1, ← hb]
   by_cases hr : rows = []
   · rw [hr]; simp
   ·
    obtain ⟨k, hk, hk2⟩ := h8 hr
    exact Nat.le_trans hk2 (hN k hk)
  refine ⟨.sl s.size ds, by rw [Sh.Of]; exact ⟨ds, hl, rfl, g2⟩, ?_⟩
  rw [Reads]
  exact ⟨A, c, rows, by rw [g1], by rw [g1]; exact h1, h2, fun e => by rw [g1, (h5 e).1]; exact ⟨rfl, (h5 e).2⟩, h3, g3⟩
 | .struct ss, t, fuel, cs, x, hs, h, hN => by
  rw [Sh.Is] at hs
  obtain ⟨fs, hu, hc, hf⟩ := hs
  obtain ⟨xs, n, _, hx, hl, hxl, hg⟩ := DataW.trod_struct hu h
  obtain ⟨ds, h1, h2⟩ := Eu ss 0 n cs fs.toList hf (by rw [hl, hc, Nat.zero_add]) fun f hm => by
   obtain ⟨i, hi, rfl⟩ := List.getElem_of_mem hm
   have hi' : i < fs.size := by simpa using hi
   have := hg i fs[i] (by rw [Array.getElem?_eq_getElem hi'])
   rw [List.getElem?_eq_getElem (by omega)] at this
   refine ⟨_, this, fun k hk => hN k ?_⟩
   rw [hx]
   simp only [DataW.weights, hu]
   exact DataW.weights_mem_each (j := i) (t := fs[i].type) (d := xs[i].1) (by simp [Array.getElem?_eq_getElem hi']) (by rw [List.getElem?_map, List.getElem?_eq_getElem (by omega)]; rfl) k hk
  exact ⟨.tup ds, by rw [Sh.Of]; exact ⟨ds, rfl, h1⟩, by rw [Reads]; simpa using h2⟩
theorem Eu : ∀ (ss : List Sh) (o n : Nat) (cs : List Value) (fs : List Field), Sh.IsF ss o fs → cs.length = o + Sh.sizes ss → (∀ f ∈ fs, ∃ y, DataW.trod enc Tryz.prog w 0 spare held n f.type ((cs.drop f.offset).take (Tryz.prog.cellsOf f.type)) = some y ∧ ∀ k ∈ y.1.weights Tryz.prog f.type, k ≤ N) →
  ∃ ds, Sh.OfL N ss ds ∧ bC (fun b => b < w.heap.size) w ds (cs.drop o)
 | [], o, n, cs, fs, hf, hl, h => ⟨[], by rw [Sh.OfL], by
  rw [bC]
  rw [Sh.sizes] at hl
  exact List.drop_eq_nil_of_le (by omega)⟩
 | s :: ss, o, n, cs, fs, hf, hl, h => by
  rw [Sh.IsF] at hf
  obtain ⟨f, rest, rfl, rfl, hs, hf⟩ := hf
  rw [Sh.sizes] at hl
  obtain ⟨y, hy, hk⟩ := h f (by simp)
  rw [hs.cells] at hy
  obtain ⟨d, h1, h2⟩ := CZ s f.type n _ y hs hy hk
  obtain ⟨ds, h3, h4⟩ := Eu ss (f.offset + s.size) n cs rest hf (by omega) fun g hg => h g (by simp [hg])
  refine ⟨d :: ds, by rw [Sh.OfL]; exact ⟨d, ds, rfl, h1, h3⟩, ?_⟩
  rw [bC]
  refine ⟨_, _, ?_, h2, h4⟩
  rw [← List.drop_drop, List.take_append_drop]
end
theorem Ue {s : Sh} {d : D} (h : s.Of N d) : d.agg = s.agg := by
 cases s <;> rw [Sh.Of] at h
 ·
  obtain ⟨_, rfl⟩ := h
  rfl
 ·
  obtain ⟨_, rfl, _⟩ := h
  rfl
 ·
  obtain ⟨_, _, rfl⟩ := h
  rfl
 ·
  obtain ⟨_, _, rfl⟩ := h
  rfl
 ·
  obtain ⟨_, _, rfl, _⟩ := h
  rfl
 ·
  obtain ⟨_, rfl, _⟩ := h
  rfl
variable {r : Reach} {b0 : Nat} {v : Value} {d : DataW H} {ps : List MemPlace}
theorem N9 {s : Sh} {t : TypeId} (hs : s.Is t) (hv : Value.okWide Tryz.prog w r b0 t v) (h : DataW.Trod enc Tryz.prog w 0 spare held t v d ps) : v = if s.agg then .agg v.cells else v.cells.toList.headD undef := by
 cases s <;> rw [Sh.Is] at hs
 ·
  obtain ⟨b, rfl, _⟩ := open_bool hs.1 hv h
  rfl
 ·
  obtain ⟨n, rfl, _⟩ := open_int hs.1 hv h
  rfl
 ·
  simp only [Value.okWide, hs.1] at hv
  obtain ⟨cs, rfl, _⟩ := hv
  rfl
 ·
  obtain ⟨a, n, c, rfl⟩ := okWide_slice hs.1 hv
  rfl
 ·
  obtain ⟨_, e, hu, _, _⟩ := hs
  obtain ⟨a, n, c, rfl⟩ := okWide_slice hu hv
  rfl
 ·
  obtain ⟨fs, hu, _⟩ := hs
  simp only [Value.okWide, hu] at hv
  obtain ⟨cs, rfl, _⟩ := hv
  rfl
theorem Wx {s : Sh} {t : TypeId} (hs : s.Is t) (hv : Value.okWide Tryz.prog w r b0 t v) (h : DataW.Trod enc Tryz.prog w 0 spare held t v d ps) (hN : ∀ k ∈ d.weights Tryz.prog t, k ≤ N) : ∃ D, s.Of N D ∧ dw (fun b => b < w.heap.size) w D v := by
 have h3 := N9 hs hv h
 obtain ⟨fuel, hf⟩ := h
 obtain ⟨D, h1, h2⟩ := CZ s t fuel _ _ hs hf hN
 refine ⟨D, h1, _, h2, ?_⟩
 unfold form
 rw [Ue h1]
 simpa using h3
end
end E
end Go.Proofs.YtiledgojbpmoiaaGreat
namespace Go.Proofs.YtiledgojbpmoiaaGreat
set_option linter.unusedVariables false
set_option maxRecDepth 100000
open Go.RowKit Mono Go.ChangeShapes Go.WideShapes Go.Deep
namespace E
def Ew : Sh := .struct [.arr 32, .arr 32]
def Ey : Sh := .struct [.arr 20, .int .i64, .arr 32, .bytes, .slice 64 Ew]
theorem OQ : Ew.Is 36 := by
 unfold Ew
 rw [Sh.Is]
 refine ⟨_, Tryz.underlying36, by kernel_rfl, ?_⟩
 simp only [Sh.IsF, Sh.Is]
 exact ⟨_, _, rfl, rfl, ⟨Tryz.underlying29, by kernel_rfl⟩, _, _, rfl, rfl, ⟨Tryz.underlying29, by kernel_rfl⟩, rfl⟩
theorem Gg : Ey.Is 32 := by
 unfold Ey
 rw [Sh.Is]
 refine ⟨_, Tryz.underlying32, by kernel_rfl, ?_⟩
 simp only [Sh.IsF, Sh.Is]
 exact ⟨_, _, rfl, rfl, ⟨Tryz.underlying27, by kernel_rfl⟩, _, _, rfl, rfl, ⟨Tryz.underlying2, by kernel_rfl⟩, _, _, rfl, rfl, ⟨Tryz.underlying29, by kernel_rfl⟩, _, _, rfl, rfl, ⟨Tryz.underlying30, by kernel_rfl⟩, _, _, rfl, rfl, ⟨by kernel_rfl, _, Tryz.underlying25, by kernel_rfl, OQ⟩, rfl⟩
theorem DF : (Sh.slice 112 Ey).Is 22 := by
 rw [Sh.Is]
 exact ⟨by kernel_rfl, _, Tryz.underlying22, by kernel_rfl, Gg⟩
theorem yX {α : Type} {Q : D → Prop} {P : α → Prop} {f : α → D} (h : ∀ d, Q d → ∃ a, P a ∧ d = f a) : ∀ {ds : List D}, (∀ x ∈ ds, Q x) → ∃ rs : List α, (∀ a ∈ rs, P a) ∧ ds = rs.map f
 | [], _ => ⟨[], by simp, rfl⟩
 | d :: ds, hd => by
  obtain ⟨a, h1, rfl⟩ := h d (hd d (by simp))
  obtain ⟨rs, h2, rfl⟩ := yX h fun x hx => hd x (List.mem_cons_of_mem _ hx)
  refine ⟨a :: rs, fun b hb => ?_, rfl⟩
  rcases List.mem_cons.1 hb with rfl | hb
  · exact h1
  · exact h2 b hb
variable {N : Nat}
def Ub (s : Pr) : Prop := s.1.length = 32 ∧ s.2.length = 32
def TM (x : Acc) : Prop := x.a.length = 20 ∧ (-9223372036854775808 ≤ x.n ∧ x.n ≤ 9223372036854775807) ∧ x.w.length = 32 ∧ ∀ y ∈ x.sl, y.1.length = 32 ∧ y.2.length = 32
theorem OB {d : D} (h : Ew.Of N d) : ∃ s, Ub s ∧ d = gq s := by
 unfold Ew at h
 simp only [Sh.Of, Sh.OfL] at h
 obtain ⟨_, rfl, _, _, rfl, ⟨k, h1, rfl⟩, _, _, rfl, ⟨v, h2, rfl⟩, rfl⟩ := h
 exact ⟨(k, v), ⟨h1, h2⟩, rfl⟩
theorem FT {d : D} (h : Ey.Of N d) : ∃ c : Acc, TM c ∧ d = bM c := by
 unfold Ey at h
 simp only [Sh.Of, Sh.OfL] at h
 obtain ⟨_, rfl, _, _, rfl, ⟨a, h1, rfl⟩, _, _, rfl, ⟨n, rfl, hn⟩, _, _, rfl, ⟨b, h2, rfl⟩, _, _, rfl, ⟨c, hc, rfl⟩, _, _, rfl, ⟨ss, hl, rfl, hs⟩, rfl⟩ := h
 obtain ⟨ss, h3, rfl⟩ := yX (fun _ => OB) hs
 have hb := bounds_i64 hn
 exact ⟨⟨a, n, b, c, ss⟩, ⟨h1, ⟨hb.1, hb.2⟩, h2, h3⟩, rfl⟩
theorem Rz (l : List Nat) : ∀ k ∈ l, k ≤ l.sum := by
 induction l with
 | nil => intro k hk; cases hk
 | cons a l ih =>
  intro k hk
  rw [List.sum_cons]
  rcases List.mem_cons.1 hk with rfl | hk
  · omega
  ·
   have := ih k hk
   omega
end E
def um (w : World) (v : Value) : Prop := ∃ l : List E.Acc, (∀ x ∈ l, E.TM x) ∧ E.dw (fun b => b < w.heap.size) w (.sl 55 (l.map E.bM)) v
section
variable {H : Type} {enc : TypeId × Value → H} {w : World} {spare : Nat → Bool} {held : Bool} {r : Reach} {b0 : Nat} {v : Value} {d : DataW H} {ps : List MemPlace}
theorem Rk (hv : Value.okWide Tryz.prog w r b0 22 v) (h : DataW.Trod enc Tryz.prog w 0 spare held 22 v d ps) : um w v := by
 obtain ⟨D, h1, h2⟩ := E.Wx E.DF hv h (E.Rz _)
 rw [E.Sh.Of] at h1
 obtain ⟨ds, _, rfl, h3⟩ := h1
 obtain ⟨l, h4, rfl⟩ := E.yX (fun _ => E.FT) h3
 exact ⟨l, h4, h2⟩
end
end Go.Proofs.YtiledgojbpmoiaaGreat
namespace Go.Proofs.YtiledgojbpmoiaaGreat
set_option linter.unusedVariables false
open Go.RowKit Mono
namespace E
theorem MG {f : FuncId} {ds : List D} {xs : List Value} {w : World} (h : FnM f ds [] (fun r os' => r = .val (.v (.bool true)) ∧ os' = [])) (hr : eY (fun b => b < w.heap.size) w ds xs) : Calls Tryz.prog f xs.toArray w fun e w' => e = .returned (.bool true) ∧ Below w.heap.size w w' :=
 (h.go _ w xs (fun b hb => hb) ⟨fun o ho => by simp at ho, .nil, fun b ⟨o, ho, _⟩ => by simp at ho⟩ hr).mono fun e w' ⟨v, r, os', he, ⟨h1, h2⟩, ht, hv⟩ => by
  subst he h1
  have hg := ht.gr.gr fun b ⟨o, ho, _⟩ => by simp at ho
  exact ⟨by rw [(bf.1 hv).2], hg⟩
end E
end Go.Proofs.YtiledgojbpmoiaaGreat
