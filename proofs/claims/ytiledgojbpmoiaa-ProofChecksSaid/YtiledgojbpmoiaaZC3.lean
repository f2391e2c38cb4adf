/-
 Merged (wip/tools/merge.py): Str, Arr, Rd, E1, E2.
 Conditions: none.
-/
import Derived.Test.YtiledgojbpmoiaaZC2
import Derived.Laws.Rows
import Derived.Laws.Tables
import Derived.Deep.WholeRow
import Derived.Stop.BytesEq
import Derived.Deep.LoopGhost
import Derived.Deep.MidRow
/-
 A string out of bytes.
 Conditions: none.
-/
namespace Go.Proofs.Ytiledgojbpmoiaa
open Go.RowKit Mono
theorem loop_eq (b : ByteArray) : ∀ (k i : Nat) (r : List UInt8), b.size - i = k → ByteArray.toList.loop b i r = r.reverse ++ b.data.toList.drop i
 | 0, i, r, h => by
  rw [ByteArray.toList.loop, if_neg (by omega), List.drop_eq_nil_of_le (by simp; have : b.data.size = b.size := rfl; omega)]
  simp
 | k + 1, i, r, h => by
  have hi : i < b.data.toList.length := by simp; have : b.data.size = b.size := rfl; omega
  rw [ByteArray.toList.loop, if_pos (by omega), loop_eq b k (i + 1) _ (by omega), List.drop_eq_getElem_cons hi]
  have : b.get! i = b.data.toList[i] := by
   simp at hi
   show b.data[i]! = _
   simp [hi]
  rw [this]
  simp
theorem toList_data (b : ByteArray) : b.toList = b.data.toList := by
 unfold ByteArray.toList
 rw [loop_eq b b.size 0 [] (by omega)]
 simp
def bs (l : List UInt8) : ByteArray := ⟨l.toArray⟩
theorem bs_toList (l : List UInt8) : (bs l).toList = l := by
 rw [toList_data]
 simp [bs]
theorem conv_bytes {w : World} {v : Value} {l : List UInt8} (h : IsB w v l) : (convert 24 9 v).run Try.prog w = .ok (.string (bs l)) w := by
 obtain ⟨A, c, rfl, h1, h2, hr⟩ := h
 cases A with
 | none =>
  have : l = [] := by
   by_cases hl : bvs l = []
   · simpa [bvs] using hl
   ·
    obtain ⟨b, o, e, _⟩ := hr hl
    cases e
  subst this
  rw [run_convert_bytes_string w _ _ 5 none _ c Try.underlying24 Try.underlying5 Try.underlying9]
  rfl
 | some ad =>
  refine run_convert_bytes_back w _ _ 5 ad c l Try.underlying24 Try.underlying5 Try.underlying9 fun j hj => ?_
  obtain ⟨b, o, e, _, hc⟩ := hr (by intro e; have := bvs_length l; rw [e] at this; simp at this; omega)
  injection e with e
  subst e
  rw [add_none]
  exact hc j _ (bvs_at l j hj)
namespace Mono
end Mono
end Go.Proofs.Ytiledgojbpmoiaa
/-
 Arrays of bytes; slices of slices of bytes; rows.
 Conditions: none.
-/
namespace Go.Proofs.Ytiledgojbpmoiaa
open Go.RowKit Mono
theorem lt_of_some {w : World} {g : Nat} {o : Obj} (h : w.heap[g]? = some o) : g < w.heap.size := by
 rcases Nat.lt_or_ge g w.heap.size with h1 | h1
 · exact h1
 · rw [Array.getElem?_eq_none h1] at h; cases h
theorem bvs_set (l : List UInt8) (k : Nat) (b : UInt8) : (bvs l).set k (bv b) = bvs (l.set k b) := by simp [bvs, List.map_set]
theorem heap_setRow_same (w : World) (g : Nat) (cs cs' : Array Value) (t : TypeId) (hg : w.heap[g]? = some (.cells cs t (0, 0))) : (w.setRow g cs').heap[g]? = some (.cells cs' t (0, 0)) := by
 simp [World.setRow, Array.getElem?_modify, hg]
theorem gr_setRow {w w' : World} (h : Gr w w') (g : Nat) (cs : Array Value) (hg : w.heap.size ≤ g) : Gr w (w'.setRow g cs) :=
 ⟨h.os, h.tape, h.output, by rw [size_setRow]; exact h.size, fun i hi => by
  rw [← h.block i hi]
  simp only [World.setRow]
  rw [Array.getElem?_modify, if_neg (by omega)]⟩
def arrV (l : List UInt8) : Value := .agg (bvs l).toArray
def Arr (w : World) (g : Nat) (t : TypeId) (l : List UInt8) : Prop := w.heap[g]? = some (.cells (bvs l).toArray t (0, 0))
theorem Arr.lt {w : World} {g : Nat} {t : TypeId} {l : List UInt8} (h : Arr w g t l) : g < w.heap.size := lt_of_some h
theorem Arr.gr {w w' : World} {g : Nat} {t : TypeId} {l : List UInt8} (h : Arr w g t l) (hg : Gr w w') : Arr w' g t l := (hg.block g h.lt).trans h
def IsBB (w : World) (v : Value) (ms : List (List UInt8)) : Prop :=
 ∃ (A : Option Addr) (c : Nat) (vals : List Value), v = .slice A ms.length c ∧ ms.length ≤ c ∧ c ≤ maxLen ∧ vals.length = ms.length ∧ Rd w w.heap.size A vals ∧ ∀ (i : Nat) (x : Value) (m : List UInt8), vals[i]? = some x → ms[i]? = some m → IsB w x m
theorem IsBB.nil (w : World) : IsBB w (.slice none 0 0) [] := ⟨none, 0, [], rfl, Nat.le_refl _, by simp [maxLen], rfl, Rd.nil, fun i x m h => by simp at h⟩
theorem IsBB.gr {w w' : World} {v : Value} {ms : List (List UInt8)} (h : IsBB w v ms) (hg : Gr w w') : IsBB w' v ms := by
 obtain ⟨A, c, vals, rfl, h1, h2, h3, h4, h5⟩ := h
 exact ⟨A, c, vals, rfl, h1, h2, h3, h4.gr hg, fun i x m a b => (h5 i x m a b).gr hg⟩
theorem IsBB.at {w : World} {B : Nat} {A : Option Addr} {vals : List Value} {ms : List (List UInt8)} (hlen : vals.length = ms.length) (hrd : Rd w B A vals) (hel : ∀ (i : Nat) (x : Value) (m : List UInt8), vals[i]? = some x → ms[i]? = some m → IsB w x m) (k : Nat) (hk : k < ms.length) :
  ∃ b o x, A = some ⟨b, o, none⟩ ∧ b < B ∧ w.cell? ⟨b, o + k, none⟩ = some x ∧ IsB w x ms[k] := by
 have hk' : k < vals.length := by omega
 obtain ⟨b, o, e, hb, hc⟩ := hrd (fun e => by rw [e] at hk'; simp at hk')
 exact ⟨b, o, vals[k], e, hb, hc k _ (List.getElem?_eq_getElem hk'), hel k _ _ (List.getElem?_eq_getElem hk') (List.getElem?_eq_getElem hk)⟩
theorem isB_at {w : World} {B : Nat} {A : Option Addr} {m : List UInt8} (h : Rd w B A (bvs m)) (k : Nat) (hk : k < m.length) : ∃ b o, A = some ⟨b, o, none⟩ ∧ b < B ∧ w.cell? ⟨b, o + k, none⟩ = some (.int .u8 (m[k].toNat : Int)) := by
 obtain ⟨b, o, e, hb, hc⟩ := h (fun e => by have := congrArg List.length e; rw [bvs_length] at this; simp at this; rw [this] at hk; simp at hk)
 exact ⟨b, o, e, hb, hc k _ (bvs_at m k hk)⟩
theorem size_new (w : World) (o : Obj) : (w.alloc o).heap.size = w.heap.size + 1 := by simp
theorem heap_at (w : World) (o : Obj) (g : Nat) (h : g = w.heap.size) : (w.alloc o).heap[g]? = some o := by
 subst h
 exact heap_alloc_new w o
theorem heap_old (w : World) (o : Obj) (g : Nat) (h : g < w.heap.size) : (w.alloc o).heap[g]? = w.heap[g]? := Below.heap_alloc w o g h
end Go.Proofs.Ytiledgojbpmoiaa
/-
 Words for memory, of whatever blocks: a slice that reads as a list of cells, bytes; rows of the call's own read so.
 Conditions: none.
-/
namespace Go.Proofs.Ytiledgojbpmoiaa
open Go.RowKit Mono Rlp
def RdP (ok : Nat → Prop) (w : World) (A : Option Addr) (xs : List Value) : Prop :=
 xs ≠ [] → ∃ b o, A = some ⟨b, o, none⟩ ∧ ok b ∧ ∀ j u, xs[j]? = some u → w.cell? ⟨b, o + j, none⟩ = some u
theorem RdP.mono {ok ok' : Nat → Prop} {w w' : World} {A : Option Addr} {xs : List Value} (h : RdP ok w A xs) (h1 : ∀ b, ok b → ok' b) (h2 : ∀ p : Addr, ok p.block → w'.cell? p = w.cell? p) : RdP ok' w' A xs := fun hn => by
 obtain ⟨b, o, e, hb, hc⟩ := h hn
 exact ⟨b, o, e, h1 b hb, fun j u hu => (h2 _ hb).trans (hc j u hu)⟩
def IsBP (ok : Nat → Prop) (w : World) (v : Value) (l : List UInt8) : Prop :=
 ∃ A c, v = .slice A l.length c ∧ l.length ≤ c ∧ c ≤ maxLen ∧ RdP ok w A (bvs l)
theorem IsBP.mono {ok ok' : Nat → Prop} {w w' : World} {v : Value} {l : List UInt8} (h : IsBP ok w v l) (h1 : ∀ b, ok b → ok' b) (h2 : ∀ p : Addr, ok p.block → w'.cell? p = w.cell? p) : IsBP ok' w' v l := by
 obtain ⟨A, c, h3, h4, h5, h6⟩ := h
 exact ⟨A, c, h3, h4, h5, h6.mono h1 h2⟩
theorem ownB_P {w : World} {base : Nat} {v : Value} {l : List UInt8} (h : OwnB w base v l) : IsBP (fun k => base ≤ k ∧ k < w.heap.size) w v l := by
 obtain ⟨A, c, rfl, h1, h2⟩ := own_form h
 refine ⟨A, c, rfl, h1, h2, fun hn => ?_⟩
 have hl : 0 < l.length := by
  rcases Nat.eq_zero_or_pos l.length with h0 | h0
  ·
   obtain rfl := List.eq_nil_of_length_eq_zero h0
   exact absurd rfl hn
  · exact h0
 obtain ⟨g, rfl, hb, hg⟩ := own_some h hl
 exact ⟨g, 0, rfl, ⟨hb, hg⟩, fun j u hu => by
  have := World.ownsRow.cells h (g := g) rfl j u hu
  rwa [add_none] at this⟩
theorem own_RdP {w : World} {base e size n c : Nat} {A : Option Addr} {xs : List Value} (h : w.ownsRow base e size (.slice A n c) n xs) : RdP (fun k => base ≤ k ∧ k < w.heap.size) w A xs := fun hn => by
 rcases h.2 with ⟨hv, hz⟩ | ⟨g, cap, cur, hv, hb, hh, _⟩
 ·
  have := h.1
  rw [hz, Nat.zero_mul] at this
  exact absurd (List.eq_nil_of_length_eq_zero this) hn
 ·
  injection hv with hA _ _
  subst hA
  refine ⟨g, 0, rfl, ⟨hb, lt_of_some hh⟩, fun j u hu => ?_⟩
  have := World.ownsRow.cells h (g := g) rfl j u hu
  rwa [add_none] at this
theorem own_none {w : World} {base e size n c : Nat} {xs : List Value} (h : w.ownsRow base e size (.slice none n c) n xs) : n = 0 ∧ c = 0 := by
 rcases h.2 with ⟨hv, hz⟩ | ⟨g, cap, cur, hv, _⟩
 ·
  injection hv with _ _ hc
  exact ⟨hz, hc⟩
 ·
  injection hv with hA _ _
  cases hA
theorem cell_setRow {w : World} {g : Nat} {cs : Array Value} {p : Addr} (h : p.block ≠ g) : (w.setRow g cs).cell? p = w.cell? p := by
 refine World.cell?_of_block ?_
 simp only [World.setRow]
 rw [Array.getElem?_modify, if_neg (fun e => h e.symm)]
theorem own_far {w : World} {base e size n : Nat} {v : Value} {xs : List Value} (h : w.ownsRow base e size v n xs) {p : Addr} (hp : v.ownBlock ≠ some p.block) (u : Value) : (w.setCell p u).ownsRow base e size v n xs := by
 refine ⟨h.1, ?_⟩
 rcases h.2 with h1 | ⟨g, cap, cur, h1, h2, h3, h4⟩
 · exact .inl h1
 ·
  refine .inr ⟨g, cap, cur, h1, h2, ?_, h4⟩
  rw [Below.heap_setCell w p u g (fun e => hp (by rw [h1, e]; rfl))]
  exact h3
end Go.Proofs.Ytiledgojbpmoiaa
/-
 An abstract machine: what cells read as (D), what slots hold (R), pieces of memory (Obj); how it stands to the world.
 Conditions: none. No program is named here.
-/
namespace Go.Proofs.Ytiledgojbpmoiaa
set_option linter.unusedVariables false
open Go.RowKit Mono Rlp
namespace E
inductive D where
 | v (x : Value)
 | arr (n : Nat) (l : List UInt8)
 | bs (l : List UInt8)
 | sl (z : Nat) (ds : List D)
 | tup (ds : List D)
 | pd (d : D)
 | ifc (t : TypeId) (d : D)
mutual
def D.size : D → Nat
 | .arr n _ => n
 | .tup ds => D.sizes ds
 | _ => 1
def D.sizes : List D → Nat
 | [] => 0
 | d :: ds => d.size + D.sizes ds
end
def D.agg : D → Bool
 | .arr _ _ => true
 | .tup _ => true
 | _ => false
def form (d : D) (cs : List Value) : Value := if d.agg then .agg cs.toArray else cs.headD undef
mutual
def Reads (ok : Nat → Prop) (w : World) : D → List Value → Prop
 | .v x, cs => x.oneCell' = true ∧ cs = [x]
 | .arr n l, cs => l.length = n ∧ cs = bvs l
 | .bs l, cs => ∃ u, cs = [u] ∧ IsBP ok w u l
 | .sl z ds, cs => ∃ A c rows, cs = [.slice A ds.length c] ∧ ds.length ≤ c ∧ c ≤ maxLen ∧ (A = none → ds.length = 0 ∧ c = 0) ∧ RdP ok w A rows.flatten ∧ ReadsRows ok w z ds rows
 | .tup ds, cs => ReadsL ok w ds cs
 | .pd d, cs => ∃ b o cs', cs = [.pointer (some ⟨b, o, none⟩)] ∧ ok b ∧ w.rangeAt b o cs' ∧ Reads ok w d cs'
 | .ifc t d, cs => ∃ cs', cs = [.iface t (form d cs')] ∧ Reads ok w d cs'
def ReadsL (ok : Nat → Prop) (w : World) : List D → List Value → Prop
 | [], cs => cs = []
 | d :: ds, cs => ∃ c1 c2, cs = c1 ++ c2 ∧ Reads ok w d c1 ∧ ReadsL ok w ds c2
def ReadsRows (ok : Nat → Prop) (w : World) (z : Nat) : List D → List (List Value) → Prop
 | [], rows => rows = []
 | d :: ds, rows => ∃ r rest, rows = r :: rest ∧ r.length = z ∧ Reads ok w d r ∧ ReadsRows ok w z ds rest
end
def ReadV (ok : Nat → Prop) (w : World) (d : D) (x : Value) : Prop := ∃ cs, Reads ok w d cs ∧ x = form d cs
def ReadVs (ok : Nat → Prop) (w : World) : List D → List Value → Prop
 | [], xs => xs = []
 | d :: ds, xs => ∃ x rest, xs = x :: rest ∧ ReadV ok w d x ∧ ReadVs ok w ds rest
inductive R where
 | val (d : D)
 | tpl (ds : List D)
 | any
def ReadR (ok : Nat → Prop) (w : World) : R → Value → Prop
 | .val d, x => ReadV ok w d x
 | .tpl ds, x => ∃ vs, x = .tuple vs.toArray ∧ ReadVs ok w ds vs
 | .any, _ => True
/-! ### Laws of reading -/
section
variable {ok ok' : Nat → Prop} {w w' : World}
theorem range_mono {b o : Nat} {cs : List Value} (h2 : ∀ p : Addr, ok p.block → w'.cell? p = w.cell? p) (hb : ok b) (h : w.rangeAt b o cs) : w'.rangeAt b o cs := fun j v hv => (h2 ⟨b, o + j, none⟩ hb).trans (h j v hv)
mutual
theorem Reads.mono (h1 : ∀ b, ok b → ok' b) (h2 : ∀ p : Addr, ok p.block → w'.cell? p = w.cell? p) : ∀ (d : D) (cs : List Value), Reads ok w d cs → Reads ok' w' d cs
 | .v x, cs, h => by rw [Reads] at h ⊢; exact h
 | .arr n l, cs, h => by rw [Reads] at h ⊢; exact h
 | .bs l, cs, h => by
  rw [Reads] at h ⊢
  obtain ⟨u, h3, h4⟩ := h
  exact ⟨u, h3, h4.mono h1 h2⟩
 | .sl z ds, cs, h => by
  rw [Reads] at h ⊢
  obtain ⟨A, c, rows, g1, g2, g3, g4, g5, g6⟩ := h
  exact ⟨A, c, rows, g1, g2, g3, g4, g5.mono h1 h2, ReadsRows.mono h1 h2 z ds rows g6⟩
 | .tup ds, cs, h => by
  rw [Reads] at h ⊢
  exact ReadsL.mono h1 h2 ds cs h
 | .pd d, cs, h => by
  rw [Reads] at h ⊢
  obtain ⟨b, o, cs', g1, g2, g3, g4⟩ := h
  exact ⟨b, o, cs', g1, h1 b g2, range_mono h2 g2 g3, Reads.mono h1 h2 d cs' g4⟩
 | .ifc t d, cs, h => by
  rw [Reads] at h ⊢
  obtain ⟨cs', g1, g2⟩ := h
  exact ⟨cs', g1, Reads.mono h1 h2 d cs' g2⟩
theorem ReadsL.mono (h1 : ∀ b, ok b → ok' b) (h2 : ∀ p : Addr, ok p.block → w'.cell? p = w.cell? p) : ∀ (ds : List D) (cs : List Value), ReadsL ok w ds cs → ReadsL ok' w' ds cs
 | [], cs, h => by rw [ReadsL] at h ⊢; exact h
 | d :: ds, cs, h => by
  rw [ReadsL] at h ⊢
  obtain ⟨c1, c2, g1, g2, g3⟩ := h
  exact ⟨c1, c2, g1, Reads.mono h1 h2 d c1 g2, ReadsL.mono h1 h2 ds c2 g3⟩
theorem ReadsRows.mono (h1 : ∀ b, ok b → ok' b) (h2 : ∀ p : Addr, ok p.block → w'.cell? p = w.cell? p) (z : Nat) : ∀ (ds : List D) (rows : List (List Value)), ReadsRows ok w z ds rows → ReadsRows ok' w' z ds rows
 | [], rows, h => by rw [ReadsRows] at h ⊢; exact h
 | d :: ds, rows, h => by
  rw [ReadsRows] at h ⊢
  obtain ⟨r, rest, g1, g2, g3, g4⟩ := h
  exact ⟨r, rest, g1, g2, Reads.mono h1 h2 d r g3, ReadsRows.mono h1 h2 z ds rest g4⟩
end
mutual
theorem Reads.len : ∀ (d : D) (cs : List Value), Reads ok w d cs → cs.length = d.size
 | .v x, cs, h => by rw [Reads] at h; rw [h.2]; rfl
 | .arr n l, cs, h => by rw [Reads] at h; rw [h.2, bvs_length, h.1]; rfl
 | .bs l, cs, h => by rw [Reads] at h; obtain ⟨u, rfl, _⟩ := h; rfl
 | .sl z ds, cs, h => by rw [Reads] at h; obtain ⟨A, c, rows, rfl, _⟩ := h; rfl
 | .tup ds, cs, h => by rw [Reads] at h; exact ReadsL.len ds cs h
 | .pd d, cs, h => by rw [Reads] at h; obtain ⟨b, o, cs', rfl, _⟩ := h; rfl
 | .ifc t d, cs, h => by rw [Reads] at h; obtain ⟨cs', rfl, _⟩ := h; rfl
theorem ReadsL.len : ∀ (ds : List D) (cs : List Value), ReadsL ok w ds cs → cs.length = D.sizes ds
 | [], cs, h => by rw [ReadsL] at h; rw [h]; rfl
 | d :: ds, cs, h => by
  rw [ReadsL] at h
  obtain ⟨c1, c2, rfl, g2, g3⟩ := h
  rw [List.length_append, Reads.len d c1 g2, ReadsL.len ds c2 g3]
  rfl
end
mutual
theorem Reads.one : ∀ (d : D) (cs : List Value), Reads ok w d cs → ∀ u ∈ cs, u.oneCell' = true
 | .v x, cs, h, u, hu => by
  rw [Reads] at h
  rw [h.2] at hu
  obtain rfl : u = x := by simpa using hu
  exact h.1
 | .arr n l, cs, h, u, hu => by rw [Reads] at h; rw [h.2] at hu; exact bvs_one l u hu
 | .bs l, cs, h, u, hu => by
  rw [Reads] at h
  obtain ⟨x, rfl, A, c, rfl, _⟩ := h
  obtain rfl : u = _ := by simpa using hu
  rfl
 | .sl z ds, cs, h, u, hu => by
  rw [Reads] at h
  obtain ⟨A, c, rows, rfl, _⟩ := h
  obtain rfl : u = _ := by simpa using hu
  rfl
 | .tup ds, cs, h, u, hu => by rw [Reads] at h; exact ReadsL.one ds cs h u hu
 | .pd d, cs, h, u, hu => by
  rw [Reads] at h
  obtain ⟨b, o, cs', rfl, _⟩ := h
  obtain rfl : u = _ := by simpa using hu
  rfl
 | .ifc t d, cs, h, u, hu => by
  rw [Reads] at h
  obtain ⟨cs', rfl, _⟩ := h
  obtain rfl : u = _ := by simpa using hu
  rfl
theorem ReadsL.one : ∀ (ds : List D) (cs : List Value), ReadsL ok w ds cs → ∀ u ∈ cs, u.oneCell' = true
 | [], cs, h, u, hu => by rw [ReadsL] at h; rw [h] at hu; cases hu
 | d :: ds, cs, h, u, hu => by
  rw [ReadsL] at h
  obtain ⟨c1, c2, rfl, g2, g3⟩ := h
  rcases List.mem_append.1 hu with hu | hu
  · exact Reads.one d c1 g2 u hu
  · exact ReadsL.one ds c2 g3 u hu
end
theorem form_cells {d : D} {cs : List Value} (h : Reads ok w d cs) : (form d cs).cells = cs.toArray := by
 unfold form
 cases hd : d.agg with
 | true => rfl
 | false =>
  have h1 : cs.length = 1 := by
   have := Reads.len d cs h
   cases d <;> simp [D.agg] at hd <;> simpa [D.size] using this
  obtain ⟨c, rfl⟩ := List.length_eq_one_iff.1 h1
  have := Reads.one d _ h c (by simp)
  simp only [Bool.false_eq_true, if_false, List.headD_cons]
  cases c <;> simp [Value.oneCell'] at this <;> rfl
theorem ReadV.mono (h1 : ∀ b, ok b → ok' b) (h2 : ∀ p : Addr, ok p.block → w'.cell? p = w.cell? p) {d : D} {x : Value} (h : ReadV ok w d x) : ReadV ok' w' d x := by
 obtain ⟨cs, h3, h4⟩ := h
 exact ⟨cs, Reads.mono h1 h2 d cs h3, h4⟩
theorem ReadVs.mono (h1 : ∀ b, ok b → ok' b) (h2 : ∀ p : Addr, ok p.block → w'.cell? p = w.cell? p) : ∀ (ds : List D) (xs : List Value), ReadVs ok w ds xs → ReadVs ok' w' ds xs
 | [], xs, h => h
 | d :: ds, xs, h => by
  obtain ⟨x, rest, g1, g2, g3⟩ := h
  exact ⟨x, rest, g1, g2.mono h1 h2, ReadVs.mono h1 h2 ds rest g3⟩
theorem ReadR.mono (h1 : ∀ b, ok b → ok' b) (h2 : ∀ p : Addr, ok p.block → w'.cell? p = w.cell? p) {r : R} {x : Value} (h : ReadR ok w r x) : ReadR ok' w' r x := by
 cases r with
 | val d => exact ReadV.mono h1 h2 h
 | tpl ds =>
  obtain ⟨vs, g1, g2⟩ := h
  exact ⟨vs, g1, ReadVs.mono h1 h2 ds vs g2⟩
 | any => trivial
theorem readV_v {x y : Value} : ReadV ok w (.v x) y ↔ x.oneCell' = true ∧ y = x := by
 constructor
 ·
  rintro ⟨cs, h, rfl⟩
  rw [Reads] at h
  rw [h.2]
  exact ⟨h.1, rfl⟩
 ·
  rintro ⟨h, rfl⟩
  exact ⟨[y], by rw [Reads]; exact ⟨h, rfl⟩, rfl⟩
theorem readV_one {d : D} (hd : d.agg = false) {x : Value} : ReadV ok w d x ↔ Reads ok w d [x] := by
 have hf : ∀ cs, form d cs = cs.headD undef := fun cs => by unfold form; rw [hd]; rfl
 constructor
 ·
  rintro ⟨cs, h, rfl⟩
  have h1 : cs.length = 1 := by
   have := Reads.len d cs h
   cases d <;> simp [D.agg] at hd <;> simpa [D.size] using this
  obtain ⟨c, rfl⟩ := List.length_eq_one_iff.1 h1
  rw [hf]
  exact h
 ·
  intro h
  exact ⟨[x], h, by rw [hf]; rfl⟩
theorem readV_agg {d : D} (hd : d.agg = true) {x : Value} : ReadV ok w d x ↔ ∃ cs, Reads ok w d cs ∧ x = .agg cs.toArray := by
 have hf : ∀ cs, form d cs = .agg cs.toArray := fun cs => by unfold form; rw [hd]; rfl
 constructor
 ·
  rintro ⟨cs, h, rfl⟩
  exact ⟨cs, h, hf cs⟩
 ·
  rintro ⟨cs, h, rfl⟩
  exact ⟨cs, h, (hf cs).symm⟩
theorem ReadsRows.get {z : Nat} : ∀ (ds : List D) (rows : List (List Value)), ReadsRows ok w z ds rows → ∀ k (hk : k < ds.length), ∃ r, rows[k]? = some r ∧ r.length = z ∧ Reads ok w ds[k] r
 | [], rows, _, k, hk => absurd hk (by simp)
 | d :: ds, rows, h, k, hk => by
  rw [ReadsRows] at h
  obtain ⟨r, rest, rfl, g2, g3, g4⟩ := h
  cases k with
  | zero => exact ⟨r, rfl, g2, g3⟩
  | succ k => exact ReadsRows.get ds rest g4 k (by simpa using hk)
theorem ReadsRows.lens {z : Nat} : ∀ (ds : List D) (rows : List (List Value)), ReadsRows ok w z ds rows → rows.length = ds.length ∧ ∀ r ∈ rows, r.length = z
 | [], rows, h => by rw [ReadsRows] at h; subst h; simp
 | d :: ds, rows, h => by
  rw [ReadsRows] at h
  obtain ⟨r, rest, rfl, g2, g3, g4⟩ := h
  obtain ⟨h1, h2⟩ := ReadsRows.lens ds rest g4
  exact ⟨by simp [h1], fun x hx => by
   rcases List.mem_cons.1 hx with rfl | hx
   · exact g2
   · exact h2 x hx⟩
theorem ReadsRows.append {z : Nat} : ∀ (ds es : List D) (rows more : List (List Value)), ReadsRows ok w z ds rows → ReadsRows ok w z es more → ReadsRows ok w z (ds ++ es) (rows ++ more)
 | [], es, rows, more, h, h' => by rw [ReadsRows] at h; subst h; exact h'
 | d :: ds, es, rows, more, h, h' => by
  rw [ReadsRows] at h
  obtain ⟨r, rest, rfl, g2, g3, g4⟩ := h
  rw [List.cons_append, List.cons_append, ReadsRows]
  exact ⟨r, _, rfl, g2, g3, ReadsRows.append ds es rest more g4 h'⟩
theorem ReadsRows.one {z : Nat} : ∀ (ds : List D) (rows : List (List Value)), ReadsRows ok w z ds rows → ∀ u ∈ rows.flatten, u.oneCell' = true
 | [], rows, h, u, hu => by rw [ReadsRows] at h; subst h; simp at hu
 | d :: ds, rows, h, u, hu => by
  rw [ReadsRows] at h
  obtain ⟨r, rest, rfl, g2, g3, g4⟩ := h
  rw [List.flatten_cons] at hu
  rcases List.mem_append.1 hu with hu | hu
  · exact Reads.one d r g3 u hu
  · exact ReadsRows.one ds rest g4 u hu
theorem ReadsRows.drop {z : Nat} : ∀ (ds : List D) (rows : List (List Value)) (k : Nat), ReadsRows ok w z ds rows → ReadsRows ok w z (ds.drop k) (rows.drop k)
 | ds, rows, 0, h => by simpa using h
 | [], rows, k + 1, h => by rw [ReadsRows] at h; subst h; simp [ReadsRows]
 | d :: ds, rows, k + 1, h => by
  rw [ReadsRows] at h
  obtain ⟨r, rest, rfl, g2, g3, g4⟩ := h
  simpa using ReadsRows.drop ds rest k g4
theorem ReadsRows.take {z : Nat} : ∀ (ds : List D) (rows : List (List Value)) (k : Nat), ReadsRows ok w z ds rows → ReadsRows ok w z (ds.take k) (rows.take k)
 | ds, rows, 0, h => by simp [ReadsRows]
 | [], rows, k + 1, h => by rw [ReadsRows] at h; subst h; simp [ReadsRows]
 | d :: ds, rows, k + 1, h => by
  rw [ReadsRows] at h
  obtain ⟨r, rest, rfl, g2, g3, g4⟩ := h
  rw [List.take_succ_cons, List.take_succ_cons, ReadsRows]
  exact ⟨r, _, rfl, g2, g3, ReadsRows.take ds rest k g4⟩
end
/-! ### A part -/
mutual
def D.sub : D → Nat → Nat → Bool → Option D
 | .tup ds, off, sz, ag => if off = 0 ∧ D.sizes ds = sz ∧ ag = true then some (.tup ds) else D.subL ds off sz ag
 | .arr n l, off, sz, ag => if off = 0 ∧ n = sz ∧ ag = true then some (.arr n l) else none
 | d, off, sz, ag => if off = 0 ∧ 1 = sz ∧ ag = false then some d else none
def D.subL : List D → Nat → Nat → Bool → Option D
 | [], _, _, _ => none
 | d :: ds, off, sz, ag => if off < d.size then d.sub off sz ag else D.subL ds (off - d.size) sz ag
end
mutual
def D.upd : D → Nat → D → Option D
 | .tup ds, off, new => if off = 0 ∧ D.sizes ds = new.size ∧ new.agg = true then some new else (D.updL ds off new).map .tup
 | .arr n l, off, new => if off = 0 ∧ n = new.size ∧ new.agg = true then some new else none
 | d, off, new => if off = 0 ∧ 1 = new.size ∧ new.agg = false then some new else none
def D.updL : List D → Nat → D → Option (List D)
 | [], _, _ => none
 | d :: ds, off, new => if off < d.size then (d.upd off new).map (· :: ds) else (D.updL ds (off - d.size) new).map (d :: ·)
end
section
variable {ok : Nat → Prop} {w : World}
theorem sub_leaf {d d' : D} {off sz : Nat} {ag : Bool} (h : (if off = 0 ∧ 1 = sz ∧ ag = false then some d else none) = some d') (hd : d.agg = false) (hs : d.size = 1) {cs : List Value} (hr : Reads ok w d cs) :
  d'.size = sz ∧ d'.agg = ag ∧ ∃ pre mid post, cs = pre ++ mid ++ post ∧ pre.length = off ∧ Reads ok w d' mid := by
 split at h
 ·
  rename_i hc
  cases h
  exact ⟨by rw [hs]; exact hc.2.1, by rw [hd, hc.2.2], [], cs, [], by simp, hc.1.symm, hr⟩
 · cases h
mutual
theorem sub_spec : ∀ (d : D) (off sz : Nat) (ag : Bool) (d' : D) (cs : List Value), d.sub off sz ag = some d' → Reads ok w d cs → d'.size = sz ∧ d'.agg = ag ∧ ∃ pre mid post, cs = pre ++ mid ++ post ∧ pre.length = off ∧ Reads ok w d' mid
 | .tup ds, off, sz, ag, d', cs, h, hr => by
  rw [D.sub] at h
  split at h
  ·
   rename_i hc
   cases h
   exact ⟨hc.2.1, hc.2.2.symm, [], cs, [], by simp, hc.1.symm, hr⟩
  ·
   rw [Reads] at hr
   exact subL_spec ds off sz ag d' cs h hr
 | .arr n l, off, sz, ag, d', cs, h, hr => by
  rw [D.sub] at h
  split at h
  ·
   rename_i hc
   cases h
   exact ⟨hc.2.1, hc.2.2.symm, [], cs, [], by simp, hc.1.symm, hr⟩
  · cases h
 | .v x, off, sz, ag, d', cs, h, hr => sub_leaf (by simpa only [D.sub] using h) rfl rfl hr
 | .bs l, off, sz, ag, d', cs, h, hr => sub_leaf (by simpa only [D.sub] using h) rfl rfl hr
 | .sl z ds, off, sz, ag, d', cs, h, hr => sub_leaf (by simpa only [D.sub] using h) rfl rfl hr
 | .pd d, off, sz, ag, d', cs, h, hr => sub_leaf (by simpa only [D.sub] using h) rfl rfl hr
 | .ifc t d, off, sz, ag, d', cs, h, hr => sub_leaf (by simpa only [D.sub] using h) rfl rfl hr
theorem subL_spec : ∀ (ds : List D) (off sz : Nat) (ag : Bool) (d' : D) (cs : List Value), D.subL ds off sz ag = some d' → ReadsL ok w ds cs → d'.size = sz ∧ d'.agg = ag ∧ ∃ pre mid post, cs = pre ++ mid ++ post ∧ pre.length = off ∧ Reads ok w d' mid
 | [], off, sz, ag, d', cs, h, hr => by rw [D.subL] at h; cases h
 | d :: ds, off, sz, ag, d', cs, h, hr => by
  rw [D.subL] at h
  rw [ReadsL] at hr
  obtain ⟨c1, c2, rfl, g2, g3⟩ := hr
  have hl := Reads.len d c1 g2
  split at h
  ·
   obtain ⟨e1, e2, pre, mid, post, rfl, h2, h3⟩ := sub_spec d off sz ag d' c1 h g2
   exact ⟨e1, e2, pre, mid, post ++ c2, by simp, h2, h3⟩
  ·
   obtain ⟨e1, e2, pre, mid, post, rfl, h2, h3⟩ := subL_spec ds _ sz ag d' c2 h g3
   exact ⟨e1, e2, c1 ++ pre, mid, post, by simp, by rw [List.length_append]; omega, h3⟩
end
theorem upd_leaf {d new d'' : D} {off : Nat} (h : (if off = 0 ∧ 1 = new.size ∧ new.agg = false then some new else none) = some d'') (hd : d.agg = false) (hs : d.size = 1) {cs mid' : List Value} (hr : Reads ok w d cs) (hn : Reads ok w new mid') :
  d''.size = d.size ∧ d''.agg = d.agg ∧ ∃ pre mid post, cs = pre ++ mid ++ post ∧ pre.length = off ∧ mid.length = mid'.length ∧ Reads ok w d'' (pre ++ mid' ++ post) := by
 split at h
 ·
  rename_i hc
  cases h
  exact ⟨by rw [hs, ← hc.2.1], by rw [hd, hc.2.2], [], cs, [], by simp, hc.1.symm, by rw [Reads.len _ _ hr, Reads.len _ _ hn, hs, hc.2.1], by simpa using hn⟩
 · cases h
mutual
theorem upd_spec : ∀ (d : D) (off : Nat) (new d'' : D) (cs mid' : List Value), d.upd off new = some d'' → Reads ok w d cs → Reads ok w new mid' →
  d''.size = d.size ∧ d''.agg = d.agg ∧ ∃ pre mid post, cs = pre ++ mid ++ post ∧ pre.length = off ∧ mid.length = mid'.length ∧ Reads ok w d'' (pre ++ mid' ++ post)
 | .tup ds, off, new, d'', cs, mid', h, hr, hn => by
  rw [D.upd] at h
  split at h
  ·
   rename_i hc
   cases h
   have hl := Reads.len _ _ hr
   refine ⟨hc.2.1.symm, hc.2.2, [], cs, [], by simp, hc.1.symm, ?_, by simpa using hn⟩
   rw [hl, Reads.len _ _ hn]
   exact hc.2.1
  ·
   rw [Reads] at hr
   cases hu : D.updL ds off new with
   | none => rw [hu] at h; cases h
   | some ds' =>
    rw [hu] at h
    cases h
    obtain ⟨e1, pre, mid, post, h1, h2, h3, h4⟩ := updL_spec ds off new ds' cs mid' hu hr hn
    exact ⟨e1, rfl, pre, mid, post, h1, h2, h3, by rw [Reads]; exact h4⟩
 | .arr n l, off, new, d'', cs, mid', h, hr, hn => by
  rw [D.upd] at h
  split at h
  ·
   rename_i hc
   cases h
   refine ⟨hc.2.1.symm, hc.2.2, [], cs, [], by simp, hc.1.symm, ?_, by simpa using hn⟩
   rw [Reads.len _ _ hr, Reads.len _ _ hn]
   exact hc.2.1
  · cases h
 | .v x, off, new, d'', cs, mid', h, hr, hn => upd_leaf (by simpa only [D.upd] using h) rfl rfl hr hn
 | .bs l, off, new, d'', cs, mid', h, hr, hn => upd_leaf (by simpa only [D.upd] using h) rfl rfl hr hn
 | .sl z ds, off, new, d'', cs, mid', h, hr, hn => upd_leaf (by simpa only [D.upd] using h) rfl rfl hr hn
 | .pd d, off, new, d'', cs, mid', h, hr, hn => upd_leaf (by simpa only [D.upd] using h) rfl rfl hr hn
 | .ifc t d, off, new, d'', cs, mid', h, hr, hn => upd_leaf (by simpa only [D.upd] using h) rfl rfl hr hn
theorem updL_spec : ∀ (ds : List D) (off : Nat) (new : D) (ds' : List D) (cs mid' : List Value), D.updL ds off new = some ds' → ReadsL ok w ds cs → Reads ok w new mid' →
  D.sizes ds' = D.sizes ds ∧ ∃ pre mid post, cs = pre ++ mid ++ post ∧ pre.length = off ∧ mid.length = mid'.length ∧ ReadsL ok w ds' (pre ++ mid' ++ post)
 | [], off, new, ds', cs, mid', h, hr, hn => by rw [D.updL] at h; cases h
 | d :: ds, off, new, ds', cs, mid', h, hr, hn => by
  rw [D.updL] at h
  rw [ReadsL] at hr
  obtain ⟨c1, c2, rfl, g2, g3⟩ := hr
  have hl := Reads.len d c1 g2
  split at h
  ·
   cases hu : d.upd off new with
   | none => rw [hu] at h; cases h
   | some e =>
    rw [hu] at h
    cases h
    obtain ⟨e1, e2, pre, mid, post, rfl, h2, h3, h4⟩ := upd_spec d off new e c1 mid' hu g2 hn
    refine ⟨by rw [D.sizes, D.sizes, e1], pre, mid, post ++ c2, by simp, h2, h3, ?_⟩
    rw [ReadsL]
    exact ⟨_, c2, by simp, h4, g3⟩
  ·
   cases hu : D.updL ds (off - d.size) new with
   | none => rw [hu] at h; cases h
   | some es =>
    rw [hu] at h
    cases h
    obtain ⟨e1, pre, mid, post, rfl, h2, h3, h4⟩ := updL_spec ds (off - d.size) new es c2 mid' hu g3 hn
    refine ⟨by rw [D.sizes, D.sizes, e1], c1 ++ pre, mid, post, by simp, by rw [List.length_append]; omega, h3, ?_⟩
    rw [ReadsL]
    exact ⟨c1, _, by simp, g2, h4⟩
end
end
end E
end Go.Proofs.Ytiledgojbpmoiaa
/-
 The abstract machine's states, how an act and a world meet one, and the rules of control.
 Conditions: none. No program is named here.
-/
namespace Go.Proofs.Ytiledgojbpmoiaa
set_option linter.unusedVariables false
open Go.RowKit Mono Rlp
namespace E
inductive Obj where
 | var (g : Nat) (t : TypeId) (d : D)
 | row (v : Value) (e : TypeId) (z : Nat) (ds : List D)
 | map (g n c : Nat) (es : List (Nat × List UInt8 × D))
 | it (g : Nat) (o : Go.Obj)
def Obj.blk : Obj → Option Nat
 | .var g _ _ => some g
 | .row v _ _ _ => v.ownBlock
 | .map g _ _ _ => some g
 | .it g _ => some g
structure GrE (H : Nat → Prop) (w w' : World) : Prop where
 os : w'.os = w.os
 tape : w'.tape = w.tape
 output : w'.output = w.output
 size : w.heap.size ≤ w'.heap.size
 block : ∀ k, k < w.heap.size → ¬ H k → w'.heap[k]? = w.heap[k]?
structure St where
 regs : List (Tmp × R)
 objs : List Obj
 facts : List (Value × D)
def look : List (Tmp × R) → Tmp → Option R
 | [], _ => none
 | (u, r) :: l, t => if u = t then some r else look l t
def St.put (S : St) (d : Option Tmp) (r : R) : St :=
 match d with
 | some d => { S with regs := (d, r) :: S.regs }
 | none => S
structure Cx (N : Nat) where
 w0 : World
 ok0 : Nat → Prop
 own0 : Nat → Prop
 low : ∀ b, ok0 b → b < w0.heap.size
def Cx.mine {N : Nat} (X : Cx N) (b : Nat) : Prop := X.own0 b ∨ X.w0.heap.size ≤ b
def Cx.ok {N : Nat} (X : Cx N) (objs : List Obj) (w : World) (b : Nat) : Prop := (X.ok0 b ∨ X.mine b) ∧ b < w.heap.size ∧ ∀ o ∈ objs, o.blk ≠ some b
inductive All2 {α β : Type} (R : α → β → Prop) : List α → List β → Prop
 | nil : All2 R [] []
 | cons {a : α} {b : β} {l : List α} {m : List β} (h1 : R a b) (h2 : All2 R l m) : All2 R (a :: l) (b :: m)
structure EntAt (ok : Nat → Prop) (w : World) (n : Nat) (e : MapEntry) (x : Nat × List UInt8 × D) : Prop where
 born : e.born = x.1
 key : e.key = arrV x.2.1
 len : x.2.1.length = n
 val : ReadV ok w x.2.2 e.val
def Row (base : Nat → Prop) (w : World) (e z : Nat) (v : Value) (n : Nat) (cs : List Value) : Prop := w.ownsRow 0 e z v n cs ∧ ∀ b, v.ownBlock = some b → base b
structure Ents (c : Nat) (es : List (Nat × List UInt8 × D)) : Prop where
 keys : (es.map (·.2.1)).Nodup
 borns : (es.map (·.1)).Nodup
 lt : ∀ x ∈ es, x.1 < c
def Obj.At (base : Nat → Prop) (ok : Nat → Prop) (w : World) : Obj → Prop
 | .var g t d => base g ∧ ∃ cs, w.heap[g]? = some (.cells cs.toArray t (0, 0)) ∧ Reads ok w d cs
 | .row v e z ds => ∃ rows, Row base w e z v ds.length rows.flatten ∧ ReadsRows ok w z ds rows
 | .map g n c es => base g ∧ Ents c es ∧ ∃ arr : Array MapEntry, w.heap[g]? = some (.map arr c) ∧ All2 (EntAt ok w n) arr.toList es
 | .it g o => base g ∧ w.heap[g]? = some o
structure Mem {N : Nat} (X : Cx N) (objs : List Obj) (facts : List (Value × D)) (w : World) : Prop where
 gr : GrE X.own0 X.w0 w
 apart : objs.Pairwise fun o p => ∀ b, o.blk = some b → p.blk ≠ some b
 at_ : ∀ o ∈ objs, o.At X.mine (X.ok objs w) w
 fact : ∀ f ∈ facts, Reads (X.ok objs w) w f.2 [f.1]
structure At {N : Nat} (X : Cx N) (S : St) (a : Act) (w : World) : Prop where
 mem : Mem X S.objs S.facts w
 regs : ∀ t r, look S.regs t = some r → ReadR (X.ok S.objs w) w r (a.tmps.getD t undef)
 size : a.tmps.size = N
 defers : a.defers = []
structure Kn (base : Nat → Prop) (ok : Nat → Prop) (L : Tmp → Prop) (S : St) (a : Act) (w : World) : Prop where
 objs : ∀ o ∈ S.objs, o.At base ok w
 facts : ∀ f ∈ S.facts, Reads ok w f.2 [f.1]
 lt : ∀ b, ok b → b < w.heap.size
 regs : ∀ t r, L t → look S.regs t = some r → ReadR ok w r (a.tmps.getD t undef)
theorem At.kn {N : Nat} {X : Cx N} {S : St} {a : Act} {w : World} (h : At X S a w) (L : Tmp → Prop) : Kn X.mine (X.ok S.objs w) L S a w := ⟨h.mem.at_, h.mem.fact, fun b hb => hb.2.1, fun t r _ hr => h.regs t r hr⟩
section
variable {N : Nat} {X : Cx N} {S S' : St} {a : Act} {w w' : World} {objs : List Obj} {facts : List (Value × D)}
theorem GrE.of {H : Nat → Prop} (h : Gr w w') : GrE H w w' := ⟨h.os, h.tape, h.output, h.size, fun k hk _ => h.block k hk⟩
theorem GrE.refl {H : Nat → Prop} (w : World) : GrE H w w := .of (Gr.refl w)
theorem GrE.cell {H : Nat → Prop} (h : GrE H w w') {p : Addr} (hp : p.block < w.heap.size) (hn : ¬ H p.block) : w'.cell? p = w.cell? p := World.cell?_of_block (h.block _ hp hn)
theorem GrE.trans {H : Nat → Prop} {w'' : World} (h : GrE H w w') (k : GrE H w' w'') : GrE H w w'' := ⟨k.os.trans h.os, k.tape.trans h.tape, k.output.trans h.output, Nat.le_trans h.size k.size, fun b hb hn => (k.block b (Nat.lt_of_lt_of_le hb h.size) hn).trans (h.block b hb hn)⟩
theorem GrE.gr {H : Nat → Prop} (h : GrE H w w') (h0 : ∀ b, ¬ H b) : Gr w w' := ⟨h.os, h.tape, h.output, h.size, fun b hb => h.block b hb (h0 b)⟩
theorem GrE.step {H K : Nat → Prop} {w'' : World} (h : GrE H w w') (k : GrE K w' w'') (hK : ∀ b, K b → H b ∨ w.heap.size ≤ b) : GrE H w w'' := ⟨k.os.trans h.os, k.tape.trans h.tape, k.output.trans h.output, Nat.le_trans h.size k.size, fun b hb hn => (k.block b (Nat.lt_of_lt_of_le hb h.size) fun hk => by
 rcases hK b hk with h1 | h1
 · exact hn h1
 · omega).trans (h.block b hb hn)⟩
theorem GrE.grown {H : Nat → Prop} {w'' : World} {row : Option Nat} (h : GrE H w w') (k : w'.grownBy w'' row) (hK : ∀ b, row = some b → H b ∨ w.heap.size ≤ b) : GrE H w w'' :=
 h.step (K := fun b => row = some b) ⟨k.os, k.tape, k.output, k.size, fun b hb hn => k.block b hb fun e => hn e.symm⟩ hK
theorem Row.lt {base : Nat → Prop} {e z n : Nat} {v : Value} {cs : List Value} (h : Row base w e z v n cs) {b : Nat} (hb : v.ownBlock = some b) : base b ∧ b < w.heap.size := ⟨h.2 b hb, (h.1.lt b hb).2⟩
theorem Obj.blk_lt {base ok : Nat → Prop} {o : Obj} (h : o.At base ok w) {b : Nat} (hb : o.blk = some b) : base b ∧ b < w.heap.size := by
 cases o with
 | var g t d =>
  obtain ⟨h1, cs, h2, _⟩ := h
  obtain rfl : g = b := by simpa [Obj.blk] using hb
  exact ⟨h1, lt_of_some h2⟩
 | row v e z ds =>
  obtain ⟨rows, h1, _⟩ := h
  exact h1.lt hb
 | map g n c es =>
  obtain ⟨h1, _, arr, h2, _⟩ := h
  obtain rfl : g = b := by simpa [Obj.blk] using hb
  exact ⟨h1, lt_of_some h2⟩
 | it g o =>
  obtain ⟨h1, h2⟩ := h
  obtain rfl : g = b := by simpa [Obj.blk] using hb
  exact ⟨h1, lt_of_some h2⟩
theorem EntAt.mono {ok ok' : Nat → Prop} {n : Nat} {e : MapEntry} {x : Nat × List UInt8 × D} (h : EntAt ok w n e x) (h1 : ∀ b, ok b → ok' b) (h2 : ∀ p : Addr, ok p.block → w'.cell? p = w.cell? p) : EntAt ok' w' n e x := ⟨h.born, h.key, h.len, h.val.mono h1 h2⟩
theorem forall2_imp {α β : Type} {R T : α → β → Prop} (h : ∀ a b, R a b → T a b) : ∀ {l : List α} {m : List β}, All2 R l m → All2 T l m
 | _, _, .nil => .nil
 | _, _, .cons h1 h2 => .cons (h _ _ h1) (forall2_imp h h2)
theorem Obj.At.move {base : Nat → Prop} {z z' : Nat → Prop} {u u' : World} {o : Obj} (h : o.At base z u) (hz : ∀ b, z b → z' b) (hc : ∀ p : Addr, z p.block → u'.cell? p = u.cell? p) (hb : ∀ g, o.blk = some g → u'.heap[g]? = u.heap[g]?) : o.At base z' u' := by
 cases o with
 | var g t d =>
  obtain ⟨h1, cs, h2, h3⟩ := h
  exact ⟨h1, cs, (hb g rfl).trans h2, Reads.mono hz hc _ _ h3⟩
 | row v e s ds =>
  obtain ⟨rows, ⟨h1, hm⟩, h2⟩ := h
  refine ⟨rows, ⟨⟨h1.1, ?_⟩, hm⟩, ReadsRows.mono hz hc s ds rows h2⟩
  rcases h1.2 with h1 | ⟨g, cap, cur, k1, k2, k3, k4⟩
  · exact .inl h1
  · exact .inr ⟨g, cap, cur, k1, k2, by rw [hb g (by rw [k1]; rfl)]; exact k3, k4⟩
 | map g n c es =>
  obtain ⟨h1, h0, arr, h2, h3⟩ := h
  exact ⟨h1, h0, arr, (hb g rfl).trans h2, forall2_imp (fun e x h => h.mono hz hc) h3⟩
 | it g o => exact ⟨h.1, (hb g rfl).trans h.2⟩
theorem Obj.At.rebase {base base' : Nat → Prop} {ok : Nat → Prop} {o : Obj} (h : o.At base ok w) (hb : ∀ b, o.blk = some b → base' b) : o.At base' ok w := by
 cases o with
 | var g t d => exact ⟨hb g rfl, h.2⟩
 | row v e s ds =>
  obtain ⟨rows, ⟨h1, hm⟩, h2⟩ := h
  exact ⟨rows, ⟨h1, hb⟩, h2⟩
 | map g n c es => exact ⟨hb g rfl, h.2⟩
 | it g o => exact ⟨hb g rfl, h.2⟩
theorem ok_gr (hg : Gr w w') {b : Nat} (h : X.ok objs w b) : X.ok objs w' b := ⟨h.1, Nat.lt_of_lt_of_le h.2.1 hg.size, h.2.2⟩
theorem ok_cell (hg : Gr w w') (p : Addr) (h : X.ok objs w p.block) : w'.cell? p = w.cell? p := hg.cell h.2.1
theorem reads_gr (hg : Gr w w') {d : D} {cs : List Value} (h : Reads (X.ok objs w) w d cs) : Reads (X.ok objs w') w' d cs := Reads.mono (fun _ => ok_gr hg) (ok_cell hg) d cs h
theorem readR_gr (hg : Gr w w') {r : R} {x : Value} (h : ReadR (X.ok objs w) w r x) : ReadR (X.ok objs w') w' r x := ReadR.mono (fun _ => ok_gr hg) (ok_cell hg) h
theorem Obj.At.gr {base : Nat → Prop} {o : Obj} (h : o.At base (X.ok objs w) w) (hg : Gr w w') : o.At base (X.ok objs w') w' :=
 h.move (fun _ => ok_gr hg) (ok_cell hg) fun g hb => hg.block g (Obj.blk_lt h hb).2
theorem Mem.grown (h : Mem X objs facts w) (hg : Gr w w') : Mem X objs facts w' := ⟨h.gr.trans (.of hg), h.apart, fun o ho => (h.at_ o ho).gr hg, fun f hf => reads_gr hg (h.fact f hf)⟩
def more (ok : Nat → Prop) (w w' : World) (b : Nat) : Prop := (ok b ∨ w.heap.size ≤ b) ∧ b < w'.heap.size
theorem more_ok (h : Mem X objs facts w) (hg : Gr w w') {b : Nat} (hb : more (X.ok objs w) w w' b) : X.ok objs w' b := by
 have h0 := h.gr.size
 rcases hb.1 with h1 | h1
 · exact ok_gr hg h1
 ·
  refine ⟨.inr (.inr (Nat.le_trans h0 h1)), hb.2, fun p hp e => ?_⟩
  have := (Obj.blk_lt (h.at_ p hp) e).2
  omega
theorem At.gr (h : At X S a w) (hg : Gr w w') : At X S a w' := ⟨h.mem.grown hg, fun t r hr => readR_gr hg (h.regs t r hr), h.size, h.defers⟩
theorem At.put (h : At X S a w) {d : Option Tmp} {r : R} {x : Value} (hd : ∀ t, d = some t → t < N) (hx : ReadR (X.ok S.objs w) w r x) : At X (S.put d r) (a.put d x) w := by
 cases d with
 | none => exact h
 | some d =>
  refine ⟨h.mem, fun t r' hr => ?_, by rw [put_tmps_size]; exact h.size, by rw [put_defers]; exact h.defers⟩
  simp only [St.put, look] at hr
  split at hr
  ·
   rename_i e
   subst e
   cases hr
   rw [put_same _ (by rw [h.size]; exact hd _ rfl)]
   exact hx
  ·
   rename_i e
   rw [put_other _ (by simpa using e)]
   exact h.regs t r' hr
theorem At.drop (h : At X S a w) {d : Option Tmp} {x : Value} : At X (S.put d .any) (a.put d x) w := by
 cases d with
 | none => exact h
 | some d =>
  refine ⟨h.mem, fun t r' hr => ?_, by rw [put_tmps_size]; exact h.size, by rw [put_defers]; exact h.defers⟩
  simp only [St.put, look] at hr
  split at hr
  ·
   cases hr
   trivial
  ·
   rename_i e
   rw [put_other _ (by simpa using e)]
   exact h.regs t r' hr
/-! ### From one state to another -/
def Le {N : Nat} (X : Cx N) (S S' : St) : Prop := ∀ a w, At X S a w → At X S' a w
def Sub (l : List (Tmp × R)) : List (Tmp × R) → Prop
 | [] => True
 | (t, r) :: m => look l t = some r ∧ Sub l m
theorem Sub.get {l : List (Tmp × R)} : ∀ (m : List (Tmp × R)), Sub l m → ∀ t r, look m t = some r → look l t = some r
 | [], _, t, r, h => by simp [look] at h
 | (u, r') :: m, hs, t, r, h => by
  rw [look] at h
  split at h
  ·
   rename_i e
   cases h
   subst e
   exact hs.1
  · exact Sub.get m hs.2 t r h
theorem Le.refl {N : Nat} (X : Cx N) (S : St) : Le X S S := fun _ _ h => h
theorem Le.trans {S'' : St} (h : Le X S S') (h' : Le X S' S'') : Le X S S'' := fun a w k => h' a w (h a w k)
theorem Mem.less {objs' : List Obj} {facts' : List (Value × D)} (h : Mem X objs facts w) (ho : objs'.Sublist objs) (hf : ∀ f ∈ facts', f ∈ facts) : Mem X objs' facts' w := by
 have hok : ∀ b, X.ok objs w b → X.ok objs' w b := fun b hb => ⟨hb.1, hb.2.1, fun o hm => hb.2.2 o (ho.subset hm)⟩
 exact ⟨h.gr, h.apart.sublist ho, fun o hm => (h.at_ o (ho.subset hm)).move hok (fun _ _ => rfl) fun _ _ => rfl, fun f hm => Reads.mono hok (fun _ _ => rfl) _ _ (h.fact f (hf f hm))⟩
theorem Le.less (ho : S'.objs.Sublist S.objs) (hf : ∀ f ∈ S'.facts, f ∈ S.facts) (hr : Sub S.regs S'.regs) : Le X S S' := fun a w h =>
 ⟨h.mem.less ho hf, fun t r ht => ReadR.mono (fun b hb => ⟨hb.1, hb.2.1, fun o hm => hb.2.2 o (ho.subset hm)⟩) (fun _ _ => rfl) (h.regs t r (Sub.get _ hr t r ht)), h.size, h.defers⟩
theorem Le.freeze {v : Value} {e : TypeId} {z : Nat} {ds : List D} {pre post : List Obj} (ho : S.objs = pre ++ .row v e z ds :: post) : Le X S ⟨S.regs, pre ++ post, (v, .sl z ds) :: S.facts⟩ := by
 intro a w h
 have hm := h.mem
 rw [ho] at hm
 have hsub : (pre ++ post).Sublist S.objs := by rw [ho]; exact List.Sublist.append (List.Sublist.refl _) (List.sublist_cons_self _ _)
 have hl : At X ⟨S.regs, pre ++ post, S.facts⟩ a w := ⟨h.mem.less hsub (fun _ hf => hf), fun t r ht => ReadR.mono (fun b hb => ⟨hb.1, hb.2.1, fun o hm => hb.2.2 o (hsub.subset hm)⟩) (fun _ _ => rfl) (h.regs t r ht), h.size, h.defers⟩
 refine ⟨⟨hl.mem.gr, hl.mem.apart, hl.mem.at_, fun f hf => ?_⟩, hl.regs, hl.size, hl.defers⟩
 rcases List.mem_cons.1 hf with rfl | hf
 ·
  obtain ⟨rows, h1, h2⟩ := hm.at_ (.row v e z ds) (by simp)
  obtain ⟨h1, hmine⟩ := h1
  obtain ⟨A, c, rfl, hc1, hc2⟩ := own_form h1
  show Reads _ _ (D.sl z ds) [.slice A ds.length c]
  rw [Reads]
  refine ⟨A, c, rows, rfl, hc1, hc2, fun e => by subst e; exact own_none h1, ?_, ReadsRows.mono (fun b hb => ⟨hb.1, hb.2.1, fun o hm => hb.2.2 o (by
   rcases List.mem_append.1 hm with hm | hm
   · simp [hm]
   · simp [hm])⟩) (fun _ _ => rfl) z ds rows h2⟩
  intro hn
  obtain ⟨b, o, rfl, hb, hc⟩ := own_RdP h1 hn
  refine ⟨b, o, rfl, ⟨.inr (hmine b rfl), hb.2, fun p hp => ?_⟩, hc⟩
  have hap := hm.apart
  rcases List.mem_append.1 hp with hp | hp
  · exact fun e => (List.pairwise_append.1 hap).2.2 p hp _ (List.mem_cons_self) b e rfl
  · exact (List.pairwise_cons.1 (List.pairwise_append.1 hap).2.1).1 p hp b rfl
 · exact hl.mem.fact f hf
mutual
def Refine (F : List (Value × D)) : D → D → Prop
 | .v x, d' => d' = .v x ∨ ((x, d') ∈ F ∧ d'.agg = false) ∨ (x = .slice none 0 0 ∧ (d' = .bs [] ∨ ∃ z, d' = .sl z []))
 | .tup ds, d' => ∃ ds', d' = .tup ds' ∧ RefineL F ds ds'
 | .arr n l, d' => d' = .arr n l
 | .bs l, d' => d' = .bs l
 | .sl z ds, d' => d' = .sl z ds
 | .pd d, d' => d' = .pd d
 | .ifc t d, d' => d' = .ifc t d
def RefineL (F : List (Value × D)) : List D → List D → Prop
 | [], l => l = []
 | d :: ds, l => ∃ d' ds', l = d' :: ds' ∧ Refine F d d' ∧ RefineL F ds ds'
end
mutual
theorem Refine.reads {ok : Nat → Prop} {F : List (Value × D)} (hF : ∀ f ∈ F, Reads ok w f.2 [f.1]) : ∀ (d d' : D) (cs : List Value), Refine F d d' → Reads ok w d cs → Reads ok w d' cs ∧ d'.agg = d.agg
 | .v x, d', cs, h, hr => by
  rw [Refine] at h
  rcases h with rfl | ⟨h, h2⟩ | ⟨rfl, rfl | ⟨z, rfl⟩⟩
  · exact ⟨hr, rfl⟩
  ·
   rw [Reads] at hr
   rw [hr.2]
   exact ⟨hF _ h, h2⟩
  ·
   rw [Reads] at hr
   refine ⟨?_, rfl⟩
   rw [Reads]
   exact ⟨_, hr.2, none, 0, rfl, Nat.le_refl _, by simp [maxLen], fun hn => absurd rfl hn⟩
  ·
   rw [Reads] at hr
   refine ⟨?_, rfl⟩
   rw [Reads]
   exact ⟨none, 0, [], hr.2, Nat.le_refl _, by simp [maxLen], fun _ => ⟨rfl, rfl⟩, fun hn => absurd rfl hn, by rw [ReadsRows]⟩
 | .tup ds, d', cs, h, hr => by
  rw [Refine] at h
  obtain ⟨ds', rfl, h⟩ := h
  rw [Reads] at hr ⊢
  exact ⟨RefineL.reads hF ds ds' cs h hr, rfl⟩
 | .arr n l, d', cs, h, hr => by rw [Refine] at h; subst h; exact ⟨hr, rfl⟩
 | .bs l, d', cs, h, hr => by rw [Refine] at h; subst h; exact ⟨hr, rfl⟩
 | .sl z ds, d', cs, h, hr => by rw [Refine] at h; subst h; exact ⟨hr, rfl⟩
 | .pd d, d', cs, h, hr => by rw [Refine] at h; subst h; exact ⟨hr, rfl⟩
 | .ifc t d, d', cs, h, hr => by rw [Refine] at h; subst h; exact ⟨hr, rfl⟩
theorem RefineL.reads {ok : Nat → Prop} {F : List (Value × D)} (hF : ∀ f ∈ F, Reads ok w f.2 [f.1]) : ∀ (ds l : List D) (cs : List Value), RefineL F ds l → ReadsL ok w ds cs → ReadsL ok w l cs
 | [], l, cs, h, hr => by rw [RefineL] at h; subst h; exact hr
 | d :: ds, l, cs, h, hr => by
  rw [RefineL] at h
  obtain ⟨d', ds', rfl, h1, h2⟩ := h
  rw [ReadsL] at hr ⊢
  obtain ⟨c1, c2, rfl, h3, h4⟩ := hr
  exact ⟨c1, c2, rfl, (Refine.reads hF d d' c1 h1 h3).1, RefineL.reads hF ds ds' c2 h2 h4⟩
end
theorem Refine.readV {ok : Nat → Prop} {F : List (Value × D)} (hF : ∀ f ∈ F, Reads ok w f.2 [f.1]) {d d' : D} {x : Value} (h : Refine F d d') (hr : ReadV ok w d x) : ReadV ok w d' x := by
 obtain ⟨cs, h1, rfl⟩ := hr
 obtain ⟨h2, h3⟩ := Refine.reads hF d d' cs h h1
 exact ⟨cs, h2, by unfold form; rw [h3]⟩
theorem Le.refine {t : Tmp} {d d' : D} (hl : look S.regs t = some (.val d)) (hr : Refine S.facts d d') : Le X S ⟨(t, .val d') :: S.regs, S.objs, S.facts⟩ := fun a w h => by
 refine ⟨h.mem, fun u r hu => ?_, h.size, h.defers⟩
 rw [look] at hu
 split at hu
 ·
  rename_i e
  cases hu
  subst e
  exact hr.readV h.mem.fact (h.regs _ _ hl)
 · exact h.regs u r hu
/-! ### The rules of control -/
structure EL {N : Nat} (X : Cx N) (ops : Array Oper) (Q : Exit → Act → World → Prop) (l : List Oper) (S : St) : Prop where
 go : ∀ a w, At X S a w → wpList Try.prog ops Q l a w
structure EC {N : Nat} (X : Cx N) (Q : Exit → Act → World → Prop) (c : Code) (S : St) : Prop where
 go : ∀ a w, At X S a w → c.wp Try.prog Q a w
structure EK {N : Nat} (X : Cx N) (K : Act → World → Prop) (S : St) : Prop where
 go : ∀ a w, At X S a w → K a w
variable {Q : Exit → Act → World → Prop} {K : Act → World → Prop} {c y : Code} {ops : Array Oper} {l : List Oper}
theorem EL.le (h : Le X S S') (k : EL X ops Q l S') : EL X ops Q l S := ⟨fun a w ha => k.go a w (h a w ha)⟩
theorem EC.le (h : Le X S S') (k : EC X Q c S') : EC X Q c S := ⟨fun a w ha => k.go a w (h a w ha)⟩
theorem EK.le (h : Le X S S') (k : EK X K S') : EK X K S := ⟨fun a w ha => k.go a w (h a w ha)⟩
theorem EL.nil (h : EK X (Q .normal) S) : EL X ops Q [] S := ⟨fun a w ha => wpList_nil (h.go a w ha)⟩
theorem EC.region {id : Nat} (h : EL X l.toArray Q l S) : EC X Q (.region id l.toArray false) S := ⟨fun a w ha => wp_region_lit (h.go a w ha)⟩
theorem EC.skip (h : EK X (Q .normal) S) : EC X Q .skip S := ⟨fun a w ha => wp_skip (h.go a w ha)⟩
theorem EC.label {n : Nat} (h : EK X (Q .normal) S) : EC X Q (.label n) S := ⟨fun a w ha => wp_label (h.go a w ha)⟩
theorem EC.seq (h : EC X (Exit.then (y.wp Try.prog Q) Q) c S) : EC X Q (.seq c y) S := ⟨fun a w ha => wp_seq (h.go a w ha)⟩
theorem EC.cut {ι : Type} (J : ι → St) (h : EC X (Exit.then (fun a w => ∃ i, At X (J i) a w) Q) c S) (k : ∀ i, EC X Q y (J i)) : EC X Q (.seq c y) S := ⟨fun a w ha =>
 wp_seq (wp_mono (h.go a w ha) fun e a w hq => by
  cases e with
  | normal =>
   obtain ⟨i, hi⟩ := hq
   exact (k i).go a w hi
  | _ => exact hq)⟩
theorem EK.meet {ι : Type} {J : ι → St} (i : ι) (h : Le X S (J i)) : EK X (fun a w => ∃ i, At X (J i) a w) S := ⟨fun a w ha => ⟨i, h a w ha⟩⟩
theorem EC.cond {t : Tmp} {b : Bool} {x : Code} (hl : look S.regs t = some (.val (.v (.bool b)))) (ht : b = true → EC X Q x S) (hf : b = false → EC X Q y S) : EC X Q (.cond (.tmp t) x y) S := ⟨fun a w ha => by
 have hv := (readV_v.1 (ha.regs t _ hl)).2
 exact wp_cond_split (t := b) hv (fun e => (ht e).go a w ha) (fun e => (hf e).go a w ha)⟩
theorem EC.cond_true {t : Tmp} {x : Code} (hl : look S.regs t = some (.val (.v (.bool true)))) (h : EC X Q x S) : EC X Q (.cond (.tmp t) x y) S := EC.cond hl (fun _ => h) (fun e => by cases e)
theorem EC.cond_false {t : Tmp} {x : Code} (hl : look S.regs t = some (.val (.v (.bool false)))) (h : EC X Q y S) : EC X Q (.cond (.tmp t) x y) S := EC.cond hl (fun e => by cases e) (fun _ => h)
theorem EC.block {id : Nat} (h : EC X (Exit.inBlock id Q) c S) : EC X Q (.block id c) S := ⟨fun a w ha => wp_block (h.go a w ha)⟩
theorem EC.exit {id : Nat} (h : EK X (Q (.exit id)) S) : EC X Q (.exit id) S := ⟨fun a w ha => wp_exit (h.go a w ha)⟩
theorem EC.ret (h : EK X (Q .ret) S) : EC X Q .ret S := ⟨fun a w ha => wp_ret (h.go a w ha)⟩
def Again {N : Nat} (X : Cx N) {ι : Type} (I : ι → St) (μ : ι → Nat) (i : ι) : Act → World → Prop := fun a w => ∃ i', μ i' < μ i ∧ At X (I i') a w
theorem EC.loop {ι : Type} (I : ι → St) (μ : ι → Nat) (i0 : ι) (h0 : Le X S (I i0)) (hr : ∀ i, EC X (Exit.then (Again X I μ i) Q) c (I i)) : EC X Q (.loop c) S := ⟨fun a w ha =>
 wp_loop_ghost (fun n a w => ∃ i, μ i = n ∧ At X (I i) a w) (μ i0) ⟨i0, rfl, h0 a w ha⟩ fun n a w ⟨i, hn, hi⟩ => by
  subst hn
  refine wp_mono ((hr i).go a w hi) fun e a w hq => ?_
  cases e with
  | normal =>
   obtain ⟨i', h1, h2⟩ := hq
   exact ⟨μ i', h1, i', rfl, h2⟩
  | _ => exact hq⟩
theorem EK.again {ι : Type} {I : ι → St} {μ : ι → Nat} {i : ι} (i' : ι) (hm : μ i' < μ i) (h : Le X S (I i')) : EK X (Again X I μ i) S := ⟨fun a w ha => ⟨i', hm, h a w ha⟩⟩
theorem EK.code (h : EC X Q c S) : EK X (c.wp Try.prog Q) S := ⟨h.go⟩
theorem EK.then_normal (h : EK X K S) : EK X (Exit.then K Q .normal) S := h
theorem EK.then_exit {id : Nat} (h : EK X (Q (.exit id)) S) : EK X (Exit.then K Q (.exit id)) S := h
theorem EK.then_ret (h : EK X (Q .ret) S) : EK X (Exit.then K Q .ret) S := h
theorem EK.in_normal {id : Nat} (h : EK X (Q .normal) S) : EK X (Exit.inBlock id Q .normal) S := h
theorem EK.in_ret {id : Nat} (h : EK X (Q .ret) S) : EK X (Exit.inBlock id Q .ret) S := h
theorem EK.in_same {id : Nat} (h : EK X (Q .normal) S) : EK X (Exit.inBlock id Q (.exit id)) S := ⟨fun a w ha => by
 simp only [Exit.inBlock, if_true]
 exact h.go a w ha⟩
theorem EK.in_other {id id' : Nat} (hne : (id' == id) = false) (h : EK X (Q (.exit id')) S) : EK X (Exit.inBlock id Q (.exit id')) S := ⟨fun a w ha => by
 simp only [Exit.inBlock]
 rw [if_neg (by simpa using hne)]
 exact h.go a w ha⟩
end
end E
end Go.Proofs.Ytiledgojbpmoiaa
