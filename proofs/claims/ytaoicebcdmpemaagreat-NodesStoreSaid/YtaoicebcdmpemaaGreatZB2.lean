/-
 Merged: lemmas of this claim.
 Conditions: none.
-/
import Derived.Test.YtaoicebcdmpemaaGreatZB1
import Derived.WalkKit
import Derived.WalkSpells
import Derived.WalkLawsBesides
import Derived.Maps.AppendAt
import Derived.Laws.BytesString
import Derived.Laws.IdiomStrings
import Derived.Lib.Hide
import Derived.Test.YtaoicebcdmpemaaGreatRows
import Derived.ArgAppend
import Derived.Lib.SlBytesConst
import Derived.OwnWalk
import Derived.Laws.Rows
import Derived.Laws.Tables
import Derived.Deep.WholeRow
import Derived.Stop.BytesEq
import Derived.Deep.LoopGhost
import Derived.Deep.MidRow
import Derived.Test.YtaoicebcdmpemaaGreatZB0
namespace Go.Proofs.YtaoicebcdmpemaaGreat
open Go.RowKit Mono
def Rd (w : World) (B : Nat) (A : Option Addr) (xs : List Value) : Prop :=
 xs ≠ [] → ∃ b o, A = some ⟨b, o, none⟩ ∧ b < B ∧ ∀ j u, xs[j]? = some u → w.cell? ⟨b, o + j, none⟩ = some u
theorem bM (b o m : Nat) : (⟨b, o, none⟩ : Addr).add m = ⟨b, o + m, none⟩ := by
 unfold Addr.add
 split
 · subst_vars; rfl
 · rfl
section
variable {w w' : World} {B B' : Nat} {A : Option Addr} {xs : List Value}
theorem Rd.nil : Rd w B A [] := fun h => absurd rfl h
theorem Rd.keep (h : Rd w B A xs) (hk : ∀ p : Addr, p.block < B → w'.cell? p = w.cell? p) : Rd w' B A xs := fun hn => by
 obtain ⟨b, o, e, hb, hc⟩ := h hn
 exact ⟨b, o, e, hb, fun j u hu => (hk _ hb).trans (hc j u hu)⟩
theorem Rd.more (h : Rd w B A xs) (hB : B ≤ B') : Rd w B' A xs := fun hn => by
 obtain ⟨b, o, e, hb, hc⟩ := h hn
 exact ⟨b, o, e, by omega, hc⟩
theorem Rd.below (h : Rd w B A xs) (hb : Below B w w') : Rd w' B A xs := h.keep fun _ hp => hb.cell hp
theorem Rd.gr (h : Rd w w.heap.size A xs) (hb : Gr w w') : Rd w' w'.heap.size A xs := (h.below hb).more hb.size
theorem Rd.take (h : Rd w B A xs) (m : Nat) : Rd w B A (xs.take m) := fun hn => by
 obtain ⟨b, o, e, hb, hc⟩ := h (fun e => hn (by rw [e]; simp))
 refine ⟨b, o, e, hb, fun j u hu => hc j u ?_⟩
 rw [Np] at hu
 split at hu
 · exact hu
 · cases hu
theorem Rd.cut (h : Rd w B A xs) {k n cap size : Nat} (hn : xs.length = n * size) (hc : n ≤ cap) :
  Rd w B (if cap = k then A else A.map (·.add (k * size))) (xs.drop (k * size)) := fun hne => by
 have hlt : k * size < xs.length := by
  rcases KP (k * size) xs.length with h1 | h1
  · exact h1
  · exact absurd (LJ h1) hne
 have hk : k < n := by
  rcases KP k n with h1 | h1
  · exact h1
  ·
   have := Nb size h1
   omega
 obtain ⟨b, o, rfl, hb, hcell⟩ := h (fun e => by rw [e] at hlt; simp at hlt)
 rw [if_neg (by omega)]
 refine ⟨b, o + k * size, by simp [bM], hb, fun j u hu => ?_⟩
 rw [Nc]
 exact hcell _ u (by rw [← hu, Nl])
theorem Rd.GU {base : Nat} {e : TypeId} {size n c : Nat} (h : w.ownsRow base e size (.slice A n c) n xs) : Rd w w.heap.size A xs := fun hn => by
 rcases h.2 with ⟨hv, hz⟩ | ⟨g, cap, cur, hv, _, hh, _, _, _, ht⟩
 ·
  subst hz
  have := h.1
  rw [Nat.zero_mul] at this
  exact absurd (MC this) hn
 ·
  injection hv with hA _ _
  subst hA
  have hg : g < w.heap.size := by
   rcases KP g w.heap.size with h1 | h1
   · exact h1
   · rw [Array.getElem?_eq_none h1] at hh; cases hh
  refine ⟨g, 0, rfl, hg, fun j u hu => ?_⟩
  have := h.cells (g := g) rfl j u hu
  rwa [bM] at this
theorem Rd.new (w : World) (cs : Array Value) (e : TypeId) : Rd (w.alloc (.cells cs e)) (w.heap.size + 1) (some ⟨w.heap.size, 0, none⟩) cs.toList := fun _ =>
 ⟨w.heap.size, 0, rfl, by omega, fun j u hu => by
  rw [cell_of_row _ _ _ cs e (0, 0) (heap_alloc_new w _)]
  simpa using hu⟩
end
attribute [go_sem] After
theorem au {w : World} {p : Addr} {v : Value} (hp : p.block < w.heap.size) (h : w.cell? p = some v) (x : Later w) : x.1.cell? p = some v := (x.2.cell hp).trans h
structure SlT (P : Program) (t e : TypeId) (size bytes : Nat) : Prop where
 und : P.underlying t = some (.slice e)
 info : ∃ i z, P.info? e = some i ∧ i.zero = some z ∧ i.size = size ∧ i.bytes = bytes ∧ z.cells.size = size
 pos : 0 < size
theorem eF {w : World} {base : Nat} {e : TypeId} {size : Nat} {v : Value} {n : Nat} {xs : List Value} (h : w.ownsRow base e size v n xs) :
  ∃ A c, v = .slice A n c ∧ n ≤ c ∧ c ≤ maxLen := by
 rcases h.2 with ⟨rfl, rfl⟩ | ⟨g, cap, cur, rfl, _, _, h1, h2, _, _⟩
 · exact ⟨none, 0, rfl, Nat.le_refl _, by simp [maxLen]⟩
 · exact ⟨_, cap, rfl, h1, h2⟩
theorem GN {w w' : World} {base : Nat} {e : TypeId} {size : Nat} {v : Value} {n : Nat} {xs : List Value} (h : w.ownsRow base e size v n xs) (hg : Gr w w') : w'.ownsRow base e size v n xs := by
 refine ⟨h.1, ?_⟩
 rcases h.2 with h | ⟨g, cap, cur, h1, h2, h3, h4⟩
 · exact .inl h
 ·
  refine .inr ⟨g, cap, cur, h1, h2, ?_, h4⟩
  rw [hg.block g (by
   rcases KP g w.heap.size with h5 | h5
   · exact h5
   · rw [Array.getElem?_eq_none h5] at h3; cases h3)]
  exact h3
theorem eX {w : World} {base : Nat} {e : TypeId} {size : Nat} {v : Value} {n : Nat} {xs : List Value} (h : w.ownsRow base e size v n xs) (k : Nat) (hk : v.ownBlock = some k) : base ≤ k := (h.lt k hk).1
section
variable {P : Program} {w : World}
theorem run_append_nil {base t ty e size bytes : Nat} (T : SlT P t e size bytes) {v : Value} {n : Nat} {xs : List Value} (hown : w.ownsRow base e size v n xs) (c : Nat) :
  (Builtin.append_ #[t, t] ty #[v, .slice none 0 c]).run P w = .ok v w := by
 obtain ⟨i, z, hi, _, hsize, _, _⟩ := T.info
 rcases hown.2 with ⟨rfl, rfl⟩ | ⟨g, cap, cur, rfl, _, _, hnc, _⟩
 · simp [Builtin.append_, run_underlying T.und, sizeOf, typeInfo, hi, Builtin.lenOf, Builtin.firstCells]
 · simp [Builtin.append_, run_underlying T.und, sizeOf, typeInfo, hi, Builtin.lenOf, Builtin.firstCells, hnc, storeCells]
theorem dZ {base t ty e size bytes : Nat} (T : SlT P t e size bytes) {v : Value} {n : Nat} {xs : List Value} (hown : w.ownsRow base e size v n xs)
  {A : Option Addr} {m c B : Nat} {news : List Value} (hl : news.length = m * size) (hr : Rd w B A news) (h1 : ∀ u ∈ news, u.oneCell' = true)
  (h63 : n + m ≤ maxLen) (hbytes : (n + m) * bytes ≤ 140737488355328) (hbase : base ≤ w.heap.size) :
  ∃ A' c' w', (Builtin.append_ #[t, t] ty #[v, .slice A m c]).run P w = .ok (.slice A' (n + m) c') w' ∧ w'.ownsRow base e size (.slice A' (n + m) c') (n + m) (xs ++ news) ∧ w.grownBy w' v.ownBlock ∧
   ((Value.slice A' (n + m) c').ownBlock = v.ownBlock ∨ (Value.slice A' (n + m) c').ownBlock = some w.heap.size) := by
 have hnil : A = none → m = 0 ∧ news = [] := fun h => by
  by_cases hn : news = []
  ·
   subst hn
   have : m * size = 0 := by simpa using hl.symm
   rcases Nat.mul_eq_zero.1 this with h0 | h0
   · exact ⟨h0, rfl⟩
   · have := T.pos; omega
  ·
   obtain ⟨b, o, e, _⟩ := hr hn
   rw [h] at e; cases e
 cases A with
 | none =>
  obtain ⟨rfl, rfl⟩ := hnil rfl
  obtain ⟨A', c', rfl, _, _⟩ := eF hown
  refine ⟨A', c', w, run_append_nil T hown c, by simpa using hown, World.grownBy.refl w _, .inl rfl⟩
 | some ad =>
  have hcells : ∀ j u, news[j]? = some u → w.cell? (ad.add j) = some u := fun j u hu => by
   obtain ⟨b, o, e, _, hc⟩ := hr (fun e => by rw [e] at hu; simp at hu)
   injection e with e
   subst e
   rw [bM]
   exact hc j u hu
  obtain ⟨i, z, hi, hz, hsize, hby, hzs⟩ := T.info
  obtain ⟨v', w', hrun, h2, h3, _, h5⟩ := run_append_own_at (P := P) w base t ty e i z size bytes T.und hi hz hsize hby hzs T.pos v n xs hown ad m c news hl hcells h1 h63 hbytes hbase
  obtain ⟨A', c', rfl, _, _⟩ := eF h2
  exact ⟨A', c', w', hrun, h2, h3, h5⟩
theorem dS {ops : Array Oper} {rest : List Oper} {o : Oper} {a : Act} {Q : Exit → Act → World → Prop} (s x : Operand) (t : TypeId)
  {base e size bytes : Nat} (T : SlT P t e size bytes) (v : Value) (n : Nat) (xs : List Value) (A : Option Addr) (m c B : Nat) (news : List Value)
  (hgd : o.guard = none) (ho : o.op = .call { callee := .builtin .append, args := #[s, x], argTypes := #[t, t] }) (hs : a.eval s = v) (hx : a.eval x = .slice A m c)
  (hown : w.ownsRow base e size v n xs) (hr : Rd w B A news) (hl : news.length = m * size) (h1 : ∀ u ∈ news, u.oneCell' = true)
  (h63 : n + m ≤ maxLen) (hbytes : (n + m) * bytes ≤ 140737488355328) (hbase : base ≤ w.heap.size)
  (h : ∀ A' c' w', w'.ownsRow base e size (.slice A' (n + m) c') (n + m) (xs ++ news) → w.grownBy w' v.ownBlock →
   ((Value.slice A' (n + m) c').ownBlock = v.ownBlock ∨ (Value.slice A' (n + m) c').ownBlock = some w.heap.size) → wpList P ops Q rest (a.put o.dst (.slice A' (n + m) c')) w') : wpList P ops Q (o :: rest) a w := by
 refine wpList_plain hgd fun _ hK => ?_
 obtain ⟨A', c', w', hrun, h2, h3, h4⟩ := dZ (P := P) (ty := o.type) T hown hl hr h1 h63 hbytes hbase (c := c)
 unfold Oper.wp execOp
 simp only [ho, resolve, invoke, builtin, Kq, Ku, J6, LV, KD, KU, hs, hx, hrun]
 exact hK _ _ (h A' c' w' h2 h3 h4)
end
theorem yt (w : World) (cs : Array Value) (e : TypeId) (size n g base : Nat) (hg : w.heap.size = g) (hb : base ≤ w.heap.size) (hm : n ≤ maxLen) (hs : cs.size = n * size) :
  (w.alloc (.cells cs e)).ownsRow base e size (.slice (some ⟨g, 0, none⟩) n n) n cs.toList := by
 subst hg
 exact World.ownsRow_lit w cs n hb hm hs
def bv (b : UInt8) : Value := .int .u8 b.toNat
def bvs (l : List UInt8) : List Value := l.map bv
theorem aJ (l : List UInt8) : (bvs l).length = l.length := by simp [bvs]
theorem oZ (l m : List UInt8) : bvs (l ++ m) = bvs l ++ bvs m := by simp [bvs]
theorem iH (l : List UInt8) : ∀ u ∈ bvs l, u.oneCell' = true := by
 intro u hu
 obtain ⟨b, _, rfl⟩ := KI.1 hu
 rfl
theorem sJ (l : List UInt8) (j : Nat) (h : j < l.length) : (bvs l)[j]? = some (bv l[j]) := by simp [bvs, h]
theorem yM (b : UInt8) : b.toNat < 256 := b.toNat_lt
def IsB (w : World) (v : Value) (l : List UInt8) : Prop :=
 ∃ A c, v = .slice A l.length c ∧ l.length ≤ c ∧ c ≤ maxLen ∧ Rd w w.heap.size A (bvs l)
def OwnB (w : World) (base : Nat) (v : Value) (l : List UInt8) : Prop := w.ownsRow base 5 1 v l.length (bvs l)
theorem IsB.gr {w w' : World} {v : Value} {l : List UInt8} (h : IsB w v l) (hg : Gr w w') : IsB w' v l := by
 obtain ⟨A, c, rfl, h1, h2, h3⟩ := h
 exact ⟨A, c, rfl, h1, h2, h3.gr hg⟩
theorem ownB_of {w : World} {base : Nat} {v : Value} {n : Nat} {xs : List Value} {l : List UInt8} (h : w.ownsRow base 5 1 v n xs) (hx : xs = bvs l) : OwnB w base v l := by
 subst hx
 have := h.1
 rw [aJ, Nat.mul_one] at this
 unfold OwnB
 rw [this]
 exact h
theorem IsB.nil (w : World) : IsB w (.slice none 0 0) [] := ⟨none, 0, rfl, Nat.le_refl _, by simp [maxLen], Rd.nil⟩
theorem OwnB.nil (w : World) (base : Nat) : OwnB w base (.slice none 0 0) [] := World.ownsRow_nil _ _ _ _
def Ret (V : VP) (w : World) (e : Ending) (w' : World) : Prop := ∃ v, e = .returned v ∧ Gr w w' ∧ V v w'
theorem dW : SlT Tryz.prog 41 5 1 1 :=
 ⟨Tryz.underlying41, by
  have h : (Tryz.prog.info? 5).map (fun i => (i.zero, i.size, i.bytes)) = some (some (.int .u8 0), 1, 1) := by kernel_rfl
  obtain ⟨i, hi, hz, h1, h2⟩ := info_parts h
  exact ⟨i, _, hi, hz, h1, h2, rfl⟩, by omega⟩
end Go.Proofs.YtaoicebcdmpemaaGreat
namespace Go.Proofs.YtaoicebcdmpemaaGreat
namespace Rlp
inductive Raw where
 | mk (list : Bool) (bs : List UInt8) (xs : List Raw)
abbrev most : Nat := 16777216
def le (n : Nat) : List UInt8 := if h : n = 0 then [] else UInt8.ofNat n :: le (n / 256)
termination_by n
decreasing_by omega
def be (n : Nat) : List UInt8 := (le n).reverse
def val (l : List UInt8) : Nat := l.foldl (fun n b => n * 256 + b.toNat) 0
def head (n base : Nat) : List UInt8 := if n < 56 then [UInt8.ofNat (base + n)] else UInt8.ofNat (base + 55 + (be n).length) :: be n
def EB (bs : List UInt8) : List UInt8 := if bs.length = 1 ∧ bs.getD 0 0 < 128 then bs else head bs.length 128 ++ bs
mutual
def E : Raw → List UInt8
 | .mk false bs _ => EB bs
 | .mk true _ xs => head (EL xs).length 192 ++ EL xs
def EL : List Raw → List UInt8
 | [] => []
 | x :: xs => E x ++ EL xs
end
mutual
def cnt : Raw → Nat
 | .mk _ _ xs => 1 + Jy xs
def Jy : List Raw → Nat
 | [] => 0
 | x :: xs => cnt x + Jy xs
end
end Rlp
end Go.Proofs.YtaoicebcdmpemaaGreat
namespace Go.Proofs.YtaoicebcdmpemaaGreat
open Go.RowKit Mono
theorem Ba {w : World} {base e size n c : Nat} {A : Option Addr} {xs : List Value} (h : w.ownsRow base e size (.slice A n c) n xs) (hn : 0 < n) : ∃ g, A = some ⟨g, 0, none⟩ ∧ base ≤ g ∧ g < w.heap.size := by
 rcases h.2 with ⟨_, h0⟩ | ⟨g, cp, cur, hv, hb, hh, _⟩
 · omega
 ·
  injection hv with hA _ _
  refine ⟨g, hA, hb, ?_⟩
  rcases KP g w.heap.size with h1 | h1
  · exact h1
  · rw [Array.getElem?_eq_none h1] at hh; cases hh
def App (w : World) (base e size : Nat) (v : Value) (n : Nat) (xs : List Value) : Prop :=
 w.ownsRow base e size v n xs ∨ ∃ a, v = .slice (some a) n n ∧ xs.length = n * size ∧ Rd w w.heap.size (some a) xs
theorem App.form {w : World} {base e size n : Nat} {v : Value} {xs : List Value} (h : App w base e size v n xs) (hn : n ≤ maxLen) : ∃ A c, v = .slice A n c ∧ n ≤ c ∧ c ≤ maxLen := by
 rcases h with h | ⟨a, rfl, _, _⟩
 · exact eF h
 · exact ⟨_, _, rfl, Nat.le_refl _, hn⟩
theorem App.gr {w w' : World} {base e size n : Nat} {v : Value} {xs : List Value} (h : App w base e size v n xs) (hg : Gr w w') : App w' base e size v n xs := by
 rcases h with h | ⟨a, rfl, hl, hr⟩
 · exact .inl (GN h hg)
 · exact .inr ⟨a, rfl, hl, hr.gr hg⟩
theorem xI (w : World) (C : Array Value) (n c : Nat) : (convert 41 41 (.slice (some ⟨w.heap.size, 0, none⟩) n c)).run Tryz.prog (w.alloc (.cells C 5)) = .ok (.slice (some ⟨w.heap.size, 0, none⟩) n c) (w.alloc (.cells C 5 (C.size, C.size + 1))) :=
 Lib.run_convert_bytes_const w 41 5 C n c Tryz.underlying41 Tryz.underlying5
theorem yw (b : ByteArray) : ∀ (k i : Nat) (r : List UInt8), b.size - i = k → ByteArray.toList.loop b i r = r.reverse ++ b.data.toList.drop i
 | 0, i, r, h => by
  rw [ByteArray.toList.loop, if_neg (by omega), LJ (by simp; have : b.data.size = b.size := rfl; omega)]
  simp
 | k + 1, i, r, h => by
  have hi : i < b.data.toList.length := by simp; have : b.data.size = b.size := rfl; omega
  rw [ByteArray.toList.loop, if_pos (by omega), yw b k (i + 1) _ (by omega), KW hi]
  have : b.get! i = b.data.toList[i] := by
   simp at hi
   show b.data[i]! = _
   simp [hi]
  rw [this]
  simp
theorem toList_data (b : ByteArray) : b.toList = b.data.toList := by
 unfold ByteArray.toList
 rw [yw b b.size 0 [] (by omega)]
 simp
def bs (l : List UInt8) : ByteArray := ⟨l.toArray⟩
theorem lH (l : List UInt8) : (bs l).toList = l := by
 rw [toList_data]
 simp [bs]
theorem oQ {w : World} {v : Value} {l : List UInt8} (h : IsB w v l) : (convert 41 9 v).run Tryz.prog w = .ok (.string (bs l)) w := by
 obtain ⟨A, c, rfl, h1, h2, hr⟩ := h
 cases A with
 | none =>
  have : l = [] := by
   by_cases hl : bvs l = []
   · simpa [bvs] using hl
   ·
    obtain ⟨b, o, e, _⟩ := hr hl
    cases e
  subst this
  rw [run_convert_bytes_string w _ _ 5 none _ c Tryz.underlying41 Tryz.underlying5 Tryz.underlying9]
  rfl
 | some ad =>
  refine run_convert_bytes_back w _ _ 5 ad c l Tryz.underlying41 Tryz.underlying5 Tryz.underlying9 fun j hj => ?_
  obtain ⟨b, o, e, _, hc⟩ := hr (by intro e; have := aJ l; rw [e] at this; simp at this; omega)
  injection e with e
  subst e
  rw [bM]
  exact hc j _ (sJ l j hj)
namespace Mono
end Mono
theorem lt_of_some {w : World} {g : Nat} {o : Obj} (h : w.heap[g]? = some o) : g < w.heap.size := by
 rcases KP g w.heap.size with h1 | h1
 · exact h1
 · rw [Array.getElem?_eq_none h1] at h; cases h
theorem Fg (l : List UInt8) (k : Nat) (b : UInt8) : (bvs l).set k (bv b) = bvs (l.set k b) := by simp [bvs, List.map_set]
theorem gU (w : World) (g : Nat) (cs cs' : Array Value) (t : TypeId) (hg : w.heap[g]? = some (.cells cs t (0, 0))) : (w.setRow g cs').heap[g]? = some (.cells cs' t (0, 0)) := by
 simp [World.setRow, Array.getElem?_modify, hg]
theorem qA {w w' : World} (h : Gr w w') (g : Nat) (cs : Array Value) (hg : w.heap.size ≤ g) : Gr w (w'.setRow g cs) :=
 ⟨h.os, h.tape, h.output, by rw [size_setRow]; exact h.size, fun i hi => by
  rw [← h.block i hi]
  simp only [World.setRow]
  rw [LD, if_neg (by omega)]⟩
def bg (l : List UInt8) : Value := .agg (bvs l).toArray
def Arr (w : World) (g : Nat) (t : TypeId) (l : List UInt8) : Prop := w.heap[g]? = some (.cells (bvs l).toArray t (0, 0))
theorem Arr.lt {w : World} {g : Nat} {t : TypeId} {l : List UInt8} (h : Arr w g t l) : g < w.heap.size := lt_of_some h
theorem Arr.gr {w w' : World} {g : Nat} {t : TypeId} {l : List UInt8} (h : Arr w g t l) (hg : Gr w w') : Arr w' g t l := (hg.block g h.lt).trans h
def pW (w : World) (v : Value) (ms : List (List UInt8)) : Prop :=
 ∃ (A : Option Addr) (c : Nat) (vals : List Value), v = .slice A ms.length c ∧ ms.length ≤ c ∧ c ≤ maxLen ∧ vals.length = ms.length ∧ Rd w w.heap.size A vals ∧ ∀ (i : Nat) (x : Value) (m : List UInt8), vals[i]? = some x → ms[i]? = some m → IsB w x m
theorem pW.nil (w : World) : pW w (.slice none 0 0) [] := ⟨none, 0, [], rfl, Nat.le_refl _, by simp [maxLen], rfl, Rd.nil, fun i x m h => by simp at h⟩
theorem pW.gr {w w' : World} {v : Value} {ms : List (List UInt8)} (h : pW w v ms) (hg : Gr w w') : pW w' v ms := by
 obtain ⟨A, c, vals, rfl, h1, h2, h3, h4, h5⟩ := h
 exact ⟨A, c, vals, rfl, h1, h2, h3, h4.gr hg, fun i x m a b => (h5 i x m a b).gr hg⟩
theorem pW.at {w : World} {B : Nat} {A : Option Addr} {vals : List Value} {ms : List (List UInt8)} (hlen : vals.length = ms.length) (hrd : Rd w B A vals) (hel : ∀ (i : Nat) (x : Value) (m : List UInt8), vals[i]? = some x → ms[i]? = some m → IsB w x m) (k : Nat) (hk : k < ms.length) :
  ∃ b o x, A = some ⟨b, o, none⟩ ∧ b < B ∧ w.cell? ⟨b, o + k, none⟩ = some x ∧ IsB w x ms[k] := by
 have hk' : k < vals.length := by omega
 obtain ⟨b, o, e, hb, hc⟩ := hrd (fun e => by rw [e] at hk'; simp at hk')
 exact ⟨b, o, vals[k], e, hb, hc k _ (List.getElem?_eq_getElem hk'), hel k _ _ (List.getElem?_eq_getElem hk') (List.getElem?_eq_getElem hk)⟩
theorem Bz {w : World} {B : Nat} {A : Option Addr} {m : List UInt8} (h : Rd w B A (bvs m)) (k : Nat) (hk : k < m.length) : ∃ b o, A = some ⟨b, o, none⟩ ∧ b < B ∧ w.cell? ⟨b, o + k, none⟩ = some (.int .u8 (m[k].toNat : Int)) := by
 obtain ⟨b, o, e, hb, hc⟩ := h (fun e => by have := congrArg List.length e; rw [aJ] at this; simp at this; rw [this] at hk; simp at hk)
 exact ⟨b, o, e, hb, hc k _ (sJ m k hk)⟩
end Go.Proofs.YtaoicebcdmpemaaGreat
namespace Go.Proofs.YtaoicebcdmpemaaGreat
open Go.RowKit Mono Rlp
def RdP (ok : Nat → Prop) (w : World) (A : Option Addr) (xs : List Value) : Prop :=
 xs ≠ [] → ∃ b o, A = some ⟨b, o, none⟩ ∧ ok b ∧ ∀ j u, xs[j]? = some u → w.cell? ⟨b, o + j, none⟩ = some u
theorem RdP.mono {ok ok' : Nat → Prop} {w w' : World} {A : Option Addr} {xs : List Value} (h : RdP ok w A xs) (h1 : ∀ b, ok b → ok' b) (h2 : ∀ p : Addr, ok p.block → w'.cell? p = w.cell? p) : RdP ok' w' A xs := fun hn => by
 obtain ⟨b, o, e, hb, hc⟩ := h hn
 exact ⟨b, o, e, h1 b hb, fun j u hu => (h2 _ hb).trans (hc j u hu)⟩
def mM (ok : Nat → Prop) (w : World) (v : Value) (l : List UInt8) : Prop :=
 ∃ A c, v = .slice A l.length c ∧ l.length ≤ c ∧ c ≤ maxLen ∧ RdP ok w A (bvs l)
theorem mM.mono {ok ok' : Nat → Prop} {w w' : World} {v : Value} {l : List UInt8} (h : mM ok w v l) (h1 : ∀ b, ok b → ok' b) (h2 : ∀ p : Addr, ok p.block → w'.cell? p = w.cell? p) : mM ok' w' v l := by
 obtain ⟨A, c, h3, h4, h5, h6⟩ := h
 exact ⟨A, c, h3, h4, h5, h6.mono h1 h2⟩
theorem xg {w : World} {base : Nat} {v : Value} {l : List UInt8} (h : OwnB w base v l) : mM (fun k => base ≤ k ∧ k < w.heap.size) w v l := by
 obtain ⟨A, c, rfl, h1, h2⟩ := eF h
 refine ⟨A, c, rfl, h1, h2, fun hn => ?_⟩
 have hl : 0 < l.length := by
  rcases Nat.eq_zero_or_pos l.length with h0 | h0
  ·
   obtain rfl := MC h0
   exact absurd rfl hn
  · exact h0
 obtain ⟨g, rfl, hb, hg⟩ := Ba h hl
 exact ⟨g, 0, rfl, ⟨hb, hg⟩, fun j u hu => by
  have := World.ownsRow.cells h (g := g) rfl j u hu
  rwa [bM] at this⟩
theorem D9 {w : World} {base e size n c : Nat} {A : Option Addr} {xs : List Value} (h : w.ownsRow base e size (.slice A n c) n xs) : RdP (fun k => base ≤ k ∧ k < w.heap.size) w A xs := fun hn => by
 rcases h.2 with ⟨hv, hz⟩ | ⟨g, cap, cur, hv, hb, hh, _⟩
 ·
  have := h.1
  rw [hz, Nat.zero_mul] at this
  exact absurd (MC this) hn
 ·
  injection hv with hA _ _
  subst hA
  refine ⟨g, 0, rfl, ⟨hb, lt_of_some hh⟩, fun j u hu => ?_⟩
  have := World.ownsRow.cells h (g := g) rfl j u hu
  rwa [bM] at this
theorem Bc {w : World} {base e size n c : Nat} {xs : List Value} (h : w.ownsRow base e size (.slice none n c) n xs) : n = 0 ∧ c = 0 := by
 rcases h.2 with ⟨hv, hz⟩ | ⟨g, cap, cur, hv, _⟩
 ·
  injection hv with _ _ hc
  exact ⟨hz, hc⟩
 ·
  injection hv with hA _ _
  cases hA
end Go.Proofs.YtaoicebcdmpemaaGreat
namespace Go.Proofs.YtaoicebcdmpemaaGreat
set_option linter.unusedVariables false
open Go.RowKit Mono Rlp
namespace E
inductive D where
 | v (x : Value)
 | arr (n : Nat) (l : List UInt8)
 | bs (l : List UInt8)
 | sl (z : Nat) (ds : List D)
 | tup (ds : List D)
 | pd (d : D)
 | ifc (t : TypeId) (d : D)
mutual
def D.size : D → Nat
 | .arr n _ => n
 | .tup ds => D.sizes ds
 | _ => 1
def D.sizes : List D → Nat
 | [] => 0
 | d :: ds => d.size + D.sizes ds
end
def D.agg : D → Bool
 | .arr _ _ => true
 | .tup _ => true
 | _ => false
def form (d : D) (cs : List Value) : Value := if d.agg then .agg cs.toArray else cs.headD undef
mutual
def Reads (ok : Nat → Prop) (w : World) : D → List Value → Prop
 | .v x, cs => x.oneCell' = true ∧ cs = [x]
 | .arr n l, cs => l.length = n ∧ cs = bvs l
 | .bs l, cs => ∃ u, cs = [u] ∧ mM ok w u l
 | .sl z ds, cs => ∃ A c rows, cs = [.slice A ds.length c] ∧ ds.length ≤ c ∧ c ≤ maxLen ∧ (A = none → ds.length = 0 ∧ c = 0) ∧ RdP ok w A rows.flatten ∧ ah ok w z ds rows
 | .tup ds, cs => aK ok w ds cs
 | .pd d, cs => ∃ b o cs', cs = [.pointer (some ⟨b, o, none⟩)] ∧ ok b ∧ w.rangeAt b o cs' ∧ Reads ok w d cs'
 | .ifc t d, cs => ∃ cs', cs = [.iface t (form d cs')] ∧ Reads ok w d cs'
def aK (ok : Nat → Prop) (w : World) : List D → List Value → Prop
 | [], cs => cs = []
 | d :: ds, cs => ∃ c1 c2, cs = c1 ++ c2 ∧ Reads ok w d c1 ∧ aK ok w ds c2
def ah (ok : Nat → Prop) (w : World) (z : Nat) : List D → List (List Value) → Prop
 | [], rows => rows = []
 | d :: ds, rows => ∃ r rest, rows = r :: rest ∧ r.length = z ∧ Reads ok w d r ∧ ah ok w z ds rest
end
def aP (ok : Nat → Prop) (w : World) (d : D) (x : Value) : Prop := ∃ cs, Reads ok w d cs ∧ x = form d cs
def bC (ok : Nat → Prop) (w : World) : List D → List Value → Prop
 | [], xs => xs = []
 | d :: ds, xs => ∃ x rest, xs = x :: rest ∧ aP ok w d x ∧ bC ok w ds rest
inductive R where
 | val (d : D)
 | tpl (ds : List D)
 | any
def aC (ok : Nat → Prop) (w : World) : R → Value → Prop
 | .val d, x => aP ok w d x
 | .tpl ds, x => ∃ vs, x = .tuple vs.toArray ∧ bC ok w ds vs
 | .any, _ => True
section
variable {ok ok' : Nat → Prop} {w w' : World}
theorem wX {b o : Nat} {cs : List Value} (h2 : ∀ p : Addr, ok p.block → w'.cell? p = w.cell? p) (hb : ok b) (h : w.rangeAt b o cs) : w'.rangeAt b o cs := fun j v hv => (h2 ⟨b, o + j, none⟩ hb).trans (h j v hv)
mutual
theorem Reads.mono (h1 : ∀ b, ok b → ok' b) (h2 : ∀ p : Addr, ok p.block → w'.cell? p = w.cell? p) : ∀ (d : D) (cs : List Value), Reads ok w d cs → Reads ok' w' d cs
 | .v x, cs, h => by rw [Reads] at h ⊢; exact h
 | .arr n l, cs, h => by rw [Reads] at h ⊢; exact h
 | .bs l, cs, h => by
  rw [Reads] at h ⊢
  obtain ⟨u, h3, h4⟩ := h
  exact ⟨u, h3, h4.mono h1 h2⟩
 | .sl z ds, cs, h => by
  rw [Reads] at h ⊢
  obtain ⟨A, c, rows, g1, g2, g3, g4, g5, g6⟩ := h
  exact ⟨A, c, rows, g1, g2, g3, g4, g5.mono h1 h2, ah.mono h1 h2 z ds rows g6⟩
 | .tup ds, cs, h => by
  rw [Reads] at h ⊢
  exact aK.mono h1 h2 ds cs h
 | .pd d, cs, h => by
  rw [Reads] at h ⊢
  obtain ⟨b, o, cs', g1, g2, g3, g4⟩ := h
  exact ⟨b, o, cs', g1, h1 b g2, wX h2 g2 g3, Reads.mono h1 h2 d cs' g4⟩
 | .ifc t d, cs, h => by
  rw [Reads] at h ⊢
  obtain ⟨cs', g1, g2⟩ := h
  exact ⟨cs', g1, Reads.mono h1 h2 d cs' g2⟩
theorem aK.mono (h1 : ∀ b, ok b → ok' b) (h2 : ∀ p : Addr, ok p.block → w'.cell? p = w.cell? p) : ∀ (ds : List D) (cs : List Value), aK ok w ds cs → aK ok' w' ds cs
 | [], cs, h => by rw [aK] at h ⊢; exact h
 | d :: ds, cs, h => by
  rw [aK] at h ⊢
  obtain ⟨c1, c2, g1, g2, g3⟩ := h
  exact ⟨c1, c2, g1, Reads.mono h1 h2 d c1 g2, aK.mono h1 h2 ds c2 g3⟩
theorem ah.mono (h1 : ∀ b, ok b → ok' b) (h2 : ∀ p : Addr, ok p.block → w'.cell? p = w.cell? p) (z : Nat) : ∀ (ds : List D) (rows : List (List Value)), ah ok w z ds rows → ah ok' w' z ds rows
 | [], rows, h => by rw [ah] at h ⊢; exact h
 | d :: ds, rows, h => by
  rw [ah] at h ⊢
  obtain ⟨r, rest, g1, g2, g3, g4⟩ := h
  exact ⟨r, rest, g1, g2, Reads.mono h1 h2 d r g3, ah.mono h1 h2 z ds rest g4⟩
end
mutual
theorem Reads.len : ∀ (d : D) (cs : List Value), Reads ok w d cs → cs.length = d.size
 | .v x, cs, h => by rw [Reads] at h; rw [h.2]; rfl
 | .arr n l, cs, h => by rw [Reads] at h; rw [h.2, aJ, h.1]; rfl
 | .bs l, cs, h => by rw [Reads] at h; obtain ⟨u, rfl, _⟩ := h; rfl
 | .sl z ds, cs, h => by rw [Reads] at h; obtain ⟨A, c, rows, rfl, _⟩ := h; rfl
 | .tup ds, cs, h => by rw [Reads] at h; exact aK.len ds cs h
 | .pd d, cs, h => by rw [Reads] at h; obtain ⟨b, o, cs', rfl, _⟩ := h; rfl
 | .ifc t d, cs, h => by rw [Reads] at h; obtain ⟨cs', rfl, _⟩ := h; rfl
theorem aK.len : ∀ (ds : List D) (cs : List Value), aK ok w ds cs → cs.length = D.sizes ds
 | [], cs, h => by rw [aK] at h; rw [h]; rfl
 | d :: ds, cs, h => by
  rw [aK] at h
  obtain ⟨c1, c2, rfl, g2, g3⟩ := h
  rw [List.length_append, Reads.len d c1 g2, aK.len ds c2 g3]
  rfl
end
mutual
theorem Reads.one : ∀ (d : D) (cs : List Value), Reads ok w d cs → ∀ u ∈ cs, u.oneCell' = true
 | .v x, cs, h, u, hu => by
  rw [Reads] at h
  rw [h.2] at hu
  obtain rfl : u = x := by simpa using hu
  exact h.1
 | .arr n l, cs, h, u, hu => by rw [Reads] at h; rw [h.2] at hu; exact iH l u hu
 | .bs l, cs, h, u, hu => by
  rw [Reads] at h
  obtain ⟨x, rfl, A, c, rfl, _⟩ := h
  obtain rfl : u = _ := by simpa using hu
  rfl
 | .sl z ds, cs, h, u, hu => by
  rw [Reads] at h
  obtain ⟨A, c, rows, rfl, _⟩ := h
  obtain rfl : u = _ := by simpa using hu
  rfl
 | .tup ds, cs, h, u, hu => by rw [Reads] at h; exact aK.one ds cs h u hu
 | .pd d, cs, h, u, hu => by
  rw [Reads] at h
  obtain ⟨b, o, cs', rfl, _⟩ := h
  obtain rfl : u = _ := by simpa using hu
  rfl
 | .ifc t d, cs, h, u, hu => by
  rw [Reads] at h
  obtain ⟨cs', rfl, _⟩ := h
  obtain rfl : u = _ := by simpa using hu
  rfl
theorem aK.one : ∀ (ds : List D) (cs : List Value), aK ok w ds cs → ∀ u ∈ cs, u.oneCell' = true
 | [], cs, h, u, hu => by rw [aK] at h; rw [h] at hu; cases hu
 | d :: ds, cs, h, u, hu => by
  rw [aK] at h
  obtain ⟨c1, c2, rfl, g2, g3⟩ := h
  rcases Lh.1 hu with hu | hu
  · exact Reads.one d c1 g2 u hu
  · exact aK.one ds c2 g3 u hu
end
theorem fH {d : D} {cs : List Value} (h : Reads ok w d cs) : (form d cs).cells = cs.toArray := by
 unfold form
 cases hd : d.agg with
 | true => rfl
 | false =>
  have h1 : cs.length = 1 := by
   have := Reads.len d cs h
   cases d <;> simp [D.agg] at hd <;> simpa [D.size] using this
  obtain ⟨c, rfl⟩ := List.length_eq_one_iff.1 h1
  have := Reads.one d _ h c (by simp)
  simp only [LP, if_false, List.headD_cons]
  cases c <;> simp [Value.oneCell'] at this <;> rfl
theorem aP.mono (h1 : ∀ b, ok b → ok' b) (h2 : ∀ p : Addr, ok p.block → w'.cell? p = w.cell? p) {d : D} {x : Value} (h : aP ok w d x) : aP ok' w' d x := by
 obtain ⟨cs, h3, h4⟩ := h
 exact ⟨cs, Reads.mono h1 h2 d cs h3, h4⟩
theorem bC.mono (h1 : ∀ b, ok b → ok' b) (h2 : ∀ p : Addr, ok p.block → w'.cell? p = w.cell? p) : ∀ (ds : List D) (xs : List Value), bC ok w ds xs → bC ok' w' ds xs
 | [], xs, h => h
 | d :: ds, xs, h => by
  obtain ⟨x, rest, g1, g2, g3⟩ := h
  exact ⟨x, rest, g1, g2.mono h1 h2, bC.mono h1 h2 ds rest g3⟩
theorem aC.mono (h1 : ∀ b, ok b → ok' b) (h2 : ∀ p : Addr, ok p.block → w'.cell? p = w.cell? p) {r : R} {x : Value} (h : aC ok w r x) : aC ok' w' r x := by
 cases r with
 | val d => exact aP.mono h1 h2 h
 | tpl ds =>
  obtain ⟨vs, g1, g2⟩ := h
  exact ⟨vs, g1, bC.mono h1 h2 ds vs g2⟩
 | any => trivial
theorem ay {x y : Value} : aP ok w (.v x) y ↔ x.oneCell' = true ∧ y = x := by
 constructor
 ·
  rintro ⟨cs, h, rfl⟩
  rw [Reads] at h
  rw [h.2]
  exact ⟨h.1, rfl⟩
 ·
  rintro ⟨h, rfl⟩
  exact ⟨[y], by rw [Reads]; exact ⟨h, rfl⟩, rfl⟩
theorem aI {d : D} (hd : d.agg = false) {x : Value} : aP ok w d x ↔ Reads ok w d [x] := by
 have hf : ∀ cs, form d cs = cs.headD undef := fun cs => by unfold form; rw [hd]; rfl
 constructor
 ·
  rintro ⟨cs, h, rfl⟩
  have h1 : cs.length = 1 := by
   have := Reads.len d cs h
   cases d <;> simp [D.agg] at hd <;> simpa [D.size] using this
  obtain ⟨c, rfl⟩ := List.length_eq_one_iff.1 h1
  rw [hf]
  exact h
 ·
  intro h
  exact ⟨[x], h, by rw [hf]; rfl⟩
theorem jB {d : D} (hd : d.agg = true) {x : Value} : aP ok w d x ↔ ∃ cs, Reads ok w d cs ∧ x = .agg cs.toArray := by
 have hf : ∀ cs, form d cs = .agg cs.toArray := fun cs => by unfold form; rw [hd]; rfl
 constructor
 ·
  rintro ⟨cs, h, rfl⟩
  exact ⟨cs, h, hf cs⟩
 ·
  rintro ⟨cs, h, rfl⟩
  exact ⟨cs, h, (hf cs).symm⟩
theorem ah.get {z : Nat} : ∀ (ds : List D) (rows : List (List Value)), ah ok w z ds rows → ∀ k (hk : k < ds.length), ∃ r, rows[k]? = some r ∧ r.length = z ∧ Reads ok w ds[k] r
 | [], rows, _, k, hk => absurd hk (by simp)
 | d :: ds, rows, h, k, hk => by
  rw [ah] at h
  obtain ⟨r, rest, rfl, g2, g3, g4⟩ := h
  cases k with
  | zero => exact ⟨r, rfl, g2, g3⟩
  | succ k => exact ah.get ds rest g4 k (by simpa using hk)
theorem ah.lens {z : Nat} : ∀ (ds : List D) (rows : List (List Value)), ah ok w z ds rows → rows.length = ds.length ∧ ∀ r ∈ rows, r.length = z
 | [], rows, h => by rw [ah] at h; subst h; simp
 | d :: ds, rows, h => by
  rw [ah] at h
  obtain ⟨r, rest, rfl, g2, g3, g4⟩ := h
  obtain ⟨h1, h2⟩ := ah.lens ds rest g4
  exact ⟨by simp [h1], fun x hx => by
   rcases Kz.1 hx with rfl | hx
   · exact g2
   · exact h2 x hx⟩
theorem ah.append {z : Nat} : ∀ (ds es : List D) (rows more : List (List Value)), ah ok w z ds rows → ah ok w z es more → ah ok w z (ds ++ es) (rows ++ more)
 | [], es, rows, more, h, h' => by rw [ah] at h; subst h; exact h'
 | d :: ds, es, rows, more, h, h' => by
  rw [ah] at h
  obtain ⟨r, rest, rfl, g2, g3, g4⟩ := h
  rw [Ko, Ko, ah]
  exact ⟨r, _, rfl, g2, g3, ah.append ds es rest more g4 h'⟩
theorem ah.one {z : Nat} : ∀ (ds : List D) (rows : List (List Value)), ah ok w z ds rows → ∀ u ∈ rows.flatten, u.oneCell' = true
 | [], rows, h, u, hu => by rw [ah] at h; subst h; simp at hu
 | d :: ds, rows, h, u, hu => by
  rw [ah] at h
  obtain ⟨r, rest, rfl, g2, g3, g4⟩ := h
  rw [KG] at hu
  rcases Lh.1 hu with hu | hu
  · exact Reads.one d r g3 u hu
  · exact ah.one ds rest g4 u hu
theorem ah.drop {z : Nat} : ∀ (ds : List D) (rows : List (List Value)) (k : Nat), ah ok w z ds rows → ah ok w z (ds.drop k) (rows.drop k)
 | ds, rows, 0, h => by simpa using h
 | [], rows, k + 1, h => by rw [ah] at h; subst h; simp [ah]
 | d :: ds, rows, k + 1, h => by
  rw [ah] at h
  obtain ⟨r, rest, rfl, g2, g3, g4⟩ := h
  simpa using ah.drop ds rest k g4
theorem ah.take {z : Nat} : ∀ (ds : List D) (rows : List (List Value)) (k : Nat), ah ok w z ds rows → ah ok w z (ds.take k) (rows.take k)
 | ds, rows, 0, h => by simp [ah]
 | [], rows, k + 1, h => by rw [ah] at h; subst h; simp [ah]
 | d :: ds, rows, k + 1, h => by
  rw [ah] at h
  obtain ⟨r, rest, rfl, g2, g3, g4⟩ := h
  rw [J5, J5, ah]
  exact ⟨r, _, rfl, g2, g3, ah.take ds rest k g4⟩
end
mutual
def D.sub : D → Nat → Nat → Bool → Option D
 | .tup ds, off, sz, ag => if off = 0 ∧ D.sizes ds = sz ∧ ag = true then some (.tup ds) else D.Aw ds off sz ag
 | .arr n l, off, sz, ag => if off = 0 ∧ n = sz ∧ ag = true then some (.arr n l) else none
 | d, off, sz, ag => if off = 0 ∧ 1 = sz ∧ ag = false then some d else none
def D.Aw : List D → Nat → Nat → Bool → Option D
 | [], _, _, _ => none
 | d :: ds, off, sz, ag => if off < d.size then d.sub off sz ag else D.Aw ds (off - d.size) sz ag
end
mutual
def D.upd : D → Nat → D → Option D
 | .tup ds, off, new => if off = 0 ∧ D.sizes ds = new.size ∧ new.agg = true then some new else (D.vS ds off new).map .tup
 | .arr n l, off, new => if off = 0 ∧ n = new.size ∧ new.agg = true then some new else none
 | d, off, new => if off = 0 ∧ 1 = new.size ∧ new.agg = false then some new else none
def D.vS : List D → Nat → D → Option (List D)
 | [], _, _ => none
 | d :: ds, off, new => if off < d.size then (d.upd off new).map (· :: ds) else (D.vS ds (off - d.size) new).map (d :: ·)
end
section
variable {ok : Nat → Prop} {w : World}
theorem iT {d d' : D} {off sz : Nat} {ag : Bool} (h : (if off = 0 ∧ 1 = sz ∧ ag = false then some d else none) = some d') (hd : d.agg = false) (hs : d.size = 1) {cs : List Value} (hr : Reads ok w d cs) :
  d'.size = sz ∧ d'.agg = ag ∧ ∃ pre mid post, cs = pre ++ mid ++ post ∧ pre.length = off ∧ Reads ok w d' mid := by
 split at h
 ·
  rename_i hc
  cases h
  exact ⟨by rw [hs]; exact hc.2.1, by rw [hd, hc.2.2], [], cs, [], by simp, hc.1.symm, hr⟩
 · cases h
mutual
theorem gB : ∀ (d : D) (off sz : Nat) (ag : Bool) (d' : D) (cs : List Value), d.sub off sz ag = some d' → Reads ok w d cs → d'.size = sz ∧ d'.agg = ag ∧ ∃ pre mid post, cs = pre ++ mid ++ post ∧ pre.length = off ∧ Reads ok w d' mid
 | .tup ds, off, sz, ag, d', cs, h, hr => by
  rw [D.sub] at h
  split at h
  ·
   rename_i hc
   cases h
   exact ⟨hc.2.1, hc.2.2.symm, [], cs, [], by simp, hc.1.symm, hr⟩
  ·
   rw [Reads] at hr
   exact qg ds off sz ag d' cs h hr
 | .arr n l, off, sz, ag, d', cs, h, hr => by
  rw [D.sub] at h
  split at h
  ·
   rename_i hc
   cases h
   exact ⟨hc.2.1, hc.2.2.symm, [], cs, [], by simp, hc.1.symm, hr⟩
  · cases h
 | .v x, off, sz, ag, d', cs, h, hr => iT (by simpa only [D.sub] using h) rfl rfl hr
 | .bs l, off, sz, ag, d', cs, h, hr => iT (by simpa only [D.sub] using h) rfl rfl hr
 | .sl z ds, off, sz, ag, d', cs, h, hr => iT (by simpa only [D.sub] using h) rfl rfl hr
 | .pd d, off, sz, ag, d', cs, h, hr => iT (by simpa only [D.sub] using h) rfl rfl hr
 | .ifc t d, off, sz, ag, d', cs, h, hr => iT (by simpa only [D.sub] using h) rfl rfl hr
theorem qg : ∀ (ds : List D) (off sz : Nat) (ag : Bool) (d' : D) (cs : List Value), D.Aw ds off sz ag = some d' → aK ok w ds cs → d'.size = sz ∧ d'.agg = ag ∧ ∃ pre mid post, cs = pre ++ mid ++ post ∧ pre.length = off ∧ Reads ok w d' mid
 | [], off, sz, ag, d', cs, h, hr => by rw [D.Aw] at h; cases h
 | d :: ds, off, sz, ag, d', cs, h, hr => by
  rw [D.Aw] at h
  rw [aK] at hr
  obtain ⟨c1, c2, rfl, g2, g3⟩ := hr
  have hl := Reads.len d c1 g2
  split at h
  ·
   obtain ⟨e1, e2, pre, mid, post, rfl, h2, h3⟩ := gB d off sz ag d' c1 h g2
   exact ⟨e1, e2, pre, mid, post ++ c2, by simp, h2, h3⟩
  ·
   obtain ⟨e1, e2, pre, mid, post, rfl, h2, h3⟩ := qg ds _ sz ag d' c2 h g3
   exact ⟨e1, e2, c1 ++ pre, mid, post, by simp, by rw [List.length_append]; omega, h3⟩
end
theorem iR {d new d'' : D} {off : Nat} (h : (if off = 0 ∧ 1 = new.size ∧ new.agg = false then some new else none) = some d'') (hd : d.agg = false) (hs : d.size = 1) {cs mid' : List Value} (hr : Reads ok w d cs) (hn : Reads ok w new mid') :
  d''.size = d.size ∧ d''.agg = d.agg ∧ ∃ pre mid post, cs = pre ++ mid ++ post ∧ pre.length = off ∧ mid.length = mid'.length ∧ Reads ok w d'' (pre ++ mid' ++ post) := by
 split at h
 ·
  rename_i hc
  cases h
  exact ⟨by rw [hs, ← hc.2.1], by rw [hd, hc.2.2], [], cs, [], by simp, hc.1.symm, by rw [Reads.len _ _ hr, Reads.len _ _ hn, hs, hc.2.1], by simpa using hn⟩
 · cases h
mutual
theorem iQ : ∀ (d : D) (off : Nat) (new d'' : D) (cs mid' : List Value), d.upd off new = some d'' → Reads ok w d cs → Reads ok w new mid' →
  d''.size = d.size ∧ d''.agg = d.agg ∧ ∃ pre mid post, cs = pre ++ mid ++ post ∧ pre.length = off ∧ mid.length = mid'.length ∧ Reads ok w d'' (pre ++ mid' ++ post)
 | .tup ds, off, new, d'', cs, mid', h, hr, hn => by
  rw [D.upd] at h
  split at h
  ·
   rename_i hc
   cases h
   have hl := Reads.len _ _ hr
   refine ⟨hc.2.1.symm, hc.2.2, [], cs, [], by simp, hc.1.symm, ?_, by simpa using hn⟩
   rw [hl, Reads.len _ _ hn]
   exact hc.2.1
  ·
   rw [Reads] at hr
   cases hu : D.vS ds off new with
   | none => rw [hu] at h; cases h
   | some ds' =>
    rw [hu] at h
    cases h
    obtain ⟨e1, pre, mid, post, h1, h2, h3, h4⟩ := pY ds off new ds' cs mid' hu hr hn
    exact ⟨e1, rfl, pre, mid, post, h1, h2, h3, by rw [Reads]; exact h4⟩
 | .arr n l, off, new, d'', cs, mid', h, hr, hn => by
  rw [D.upd] at h
  split at h
  ·
   rename_i hc
   cases h
   refine ⟨hc.2.1.symm, hc.2.2, [], cs, [], by simp, hc.1.symm, ?_, by simpa using hn⟩
   rw [Reads.len _ _ hr, Reads.len _ _ hn]
   exact hc.2.1
  · cases h
 | .v x, off, new, d'', cs, mid', h, hr, hn => iR (by simpa only [D.upd] using h) rfl rfl hr hn
 | .bs l, off, new, d'', cs, mid', h, hr, hn => iR (by simpa only [D.upd] using h) rfl rfl hr hn
 | .sl z ds, off, new, d'', cs, mid', h, hr, hn => iR (by simpa only [D.upd] using h) rfl rfl hr hn
 | .pd d, off, new, d'', cs, mid', h, hr, hn => iR (by simpa only [D.upd] using h) rfl rfl hr hn
 | .ifc t d, off, new, d'', cs, mid', h, hr, hn => iR (by simpa only [D.upd] using h) rfl rfl hr hn
theorem pY : ∀ (ds : List D) (off : Nat) (new : D) (ds' : List D) (cs mid' : List Value), D.vS ds off new = some ds' → aK ok w ds cs → Reads ok w new mid' →
  D.sizes ds' = D.sizes ds ∧ ∃ pre mid post, cs = pre ++ mid ++ post ∧ pre.length = off ∧ mid.length = mid'.length ∧ aK ok w ds' (pre ++ mid' ++ post)
 | [], off, new, ds', cs, mid', h, hr, hn => by rw [D.vS] at h; cases h
 | d :: ds, off, new, ds', cs, mid', h, hr, hn => by
  rw [D.vS] at h
  rw [aK] at hr
  obtain ⟨c1, c2, rfl, g2, g3⟩ := hr
  have hl := Reads.len d c1 g2
  split at h
  ·
   cases hu : d.upd off new with
   | none => rw [hu] at h; cases h
   | some e =>
    rw [hu] at h
    cases h
    obtain ⟨e1, e2, pre, mid, post, rfl, h2, h3, h4⟩ := iQ d off new e c1 mid' hu g2 hn
    refine ⟨by rw [D.sizes, D.sizes, e1], pre, mid, post ++ c2, by simp, h2, h3, ?_⟩
    rw [aK]
    exact ⟨_, c2, by simp, h4, g3⟩
  ·
   cases hu : D.vS ds (off - d.size) new with
   | none => rw [hu] at h; cases h
   | some es =>
    rw [hu] at h
    cases h
    obtain ⟨e1, pre, mid, post, rfl, h2, h3, h4⟩ := pY ds (off - d.size) new es c2 mid' hu g3 hn
    refine ⟨by rw [D.sizes, D.sizes, e1], c1 ++ pre, mid, post, by simp, by rw [List.length_append]; omega, h3, ?_⟩
    rw [aK]
    exact ⟨c1, _, by simp, g2, h4⟩
end
end
end E
end Go.Proofs.YtaoicebcdmpemaaGreat
