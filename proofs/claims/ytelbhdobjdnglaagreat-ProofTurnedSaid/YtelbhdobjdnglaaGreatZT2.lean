/-
 Merged: lemmas of this claim.
 Conditions: none.
-/
import Derived.Test.YtelbhdobjdnglaaGreatZT1
import Derived.WalkKit
import Derived.WalkSpells
import Derived.WalkLawsBesides
import Derived.Maps.AppendAt
import Derived.Laws.BytesString
import Derived.Laws.IdiomStrings
import Derived.Lib.Hide
import Derived.Test.YtelbhdobjdnglaaGreatRows
import Derived.ArgAppend
import Derived.Lib.SlBytesConst
import Derived.OwnWalk
import Derived.Laws.Rows
import Derived.Laws.Tables
import Derived.Deep.WholeRow
import Derived.Stop.BytesEq
import Derived.Deep.LoopGhost
import Derived.Deep.MidRow
import Derived.Test.YtelbhdobjdnglaaGreatZT0
namespace Go.Proofs.YtelbhdobjdnglaaGreat
open Go.RowKit Mono
def Rd (w : World) (B : Nat) (A : Option Addr) (xs : List Value) : Prop :=
 xs ≠ [] → ∃ b o, A = some ⟨b, o, none⟩ ∧ b < B ∧ ∀ j u, xs[j]? = some u → w.cell? ⟨b, o + j, none⟩ = some u
theorem eu (b o m : Nat) : (⟨b, o, none⟩ : Addr).add m = ⟨b, o + m, none⟩ := by
 unfold Addr.add
 split
 · subst_vars; rfl
 · rfl
section
variable {w w' : World} {B B' : Nat} {A : Option Addr} {xs : List Value}
theorem Rd.nil : Rd w B A [] := fun h => absurd rfl h
theorem Rd.keep (h : Rd w B A xs) (hk : ∀ p : Addr, p.block < B → w'.cell? p = w.cell? p) : Rd w' B A xs := fun hn => by
 obtain ⟨b, o, e, hb, hc⟩ := h hn
 exact ⟨b, o, e, hb, fun j u hu => (hk _ hb).trans (hc j u hu)⟩
theorem Rd.more (h : Rd w B A xs) (hB : B ≤ B') : Rd w B' A xs := fun hn => by
 obtain ⟨b, o, e, hb, hc⟩ := h hn
 exact ⟨b, o, e, by omega, hc⟩
theorem Rd.below (h : Rd w B A xs) (hb : Below B w w') : Rd w' B A xs := h.keep fun _ hp => hb.cell hp
theorem Rd.gr (h : Rd w w.heap.size A xs) (hb : Gr w w') : Rd w' w'.heap.size A xs := (h.below hb).more hb.size
theorem Rd.take (h : Rd w B A xs) (m : Nat) : Rd w B A (xs.take m) := fun hn => by
 obtain ⟨b, o, e, hb, hc⟩ := h (fun e => hn (by rw [e]; simp))
 refine ⟨b, o, e, hb, fun j u hu => hc j u ?_⟩
 rw [Y7] at hu
 split at hu
 · exact hu
 · cases hu
theorem Rd.cut (h : Rd w B A xs) {k n cap size : Nat} (hn : xs.length = n * size) (hc : n ≤ cap) :
  Rd w B (if cap = k then A else A.map (·.add (k * size))) (xs.drop (k * size)) := fun hne => by
 have hlt : k * size < xs.length := by
  rcases XY (k * size) xs.length with h1 | h1
  · exact h1
  · exact absurd (XP h1) hne
 have hk : k < n := by
  rcases XY k n with h1 | h1
  · exact h1
  ·
   have := ZA size h1
   omega
 obtain ⟨b, o, rfl, hb, hcell⟩ := h (fun e => by rw [e] at hlt; simp at hlt)
 rw [if_neg (by omega)]
 refine ⟨b, o + k * size, by simp [eu], hb, fun j u hu => ?_⟩
 rw [Nat.add_assoc]
 exact hcell _ u (by rw [← hu, Zm])
theorem Rd.O7 {base : Nat} {e : TypeId} {size n c : Nat} (h : w.ownsRow base e size (.slice A n c) n xs) : Rd w w.heap.size A xs := fun hn => by
 rcases h.2 with ⟨hv, hz⟩ | ⟨g, cap, cur, hv, _, hh, _, _, _, ht⟩
 ·
  subst hz
  have := h.1
  rw [Nat.zero_mul] at this
  exact absurd (X5 this) hn
 ·
  injection hv with hA _ _
  subst hA
  have hg : g < w.heap.size := by
   rcases XY g w.heap.size with h1 | h1
   · exact h1
   · rw [Array.getElem?_eq_none h1] at hh; cases hh
  refine ⟨g, 0, rfl, hg, fun j u hu => ?_⟩
  have := h.cells (g := g) rfl j u hu
  rwa [eu] at this
theorem Rd.new (w : World) (cs : Array Value) (e : TypeId) : Rd (w.alloc (.cells cs e)) (w.heap.size + 1) (some ⟨w.heap.size, 0, none⟩) cs.toList := fun _ =>
 ⟨w.heap.size, 0, rfl, by omega, fun j u hu => by
  rw [cell_of_row _ _ _ cs e (0, 0) (heap_alloc_new w _)]
  simpa using hu⟩
end
theorem below_drewN {B : Nat} {a w : World} (h : Below B a w) (n : Nat) : Below B a (w.drewN n) := ⟨h.os, h.tape, h.output, h.size, h.block⟩
attribute [go_sem] After
theorem aZ {w : World} {p : Addr} {v : Value} (hp : p.block < w.heap.size) (h : w.cell? p = some v) (x : Later w) : x.1.cell? p = some v := (x.2.cell hp).trans h
structure SlT (P : Program) (t e : TypeId) (size bytes : Nat) : Prop where
 und : P.underlying t = some (.slice e)
 info : ∃ i z, P.info? e = some i ∧ i.zero = some z ∧ i.size = size ∧ i.bytes = bytes ∧ z.cells.size = size
 pos : 0 < size
theorem cZ {w : World} {base : Nat} {e : TypeId} {size : Nat} {v : Value} {n : Nat} {xs : List Value} (h : w.ownsRow base e size v n xs) :
  ∃ A c, v = .slice A n c ∧ n ≤ c ∧ c ≤ maxLen := by
 rcases h.2 with ⟨rfl, rfl⟩ | ⟨g, cap, cur, rfl, _, _, h1, h2, _, _⟩
 · exact ⟨none, 0, rfl, Nat.le_refl _, by simp [maxLen]⟩
 · exact ⟨_, cap, rfl, h1, h2⟩
theorem own_base {w : World} {base base' : Nat} {e : TypeId} {size : Nat} {v : Value} {n : Nat} {xs : List Value} (h : w.ownsRow base e size v n xs) (hb : base' ≤ base) : w.ownsRow base' e size v n xs := by
 refine ⟨h.1, ?_⟩
 rcases h.2 with h | ⟨g, cap, cur, h1, h2, h3⟩
 · exact .inl h
 · exact .inr ⟨g, cap, cur, h1, Yi hb h2, h3⟩
theorem nH {w w' : World} {base : Nat} {e : TypeId} {size : Nat} {v : Value} {n : Nat} {xs : List Value} (h : w.ownsRow base e size v n xs) (hg : Gr w w') : w'.ownsRow base e size v n xs := by
 refine ⟨h.1, ?_⟩
 rcases h.2 with h | ⟨g, cap, cur, h1, h2, h3, h4⟩
 · exact .inl h
 ·
  refine .inr ⟨g, cap, cur, h1, h2, ?_, h4⟩
  rw [hg.block g (by
   rcases XY g w.heap.size with h5 | h5
   · exact h5
   · rw [Array.getElem?_eq_none h5] at h3; cases h3)]
  exact h3
theorem bI {w : World} {base : Nat} {e : TypeId} {size : Nat} {v : Value} {n : Nat} {xs : List Value} (h : w.ownsRow base e size v n xs) (k : Nat) (hk : v.ownBlock = some k) : base ≤ k := (h.lt k hk).1
section
variable {P : Program} {w : World}
theorem run_append_nil {base t ty e size bytes : Nat} (T : SlT P t e size bytes) {v : Value} {n : Nat} {xs : List Value} (hown : w.ownsRow base e size v n xs) (c : Nat) :
  (Builtin.append_ #[t, t] ty #[v, .slice none 0 c]).run P w = .ok v w := by
 obtain ⟨i, z, hi, _, hsize, _, _⟩ := T.info
 rcases hown.2 with ⟨rfl, rfl⟩ | ⟨g, cap, cur, rfl, _, _, hnc, _⟩
 · simp [Builtin.append_, run_underlying T.und, sizeOf, typeInfo, hi, Builtin.lenOf, Builtin.firstCells]
 · simp [Builtin.append_, run_underlying T.und, sizeOf, typeInfo, hi, Builtin.lenOf, Builtin.firstCells, hnc, storeCells]
theorem jL {base t ty e size bytes : Nat} (T : SlT P t e size bytes) {v : Value} {n : Nat} {xs : List Value} (hown : w.ownsRow base e size v n xs)
  {A : Option Addr} {m c B : Nat} {news : List Value} (hl : news.length = m * size) (hr : Rd w B A news) (h1 : ∀ u ∈ news, u.oneCell' = true)
  (h63 : n + m ≤ maxLen) (hbytes : (n + m) * bytes ≤ 140737488355328) (hbase : base ≤ w.heap.size) :
  ∃ A' c' w', (Builtin.append_ #[t, t] ty #[v, .slice A m c]).run P w = .ok (.slice A' (n + m) c') w' ∧ w'.ownsRow base e size (.slice A' (n + m) c') (n + m) (xs ++ news) ∧ w.grownBy w' v.ownBlock ∧
   ((Value.slice A' (n + m) c').ownBlock = v.ownBlock ∨ (Value.slice A' (n + m) c').ownBlock = some w.heap.size) := by
 have hnil : A = none → m = 0 ∧ news = [] := fun h => by
  by_cases hn : news = []
  ·
   subst hn
   have : m * size = 0 := by simpa using hl.symm
   rcases Nat.mul_eq_zero.1 this with h0 | h0
   · exact ⟨h0, rfl⟩
   · have := T.pos; omega
  ·
   obtain ⟨b, o, e, _⟩ := hr hn
   rw [h] at e; cases e
 cases A with
 | none =>
  obtain ⟨rfl, rfl⟩ := hnil rfl
  obtain ⟨A', c', rfl, _, _⟩ := cZ hown
  refine ⟨A', c', w, run_append_nil T hown c, by simpa using hown, World.grownBy.refl w _, .inl rfl⟩
 | some ad =>
  have hcells : ∀ j u, news[j]? = some u → w.cell? (ad.add j) = some u := fun j u hu => by
   obtain ⟨b, o, e, _, hc⟩ := hr (fun e => by rw [e] at hu; simp at hu)
   injection e with e
   subst e
   rw [eu]
   exact hc j u hu
  obtain ⟨i, z, hi, hz, hsize, hby, hzs⟩ := T.info
  obtain ⟨v', w', hrun, h2, h3, _, h5⟩ := run_append_own_at (P := P) w base t ty e i z size bytes T.und hi hz hsize hby hzs T.pos v n xs hown ad m c news hl hcells h1 h63 hbytes hbase
  obtain ⟨A', c', rfl, _, _⟩ := cZ h2
  exact ⟨A', c', w', hrun, h2, h3, h5⟩
theorem aV {ops : Array Oper} {rest : List Oper} {o : Oper} {a : Act} {Q : Exit → Act → World → Prop} (s x : Operand) (t : TypeId)
  {base e size bytes : Nat} (T : SlT P t e size bytes) (v : Value) (n : Nat) (xs : List Value) (A : Option Addr) (m c B : Nat) (news : List Value)
  (hgd : o.guard = none) (ho : o.op = .call { callee := .builtin .append, args := #[s, x], argTypes := #[t, t] }) (hs : a.eval s = v) (hx : a.eval x = .slice A m c)
  (hown : w.ownsRow base e size v n xs) (hr : Rd w B A news) (hl : news.length = m * size) (h1 : ∀ u ∈ news, u.oneCell' = true)
  (h63 : n + m ≤ maxLen) (hbytes : (n + m) * bytes ≤ 140737488355328) (hbase : base ≤ w.heap.size)
  (h : ∀ A' c' w', w'.ownsRow base e size (.slice A' (n + m) c') (n + m) (xs ++ news) → w.grownBy w' v.ownBlock →
   ((Value.slice A' (n + m) c').ownBlock = v.ownBlock ∨ (Value.slice A' (n + m) c').ownBlock = some w.heap.size) → wpList P ops Q rest (a.put o.dst (.slice A' (n + m) c')) w') : wpList P ops Q (o :: rest) a w := by
 refine wpList_plain hgd fun _ hK => ?_
 obtain ⟨A', c', w', hrun, h2, h3, h4⟩ := jL (P := P) (ty := o.type) T hown hl hr h1 h63 hbytes hbase (c := c)
 unfold Oper.wp execOp
 simp only [ho, resolve, invoke, builtin, XO, XR, XF, YW, X0, Yw, hs, hx, hrun]
 exact hK _ _ (h A' c' w' h2 h3 h4)
end
theorem iI (w : World) (cs : Array Value) (e : TypeId) (size n g base : Nat) (hg : w.heap.size = g) (hb : base ≤ w.heap.size) (hm : n ≤ maxLen) (hs : cs.size = n * size) :
  (w.alloc (.cells cs e)).ownsRow base e size (.slice (some ⟨g, 0, none⟩) n n) n cs.toList := by
 subst hg
 exact World.ownsRow_lit w cs n hb hm hs
def bv (b : UInt8) : Value := .int .u8 b.toNat
def bvs (l : List UInt8) : List Value := l.map bv
theorem bG (l : List UInt8) : (bvs l).length = l.length := by simp [bvs]
theorem gZ (l m : List UInt8) : bvs (l ++ m) = bvs l ++ bvs m := by simp [bvs]
theorem GH (l : List UInt8) (k : Nat) : bvs (l.take k) = (bvs l).take k := by simp [bvs, List.map_take]
theorem Qs (l : List UInt8) (k : Nat) : bvs (l.drop k) = (bvs l).drop k := by simp [bvs, List.map_drop]
theorem dR (l : List UInt8) : ∀ u ∈ bvs l, u.oneCell' = true := by
 intro u hu
 obtain ⟨b, _, rfl⟩ := XA.1 hu
 rfl
theorem jH (l : List UInt8) (j : Nat) (h : j < l.length) : (bvs l)[j]? = some (bv l[j]) := by simp [bvs, h]
theorem jP (b : UInt8) : b.toNat < 256 := b.toNat_lt
def IsB (w : World) (v : Value) (l : List UInt8) : Prop :=
 ∃ A c, v = .slice A l.length c ∧ l.length ≤ c ∧ c ≤ maxLen ∧ Rd w w.heap.size A (bvs l)
def OwnB (w : World) (base : Nat) (v : Value) (l : List UInt8) : Prop := w.ownsRow base 5 1 v l.length (bvs l)
theorem RX {w : World} {A : Option Addr} {l : List UInt8} {n c : Nat} (k : Nat) (h : Rd w w.heap.size A (bvs l)) (hn : l.length = n) (hc : n ≤ c) (hm : c ≤ maxLen) (hk : k ≤ n) :
  IsB w (.slice (if c = k then A else A.map (·.add k)) (n - k) (c - k)) (l.drop k) := by
 refine ⟨_, c - k, by rw [Xx, hn], by rw [Xx]; omega, by omega, ?_⟩
 have := h.cut (k := k) (n := n) (cap := c) (size := 1) (by rw [bG]; omega) hc
 simpa [Qs] using this
theorem qK {w : World} {b o : Nat} {l : List UInt8} {n c : Nat} (k : Nat) (h : Rd w w.heap.size (some ⟨b, o, none⟩) (bvs l)) (hn : l.length = n) (hc : n ≤ c) (hm : c ≤ maxLen) (hk : k ≤ n) (hne : c ≠ k) :
  IsB w (.slice (some ⟨b, o + k, none⟩) (n - k) (c - k)) (l.drop k) := by
 have := RX k h hn hc hm hk
 rw [if_neg hne] at this
 simpa [eu] using this
theorem OwnB.isB {w : World} {base : Nat} {v : Value} {l : List UInt8} (h : OwnB w base v l) : IsB w v l := by
 obtain ⟨A, c, rfl, h1, h2⟩ := cZ h
 exact ⟨A, c, rfl, h1, h2, Rd.O7 h⟩
theorem IsB.gr {w w' : World} {v : Value} {l : List UInt8} (h : IsB w v l) (hg : Gr w w') : IsB w' v l := by
 obtain ⟨A, c, rfl, h1, h2, h3⟩ := h
 exact ⟨A, c, rfl, h1, h2, h3.gr hg⟩
theorem sW (l : List UInt8) : Stable fun v w => IsB w v l := fun _ _ _ hg h => h.gr hg
theorem ownB_of {w : World} {base : Nat} {v : Value} {n : Nat} {xs : List Value} {l : List UInt8} (h : w.ownsRow base 5 1 v n xs) (hx : xs = bvs l) : OwnB w base v l := by
 subst hx
 have := h.1
 rw [bG, ZG] at this
 unfold OwnB
 rw [this]
 exact h
theorem Dz (w : World) (cs : Array Value) (l : List UInt8) (h : cs.toList = bvs l) (hn : l.length ≤ maxLen) : IsB (w.alloc (.cells cs 5)) (.slice (some ⟨w.heap.size, 0, none⟩) l.length l.length) l := by
 refine ⟨_, _, rfl, Nat.le_refl _, hn, ?_⟩
 rw [← h]
 have := Rd.new w cs 5
 simpa using this
theorem IsB.nil (w : World) : IsB w (.slice none 0 0) [] := ⟨none, 0, rfl, Nat.le_refl _, by simp [maxLen], Rd.nil⟩
theorem OwnB.nil (w : World) (base : Nat) : OwnB w base (.slice none 0 0) [] := World.ownsRow_nil _ _ _ _
def Ret (V : VP) (w : World) (e : Ending) (w' : World) : Prop := ∃ v, e = .returned v ∧ Gr w w' ∧ V v w'
theorem bK : SlT Tryz.prog 38 5 1 1 :=
 ⟨Tryz.underlying38, by
  have h : (Tryz.prog.info? 5).map (fun i => (i.zero, i.size, i.bytes)) = some (some (.int .u8 0), 1, 1) := by kernel_rfl
  obtain ⟨i, hi, hz, h1, h2⟩ := info_parts h
  exact ⟨i, _, hi, hz, h1, h2, rfl⟩, by omega⟩
end Go.Proofs.YtelbhdobjdnglaaGreat
namespace Go.Proofs.YtelbhdobjdnglaaGreat
namespace Rlp
inductive Raw where
 | mk (list : Bool) (bs : List UInt8) (xs : List Raw)
abbrev most : Nat := 16777216
def le (n : Nat) : List UInt8 := if h : n = 0 then [] else UInt8.ofNat n :: le (n / 256)
termination_by n
decreasing_by omega
def be (n : Nat) : List UInt8 := (le n).reverse
theorem le_zero : le 0 = [] := by unfold le; rfl
theorem Dy (n : Nat) (h : 0 < n) : le n = UInt8.ofNat n :: le (n / 256) := by
 conv => lhs; unfold le
 rw [dif_neg (by omega)]
theorem yc : be 0 = [] := by unfold be; rw [le_zero]; rfl
theorem D5 (n : Nat) (h : 0 < n) : be n = be (n / 256) ++ [UInt8.ofNat n] := by unfold be; rw [Dy n h, List.reverse_cons]
theorem wu (k : Nat) : ∀ n, n < 256 ^ k → (le n).length ≤ k := by
 induction k with
 | zero =>
      intro n h; have : n = 0 := by simpa using h
      subst this; rw [le_zero]; simp
 | succ k ih =>
  intro n h
  rcases YL n with h0 | h0
  · subst h0; rw [le_zero]; simp
  ·
   rw [Dy n h0, List.length_cons]
   have := ih (n / 256) (by rw [Nat.pow_succ] at h; omega)
   omega
theorem jY (k n : Nat) (h : n < 256 ^ k) : (be n).length ≤ k := by unfold be; rw [List.length_reverse]; exact wu k n h
def val (l : List UInt8) : Nat := l.foldl (fun n b => n * 256 + b.toNat) 0
theorem yj (l : List UInt8) (b : UInt8) : val (l ++ [b]) = val l * 256 + b.toNat := by simp [val]
theorem Ul : ∀ n, val (be n) = n := by
 intro n
 induction n using Nat.strongRecOn with
 | ind n ih =>
  rcases YL n with h0 | h0
  · subst h0; rw [yc]; rfl
  ·
   rw [D5 n h0, yj, ih (n / 256) (by omega), YG]
   omega
theorem TA (n : Nat) (h : 0 < n) : ∃ b l, be n = b :: l ∧ b ≠ 0 := by
 induction n using Nat.strongRecOn with
 | ind n ih =>
  rw [D5 n h]
  rcases YL (n / 256) with h0 | h0
  ·
   rw [h0, yc]
   refine ⟨UInt8.ofNat n, [], rfl, fun e => ?_⟩
   have h1 := congrArg UInt8.toNat e
   rw [YG] at h1
   have h2 : (0 : UInt8).toNat = 0 := rfl
   rw [h2] at h1
   omega
  ·
   obtain ⟨b, l, h1, h2⟩ := ih (n / 256) (by omega) h0
   exact ⟨b, l ++ [UInt8.ofNat n], by rw [h1]; rfl, h2⟩
theorem QY (l : List UInt8) : ∀ b, b ≠ 0 → 0 < val (b :: l) := by
 intro b hb
 have hb0 : 0 < b.toNat := by
  rcases YL b.toNat with h0 | h0
  · exact absurd (Yt.1 (by rw [h0]; rfl)) hb
  · exact h0
 have h : ∀ (l : List UInt8) (n : Nat), 0 < n → 0 < l.foldl (fun n b => n * 256 + b.toNat) n := by
  intro l
  induction l with
  | nil => exact fun _ h => h
  | cons c l ih => exact fun n h => ih _ (show 0 < n * 256 + c.toNat by omega)
 exact h l _ (show 0 < 0 * 256 + b.toNat by omega)
theorem Vx : ∀ l : List UInt8, l.head? ≠ some 0 → be (val l) = l := by
 intro l
 induction h : l.length generalizing l with
 | zero =>
  intro _
  obtain rfl := X5 h
  exact yc
 | succ k ih =>
  intro hh
  have hne : l ≠ [] := fun e => by rw [e] at h; simp at h
  obtain ⟨m, b, rfl⟩ : ∃ m b, l = m ++ [b] := ⟨l.dropLast, l.getLast hne, (List.dropLast_concat_getLast hne).symm⟩
  have hm : m.length = k := by simpa using h
  have hbl := b.toNat_lt
  rw [yj]
  rcases m with _ | ⟨c, m⟩
  ·
   have hb : b ≠ 0 := fun e => hh (by rw [e]; rfl)
   have hb0 : 0 < b.toNat := by
    rcases YL b.toNat with h0 | h0
    · exact absurd (Yt.1 (by rw [h0]; rfl)) hb
    · exact h0
   have h1 : val ([] : List UInt8) = 0 := rfl
   rw [h1, Nat.zero_mul, XU, D5 _ hb0, show b.toNat / 256 = 0 by omega, yc, YO]
  ·
   have hc : c ≠ 0 := fun e => hh (by rw [e]; rfl)
   have hv := QY m c hc
   rw [D5 _ (by omega), show (val (c :: m) * 256 + b.toNat) / 256 = val (c :: m) by omega, ih (c :: m) hm (fun e => hc (by simpa using e))]
   have : UInt8.ofNat (val (c :: m) * 256 + b.toNat) = b := by
    apply Yt.1
    rw [YG]
    omega
   rw [this]
def head (n base : Nat) : List UInt8 := if n < 56 then [UInt8.ofNat (base + n)] else UInt8.ofNat (base + 55 + (be n).length) :: be n
def szB (n : Nat) : Nat := if n < 56 then 1 + n else 1 + (be n).length + n
theorem iZ (n base : Nat) : (head n base).length + n = szB n := by
 unfold head szB
 split
 · simp
 · simp; omega
def EB (bs : List UInt8) : List UInt8 := if bs.length = 1 ∧ bs.getD 0 0 < 128 then bs else head bs.length 128 ++ bs
mutual
def E : Raw → List UInt8
 | .mk false bs _ => EB bs
 | .mk true _ xs => head (EL xs).length 192 ++ EL xs
def EL : List Raw → List UInt8
 | [] => []
 | x :: xs => E x ++ EL xs
end
def szE (bs : List UInt8) : Nat := if bs.length = 1 ∧ bs.getD 0 0 < 128 then 1 else szB bs.length
theorem oO (bs : List UInt8) : (EB bs).length = szE bs := by
 unfold EB szE
 split
 · rename_i h; exact h.1
 · rw [List.length_append, iZ]
mutual
def meas : Raw → Nat → Option Nat
 | .mk false bs _, _ => if bs.length ≤ most then some (szE bs) else none
 | .mk true _ xs, d => if d = 32 then none else (jg xs (d + 1) 0).map szB
def jg : List Raw → Nat → Nat → Option Nat
 | [], _, n => some n
 | x :: xs, d, n => match meas x d with
  | none => none
  | some k => if n + k > most then none else jg xs d (n + k)
end
mutual
def fE : Raw → Option (List UInt8)
 | .mk false bs _ => if bs.length > most then none else some (EB bs)
 | .mk true _ xs => (gI xs []).map fun l => head l.length 192 ++ l
def gI : List Raw → List UInt8 → Option (List UInt8)
 | [], acc => some acc
 | x :: xs, acc => match fE x with
  | none => none
  | some b => if acc.length + b.length > most then none else gI xs (acc ++ b)
end
mutual
def dP : Raw → Nat → Nat
 | .mk false _ _, _ => 0
 | .mk true _ _, 0 => 1
 | .mk true _ xs, m + 1 => maxD xs m 0 + 1
def maxD : List Raw → Nat → Nat → Nat
 | [], _, n => n
 | x :: xs, m, n => maxD xs m (if dP x m > n then dP x m else n)
end
theorem maxD_le : ∀ (xs : List Raw) (m n k : Nat), maxD xs m n ≤ k ↔ n ≤ k ∧ ∀ x ∈ xs, dP x m ≤ k
 | [], m, n, k => by simp [maxD]
 | x :: xs, m, n, k => by
  rw [maxD, maxD_le xs]
  constructor
  ·
   rintro ⟨h1, h2⟩
   split at h1
   ·
    refine ⟨by omega, fun y hy => ?_⟩
    rcases XB.1 hy with rfl | hy
    · exact h1
    · exact h2 y hy
   ·
    refine ⟨h1, fun y hy => ?_⟩
    rcases XB.1 hy with rfl | hy
    · omega
    · exact h2 y hy
  ·
   rintro ⟨h1, h2⟩
   refine ⟨?_, fun y hy => h2 y (by simp [hy])⟩
   split
   · exact h2 x (by simp)
   · exact h1
theorem sG : ∀ xs ys : List Raw, EL (xs ++ ys) = EL xs ++ EL ys
 | [], ys => rfl
 | x :: xs, ys => by rw [Xr, EL, EL, sG xs ys, List.append_assoc]
mutual
theorem y8 : ∀ (r : Raw) (d n : Nat), meas r d = some n → n = (E r).length
 | .mk false bs _, d, n, h => by
  rw [meas] at h
  split at h
  · rw [E, oO]; exact (X3 h).symm
  · cases h
 | .mk true _ xs, d, n, h => by
  rw [meas] at h
  split at h
  · cases h
  ·
   cases hm : jg xs (d + 1) 0 with
   | none => rw [hm] at h; cases h
   | some k =>
    rw [hm] at h
    have hk := Dv xs (d + 1) 0 k hm
    have hn : szB k = n := X3 h
    rw [E, List.length_append, iZ, ← hn, hk, XU]
theorem Dv : ∀ (xs : List Raw) (d n k : Nat), jg xs d n = some k → k = n + (EL xs).length
 | [], d, n, k, h => by rw [jg] at h; rw [EL]; simpa using (X3 h).symm
 | x :: xs, d, n, k, h => by
  rw [jg] at h
  cases hx : meas x d with
  | none => rw [hx] at h; cases h
  | some j =>
   rw [hx] at h
   dsimp only at h
   split at h
   · cases h
   ·
    have h1 := Dv xs d (n + j) k h
    have h2 := y8 x d j hx
    rw [EL, List.length_append, h1, h2]
    omega
end
mutual
theorem Dj : ∀ (r : Raw) (b : List UInt8), fE r = some b → b = E r
 | .mk false bs _, b, h => by
  rw [fE] at h
  split at h
  · cases h
  · rw [E]; exact (X3 h).symm
 | .mk true _ xs, b, h => by
  rw [fE] at h
  cases hm : gI xs [] with
  | none => rw [hm] at h; cases h
  | some l =>
   rw [hm] at h
   have hl := Fa xs [] l hm
   rw [E, ← X3 h, hl]
   rfl
theorem Fa : ∀ (xs : List Raw) (acc l : List UInt8), gI xs acc = some l → l = acc ++ EL xs
 | [], acc, l, h => by rw [gI] at h; rw [EL, X9]; exact (X3 h).symm
 | x :: xs, acc, l, h => by
  rw [gI] at h
  cases hx : fE x with
  | none => rw [hx] at h; cases h
  | some j =>
   rw [hx] at h
   dsimp only at h
   split at h
   · cases h
   ·
    have h1 := Fa xs (acc ++ j) l h
    have h2 := Dj x j hx
    rw [EL, h1, h2, List.append_assoc]
end
mutual
theorem BG : ∀ (r : Raw) (d m : Nat), d + m = 32 → ((meas r d).isSome = true ↔ dP r m ≤ m ∧ (fE r).isSome = true)
 | .mk false bs _, d, m, h => by
  rw [meas, fE, dP]
  by_cases hb : bs.length ≤ most
  · rw [if_pos hb, if_neg (by omega)]; simp
  · rw [if_neg hb, if_pos (by omega)]; simp
 | .mk true _ xs, d, 0, h => by
  rw [meas, if_pos (by omega), dP]; simp
 | .mk true _ xs, d, m + 1, h => by
  rw [meas, if_neg (by omega), dP, fE]
  have h1 := y9 xs (d + 1) m (by omega) []
  rw [Option.isSome_map, Option.isSome_map, show maxD xs m 0 + 1 ≤ m + 1 ↔ maxD xs m 0 ≤ m by omega, maxD_le]
  simp only [List.length_nil] at h1
  rw [h1]
  simp
theorem y9 : ∀ (xs : List Raw) (d m : Nat), d + m = 32 → ∀ acc : List UInt8, ((jg xs d acc.length).isSome = true ↔ (∀ x ∈ xs, dP x m ≤ m) ∧ (gI xs acc).isSome = true)
 | [], d, m, h, acc => by rw [jg, gI]; simp
 | x :: xs, d, m, h, acc => by
  rw [jg, gI]
  have h1 := BG x d m h
  cases hx : meas x d with
  | none =>
   rw [hx] at h1
   simp only [Option.isSome_none, YT, false_iff] at h1 ⊢
   rintro ⟨h2, h3⟩
   refine h1 ⟨h2 x (by simp), ?_⟩
   cases hp : fE x with
   | none => rw [hp] at h3; cases h3
   | some b => rfl
  | some k =>
   rw [hx] at h1
   obtain ⟨h2, h3⟩ := h1.1 rfl
   cases hp : fE x with
   | none => rw [hp] at h3; cases h3
   | some b =>
    have hk : k = b.length := by rw [y8 x d k hx, Dj x b hp]
    dsimp only
    rw [hk]
    split
    · simp
    ·
     have h4 := y9 xs d m h (acc ++ b)
     rw [List.length_append] at h4
     rw [h4]
     constructor
     ·
      rintro ⟨h5, h6⟩
      refine ⟨fun y hy => ?_, h6⟩
      rcases XB.1 hy with rfl | hy
      · exact h2
      · exact h5 y hy
     ·
      rintro ⟨h5, h6⟩
      exact ⟨fun y hy => h5 y (by simp [hy]), h6⟩
end
mutual
def cnt : Raw → Nat
 | .mk _ _ xs => 1 + Qq xs
def Qq : List Raw → Nat
 | [] => 0
 | x :: xs => cnt x + Qq xs
end
theorem Ky : ∀ (xs : List Raw) (k : Nat) (h : k < xs.length), cnt xs[k] ≤ Qq xs
 | [], k, h => by simp at h
 | x :: xs, 0, h => by rw [Qq]; simp
 | x :: xs, k + 1, h => by
  have := Ky xs k (by simpa using h)
  rw [Qq]
  simp only [List.getElem_cons_succ]
  omega
def packed (r : Raw) : Option (List UInt8) := match meas r 0 with
 | some n => if n > most then none else some (E r)
 | none => none
theorem tN (r : Raw) : packed r = if dP r 32 > 32 then none else match fE r with
  | some b => if b.length > most then none else some b
  | none => none := by
 have h := BG r 0 32 rfl
 unfold packed
 cases hm : meas r 0 with
 | none =>
  rw [hm] at h
  simp only [Option.isSome_none, YT, false_iff] at h
  dsimp only
  by_cases hd : dP r 32 > 32
  · rw [if_pos hd]
  ·
   rw [if_neg hd]
   cases hp : fE r with
   | none => rfl
   | some b => exact absurd ⟨by omega, by rw [hp]; rfl⟩ h
 | some n =>
  rw [hm] at h
  obtain ⟨h1, h2⟩ := h.1 rfl
  rw [if_neg (by omega)]
  cases hp : fE r with
  | none => rw [hp] at h2; cases h2
  | some b =>
   have e1 := y8 r 0 n hm
   have e2 := Dj r b hp
   dsimp only
   rw [e1, ← e2]
end Rlp
end Go.Proofs.YtelbhdobjdnglaaGreat
namespace Go.Proofs.YtelbhdobjdnglaaGreat
open Go.RowKit Mono
theorem Fb {w : World} {base e size n c : Nat} {A : Option Addr} {xs : List Value} (h : w.ownsRow base e size (.slice A n c) n xs) (hn : 0 < n) : ∃ g, A = some ⟨g, 0, none⟩ ∧ base ≤ g ∧ g < w.heap.size := by
 rcases h.2 with ⟨_, h0⟩ | ⟨g, cp, cur, hv, hb, hh, _⟩
 · omega
 ·
  injection hv with hA _ _
  refine ⟨g, hA, hb, ?_⟩
  rcases XY g w.heap.size with h1 | h1
  · exact h1
  · rw [Array.getElem?_eq_none h1] at hh; cases hh
def App (w : World) (base e size : Nat) (v : Value) (n : Nat) (xs : List Value) : Prop :=
 w.ownsRow base e size v n xs ∨ ∃ a, v = .slice (some a) n n ∧ xs.length = n * size ∧ Rd w w.heap.size (some a) xs
def VJ (w : World) (base : Nat) (v : Value) (l : List UInt8) : Prop := App w base 5 1 v l.length (bvs l)
theorem App.form {w : World} {base e size n : Nat} {v : Value} {xs : List Value} (h : App w base e size v n xs) (hn : n ≤ maxLen) : ∃ A c, v = .slice A n c ∧ n ≤ c ∧ c ≤ maxLen := by
 rcases h with h | ⟨a, rfl, _, _⟩
 · exact cZ h
 · exact ⟨_, _, rfl, Nat.le_refl _, hn⟩
theorem App.gr {w w' : World} {base e size n : Nat} {v : Value} {xs : List Value} (h : App w base e size v n xs) (hg : Gr w w') : App w' base e size v n xs := by
 rcases h with h | ⟨a, rfl, hl, hr⟩
 · exact .inl (nH h hg)
 · exact .inr ⟨a, rfl, hl, hr.gr hg⟩
theorem VJ.isB {w : World} {base : Nat} {v : Value} {l : List UInt8} (h : VJ w base v l) (hn : l.length ≤ maxLen) : IsB w v l := by
 rcases h with h | ⟨a, rfl, _, hr⟩
 · exact OwnB.isB h
 · exact ⟨_, _, rfl, Nat.le_refl _, hn, hr⟩
theorem OwnB.app {w : World} {base : Nat} {v : Value} {l : List UInt8} (h : OwnB w base v l) : VJ w base v l := .inl h
theorem Ja (w : World) (C : Array Value) (n c : Nat) : (convert 38 38 (.slice (some ⟨w.heap.size, 0, none⟩) n c)).run Tryz.prog (w.alloc (.cells C 5)) = .ok (.slice (some ⟨w.heap.size, 0, none⟩) n c) (w.alloc (.cells C 5 (C.size, C.size + 1))) :=
 Lib.run_convert_bytes_const w 38 5 C n c Tryz.underlying38 Tryz.underlying5
theorem JQ (b : ByteArray) : ∀ (k i : Nat) (r : List UInt8), b.size - i = k → ByteArray.toList.loop b i r = r.reverse ++ b.data.toList.drop i
 | 0, i, r, h => by
  rw [ByteArray.toList.loop, if_neg (by omega), XP (by simp; have : b.data.size = b.size := rfl; omega)]
  simp
 | k + 1, i, r, h => by
  have hi : i < b.data.toList.length := by simp; have : b.data.size = b.size := rfl; omega
  rw [ByteArray.toList.loop, if_pos (by omega), JQ b k (i + 1) _ (by omega), XI hi]
  have : b.get! i = b.data.toList[i] := by
   simp at hi
   show b.data[i]! = _
   simp [hi]
  rw [this]
  simp
theorem toList_data (b : ByteArray) : b.toList = b.data.toList := by
 unfold ByteArray.toList
 rw [JQ b b.size 0 [] (by omega)]
 simp
def bs (l : List UInt8) : ByteArray := ⟨l.toArray⟩
theorem wH (l : List UInt8) : (bs l).toList = l := by
 rw [toList_data]
 simp [bs]
theorem zO {w : World} {v : Value} {l : List UInt8} (h : IsB w v l) : (convert 38 9 v).run Tryz.prog w = .ok (.string (bs l)) w := by
 obtain ⟨A, c, rfl, h1, h2, hr⟩ := h
 cases A with
 | none =>
  have : l = [] := by
   by_cases hl : bvs l = []
   · simpa [bvs] using hl
   ·
    obtain ⟨b, o, e, _⟩ := hr hl
    cases e
  subst this
  rw [run_convert_bytes_string w _ _ 5 none _ c Tryz.underlying38 Tryz.underlying5 Tryz.underlying9]
  rfl
 | some ad =>
  refine run_convert_bytes_back w _ _ 5 ad c l Tryz.underlying38 Tryz.underlying5 Tryz.underlying9 fun j hj => ?_
  obtain ⟨b, o, e, _, hc⟩ := hr (by intro e; have := bG l; rw [e] at this; simp at this; omega)
  injection e with e
  subst e
  rw [eu]
  exact hc j _ (jH l j hj)
namespace Mono
end Mono
theorem lt_of_some {w : World} {g : Nat} {o : Obj} (h : w.heap[g]? = some o) : g < w.heap.size := by
 rcases XY g w.heap.size with h1 | h1
 · exact h1
 · rw [Array.getElem?_eq_none h1] at h; cases h
theorem Tj (l : List UInt8) (k : Nat) (b : UInt8) : (bvs l).set k (bv b) = bvs (l.set k b) := by simp [bvs, List.map_set]
theorem aU (w : World) (g : Nat) (cs cs' : Array Value) (t : TypeId) (hg : w.heap[g]? = some (.cells cs t (0, 0))) : (w.setRow g cs').heap[g]? = some (.cells cs' t (0, 0)) := by
 simp [World.setRow, Array.getElem?_modify, hg]
theorem dQ {w w' : World} (h : Gr w w') (g : Nat) (cs : Array Value) (hg : w.heap.size ≤ g) : Gr w (w'.setRow g cs) :=
 ⟨h.os, h.tape, h.output, by rw [size_setRow]; exact h.size, fun i hi => by
  rw [← h.block i hi]
  simp only [World.setRow]
  rw [YK, if_neg (by omega)]⟩
def qV (l : List UInt8) : Value := .agg (bvs l).toArray
def Arr (w : World) (g : Nat) (t : TypeId) (l : List UInt8) : Prop := w.heap[g]? = some (.cells (bvs l).toArray t (0, 0))
theorem Arr.lt {w : World} {g : Nat} {t : TypeId} {l : List UInt8} (h : Arr w g t l) : g < w.heap.size := lt_of_some h
theorem Arr.gr {w w' : World} {g : Nat} {t : TypeId} {l : List UInt8} (h : Arr w g t l) (hg : Gr w w') : Arr w' g t l := (hg.block g h.lt).trans h
def AL (w : World) (v : Value) (ms : List (List UInt8)) : Prop :=
 ∃ (A : Option Addr) (c : Nat) (vals : List Value), v = .slice A ms.length c ∧ ms.length ≤ c ∧ c ≤ maxLen ∧ vals.length = ms.length ∧ Rd w w.heap.size A vals ∧ ∀ (i : Nat) (x : Value) (m : List UInt8), vals[i]? = some x → ms[i]? = some m → IsB w x m
theorem AL.nil (w : World) : AL w (.slice none 0 0) [] := ⟨none, 0, [], rfl, Nat.le_refl _, by simp [maxLen], rfl, Rd.nil, fun i x m h => by simp at h⟩
theorem AL.gr {w w' : World} {v : Value} {ms : List (List UInt8)} (h : AL w v ms) (hg : Gr w w') : AL w' v ms := by
 obtain ⟨A, c, vals, rfl, h1, h2, h3, h4, h5⟩ := h
 exact ⟨A, c, vals, rfl, h1, h2, h3, h4.gr hg, fun i x m a b => (h5 i x m a b).gr hg⟩
theorem AL.at {w : World} {B : Nat} {A : Option Addr} {vals : List Value} {ms : List (List UInt8)} (hlen : vals.length = ms.length) (hrd : Rd w B A vals) (hel : ∀ (i : Nat) (x : Value) (m : List UInt8), vals[i]? = some x → ms[i]? = some m → IsB w x m) (k : Nat) (hk : k < ms.length) :
  ∃ b o x, A = some ⟨b, o, none⟩ ∧ b < B ∧ w.cell? ⟨b, o + k, none⟩ = some x ∧ IsB w x ms[k] := by
 have hk' : k < vals.length := by omega
 obtain ⟨b, o, e, hb, hc⟩ := hrd (fun e => by rw [e] at hk'; simp at hk')
 exact ⟨b, o, vals[k], e, hb, hc k _ (List.getElem?_eq_getElem hk'), hel k _ _ (List.getElem?_eq_getElem hk') (List.getElem?_eq_getElem hk)⟩
theorem Pv {w : World} {B : Nat} {A : Option Addr} {m : List UInt8} (h : Rd w B A (bvs m)) (k : Nat) (hk : k < m.length) : ∃ b o, A = some ⟨b, o, none⟩ ∧ b < B ∧ w.cell? ⟨b, o + k, none⟩ = some (.int .u8 (m[k].toNat : Int)) := by
 obtain ⟨b, o, e, hb, hc⟩ := h (fun e => by have := congrArg List.length e; rw [bG] at this; simp at this; rw [this] at hk; simp at hk)
 exact ⟨b, o, e, hb, hc k _ (jH m k hk)⟩
theorem dF (w : World) (o : Obj) : (w.alloc o).heap.size = w.heap.size + 1 := by simp
theorem su (w : World) (o : Obj) (g : Nat) (h : g = w.heap.size) : (w.alloc o).heap[g]? = some o := by
 subst h
 exact heap_alloc_new w o
theorem cu (w : World) (o : Obj) (g : Nat) (h : g < w.heap.size) : (w.alloc o).heap[g]? = w.heap[g]? := Below.heap_alloc w o g h
end Go.Proofs.YtelbhdobjdnglaaGreat
namespace Go.Proofs.YtelbhdobjdnglaaGreat
open Go.RowKit Mono Rlp
def RdP (ok : Nat → Prop) (w : World) (A : Option Addr) (xs : List Value) : Prop :=
 xs ≠ [] → ∃ b o, A = some ⟨b, o, none⟩ ∧ ok b ∧ ∀ j u, xs[j]? = some u → w.cell? ⟨b, o + j, none⟩ = some u
theorem RdP.mono {ok ok' : Nat → Prop} {w w' : World} {A : Option Addr} {xs : List Value} (h : RdP ok w A xs) (h1 : ∀ b, ok b → ok' b) (h2 : ∀ p : Addr, ok p.block → w'.cell? p = w.cell? p) : RdP ok' w' A xs := fun hn => by
 obtain ⟨b, o, e, hb, hc⟩ := h hn
 exact ⟨b, o, e, h1 b hb, fun j u hu => (h2 _ hb).trans (hc j u hu)⟩
def wK (ok : Nat → Prop) (w : World) (v : Value) (l : List UInt8) : Prop :=
 ∃ A c, v = .slice A l.length c ∧ l.length ≤ c ∧ c ≤ maxLen ∧ RdP ok w A (bvs l)
theorem wK.mono {ok ok' : Nat → Prop} {w w' : World} {v : Value} {l : List UInt8} (h : wK ok w v l) (h1 : ∀ b, ok b → ok' b) (h2 : ∀ p : Addr, ok p.block → w'.cell? p = w.cell? p) : wK ok' w' v l := by
 obtain ⟨A, c, h3, h4, h5, h6⟩ := h
 exact ⟨A, c, h3, h4, h5, h6.mono h1 h2⟩
theorem nI {w : World} {base : Nat} {v : Value} {l : List UInt8} (h : OwnB w base v l) : wK (fun k => base ≤ k ∧ k < w.heap.size) w v l := by
 obtain ⟨A, c, rfl, h1, h2⟩ := cZ h
 refine ⟨A, c, rfl, h1, h2, fun hn => ?_⟩
 have hl : 0 < l.length := by
  rcases YL l.length with h0 | h0
  ·
   obtain rfl := X5 h0
   exact absurd rfl hn
  · exact h0
 obtain ⟨g, rfl, hb, hg⟩ := Fb h hl
 exact ⟨g, 0, rfl, ⟨hb, hg⟩, fun j u hu => by
  have := World.ownsRow.cells h (g := g) rfl j u hu
  rwa [eu] at this⟩
theorem rV {w : World} {base e size n c : Nat} {A : Option Addr} {xs : List Value} (h : w.ownsRow base e size (.slice A n c) n xs) : RdP (fun k => base ≤ k ∧ k < w.heap.size) w A xs := fun hn => by
 rcases h.2 with ⟨hv, hz⟩ | ⟨g, cap, cur, hv, hb, hh, _⟩
 ·
  have := h.1
  rw [hz, Nat.zero_mul] at this
  exact absurd (X5 this) hn
 ·
  injection hv with hA _ _
  subst hA
  refine ⟨g, 0, rfl, ⟨hb, lt_of_some hh⟩, fun j u hu => ?_⟩
  have := World.ownsRow.cells h (g := g) rfl j u hu
  rwa [eu] at this
theorem oh {w : World} {base e size n c : Nat} {xs : List Value} (h : w.ownsRow base e size (.slice none n c) n xs) : n = 0 ∧ c = 0 := by
 rcases h.2 with ⟨hv, hz⟩ | ⟨g, cap, cur, hv, _⟩
 ·
  injection hv with _ _ hc
  exact ⟨hz, hc⟩
 ·
  injection hv with hA _ _
  cases hA
theorem dV {w : World} {g : Nat} {cs : Array Value} {p : Addr} (h : p.block ≠ g) : (w.setRow g cs).cell? p = w.cell? p := by
 refine World.cell?_of_block ?_
 simp only [World.setRow]
 rw [YK, if_neg (fun e => h e.symm)]
theorem Ry {w : World} {base e size n : Nat} {v : Value} {xs : List Value} (h : w.ownsRow base e size v n xs) {p : Addr} (hp : v.ownBlock ≠ some p.block) (u : Value) : (w.setCell p u).ownsRow base e size v n xs := by
 refine ⟨h.1, ?_⟩
 rcases h.2 with h1 | ⟨g, cap, cur, h1, h2, h3, h4⟩
 · exact .inl h1
 ·
  refine .inr ⟨g, cap, cur, h1, h2, ?_, h4⟩
  rw [Below.heap_setCell w p u g (fun e => hp (by rw [h1, e]; rfl))]
  exact h3
end Go.Proofs.YtelbhdobjdnglaaGreat
namespace Go.Proofs.YtelbhdobjdnglaaGreat
set_option linter.unusedVariables false
open Go.RowKit Mono Rlp
namespace E
inductive D where
 | v (x : Value)
 | arr (n : Nat) (l : List UInt8)
 | bs (l : List UInt8)
 | sl (z : Nat) (ds : List D)
 | tup (ds : List D)
 | pd (d : D)
 | ifc (t : TypeId) (d : D)
mutual
def D.size : D → Nat
 | .arr n _ => n
 | .tup ds => D.sizes ds
 | _ => 1
def D.sizes : List D → Nat
 | [] => 0
 | d :: ds => d.size + D.sizes ds
end
def D.agg : D → Bool
 | .arr _ _ => true
 | .tup _ => true
 | _ => false
def form (d : D) (cs : List Value) : Value := if d.agg then .agg cs.toArray else cs.headD undef
mutual
def Reads (ok : Nat → Prop) (w : World) : D → List Value → Prop
 | .v x, cs => x.oneCell' = true ∧ cs = [x]
 | .arr n l, cs => l.length = n ∧ cs = bvs l
 | .bs l, cs => ∃ u, cs = [u] ∧ wK ok w u l
 | .sl z ds, cs => ∃ A c rows, cs = [.slice A ds.length c] ∧ ds.length ≤ c ∧ c ≤ maxLen ∧ (A = none → ds.length = 0 ∧ c = 0) ∧ RdP ok w A rows.flatten ∧ au ok w z ds rows
 | .tup ds, cs => bU ok w ds cs
 | .pd d, cs => ∃ b o cs', cs = [.pointer (some ⟨b, o, none⟩)] ∧ ok b ∧ w.rangeAt b o cs' ∧ Reads ok w d cs'
 | .ifc t d, cs => ∃ cs', cs = [.iface t (form d cs')] ∧ Reads ok w d cs'
def bU (ok : Nat → Prop) (w : World) : List D → List Value → Prop
 | [], cs => cs = []
 | d :: ds, cs => ∃ c1 c2, cs = c1 ++ c2 ∧ Reads ok w d c1 ∧ bU ok w ds c2
def au (ok : Nat → Prop) (w : World) (z : Nat) : List D → List (List Value) → Prop
 | [], rows => rows = []
 | d :: ds, rows => ∃ r rest, rows = r :: rest ∧ r.length = z ∧ Reads ok w d r ∧ au ok w z ds rest
end
def bY (ok : Nat → Prop) (w : World) (d : D) (x : Value) : Prop := ∃ cs, Reads ok w d cs ∧ x = form d cs
def fQ (ok : Nat → Prop) (w : World) : List D → List Value → Prop
 | [], xs => xs = []
 | d :: ds, xs => ∃ x rest, xs = x :: rest ∧ bY ok w d x ∧ fQ ok w ds rest
inductive R where
 | val (d : D)
 | tpl (ds : List D)
 | any
def cO (ok : Nat → Prop) (w : World) : R → Value → Prop
 | .val d, x => bY ok w d x
 | .tpl ds, x => ∃ vs, x = .tuple vs.toArray ∧ fQ ok w ds vs
 | .any, _ => True
section
variable {ok ok' : Nat → Prop} {w w' : World}
theorem Ip {b o : Nat} {cs : List Value} (h2 : ∀ p : Addr, ok p.block → w'.cell? p = w.cell? p) (hb : ok b) (h : w.rangeAt b o cs) : w'.rangeAt b o cs := fun j v hv => (h2 ⟨b, o + j, none⟩ hb).trans (h j v hv)
mutual
theorem Reads.mono (h1 : ∀ b, ok b → ok' b) (h2 : ∀ p : Addr, ok p.block → w'.cell? p = w.cell? p) : ∀ (d : D) (cs : List Value), Reads ok w d cs → Reads ok' w' d cs
 | .v x, cs, h => by rw [Reads] at h ⊢; exact h
 | .arr n l, cs, h => by rw [Reads] at h ⊢; exact h
 | .bs l, cs, h => by
  rw [Reads] at h ⊢
  obtain ⟨u, h3, h4⟩ := h
  exact ⟨u, h3, h4.mono h1 h2⟩
 | .sl z ds, cs, h => by
  rw [Reads] at h ⊢
  obtain ⟨A, c, rows, g1, g2, g3, g4, g5, g6⟩ := h
  exact ⟨A, c, rows, g1, g2, g3, g4, g5.mono h1 h2, au.mono h1 h2 z ds rows g6⟩
 | .tup ds, cs, h => by
  rw [Reads] at h ⊢
  exact bU.mono h1 h2 ds cs h
 | .pd d, cs, h => by
  rw [Reads] at h ⊢
  obtain ⟨b, o, cs', g1, g2, g3, g4⟩ := h
  exact ⟨b, o, cs', g1, h1 b g2, Ip h2 g2 g3, Reads.mono h1 h2 d cs' g4⟩
 | .ifc t d, cs, h => by
  rw [Reads] at h ⊢
  obtain ⟨cs', g1, g2⟩ := h
  exact ⟨cs', g1, Reads.mono h1 h2 d cs' g2⟩
theorem bU.mono (h1 : ∀ b, ok b → ok' b) (h2 : ∀ p : Addr, ok p.block → w'.cell? p = w.cell? p) : ∀ (ds : List D) (cs : List Value), bU ok w ds cs → bU ok' w' ds cs
 | [], cs, h => by rw [bU] at h ⊢; exact h
 | d :: ds, cs, h => by
  rw [bU] at h ⊢
  obtain ⟨c1, c2, g1, g2, g3⟩ := h
  exact ⟨c1, c2, g1, Reads.mono h1 h2 d c1 g2, bU.mono h1 h2 ds c2 g3⟩
theorem au.mono (h1 : ∀ b, ok b → ok' b) (h2 : ∀ p : Addr, ok p.block → w'.cell? p = w.cell? p) (z : Nat) : ∀ (ds : List D) (rows : List (List Value)), au ok w z ds rows → au ok' w' z ds rows
 | [], rows, h => by rw [au] at h ⊢; exact h
 | d :: ds, rows, h => by
  rw [au] at h ⊢
  obtain ⟨r, rest, g1, g2, g3, g4⟩ := h
  exact ⟨r, rest, g1, g2, Reads.mono h1 h2 d r g3, au.mono h1 h2 z ds rest g4⟩
end
mutual
theorem Reads.len : ∀ (d : D) (cs : List Value), Reads ok w d cs → cs.length = d.size
 | .v x, cs, h => by rw [Reads] at h; rw [h.2]; rfl
 | .arr n l, cs, h => by rw [Reads] at h; rw [h.2, bG, h.1]; rfl
 | .bs l, cs, h => by rw [Reads] at h; obtain ⟨u, rfl, _⟩ := h; rfl
 | .sl z ds, cs, h => by rw [Reads] at h; obtain ⟨A, c, rows, rfl, _⟩ := h; rfl
 | .tup ds, cs, h => by rw [Reads] at h; exact bU.len ds cs h
 | .pd d, cs, h => by rw [Reads] at h; obtain ⟨b, o, cs', rfl, _⟩ := h; rfl
 | .ifc t d, cs, h => by rw [Reads] at h; obtain ⟨cs', rfl, _⟩ := h; rfl
theorem bU.len : ∀ (ds : List D) (cs : List Value), bU ok w ds cs → cs.length = D.sizes ds
 | [], cs, h => by rw [bU] at h; rw [h]; rfl
 | d :: ds, cs, h => by
  rw [bU] at h
  obtain ⟨c1, c2, rfl, g2, g3⟩ := h
  rw [List.length_append, Reads.len d c1 g2, bU.len ds c2 g3]
  rfl
end
mutual
theorem Reads.one : ∀ (d : D) (cs : List Value), Reads ok w d cs → ∀ u ∈ cs, u.oneCell' = true
 | .v x, cs, h, u, hu => by
  rw [Reads] at h
  rw [h.2] at hu
  obtain rfl : u = x := by simpa using hu
  exact h.1
 | .arr n l, cs, h, u, hu => by rw [Reads] at h; rw [h.2] at hu; exact dR l u hu
 | .bs l, cs, h, u, hu => by
  rw [Reads] at h
  obtain ⟨x, rfl, A, c, rfl, _⟩ := h
  obtain rfl : u = _ := by simpa using hu
  rfl
 | .sl z ds, cs, h, u, hu => by
  rw [Reads] at h
  obtain ⟨A, c, rows, rfl, _⟩ := h
  obtain rfl : u = _ := by simpa using hu
  rfl
 | .tup ds, cs, h, u, hu => by rw [Reads] at h; exact bU.one ds cs h u hu
 | .pd d, cs, h, u, hu => by
  rw [Reads] at h
  obtain ⟨b, o, cs', rfl, _⟩ := h
  obtain rfl : u = _ := by simpa using hu
  rfl
 | .ifc t d, cs, h, u, hu => by
  rw [Reads] at h
  obtain ⟨cs', rfl, _⟩ := h
  obtain rfl : u = _ := by simpa using hu
  rfl
theorem bU.one : ∀ (ds : List D) (cs : List Value), bU ok w ds cs → ∀ u ∈ cs, u.oneCell' = true
 | [], cs, h, u, hu => by rw [bU] at h; rw [h] at hu; cases hu
 | d :: ds, cs, h, u, hu => by
  rw [bU] at h
  obtain ⟨c1, c2, rfl, g2, g3⟩ := h
  rcases XJ.1 hu with hu | hu
  · exact Reads.one d c1 g2 u hu
  · exact bU.one ds c2 g3 u hu
end
theorem mD {d : D} {cs : List Value} (h : Reads ok w d cs) : (form d cs).cells = cs.toArray := by
 unfold form
 cases hd : d.agg with
 | true => rfl
 | false =>
  have h1 : cs.length = 1 := by
   have := Reads.len d cs h
   cases d <;> simp [D.agg] at hd <;> simpa [D.size] using this
  obtain ⟨c, rfl⟩ := Yv.1 h1
  have := Reads.one d _ h c (by simp)
  simp only [YT, if_false, List.headD_cons]
  cases c <;> simp [Value.oneCell'] at this <;> rfl
theorem bY.mono (h1 : ∀ b, ok b → ok' b) (h2 : ∀ p : Addr, ok p.block → w'.cell? p = w.cell? p) {d : D} {x : Value} (h : bY ok w d x) : bY ok' w' d x := by
 obtain ⟨cs, h3, h4⟩ := h
 exact ⟨cs, Reads.mono h1 h2 d cs h3, h4⟩
theorem fQ.mono (h1 : ∀ b, ok b → ok' b) (h2 : ∀ p : Addr, ok p.block → w'.cell? p = w.cell? p) : ∀ (ds : List D) (xs : List Value), fQ ok w ds xs → fQ ok' w' ds xs
 | [], xs, h => h
 | d :: ds, xs, h => by
  obtain ⟨x, rest, g1, g2, g3⟩ := h
  exact ⟨x, rest, g1, g2.mono h1 h2, fQ.mono h1 h2 ds rest g3⟩
theorem cO.mono (h1 : ∀ b, ok b → ok' b) (h2 : ∀ p : Addr, ok p.block → w'.cell? p = w.cell? p) {r : R} {x : Value} (h : cO ok w r x) : cO ok' w' r x := by
 cases r with
 | val d => exact bY.mono h1 h2 h
 | tpl ds =>
  obtain ⟨vs, g1, g2⟩ := h
  exact ⟨vs, g1, fQ.mono h1 h2 ds vs g2⟩
 | any => trivial
theorem bg {x y : Value} : bY ok w (.v x) y ↔ x.oneCell' = true ∧ y = x := by
 constructor
 ·
  rintro ⟨cs, h, rfl⟩
  rw [Reads] at h
  rw [h.2]
  exact ⟨h.1, rfl⟩
 ·
  rintro ⟨h, rfl⟩
  exact ⟨[y], by rw [Reads]; exact ⟨h, rfl⟩, rfl⟩
theorem bM {d : D} (hd : d.agg = false) {x : Value} : bY ok w d x ↔ Reads ok w d [x] := by
 have hf : ∀ cs, form d cs = cs.headD undef := fun cs => by unfold form; rw [hd]; rfl
 constructor
 ·
  rintro ⟨cs, h, rfl⟩
  have h1 : cs.length = 1 := by
   have := Reads.len d cs h
   cases d <;> simp [D.agg] at hd <;> simpa [D.size] using this
  obtain ⟨c, rfl⟩ := Yv.1 h1
  rw [hf]
  exact h
 ·
  intro h
  exact ⟨[x], h, by rw [hf]; rfl⟩
theorem jB {d : D} (hd : d.agg = true) {x : Value} : bY ok w d x ↔ ∃ cs, Reads ok w d cs ∧ x = .agg cs.toArray := by
 have hf : ∀ cs, form d cs = .agg cs.toArray := fun cs => by unfold form; rw [hd]; rfl
 constructor
 ·
  rintro ⟨cs, h, rfl⟩
  exact ⟨cs, h, hf cs⟩
 ·
  rintro ⟨cs, h, rfl⟩
  exact ⟨cs, h, (hf cs).symm⟩
theorem au.get {z : Nat} : ∀ (ds : List D) (rows : List (List Value)), au ok w z ds rows → ∀ k (hk : k < ds.length), ∃ r, rows[k]? = some r ∧ r.length = z ∧ Reads ok w ds[k] r
 | [], rows, _, k, hk => absurd hk (by simp)
 | d :: ds, rows, h, k, hk => by
  rw [au] at h
  obtain ⟨r, rest, rfl, g2, g3, g4⟩ := h
  cases k with
  | zero => exact ⟨r, rfl, g2, g3⟩
  | succ k => exact au.get ds rest g4 k (by simpa using hk)
theorem au.lens {z : Nat} : ∀ (ds : List D) (rows : List (List Value)), au ok w z ds rows → rows.length = ds.length ∧ ∀ r ∈ rows, r.length = z
 | [], rows, h => by rw [au] at h; subst h; simp
 | d :: ds, rows, h => by
  rw [au] at h
  obtain ⟨r, rest, rfl, g2, g3, g4⟩ := h
  obtain ⟨h1, h2⟩ := au.lens ds rest g4
  exact ⟨by simp [h1], fun x hx => by
   rcases XB.1 hx with rfl | hx
   · exact g2
   · exact h2 x hx⟩
theorem au.append {z : Nat} : ∀ (ds es : List D) (rows more : List (List Value)), au ok w z ds rows → au ok w z es more → au ok w z (ds ++ es) (rows ++ more)
 | [], es, rows, more, h, h' => by rw [au] at h; subst h; exact h'
 | d :: ds, es, rows, more, h, h' => by
  rw [au] at h
  obtain ⟨r, rest, rfl, g2, g3, g4⟩ := h
  rw [Xr, Xr, au]
  exact ⟨r, _, rfl, g2, g3, au.append ds es rest more g4 h'⟩
theorem au.one {z : Nat} : ∀ (ds : List D) (rows : List (List Value)), au ok w z ds rows → ∀ u ∈ rows.flatten, u.oneCell' = true
 | [], rows, h, u, hu => by rw [au] at h; subst h; simp at hu
 | d :: ds, rows, h, u, hu => by
  rw [au] at h
  obtain ⟨r, rest, rfl, g2, g3, g4⟩ := h
  rw [X8] at hu
  rcases XJ.1 hu with hu | hu
  · exact Reads.one d r g3 u hu
  · exact au.one ds rest g4 u hu
theorem au.drop {z : Nat} : ∀ (ds : List D) (rows : List (List Value)) (k : Nat), au ok w z ds rows → au ok w z (ds.drop k) (rows.drop k)
 | ds, rows, 0, h => by simpa using h
 | [], rows, k + 1, h => by rw [au] at h; subst h; simp [au]
 | d :: ds, rows, k + 1, h => by
  rw [au] at h
  obtain ⟨r, rest, rfl, g2, g3, g4⟩ := h
  simpa using au.drop ds rest k g4
theorem au.take {z : Nat} : ∀ (ds : List D) (rows : List (List Value)) (k : Nat), au ok w z ds rows → au ok w z (ds.take k) (rows.take k)
 | ds, rows, 0, h => by simp [au]
 | [], rows, k + 1, h => by rw [au] at h; subst h; simp [au]
 | d :: ds, rows, k + 1, h => by
  rw [au] at h
  obtain ⟨r, rest, rfl, g2, g3, g4⟩ := h
  rw [Xp, Xp, au]
  exact ⟨r, _, rfl, g2, g3, au.take ds rest k g4⟩
end
mutual
def D.sub : D → Nat → Nat → Bool → Option D
 | .tup ds, off, sz, ag => if off = 0 ∧ D.sizes ds = sz ∧ ag = true then some (.tup ds) else D.yB ds off sz ag
 | .arr n l, off, sz, ag => if off = 0 ∧ n = sz ∧ ag = true then some (.arr n l) else none
 | d, off, sz, ag => if off = 0 ∧ 1 = sz ∧ ag = false then some d else none
def D.yB : List D → Nat → Nat → Bool → Option D
 | [], _, _, _ => none
 | d :: ds, off, sz, ag => if off < d.size then d.sub off sz ag else D.yB ds (off - d.size) sz ag
end
mutual
def D.upd : D → Nat → D → Option D
 | .tup ds, off, new => if off = 0 ∧ D.sizes ds = new.size ∧ new.agg = true then some new else (D.vM ds off new).map .tup
 | .arr n l, off, new => if off = 0 ∧ n = new.size ∧ new.agg = true then some new else none
 | d, off, new => if off = 0 ∧ 1 = new.size ∧ new.agg = false then some new else none
def D.vM : List D → Nat → D → Option (List D)
 | [], _, _ => none
 | d :: ds, off, new => if off < d.size then (d.upd off new).map (· :: ds) else (D.vM ds (off - d.size) new).map (d :: ·)
end
section
variable {ok : Nat → Prop} {w : World}
theorem qo {d d' : D} {off sz : Nat} {ag : Bool} (h : (if off = 0 ∧ 1 = sz ∧ ag = false then some d else none) = some d') (hd : d.agg = false) (hs : d.size = 1) {cs : List Value} (hr : Reads ok w d cs) :
  d'.size = sz ∧ d'.agg = ag ∧ ∃ pre mid post, cs = pre ++ mid ++ post ∧ pre.length = off ∧ Reads ok w d' mid := by
 split at h
 ·
  rename_i hc
  cases h
  exact ⟨by rw [hs]; exact hc.2.1, by rw [hd, hc.2.2], [], cs, [], by simp, hc.1.symm, hr⟩
 · cases h
mutual
theorem nO : ∀ (d : D) (off sz : Nat) (ag : Bool) (d' : D) (cs : List Value), d.sub off sz ag = some d' → Reads ok w d cs → d'.size = sz ∧ d'.agg = ag ∧ ∃ pre mid post, cs = pre ++ mid ++ post ∧ pre.length = off ∧ Reads ok w d' mid
 | .tup ds, off, sz, ag, d', cs, h, hr => by
  rw [D.sub] at h
  split at h
  ·
   rename_i hc
   cases h
   exact ⟨hc.2.1, hc.2.2.symm, [], cs, [], by simp, hc.1.symm, hr⟩
  ·
   rw [Reads] at hr
   exact AU ds off sz ag d' cs h hr
 | .arr n l, off, sz, ag, d', cs, h, hr => by
  rw [D.sub] at h
  split at h
  ·
   rename_i hc
   cases h
   exact ⟨hc.2.1, hc.2.2.symm, [], cs, [], by simp, hc.1.symm, hr⟩
  · cases h
 | .v x, off, sz, ag, d', cs, h, hr => qo (by simpa only [D.sub] using h) rfl rfl hr
 | .bs l, off, sz, ag, d', cs, h, hr => qo (by simpa only [D.sub] using h) rfl rfl hr
 | .sl z ds, off, sz, ag, d', cs, h, hr => qo (by simpa only [D.sub] using h) rfl rfl hr
 | .pd d, off, sz, ag, d', cs, h, hr => qo (by simpa only [D.sub] using h) rfl rfl hr
 | .ifc t d, off, sz, ag, d', cs, h, hr => qo (by simpa only [D.sub] using h) rfl rfl hr
theorem AU : ∀ (ds : List D) (off sz : Nat) (ag : Bool) (d' : D) (cs : List Value), D.yB ds off sz ag = some d' → bU ok w ds cs → d'.size = sz ∧ d'.agg = ag ∧ ∃ pre mid post, cs = pre ++ mid ++ post ∧ pre.length = off ∧ Reads ok w d' mid
 | [], off, sz, ag, d', cs, h, hr => by rw [D.yB] at h; cases h
 | d :: ds, off, sz, ag, d', cs, h, hr => by
  rw [D.yB] at h
  rw [bU] at hr
  obtain ⟨c1, c2, rfl, g2, g3⟩ := hr
  have hl := Reads.len d c1 g2
  split at h
  ·
   obtain ⟨e1, e2, pre, mid, post, rfl, h2, h3⟩ := nO d off sz ag d' c1 h g2
   exact ⟨e1, e2, pre, mid, post ++ c2, by simp, h2, h3⟩
  ·
   obtain ⟨e1, e2, pre, mid, post, rfl, h2, h3⟩ := AU ds _ sz ag d' c2 h g3
   exact ⟨e1, e2, c1 ++ pre, mid, post, by simp, by rw [List.length_append]; omega, h3⟩
end
theorem qm {d new d'' : D} {off : Nat} (h : (if off = 0 ∧ 1 = new.size ∧ new.agg = false then some new else none) = some d'') (hd : d.agg = false) (hs : d.size = 1) {cs mid' : List Value} (hr : Reads ok w d cs) (hn : Reads ok w new mid') :
  d''.size = d.size ∧ d''.agg = d.agg ∧ ∃ pre mid post, cs = pre ++ mid ++ post ∧ pre.length = off ∧ mid.length = mid'.length ∧ Reads ok w d'' (pre ++ mid' ++ post) := by
 split at h
 ·
  rename_i hc
  cases h
  exact ⟨by rw [hs, ← hc.2.1], by rw [hd, hc.2.2], [], cs, [], by simp, hc.1.symm, by rw [Reads.len _ _ hr, Reads.len _ _ hn, hs, hc.2.1], by simpa using hn⟩
 · cases h
mutual
theorem nM : ∀ (d : D) (off : Nat) (new d'' : D) (cs mid' : List Value), d.upd off new = some d'' → Reads ok w d cs → Reads ok w new mid' →
  d''.size = d.size ∧ d''.agg = d.agg ∧ ∃ pre mid post, cs = pre ++ mid ++ post ∧ pre.length = off ∧ mid.length = mid'.length ∧ Reads ok w d'' (pre ++ mid' ++ post)
 | .tup ds, off, new, d'', cs, mid', h, hr, hn => by
  rw [D.upd] at h
  split at h
  ·
   rename_i hc
   cases h
   have hl := Reads.len _ _ hr
   refine ⟨hc.2.1.symm, hc.2.2, [], cs, [], by simp, hc.1.symm, ?_, by simpa using hn⟩
   rw [hl, Reads.len _ _ hn]
   exact hc.2.1
  ·
   rw [Reads] at hr
   cases hu : D.vM ds off new with
   | none => rw [hu] at h; cases h
   | some ds' =>
    rw [hu] at h
    cases h
    obtain ⟨e1, pre, mid, post, h1, h2, h3, h4⟩ := AP ds off new ds' cs mid' hu hr hn
    exact ⟨e1, rfl, pre, mid, post, h1, h2, h3, by rw [Reads]; exact h4⟩
 | .arr n l, off, new, d'', cs, mid', h, hr, hn => by
  rw [D.upd] at h
  split at h
  ·
   rename_i hc
   cases h
   refine ⟨hc.2.1.symm, hc.2.2, [], cs, [], by simp, hc.1.symm, ?_, by simpa using hn⟩
   rw [Reads.len _ _ hr, Reads.len _ _ hn]
   exact hc.2.1
  · cases h
 | .v x, off, new, d'', cs, mid', h, hr, hn => qm (by simpa only [D.upd] using h) rfl rfl hr hn
 | .bs l, off, new, d'', cs, mid', h, hr, hn => qm (by simpa only [D.upd] using h) rfl rfl hr hn
 | .sl z ds, off, new, d'', cs, mid', h, hr, hn => qm (by simpa only [D.upd] using h) rfl rfl hr hn
 | .pd d, off, new, d'', cs, mid', h, hr, hn => qm (by simpa only [D.upd] using h) rfl rfl hr hn
 | .ifc t d, off, new, d'', cs, mid', h, hr, hn => qm (by simpa only [D.upd] using h) rfl rfl hr hn
theorem AP : ∀ (ds : List D) (off : Nat) (new : D) (ds' : List D) (cs mid' : List Value), D.vM ds off new = some ds' → bU ok w ds cs → Reads ok w new mid' →
  D.sizes ds' = D.sizes ds ∧ ∃ pre mid post, cs = pre ++ mid ++ post ∧ pre.length = off ∧ mid.length = mid'.length ∧ bU ok w ds' (pre ++ mid' ++ post)
 | [], off, new, ds', cs, mid', h, hr, hn => by rw [D.vM] at h; cases h
 | d :: ds, off, new, ds', cs, mid', h, hr, hn => by
  rw [D.vM] at h
  rw [bU] at hr
  obtain ⟨c1, c2, rfl, g2, g3⟩ := hr
  have hl := Reads.len d c1 g2
  split at h
  ·
   cases hu : d.upd off new with
   | none => rw [hu] at h; cases h
   | some e =>
    rw [hu] at h
    cases h
    obtain ⟨e1, e2, pre, mid, post, rfl, h2, h3, h4⟩ := nM d off new e c1 mid' hu g2 hn
    refine ⟨by rw [D.sizes, D.sizes, e1], pre, mid, post ++ c2, by simp, h2, h3, ?_⟩
    rw [bU]
    exact ⟨_, c2, by simp, h4, g3⟩
  ·
   cases hu : D.vM ds (off - d.size) new with
   | none => rw [hu] at h; cases h
   | some es =>
    rw [hu] at h
    cases h
    obtain ⟨e1, pre, mid, post, rfl, h2, h3, h4⟩ := AP ds (off - d.size) new es c2 mid' hu g3 hn
    refine ⟨by rw [D.sizes, D.sizes, e1], c1 ++ pre, mid, post, by simp, by rw [List.length_append]; omega, h3, ?_⟩
    rw [bU]
    exact ⟨c1, _, by simp, g2, h4⟩
end
end
end E
end Go.Proofs.YtelbhdobjdnglaaGreat
