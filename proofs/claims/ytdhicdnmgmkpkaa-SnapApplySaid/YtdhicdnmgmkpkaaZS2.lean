/-
  Merged (wip/tools/merge.py): Base, Rlp, Grow, Str, Arr, Rd.
  Conditions: none.
-/
import Derived.Test.YtdhicdnmgmkpkaaZS1
import Derived.WalkKit
import Derived.WalkSpells
import Derived.WalkLawsBesides
import Derived.Maps.AppendAt
import Derived.Laws.BytesString
import Derived.Laws.IdiomStrings
import Derived.Lib.Hide
import Derived.Test.YtdhicdnmgmkpkaaRows
import Derived.ArgAppend
import Derived.Lib.SlBytesConst
import Derived.OwnWalk
import Derived.Laws.Rows
import Derived.Laws.Tables
import Derived.Deep.WholeRow
import Derived.Stop.BytesEq
/-
  Words for memory: a slice that reads as a list of cells, a row that the call owns, what an append leaves; bytes.
  Conditions: none.
-/
namespace Go.Proofs.Ytdhicdnmgmkpkaa
open Go.RowKit Mono
/-! ### A slice that reads as a list of cells -/
def Rd (w : World) (B : Nat) (A : Option Addr) (xs : List Value) : Prop :=
  xs ≠ [] → ∃ b o, A = some ⟨b, o, none⟩ ∧ b < B ∧ ∀ j u, xs[j]? = some u → w.cell? ⟨b, o + j, none⟩ = some u
theorem add_none (b o m : Nat) : (⟨b, o, none⟩ : Addr).add m = ⟨b, o + m, none⟩ := by
  unfold Addr.add
  split
  · subst_vars; rfl
  · rfl
section
variable {w w' : World} {B B' : Nat} {A : Option Addr} {xs : List Value}
theorem Rd.nil : Rd w B A [] := fun h => absurd rfl h
theorem Rd.keep (h : Rd w B A xs) (hk : ∀ p : Addr, p.block < B → w'.cell? p = w.cell? p) : Rd w' B A xs := fun hn => by
  obtain ⟨b, o, e, hb, hc⟩ := h hn
  exact ⟨b, o, e, hb, fun j u hu => (hk _ hb).trans (hc j u hu)⟩
theorem Rd.more (h : Rd w B A xs) (hB : B ≤ B') : Rd w B' A xs := fun hn => by
  obtain ⟨b, o, e, hb, hc⟩ := h hn
  exact ⟨b, o, e, by omega, hc⟩
theorem Rd.below (h : Rd w B A xs) (hb : Below B w w') : Rd w' B A xs := h.keep fun _ hp => hb.cell hp
theorem Rd.gr (h : Rd w w.heap.size A xs) (hb : Gr w w') : Rd w' w'.heap.size A xs := (h.below hb).more hb.size
theorem Rd.take (h : Rd w B A xs) (m : Nat) : Rd w B A (xs.take m) := fun hn => by
  obtain ⟨b, o, e, hb, hc⟩ := h (fun e => hn (by rw [e]; simp))
  refine ⟨b, o, e, hb, fun j u hu => hc j u ?_⟩
  rw [List.getElem?_take] at hu
  split at hu
  · exact hu
  · cases hu
theorem Rd.cut (h : Rd w B A xs) {k n cap size : Nat} (hn : xs.length = n * size) (hc : n ≤ cap) :
    Rd w B (if cap = k then A else A.map (·.add (k * size))) (xs.drop (k * size)) := fun hne => by
  have hlt : k * size < xs.length := by
    rcases Nat.lt_or_ge (k * size) xs.length with h1 | h1
    · exact h1
    · exact absurd (List.drop_eq_nil_of_le h1) hne
  have hk : k < n := by
    rcases Nat.lt_or_ge k n with h1 | h1
    · exact h1
    · have := Nat.mul_le_mul_right size h1
      omega
  obtain ⟨b, o, rfl, hb, hcell⟩ := h (fun e => by rw [e] at hlt; simp at hlt)
  rw [if_neg (by omega)]
  refine ⟨b, o + k * size, by simp [add_none], hb, fun j u hu => ?_⟩
  rw [Nat.add_assoc]
  exact hcell _ u (by rw [← hu, List.getElem?_drop])
theorem Rd.of_own {base : Nat} {e : TypeId} {size n c : Nat} (h : w.ownsRow base e size (.slice A n c) n xs) : Rd w w.heap.size A xs := fun hn => by
  rcases h.2 with ⟨hv, hz⟩ | ⟨g, cap, cur, hv, _, hh, _, _, _, ht⟩
  · subst hz
    have := h.1
    rw [Nat.zero_mul] at this
    exact absurd (List.eq_nil_of_length_eq_zero this) hn
  · injection hv with hA _ _
    subst hA
    have hg : g < w.heap.size := by
      rcases Nat.lt_or_ge g w.heap.size with h1 | h1
      · exact h1
      · rw [Array.getElem?_eq_none h1] at hh; cases hh
    refine ⟨g, 0, rfl, hg, fun j u hu => ?_⟩
    have := h.cells (g := g) rfl j u hu
    rwa [add_none] at this
theorem Rd.new (w : World) (cs : Array Value) (e : TypeId) : Rd (w.alloc (.cells cs e)) (w.heap.size + 1) (some ⟨w.heap.size, 0, none⟩) cs.toList := fun _ =>
  ⟨w.heap.size, 0, rfl, by omega, fun j u hu => by
    rw [cell_of_row _ _ _ cs e (0, 0) (heap_alloc_new w _)]
    simpa using hu⟩
end
theorem below_drewN {B : Nat} {a w : World} (h : Below B a w) (n : Nat) : Below B a (w.drewN n) := ⟨h.os, h.tape, h.output, h.size, h.block⟩
attribute [go_sem] After
theorem later_cell {w : World} {p : Addr} {v : Value} (hp : p.block < w.heap.size) (h : w.cell? p = some v) (x : Later w) : x.1.cell? p = some v := (x.2.cell hp).trans h
/-! ### Slice types -/
structure SlT (P : Program) (t e : TypeId) (size bytes : Nat) : Prop where
  und : P.underlying t = some (.slice e)
  info : ∃ i z, P.info? e = some i ∧ i.zero = some z ∧ i.size = size ∧ i.bytes = bytes ∧ z.cells.size = size
  pos : 0 < size
theorem own_form {w : World} {base : Nat} {e : TypeId} {size : Nat} {v : Value} {n : Nat} {xs : List Value} (h : w.ownsRow base e size v n xs) :
    ∃ A c, v = .slice A n c ∧ n ≤ c ∧ c ≤ maxLen := by
  rcases h.2 with ⟨rfl, rfl⟩ | ⟨g, cap, cur, rfl, _, _, h1, h2, _, _⟩
  · exact ⟨none, 0, rfl, Nat.le_refl _, by simp [maxLen]⟩
  · exact ⟨_, cap, rfl, h1, h2⟩
theorem own_base {w : World} {base base' : Nat} {e : TypeId} {size : Nat} {v : Value} {n : Nat} {xs : List Value} (h : w.ownsRow base e size v n xs) (hb : base' ≤ base) : w.ownsRow base' e size v n xs := by
  refine ⟨h.1, ?_⟩
  rcases h.2 with h | ⟨g, cap, cur, h1, h2, h3⟩
  · exact .inl h
  · exact .inr ⟨g, cap, cur, h1, Nat.le_trans hb h2, h3⟩
theorem own_gr {w w' : World} {base : Nat} {e : TypeId} {size : Nat} {v : Value} {n : Nat} {xs : List Value} (h : w.ownsRow base e size v n xs) (hg : Gr w w') : w'.ownsRow base e size v n xs := by
  refine ⟨h.1, ?_⟩
  rcases h.2 with h | ⟨g, cap, cur, h1, h2, h3, h4⟩
  · exact .inl h
  · refine .inr ⟨g, cap, cur, h1, h2, ?_, h4⟩
    rw [hg.block g (by
      rcases Nat.lt_or_ge g w.heap.size with h5 | h5
      · exact h5
      · rw [Array.getElem?_eq_none h5] at h3; cases h3)]
    exact h3
theorem own_block_ge {w : World} {base : Nat} {e : TypeId} {size : Nat} {v : Value} {n : Nat} {xs : List Value} (h : w.ownsRow base e size v n xs) (k : Nat) (hk : v.ownBlock = some k) : base ≤ k := (h.lt k hk).1
section
variable {P : Program} {w : World}
theorem run_append_nil {base t ty e size bytes : Nat} (T : SlT P t e size bytes) {v : Value} {n : Nat} {xs : List Value} (hown : w.ownsRow base e size v n xs) (c : Nat) :
    (Builtin.append_ #[t, t] ty #[v, .slice none 0 c]).run P w = .ok v w := by
  obtain ⟨i, z, hi, _, hsize, _, _⟩ := T.info
  rcases hown.2 with ⟨rfl, rfl⟩ | ⟨g, cap, cur, rfl, _, _, hnc, _⟩
  · simp [Builtin.append_, run_underlying T.und, sizeOf, typeInfo, hi, Builtin.lenOf, Builtin.firstCells]
  · simp [Builtin.append_, run_underlying T.und, sizeOf, typeInfo, hi, Builtin.lenOf, Builtin.firstCells, hnc, storeCells]
theorem run_append_rd {base t ty e size bytes : Nat} (T : SlT P t e size bytes) {v : Value} {n : Nat} {xs : List Value} (hown : w.ownsRow base e size v n xs)
    {A : Option Addr} {m c B : Nat} {news : List Value} (hl : news.length = m * size) (hr : Rd w B A news) (h1 : ∀ u ∈ news, u.oneCell' = true)
    (h63 : n + m ≤ maxLen) (hbytes : (n + m) * bytes ≤ 140737488355328) (hbase : base ≤ w.heap.size) :
    ∃ A' c' w', (Builtin.append_ #[t, t] ty #[v, .slice A m c]).run P w = .ok (.slice A' (n + m) c') w' ∧ w'.ownsRow base e size (.slice A' (n + m) c') (n + m) (xs ++ news) ∧ w.grownBy w' v.ownBlock ∧
      ((Value.slice A' (n + m) c').ownBlock = v.ownBlock ∨ (Value.slice A' (n + m) c').ownBlock = some w.heap.size) := by
  have hnil : A = none → m = 0 ∧ news = [] := fun h => by
    by_cases hn : news = []
    · subst hn
      have : m * size = 0 := by simpa using hl.symm
      rcases Nat.mul_eq_zero.1 this with h0 | h0
      · exact ⟨h0, rfl⟩
      · have := T.pos; omega
    · obtain ⟨b, o, e, _⟩ := hr hn
      rw [h] at e; cases e
  cases A with
  | none =>
    obtain ⟨rfl, rfl⟩ := hnil rfl
    obtain ⟨A', c', rfl, _, _⟩ := own_form hown
    refine ⟨A', c', w, run_append_nil T hown c, by simpa using hown, World.grownBy.refl w _, .inl rfl⟩
  | some ad =>
    have hcells : ∀ j u, news[j]? = some u → w.cell? (ad.add j) = some u := fun j u hu => by
      obtain ⟨b, o, e, _, hc⟩ := hr (fun e => by rw [e] at hu; simp at hu)
      injection e with e
      subst e
      rw [add_none]
      exact hc j u hu
    obtain ⟨i, z, hi, hz, hsize, hby, hzs⟩ := T.info
    obtain ⟨v', w', hrun, h2, h3, _, h5⟩ := run_append_own_at (P := P) w base t ty e i z size bytes T.und hi hz hsize hby hzs T.pos v n xs hown ad m c news hl hcells h1 h63 hbytes hbase
    obtain ⟨A', c', rfl, _, _⟩ := own_form h2
    exact ⟨A', c', w', hrun, h2, h3, h5⟩
theorem wpL_append {ops : Array Oper} {rest : List Oper} {o : Oper} {a : Act} {Q : Exit → Act → World → Prop} (s x : Operand) (t : TypeId)
    {base e size bytes : Nat} (T : SlT P t e size bytes) (v : Value) (n : Nat) (xs : List Value) (A : Option Addr) (m c B : Nat) (news : List Value)
    (hgd : o.guard = none) (ho : o.op = .call { callee := .builtin .append, args := #[s, x], argTypes := #[t, t] }) (hs : a.eval s = v) (hx : a.eval x = .slice A m c)
    (hown : w.ownsRow base e size v n xs) (hr : Rd w B A news) (hl : news.length = m * size) (h1 : ∀ u ∈ news, u.oneCell' = true)
    (h63 : n + m ≤ maxLen) (hbytes : (n + m) * bytes ≤ 140737488355328) (hbase : base ≤ w.heap.size)
    (h : ∀ A' c' w', w'.ownsRow base e size (.slice A' (n + m) c') (n + m) (xs ++ news) → w.grownBy w' v.ownBlock →
      ((Value.slice A' (n + m) c').ownBlock = v.ownBlock ∨ (Value.slice A' (n + m) c').ownBlock = some w.heap.size) → wpList P ops Q rest (a.put o.dst (.slice A' (n + m) c')) w') : wpList P ops Q (o :: rest) a w := by
  refine wpList_plain hgd fun _ hK => ?_
  obtain ⟨A', c', w', hrun, h2, h3, h4⟩ := run_append_rd (P := P) (ty := o.type) T hown hl hr h1 h63 hbytes hbase (c := c)
  unfold Oper.wp execOp
  simp only [ho, resolve, invoke, builtin, Sem.run_bind, Sem.run_pure, Result.andThen_ok, List.map_toArray, List.map_cons, List.map_nil, hs, hx, hrun]
  exact hK _ _ (h A' c' w' h2 h3 h4)
end
theorem own_lit (w : World) (cs : Array Value) (e : TypeId) (size n g base : Nat) (hg : w.heap.size = g) (hb : base ≤ w.heap.size) (hm : n ≤ maxLen) (hs : cs.size = n * size) :
    (w.alloc (.cells cs e)).ownsRow base e size (.slice (some ⟨g, 0, none⟩) n n) n cs.toList := by
  subst hg
  exact World.ownsRow_lit w cs n hb hm hs
/-! ### Bytes -/
def bv (b : UInt8) : Value := .int .u8 b.toNat
def bvs (l : List UInt8) : List Value := l.map bv
theorem bvs_length (l : List UInt8) : (bvs l).length = l.length := by simp [bvs]
theorem bvs_append (l m : List UInt8) : bvs (l ++ m) = bvs l ++ bvs m := by simp [bvs]
theorem bvs_take (l : List UInt8) (k : Nat) : bvs (l.take k) = (bvs l).take k := by simp [bvs, List.map_take]
theorem bvs_drop (l : List UInt8) (k : Nat) : bvs (l.drop k) = (bvs l).drop k := by simp [bvs, List.map_drop]
theorem bvs_one (l : List UInt8) : ∀ u ∈ bvs l, u.oneCell' = true := by
  intro u hu
  obtain ⟨b, _, rfl⟩ := List.mem_map.1 hu
  rfl
theorem bvs_at (l : List UInt8) (j : Nat) (h : j < l.length) : (bvs l)[j]? = some (bv l[j]) := by simp [bvs, h]
theorem bv_lt (b : UInt8) : b.toNat < 256 := b.toNat_lt
def IsB (w : World) (v : Value) (l : List UInt8) : Prop :=
  ∃ A c, v = .slice A l.length c ∧ l.length ≤ c ∧ c ≤ maxLen ∧ Rd w w.heap.size A (bvs l)
def OwnB (w : World) (base : Nat) (v : Value) (l : List UInt8) : Prop := w.ownsRow base 5 1 v l.length (bvs l)
theorem isB_cut {w : World} {A : Option Addr} {l : List UInt8} {n c : Nat} (k : Nat) (h : Rd w w.heap.size A (bvs l)) (hn : l.length = n) (hc : n ≤ c) (hm : c ≤ maxLen) (hk : k ≤ n) :
    IsB w (.slice (if c = k then A else A.map (·.add k)) (n - k) (c - k)) (l.drop k) := by
  refine ⟨_, c - k, by rw [List.length_drop, hn], by rw [List.length_drop]; omega, by omega, ?_⟩
  have := h.cut (k := k) (n := n) (cap := c) (size := 1) (by rw [bvs_length]; omega) hc
  simpa [bvs_drop] using this
theorem isB_cut' {w : World} {b o : Nat} {l : List UInt8} {n c : Nat} (k : Nat) (h : Rd w w.heap.size (some ⟨b, o, none⟩) (bvs l)) (hn : l.length = n) (hc : n ≤ c) (hm : c ≤ maxLen) (hk : k ≤ n) (hne : c ≠ k) :
    IsB w (.slice (some ⟨b, o + k, none⟩) (n - k) (c - k)) (l.drop k) := by
  have := isB_cut k h hn hc hm hk
  rw [if_neg hne] at this
  simpa [add_none] using this
theorem OwnB.isB {w : World} {base : Nat} {v : Value} {l : List UInt8} (h : OwnB w base v l) : IsB w v l := by
  obtain ⟨A, c, rfl, h1, h2⟩ := own_form h
  exact ⟨A, c, rfl, h1, h2, Rd.of_own h⟩
theorem IsB.gr {w w' : World} {v : Value} {l : List UInt8} (h : IsB w v l) (hg : Gr w w') : IsB w' v l := by
  obtain ⟨A, c, rfl, h1, h2, h3⟩ := h
  exact ⟨A, c, rfl, h1, h2, h3.gr hg⟩
theorem stable_isB (l : List UInt8) : Stable fun v w => IsB w v l := fun _ _ _ hg h => h.gr hg
theorem ownB_of {w : World} {base : Nat} {v : Value} {n : Nat} {xs : List Value} {l : List UInt8} (h : w.ownsRow base 5 1 v n xs) (hx : xs = bvs l) : OwnB w base v l := by
  subst hx
  have := h.1
  rw [bvs_length, Nat.mul_one] at this
  unfold OwnB
  rw [this]
  exact h
theorem isB_new (w : World) (cs : Array Value) (l : List UInt8) (h : cs.toList = bvs l) (hn : l.length ≤ maxLen) : IsB (w.alloc (.cells cs 5)) (.slice (some ⟨w.heap.size, 0, none⟩) l.length l.length) l := by
  refine ⟨_, _, rfl, Nat.le_refl _, hn, ?_⟩
  rw [← h]
  have := Rd.new w cs 5
  simpa using this
theorem IsB.nil (w : World) : IsB w (.slice none 0 0) [] := ⟨none, 0, rfl, Nat.le_refl _, by simp [maxLen], Rd.nil⟩
theorem OwnB.nil (w : World) (base : Nat) : OwnB w base (.slice none 0 0) [] := World.ownsRow_nil _ _ _ _
theorem growsTo_append_nil {P : Program} {t : TypeId} (T : SlT P t 5 1 1) {w : World} {o : Oper} {a : Act} {x : Operand} {v : Value} {l : List UInt8}
    (ho : o.op = .call { callee := .builtin .append, args := #[.const (.slice none 0 0), x], argTypes := #[t, t] }) (hx : a.eval x = v) (h : IsB w v l) (hl : l.length ≤ 140737488355328 := by simp; omega) :
    growsTo P (fun v w' => IsB w' v l) w ((execOp a.eval o).run P w) := by
  obtain ⟨A, c, rfl, h1, h2, hr⟩ := h
  obtain ⟨A', c', w', hrun, hown, hg, hb⟩ := run_append_rd (P := P) (ty := o.type) T (World.ownsRow_nil w w.heap.size _ _) (m := l.length) (c := c) (news := bvs l) (by rw [bvs_length]; omega) hr (bvs_one _) (by simp only [maxLen] at *; omega) (by omega) (Nat.le_refl _)
  have hs : a.eval (.const (.slice none 0 0)) = .slice none 0 0 := rfl
  unfold execOp
  simp only [ho, resolve, invoke, builtin, Sem.run_bind, Sem.run_pure, Result.andThen_ok, List.map_toArray, List.map_cons, List.map_nil, hs, hx, hrun]
  refine ⟨⟨hg.os, hg.tape, hg.output, hg.size, fun k hk => hg.block k hk (by simp [Value.ownBlock])⟩, ?_⟩
  have := OwnB.isB (w := w') (base := w.heap.size) (v := .slice A' (0 + l.length) c') (l := l) (by unfold OwnB; simpa using hown)
  exact this
def Ret (V : VP) (w : World) (e : Ending) (w' : World) : Prop := ∃ v, e = .returned v ∧ Gr w w' ∧ V v w'
theorem slT_bytes : SlT Try.prog 34 5 1 1 :=
  ⟨Try.underlying34, by
    have h : (Try.prog.info? 5).map (fun i => (i.zero, i.size, i.bytes)) = some (some (.int .u8 0), 1, 1) := by kernel_rfl
    obtain ⟨i, hi, hz, h1, h2⟩ := info_parts h
    exact ⟨i, _, hi, hz, h1, h2, rfl⟩, by omega⟩
end Go.Proofs.Ytdhicdnmgmkpkaa
/-
  Items in plain words: their bytes, how they are measured, packed and read.
  Conditions: none. No program is named here.
-/
namespace Go.Proofs.Ytdhicdnmgmkpkaa
namespace Rlp
inductive Raw where
  | mk (list : Bool) (bs : List UInt8) (xs : List Raw)
abbrev most : Nat := 16777216
/-! ### A number's bytes -/
def le (n : Nat) : List UInt8 := if h : n = 0 then [] else UInt8.ofNat n :: le (n / 256)
termination_by n
decreasing_by omega
def be (n : Nat) : List UInt8 := (le n).reverse
theorem le_zero : le 0 = [] := by unfold le; rfl
theorem le_pos (n : Nat) (h : 0 < n) : le n = UInt8.ofNat n :: le (n / 256) := by
  conv => lhs; unfold le
  rw [dif_neg (by omega)]
theorem be_zero : be 0 = [] := by unfold be; rw [le_zero]; rfl
theorem be_pos (n : Nat) (h : 0 < n) : be n = be (n / 256) ++ [UInt8.ofNat n] := by unfold be; rw [le_pos n h, List.reverse_cons]
theorem le_length (k : Nat) : ∀ n, n < 256 ^ k → (le n).length ≤ k := by
  induction k with
  | zero => intro n h; have : n = 0 := by simpa using h
            subst this; rw [le_zero]; simp
  | succ k ih =>
    intro n h
    rcases Nat.eq_zero_or_pos n with h0 | h0
    · subst h0; rw [le_zero]; simp
    · rw [le_pos n h0, List.length_cons]
      have := ih (n / 256) (by rw [Nat.pow_succ] at h; omega)
      omega
theorem be_length (k n : Nat) (h : n < 256 ^ k) : (be n).length ≤ k := by unfold be; rw [List.length_reverse]; exact le_length k n h
def val (l : List UInt8) : Nat := l.foldl (fun n b => n * 256 + b.toNat) 0
theorem val_snoc (l : List UInt8) (b : UInt8) : val (l ++ [b]) = val l * 256 + b.toNat := by simp [val]
theorem val_be : ∀ n, val (be n) = n := by
  intro n
  induction n using Nat.strongRecOn with
  | ind n ih =>
    rcases Nat.eq_zero_or_pos n with h0 | h0
    · subst h0; rw [be_zero]; rfl
    · rw [be_pos n h0, val_snoc, ih (n / 256) (by omega), UInt8.toNat_ofNat']
      omega
theorem be_head (n : Nat) (h : 0 < n) : ∃ b l, be n = b :: l ∧ b ≠ 0 := by
  induction n using Nat.strongRecOn with
  | ind n ih =>
    rw [be_pos n h]
    rcases Nat.eq_zero_or_pos (n / 256) with h0 | h0
    · rw [h0, be_zero]
      refine ⟨UInt8.ofNat n, [], rfl, fun e => ?_⟩
      have h1 := congrArg UInt8.toNat e
      rw [UInt8.toNat_ofNat'] at h1
      have h2 : (0 : UInt8).toNat = 0 := rfl
      rw [h2] at h1
      omega
    · obtain ⟨b, l, h1, h2⟩ := ih (n / 256) (by omega) h0
      exact ⟨b, l ++ [UInt8.ofNat n], by rw [h1]; rfl, h2⟩
theorem val_pos (l : List UInt8) : ∀ b, b ≠ 0 → 0 < val (b :: l) := by
  intro b hb
  have hb0 : 0 < b.toNat := by
    rcases Nat.eq_zero_or_pos b.toNat with h0 | h0
    · exact absurd (UInt8.toNat_inj.1 (by rw [h0]; rfl)) hb
    · exact h0
  have h : ∀ (l : List UInt8) (n : Nat), 0 < n → 0 < l.foldl (fun n b => n * 256 + b.toNat) n := by
    intro l
    induction l with
    | nil => exact fun _ h => h
    | cons c l ih => exact fun n h => ih _ (show 0 < n * 256 + c.toNat by omega)
  exact h l _ (show 0 < 0 * 256 + b.toNat by omega)
theorem be_val : ∀ l : List UInt8, l.head? ≠ some 0 → be (val l) = l := by
  intro l
  induction h : l.length generalizing l with
  | zero =>
    intro _
    obtain rfl := List.eq_nil_of_length_eq_zero h
    exact be_zero
  | succ k ih =>
    intro hh
    have hne : l ≠ [] := fun e => by rw [e] at h; simp at h
    obtain ⟨m, b, rfl⟩ : ∃ m b, l = m ++ [b] := ⟨l.dropLast, l.getLast hne, (List.dropLast_concat_getLast hne).symm⟩
    have hm : m.length = k := by simpa using h
    have hbl := b.toNat_lt
    rw [val_snoc]
    rcases m with _ | ⟨c, m⟩
    · have hb : b ≠ 0 := fun e => hh (by rw [e]; rfl)
      have hb0 : 0 < b.toNat := by
        rcases Nat.eq_zero_or_pos b.toNat with h0 | h0
        · exact absurd (UInt8.toNat_inj.1 (by rw [h0]; rfl)) hb
        · exact h0
      have h1 : val ([] : List UInt8) = 0 := rfl
      rw [h1, Nat.zero_mul, Nat.zero_add, be_pos _ hb0, show b.toNat / 256 = 0 by omega, be_zero, UInt8.ofNat_toNat]
    · have hc : c ≠ 0 := fun e => hh (by rw [e]; rfl)
      have hv := val_pos m c hc
      rw [be_pos _ (by omega), show (val (c :: m) * 256 + b.toNat) / 256 = val (c :: m) by omega, ih (c :: m) hm (fun e => hc (by simpa using e))]
      have : UInt8.ofNat (val (c :: m) * 256 + b.toNat) = b := by
        apply UInt8.toNat_inj.1
        rw [UInt8.toNat_ofNat']
        omega
      rw [this]
/-! ### Heads and items -/
def head (n base : Nat) : List UInt8 := if n < 56 then [UInt8.ofNat (base + n)] else UInt8.ofNat (base + 55 + (be n).length) :: be n
def szB (n : Nat) : Nat := if n < 56 then 1 + n else 1 + (be n).length + n
theorem head_length (n base : Nat) : (head n base).length + n = szB n := by
  unfold head szB
  split
  · simp
  · simp; omega
def EB (bs : List UInt8) : List UInt8 := if bs.length = 1 ∧ bs.getD 0 0 < 128 then bs else head bs.length 128 ++ bs
mutual
def E : Raw → List UInt8
  | .mk false bs _ => EB bs
  | .mk true _ xs => head (EL xs).length 192 ++ EL xs
def EL : List Raw → List UInt8
  | [] => []
  | x :: xs => E x ++ EL xs
end
def szE (bs : List UInt8) : Nat := if bs.length = 1 ∧ bs.getD 0 0 < 128 then 1 else szB bs.length
theorem EB_length (bs : List UInt8) : (EB bs).length = szE bs := by
  unfold EB szE
  split
  · rename_i h; exact h.1
  · rw [List.length_append, head_length]
mutual
def meas : Raw → Nat → Option Nat
  | .mk false bs _, _ => if bs.length ≤ most then some (szE bs) else none
  | .mk true _ xs, d => if d = 32 then none else (measL xs (d + 1) 0).map szB
def measL : List Raw → Nat → Nat → Option Nat
  | [], _, n => some n
  | x :: xs, d, n => match meas x d with
    | none => none
    | some k => if n + k > most then none else measL xs d (n + k)
end
mutual
def packR : Raw → Option (List UInt8)
  | .mk false bs _ => if bs.length > most then none else some (EB bs)
  | .mk true _ xs => (packRL xs []).map fun l => head l.length 192 ++ l
def packRL : List Raw → List UInt8 → Option (List UInt8)
  | [], acc => some acc
  | x :: xs, acc => match packR x with
    | none => none
    | some b => if acc.length + b.length > most then none else packRL xs (acc ++ b)
end
mutual
def deepR : Raw → Nat → Nat
  | .mk false _ _, _ => 0
  | .mk true _ _, 0 => 1
  | .mk true _ xs, m + 1 => maxD xs m 0 + 1
def maxD : List Raw → Nat → Nat → Nat
  | [], _, n => n
  | x :: xs, m, n => maxD xs m (if deepR x m > n then deepR x m else n)
end
theorem maxD_le : ∀ (xs : List Raw) (m n k : Nat), maxD xs m n ≤ k ↔ n ≤ k ∧ ∀ x ∈ xs, deepR x m ≤ k
  | [], m, n, k => by simp [maxD]
  | x :: xs, m, n, k => by
    rw [maxD, maxD_le xs]
    constructor
    · rintro ⟨h1, h2⟩
      split at h1
      · refine ⟨by omega, fun y hy => ?_⟩
        rcases List.mem_cons.1 hy with rfl | hy
        · exact h1
        · exact h2 y hy
      · refine ⟨h1, fun y hy => ?_⟩
        rcases List.mem_cons.1 hy with rfl | hy
        · omega
        · exact h2 y hy
    · rintro ⟨h1, h2⟩
      refine ⟨?_, fun y hy => h2 y (by simp [hy])⟩
      split
      · exact h2 x (by simp)
      · exact h1
theorem EL_append : ∀ xs ys : List Raw, EL (xs ++ ys) = EL xs ++ EL ys
  | [], ys => rfl
  | x :: xs, ys => by rw [List.cons_append, EL, EL, EL_append xs ys, List.append_assoc]
theorem measL_append : ∀ (xs ys : List Raw) (d n : Nat), measL (xs ++ ys) d n = (measL xs d n).bind fun k => measL ys d k
  | [], ys, d, n => rfl
  | x :: xs, ys, d, n => by
    rw [List.cons_append, measL, measL]
    cases meas x d with
    | none => rfl
    | some k =>
      dsimp only
      split
      · rfl
      · exact measL_append xs ys d (n + k)
theorem packRL_append : ∀ (xs ys : List Raw) (acc : List UInt8), packRL (xs ++ ys) acc = (packRL xs acc).bind fun k => packRL ys k
  | [], ys, acc => rfl
  | x :: xs, ys, acc => by
    rw [List.cons_append, packRL, packRL]
    cases packR x with
    | none => rfl
    | some k =>
      dsimp only
      split
      · rfl
      · exact packRL_append xs ys (acc ++ k)
mutual
theorem meas_E : ∀ (r : Raw) (d n : Nat), meas r d = some n → n = (E r).length
  | .mk false bs _, d, n, h => by
    rw [meas] at h
    split at h
    · rw [E, EB_length]; exact (Option.some.inj h).symm
    · cases h
  | .mk true _ xs, d, n, h => by
    rw [meas] at h
    split at h
    · cases h
    · cases hm : measL xs (d + 1) 0 with
      | none => rw [hm] at h; cases h
      | some k =>
        rw [hm] at h
        have hk := measL_E xs (d + 1) 0 k hm
        have hn : szB k = n := Option.some.inj h
        rw [E, List.length_append, head_length, ← hn, hk, Nat.zero_add]
theorem measL_E : ∀ (xs : List Raw) (d n k : Nat), measL xs d n = some k → k = n + (EL xs).length
  | [], d, n, k, h => by rw [measL] at h; rw [EL]; simpa using (Option.some.inj h).symm
  | x :: xs, d, n, k, h => by
    rw [measL] at h
    cases hx : meas x d with
    | none => rw [hx] at h; cases h
    | some j =>
      rw [hx] at h
      dsimp only at h
      split at h
      · cases h
      · have h1 := measL_E xs d (n + j) k h
        have h2 := meas_E x d j hx
        rw [EL, List.length_append, h1, h2]
        omega
end
mutual
theorem packR_E : ∀ (r : Raw) (b : List UInt8), packR r = some b → b = E r
  | .mk false bs _, b, h => by
    rw [packR] at h
    split at h
    · cases h
    · rw [E]; exact (Option.some.inj h).symm
  | .mk true _ xs, b, h => by
    rw [packR] at h
    cases hm : packRL xs [] with
    | none => rw [hm] at h; cases h
    | some l =>
      rw [hm] at h
      have hl := packRL_E xs [] l hm
      rw [E, ← Option.some.inj h, hl]
      rfl
theorem packRL_E : ∀ (xs : List Raw) (acc l : List UInt8), packRL xs acc = some l → l = acc ++ EL xs
  | [], acc, l, h => by rw [packRL] at h; rw [EL, List.append_nil]; exact (Option.some.inj h).symm
  | x :: xs, acc, l, h => by
    rw [packRL] at h
    cases hx : packR x with
    | none => rw [hx] at h; cases h
    | some j =>
      rw [hx] at h
      dsimp only at h
      split at h
      · cases h
      · have h1 := packRL_E xs (acc ++ j) l h
        have h2 := packR_E x j hx
        rw [EL, h1, h2, List.append_assoc]
end
mutual
theorem meas_pack : ∀ (r : Raw) (d m : Nat), d + m = 32 → ((meas r d).isSome = true ↔ deepR r m ≤ m ∧ (packR r).isSome = true)
  | .mk false bs _, d, m, h => by
    rw [meas, packR, deepR]
    by_cases hb : bs.length ≤ most
    · rw [if_pos hb, if_neg (by omega)]; simp
    · rw [if_neg hb, if_pos (by omega)]; simp
  | .mk true _ xs, d, 0, h => by
    rw [meas, if_pos (by omega), deepR]; simp
  | .mk true _ xs, d, m + 1, h => by
    rw [meas, if_neg (by omega), deepR, packR]
    have h1 := measL_pack xs (d + 1) m (by omega) []
    rw [Option.isSome_map, Option.isSome_map, show maxD xs m 0 + 1 ≤ m + 1 ↔ maxD xs m 0 ≤ m by omega, maxD_le]
    simp only [List.length_nil] at h1
    rw [h1]
    simp
theorem measL_pack : ∀ (xs : List Raw) (d m : Nat), d + m = 32 → ∀ acc : List UInt8, ((measL xs d acc.length).isSome = true ↔ (∀ x ∈ xs, deepR x m ≤ m) ∧ (packRL xs acc).isSome = true)
  | [], d, m, h, acc => by rw [measL, packRL]; simp
  | x :: xs, d, m, h, acc => by
    rw [measL, packRL]
    have h1 := meas_pack x d m h
    cases hx : meas x d with
    | none =>
      rw [hx] at h1
      simp only [Option.isSome_none, Bool.false_eq_true, false_iff] at h1 ⊢
      rintro ⟨h2, h3⟩
      refine h1 ⟨h2 x (by simp), ?_⟩
      cases hp : packR x with
      | none => rw [hp] at h3; cases h3
      | some b => rfl
    | some k =>
      rw [hx] at h1
      obtain ⟨h2, h3⟩ := h1.1 rfl
      cases hp : packR x with
      | none => rw [hp] at h3; cases h3
      | some b =>
        have hk : k = b.length := by rw [meas_E x d k hx, packR_E x b hp]
        dsimp only
        rw [hk]
        split
        · simp
        · have h4 := measL_pack xs d m h (acc ++ b)
          rw [List.length_append] at h4
          rw [h4]
          constructor
          · rintro ⟨h5, h6⟩
            refine ⟨fun y hy => ?_, h6⟩
            rcases List.mem_cons.1 hy with rfl | hy
            · exact h2
            · exact h5 y hy
          · rintro ⟨h5, h6⟩
            exact ⟨fun y hy => h5 y (by simp [hy]), h6⟩
end
mutual
def cnt : Raw → Nat
  | .mk _ _ xs => 1 + cntL xs
def cntL : List Raw → Nat
  | [] => 0
  | x :: xs => cnt x + cntL xs
end
theorem cnt_get : ∀ (xs : List Raw) (k : Nat) (h : k < xs.length), cnt xs[k] ≤ cntL xs
  | [], k, h => by simp at h
  | x :: xs, 0, h => by rw [cntL]; simp
  | x :: xs, k + 1, h => by
    have := cnt_get xs k (by simpa using h)
    rw [cntL]
    simp only [List.getElem_cons_succ]
    omega
def packed (r : Raw) : Option (List UInt8) := match meas r 0 with
  | some n => if n > most then none else some (E r)
  | none => none
theorem packed_ref (r : Raw) : packed r = if deepR r 32 > 32 then none else match packR r with
    | some b => if b.length > most then none else some b
    | none => none := by
  have h := meas_pack r 0 32 rfl
  unfold packed
  cases hm : meas r 0 with
  | none =>
    rw [hm] at h
    simp only [Option.isSome_none, Bool.false_eq_true, false_iff] at h
    dsimp only
    by_cases hd : deepR r 32 > 32
    · rw [if_pos hd]
    · rw [if_neg hd]
      cases hp : packR r with
      | none => rfl
      | some b => exact absurd ⟨by omega, by rw [hp]; rfl⟩ h
  | some n =>
    rw [hm] at h
    obtain ⟨h1, h2⟩ := h.1 rfl
    rw [if_neg (by omega)]
    cases hp : packR r with
    | none => rw [hp] at h2; cases h2
    | some b =>
      have e1 := meas_E r 0 n hm
      have e2 := packR_E r b hp
      dsimp only
      rw [e1, ← e2]
end Rlp
end Go.Proofs.Ytdhicdnmgmkpkaa
/-
  An append that must grow; '[]byte("..")'.
  Conditions: none.
-/
namespace Go.Proofs.Ytdhicdnmgmkpkaa
open Go.RowKit Mono
theorem own_some {w : World} {base e size n c : Nat} {A : Option Addr} {xs : List Value} (h : w.ownsRow base e size (.slice A n c) n xs) (hn : 0 < n) : ∃ g, A = some ⟨g, 0, none⟩ ∧ base ≤ g ∧ g < w.heap.size := by
  rcases h.2 with ⟨_, h0⟩ | ⟨g, cp, cur, hv, hb, hh, _⟩
  · omega
  · injection hv with hA _ _
    refine ⟨g, hA, hb, ?_⟩
    rcases Nat.lt_or_ge g w.heap.size with h1 | h1
    · exact h1
    · rw [Array.getElem?_eq_none h1] at hh; cases hh
def App (w : World) (base e size : Nat) (v : Value) (n : Nat) (xs : List Value) : Prop :=
  w.ownsRow base e size v n xs ∨ ∃ a, v = .slice (some a) n n ∧ xs.length = n * size ∧ Rd w w.heap.size (some a) xs
def AppB (w : World) (base : Nat) (v : Value) (l : List UInt8) : Prop := App w base 5 1 v l.length (bvs l)
theorem App.form {w : World} {base e size n : Nat} {v : Value} {xs : List Value} (h : App w base e size v n xs) (hn : n ≤ maxLen) : ∃ A c, v = .slice A n c ∧ n ≤ c ∧ c ≤ maxLen := by
  rcases h with h | ⟨a, rfl, _, _⟩
  · exact own_form h
  · exact ⟨_, _, rfl, Nat.le_refl _, hn⟩
theorem App.gr {w w' : World} {base e size n : Nat} {v : Value} {xs : List Value} (h : App w base e size v n xs) (hg : Gr w w') : App w' base e size v n xs := by
  rcases h with h | ⟨a, rfl, hl, hr⟩
  · exact .inl (own_gr h hg)
  · exact .inr ⟨a, rfl, hl, hr.gr hg⟩
theorem AppB.isB {w : World} {base : Nat} {v : Value} {l : List UInt8} (h : AppB w base v l) (hn : l.length ≤ maxLen) : IsB w v l := by
  rcases h with h | ⟨a, rfl, _, hr⟩
  · exact OwnB.isB h
  · exact ⟨_, _, rfl, Nat.le_refl _, hn, hr⟩
theorem OwnB.app {w : World} {base : Nat} {v : Value} {l : List UInt8} (h : OwnB w base v l) : AppB w base v l := .inl h
theorem wpL_app {P : Program} {w : World} {ops : Array Oper} {rest : List Oper} {o : Oper} {a : Act} {Q : Exit → Act → World → Prop} (s x : Operand) (t : TypeId)
    {base e size bytes : Nat} (T : SlT P t e size bytes) (v : Value) (n : Nat) (xs : List Value) (A : Option Addr) (m c B : Nat) (news : List Value)
    (hgd : o.guard = none) (ho : o.op = .call { callee := .builtin .append, args := #[s, x], argTypes := #[t, t] }) (hs : a.eval s = v) (hx : a.eval x = .slice A m c)
    (hown : App w base e size v n xs) (hm : 0 < m) (hr : Rd w B A news) (hl : news.length = m * size) (h1 : ∀ u ∈ news, u.oneCell' = true)
    (h63 : n + m ≤ maxLen) (hbytes : (n + m) * bytes ≤ 140737488355328) (hbase : base ≤ w.heap.size)
    (h : ∀ A' c' w', w'.ownsRow base e size (.slice A' (n + m) c') (n + m) (xs ++ news) → Below base w w' → wpList P ops Q rest (a.put o.dst (.slice A' (n + m) c')) w') : wpList P ops Q (o :: rest) a w := by
  rcases hown with hown | ⟨a0, rfl, hlo, hr0⟩
  · refine wpL_append s x t T v n xs A m c B news hgd ho hs hx hown hr hl h1 h63 hbytes hbase fun A' c' w' h2 h3 _ => h A' c' w' h2 ?_
    exact (Below.refl base w).grown h3 hbase fun j hj => own_block_ge hown j hj
  · have hne : news ≠ [] := fun e => by
      rw [e] at hl
      have := Nat.mul_pos hm T.pos
      simp at hl
      omega
    obtain ⟨b, o', rfl, hb, hc⟩ := hr hne
    obtain ⟨i, z, hi, hz, hsize, hby, hzs⟩ := T.info
    refine wpList_append_grows w hgd s x t ho e i z size bytes T.und hi hz hsize hby hzs T.pos (some a0) n n xs hs (fun e => by cases e) hlo (fun b' e j u hj => ?_) ⟨b, o', none⟩ m c news hx hl (fun j u hj => by rw [add_none]; exact hc j u hj) h1 (by omega) h63 hbytes fun v' w' h2 h3 => ?_
    · injection e with e
      subst e
      obtain ⟨b2, o2, e2, _, hc2⟩ := hr0 (fun e => by rw [e] at hj; simp at hj)
      injection e2 with e2
      subst e2
      rw [add_none]
      exact hc2 j u hj
    · obtain ⟨A', c', rfl, _, _⟩ := own_form h2
      exact h A' c' w' (own_base h2 hbase) ((Below.refl base w).grown h3 hbase fun j hj => by cases hj)
theorem rd_marked (w : World) (cs : Array Value) (e : TypeId) (fr : Nat × Nat) : Rd (w.alloc (.cells cs e fr)) (w.heap.size + 1) (some ⟨w.heap.size, 0, none⟩) cs.toList := fun _ =>
  ⟨w.heap.size, 0, rfl, by omega, fun j u hu => by
    rw [cell_of_row _ _ _ cs e fr (heap_alloc_new w _)]
    simpa using hu⟩
theorem conv_const (w : World) (C : Array Value) (n c : Nat) : (convert 34 34 (.slice (some ⟨w.heap.size, 0, none⟩) n c)).run Try.prog (w.alloc (.cells C 5)) = .ok (.slice (some ⟨w.heap.size, 0, none⟩) n c) (w.alloc (.cells C 5 (C.size, C.size + 1))) :=
  Lib.run_convert_bytes_const w 34 5 C n c Try.underlying34 Try.underlying5
theorem wpL_make_bytes {w : World} {ops : Array Oper} {rest : List Oper} {o : Oper} {a : Act} {Q : Exit → Act → World → Prop} (x : Operand) (base n : Nat)
    (hg : o.guard = none) (ho : o.op = Op.makeSlice 34 x x) (hx : a.eval x = .int .i64 (n : Int)) (hn : n ≤ 140737488355328) (hb : base ≤ w.heap.size)
    (h : ∀ w', OwnB w' base (.slice (some ⟨w.heap.size, 0, none⟩) n n) (List.replicate n 0) → Gr w w' → wpList Try.prog ops Q rest (a.put o.dst (.slice (some ⟨w.heap.size, 0, none⟩) n n)) w') : wpList Try.prog ops Q (o :: rest) a w := by
  have hi : (Try.prog.info? 5).map (fun i => (i.zero, i.size, i.bytes)) = some (some (.int .u8 0), 1, 1) := by kernel_rfl
  obtain ⟨i, hi, hz, h1, h2⟩ := info_parts hi
  refine wpList_make_full w hg x x 34 ho base 5 i (.int .u8 0) 1 Try.underlying34 hi hz h1 .i64 .i64 n n n hx hx rfl rfl (by rw [h2]; omega) (by simp only [maxLen]; omega) hb fun w' hown hgr => h w' (ownB_of hown ?_) ?_
  · rw [Nat.mul_one]
    have := toList_madeCells_one (.int .u8 0) n
    simp only [Value.cells]
    rw [this]
    simp [bvs, bv]
  · exact ⟨hgr.os, hgr.tape, hgr.output, hgr.size, fun k hk => hgr.block k hk (by simp)⟩
end Go.Proofs.Ytdhicdnmgmkpkaa
/-
  A string out of bytes.
  Conditions: none.
-/
namespace Go.Proofs.Ytdhicdnmgmkpkaa
open Go.RowKit Mono
theorem loop_eq (b : ByteArray) : ∀ (k i : Nat) (r : List UInt8), b.size - i = k → ByteArray.toList.loop b i r = r.reverse ++ b.data.toList.drop i
  | 0, i, r, h => by
    rw [ByteArray.toList.loop, if_neg (by omega), List.drop_eq_nil_of_le (by simp; have : b.data.size = b.size := rfl; omega)]
    simp
  | k + 1, i, r, h => by
    have hi : i < b.data.toList.length := by simp; have : b.data.size = b.size := rfl; omega
    rw [ByteArray.toList.loop, if_pos (by omega), loop_eq b k (i + 1) _ (by omega), List.drop_eq_getElem_cons hi]
    have : b.get! i = b.data.toList[i] := by
      simp at hi
      show b.data[i]! = _
      simp [hi]
    rw [this]
    simp
theorem toList_data (b : ByteArray) : b.toList = b.data.toList := by
  unfold ByteArray.toList
  rw [loop_eq b b.size 0 [] (by omega)]
  simp
def bs (l : List UInt8) : ByteArray := ⟨l.toArray⟩
theorem bs_toList (l : List UInt8) : (bs l).toList = l := by
  rw [toList_data]
  simp [bs]
theorem bs_beq (l m : List UInt8) : ((bs l).toList == (bs m).toList) = decide (l = m) := by
  rw [bs_toList, bs_toList, Bool.eq_iff_iff]
  simp
theorem conv_bytes {w : World} {v : Value} {l : List UInt8} (h : IsB w v l) : (convert 34 9 v).run Try.prog w = .ok (.string (bs l)) w := by
  obtain ⟨A, c, rfl, h1, h2, hr⟩ := h
  cases A with
  | none =>
    have : l = [] := by
      by_cases hl : bvs l = []
      · simpa [bvs] using hl
      · obtain ⟨b, o, e, _⟩ := hr hl
        cases e
    subst this
    rw [run_convert_bytes_string w _ _ 5 none _ c Try.underlying34 Try.underlying5 Try.underlying9]
    rfl
  | some ad =>
    refine run_convert_bytes_back w _ _ 5 ad c l Try.underlying34 Try.underlying5 Try.underlying9 fun j hj => ?_
    obtain ⟨b, o, e, _, hc⟩ := hr (by intro e; have := bvs_length l; rw [e] at this; simp at this; omega)
    injection e with e
    subst e
    rw [add_none]
    exact hc j _ (bvs_at l j hj)
theorem conv_later {w : World} {v : Value} {l : List UInt8} (h : IsB w v l) (x : Later w) : (convert 34 9 v).run Try.prog x.1 = .ok (.string (bs l)) x.1 := conv_bytes (h.gr x.2)
namespace Mono
section
variable {P : Program} {ops : Array Oper} {C : World → Prop}
def guardFree (ops : Array Oper) (o : Oper) (ts : List Tmp) : Bool :=
  match o.guard with
  | none => true
  | some (g, _) => match dstOf ops g with
    | none => true
    | some d => !ts.contains d
theorem wanted_guard {o : Oper} {a b : Act} (h : ∀ g want d, o.guard = some (g, want) → dstOf ops g = some d → b.tmps.getD d undef = a.tmps.getD d undef) :
    Region.wanted o (yielded ops b.tmps) = Region.wanted o (yielded ops a.tmps) := by
  unfold Region.wanted
  cases hg : o.guard with
  | none => rfl
  | some x =>
    obtain ⟨g, want⟩ := x
    simp only [yielded_eq]
    cases hd : dstOf ops g with
    | none => rfl
    | some d =>
      simp only [Option.bind_some]
      rw [h g want d hg hd]
theorem guard_looks {o : Oper} {g : Nat} {want : Bool} {d : Tmp} (hg : o.guard = some (g, want)) (hd : dstOf ops g = some d) : d ∈ o.looksAt ops := by
  unfold Oper.looksAt
  rw [hg]
  simp only [List.mem_append]
  right
  unfold dstOf at hd
  simp [hd]
theorem wpN_conv {R : Act → World → Prop} {a : Act} {N : List (Tmp × VP)} {o : Oper} {l : List Oper} (t : Tmp) (V : VP) (c : Value) (ht : t ∈ o.looksAt ops) (hN : look N t = some V)
    (hf : (guardFree ops o (N.map (·.1)) && dstFree o (N.map (·.1))) = true) (hw : Region.wanted o (yielded ops a.tmps) = true)
    (hop : ∀ (b : Act) (w : World), C w → V (b.tmps.getD t undef) w → growsTo P (eqV c) w ((execOp b.eval o).run P w)) (hr : wpN P ops C R l (a.put o.dst c) N) : wpN P ops C R (o :: l) a N := by
  simp only [Bool.and_eq_true] at hf
  refine wpN_det c hf.2 (fun b w hC hb => ?_) hr
  have h1 := hb t ht
  unfold phiN at h1
  rw [hN] at h1
  have hwb : Region.wanted o (yielded ops b.tmps) = true := by
    rw [wanted_guard (a := a) (b := b) fun g want d hg hd => ?_, hw]
    have h2 := hb d (guard_looks hg hd)
    have h3 := hf.1
    unfold guardFree at h3
    simp only [hg, hd] at h3
    unfold phiN at h2
    rw [look_none N (by simpa using h3)] at h2
    exact h2
  exact ⟨fun _ => hop b w hC h1, fun hnot => by rw [hwb] at hnot; cases hnot⟩
end
end Mono
theorem conv_slot {o : Oper} {t : Tmp} (ho : o.op = .convert 34 9 (.tmp t)) {l : List UInt8} (b : Act) (w : World) (h : IsB w (b.tmps.getD t undef) l) : growsTo Try.prog (eqV (.string (bs l))) w ((execOp b.eval o).run Try.prog w) := by
  have hr := conv_bytes h
  have he : b.eval (.tmp t) = b.tmps.getD t undef := rfl
  unfold execOp
  simp only [ho, he, Sem.run_bind, Sem.run_pure, hr, Result.andThen_ok]
  exact ⟨Gr.refl w, rfl⟩
end Go.Proofs.Ytdhicdnmgmkpkaa
/-
  Arrays of bytes; slices of slices of bytes; rows.
  Conditions: none.
-/
namespace Go.Proofs.Ytdhicdnmgmkpkaa
open Go.RowKit Mono
theorem lt_of_some {w : World} {g : Nat} {o : Obj} (h : w.heap[g]? = some o) : g < w.heap.size := by
  rcases Nat.lt_or_ge g w.heap.size with h1 | h1
  · exact h1
  · rw [Array.getElem?_eq_none h1] at h; cases h
theorem bvs_set (l : List UInt8) (k : Nat) (b : UInt8) : (bvs l).set k (bv b) = bvs (l.set k b) := by simp [bvs, List.map_set]
theorem heap_setRow_same (w : World) (g : Nat) (cs cs' : Array Value) (t : TypeId) (hg : w.heap[g]? = some (.cells cs t (0, 0))) : (w.setRow g cs').heap[g]? = some (.cells cs' t (0, 0)) := by
  simp [World.setRow, Array.getElem?_modify, hg]
theorem gr_setRow {w w' : World} (h : Gr w w') (g : Nat) (cs : Array Value) (hg : w.heap.size ≤ g) : Gr w (w'.setRow g cs) :=
  ⟨h.os, h.tape, h.output, by rw [size_setRow]; exact h.size, fun i hi => by
    rw [← h.block i hi]
    simp only [World.setRow]
    rw [Array.getElem?_modify, if_neg (by omega)]⟩
def arrV (l : List UInt8) : Value := .agg (bvs l).toArray
theorem arr_size (l : List UInt8) (h : l.length = 32) : (bvs l).toArray.size = 32 := by simp [bvs, h]
theorem arr_info (l : List UInt8) (h : l.length = 32) : (Try.prog.info? 25).map (·.size) = some (bvs l).toArray.size := by
  rw [arr_size l h]
  kernel_rfl
theorem arr_one (l : List UInt8) : (bvs l).toArray.all (·.oneCell') = true := by
  rw [List.all_toArray, List.all_eq_true]
  exact fun x hx => bvs_one l x hx
theorem run_eql_word (w : World) (l m : List UInt8) (hl : l.length = 32) (hm : m.length = 32) : (binOp .eql 25 (arrV l) (arrV m)).run Try.prog w = .ok (.bool (l == m)) w :=
  run_eql_bytes w 25 5 32 Try.underlying25 Try.underlying5 (fun w => by kernel_rfl) l m hl hm
theorem run_neq_word (w : World) (l m : List UInt8) (hl : l.length = 32) (hm : m.length = 32) : (binOp .neq 25 (arrV l) (arrV m)).run Try.prog w = .ok (.bool (l != m)) w := by
  have h1 : (binOp .neq 25 (arrV l) (arrV m)).run Try.prog w = ((Op.equalIn 10000 25 (arrV l) (arrV m)).run Try.prog w).andThen fun b w' => .ok (.bool (!b)) w' := by
    simp only [arrV, binOp, Op.equal, Op.maxDepth, Sem.run_bind, Sem.run_pure]
  rw [h1]
  have h2 := run_equalIn_bytes w 9998 25 5 32 Try.underlying25 Try.underlying5 (fun w => by kernel_rfl) l m hl hm
  rw [show (Op.equalIn 10000 25 (arrV l) (arrV m)) = (Op.equalIn (9998 + 2) 25 (.agg (l.map Extern.Stop.cell).toArray) (.agg (m.map Extern.Stop.cell).toArray)) from rfl, h2]
  rfl
theorem guard_eql_word (w : World) (x y : Operand) (l m : List UInt8) : (eqGuard .eql 25 x y (arrV l) (arrV m)).run Try.prog w = .ok () w := by kernel_rfl
theorem guard_neq_word (w : World) (x y : Operand) (l m : List UInt8) : (eqGuard .neq 25 x y (arrV l) (arrV m)).run Try.prog w = .ok () w := by kernel_rfl
def Arr (w : World) (g : Nat) (t : TypeId) (l : List UInt8) : Prop := w.heap[g]? = some (.cells (bvs l).toArray t (0, 0))
theorem Arr.lt {w : World} {g : Nat} {t : TypeId} {l : List UInt8} (h : Arr w g t l) : g < w.heap.size := lt_of_some h
theorem Arr.gr {w w' : World} {g : Nat} {t : TypeId} {l : List UInt8} (h : Arr w g t l) (hg : Gr w w') : Arr w' g t l := (hg.block g h.lt).trans h
theorem growsTo_load_word {w : World} {g : Nat} {t : TypeId} {l : List UInt8} (h : Arr w g t l) (hl : l.length = 32) {o : Oper} {a : Act} {x : Operand} (ho : o.op = .load 25 x) (hx : a.eval x = .pointer (some ⟨g, 0, none⟩)) :
    growsTo Try.prog (eqV (arrV l)) w ((execOp a.eval o).run Try.prog w) := by
  have hr := run_loadVar_row w g t 25 (bvs l).toArray (0, 0) _ h Try.underlying25 rfl (arr_info l hl)
  unfold execOp
  simp only [ho, hx, Instr.loadAt, Instr.sureAddr, Sem.run_bind, Sem.run_pure, Result.andThen_ok, hr]
  exact ⟨Gr.refl w, rfl⟩
theorem growsTo_call1 {V : VP} {w : World} {o : Oper} {b : Act} {f : FuncId} {t : Tmp} {ty : TypeId} (ho : o.op = .call { callee := .value (.func f), args := #[.tmp t], argTypes := #[ty] })
    (hf : ∀ args w, (callFunc f args).run Try.prog w = .ok (.enter f args) w)
    (hc : Calls Try.prog f #[b.tmps.getD t undef] w fun e w' => ∃ v, e = .returned v ∧ Gr w w' ∧ V v w') : growsTo Try.prog V w ((execOp b.eval o).run Try.prog w) := by
  refine growsTo_call (f := f) (args := #[b.tmps.getD t undef]) ?_ hc
  unfold execOp
  rw [ho]
  simp [go_sem, Act.eval, hf]
def IsBB (w : World) (v : Value) (ms : List (List UInt8)) : Prop :=
  ∃ (A : Option Addr) (c : Nat) (vals : List Value), v = .slice A ms.length c ∧ ms.length ≤ c ∧ c ≤ maxLen ∧ vals.length = ms.length ∧ Rd w w.heap.size A vals ∧ ∀ (i : Nat) (x : Value) (m : List UInt8), vals[i]? = some x → ms[i]? = some m → IsB w x m
theorem IsBB.nil (w : World) : IsBB w (.slice none 0 0) [] := ⟨none, 0, [], rfl, Nat.le_refl _, by simp [maxLen], rfl, Rd.nil, fun i x m h => by simp at h⟩
theorem IsBB.gr {w w' : World} {v : Value} {ms : List (List UInt8)} (h : IsBB w v ms) (hg : Gr w w') : IsBB w' v ms := by
  obtain ⟨A, c, vals, rfl, h1, h2, h3, h4, h5⟩ := h
  exact ⟨A, c, vals, rfl, h1, h2, h3, h4.gr hg, fun i x m a b => (h5 i x m a b).gr hg⟩
theorem IsBB.at {w : World} {B : Nat} {A : Option Addr} {vals : List Value} {ms : List (List UInt8)} (hlen : vals.length = ms.length) (hrd : Rd w B A vals) (hel : ∀ (i : Nat) (x : Value) (m : List UInt8), vals[i]? = some x → ms[i]? = some m → IsB w x m) (k : Nat) (hk : k < ms.length) :
    ∃ b o x, A = some ⟨b, o, none⟩ ∧ b < B ∧ w.cell? ⟨b, o + k, none⟩ = some x ∧ IsB w x ms[k] := by
  have hk' : k < vals.length := by omega
  obtain ⟨b, o, e, hb, hc⟩ := hrd (fun e => by rw [e] at hk'; simp at hk')
  exact ⟨b, o, vals[k], e, hb, hc k _ (List.getElem?_eq_getElem hk'), hel k _ _ (List.getElem?_eq_getElem hk') (List.getElem?_eq_getElem hk)⟩
theorem isB_at {w : World} {B : Nat} {A : Option Addr} {m : List UInt8} (h : Rd w B A (bvs m)) (k : Nat) (hk : k < m.length) : ∃ b o, A = some ⟨b, o, none⟩ ∧ b < B ∧ w.cell? ⟨b, o + k, none⟩ = some (.int .u8 (m[k].toNat : Int)) := by
  obtain ⟨b, o, e, hb, hc⟩ := h (fun e => by have := congrArg List.length e; rw [bvs_length] at this; simp at this; rw [this] at hk; simp at hk)
  exact ⟨b, o, e, hb, hc k _ (bvs_at m k hk)⟩
theorem isB_block {w : World} {g : Nat} {l : List UInt8} {t : TypeId} {fr : Nat × Nat} {cs : Array Value} (h : w.heap[g]? = some (.cells cs t fr)) (hc : cs.toList = bvs l) (hn : l.length ≤ maxLen) : IsB w (.slice (some ⟨g, 0, none⟩) l.length l.length) l := by
  refine ⟨_, _, rfl, Nat.le_refl _, hn, fun _ => ⟨g, 0, rfl, ?_, fun j u hu => ?_⟩⟩
  · rcases Nat.lt_or_ge g w.heap.size with h1 | h1
    · exact h1
    · rw [Array.getElem?_eq_none h1] at h; cases h
  · rw [Nat.zero_add, cell_of_row w g j cs t fr h, ← hu, ← hc]
    simp
theorem isBB_one {w : World} {g : Nat} {l : List UInt8} {v : Value} {t : TypeId} (h : w.heap[g]? = some (.cells #[v] t (0, 0))) (hv : IsB w v l) : IsBB w (.slice (some ⟨g, 0, none⟩) 1 1) [l] := by
  refine ⟨_, 1, [v], rfl, Nat.le_refl _, by simp [maxLen], rfl, fun _ => ⟨g, 0, rfl, ?_, fun j u hu => ?_⟩, fun i x m hx hm => ?_⟩
  · rcases Nat.lt_or_ge g w.heap.size with h1 | h1
    · exact h1
    · rw [Array.getElem?_eq_none h1] at h; cases h
  · rw [Nat.zero_add, cell_of_row w g j _ t (0, 0) h, ← hu]
    simp
  · have hi : i = 0 := by
      have := (List.getElem?_eq_some_iff.1 hx).1
      simpa using this
    subst hi
    simp at hx hm
    rw [← hx, ← hm]
    exact hv
theorem isBB_block {w : World} {g : Nat} {vals : List Value} {ms : List (List UInt8)} {t : TypeId} (h : w.heap[g]? = some (.cells vals.toArray t (0, 0))) (hl : vals.length = ms.length) (hm : ms.length ≤ maxLen)
    (hv : ∀ (i : Nat) (x : Value) (m : List UInt8), vals[i]? = some x → ms[i]? = some m → IsB w x m) : IsBB w (.slice (some ⟨g, 0, none⟩) ms.length ms.length) ms := by
  refine ⟨_, _, vals, rfl, Nat.le_refl _, hm, hl, fun _ => ⟨g, 0, rfl, lt_of_some h, fun j u hu => ?_⟩, hv⟩
  rw [Nat.zero_add, cell_of_row w g j _ t (0, 0) h, ← hu]
  simp
theorem size_new (w : World) (o : Obj) : (w.alloc o).heap.size = w.heap.size + 1 := by simp
theorem heap_at (w : World) (o : Obj) (g : Nat) (h : g = w.heap.size) : (w.alloc o).heap[g]? = some o := by
  subst h
  exact heap_alloc_new w o
theorem heap_old (w : World) (o : Obj) (g : Nat) (h : g < w.heap.size) : (w.alloc o).heap[g]? = w.heap[g]? := Below.heap_alloc w o g h
end Go.Proofs.Ytdhicdnmgmkpkaa
/-
  Words for memory, of whatever blocks: a slice that reads as a list of cells, bytes; rows of the call's own read so.
  Conditions: none.
-/
namespace Go.Proofs.Ytdhicdnmgmkpkaa
open Go.RowKit Mono Rlp
def RdP (ok : Nat → Prop) (w : World) (A : Option Addr) (xs : List Value) : Prop :=
  xs ≠ [] → ∃ b o, A = some ⟨b, o, none⟩ ∧ ok b ∧ ∀ j u, xs[j]? = some u → w.cell? ⟨b, o + j, none⟩ = some u
theorem RdP.mono {ok ok' : Nat → Prop} {w w' : World} {A : Option Addr} {xs : List Value} (h : RdP ok w A xs) (h1 : ∀ b, ok b → ok' b) (h2 : ∀ p : Addr, ok p.block → w'.cell? p = w.cell? p) : RdP ok' w' A xs := fun hn => by
  obtain ⟨b, o, e, hb, hc⟩ := h hn
  exact ⟨b, o, e, h1 b hb, fun j u hu => (h2 _ hb).trans (hc j u hu)⟩
def IsBP (ok : Nat → Prop) (w : World) (v : Value) (l : List UInt8) : Prop :=
  ∃ A c, v = .slice A l.length c ∧ l.length ≤ c ∧ c ≤ maxLen ∧ RdP ok w A (bvs l)
theorem IsBP.mono {ok ok' : Nat → Prop} {w w' : World} {v : Value} {l : List UInt8} (h : IsBP ok w v l) (h1 : ∀ b, ok b → ok' b) (h2 : ∀ p : Addr, ok p.block → w'.cell? p = w.cell? p) : IsBP ok' w' v l := by
  obtain ⟨A, c, h3, h4, h5, h6⟩ := h
  exact ⟨A, c, h3, h4, h5, h6.mono h1 h2⟩
theorem ownB_P {w : World} {base : Nat} {v : Value} {l : List UInt8} (h : OwnB w base v l) : IsBP (fun k => base ≤ k ∧ k < w.heap.size) w v l := by
  obtain ⟨A, c, rfl, h1, h2⟩ := own_form h
  refine ⟨A, c, rfl, h1, h2, fun hn => ?_⟩
  have hl : 0 < l.length := by
    rcases Nat.eq_zero_or_pos l.length with h0 | h0
    · obtain rfl := List.eq_nil_of_length_eq_zero h0
      exact absurd rfl hn
    · exact h0
  obtain ⟨g, rfl, hb, hg⟩ := own_some h hl
  exact ⟨g, 0, rfl, ⟨hb, hg⟩, fun j u hu => by
    have := World.ownsRow.cells h (g := g) rfl j u hu
    rwa [add_none] at this⟩
theorem own_RdP {w : World} {base e size n c : Nat} {A : Option Addr} {xs : List Value} (h : w.ownsRow base e size (.slice A n c) n xs) : RdP (fun k => base ≤ k ∧ k < w.heap.size) w A xs := fun hn => by
  rcases h.2 with ⟨hv, hz⟩ | ⟨g, cap, cur, hv, hb, hh, _⟩
  · have := h.1
    rw [hz, Nat.zero_mul] at this
    exact absurd (List.eq_nil_of_length_eq_zero this) hn
  · injection hv with hA _ _
    subst hA
    refine ⟨g, 0, rfl, ⟨hb, lt_of_some hh⟩, fun j u hu => ?_⟩
    have := World.ownsRow.cells h (g := g) rfl j u hu
    rwa [add_none] at this
theorem own_none {w : World} {base e size n c : Nat} {xs : List Value} (h : w.ownsRow base e size (.slice none n c) n xs) : n = 0 ∧ c = 0 := by
  rcases h.2 with ⟨hv, hz⟩ | ⟨g, cap, cur, hv, _⟩
  · injection hv with _ _ hc
    exact ⟨hz, hc⟩
  · injection hv with hA _ _
    cases hA
theorem cell_setRow {w : World} {g : Nat} {cs : Array Value} {p : Addr} (h : p.block ≠ g) : (w.setRow g cs).cell? p = w.cell? p := by
  refine World.cell?_of_block ?_
  simp only [World.setRow]
  rw [Array.getElem?_modify, if_neg (fun e => h e.symm)]
theorem own_far {w : World} {base e size n : Nat} {v : Value} {xs : List Value} (h : w.ownsRow base e size v n xs) {p : Addr} (hp : v.ownBlock ≠ some p.block) (u : Value) : (w.setCell p u).ownsRow base e size v n xs := by
  refine ⟨h.1, ?_⟩
  rcases h.2 with h1 | ⟨g, cap, cur, h1, h2, h3, h4⟩
  · exact .inl h1
  · refine .inr ⟨g, cap, cur, h1, h2, ?_, h4⟩
    rw [Below.heap_setCell w p u g (fun e => hp (by rw [h1, e]; rfl))]
    exact h3
end Go.Proofs.Ytdhicdnmgmkpkaa
