/-
  Words for memory: a slice that reads as a list of cells, a row that the call owns, what an append leaves; bytes.
  Conditions: none.
-/
import Derived.Test.YtfpigemikpbbhaaMono
import Derived.WalkKit
import Derived.WalkSpells
import Derived.WalkLawsBesides
import Derived.Maps.AppendAt
import Derived.Laws.BytesString
import Derived.Laws.IdiomStrings
import Derived.Lib.Hide
import Derived.Test.YtfpigemikpbbhaaRows
namespace Go.Proofs.Ytfpigemikpbbhaa
open Go.RowKit Mono

/-! ### A slice that reads as a list of cells -/
def Rd (w : World) (B : Nat) (A : Option Addr) (xs : List Value) : Prop :=
  xs ≠ [] → ∃ b o, A = some ⟨b, o, none⟩ ∧ b < B ∧ ∀ j u, xs[j]? = some u → w.cell? ⟨b, o + j, none⟩ = some u

theorem add_none (b o m : Nat) : (⟨b, o, none⟩ : Addr).add m = ⟨b, o + m, none⟩ := by
  unfold Addr.add
  split
  · subst_vars; rfl
  · rfl

section
variable {w w' : World} {B B' : Nat} {A : Option Addr} {xs : List Value}
theorem Rd.nil : Rd w B A [] := fun h => absurd rfl h
theorem Rd.keep (h : Rd w B A xs) (hk : ∀ p : Addr, p.block < B → w'.cell? p = w.cell? p) : Rd w' B A xs := fun hn => by
  obtain ⟨b, o, e, hb, hc⟩ := h hn
  exact ⟨b, o, e, hb, fun j u hu => (hk _ hb).trans (hc j u hu)⟩
theorem Rd.more (h : Rd w B A xs) (hB : B ≤ B') : Rd w B' A xs := fun hn => by
  obtain ⟨b, o, e, hb, hc⟩ := h hn
  exact ⟨b, o, e, by omega, hc⟩
theorem Rd.below (h : Rd w B A xs) (hb : Below B w w') : Rd w' B A xs := h.keep fun _ hp => hb.cell hp
theorem Rd.gr (h : Rd w w.heap.size A xs) (hb : Gr w w') : Rd w' w'.heap.size A xs := (h.below hb).more hb.size
theorem Rd.take (h : Rd w B A xs) (m : Nat) : Rd w B A (xs.take m) := fun hn => by
  obtain ⟨b, o, e, hb, hc⟩ := h (fun e => hn (by rw [e]; simp))
  refine ⟨b, o, e, hb, fun j u hu => hc j u ?_⟩
  rw [List.getElem?_take] at hu
  split at hu
  · exact hu
  · cases hu
theorem Rd.cut (h : Rd w B A xs) {k n cap size : Nat} (hn : xs.length = n * size) (hc : n ≤ cap) :
    Rd w B (if cap = k then A else A.map (·.add (k * size))) (xs.drop (k * size)) := fun hne => by
  have hlt : k * size < xs.length := by
    rcases Nat.lt_or_ge (k * size) xs.length with h1 | h1
    · exact h1
    · exact absurd (List.drop_eq_nil_of_le h1) hne
  have hk : k < n := by
    rcases Nat.lt_or_ge k n with h1 | h1
    · exact h1
    · have := Nat.mul_le_mul_right size h1
      omega
  obtain ⟨b, o, rfl, hb, hcell⟩ := h (fun e => by rw [e] at hlt; simp at hlt)
  rw [if_neg (by omega)]
  refine ⟨b, o + k * size, by simp [add_none], hb, fun j u hu => ?_⟩
  rw [Nat.add_assoc]
  exact hcell _ u (by rw [← hu, List.getElem?_drop])
theorem Rd.of_own {base : Nat} {e : TypeId} {size n c : Nat} (h : w.ownsRow base e size (.slice A n c) n xs) : Rd w w.heap.size A xs := fun hn => by
  rcases h.2 with ⟨hv, hz⟩ | ⟨g, cap, cur, hv, _, hh, _, _, _, ht⟩
  · subst hz
    have := h.1
    rw [Nat.zero_mul] at this
    exact absurd (List.eq_nil_of_length_eq_zero this) hn
  · injection hv with hA _ _
    subst hA
    have hg : g < w.heap.size := by
      rcases Nat.lt_or_ge g w.heap.size with h1 | h1
      · exact h1
      · rw [Array.getElem?_eq_none h1] at hh; cases hh
    refine ⟨g, 0, rfl, hg, fun j u hu => ?_⟩
    have := h.cells (g := g) rfl j u hu
    rwa [add_none] at this
theorem Rd.new (w : World) (cs : Array Value) (e : TypeId) : Rd (w.alloc (.cells cs e)) (w.heap.size + 1) (some ⟨w.heap.size, 0, none⟩) cs.toList := fun _ =>
  ⟨w.heap.size, 0, rfl, by omega, fun j u hu => by
    rw [cell_of_row _ _ _ cs e (0, 0) (heap_alloc_new w _)]
    simpa using hu⟩
end

theorem below_drewN {B : Nat} {a w : World} (h : Below B a w) (n : Nat) : Below B a (w.drewN n) := ⟨h.os, h.tape, h.output, h.size, h.block⟩
attribute [go_sem] After
theorem later_cell {w : World} {p : Addr} {v : Value} (hp : p.block < w.heap.size) (h : w.cell? p = some v) (x : Later w) : x.1.cell? p = some v := (x.2.cell hp).trans h

/-! ### Slice types -/
structure SlT (P : Program) (t e : TypeId) (size bytes : Nat) : Prop where
  und : P.underlying t = some (.slice e)
  info : ∃ i z, P.info? e = some i ∧ i.zero = some z ∧ i.size = size ∧ i.bytes = bytes ∧ z.cells.size = size
  pos : 0 < size

theorem own_form {w : World} {base : Nat} {e : TypeId} {size : Nat} {v : Value} {n : Nat} {xs : List Value} (h : w.ownsRow base e size v n xs) :
    ∃ A c, v = .slice A n c ∧ n ≤ c ∧ c ≤ maxLen := by
  rcases h.2 with ⟨rfl, rfl⟩ | ⟨g, cap, cur, rfl, _, _, h1, h2, _, _⟩
  · exact ⟨none, 0, rfl, Nat.le_refl _, by simp [maxLen]⟩
  · exact ⟨_, cap, rfl, h1, h2⟩
theorem own_base {w : World} {base base' : Nat} {e : TypeId} {size : Nat} {v : Value} {n : Nat} {xs : List Value} (h : w.ownsRow base e size v n xs) (hb : base' ≤ base) : w.ownsRow base' e size v n xs := by
  refine ⟨h.1, ?_⟩
  rcases h.2 with h | ⟨g, cap, cur, h1, h2, h3⟩
  · exact .inl h
  · exact .inr ⟨g, cap, cur, h1, Nat.le_trans hb h2, h3⟩
theorem own_gr {w w' : World} {base : Nat} {e : TypeId} {size : Nat} {v : Value} {n : Nat} {xs : List Value} (h : w.ownsRow base e size v n xs) (hg : Gr w w') : w'.ownsRow base e size v n xs := by
  refine ⟨h.1, ?_⟩
  rcases h.2 with h | ⟨g, cap, cur, h1, h2, h3, h4⟩
  · exact .inl h
  · refine .inr ⟨g, cap, cur, h1, h2, ?_, h4⟩
    rw [hg.block g (by
      rcases Nat.lt_or_ge g w.heap.size with h5 | h5
      · exact h5
      · rw [Array.getElem?_eq_none h5] at h3; cases h3)]
    exact h3
theorem own_block_ge {w : World} {base : Nat} {e : TypeId} {size : Nat} {v : Value} {n : Nat} {xs : List Value} (h : w.ownsRow base e size v n xs) (k : Nat) (hk : v.ownBlock = some k) : base ≤ k := (h.lt k hk).1

section
variable {P : Program} {w : World}
theorem run_append_nil {base t ty e size bytes : Nat} (T : SlT P t e size bytes) {v : Value} {n : Nat} {xs : List Value} (hown : w.ownsRow base e size v n xs) (c : Nat) :
    (Builtin.append_ #[t, t] ty #[v, .slice none 0 c]).run P w = .ok v w := by
  obtain ⟨i, z, hi, _, hsize, _, _⟩ := T.info
  rcases hown.2 with ⟨rfl, rfl⟩ | ⟨g, cap, cur, rfl, _, _, hnc, _⟩
  · simp [Builtin.append_, run_underlying T.und, sizeOf, typeInfo, hi, Builtin.lenOf, Builtin.firstCells]
  · simp [Builtin.append_, run_underlying T.und, sizeOf, typeInfo, hi, Builtin.lenOf, Builtin.firstCells, hnc, storeCells]

theorem run_append_rd {base t ty e size bytes : Nat} (T : SlT P t e size bytes) {v : Value} {n : Nat} {xs : List Value} (hown : w.ownsRow base e size v n xs)
    {A : Option Addr} {m c B : Nat} {news : List Value} (hl : news.length = m * size) (hr : Rd w B A news) (h1 : ∀ u ∈ news, u.oneCell' = true)
    (h63 : n + m ≤ maxLen) (hbytes : (n + m) * bytes ≤ 140737488355328) (hbase : base ≤ w.heap.size) :
    ∃ A' c' w', (Builtin.append_ #[t, t] ty #[v, .slice A m c]).run P w = .ok (.slice A' (n + m) c') w' ∧ w'.ownsRow base e size (.slice A' (n + m) c') (n + m) (xs ++ news) ∧ w.grownBy w' v.ownBlock ∧
      ((Value.slice A' (n + m) c').ownBlock = v.ownBlock ∨ (Value.slice A' (n + m) c').ownBlock = some w.heap.size) := by

  have hnil : A = none → m = 0 ∧ news = [] := fun h => by
    by_cases hn : news = []
    · subst hn
      have : m * size = 0 := by simpa using hl.symm
      rcases Nat.mul_eq_zero.1 this with h0 | h0
      · exact ⟨h0, rfl⟩
      · have := T.pos; omega
    · obtain ⟨b, o, e, _⟩ := hr hn
      rw [h] at e; cases e
  cases A with
  | none =>
    obtain ⟨rfl, rfl⟩ := hnil rfl
    obtain ⟨A', c', rfl, _, _⟩ := own_form hown
    refine ⟨A', c', w, run_append_nil T hown c, by simpa using hown, World.grownBy.refl w _, .inl rfl⟩
  | some ad =>
    have hcells : ∀ j u, news[j]? = some u → w.cell? (ad.add j) = some u := fun j u hu => by
      obtain ⟨b, o, e, _, hc⟩ := hr (fun e => by rw [e] at hu; simp at hu)
      injection e with e
      subst e
      rw [add_none]
      exact hc j u hu
    obtain ⟨i, z, hi, hz, hsize, hby, hzs⟩ := T.info
    obtain ⟨v', w', hrun, h2, h3, _, h5⟩ := run_append_own_at (P := P) w base t ty e i z size bytes T.und hi hz hsize hby hzs T.pos v n xs hown ad m c news hl hcells h1 h63 hbytes hbase
    obtain ⟨A', c', rfl, _, _⟩ := own_form h2
    exact ⟨A', c', w', hrun, h2, h3, h5⟩

/-- The append law at a list of operations. -/
theorem wpL_append {ops : Array Oper} {rest : List Oper} {o : Oper} {a : Act} {Q : Exit → Act → World → Prop} (s x : Operand) (t : TypeId)
    {base e size bytes : Nat} (T : SlT P t e size bytes) (v : Value) (n : Nat) (xs : List Value) (A : Option Addr) (m c B : Nat) (news : List Value)
    (hgd : o.guard = none) (ho : o.op = .call { callee := .builtin .append, args := #[s, x], argTypes := #[t, t] }) (hs : a.eval s = v) (hx : a.eval x = .slice A m c)
    (hown : w.ownsRow base e size v n xs) (hr : Rd w B A news) (hl : news.length = m * size) (h1 : ∀ u ∈ news, u.oneCell' = true)
    (h63 : n + m ≤ maxLen) (hbytes : (n + m) * bytes ≤ 140737488355328) (hbase : base ≤ w.heap.size)
    (h : ∀ A' c' w', w'.ownsRow base e size (.slice A' (n + m) c') (n + m) (xs ++ news) → w.grownBy w' v.ownBlock →
      ((Value.slice A' (n + m) c').ownBlock = v.ownBlock ∨ (Value.slice A' (n + m) c').ownBlock = some w.heap.size) → wpList P ops Q rest (a.put o.dst (.slice A' (n + m) c')) w') : wpList P ops Q (o :: rest) a w := by
  refine wpList_plain hgd fun _ hK => ?_
  obtain ⟨A', c', w', hrun, h2, h3, h4⟩ := run_append_rd (P := P) (ty := o.type) T hown hl hr h1 h63 hbytes hbase (c := c)
  unfold Oper.wp execOp
  simp only [ho, resolve, invoke, builtin, Sem.run_bind, Sem.run_pure, Result.andThen_ok, List.map_toArray, List.map_cons, List.map_nil, hs, hx, hrun]
  exact hK _ _ (h A' c' w' h2 h3 h4)
end

theorem own_lit (w : World) (cs : Array Value) (e : TypeId) (size n g base : Nat) (hg : w.heap.size = g) (hb : base ≤ w.heap.size) (hm : n ≤ maxLen) (hs : cs.size = n * size) :
    (w.alloc (.cells cs e)).ownsRow base e size (.slice (some ⟨g, 0, none⟩) n n) n cs.toList := by
  subst hg
  exact World.ownsRow_lit w cs n hb hm hs

/-! ### Bytes -/
def bv (b : UInt8) : Value := .int .u8 b.toNat
def bvs (l : List UInt8) : List Value := l.map bv
theorem bvs_length (l : List UInt8) : (bvs l).length = l.length := by simp [bvs]
theorem bvs_append (l m : List UInt8) : bvs (l ++ m) = bvs l ++ bvs m := by simp [bvs]
theorem bvs_take (l : List UInt8) (k : Nat) : bvs (l.take k) = (bvs l).take k := by simp [bvs, List.map_take]
theorem bvs_drop (l : List UInt8) (k : Nat) : bvs (l.drop k) = (bvs l).drop k := by simp [bvs, List.map_drop]
theorem bvs_one (l : List UInt8) : ∀ u ∈ bvs l, u.oneCell' = true := by
  intro u hu
  obtain ⟨b, _, rfl⟩ := List.mem_map.1 hu
  rfl
theorem bvs_at (l : List UInt8) (j : Nat) (h : j < l.length) : (bvs l)[j]? = some (bv l[j]) := by simp [bvs, h]
theorem bv_lt (b : UInt8) : b.toNat < 256 := b.toNat_lt

/-- The value reads as these bytes. -/
def IsB (w : World) (v : Value) (l : List UInt8) : Prop :=
  ∃ A c, v = .slice A l.length c ∧ l.length ≤ c ∧ c ≤ maxLen ∧ Rd w w.heap.size A (bvs l)
/-- The value owns these bytes. -/
def OwnB (w : World) (base : Nat) (v : Value) (l : List UInt8) : Prop := w.ownsRow base 5 1 v l.length (bvs l)
theorem isB_cut {w : World} {A : Option Addr} {l : List UInt8} {n c : Nat} (k : Nat) (h : Rd w w.heap.size A (bvs l)) (hn : l.length = n) (hc : n ≤ c) (hm : c ≤ maxLen) (hk : k ≤ n) :
    IsB w (.slice (if c = k then A else A.map (·.add k)) (n - k) (c - k)) (l.drop k) := by
  refine ⟨_, c - k, by rw [List.length_drop, hn], by rw [List.length_drop]; omega, by omega, ?_⟩
  have := h.cut (k := k) (n := n) (cap := c) (size := 1) (by rw [bvs_length]; omega) hc
  simpa [bvs_drop] using this
theorem isB_cut' {w : World} {b o : Nat} {l : List UInt8} {n c : Nat} (k : Nat) (h : Rd w w.heap.size (some ⟨b, o, none⟩) (bvs l)) (hn : l.length = n) (hc : n ≤ c) (hm : c ≤ maxLen) (hk : k ≤ n) (hne : c ≠ k) :
    IsB w (.slice (some ⟨b, o + k, none⟩) (n - k) (c - k)) (l.drop k) := by
  have := isB_cut k h hn hc hm hk
  rw [if_neg hne] at this
  simpa [add_none] using this
theorem OwnB.isB {w : World} {base : Nat} {v : Value} {l : List UInt8} (h : OwnB w base v l) : IsB w v l := by
  obtain ⟨A, c, rfl, h1, h2⟩ := own_form h
  exact ⟨A, c, rfl, h1, h2, Rd.of_own h⟩
theorem IsB.gr {w w' : World} {v : Value} {l : List UInt8} (h : IsB w v l) (hg : Gr w w') : IsB w' v l := by
  obtain ⟨A, c, rfl, h1, h2, h3⟩ := h
  exact ⟨A, c, rfl, h1, h2, h3.gr hg⟩
theorem stable_isB (l : List UInt8) : Stable fun v w => IsB w v l := fun _ _ _ hg h => h.gr hg
theorem ownB_of {w : World} {base : Nat} {v : Value} {n : Nat} {xs : List Value} {l : List UInt8} (h : w.ownsRow base 5 1 v n xs) (hx : xs = bvs l) : OwnB w base v l := by
  subst hx
  have := h.1
  rw [bvs_length, Nat.mul_one] at this
  unfold OwnB
  rw [this]
  exact h
theorem isB_new (w : World) (cs : Array Value) (l : List UInt8) (h : cs.toList = bvs l) (hn : l.length ≤ maxLen) : IsB (w.alloc (.cells cs 5)) (.slice (some ⟨w.heap.size, 0, none⟩) l.length l.length) l := by
  refine ⟨_, _, rfl, Nat.le_refl _, hn, ?_⟩
  rw [← h]
  have := Rd.new w cs 5
  simpa using this
theorem IsB.nil (w : World) : IsB w (.slice none 0 0) [] := ⟨none, 0, rfl, Nat.le_refl _, by simp [maxLen], Rd.nil⟩
theorem OwnB.nil (w : World) (base : Nat) : OwnB w base (.slice none 0 0) [] := World.ownsRow_nil _ _ _ _

/-- 'append([]byte(nil), l...)': a copy. -/
theorem growsTo_append_nil {P : Program} {t : TypeId} (T : SlT P t 5 1 1) {w : World} {o : Oper} {a : Act} {x : Operand} {v : Value} {l : List UInt8}
    (ho : o.op = .call { callee := .builtin .append, args := #[.const (.slice none 0 0), x], argTypes := #[t, t] }) (hx : a.eval x = v) (h : IsB w v l) (hl : l.length ≤ 140737488355328 := by simp; omega) :
    growsTo P (fun v w' => IsB w' v l) w ((execOp a.eval o).run P w) := by
  obtain ⟨A, c, rfl, h1, h2, hr⟩ := h
  obtain ⟨A', c', w', hrun, hown, hg, hb⟩ := run_append_rd (P := P) (ty := o.type) T (World.ownsRow_nil w w.heap.size _ _) (m := l.length) (c := c) (news := bvs l) (by rw [bvs_length]; omega) hr (bvs_one _) (by simp only [maxLen] at *; omega) (by omega) (Nat.le_refl _)
  have hs : a.eval (.const (.slice none 0 0)) = .slice none 0 0 := rfl
  unfold execOp
  simp only [ho, resolve, invoke, builtin, Sem.run_bind, Sem.run_pure, Result.andThen_ok, List.map_toArray, List.map_cons, List.map_nil, hs, hx, hrun]
  refine ⟨⟨hg.os, hg.tape, hg.output, hg.size, fun k hk => hg.block k hk (by simp [Value.ownBlock])⟩, ?_⟩
  have := OwnB.isB (w := w') (base := w.heap.size) (v := .slice A' (0 + l.length) c') (l := l) (by unfold OwnB; simpa using hown)
  exact this

/-- What a call leaves that makes memory alone: a value that meets V. -/
def Ret (V : VP) (w : World) (e : Ending) (w' : World) : Prop := ∃ v, e = .returned v ∧ Gr w w' ∧ V v w'

theorem slT_bytes : SlT Try.prog 22 5 1 1 :=
  ⟨Try.underlying22, by
    have h : (Try.prog.info? 5).map (fun i => (i.zero, i.size, i.bytes)) = some (some (.int .u8 0), 1, 1) := by kernel_rfl
    obtain ⟨i, hi, hz, h1, h2⟩ := info_parts h
    exact ⟨i, _, hi, hz, h1, h2, rfl⟩, by omega⟩
end Go.Proofs.Ytfpigemikpbbhaa
