/-
 Merged (wip/tools/merge.py): Base, Path, Split, Join, Join2, Join3, Pack.
 Conditions: none.
-/
import Derived.Test.YtiledgojbpmoiaaGreatZR1
import Derived.WalkKit
import Derived.WalkSpells
import Derived.WalkLawsBesides
import Derived.Maps.AppendAt
import Derived.Laws.BytesString
import Derived.Laws.IdiomStrings
import Derived.Lib.Hide
import Derived.Test.YtiledgojbpmoiaaGreatRows
import Derived.BigQuiet
import Derived.Deep.QuietTactic
import Derived.StillTailTactics
namespace Go.Proofs.YtiledgojbpmoiaaGreat
open Go.RowKit Mono
def Rd (w : World) (B : Nat) (A : Option Addr) (xs : List Value) : Prop :=
 xs ≠ [] → ∃ b o, A = some ⟨b, o, none⟩ ∧ b < B ∧ ∀ j u, xs[j]? = some u → w.cell? ⟨b, o + j, none⟩ = some u
theorem eF (b o m : Nat) : (⟨b, o, none⟩ : Addr).add m = ⟨b, o + m, none⟩ := by
 unfold Addr.add
 split
 · subst_vars; rfl
 · rfl
section
variable {w w' : World} {B B' : Nat} {A : Option Addr} {xs : List Value}
theorem Rd.nil : Rd w B A [] := fun h => absurd rfl h
theorem Rd.keep (h : Rd w B A xs) (hk : ∀ p : Addr, p.block < B → w'.cell? p = w.cell? p) : Rd w' B A xs := fun hn => by
 obtain ⟨b, o, e, hb, hc⟩ := h hn
 exact ⟨b, o, e, hb, fun j u hu => (hk _ hb).trans (hc j u hu)⟩
theorem Rd.more (h : Rd w B A xs) (hB : B ≤ B') : Rd w B' A xs := fun hn => by
 obtain ⟨b, o, e, hb, hc⟩ := h hn
 exact ⟨b, o, e, by omega, hc⟩
theorem Rd.below (h : Rd w B A xs) (hb : Below B w w') : Rd w' B A xs := h.keep fun _ hp => hb.cell hp
theorem Rd.gr (h : Rd w w.heap.size A xs) (hb : Gr w w') : Rd w' w'.heap.size A xs := (h.below hb).more hb.size
theorem Rd.take (h : Rd w B A xs) (m : Nat) : Rd w B A (xs.take m) := fun hn => by
 obtain ⟨b, o, e, hb, hc⟩ := h (fun e => hn (by rw [e]; simp))
 refine ⟨b, o, e, hb, fun j u hu => hc j u ?_⟩
 rw [List.getElem?_take] at hu
 split at hu
 · exact hu
 · cases hu
theorem Rd.cut (h : Rd w B A xs) {k n cap size : Nat} (hn : xs.length = n * size) (hc : n ≤ cap) :
  Rd w B (if cap = k then A else A.map (·.add (k * size))) (xs.drop (k * size)) := fun hne => by
 have hlt : k * size < xs.length := by
  rcases Nat.lt_or_ge (k * size) xs.length with h1 | h1
  · exact h1
  · exact absurd (List.drop_eq_nil_of_le h1) hne
 have hk : k < n := by
  rcases Nat.lt_or_ge k n with h1 | h1
  · exact h1
  ·
   have := Nat.mul_le_mul_right size h1
   omega
 obtain ⟨b, o, rfl, hb, hcell⟩ := h (fun e => by rw [e] at hlt; simp at hlt)
 rw [if_neg (by omega)]
 refine ⟨b, o + k * size, by simp [eF], hb, fun j u hu => ?_⟩
 rw [Nat.add_assoc]
 exact hcell _ u (by rw [← hu, List.getElem?_drop])
theorem Rd.Ph {base : Nat} {e : TypeId} {size n c : Nat} (h : w.ownsRow base e size (.slice A n c) n xs) : Rd w w.heap.size A xs := fun hn => by
 rcases h.2 with ⟨hv, hz⟩ | ⟨g, cap, cur, hv, _, hh, _, _, _, ht⟩
 ·
  subst hz
  have := h.1
  rw [Nat.zero_mul] at this
  exact absurd (List.eq_nil_of_length_eq_zero this) hn
 ·
  injection hv with hA _ _
  subst hA
  have hg : g < w.heap.size := by
   rcases Nat.lt_or_ge g w.heap.size with h1 | h1
   · exact h1
   · rw [Array.getElem?_eq_none h1] at hh; cases hh
  refine ⟨g, 0, rfl, hg, fun j u hu => ?_⟩
  have := h.cells (g := g) rfl j u hu
  rwa [eF] at this
theorem Rd.new (w : World) (cs : Array Value) (e : TypeId) : Rd (w.alloc (.cells cs e)) (w.heap.size + 1) (some ⟨w.heap.size, 0, none⟩) cs.toList := fun _ =>
 ⟨w.heap.size, 0, rfl, by omega, fun j u hu => by
  rw [cell_of_row _ _ _ cs e (0, 0) (heap_alloc_new w _)]
  simpa using hu⟩
end
theorem below_drewN {B : Nat} {a w : World} (h : Below B a w) (n : Nat) : Below B a (w.drewN n) := ⟨h.os, h.tape, h.output, h.size, h.block⟩
attribute [go_sem] After
theorem aX {w : World} {p : Addr} {v : Value} (hp : p.block < w.heap.size) (h : w.cell? p = some v) (x : Later w) : x.1.cell? p = some v := (x.2.cell hp).trans h
structure SlT (P : Program) (t e : TypeId) (size bytes : Nat) : Prop where
 und : P.underlying t = some (.slice e)
 info : ∃ i z, P.info? e = some i ∧ i.zero = some z ∧ i.size = size ∧ i.bytes = bytes ∧ z.cells.size = size
 pos : 0 < size
theorem dw {w : World} {base : Nat} {e : TypeId} {size : Nat} {v : Value} {n : Nat} {xs : List Value} (h : w.ownsRow base e size v n xs) :
  ∃ A c, v = .slice A n c ∧ n ≤ c ∧ c ≤ maxLen := by
 rcases h.2 with ⟨rfl, rfl⟩ | ⟨g, cap, cur, rfl, _, _, h1, h2, _, _⟩
 · exact ⟨none, 0, rfl, Nat.le_refl _, by simp [maxLen]⟩
 · exact ⟨_, cap, rfl, h1, h2⟩
theorem own_base {w : World} {base base' : Nat} {e : TypeId} {size : Nat} {v : Value} {n : Nat} {xs : List Value} (h : w.ownsRow base e size v n xs) (hb : base' ≤ base) : w.ownsRow base' e size v n xs := by
 refine ⟨h.1, ?_⟩
 rcases h.2 with h | ⟨g, cap, cur, h1, h2, h3⟩
 · exact .inl h
 · exact .inr ⟨g, cap, cur, h1, Nat.le_trans hb h2, h3⟩
theorem ql {w w' : World} {base : Nat} {e : TypeId} {size : Nat} {v : Value} {n : Nat} {xs : List Value} (h : w.ownsRow base e size v n xs) (hg : Gr w w') : w'.ownsRow base e size v n xs := by
 refine ⟨h.1, ?_⟩
 rcases h.2 with h | ⟨g, cap, cur, h1, h2, h3, h4⟩
 · exact .inl h
 ·
  refine .inr ⟨g, cap, cur, h1, h2, ?_, h4⟩
  rw [hg.block g (by
   rcases Nat.lt_or_ge g w.heap.size with h5 | h5
   · exact h5
   · rw [Array.getElem?_eq_none h5] at h3; cases h3)]
  exact h3
theorem bZ {w : World} {base : Nat} {e : TypeId} {size : Nat} {v : Value} {n : Nat} {xs : List Value} (h : w.ownsRow base e size v n xs) (k : Nat) (hk : v.ownBlock = some k) : base ≤ k := (h.lt k hk).1
section
variable {P : Program} {w : World}
theorem run_append_nil {base t ty e size bytes : Nat} (T : SlT P t e size bytes) {v : Value} {n : Nat} {xs : List Value} (hown : w.ownsRow base e size v n xs) (c : Nat) :
  (Builtin.append_ #[t, t] ty #[v, .slice none 0 c]).run P w = .ok v w := by
 obtain ⟨i, z, hi, _, hsize, _, _⟩ := T.info
 rcases hown.2 with ⟨rfl, rfl⟩ | ⟨g, cap, cur, rfl, _, _, hnc, _⟩
 · simp [Builtin.append_, run_underlying T.und, sizeOf, typeInfo, hi, Builtin.lenOf, Builtin.firstCells]
 · simp [Builtin.append_, run_underlying T.und, sizeOf, typeInfo, hi, Builtin.lenOf, Builtin.firstCells, hnc, storeCells]
theorem kP {base t ty e size bytes : Nat} (T : SlT P t e size bytes) {v : Value} {n : Nat} {xs : List Value} (hown : w.ownsRow base e size v n xs)
  {A : Option Addr} {m c B : Nat} {news : List Value} (hl : news.length = m * size) (hr : Rd w B A news) (h1 : ∀ u ∈ news, u.oneCell' = true)
  (h63 : n + m ≤ maxLen) (hbytes : (n + m) * bytes ≤ 140737488355328) (hbase : base ≤ w.heap.size) :
  ∃ A' c' w', (Builtin.append_ #[t, t] ty #[v, .slice A m c]).run P w = .ok (.slice A' (n + m) c') w' ∧ w'.ownsRow base e size (.slice A' (n + m) c') (n + m) (xs ++ news) ∧ w.grownBy w' v.ownBlock ∧
   ((Value.slice A' (n + m) c').ownBlock = v.ownBlock ∨ (Value.slice A' (n + m) c').ownBlock = some w.heap.size) := by
 have hnil : A = none → m = 0 ∧ news = [] := fun h => by
  by_cases hn : news = []
  ·
   subst hn
   have : m * size = 0 := by simpa using hl.symm
   rcases Nat.mul_eq_zero.1 this with h0 | h0
   · exact ⟨h0, rfl⟩
   · have := T.pos; omega
  ·
   obtain ⟨b, o, e, _⟩ := hr hn
   rw [h] at e; cases e
 cases A with
 | none =>
  obtain ⟨rfl, rfl⟩ := hnil rfl
  obtain ⟨A', c', rfl, _, _⟩ := dw hown
  refine ⟨A', c', w, run_append_nil T hown c, by simpa using hown, World.grownBy.refl w _, .inl rfl⟩
 | some ad =>
  have hcells : ∀ j u, news[j]? = some u → w.cell? (ad.add j) = some u := fun j u hu => by
   obtain ⟨b, o, e, _, hc⟩ := hr (fun e => by rw [e] at hu; simp at hu)
   injection e with e
   subst e
   rw [eF]
   exact hc j u hu
  obtain ⟨i, z, hi, hz, hsize, hby, hzs⟩ := T.info
  obtain ⟨v', w', hrun, h2, h3, _, h5⟩ := run_append_own_at (P := P) w base t ty e i z size bytes T.und hi hz hsize hby hzs T.pos v n xs hown ad m c news hl hcells h1 h63 hbytes hbase
  obtain ⟨A', c', rfl, _, _⟩ := dw h2
  exact ⟨A', c', w', hrun, h2, h3, h5⟩
theorem bg {ops : Array Oper} {rest : List Oper} {o : Oper} {a : Act} {Q : Exit → Act → World → Prop} (s x : Operand) (t : TypeId)
  {base e size bytes : Nat} (T : SlT P t e size bytes) (v : Value) (n : Nat) (xs : List Value) (A : Option Addr) (m c B : Nat) (news : List Value)
  (hgd : o.guard = none) (ho : o.op = .call { callee := .builtin .append, args := #[s, x], argTypes := #[t, t] }) (hs : a.eval s = v) (hx : a.eval x = .slice A m c)
  (hown : w.ownsRow base e size v n xs) (hr : Rd w B A news) (hl : news.length = m * size) (h1 : ∀ u ∈ news, u.oneCell' = true)
  (h63 : n + m ≤ maxLen) (hbytes : (n + m) * bytes ≤ 140737488355328) (hbase : base ≤ w.heap.size)
  (h : ∀ A' c' w', w'.ownsRow base e size (.slice A' (n + m) c') (n + m) (xs ++ news) → w.grownBy w' v.ownBlock →
   ((Value.slice A' (n + m) c').ownBlock = v.ownBlock ∨ (Value.slice A' (n + m) c').ownBlock = some w.heap.size) → wpList P ops Q rest (a.put o.dst (.slice A' (n + m) c')) w') : wpList P ops Q (o :: rest) a w := by
 refine wpList_plain hgd fun _ hK => ?_
 obtain ⟨A', c', w', hrun, h2, h3, h4⟩ := kP (P := P) (ty := o.type) T hown hl hr h1 h63 hbytes hbase (c := c)
 unfold Oper.wp execOp
 simp only [ho, resolve, invoke, builtin, Sem.run_bind, Sem.run_pure, Result.andThen_ok, List.map_toArray, List.map_cons, List.map_nil, hs, hx, hrun]
 exact hK _ _ (h A' c' w' h2 h3 h4)
end
theorem iG (w : World) (cs : Array Value) (e : TypeId) (size n g base : Nat) (hg : w.heap.size = g) (hb : base ≤ w.heap.size) (hm : n ≤ maxLen) (hs : cs.size = n * size) :
  (w.alloc (.cells cs e)).ownsRow base e size (.slice (some ⟨g, 0, none⟩) n n) n cs.toList := by
 subst hg
 exact World.ownsRow_lit w cs n hb hm hs
def bv (b : UInt8) : Value := .int .u8 b.toNat
def bvs (l : List UInt8) : List Value := l.map bv
theorem bn (l : List UInt8) : (bvs l).length = l.length := by simp [bvs]
theorem gZ (l m : List UInt8) : bvs (l ++ m) = bvs l ++ bvs m := by simp [bvs]
theorem GH (l : List UInt8) (k : Nat) : bvs (l.take k) = (bvs l).take k := by simp [bvs, List.map_take]
theorem Qx (l : List UInt8) (k : Nat) : bvs (l.drop k) = (bvs l).drop k := by simp [bvs, List.map_drop]
theorem eG (l : List UInt8) : ∀ u ∈ bvs l, u.oneCell' = true := by
 intro u hu
 obtain ⟨b, _, rfl⟩ := List.mem_map.1 hu
 rfl
theorem jJ (l : List UInt8) (j : Nat) (h : j < l.length) : (bvs l)[j]? = some (bv l[j]) := by simp [bvs, h]
theorem lC (b : UInt8) : b.toNat < 256 := b.toNat_lt
def IsB (w : World) (v : Value) (l : List UInt8) : Prop :=
 ∃ A c, v = .slice A l.length c ∧ l.length ≤ c ∧ c ≤ maxLen ∧ Rd w w.heap.size A (bvs l)
def OwnB (w : World) (base : Nat) (v : Value) (l : List UInt8) : Prop := w.ownsRow base 5 1 v l.length (bvs l)
theorem RP {w : World} {A : Option Addr} {l : List UInt8} {n c : Nat} (k : Nat) (h : Rd w w.heap.size A (bvs l)) (hn : l.length = n) (hc : n ≤ c) (hm : c ≤ maxLen) (hk : k ≤ n) :
  IsB w (.slice (if c = k then A else A.map (·.add k)) (n - k) (c - k)) (l.drop k) := by
 refine ⟨_, c - k, by rw [List.length_drop, hn], by rw [List.length_drop]; omega, by omega, ?_⟩
 have := h.cut (k := k) (n := n) (cap := c) (size := 1) (by rw [bn]; omega) hc
 simpa [Qx] using this
theorem zk {w : World} {b o : Nat} {l : List UInt8} {n c : Nat} (k : Nat) (h : Rd w w.heap.size (some ⟨b, o, none⟩) (bvs l)) (hn : l.length = n) (hc : n ≤ c) (hm : c ≤ maxLen) (hk : k ≤ n) (hne : c ≠ k) :
  IsB w (.slice (some ⟨b, o + k, none⟩) (n - k) (c - k)) (l.drop k) := by
 have := RP k h hn hc hm hk
 rw [if_neg hne] at this
 simpa [eF] using this
theorem OwnB.isB {w : World} {base : Nat} {v : Value} {l : List UInt8} (h : OwnB w base v l) : IsB w v l := by
 obtain ⟨A, c, rfl, h1, h2⟩ := dw h
 exact ⟨A, c, rfl, h1, h2, Rd.Ph h⟩
theorem IsB.gr {w w' : World} {v : Value} {l : List UInt8} (h : IsB w v l) (hg : Gr w w') : IsB w' v l := by
 obtain ⟨A, c, rfl, h1, h2, h3⟩ := h
 exact ⟨A, c, rfl, h1, h2, h3.gr hg⟩
theorem rZ (l : List UInt8) : Stable fun v w => IsB w v l := fun _ _ _ hg h => h.gr hg
theorem ownB_of {w : World} {base : Nat} {v : Value} {n : Nat} {xs : List Value} {l : List UInt8} (h : w.ownsRow base 5 1 v n xs) (hx : xs = bvs l) : OwnB w base v l := by
 subst hx
 have := h.1
 rw [bn, Nat.mul_one] at this
 unfold OwnB
 rw [this]
 exact h
theorem Du (w : World) (cs : Array Value) (l : List UInt8) (h : cs.toList = bvs l) (hn : l.length ≤ maxLen) : IsB (w.alloc (.cells cs 5)) (.slice (some ⟨w.heap.size, 0, none⟩) l.length l.length) l := by
 refine ⟨_, _, rfl, Nat.le_refl _, hn, ?_⟩
 rw [← h]
 have := Rd.new w cs 5
 simpa using this
theorem IsB.nil (w : World) : IsB w (.slice none 0 0) [] := ⟨none, 0, rfl, Nat.le_refl _, by simp [maxLen], Rd.nil⟩
theorem OwnB.nil (w : World) (base : Nat) : OwnB w base (.slice none 0 0) [] := World.ownsRow_nil _ _ _ _
def Ret (V : VP) (w : World) (e : Ending) (w' : World) : Prop := ∃ v, e = .returned v ∧ Gr w w' ∧ V v w'
theorem bV : SlT Tryz.prog 30 5 1 1 :=
 ⟨Tryz.underlying30, by
  have h : (Tryz.prog.info? 5).map (fun i => (i.zero, i.size, i.bytes)) = some (some (.int .u8 0), 1, 1) := by kernel_rfl
  obtain ⟨i, hi, hz, h1, h2⟩ := info_parts h
  exact ⟨i, _, hi, hz, h1, h2, rfl⟩, by omega⟩
end Go.Proofs.YtiledgojbpmoiaaGreat
namespace Go.Proofs.YtiledgojbpmoiaaGreat
set_option maxHeartbeats 1000000
open Go.RowKit Mono
def common : List UInt8 → List UInt8 → Nat
 | x :: xs, y :: ys => if x = y then common xs ys + 1 else 0
 | _, _ => 0
theorem wV (l m : List UInt8) (k : Nat) (h1 : k < l.length) (h2 : k < m.length) :
  common (l.drop k) (m.drop k) = if l[k] = m[k] then common (l.drop (k + 1)) (m.drop (k + 1)) + 1 else 0 := by
 rw [List.drop_eq_getElem_cons h1, List.drop_eq_getElem_cons h2, common]
theorem o7 (l m : List UInt8) (k : Nat) (h : l.length ≤ k ∨ m.length ≤ k) : common (l.drop k) (m.drop k) = 0 := by
 rcases h with h | h
 · rw [List.drop_eq_nil_of_le h]; rfl
 · rw [List.drop_eq_nil_of_le h]; cases l.drop k <;> rfl
theorem Ci (a b : UInt8) : ((a.toNat : Int) == (b.toNat : Int)) = decide (a = b) := by
 rw [Bool.eq_iff_iff]; simp only [beq_iff_eq, decide_eq_true_eq]; rw [Int.ofNat_inj, UInt8.toNat_inj]
def QI (n : Nat) (w : World) (e : Ending) (w' : World) : Prop := e = .returned (.int .i64 n) ∧ ∃ k, w' = w.drewN k
theorem H7 (v1 v2 : Value) (l m : List UInt8) (w : World) (h1 : IsB w v1 l) (h2 : IsB w v2 m) :
  Calls Tryz.prog 126 #[v1, v2] w (QI (common l m) w) := by
 obtain ⟨A, c, rfl, hl1, hl2, hA⟩ := h1
 obtain ⟨B, d, rfl, hm1, hm2, hB⟩ := h2
 unfold maxLen at hl2 hm2
 have HA := Lib.hid hA
 have HB := Lib.hid hB
 clear hA hB
 go_enter Tryz.func126, Tryz.ntmps126
 go_wp2
 go_loopw [5] (fun n wr => ∃ k : Nat, k ≤ l.length ∧ k ≤ m.length ∧ n = .int .i64 k ∧ (∃ n, wr = w.drewN n) ∧ Hid (common l m = k + common (l.drop k) (m.drop k))) (fun n _ => l.length - (intOf n).toNat)
 case atStart => exact ⟨0, by omega, by omega, rfl, ⟨0, rfl⟩, Lib.hid (by simp)⟩
 case round =>
  obtain ⟨k, hk1, hk2, rfl, ⟨nn, rfl⟩, hC⟩ := hrel
  by_cases h1 : k < l.length
  ·
   by_cases h2 : k < m.length
   ·
    obtain ⟨b1, o1, rfl, _, c1⟩ := HA.out (by intro e; have := bn l; rw [e] at this; simp at this; omega)
    obtain ⟨b2, o2, rfl, _, c2⟩ := HB.out (by intro e; have := bn m; rw [e] at this; simp at this; omega)
    have d1 := c1 k _ (jJ l k h1)
    have d2 := c2 k _ (jJ m k h2)
    clear c1 c2
    unfold bv at d1 d2
    have hst := Lib.hid (wV l m k h1 h2)
    go_wp2
    go_quiet (fail)
    go_wp2
    ·
     go_roundw
     case rel =>
      have he : l[k] = m[k] := by have h := ‹((l[k].toNat : Int) == (m[k].toNat : Int)) = true›; rw [Ci] at h; simpa using h
      exact ⟨k + 1, by omega, by omega, by go_num, ⟨nn + nq, by simp⟩, Lib.hid (by rw [hC.out, hst.out, if_pos he]; omega)⟩
     case measure => simp [intOf]; omega
    ·
     have he : ¬ l[k] = m[k] := by have h := ‹((l[k].toNat : Int) == (m[k].toNat : Int)) = false›; rw [Ci] at h; simpa using h
     go_ret
     exact ⟨by rw [hC.out, hst.out, if_neg he]; simp, nn + nq, by simp⟩
   ·
    have hst := Lib.hid (o7 l m k (by omega))
    go_wp2
    go_quiet (fail)
    go_wp2
    go_ret
    exact ⟨by rw [hC.out, hst.out]; simp, nn + nq, by simp⟩
  ·
   have hst := Lib.hid (o7 l m k (by omega))
   go_wp2
   go_quiet (fail)
   go_wp2
   go_ret
   exact ⟨by rw [hC.out, hst.out]; simp, nn + nq, by simp⟩
theorem Fb (v1 v2 : Value) (l m : List UInt8) (w : World) (h1 : IsB w v1 l) (h2 : IsB w v2 m) :
  Calls Tryz.prog 166 #[v1, v2] w (QI (common l m) w) := by
 obtain ⟨A, c, rfl, hl1, hl2, hA⟩ := h1
 obtain ⟨B, d, rfl, hm1, hm2, hB⟩ := h2
 unfold maxLen at hl2 hm2
 have HA := Lib.hid hA
 have HB := Lib.hid hB
 clear hA hB
 go_enter Tryz.func166, Tryz.ntmps166
 go_wp2
 go_loopw [5] (fun n wr => ∃ k : Nat, k ≤ l.length ∧ k ≤ m.length ∧ n = .int .i64 k ∧ (∃ n, wr = w.drewN n) ∧ Hid (common l m = k + common (l.drop k) (m.drop k))) (fun n _ => l.length - (intOf n).toNat)
 case atStart => exact ⟨0, by omega, by omega, rfl, ⟨0, rfl⟩, Lib.hid (by simp)⟩
 case round =>
  obtain ⟨k, hk1, hk2, rfl, ⟨nn, rfl⟩, hC⟩ := hrel
  by_cases h1 : k < l.length
  ·
   by_cases h2 : k < m.length
   ·
    obtain ⟨b1, o1, rfl, _, c1⟩ := HA.out (by intro e; have := bn l; rw [e] at this; simp at this; omega)
    obtain ⟨b2, o2, rfl, _, c2⟩ := HB.out (by intro e; have := bn m; rw [e] at this; simp at this; omega)
    have d1 := c1 k _ (jJ l k h1)
    have d2 := c2 k _ (jJ m k h2)
    clear c1 c2
    unfold bv at d1 d2
    have hst := Lib.hid (wV l m k h1 h2)
    go_wp2
    go_quiet (fail)
    go_wp2
    ·
     go_roundw
     case rel =>
      have he : l[k] = m[k] := by have h := ‹((l[k].toNat : Int) == (m[k].toNat : Int)) = true›; rw [Ci] at h; simpa using h
      exact ⟨k + 1, by omega, by omega, by go_num, ⟨nn + nq, by simp⟩, Lib.hid (by rw [hC.out, hst.out, if_pos he]; omega)⟩
     case measure => simp [intOf]; omega
    ·
     have he : ¬ l[k] = m[k] := by have h := ‹((l[k].toNat : Int) == (m[k].toNat : Int)) = false›; rw [Ci] at h; simpa using h
     go_ret
     exact ⟨by rw [hC.out, hst.out, if_neg he]; simp, nn + nq, by simp⟩
   ·
    have hst := Lib.hid (o7 l m k (by omega))
    go_wp2
    go_quiet (fail)
    go_wp2
    go_ret
    exact ⟨by rw [hC.out, hst.out]; simp, nn + nq, by simp⟩
  ·
   have hst := Lib.hid (o7 l m k (by omega))
   go_wp2
   go_quiet (fail)
   go_wp2
   go_ret
   exact ⟨by rw [hC.out, hst.out]; simp, nn + nq, by simp⟩
def split (l : List UInt8) : List UInt8 := l.flatMap fun (x : UInt8) => [x >>> 4, x &&& 15]
theorem dG (l : List UInt8) : (split l).length = 2 * l.length := by
 induction l with
 | nil => rfl
 | cons x l ih => unfold split at *; rw [List.flatMap_cons, List.length_append, ih]; simp; omega
theorem yt (l : List UInt8) (k : Nat) (h : k < l.length) : split (l.take (k + 1)) = split (l.take k) ++ [l[k] >>> 4, l[k] &&& 15] := by
 rw [List.take_succ_eq_append_getElem h, split, List.flatMap_append]; rfl
theorem VX (x : UInt8) : bvs [x >>> 4, x &&& 15] = [.int .u8 ((x.toNat : Int) / 16), .int .u8 ((x.toNat : Int) % 16)] := by
 have h1 : (x >>> 4).toNat = x.toNat / 16 := by rw [UInt8.toNat_shiftRight]; simp [Nat.shiftRight_eq_div_pow]
 have h2 : (x &&& 15).toNat = x.toNat % 16 := by rw [UInt8.toNat_and]; exact Nat.and_two_pow_sub_one_eq_mod _ 4
 simp [bvs, bv, h1, h2]
theorem Iw (v1 : Value) (l : List UInt8) (w : World) (h1 : IsB w v1 l) (hlen : l.length ≤ 1073741824) :
  Calls Tryz.prog 86 #[v1] w (Ret (fun v w' => OwnB w' w.heap.size v (split l)) w) := by
 obtain ⟨A, c, rfl, hl1, hl2, hA⟩ := h1
 clear hl1 hl2
 have HA := Lib.hid hA
 clear hA
 go_enter Tryz.func86, Tryz.ntmps86
 go_wp2
 go_loopw [3, 8] (fun v i wr => ∃ k : Nat, k ≤ l.length ∧ i = .int .i64 k ∧ OwnB wr w.heap.size v (split (l.take k)) ∧ Below w.heap.size w wr) (fun _ i _ => l.length - (intOf i).toNat)
 case atStart => exact ⟨0, by omega, rfl, OwnB.nil w w.heap.size, Below.refl _ _⟩
 case round =>
  obtain ⟨k, hk1, rfl, hown, hb⟩ := hrel
  obtain ⟨A', c', rfl, hc1, hc2⟩ := dw hown
  have hsl : (split (l.take k)).length ≤ 2 * k := by rw [dG, List.length_take]; omega
  have hbs := hb.size
  have HO := Lib.hid hown
  have HB := Lib.hid hb
  clear hown hb
  by_cases h1 : k < l.length
  ·
   obtain ⟨b1, o1, rfl, hb1, c1⟩ := HA.out (by intro e; have := bn l; rw [e] at this; simp at this; omega)
   have d1 := (HB.out.cell (p := ⟨b1, o1 + k, none⟩) hb1).trans (c1 k _ (jJ l k h1))
   clear c1
   unfold bv at d1
   have hlx := lC l[k]
   have HS := Lib.hid (yt l k h1)
   have HN := Lib.hid (VX l[k])
   generalize l[k].toNat = x at d1 hlx HN
   go_wp2_with (at_builtin; refine bg _ _ 30 bV _ _ _ _ _ _ (wr.heap.size + 1) [.int .u8 (↑x / 16), .int .u8 (↑x % 16)] rfl rfl rfl rfl (HO.out.alloc _) (Rd.new _ _ _) rfl (by simp [Value.oneCell']) (by simp only [maxLen]; omega) (by omega) (by simp; omega) ?_; intro A2 c2 w2 hown2 hg2 _)
   go_roundw
   case rel =>
    refine ⟨k + 1, by omega, by go_num, ?_, ?_⟩
    ·
     unfold OwnB
     rw [HS.out, gZ, List.length_append]
     have e := HN.out
     rw [← e] at hown2
     exact hown2
    · exact (HB.out.alloc hbs _).grown hg2 (by simp; omega) fun j hj => bZ HO.out j hj
   case measure => simp [intOf]; omega
  ·
   go_wp2
   refine bodyPost_ret (results_tmp rfl _ _ _) rfl ?_
   refine ⟨_, rfl, HB.out, ?_⟩
   have h := HO.out
   rw [List.take_of_length_le (by omega)] at h
   show OwnB _ _ (.slice A' (split (l.take k)).length c') _
   rw [List.take_of_length_le (by omega)]
   exact h
theorem LH (v1 : Value) (l : List UInt8) (w : World) (h1 : IsB w v1 l) (hlen : l.length ≤ 1073741824) :
  Calls Tryz.prog 76 #[v1] w (Ret (fun v w' => OwnB w' w.heap.size v (split l)) w) := by
 obtain ⟨A, c, rfl, hl1, hl2, hA⟩ := h1
 clear hl1 hl2
 have HA := Lib.hid hA
 clear hA
 go_enter Tryz.func76, Tryz.ntmps76
 go_wp2
 go_loopw [3, 4] (fun v i wr => ∃ k : Nat, k ≤ l.length ∧ i = .int .i64 k ∧ OwnB wr w.heap.size v (split (l.take k)) ∧ Below w.heap.size w wr) (fun _ i _ => l.length - (intOf i).toNat)
 case atStart => exact ⟨0, by omega, rfl, OwnB.nil w w.heap.size, Below.refl _ _⟩
 case round =>
  obtain ⟨k, hk1, rfl, hown, hb⟩ := hrel
  obtain ⟨A', c', rfl, hc1, hc2⟩ := dw hown
  have hsl : (split (l.take k)).length ≤ 2 * k := by rw [dG, List.length_take]; omega
  have hbs := hb.size
  have HO := Lib.hid hown
  have HB := Lib.hid hb
  clear hown hb
  by_cases h1 : k < l.length
  ·
   obtain ⟨b1, o1, rfl, hb1, c1⟩ := HA.out (by intro e; have := bn l; rw [e] at this; simp at this; omega)
   have hbw : b1 < wr.heap.size := by omega
   have d1 := aX (w := wr) (p := ⟨b1, o1 + k, none⟩) hbw ((HB.out.cell (p := ⟨b1, o1 + k, none⟩) hb1).trans (c1 k _ (jJ l k h1)))
   clear c1
   unfold bv at d1
   have hlx := lC l[k]
   have HS := Lib.hid (yt l k h1)
   have HN := Lib.hid (VX l[k])
   generalize l[k].toNat = x at d1 hlx HN
   go_wp2
   refine dM 12 (by kernel_rfl) (by kernel_rfl) (by kernel_rfl) ?_
   simp only [List.take_succ_cons, List.take_zero, List.drop_succ_cons, List.drop_zero]
   refine dR 11 (by kernel_rfl) ?_
   simp only [List.take_succ_cons, List.take_zero, List.drop_succ_cons, List.drop_zero]
   repeat (go_big_quiet_step (fail))
   refine wpQuiet_nil ?_
   refine BU 22 (fun v w => IsB w v [l[k] >>> 4, l[k] &&& 15]) rfl rfl (by kernel_rfl) (by kernel_rfl) (rZ _) (fun x => ?_) ?_
   ·
    simp [go_sem, fV]
    exact ⟨aB _ _, Du _ _ _ HN.out.symm (by simp [maxLen])⟩
   refine iF (by kernel_rfl) ?_
   intro W hW
   replace hW := hW.gr
   have hbs2 := hW.size
   intro v22 h22
   obtain ⟨A22, c22, rfl, _, _, hrd⟩ := h22
   unfold oV
   go_wp2_with (at_builtin; refine bg _ _ 30 bV _ _ _ _ _ _ _ (bvs [l[k] >>> 4, l[k] &&& 15]) rfl rfl rfl rfl (ql HO.out hW) hrd (by simp [bvs]) (eG _) (by simp only [maxLen]; simp; omega) (by simp; omega) (by omega) ?_; intro A2 c2 w2 hown2 hg2 _)
   go_roundw
   case rel =>
    refine ⟨k + 1, by omega, by go_num, ?_, ?_⟩
    ·
     unfold OwnB
     rw [HS.out, gZ, List.length_append]
     exact hown2
    · exact (HB.out.trans (hW.mono hbs)).grown hg2 (by omega) fun j hj => bZ HO.out j hj
   case measure => simp [intOf]; omega
  ·
   go_wp2
   refine bodyPost_ret (results_tmp rfl _ _ _) rfl ?_
   refine ⟨_, rfl, HB.out, ?_⟩
   have h := HO.out
   rw [List.take_of_length_le (by omega)] at h
   show OwnB _ _ (.slice A' (split (l.take k)).length c') _
   rw [List.take_of_length_le (by omega)]
   exact h
def joinL : List UInt8 → Option (List UInt8)
 | [] => some []
 | [_] => none
 | x :: y :: r => if x.toNat ≤ 15 ∧ y.toNat ≤ 15 then (joinL r).map fun t => (x <<< 4 ||| y) :: t else none
theorem vI : ∀ (p : List UInt8), p.length % 2 = 1 → joinL p = none
 | [], h => by simp at h
 | [_], _ => rfl
 | x :: y :: r, h => by
  rw [joinL, vI r (by simp at h; omega)]
  simp
theorem zf (p : List UInt8) (k : Nat) (h1 : k < p.length) (h2 : k + 1 < p.length) :
  joinL (p.drop k) = if p[k].toNat ≤ 15 ∧ p[k + 1].toNat ≤ 15 then (joinL (p.drop (k + 2))).map fun t => (p[k] <<< 4 ||| p[k + 1]) :: t else none := by
 rw [List.drop_eq_getElem_cons h1, List.drop_eq_getElem_cons h2, joinL]
def KQ (base : Nat) (p : List UInt8) : VP := fun v w => ∃ v1, v = .tuple #[v1, .bool (joinL p).isSome] ∧ OwnB w base v1 ((joinL p).getD [])
theorem O9 (x y : Nat) (hx : x ≤ 15) (hy : y ≤ 15) (a b : UInt8) (ha : a.toNat = x) (hb : b.toNat = y) : (a <<< 4 ||| b).toNat = x * 16 + y := by
 have h : ∀ x : Fin 16, ∀ y : Fin 16, ((UInt8.ofNat x.1) <<< 4 ||| (UInt8.ofNat y.1)).toNat = x.1 * 16 + y.1 := by decide +kernel
 subst ha hb
 simpa using h ⟨a.toNat, by omega⟩ ⟨b.toNat, by omega⟩
theorem Pe (x y : Nat) (hx : x ≤ 15) (hy : y ≤ 15) : bits .or .u8 ((x : Int) * 16) (y : Int) = ((x * 16 + y : Nat) : Int) := by
 have h : ∀ x : Fin 16, ∀ y : Fin 16, bits .or .u8 ((x.1 : Int) * 16) (y.1 : Int) = ((x.1 * 16 + y.1 : Nat) : Int) := by decide +kernel
 exact h ⟨x, by omega⟩ ⟨y, by omega⟩
theorem uf (v1 : Value) (p : List UInt8) (w : World) (h1 : IsB w v1 p) (hlen : p.length ≤ 1073741824) :
  Calls Tryz.prog 120 #[v1] w (Ret (KQ w.heap.size p) w) := by
 obtain ⟨A, c, rfl, hl1, hl2, hA⟩ := h1
 clear hl1 hl2
 have HA := Lib.hid hA
 clear hA
 by_cases hodd : p.length % 2 = 1
 ·
  have HJ := Lib.hid (vI p hodd)
  go_enter Tryz.func120, Tryz.ntmps120
  go_wp2
  refine bodyPost_ret (results_tmp2 rfl _ _ _) rfl ?_
  refine ⟨_, rfl, Below.refl _ _, .slice none 0 0, ?_, ?_⟩
  · rw [HJ.out]; rfl
  · rw [HJ.out]; exact OwnB.nil _ _
 ·
  have hev : p.length % 2 = 0 := by omega
  clear hodd
  have hevI : (p.length : Int) % 2 = 0 := by omega
  go_enter Tryz.func120, Tryz.ntmps120
  go_wp2
  clear hevI
  go_loopw [4, 5] (fun v i wr => ∃ (j : Nat) (pre : List UInt8), 2 * j ≤ p.length ∧ i = .int .i64 (2 * j : Nat) ∧ pre.length = j ∧ OwnB wr w.heap.size v pre ∧ Below w.heap.size w wr ∧ Hid (joinL p = (joinL (p.drop (2 * j))).map (pre ++ ·))) (fun _ i _ => p.length - (intOf i).toNat)
  case atStart => exact ⟨0, [], by omega, rfl, rfl, OwnB.nil w w.heap.size, Below.refl _ _, Lib.hid (by simp)⟩
  case round =>
   obtain ⟨j, pre, hj, rfl, hpre, hown, hb, hJ⟩ := hrel
   obtain ⟨A', c', rfl, hc1, hc2⟩ := dw hown
   have hbs := hb.size
   have HO := Lib.hid hown
   have HB := Lib.hid hb
   have HP := Lib.hid hpre
   have hpl : pre.length ≤ j := by omega
   clear hown hb hpre
   by_cases h1 : 2 * j < p.length
   ·
    have h2 : 2 * j + 1 < p.length := by omega
    obtain ⟨b1, o1, rfl, hb1, c1⟩ := HA.out (by intro e; have := bn p; rw [e] at this; simp at this; omega)
    have hbw : b1 < wr.heap.size := by omega
    have r1 := (HB.out.cell (p := ⟨b1, o1 + 2 * j, none⟩) hb1).trans (c1 (2 * j) _ (jJ p (2 * j) h1))
    have r2 := (HB.out.cell (p := ⟨b1, o1 + (2 * j + 1), none⟩) hb1).trans (c1 (2 * j + 1) _ (jJ p (2 * j + 1) h2))
    have d1 := aX (w := wr) (p := ⟨b1, o1 + 2 * j, none⟩) hbw r1
    have d2 := aX (w := wr) (p := ⟨b1, o1 + (2 * j + 1), none⟩) hbw r2
    clear c1
    unfold bv at d1 d2 r1 r2
    have HS := Lib.hid (zf p (2 * j) h1 h2)
    have hx0 := lC p[2 * j]
    have hy0 := lC p[2 * j + 1]
    obtain ⟨x, hx⟩ : ∃ x, x = p[2 * j].toNat := ⟨_, rfl⟩
    obtain ⟨y, hy⟩ : ∃ y, y = p[2 * j + 1].toNat := ⟨_, rfl⟩
    rw [← hx] at d1 r1 hx0
    rw [← hy] at d2 r2 hy0
    have HX := Lib.hid hx
    have HY := Lib.hid hy
    clear hx hy
    by_cases hc : x ≤ 15 ∧ y ≤ 15
    ·
     obtain ⟨hcx, hcy⟩ := hc
     go_wp2
     refine dM 13 (by kernel_rfl) (by kernel_rfl) (by kernel_rfl) ?_
     simp only [List.take_succ_cons, List.take_zero, List.drop_succ_cons, List.drop_zero]
     refine dR 12 (by kernel_rfl) ?_
     simp only [List.take_succ_cons, List.take_zero, List.drop_succ_cons, List.drop_zero]
     repeat (go_big_quiet_step (fail))
     refine wpQuiet_nil ?_
     refine BU 41 (fun v w => IsB w v [p[2 * j] <<< 4 ||| p[2 * j + 1]]) rfl rfl (by kernel_rfl) (by kernel_rfl) (rZ _) (fun xw => ?_) ?_
     ·
      simp [go_sem, fV]
      rw [Pe x y hcx hcy]
      refine ⟨aB _ _, Du _ _ [p[2 * j] <<< 4 ||| p[2 * j + 1]] ?_ (by simp [maxLen])⟩
      simp [bvs, bv, O9 x y hcx hcy _ _ HX.out.symm HY.out.symm]
     refine iF (by kernel_rfl) ?_
     intro W hW
     replace hW := hW.gr
     have hbs2 := hW.size
     intro v22 h22
     obtain ⟨A22, c22, rfl, _, _, hrd⟩ := h22
     unfold oV
     go_wp2_with (at_builtin; refine bg _ _ 30 bV _ _ _ _ _ _ _ (bvs [p[2 * j] <<< 4 ||| p[2 * j + 1]]) rfl rfl rfl rfl (ql HO.out hW) hrd (by simp [bvs]) (eG _) (by simp only [maxLen]; simp; omega) (by simp; omega) (by omega) ?_; intro A2 c2 w2 hown2 hg2 _)
     go_roundw
     case rel =>
      refine ⟨j + 1, pre ++ [p[2 * j] <<< 4 ||| p[2 * j + 1]], by omega, by go_num, by simp [HP.out], ?_, (HB.out.trans (hW.mono hbs)).grown hg2 (by omega) fun j hj => bZ HO.out j hj, Lib.hid ?_⟩
      ·
       unfold OwnB
       rw [gZ, List.length_append]
       exact hown2
      ·
       rw [hJ.out, HS.out, if_pos ⟨by rw [← HX.out]; exact hcx, by rw [← HY.out]; exact hcy⟩, show 2 * (j + 1) = 2 * j + 2 by omega]
       cases joinL (p.drop (2 * j + 2)) <;> simp
     case measure => simp [intOf]; omega
    ·
     by_cases hcx : x ≤ 15
     ·
      have hcy : 15 < y := by omega
      have hno := Lib.hid hc
      clear hc
      go_wp2
      refine bodyPost_ret (results_tmp2 rfl _ _ _) rfl ?_
      refine ⟨_, rfl, HB.out, .slice none 0 0, ?_, ?_⟩
      · rw [hJ.out, HS.out, if_neg (by rw [← HX.out, ← HY.out]; exact hno.out)]; rfl
      · rw [hJ.out, HS.out, if_neg (by rw [← HX.out, ← HY.out]; exact hno.out)]; exact OwnB.nil _ _
     ·
      have hcx' : 15 < x := by omega
      have hno := Lib.hid hc
      clear hc hcx
      go_wp2
      refine bodyPost_ret (results_tmp2 rfl _ _ _) rfl ?_
      refine ⟨_, rfl, HB.out, .slice none 0 0, ?_, ?_⟩
      · rw [hJ.out, HS.out, if_neg (by rw [← HX.out, ← HY.out]; exact hno.out)]; rfl
      · rw [hJ.out, HS.out, if_neg (by rw [← HX.out, ← HY.out]; exact hno.out)]; exact OwnB.nil _ _
   ·
    have hd := Lib.hid (List.drop_eq_nil_of_le (Nat.le_of_not_lt h1))
    go_wp2
    refine bodyPost_ret (results_tmp2 rfl _ _ _) rfl ?_
    refine ⟨_, rfl, HB.out, .slice A' pre.length c', ?_, ?_⟩
    · rw [hJ.out, hd.out]; rfl
    · rw [hJ.out, hd.out]; simpa [joinL] using HO.out
theorem Gj (x : UInt8) (w : World) : Calls Tryz.prog 240 #[bv x] w fun e w' => e = .returned (.bool (decide (15 < x.toNat))) ∧ w' = w := by
 unfold bv
 have hlx := lC x
 generalize x.toNat = n at hlx
 go_enter Tryz.func240, Tryz.ntmps240
 go_wp2
 go_ret
 simp
 omega
def KN (b : Bool) (w : World) (e : Ending) (w' : World) : Prop := e = .returned (.bool b) ∧ ∃ k, w' = w.drewN k
def Vt (b : Int) (w : World) (e : Ending) (w' : World) : Prop := e = .returned (.int .i64 b) ∧ ∃ k, w' = w.drewN k
def qG : List UInt8 → Nat → Int
 | [], _ => -1
 | x :: l, k => if 15 < x.toNat then k else qG l (k + 1)
theorem QC (l : List UInt8) : ∀ k, (0 ≤ qG l k ↔ ∃ x ∈ l, 15 < x.toNat) := by
 induction l with
 | nil => intro k; simp [qG]
 | cons x l ih =>
  intro k
  unfold qG
  split
  · simp [*]
  · rw [ih]; simp [*]
theorem Ji (l : List UInt8) (k : Nat) (h : k < l.length) : qG (l.drop k) k = if 15 < l[k].toNat then (k : Int) else qG (l.drop (k + 1)) (k + 1) := by
 rw [List.drop_eq_getElem_cons h, qG]
theorem IV (v1 : Value) (l : List UInt8) (w : World) (h1 : IsB w v1 l) :
  Calls Tryz.prog 243 #[v1, .func (.func 240) #[] #[]] w (Vt (qG l 0) w) := by
 obtain ⟨A, c, rfl, hl1, hl2, hA⟩ := h1
 unfold maxLen at hl2
 have HA := Lib.hid hA
 clear hA
 go_enter Tryz.func243, Tryz.ntmps243
 go_wp2
 go_loopw [8] (fun i wr => ∃ k : Nat, k ≤ l.length ∧ i = .int .i64 k ∧ wr = w ∧ Hid (qG l 0 = qG (l.drop k) k)) (fun i _ => l.length - (intOf i).toNat)
 case atStart => exact ⟨0, by omega, rfl, rfl, Lib.hid (by simp)⟩
 case round =>
  obtain ⟨k, hk1, rfl, rfl, hC⟩ := hrel
  by_cases h1 : k < l.length
  ·
   obtain ⟨b1, o1, rfl, _, c1⟩ := HA.out (by intro e; have := bn l; rw [e] at this; simp at this; omega)
   have d1 := c1 k _ (jJ l k h1)
   clear c1
   have hst := Lib.hid (Ji l k h1)
   by_cases hb : 15 < l[k].toNat
   ·
    have he : decide (15 < l[k].toNat) = true := by simpa using hb
    have hf := Gj l[k] wr
    rw [he] at hf
    have HB := Lib.hid hb
    clear hb he
    generalize bv l[k] = u at d1 hf
    have HF := Lib.hid hf
    clear hf
    go_wp2_with (go_at_call 240; refine HF.out.mono ?_; rintro e w' ⟨rfl, rfl⟩)
    go_ret
    refine ⟨?_, 0, rfl⟩
    rw [hC.out, hst.out, if_pos HB.out]
    rfl
   ·
    have he : decide (15 < l[k].toNat) = false := by simpa using hb
    have hf := Gj l[k] wr
    rw [he] at hf
    have HB := Lib.hid hb
    clear hb he
    generalize bv l[k] = u at d1 hf
    have HF := Lib.hid hf
    clear hf
    go_wp2_with (go_at_call 240; refine HF.out.mono ?_; rintro e w' ⟨rfl, rfl⟩)
    go_roundw
    case rel => exact ⟨k + 1, by omega, by go_num, trivial, Lib.hid (by rw [hC.out, hst.out, if_neg HB.out])⟩
    case measure => simp [intOf]; omega
  ·
   have hd := Lib.hid (List.drop_eq_nil_of_le (Nat.le_of_not_lt h1))
   go_wp2
   go_ret
   exact ⟨by rw [hC.out, hd.out]; rfl, 0, rfl⟩
theorem Ak (v1 : Value) (l : List UInt8) (w : World) (h1 : IsB w v1 l) :
  Calls Tryz.prog 239 #[v1, .func (.func 240) #[] #[]] w (KN (l.any fun x => decide (15 < x.toNat)) w) := by
 have hc := Lib.hid (IV v1 l w h1)
 have hb := Lib.hid (QC l 0)
 clear h1
 generalize qG l 0 = n at hc hb
 go_enter Tryz.func239, Tryz.ntmps239
 go_wp2_with fail
 refine hc.out.mono ?_
 rintro e w' ⟨rfl, k, rfl⟩
 go_wp2
 go_ret
 refine ⟨?_, k, rfl⟩
 show Ending.returned (.bool (decide (0 ≤ n))) = _
 congr 2
 have := hb.out
 rw [Bool.eq_iff_iff]
 simp only [decide_eq_true_eq, List.any_eq_true]
 exact this
theorem MI (v1 : Value) (l : List UInt8) (w : World) (h1 : IsB w v1 l) :
  Calls Tryz.prog 230 #[v1] w (KN (!(l.any fun x => decide (15 < x.toNat))) w) := by
 have hc := Lib.hid (Ak v1 l w h1)
 clear h1
 generalize (l.any fun x => decide (15 < x.toNat)) = n at hc
 go_enter Tryz.func230, Tryz.ntmps230
 go_wp2_with fail
 refine hc.out.mono ?_
 rintro e w' ⟨rfl, k, rfl⟩
 go_wp2
 go_ret
 exact ⟨by simp, k, rfl⟩
theorem Bv : ∀ (p : List UInt8), (p.any fun x => decide (15 < x.toNat)) = true → joinL p = none
 | [], h => by simp at h
 | [_], _ => rfl
 | x :: y :: r, h => by
  rw [joinL]
  split
  ·
   rename_i hc
   rw [Bv r (by
    simp only [List.any_cons, Bool.or_eq_true, decide_eq_true_eq] at h
    rcases h with h | h | h
    · omega
    · omega
    · exact h)]
   rfl
  · rfl
theorem OA (p : List UInt8) (h : (p.any fun x => decide (15 < x.toNat)) = false) (k : Nat) (hk : k < p.length) : p[k].toNat ≤ 15 := by
 rw [List.any_eq_false] at h
 have := h p[k] (List.getElem_mem hk)
 simpa using this
theorem ru (v1 : Value) (p : List UInt8) (w : World) (h1 : IsB w v1 p) (hlen : p.length ≤ 1073741824) :
  Calls Tryz.prog 209 #[v1] w (Ret (KQ w.heap.size p) w) := by
 have hf := MI v1 p w h1
 obtain ⟨A, c, rfl, hl1, hl2, hA⟩ := h1
 clear hl1 hl2
 have HA := Lib.hid hA
 clear hA
 by_cases hodd : p.length % 2 = 1
 ·
  have HJ := Lib.hid (vI p hodd)
  have hoddI : (p.length : Int) % 2 = 1 := by omega
  clear hf hodd
  go_enter Tryz.func209, Tryz.ntmps209
  go_wp2_with fail
  refine bodyPost_ret (results_tmp2 rfl _ _ _) rfl ?_
  refine ⟨_, rfl, Below.refl _ _, .slice none 0 0, ?_, ?_⟩
  · rw [HJ.out]; rfl
  · rw [HJ.out]; exact OwnB.nil _ _
 ·
  have hev : p.length % 2 = 0 := by omega
  clear hodd
  have hevI : (p.length : Int) % 2 = 0 := by omega
  by_cases hbig : (p.any fun x => decide (15 < x.toNat)) = true
  ·
   rw [hbig] at hf
   have HJ := Lib.hid (Bv p hbig)
   have HF := Lib.hid hf
   clear hf hbig
   go_enter Tryz.func209, Tryz.ntmps209
   go_wp2_with (go_at_call 230; refine HF.out.mono ?_; rintro e w' ⟨rfl, q, rfl⟩)
   refine bodyPost_ret (results_tmp2 rfl _ _ _) rfl ?_
   refine ⟨_, rfl, below_drewN (Below.refl _ _) q, .slice none 0 0, ?_, ?_⟩
   · rw [HJ.out]; rfl
   · rw [HJ.out]; exact OwnB.nil _ _
  ·
   have hbig' : (p.any fun x => decide (15 < x.toNat)) = false := by simpa using hbig
   rw [hbig'] at hf
   have HF := Lib.hid hf
   have HS0 := Lib.hid (OA p hbig')
   clear hf hbig hbig'
   go_enter Tryz.func209, Tryz.ntmps209
   go_wp2_with (go_at_call 230; refine HF.out.mono ?_; rintro e w' ⟨rfl, q, rfl⟩)
   clear hevI
   go_loopw [4, 5] (fun v i wr => ∃ (j : Nat) (pre : List UInt8), 2 * j ≤ p.length ∧ i = .int .i64 (2 * j : Nat) ∧ pre.length = j ∧ OwnB wr w.heap.size v pre ∧ Below w.heap.size w wr ∧ Hid (joinL p = (joinL (p.drop (2 * j))).map (pre ++ ·))) (fun _ i _ => p.length - (intOf i).toNat)
   case atStart => exact ⟨0, [], by omega, rfl, rfl, OwnB.nil _ w.heap.size, below_drewN (Below.refl _ _) q, Lib.hid (by simp)⟩
   case round =>
    obtain ⟨j, pre, hj, rfl, hpre, hown, hb, hJ⟩ := hrel
    obtain ⟨A', c', rfl, hc1, hc2⟩ := dw hown
    have hbs := hb.size
    have HO := Lib.hid hown
    have HB := Lib.hid hb
    have HP := Lib.hid hpre
    have hpl : pre.length ≤ j := by omega
    clear hown hb hpre
    by_cases h1 : 2 * j < p.length
    ·
     have h2 : 2 * j + 1 < p.length := by omega
     obtain ⟨b1, o1, rfl, hb1, c1⟩ := HA.out (by intro e; have := bn p; rw [e] at this; simp at this; omega)
     have hbw : b1 < wr.heap.size := by omega
     have r1 := (HB.out.cell (p := ⟨b1, o1 + 2 * j, none⟩) hb1).trans (c1 (2 * j) _ (jJ p (2 * j) h1))
     have r2 := (HB.out.cell (p := ⟨b1, o1 + (2 * j + 1), none⟩) hb1).trans (c1 (2 * j + 1) _ (jJ p (2 * j + 1) h2))
     have d1 := aX (w := wr) (p := ⟨b1, o1 + 2 * j, none⟩) hbw r1
     have d2 := aX (w := wr) (p := ⟨b1, o1 + (2 * j + 1), none⟩) hbw r2
     clear c1 r1 r2
     unfold bv at d1 d2
     have HS := Lib.hid (zf p (2 * j) h1 h2)
     have hcx := HS0.out (2 * j) h1
     have hcy := HS0.out (2 * j + 1) h2
     obtain ⟨x, hx⟩ : ∃ x, x = p[2 * j].toNat := ⟨_, rfl⟩
     obtain ⟨y, hy⟩ : ∃ y, y = p[2 * j + 1].toNat := ⟨_, rfl⟩
     rw [← hx] at d1 hcx
     rw [← hy] at d2 hcy
     have HX := Lib.hid hx
     have HY := Lib.hid hy
     clear hx hy
     go_wp2
     refine dM 13 (by kernel_rfl) (by kernel_rfl) (by kernel_rfl) ?_
     simp only [List.take_succ_cons, List.take_zero, List.drop_succ_cons, List.drop_zero]
     refine dR 12 (by kernel_rfl) ?_
     simp only [List.take_succ_cons, List.take_zero, List.drop_succ_cons, List.drop_zero]
     repeat (go_big_quiet_step (fail))
     refine wpQuiet_nil ?_
     refine BU 33 (fun v w => IsB w v [p[2 * j] <<< 4 ||| p[2 * j + 1]]) rfl rfl (by kernel_rfl) (by kernel_rfl) (rZ _) (fun xw => ?_) ?_
     ·
      simp [go_sem, fV]
      rw [Pe x y hcx hcy]
      refine ⟨aB _ _, Du _ _ [p[2 * j] <<< 4 ||| p[2 * j + 1]] ?_ (by simp [maxLen])⟩
      simp [bvs, bv, O9 x y hcx hcy _ _ HX.out.symm HY.out.symm]
     refine iF (by kernel_rfl) ?_
     intro W hW
     replace hW := hW.gr
     have hbs2 := hW.size
     intro v22 h22
     obtain ⟨A22, c22, rfl, _, _, hrd⟩ := h22
     unfold oV
     go_wp2_with (at_builtin; refine bg _ _ 30 bV _ _ _ _ _ _ _ (bvs [p[2 * j] <<< 4 ||| p[2 * j + 1]]) rfl rfl rfl rfl (ql HO.out hW) hrd (by simp [bvs]) (eG _) (by simp only [maxLen]; simp; omega) (by simp; omega) (by omega) ?_; intro A2 c2 w2 hown2 hg2 _)
     go_roundw
     case rel =>
      refine ⟨j + 1, pre ++ [p[2 * j] <<< 4 ||| p[2 * j + 1]], by omega, by go_num, by simp [HP.out], ?_, (HB.out.trans (hW.mono hbs)).grown hg2 (by omega) fun j hj => bZ HO.out j hj, Lib.hid ?_⟩
      ·
       unfold OwnB
       rw [gZ, List.length_append]
       exact hown2
      ·
       rw [hJ.out, HS.out, if_pos ⟨by rw [← HX.out]; exact hcx, by rw [← HY.out]; exact hcy⟩, show 2 * (j + 1) = 2 * j + 2 by omega]
       cases joinL (p.drop (2 * j + 2)) <;> simp
     case measure => simp [intOf]; omega
    ·
     have hd := Lib.hid (List.drop_eq_nil_of_le (Nat.le_of_not_lt h1))
     go_wp2
     refine bodyPost_ret (results_tmp2 rfl _ _ _) rfl ?_
     refine ⟨_, rfl, HB.out, .slice A' pre.length c', ?_, ?_⟩
     · rw [hJ.out, hd.out]; rfl
     · rw [hJ.out, hd.out]; simpa [joinL] using HO.out
def hdr (p : List UInt8) (leaf : Bool) : List UInt8 := if p.length % 2 = 1 then [if leaf then 3 else 1] else [if leaf then 2 else 0, 0]
theorem MH (v1 : Value) (p : List UInt8) (leaf : Bool) (w : World) (h1 : IsB w v1 p) (hlen : p.length ≤ 536870912) :
  Calls Tryz.prog 184 #[v1, .bool leaf] w (Ret (KQ w.heap.size (hdr p leaf ++ p)) w) := by
 obtain ⟨A, c, rfl, hl1, hl2, hA⟩ := h1
 clear hl1 hl2
 have HA := Lib.hid hA
 clear hA
 by_cases hodd : p.length % 2 = 1
 ·
  have hoddI : (p.length : Int) % 2 = 1 := by omega
  have hh : hdr p leaf = [if leaf then 3 else 1] := by unfold hdr; rw [if_pos hodd]
  rw [hh]
  clear hh hodd
  cases leaf
  ·
   go_enter Tryz.func184, Tryz.ntmps184
   go_wp2_with (at_builtin; refine bg _ _ 30 bV _ 1 _ _ p.length _ w.heap.size (bvs p) rfl rfl rfl rfl (iG _ _ _ _ 1 _ w.heap.size rfl (Nat.le_refl _) (by simp [maxLen]) rfl) (HA.out.below (aB _ _)) (by rw [bn]; omega) (eG _) (by simp only [maxLen]; omega) (by omega) (by first | (simp; done) | (simp; omega)) ?_; intro A2 c2 w2 hown2 hg2 _; have ho2 := ownB_of (l := [1] ++ p) hown2 rfl; have hb2 := ho2.isB; have H2 := Lib.hid hb2; clear ho2 hb2 hown2)
   refine (ru _ _ _ H2.out (by simp; omega)).mono ?_
   rintro e w3 ⟨v3, rfl, hg3, v4, rfl, ho4⟩
   go_wp2
   refine bodyPost_ret (results_tmp2 rfl _ _ _) rfl ?_
   have hb1 : Below w.heap.size w w2 := Below.grown (aB _ _) hg2 (by first | (simp; done) | (simp; omega)) fun j hj => by injection hj with h; subst h; first | exact Nat.le_refl _ | simp
   exact ⟨_, rfl, hb1.trans (hg3.mono hb1.size), v4, rfl, own_base ho4 hb1.size⟩
  ·
   go_enter Tryz.func184, Tryz.ntmps184
   go_wp2_with (at_builtin; refine bg _ _ 30 bV _ 1 _ _ p.length _ w.heap.size (bvs p) rfl rfl rfl rfl (iG _ _ _ _ 1 _ w.heap.size rfl (Nat.le_refl _) (by simp [maxLen]) rfl) (HA.out.below (aB _ _)) (by rw [bn]; omega) (eG _) (by simp only [maxLen]; omega) (by omega) (by first | (simp; done) | (simp; omega)) ?_; intro A2 c2 w2 hown2 hg2 _; have ho2 := ownB_of (l := [3] ++ p) hown2 rfl; have hb2 := ho2.isB; have H2 := Lib.hid hb2; clear ho2 hb2 hown2)
   refine (ru _ _ _ H2.out (by simp; omega)).mono ?_
   rintro e w3 ⟨v3, rfl, hg3, v4, rfl, ho4⟩
   go_wp2
   refine bodyPost_ret (results_tmp2 rfl _ _ _) rfl ?_
   have hb1 : Below w.heap.size w w2 := Below.grown (aB _ _) hg2 (by first | (simp; done) | (simp; omega)) fun j hj => by injection hj with h; subst h; first | exact Nat.le_refl _ | simp
   exact ⟨_, rfl, hb1.trans (hg3.mono hb1.size), v4, rfl, own_base ho4 hb1.size⟩
 ·
  have hevI : (p.length : Int) % 2 = 0 := by omega
  have hh : hdr p leaf = [if leaf then 2 else 0, 0] := by unfold hdr; rw [if_neg hodd]
  rw [hh]
  clear hh hodd
  cases leaf
  ·
   go_enter Tryz.func184, Tryz.ntmps184
   go_wp2_with (at_builtin; refine bg _ _ 30 bV _ 2 _ _ p.length _ w.heap.size (bvs p) rfl rfl rfl rfl (iG _ _ _ _ 2 _ w.heap.size rfl (Nat.le_refl _) (by simp [maxLen]) rfl) (HA.out.below (aB _ _)) (by rw [bn]; omega) (eG _) (by simp only [maxLen]; omega) (by omega) (by first | (simp; done) | (simp; omega)) ?_; intro A2 c2 w2 hown2 hg2 _; have ho2 := ownB_of (l := (0::[0]) ++ p) hown2 rfl; have hb2 := ho2.isB; have H2 := Lib.hid hb2; clear ho2 hb2 hown2)
   refine (ru _ _ _ H2.out (by simp; omega)).mono ?_
   rintro e w3 ⟨v3, rfl, hg3, v4, rfl, ho4⟩
   go_wp2
   refine bodyPost_ret (results_tmp2 rfl _ _ _) rfl ?_
   have hb1 : Below w.heap.size w w2 := ((Below.refl _ _).alloc (Nat.le_refl _) _).grown hg2 (by first | (simp; done) | (simp; omega)) fun j hj => by injection hj with h; subst h; first | exact Nat.le_refl _ | simp
   exact ⟨_, rfl, hb1.trans (hg3.mono hb1.size), v4, rfl, own_base ho4 hb1.size⟩
  ·
   go_enter Tryz.func184, Tryz.ntmps184
   go_wp2_with (at_builtin; refine bg _ _ 30 bV _ 2 _ _ p.length _ w.heap.size (bvs p) rfl rfl rfl rfl (iG _ _ _ _ 2 _ w.heap.size rfl (Nat.le_refl _) (by simp [maxLen]) rfl) (HA.out.below (aB _ _)) (by rw [bn]; omega) (eG _) (by simp only [maxLen]; omega) (by omega) (by first | (simp; done) | (simp; omega)) ?_; intro A2 c2 w2 hown2 hg2 _; have ho2 := ownB_of (l := (2::[0]) ++ p) hown2 rfl; have hb2 := ho2.isB; have H2 := Lib.hid hb2; clear ho2 hb2 hown2)
   refine (ru _ _ _ H2.out (by simp; omega)).mono ?_
   rintro e w3 ⟨v3, rfl, hg3, v4, rfl, ho4⟩
   go_wp2
   refine bodyPost_ret (results_tmp2 rfl _ _ _) rfl ?_
   have hb1 : Below w.heap.size w w2 := ((Below.refl _ _).alloc (Nat.le_refl _) _).grown hg2 (by first | (simp; done) | (simp; omega)) fun j hj => by injection hj with h; subst h; first | exact Nat.le_refl _ | simp
   exact ⟨_, rfl, hb1.trans (hg3.mono hb1.size), v4, rfl, own_base ho4 hb1.size⟩
theorem LK (v1 : Value) (p : List UInt8) (leaf : Bool) (w : World) (h1 : IsB w v1 p) (hlen : p.length ≤ 536870912) :
  Calls Tryz.prog 124 #[v1, .bool leaf] w (Ret (KQ w.heap.size (hdr p leaf ++ p)) w) := by
 obtain ⟨A, c, rfl, hl1, hl2, hA⟩ := h1
 clear hl1 hl2
 have HA := Lib.hid hA
 clear hA
 by_cases hodd : p.length % 2 = 1
 ·
  have hoddI : (p.length : Int) % 2 = 1 := by omega
  have hh : hdr p leaf = [if leaf then 3 else 1] := by unfold hdr; rw [if_pos hodd]
  rw [hh]
  clear hh hodd
  cases leaf
  ·
   go_enter Tryz.func124, Tryz.ntmps124
   go_wp2_with (at_builtin; refine bg _ _ 30 bV _ 1 _ _ p.length _ w.heap.size (bvs p) rfl rfl rfl rfl (iG _ _ _ _ 1 _ w.heap.size (by simp) (aB w _).size (by simp [maxLen]) rfl) (HA.out.below ((aB _ _).trans (aB _ _))) (by rw [bn]; omega) (eG _) (by simp only [maxLen]; omega) (by omega) (by first | (simp; done) | (simp; omega)) ?_; intro A2 c2 w2 hown2 hg2 _; have ho2 := ownB_of (l := [1] ++ p) hown2 rfl; have hb2 := ho2.isB; have H2 := Lib.hid hb2; clear ho2 hb2 hown2)
   refine (uf _ _ _ H2.out (by simp; omega)).mono ?_
   rintro e w3 ⟨v3, rfl, hg3, v4, rfl, ho4⟩
   go_wp2
   refine bodyPost_ret (results_tmp2 rfl _ _ _) rfl ?_
   have hb1 : Below w.heap.size w w2 := Below.grown ((aB _ _).trans (aB _ _)) hg2 (by first | (simp; done) | (simp; omega)) fun j hj => by injection hj with h; subst h; first | exact Nat.le_refl _ | simp
   exact ⟨_, rfl, hb1.trans (hg3.mono hb1.size), v4, rfl, own_base ho4 hb1.size⟩
  ·
   go_enter Tryz.func124, Tryz.ntmps124
   go_wp2_with (at_builtin; refine bg _ _ 30 bV _ 1 _ _ p.length _ w.heap.size (bvs p) rfl rfl rfl rfl (iG _ _ _ _ 1 _ w.heap.size (by simp) (aB w _).size (by simp [maxLen]) rfl) (HA.out.below ((aB _ _).trans (aB _ _))) (by rw [bn]; omega) (eG _) (by simp only [maxLen]; omega) (by omega) (by first | (simp; done) | (simp; omega)) ?_; intro A2 c2 w2 hown2 hg2 _; have ho2 := ownB_of (l := [3] ++ p) hown2 rfl; have hb2 := ho2.isB; have H2 := Lib.hid hb2; clear ho2 hb2 hown2)
   refine (uf _ _ _ H2.out (by simp; omega)).mono ?_
   rintro e w3 ⟨v3, rfl, hg3, v4, rfl, ho4⟩
   go_wp2
   refine bodyPost_ret (results_tmp2 rfl _ _ _) rfl ?_
   have hb1 : Below w.heap.size w w2 := Below.grown ((aB _ _).trans (aB _ _)) hg2 (by first | (simp; done) | (simp; omega)) fun j hj => by injection hj with h; subst h; first | exact Nat.le_refl _ | simp
   exact ⟨_, rfl, hb1.trans (hg3.mono hb1.size), v4, rfl, own_base ho4 hb1.size⟩
 ·
  have hevI : (p.length : Int) % 2 = 0 := by omega
  have hh : hdr p leaf = [if leaf then 2 else 0, 0] := by unfold hdr; rw [if_neg hodd]
  rw [hh]
  clear hh hodd
  cases leaf
  ·
   go_enter Tryz.func124, Tryz.ntmps124
   go_wp2_with (at_builtin; refine bg _ _ 30 bV _ 2 _ _ p.length _ w.heap.size (bvs p) rfl rfl rfl rfl (iG _ _ _ _ 2 _ w.heap.size rfl (Nat.le_refl _) (by simp [maxLen]) rfl) (HA.out.below (aB _ _)) (by rw [bn]; omega) (eG _) (by simp only [maxLen]; omega) (by omega) (by first | (simp; done) | (simp; omega)) ?_; intro A2 c2 w2 hown2 hg2 _; have ho2 := ownB_of (l := (0::[0]) ++ p) hown2 rfl; have hb2 := ho2.isB; have H2 := Lib.hid hb2; clear ho2 hb2 hown2)
   refine (uf _ _ _ H2.out (by simp; omega)).mono ?_
   rintro e w3 ⟨v3, rfl, hg3, v4, rfl, ho4⟩
   go_wp2
   refine bodyPost_ret (results_tmp2 rfl _ _ _) rfl ?_
   have hb1 : Below w.heap.size w w2 := ((Below.refl _ _).alloc (Nat.le_refl _) _).grown hg2 (by first | (simp; done) | (simp; omega)) fun j hj => by injection hj with h; subst h; first | exact Nat.le_refl _ | simp
   exact ⟨_, rfl, hb1.trans (hg3.mono hb1.size), v4, rfl, own_base ho4 hb1.size⟩
  ·
   go_enter Tryz.func124, Tryz.ntmps124
   go_wp2_with (at_builtin; refine bg _ _ 30 bV _ 2 _ _ p.length _ w.heap.size (bvs p) rfl rfl rfl rfl (iG _ _ _ _ 2 _ w.heap.size rfl (Nat.le_refl _) (by simp [maxLen]) rfl) (HA.out.below (aB _ _)) (by rw [bn]; omega) (eG _) (by simp only [maxLen]; omega) (by omega) (by first | (simp; done) | (simp; omega)) ?_; intro A2 c2 w2 hown2 hg2 _; have ho2 := ownB_of (l := (2::[0]) ++ p) hown2 rfl; have hb2 := ho2.isB; have H2 := Lib.hid hb2; clear ho2 hb2 hown2)
   refine (uf _ _ _ H2.out (by simp; omega)).mono ?_
   rintro e w3 ⟨v3, rfl, hg3, v4, rfl, ho4⟩
   go_wp2
   refine bodyPost_ret (results_tmp2 rfl _ _ _) rfl ?_
   have hb1 : Below w.heap.size w w2 := ((Below.refl _ _).alloc (Nat.le_refl _) _).grown hg2 (by first | (simp; done) | (simp; omega)) fun j hj => by injection hj with h; subst h; first | exact Nat.le_refl _ | simp
   exact ⟨_, rfl, hb1.trans (hg3.mono hb1.size), v4, rfl, own_base ho4 hb1.size⟩
end Go.Proofs.YtiledgojbpmoiaaGreat
