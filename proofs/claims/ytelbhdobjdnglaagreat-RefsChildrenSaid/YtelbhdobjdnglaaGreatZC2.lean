/-
 Merged: lemmas of this claim.
 Conditions: none.
-/
import Derived.Test.YtelbhdobjdnglaaGreatZC1
import Derived.WalkKit
import Derived.WalkSpells
import Derived.WalkLawsBesides
import Derived.Maps.AppendAt
import Derived.Laws.BytesString
import Derived.Laws.IdiomStrings
import Derived.Lib.Hide
import Derived.Test.YtelbhdobjdnglaaGreatRows
import Derived.BigQuiet
import Derived.Deep.QuietTactic
import Derived.StillTailTactics
import Derived.ArgAppend
import Derived.Lib.SlBytesConst
import Derived.OwnWalk
import Derived.Laws.Rows
import Derived.Laws.Tables
import Derived.Deep.WholeRow
import Derived.Stop.BytesEq
import Derived.Test.YtelbhdobjdnglaaGreatZC0
namespace Go.Proofs.YtelbhdobjdnglaaGreat
open Go.RowKit Mono
def Rd (w : World) (B : Nat) (A : Option Addr) (xs : List Value) : Prop :=
 xs ≠ [] → ∃ b o, A = some ⟨b, o, none⟩ ∧ b < B ∧ ∀ j u, xs[j]? = some u → w.cell? ⟨b, o + j, none⟩ = some u
theorem eu (b o m : Nat) : (⟨b, o, none⟩ : Addr).add m = ⟨b, o + m, none⟩ := by
 unfold Addr.add
 split
 · subst_vars; rfl
 · rfl
section
variable {w w' : World} {B B' : Nat} {A : Option Addr} {xs : List Value}
theorem Rd.nil : Rd w B A [] := fun h => absurd rfl h
theorem Rd.keep (h : Rd w B A xs) (hk : ∀ p : Addr, p.block < B → w'.cell? p = w.cell? p) : Rd w' B A xs := fun hn => by
 obtain ⟨b, o, e, hb, hc⟩ := h hn
 exact ⟨b, o, e, hb, fun j u hu => (hk _ hb).trans (hc j u hu)⟩
theorem Rd.more (h : Rd w B A xs) (hB : B ≤ B') : Rd w B' A xs := fun hn => by
 obtain ⟨b, o, e, hb, hc⟩ := h hn
 exact ⟨b, o, e, by omega, hc⟩
theorem Rd.below (h : Rd w B A xs) (hb : Below B w w') : Rd w' B A xs := h.keep fun _ hp => hb.cell hp
theorem Rd.gr (h : Rd w w.heap.size A xs) (hb : Gr w w') : Rd w' w'.heap.size A xs := (h.below hb).more hb.size
theorem Rd.take (h : Rd w B A xs) (m : Nat) : Rd w B A (xs.take m) := fun hn => by
 obtain ⟨b, o, e, hb, hc⟩ := h (fun e => hn (by rw [e]; simp))
 refine ⟨b, o, e, hb, fun j u hu => hc j u ?_⟩
 rw [YH] at hu
 split at hu
 · exact hu
 · cases hu
theorem Rd.cut (h : Rd w B A xs) {k n cap size : Nat} (hn : xs.length = n * size) (hc : n ≤ cap) :
  Rd w B (if cap = k then A else A.map (·.add (k * size))) (xs.drop (k * size)) := fun hne => by
 have hlt : k * size < xs.length := by
  rcases Xx (k * size) xs.length with h1 | h1
  · exact h1
  · exact absurd (Xt h1) hne
 have hk : k < n := by
  rcases Xx k n with h1 | h1
  · exact h1
  ·
   have := Ye size h1
   omega
 obtain ⟨b, o, rfl, hb, hcell⟩ := h (fun e => by rw [e] at hlt; simp at hlt)
 rw [if_neg (by omega)]
 refine ⟨b, o + k * size, by simp [eu], hb, fun j u hu => ?_⟩
 rw [Y0]
 exact hcell _ u (by rw [← hu, YG])
theorem Rd.OQ {base : Nat} {e : TypeId} {size n c : Nat} (h : w.ownsRow base e size (.slice A n c) n xs) : Rd w w.heap.size A xs := fun hn => by
 rcases h.2 with ⟨hv, hz⟩ | ⟨g, cap, cur, hv, _, hh, _, _, _, ht⟩
 ·
  subst hz
  have := h.1
  rw [Za] at this
  exact absurd (XF this) hn
 ·
  injection hv with hA _ _
  subst hA
  have hg : g < w.heap.size := by
   rcases Xx g w.heap.size with h1 | h1
   · exact h1
   · rw [Array.getElem?_eq_none h1] at hh; cases hh
  refine ⟨g, 0, rfl, hg, fun j u hu => ?_⟩
  have := h.cells (g := g) rfl j u hu
  rwa [eu] at this
theorem Rd.new (w : World) (cs : Array Value) (e : TypeId) : Rd (w.alloc (.cells cs e)) (w.heap.size + 1) (some ⟨w.heap.size, 0, none⟩) cs.toList := fun _ =>
 ⟨w.heap.size, 0, rfl, by omega, fun j u hu => by
  rw [cell_of_row _ _ _ cs e (0, 0) (heap_alloc_new w _)]
  simpa using hu⟩
end
theorem below_drewN {B : Nat} {a w : World} (h : Below B a w) (n : Nat) : Below B a (w.drewN n) := ⟨h.os, h.tape, h.output, h.size, h.block⟩
attribute [go_sem] After
theorem bg {w : World} {p : Addr} {v : Value} (hp : p.block < w.heap.size) (h : w.cell? p = some v) (x : Later w) : x.1.cell? p = some v := (x.2.cell hp).trans h
structure SlT (P : Program) (t e : TypeId) (size bytes : Nat) : Prop where
 und : P.underlying t = some (.slice e)
 info : ∃ i z, P.info? e = some i ∧ i.zero = some z ∧ i.size = size ∧ i.bytes = bytes ∧ z.cells.size = size
 pos : 0 < size
theorem dB {w : World} {base : Nat} {e : TypeId} {size : Nat} {v : Value} {n : Nat} {xs : List Value} (h : w.ownsRow base e size v n xs) :
  ∃ A c, v = .slice A n c ∧ n ≤ c ∧ c ≤ maxLen := by
 rcases h.2 with ⟨rfl, rfl⟩ | ⟨g, cap, cur, rfl, _, _, h1, h2, _, _⟩
 · exact ⟨none, 0, rfl, Nat.le_refl _, by simp [maxLen]⟩
 · exact ⟨_, cap, rfl, h1, h2⟩
theorem own_base {w : World} {base base' : Nat} {e : TypeId} {size : Nat} {v : Value} {n : Nat} {xs : List Value} (h : w.ownsRow base e size v n xs) (hb : base' ≤ base) : w.ownsRow base' e size v n xs := by
 refine ⟨h.1, ?_⟩
 rcases h.2 with h | ⟨g, cap, cur, h1, h2, h3⟩
 · exact .inl h
 · exact .inr ⟨g, cap, cur, h1, XD hb h2, h3⟩
theorem o7 {w w' : World} {base : Nat} {e : TypeId} {size : Nat} {v : Value} {n : Nat} {xs : List Value} (h : w.ownsRow base e size v n xs) (hg : Gr w w') : w'.ownsRow base e size v n xs := by
 refine ⟨h.1, ?_⟩
 rcases h.2 with h | ⟨g, cap, cur, h1, h2, h3, h4⟩
 · exact .inl h
 ·
  refine .inr ⟨g, cap, cur, h1, h2, ?_, h4⟩
  rw [hg.block g (by
   rcases Xx g w.heap.size with h5 | h5
   · exact h5
   · rw [Array.getElem?_eq_none h5] at h3; cases h3)]
  exact h3
theorem bP {w : World} {base : Nat} {e : TypeId} {size : Nat} {v : Value} {n : Nat} {xs : List Value} (h : w.ownsRow base e size v n xs) (k : Nat) (hk : v.ownBlock = some k) : base ≤ k := (h.lt k hk).1
section
variable {P : Program} {w : World}
theorem run_append_nil {base t ty e size bytes : Nat} (T : SlT P t e size bytes) {v : Value} {n : Nat} {xs : List Value} (hown : w.ownsRow base e size v n xs) (c : Nat) :
  (Builtin.append_ #[t, t] ty #[v, .slice none 0 c]).run P w = .ok v w := by
 obtain ⟨i, z, hi, _, hsize, _, _⟩ := T.info
 rcases hown.2 with ⟨rfl, rfl⟩ | ⟨g, cap, cur, rfl, _, _, hnc, _⟩
 · simp [Builtin.append_, run_underlying T.und, sizeOf, typeInfo, hi, Builtin.lenOf, Builtin.firstCells]
 · simp [Builtin.append_, run_underlying T.und, sizeOf, typeInfo, hi, Builtin.lenOf, Builtin.firstCells, hnc, storeCells]
theorem kJ {base t ty e size bytes : Nat} (T : SlT P t e size bytes) {v : Value} {n : Nat} {xs : List Value} (hown : w.ownsRow base e size v n xs)
  {A : Option Addr} {m c B : Nat} {news : List Value} (hl : news.length = m * size) (hr : Rd w B A news) (h1 : ∀ u ∈ news, u.oneCell' = true)
  (h63 : n + m ≤ maxLen) (hbytes : (n + m) * bytes ≤ 140737488355328) (hbase : base ≤ w.heap.size) :
  ∃ A' c' w', (Builtin.append_ #[t, t] ty #[v, .slice A m c]).run P w = .ok (.slice A' (n + m) c') w' ∧ w'.ownsRow base e size (.slice A' (n + m) c') (n + m) (xs ++ news) ∧ w.grownBy w' v.ownBlock ∧
   ((Value.slice A' (n + m) c').ownBlock = v.ownBlock ∨ (Value.slice A' (n + m) c').ownBlock = some w.heap.size) := by
 have hnil : A = none → m = 0 ∧ news = [] := fun h => by
  by_cases hn : news = []
  ·
   subst hn
   have : m * size = 0 := by simpa using hl.symm
   rcases Nat.mul_eq_zero.1 this with h0 | h0
   · exact ⟨h0, rfl⟩
   · have := T.pos; omega
  ·
   obtain ⟨b, o, e, _⟩ := hr hn
   rw [h] at e; cases e
 cases A with
 | none =>
  obtain ⟨rfl, rfl⟩ := hnil rfl
  obtain ⟨A', c', rfl, _, _⟩ := dB hown
  refine ⟨A', c', w, run_append_nil T hown c, by simpa using hown, World.grownBy.refl w _, .inl rfl⟩
 | some ad =>
  have hcells : ∀ j u, news[j]? = some u → w.cell? (ad.add j) = some u := fun j u hu => by
   obtain ⟨b, o, e, _, hc⟩ := hr (fun e => by rw [e] at hu; simp at hu)
   injection e with e
   subst e
   rw [eu]
   exact hc j u hu
  obtain ⟨i, z, hi, hz, hsize, hby, hzs⟩ := T.info
  obtain ⟨v', w', hrun, h2, h3, _, h5⟩ := run_append_own_at (P := P) w base t ty e i z size bytes T.und hi hz hsize hby hzs T.pos v n xs hown ad m c news hl hcells h1 h63 hbytes hbase
  obtain ⟨A', c', rfl, _, _⟩ := dB h2
  exact ⟨A', c', w', hrun, h2, h3, h5⟩
theorem bn {ops : Array Oper} {rest : List Oper} {o : Oper} {a : Act} {Q : Exit → Act → World → Prop} (s x : Operand) (t : TypeId)
  {base e size bytes : Nat} (T : SlT P t e size bytes) (v : Value) (n : Nat) (xs : List Value) (A : Option Addr) (m c B : Nat) (news : List Value)
  (hgd : o.guard = none) (ho : o.op = .call { callee := .builtin .append, args := #[s, x], argTypes := #[t, t] }) (hs : a.eval s = v) (hx : a.eval x = .slice A m c)
  (hown : w.ownsRow base e size v n xs) (hr : Rd w B A news) (hl : news.length = m * size) (h1 : ∀ u ∈ news, u.oneCell' = true)
  (h63 : n + m ≤ maxLen) (hbytes : (n + m) * bytes ≤ 140737488355328) (hbase : base ≤ w.heap.size)
  (h : ∀ A' c' w', w'.ownsRow base e size (.slice A' (n + m) c') (n + m) (xs ++ news) → w.grownBy w' v.ownBlock →
   ((Value.slice A' (n + m) c').ownBlock = v.ownBlock ∨ (Value.slice A' (n + m) c').ownBlock = some w.heap.size) → wpList P ops Q rest (a.put o.dst (.slice A' (n + m) c')) w') : wpList P ops Q (o :: rest) a w := by
 refine wpList_plain hgd fun _ hK => ?_
 obtain ⟨A', c', w', hrun, h2, h3, h4⟩ := kJ (P := P) (ty := o.type) T hown hl hr h1 h63 hbytes hbase (c := c)
 unfold Oper.wp execOp
 simp only [ho, resolve, invoke, builtin, WX, Xc, WV, Yq, Xm, X3, hs, hx, hrun]
 exact hK _ _ (h A' c' w' h2 h3 h4)
end
theorem iT (w : World) (cs : Array Value) (e : TypeId) (size n g base : Nat) (hg : w.heap.size = g) (hb : base ≤ w.heap.size) (hm : n ≤ maxLen) (hs : cs.size = n * size) :
  (w.alloc (.cells cs e)).ownsRow base e size (.slice (some ⟨g, 0, none⟩) n n) n cs.toList := by
 subst hg
 exact World.ownsRow_lit w cs n hb hm hs
def bv (b : UInt8) : Value := .int .u8 b.toNat
def bvs (l : List UInt8) : List Value := l.map bv
theorem bJ (l : List UInt8) : (bvs l).length = l.length := by simp [bvs]
theorem iF (l m : List UInt8) : bvs (l ++ m) = bvs l ++ bvs m := by simp [bvs]
theorem Qh (l : List UInt8) (k : Nat) : bvs (l.take k) = (bvs l).take k := by simp [bvs, List.map_take]
theorem Qi (l : List UInt8) (k : Nat) : bvs (l.drop k) = (bvs l).drop k := by simp [bvs, List.map_drop]
theorem dR (l : List UInt8) : ∀ u ∈ bvs l, u.oneCell' = true := by
 intro u hu
 obtain ⟨b, _, rfl⟩ := Xg.1 hu
 rfl
theorem mg (l : List UInt8) (j : Nat) (h : j < l.length) : (bvs l)[j]? = some (bv l[j]) := by simp [bvs, h]
theorem jh (b : UInt8) : b.toNat < 256 := b.toNat_lt
def IsB (w : World) (v : Value) (l : List UInt8) : Prop :=
 ∃ A c, v = .slice A l.length c ∧ l.length ≤ c ∧ c ≤ maxLen ∧ Rd w w.heap.size A (bvs l)
def OwnB (w : World) (base : Nat) (v : Value) (l : List UInt8) : Prop := w.ownsRow base 5 1 v l.length (bvs l)
theorem RI {w : World} {A : Option Addr} {l : List UInt8} {n c : Nat} (k : Nat) (h : Rd w w.heap.size A (bvs l)) (hn : l.length = n) (hc : n ≤ c) (hm : c ≤ maxLen) (hk : k ≤ n) :
  IsB w (.slice (if c = k then A else A.map (·.add k)) (n - k) (c - k)) (l.drop k) := by
 refine ⟨_, c - k, by rw [W9, hn], by rw [W9]; omega, by omega, ?_⟩
 have := h.cut (k := k) (n := n) (cap := c) (size := 1) (by rw [bJ]; omega) hc
 simpa [Qi] using this
theorem qI {w : World} {b o : Nat} {l : List UInt8} {n c : Nat} (k : Nat) (h : Rd w w.heap.size (some ⟨b, o, none⟩) (bvs l)) (hn : l.length = n) (hc : n ≤ c) (hm : c ≤ maxLen) (hk : k ≤ n) (hne : c ≠ k) :
  IsB w (.slice (some ⟨b, o + k, none⟩) (n - k) (c - k)) (l.drop k) := by
 have := RI k h hn hc hm hk
 rw [if_neg hne] at this
 simpa [eu] using this
theorem OwnB.isB {w : World} {base : Nat} {v : Value} {l : List UInt8} (h : OwnB w base v l) : IsB w v l := by
 obtain ⟨A, c, rfl, h1, h2⟩ := dB h
 exact ⟨A, c, rfl, h1, h2, Rd.OQ h⟩
theorem IsB.gr {w w' : World} {v : Value} {l : List UInt8} (h : IsB w v l) (hg : Gr w w') : IsB w' v l := by
 obtain ⟨A, c, rfl, h1, h2, h3⟩ := h
 exact ⟨A, c, rfl, h1, h2, h3.gr hg⟩
theorem yj (l : List UInt8) : Stable fun v w => IsB w v l := fun _ _ _ hg h => h.gr hg
theorem ownB_of {w : World} {base : Nat} {v : Value} {n : Nat} {xs : List Value} {l : List UInt8} (h : w.ownsRow base 5 1 v n xs) (hx : xs = bvs l) : OwnB w base v l := by
 subst hx
 have := h.1
 rw [bJ, Nat.mul_one] at this
 unfold OwnB
 rw [this]
 exact h
theorem JV (w : World) (cs : Array Value) (l : List UInt8) (h : cs.toList = bvs l) (hn : l.length ≤ maxLen) : IsB (w.alloc (.cells cs 5)) (.slice (some ⟨w.heap.size, 0, none⟩) l.length l.length) l := by
 refine ⟨_, _, rfl, Nat.le_refl _, hn, ?_⟩
 rw [← h]
 have := Rd.new w cs 5
 simpa using this
theorem IsB.nil (w : World) : IsB w (.slice none 0 0) [] := ⟨none, 0, rfl, Nat.le_refl _, by simp [maxLen], Rd.nil⟩
theorem OwnB.nil (w : World) (base : Nat) : OwnB w base (.slice none 0 0) [] := World.ownsRow_nil _ _ _ _
def Ret (V : VP) (w : World) (e : Ending) (w' : World) : Prop := ∃ v, e = .returned v ∧ Gr w w' ∧ V v w'
theorem cu : SlT Tryz.prog 38 5 1 1 :=
 ⟨Tryz.underlying38, by
  have h : (Tryz.prog.info? 5).map (fun i => (i.zero, i.size, i.bytes)) = some (some (.int .u8 0), 1, 1) := by kernel_rfl
  obtain ⟨i, hi, hz, h1, h2⟩ := info_parts h
  exact ⟨i, _, hi, hz, h1, h2, rfl⟩, by omega⟩
end Go.Proofs.YtelbhdobjdnglaaGreat
namespace Go.Proofs.YtelbhdobjdnglaaGreat
set_option maxHeartbeats 1000000
open Go.RowKit Mono
def common : List UInt8 → List UInt8 → Nat
 | x :: xs, y :: ys => if x = y then common xs ys + 1 else 0
 | _, _ => 0
def split (l : List UInt8) : List UInt8 := l.flatMap fun (x : UInt8) => [x >>> 4, x &&& 15]
theorem jO (l : List UInt8) : (split l).length = 2 * l.length := by
 induction l with
 | nil => rfl
 | cons x l ih => unfold split at *; rw [List.flatMap_cons, List.length_append, ih]; simp; omega
theorem yt (l : List UInt8) (k : Nat) (h : k < l.length) : split (l.take (k + 1)) = split (l.take k) ++ [l[k] >>> 4, l[k] &&& 15] := by
 rw [Xa h, split, YW]; rfl
theorem VG (x : UInt8) : bvs [x >>> 4, x &&& 15] = [.int .u8 ((x.toNat : Int) / 16), .int .u8 ((x.toNat : Int) % 16)] := by
 have h1 : (x >>> 4).toNat = x.toNat / 16 := by rw [UInt8.toNat_shiftRight]; simp [Nat.shiftRight_eq_div_pow]
 have h2 : (x &&& 15).toNat = x.toNat % 16 := by rw [UInt8.toNat_and]; exact X9 _ 4
 simp [bvs, bv, h1, h2]
theorem IC (v1 : Value) (l : List UInt8) (w : World) (h1 : IsB w v1 l) (hlen : l.length ≤ 1073741824) :
  Calls Tryz.prog 90 #[v1] w (Ret (fun v w' => OwnB w' w.heap.size v (split l)) w) := by
 obtain ⟨A, c, rfl, hl1, hl2, hA⟩ := h1
 clear hl1 hl2
 have HA := Lib.hid hA
 clear hA
 go_enter Tryz.func90, Tryz.ntmps90
 go_wp2
 go_loopw [3, 8] (fun v i wr => ∃ k : Nat, k ≤ l.length ∧ i = .int .i64 k ∧ OwnB wr w.heap.size v (split (l.take k)) ∧ Below w.heap.size w wr) (fun _ i _ => l.length - (intOf i).toNat)
 case atStart => exact ⟨0, by omega, rfl, OwnB.nil w w.heap.size, Below.refl _ _⟩
 case round =>
  obtain ⟨k, hk1, rfl, hown, hb⟩ := hrel
  obtain ⟨A', c', rfl, hc1, hc2⟩ := dB hown
  have hsl : (split (l.take k)).length ≤ 2 * k := by rw [jO, Xi]; omega
  have hbs := hb.size
  have HO := Lib.hid hown
  have HB := Lib.hid hb
  clear hown hb
  by_cases h1 : k < l.length
  ·
   obtain ⟨b1, o1, rfl, hb1, c1⟩ := HA.out (by intro e; have := bJ l; rw [e] at this; simp at this; omega)
   have d1 := (HB.out.cell (p := ⟨b1, o1 + k, none⟩) hb1).trans (c1 k _ (mg l k h1))
   clear c1
   unfold bv at d1
   have hlx := jh l[k]
   have HS := Lib.hid (yt l k h1)
   have HN := Lib.hid (VG l[k])
   generalize l[k].toNat = x at d1 hlx HN
   go_wp2_with (at_builtin; refine bn _ _ 38 cu _ _ _ _ _ _ (wr.heap.size + 1) [.int .u8 (↑x / 16), .int .u8 (↑x % 16)] rfl rfl rfl rfl (HO.out.alloc _) (Rd.new _ _ _) rfl (by simp [Value.oneCell']) (by simp only [maxLen]; omega) (by omega) (by simp; omega) ?_; intro A2 c2 w2 hown2 hg2 _)
   go_roundw
   case rel =>
    refine ⟨k + 1, by omega, by go_num, ?_, ?_⟩
    ·
     unfold OwnB
     rw [HS.out, iF, List.length_append]
     have e := HN.out
     rw [← e] at hown2
     exact hown2
    · exact (HB.out.alloc hbs _).grown hg2 (by simp; omega) fun j hj => bP HO.out j hj
   case measure => simp [intOf]; omega
  ·
   go_wp2
   refine bodyPost_ret (results_tmp rfl _ _ _) rfl ?_
   refine ⟨_, rfl, HB.out, ?_⟩
   have h := HO.out
   rw [XT (by omega)] at h
   show OwnB _ _ (.slice A' (split (l.take k)).length c') _
   rw [XT (by omega)]
   exact h
theorem KY (v1 : Value) (l : List UInt8) (w : World) (h1 : IsB w v1 l) (hlen : l.length ≤ 1073741824) :
  Calls Tryz.prog 69 #[v1] w (Ret (fun v w' => OwnB w' w.heap.size v (split l)) w) := by
 obtain ⟨A, c, rfl, hl1, hl2, hA⟩ := h1
 clear hl1 hl2
 have HA := Lib.hid hA
 clear hA
 go_enter Tryz.func69, Tryz.ntmps69
 go_wp2
 go_loopw [3, 4] (fun v i wr => ∃ k : Nat, k ≤ l.length ∧ i = .int .i64 k ∧ OwnB wr w.heap.size v (split (l.take k)) ∧ Below w.heap.size w wr) (fun _ i _ => l.length - (intOf i).toNat)
 case atStart => exact ⟨0, by omega, rfl, OwnB.nil w w.heap.size, Below.refl _ _⟩
 case round =>
  obtain ⟨k, hk1, rfl, hown, hb⟩ := hrel
  obtain ⟨A', c', rfl, hc1, hc2⟩ := dB hown
  have hsl : (split (l.take k)).length ≤ 2 * k := by rw [jO, Xi]; omega
  have hbs := hb.size
  have HO := Lib.hid hown
  have HB := Lib.hid hb
  clear hown hb
  by_cases h1 : k < l.length
  ·
   obtain ⟨b1, o1, rfl, hb1, c1⟩ := HA.out (by intro e; have := bJ l; rw [e] at this; simp at this; omega)
   have hbw : b1 < wr.heap.size := by omega
   have d1 := bg (w := wr) (p := ⟨b1, o1 + k, none⟩) hbw ((HB.out.cell (p := ⟨b1, o1 + k, none⟩) hb1).trans (c1 k _ (mg l k h1)))
   clear c1
   unfold bv at d1
   have hlx := jh l[k]
   have HS := Lib.hid (yt l k h1)
   have HN := Lib.hid (VG l[k])
   generalize l[k].toNat = x at d1 hlx HN
   go_wp2
   refine dH 12 (by kernel_rfl) (by kernel_rfl) (by kernel_rfl) ?_
   simp only [WH, WO, WG, WM]
   refine dM 11 (by kernel_rfl) ?_
   simp only [WH, WO, WG, WM]
   repeat (go_big_quiet_step (fail))
   refine wpQuiet_nil ?_
   refine Js 22 (fun v w => IsB w v [l[k] >>> 4, l[k] &&& 15]) rfl rfl (by kernel_rfl) (by kernel_rfl) (yj _) (fun x => ?_) ?_
   ·
    simp [go_sem, fP]
    exact ⟨au _ _, JV _ _ _ HN.out.symm (by simp [maxLen])⟩
   refine gK (by kernel_rfl) ?_
   intro W hW
   replace hW := hW.gr
   have hbs2 := hW.size
   intro v22 h22
   obtain ⟨A22, c22, rfl, _, _, hrd⟩ := h22
   unfold oD
   go_wp2_with (at_builtin; refine bn _ _ 38 cu _ _ _ _ _ _ _ (bvs [l[k] >>> 4, l[k] &&& 15]) rfl rfl rfl rfl (o7 HO.out hW) hrd (by simp [bvs]) (dR _) (by simp only [maxLen]; simp; omega) (by simp; omega) (by omega) ?_; intro A2 c2 w2 hown2 hg2 _)
   go_roundw
   case rel =>
    refine ⟨k + 1, by omega, by go_num, ?_, ?_⟩
    ·
     unfold OwnB
     rw [HS.out, iF, List.length_append]
     exact hown2
    · exact (HB.out.trans (hW.mono hbs)).grown hg2 (by omega) fun j hj => bP HO.out j hj
   case measure => simp [intOf]; omega
  ·
   go_wp2
   refine bodyPost_ret (results_tmp rfl _ _ _) rfl ?_
   refine ⟨_, rfl, HB.out, ?_⟩
   have h := HO.out
   rw [XT (by omega)] at h
   show OwnB _ _ (.slice A' (split (l.take k)).length c') _
   rw [XT (by omega)]
   exact h
def joinL : List UInt8 → Option (List UInt8)
 | [] => some []
 | [_] => none
 | x :: y :: r => if x.toNat ≤ 15 ∧ y.toNat ≤ 15 then (joinL r).map fun t => (x <<< 4 ||| y) :: t else none
theorem BR : ∀ (p : List UInt8), p.length % 2 = 1 → joinL p = none
 | [], h => by simp at h
 | [_], _ => rfl
 | x :: y :: r, h => by
  rw [joinL, BR r (by simp at h; omega)]
  simp
theorem IV (p : List UInt8) (k : Nat) (h1 : k < p.length) (h2 : k + 1 < p.length) :
  joinL (p.drop k) = if p[k].toNat ≤ 15 ∧ p[k + 1].toNat ≤ 15 then (joinL (p.drop (k + 2))).map fun t => (p[k] <<< 4 ||| p[k + 1]) :: t else none := by
 rw [Xn h1, Xn h2, joinL]
def TR (base : Nat) (p : List UInt8) : VP := fun v w => ∃ v1, v = .tuple #[v1, .bool (joinL p).isSome] ∧ OwnB w base v1 ((joinL p).getD [])
theorem VB (x y : Nat) (hx : x ≤ 15) (hy : y ≤ 15) (a b : UInt8) (ha : a.toNat = x) (hb : b.toNat = y) : (a <<< 4 ||| b).toNat = x * 16 + y := by
 have h : ∀ x : Fin 16, ∀ y : Fin 16, ((UInt8.ofNat x.1) <<< 4 ||| (UInt8.ofNat y.1)).toNat = x.1 * 16 + y.1 := by decide +kernel
 subst ha hb
 simpa using h ⟨a.toNat, by omega⟩ ⟨b.toNat, by omega⟩
theorem Ui (x y : Nat) (hx : x ≤ 15) (hy : y ≤ 15) : bits .or .u8 ((x : Int) * 16) (y : Int) = ((x * 16 + y : Nat) : Int) := by
 have h : ∀ x : Fin 16, ∀ y : Fin 16, bits .or .u8 ((x.1 : Int) * 16) (y.1 : Int) = ((x.1 * 16 + y.1 : Nat) : Int) := by decide +kernel
 exact h ⟨x, by omega⟩ ⟨y, by omega⟩
theorem um (v1 : Value) (p : List UInt8) (w : World) (h1 : IsB w v1 p) (hlen : p.length ≤ 1073741824) :
  Calls Tryz.prog 108 #[v1] w (Ret (TR w.heap.size p) w) := by
 obtain ⟨A, c, rfl, hl1, hl2, hA⟩ := h1
 clear hl1 hl2
 have HA := Lib.hid hA
 clear hA
 by_cases hodd : p.length % 2 = 1
 ·
  have HJ := Lib.hid (BR p hodd)
  go_enter Tryz.func108, Tryz.ntmps108
  go_wp2
  refine bodyPost_ret (results_tmp2 rfl _ _ _) rfl ?_
  refine ⟨_, rfl, Below.refl _ _, .slice none 0 0, ?_, ?_⟩
  · rw [HJ.out]; rfl
  · rw [HJ.out]; exact OwnB.nil _ _
 ·
  have hev : p.length % 2 = 0 := by omega
  clear hodd
  have hevI : (p.length : Int) % 2 = 0 := by omega
  go_enter Tryz.func108, Tryz.ntmps108
  go_wp2
  clear hevI
  go_loopw [4, 5] (fun v i wr => ∃ (j : Nat) (pre : List UInt8), 2 * j ≤ p.length ∧ i = .int .i64 (2 * j : Nat) ∧ pre.length = j ∧ OwnB wr w.heap.size v pre ∧ Below w.heap.size w wr ∧ Hid (joinL p = (joinL (p.drop (2 * j))).map (pre ++ ·))) (fun _ i _ => p.length - (intOf i).toNat)
  case atStart => exact ⟨0, [], by omega, rfl, rfl, OwnB.nil w w.heap.size, Below.refl _ _, Lib.hid (by simp)⟩
  case round =>
   obtain ⟨j, pre, hj, rfl, hpre, hown, hb, hJ⟩ := hrel
   obtain ⟨A', c', rfl, hc1, hc2⟩ := dB hown
   have hbs := hb.size
   have HO := Lib.hid hown
   have HB := Lib.hid hb
   have HP := Lib.hid hpre
   have hpl : pre.length ≤ j := by omega
   clear hown hb hpre
   by_cases h1 : 2 * j < p.length
   ·
    have h2 : 2 * j + 1 < p.length := by omega
    obtain ⟨b1, o1, rfl, hb1, c1⟩ := HA.out (by intro e; have := bJ p; rw [e] at this; simp at this; omega)
    have hbw : b1 < wr.heap.size := by omega
    have r1 := (HB.out.cell (p := ⟨b1, o1 + 2 * j, none⟩) hb1).trans (c1 (2 * j) _ (mg p (2 * j) h1))
    have r2 := (HB.out.cell (p := ⟨b1, o1 + (2 * j + 1), none⟩) hb1).trans (c1 (2 * j + 1) _ (mg p (2 * j + 1) h2))
    have d1 := bg (w := wr) (p := ⟨b1, o1 + 2 * j, none⟩) hbw r1
    have d2 := bg (w := wr) (p := ⟨b1, o1 + (2 * j + 1), none⟩) hbw r2
    clear c1
    unfold bv at d1 d2 r1 r2
    have HS := Lib.hid (IV p (2 * j) h1 h2)
    have hx0 := jh p[2 * j]
    have hy0 := jh p[2 * j + 1]
    obtain ⟨x, hx⟩ : ∃ x, x = p[2 * j].toNat := ⟨_, rfl⟩
    obtain ⟨y, hy⟩ : ∃ y, y = p[2 * j + 1].toNat := ⟨_, rfl⟩
    rw [← hx] at d1 r1 hx0
    rw [← hy] at d2 r2 hy0
    have HX := Lib.hid hx
    have HY := Lib.hid hy
    clear hx hy
    by_cases hc : x ≤ 15 ∧ y ≤ 15
    ·
     obtain ⟨hcx, hcy⟩ := hc
     go_wp2
     refine dH 13 (by kernel_rfl) (by kernel_rfl) (by kernel_rfl) ?_
     simp only [WH, WO, WG, WM]
     refine dM 12 (by kernel_rfl) ?_
     simp only [WH, WO, WG, WM]
     repeat (go_big_quiet_step (fail))
     refine wpQuiet_nil ?_
     refine Js 41 (fun v w => IsB w v [p[2 * j] <<< 4 ||| p[2 * j + 1]]) rfl rfl (by kernel_rfl) (by kernel_rfl) (yj _) (fun xw => ?_) ?_
     ·
      simp [go_sem, fP]
      rw [Ui x y hcx hcy]
      refine ⟨au _ _, JV _ _ [p[2 * j] <<< 4 ||| p[2 * j + 1]] ?_ (by simp [maxLen])⟩
      simp [bvs, bv, VB x y hcx hcy _ _ HX.out.symm HY.out.symm]
     refine gK (by kernel_rfl) ?_
     intro W hW
     replace hW := hW.gr
     have hbs2 := hW.size
     intro v22 h22
     obtain ⟨A22, c22, rfl, _, _, hrd⟩ := h22
     unfold oD
     go_wp2_with (at_builtin; refine bn _ _ 38 cu _ _ _ _ _ _ _ (bvs [p[2 * j] <<< 4 ||| p[2 * j + 1]]) rfl rfl rfl rfl (o7 HO.out hW) hrd (by simp [bvs]) (dR _) (by simp only [maxLen]; simp; omega) (by simp; omega) (by omega) ?_; intro A2 c2 w2 hown2 hg2 _)
     go_roundw
     case rel =>
      refine ⟨j + 1, pre ++ [p[2 * j] <<< 4 ||| p[2 * j + 1]], by omega, by go_num, by simp [HP.out], ?_, (HB.out.trans (hW.mono hbs)).grown hg2 (by omega) fun j hj => bP HO.out j hj, Lib.hid ?_⟩
      ·
       unfold OwnB
       rw [iF, List.length_append]
       exact hown2
      ·
       rw [hJ.out, HS.out, if_pos ⟨by rw [← HX.out]; exact hcx, by rw [← HY.out]; exact hcy⟩, show 2 * (j + 1) = 2 * j + 2 by omega]
       cases joinL (p.drop (2 * j + 2)) <;> simp
     case measure => simp [intOf]; omega
    ·
     by_cases hcx : x ≤ 15
     ·
      have hcy : 15 < y := by omega
      have hno := Lib.hid hc
      clear hc
      go_wp2
      refine bodyPost_ret (results_tmp2 rfl _ _ _) rfl ?_
      refine ⟨_, rfl, HB.out, .slice none 0 0, ?_, ?_⟩
      · rw [hJ.out, HS.out, if_neg (by rw [← HX.out, ← HY.out]; exact hno.out)]; rfl
      · rw [hJ.out, HS.out, if_neg (by rw [← HX.out, ← HY.out]; exact hno.out)]; exact OwnB.nil _ _
     ·
      have hcx' : 15 < x := by omega
      have hno := Lib.hid hc
      clear hc hcx
      go_wp2
      refine bodyPost_ret (results_tmp2 rfl _ _ _) rfl ?_
      refine ⟨_, rfl, HB.out, .slice none 0 0, ?_, ?_⟩
      · rw [hJ.out, HS.out, if_neg (by rw [← HX.out, ← HY.out]; exact hno.out)]; rfl
      · rw [hJ.out, HS.out, if_neg (by rw [← HX.out, ← HY.out]; exact hno.out)]; exact OwnB.nil _ _
   ·
    have hd := Lib.hid (Xt (Nat.le_of_not_lt h1))
    go_wp2
    refine bodyPost_ret (results_tmp2 rfl _ _ _) rfl ?_
    refine ⟨_, rfl, HB.out, .slice A' pre.length c', ?_, ?_⟩
    · rw [hJ.out, hd.out]; rfl
    · rw [hJ.out, hd.out]; simpa [joinL] using HO.out


def hdr (p : List UInt8) (leaf : Bool) : List UInt8 := if p.length % 2 = 1 then [if leaf then 3 else 1] else [if leaf then 2 else 0, 0]
theorem La (v1 : Value) (p : List UInt8) (leaf : Bool) (w : World) (h1 : IsB w v1 p) (hlen : p.length ≤ 536870912) :
  Calls Tryz.prog 122 #[v1, .bool leaf] w (Ret (TR w.heap.size (hdr p leaf ++ p)) w) := by
 obtain ⟨A, c, rfl, hl1, hl2, hA⟩ := h1
 clear hl1 hl2
 have HA := Lib.hid hA
 clear hA
 by_cases hodd : p.length % 2 = 1
 ·
  have hoddI : (p.length : Int) % 2 = 1 := by omega
  have hh : hdr p leaf = [if leaf then 3 else 1] := by unfold hdr; rw [if_pos hodd]
  rw [hh]
  clear hh hodd
  cases leaf
  ·
   go_enter Tryz.func122, Tryz.ntmps122
   go_wp2_with (at_builtin; refine bn _ _ 38 cu _ 1 _ _ p.length _ w.heap.size (bvs p) rfl rfl rfl rfl (iT _ _ _ _ 1 _ w.heap.size (by simp) (au w _).size (by simp [maxLen]) rfl) (HA.out.below ((au _ _).trans (au _ _))) (by rw [bJ]; omega) (dR _) (by simp only [maxLen]; omega) (by omega) (by first | (simp; done) | (simp; omega)) ?_; intro A2 c2 w2 hown2 hg2 _; have ho2 := ownB_of (l := [1] ++ p) hown2 rfl; have hb2 := ho2.isB; have H2 := Lib.hid hb2; clear ho2 hb2 hown2)
   refine (um _ _ _ H2.out (by simp; omega)).mono ?_
   rintro e w3 ⟨v3, rfl, hg3, v4, rfl, ho4⟩
   go_wp2
   refine bodyPost_ret (results_tmp2 rfl _ _ _) rfl ?_
   have hb1 : Below w.heap.size w w2 := Below.grown ((au _ _).trans (au _ _)) hg2 (by first | (simp; done) | (simp; omega)) fun j hj => by injection hj with h; subst h; first | exact Nat.le_refl _ | simp
   exact ⟨_, rfl, hb1.trans (hg3.mono hb1.size), v4, rfl, own_base ho4 hb1.size⟩
  ·
   go_enter Tryz.func122, Tryz.ntmps122
   go_wp2_with (at_builtin; refine bn _ _ 38 cu _ 1 _ _ p.length _ w.heap.size (bvs p) rfl rfl rfl rfl (iT _ _ _ _ 1 _ w.heap.size (by simp) (au w _).size (by simp [maxLen]) rfl) (HA.out.below ((au _ _).trans (au _ _))) (by rw [bJ]; omega) (dR _) (by simp only [maxLen]; omega) (by omega) (by first | (simp; done) | (simp; omega)) ?_; intro A2 c2 w2 hown2 hg2 _; have ho2 := ownB_of (l := [3] ++ p) hown2 rfl; have hb2 := ho2.isB; have H2 := Lib.hid hb2; clear ho2 hb2 hown2)
   refine (um _ _ _ H2.out (by simp; omega)).mono ?_
   rintro e w3 ⟨v3, rfl, hg3, v4, rfl, ho4⟩
   go_wp2
   refine bodyPost_ret (results_tmp2 rfl _ _ _) rfl ?_
   have hb1 : Below w.heap.size w w2 := Below.grown ((au _ _).trans (au _ _)) hg2 (by first | (simp; done) | (simp; omega)) fun j hj => by injection hj with h; subst h; first | exact Nat.le_refl _ | simp
   exact ⟨_, rfl, hb1.trans (hg3.mono hb1.size), v4, rfl, own_base ho4 hb1.size⟩
 ·
  have hevI : (p.length : Int) % 2 = 0 := by omega
  have hh : hdr p leaf = [if leaf then 2 else 0, 0] := by unfold hdr; rw [if_neg hodd]
  rw [hh]
  clear hh hodd
  cases leaf
  ·
   go_enter Tryz.func122, Tryz.ntmps122
   go_wp2_with (at_builtin; refine bn _ _ 38 cu _ 2 _ _ p.length _ w.heap.size (bvs p) rfl rfl rfl rfl (iT _ _ _ _ 2 _ w.heap.size rfl (Nat.le_refl _) (by simp [maxLen]) rfl) (HA.out.below (au _ _)) (by rw [bJ]; omega) (dR _) (by simp only [maxLen]; omega) (by omega) (by first | (simp; done) | (simp; omega)) ?_; intro A2 c2 w2 hown2 hg2 _; have ho2 := ownB_of (l := (0::[0]) ++ p) hown2 rfl; have hb2 := ho2.isB; have H2 := Lib.hid hb2; clear ho2 hb2 hown2)
   refine (um _ _ _ H2.out (by simp; omega)).mono ?_
   rintro e w3 ⟨v3, rfl, hg3, v4, rfl, ho4⟩
   go_wp2
   refine bodyPost_ret (results_tmp2 rfl _ _ _) rfl ?_
   have hb1 : Below w.heap.size w w2 := ((Below.refl _ _).alloc (Nat.le_refl _) _).grown hg2 (by first | (simp; done) | (simp; omega)) fun j hj => by injection hj with h; subst h; first | exact Nat.le_refl _ | simp
   exact ⟨_, rfl, hb1.trans (hg3.mono hb1.size), v4, rfl, own_base ho4 hb1.size⟩
  ·
   go_enter Tryz.func122, Tryz.ntmps122
   go_wp2_with (at_builtin; refine bn _ _ 38 cu _ 2 _ _ p.length _ w.heap.size (bvs p) rfl rfl rfl rfl (iT _ _ _ _ 2 _ w.heap.size rfl (Nat.le_refl _) (by simp [maxLen]) rfl) (HA.out.below (au _ _)) (by rw [bJ]; omega) (dR _) (by simp only [maxLen]; omega) (by omega) (by first | (simp; done) | (simp; omega)) ?_; intro A2 c2 w2 hown2 hg2 _; have ho2 := ownB_of (l := (2::[0]) ++ p) hown2 rfl; have hb2 := ho2.isB; have H2 := Lib.hid hb2; clear ho2 hb2 hown2)
   refine (um _ _ _ H2.out (by simp; omega)).mono ?_
   rintro e w3 ⟨v3, rfl, hg3, v4, rfl, ho4⟩
   go_wp2
   refine bodyPost_ret (results_tmp2 rfl _ _ _) rfl ?_
   have hb1 : Below w.heap.size w w2 := ((Below.refl _ _).alloc (Nat.le_refl _) _).grown hg2 (by first | (simp; done) | (simp; omega)) fun j hj => by injection hj with h; subst h; first | exact Nat.le_refl _ | simp
   exact ⟨_, rfl, hb1.trans (hg3.mono hb1.size), v4, rfl, own_base ho4 hb1.size⟩
end Go.Proofs.YtelbhdobjdnglaaGreat
namespace Go.Proofs.YtelbhdobjdnglaaGreat
namespace Rlp
inductive Raw where
 | mk (list : Bool) (bs : List UInt8) (xs : List Raw)
abbrev most : Nat := 16777216
def le (n : Nat) : List UInt8 := if h : n = 0 then [] else UInt8.ofNat n :: le (n / 256)
termination_by n
decreasing_by omega
def be (n : Nat) : List UInt8 := (le n).reverse
theorem le_zero : le 0 = [] := by unfold le; rfl
theorem DR (n : Nat) (h : 0 < n) : le n = UInt8.ofNat n :: le (n / 256) := by
 conv => lhs; unfold le
 rw [dif_neg (by omega)]
theorem Kv : be 0 = [] := by unfold be; rw [le_zero]; rfl
theorem Qp (n : Nat) (h : 0 < n) : be n = be (n / 256) ++ [UInt8.ofNat n] := by unfold be; rw [DR n h, List.reverse_cons]
theorem vM (k : Nat) : ∀ n, n < 256 ^ k → (le n).length ≤ k := by
 induction k with
 | zero =>
      intro n h; have : n = 0 := by simpa using h
      subst this; rw [le_zero]; simp
 | succ k ih =>
  intro n h
  rcases Ya n with h0 | h0
  · subst h0; rw [le_zero]; simp
  ·
   rw [DR n h0, WS]
   have := ih (n / 256) (by rw [Nat.pow_succ] at h; omega)
   omega
theorem rO (k n : Nat) (h : n < 256 ^ k) : (be n).length ≤ k := by unfold be; rw [List.length_reverse]; exact vM k n h
def val (l : List UInt8) : Nat := l.foldl (fun n b => n * 256 + b.toNat) 0
theorem xY (l : List UInt8) (b : UInt8) : val (l ++ [b]) = val l * 256 + b.toNat := by simp [val]
theorem QO (l : List UInt8) : ∀ b, b ≠ 0 → 0 < val (b :: l) := by
 intro b hb
 have hb0 : 0 < b.toNat := by
  rcases Ya b.toNat with h0 | h0
  · exact absurd (XR.1 (by rw [h0]; rfl)) hb
  · exact h0
 have h : ∀ (l : List UInt8) (n : Nat), 0 < n → 0 < l.foldl (fun n b => n * 256 + b.toNat) n := by
  intro l
  induction l with
  | nil => exact fun _ h => h
  | cons c l ih => exact fun n h => ih _ (show 0 < n * 256 + c.toNat by omega)
 exact h l _ (show 0 < 0 * 256 + b.toNat by omega)
theorem U4 : ∀ l : List UInt8, l.head? ≠ some 0 → be (val l) = l := by
 intro l
 induction h : l.length generalizing l with
 | zero =>
  intro _
  obtain rfl := XF h
  exact Kv
 | succ k ih =>
  intro hh
  have hne : l ≠ [] := fun e => by rw [e] at h; simp at h
  obtain ⟨m, b, rfl⟩ : ∃ m b, l = m ++ [b] := ⟨l.dropLast, l.getLast hne, (List.dropLast_concat_getLast hne).symm⟩
  have hm : m.length = k := by simpa using h
  have hbl := b.toNat_lt
  rw [xY]
  rcases m with _ | ⟨c, m⟩
  ·
   have hb : b ≠ 0 := fun e => hh (by rw [e]; rfl)
   have hb0 : 0 < b.toNat := by
    rcases Ya b.toNat with h0 | h0
    · exact absurd (XR.1 (by rw [h0]; rfl)) hb
    · exact h0
   have h1 : val ([] : List UInt8) = 0 := rfl
   rw [h1, Za, Xj, Qp _ hb0, show b.toNat / 256 = 0 by omega, Kv, UInt8.ofNat_toNat]
  ·
   have hc : c ≠ 0 := fun e => hh (by rw [e]; rfl)
   have hv := QO m c hc
   rw [Qp _ (by omega), show (val (c :: m) * 256 + b.toNat) / 256 = val (c :: m) by omega, ih (c :: m) hm (fun e => hc (by simpa using e))]
   have : UInt8.ofNat (val (c :: m) * 256 + b.toNat) = b := by
    apply XR.1
    rw [Zp]
    omega
   rw [this]
def head (n base : Nat) : List UInt8 := if n < 56 then [UInt8.ofNat (base + n)] else UInt8.ofNat (base + 55 + (be n).length) :: be n
def szB (n : Nat) : Nat := if n < 56 then 1 + n else 1 + (be n).length + n
theorem jI (n base : Nat) : (head n base).length + n = szB n := by
 unfold head szB
 split
 · simp
 · simp; omega
def EB (bs : List UInt8) : List UInt8 := if bs.length = 1 ∧ bs.getD 0 0 < 128 then bs else head bs.length 128 ++ bs
mutual
def E : Raw → List UInt8
 | .mk false bs _ => EB bs
 | .mk true _ xs => head (EL xs).length 192 ++ EL xs
def EL : List Raw → List UInt8
 | [] => []
 | x :: xs => E x ++ EL xs
end
def szE (bs : List UInt8) : Nat := if bs.length = 1 ∧ bs.getD 0 0 < 128 then 1 else szB bs.length
theorem wE (bs : List UInt8) : (EB bs).length = szE bs := by
 unfold EB szE
 split
 · rename_i h; exact h.1
 · rw [List.length_append, jI]
mutual
def meas : Raw → Nat → Option Nat
 | .mk false bs _, _ => if bs.length ≤ most then some (szE bs) else none
 | .mk true _ xs, d => if d = 32 then none else (jA xs (d + 1) 0).map szB
def jA : List Raw → Nat → Nat → Option Nat
 | [], _, n => some n
 | x :: xs, d, n => match meas x d with
  | none => none
  | some k => if n + k > most then none else jA xs d (n + k)
end
mutual
def fD : Raw → Option (List UInt8)
 | .mk false bs _ => if bs.length > most then none else some (EB bs)
 | .mk true _ xs => (fQ xs []).map fun l => head l.length 192 ++ l
def fQ : List Raw → List UInt8 → Option (List UInt8)
 | [], acc => some acc
 | x :: xs, acc => match fD x with
  | none => none
  | some b => if acc.length + b.length > most then none else fQ xs (acc ++ b)
end
mutual
def fE : Raw → Nat → Nat
 | .mk false _ _, _ => 0
 | .mk true _ _, 0 => 1
 | .mk true _ xs, m + 1 => maxD xs m 0 + 1
def maxD : List Raw → Nat → Nat → Nat
 | [], _, n => n
 | x :: xs, m, n => maxD xs m (if fE x m > n then fE x m else n)
end
theorem maxD_le : ∀ (xs : List Raw) (m n k : Nat), maxD xs m n ≤ k ↔ n ≤ k ∧ ∀ x ∈ xs, fE x m ≤ k
 | [], m, n, k => by simp [maxD]
 | x :: xs, m, n, k => by
  rw [maxD, maxD_le xs]
  constructor
  ·
   rintro ⟨h1, h2⟩
   split at h1
   ·
    refine ⟨by omega, fun y hy => ?_⟩
    rcases Xb.1 hy with rfl | hy
    · exact h1
    · exact h2 y hy
   ·
    refine ⟨h1, fun y hy => ?_⟩
    rcases Xb.1 hy with rfl | hy
    · omega
    · exact h2 y hy
  ·
   rintro ⟨h1, h2⟩
   refine ⟨?_, fun y hy => h2 y (by simp [hy])⟩
   split
   · exact h2 x (by simp)
   · exact h1
theorem rV : ∀ xs ys : List Raw, EL (xs ++ ys) = EL xs ++ EL ys
 | [], ys => rfl
 | x :: xs, ys => by rw [WL, EL, EL, rV xs ys, Xp]
mutual
theorem DK : ∀ (r : Raw) (d n : Nat), meas r d = some n → n = (E r).length
 | .mk false bs _, d, n, h => by
  rw [meas] at h
  split at h
  · rw [E, wE]; exact (Xr h).symm
  · cases h
 | .mk true _ xs, d, n, h => by
  rw [meas] at h
  split at h
  · cases h
  ·
   cases hm : jA xs (d + 1) 0 with
   | none => rw [hm] at h; cases h
   | some k =>
    rw [hm] at h
    have hk := JO xs (d + 1) 0 k hm
    have hn : szB k = n := Xr h
    rw [E, List.length_append, jI, ← hn, hk, Xj]
theorem JO : ∀ (xs : List Raw) (d n k : Nat), jA xs d n = some k → k = n + (EL xs).length
 | [], d, n, k, h => by rw [jA] at h; rw [EL]; simpa using (Xr h).symm
 | x :: xs, d, n, k, h => by
  rw [jA] at h
  cases hx : meas x d with
  | none => rw [hx] at h; cases h
  | some j =>
   rw [hx] at h
   dsimp only at h
   split at h
   · cases h
   ·
    have h1 := JO xs d (n + j) k h
    have h2 := DK x d j hx
    rw [EL, List.length_append, h1, h2]
    omega
end
mutual
theorem Dy : ∀ (r : Raw) (b : List UInt8), fD r = some b → b = E r
 | .mk false bs _, b, h => by
  rw [fD] at h
  split at h
  · cases h
  · rw [E]; exact (Xr h).symm
 | .mk true _ xs, b, h => by
  rw [fD] at h
  cases hm : fQ xs [] with
  | none => rw [hm] at h; cases h
  | some l =>
   rw [hm] at h
   have hl := Fh xs [] l hm
   rw [E, ← Xr h, hl]
   rfl
theorem Fh : ∀ (xs : List Raw) (acc l : List UInt8), fQ xs acc = some l → l = acc ++ EL xs
 | [], acc, l, h => by rw [fQ] at h; rw [EL, XB]; exact (Xr h).symm
 | x :: xs, acc, l, h => by
  rw [fQ] at h
  cases hx : fD x with
  | none => rw [hx] at h; cases h
  | some j =>
   rw [hx] at h
   dsimp only at h
   split at h
   · cases h
   ·
    have h1 := Fh xs (acc ++ j) l h
    have h2 := Dy x j hx
    rw [EL, h1, h2, Xp]
end
mutual
theorem BP : ∀ (r : Raw) (d m : Nat), d + m = 32 → ((meas r d).isSome = true ↔ fE r m ≤ m ∧ (fD r).isSome = true)
 | .mk false bs _, d, m, h => by
  rw [meas, fD, fE]
  by_cases hb : bs.length ≤ most
  · rw [if_pos hb, if_neg (by omega)]; simp
  · rw [if_neg hb, if_pos (by omega)]; simp
 | .mk true _ xs, d, 0, h => by
  rw [meas, if_pos (by omega), fE]; simp
 | .mk true _ xs, d, m + 1, h => by
  rw [meas, if_neg (by omega), fE, fD]
  have h1 := y9 xs (d + 1) m (by omega) []
  rw [Option.isSome_map, Option.isSome_map, show maxD xs m 0 + 1 ≤ m + 1 ↔ maxD xs m 0 ≤ m by omega, maxD_le]
  simp only [XP] at h1
  rw [h1]
  simp
theorem y9 : ∀ (xs : List Raw) (d m : Nat), d + m = 32 → ∀ acc : List UInt8, ((jA xs d acc.length).isSome = true ↔ (∀ x ∈ xs, fE x m ≤ m) ∧ (fQ xs acc).isSome = true)
 | [], d, m, h, acc => by rw [jA, fQ]; simp
 | x :: xs, d, m, h, acc => by
  rw [jA, fQ]
  have h1 := BP x d m h
  cases hx : meas x d with
  | none =>
   rw [hx] at h1
   simp only [Option.isSome_none, Yi, false_iff] at h1 ⊢
   rintro ⟨h2, h3⟩
   refine h1 ⟨h2 x (by simp), ?_⟩
   cases hp : fD x with
   | none => rw [hp] at h3; cases h3
   | some b => rfl
  | some k =>
   rw [hx] at h1
   obtain ⟨h2, h3⟩ := h1.1 rfl
   cases hp : fD x with
   | none => rw [hp] at h3; cases h3
   | some b =>
    have hk : k = b.length := by rw [DK x d k hx, Dy x b hp]
    dsimp only
    rw [hk]
    split
    · simp
    ·
     have h4 := y9 xs d m h (acc ++ b)
     rw [List.length_append] at h4
     rw [h4]
     constructor
     ·
      rintro ⟨h5, h6⟩
      refine ⟨fun y hy => ?_, h6⟩
      rcases Xb.1 hy with rfl | hy
      · exact h2
      · exact h5 y hy
     ·
      rintro ⟨h5, h6⟩
      exact ⟨fun y hy => h5 y (by simp [hy]), h6⟩
end
mutual
def cnt : Raw → Nat
 | .mk _ _ xs => 1 + Qb xs
def Qb : List Raw → Nat
 | [] => 0
 | x :: xs => cnt x + Qb xs
end
theorem Kt : ∀ (xs : List Raw) (k : Nat) (h : k < xs.length), cnt xs[k] ≤ Qb xs
 | [], k, h => by simp at h
 | x :: xs, 0, h => by rw [Qb]; simp
 | x :: xs, k + 1, h => by
  have := Kt xs k (by simpa using h)
  rw [Qb]
  simp only [List.getElem_cons_succ]
  omega
def packed (r : Raw) : Option (List UInt8) := match meas r 0 with
 | some n => if n > most then none else some (E r)
 | none => none
theorem tu (r : Raw) : packed r = if fE r 32 > 32 then none else match fD r with
  | some b => if b.length > most then none else some b
  | none => none := by
 have h := BP r 0 32 rfl
 unfold packed
 cases hm : meas r 0 with
 | none =>
  rw [hm] at h
  simp only [Option.isSome_none, Yi, false_iff] at h
  dsimp only
  by_cases hd : fE r 32 > 32
  · rw [if_pos hd]
  ·
   rw [if_neg hd]
   cases hp : fD r with
   | none => rfl
   | some b => exact absurd ⟨by omega, by rw [hp]; rfl⟩ h
 | some n =>
  rw [hm] at h
  obtain ⟨h1, h2⟩ := h.1 rfl
  rw [if_neg (by omega)]
  cases hp : fD r with
  | none => rw [hp] at h2; cases h2
  | some b =>
   have e1 := DK r 0 n hm
   have e2 := Dy r b hp
   dsimp only
   rw [e1, ← e2]
end Rlp
end Go.Proofs.YtelbhdobjdnglaaGreat
namespace Go.Proofs.YtelbhdobjdnglaaGreat
open Go.RowKit Mono
theorem Fj {w : World} {base e size n c : Nat} {A : Option Addr} {xs : List Value} (h : w.ownsRow base e size (.slice A n c) n xs) (hn : 0 < n) : ∃ g, A = some ⟨g, 0, none⟩ ∧ base ≤ g ∧ g < w.heap.size := by
 rcases h.2 with ⟨_, h0⟩ | ⟨g, cp, cur, hv, hb, hh, _⟩
 · omega
 ·
  injection hv with hA _ _
  refine ⟨g, hA, hb, ?_⟩
  rcases Xx g w.heap.size with h1 | h1
  · exact h1
  · rw [Array.getElem?_eq_none h1] at hh; cases hh
def App (w : World) (base e size : Nat) (v : Value) (n : Nat) (xs : List Value) : Prop :=
 w.ownsRow base e size v n xs ∨ ∃ a, v = .slice (some a) n n ∧ xs.length = n * size ∧ Rd w w.heap.size (some a) xs
def Vj (w : World) (base : Nat) (v : Value) (l : List UInt8) : Prop := App w base 5 1 v l.length (bvs l)
theorem App.form {w : World} {base e size n : Nat} {v : Value} {xs : List Value} (h : App w base e size v n xs) (hn : n ≤ maxLen) : ∃ A c, v = .slice A n c ∧ n ≤ c ∧ c ≤ maxLen := by
 rcases h with h | ⟨a, rfl, _, _⟩
 · exact dB h
 · exact ⟨_, _, rfl, Nat.le_refl _, hn⟩
theorem App.gr {w w' : World} {base e size n : Nat} {v : Value} {xs : List Value} (h : App w base e size v n xs) (hg : Gr w w') : App w' base e size v n xs := by
 rcases h with h | ⟨a, rfl, hl, hr⟩
 · exact .inl (o7 h hg)
 · exact .inr ⟨a, rfl, hl, hr.gr hg⟩
theorem Vj.isB {w : World} {base : Nat} {v : Value} {l : List UInt8} (h : Vj w base v l) (hn : l.length ≤ maxLen) : IsB w v l := by
 rcases h with h | ⟨a, rfl, _, hr⟩
 · exact OwnB.isB h
 · exact ⟨_, _, rfl, Nat.le_refl _, hn, hr⟩
theorem OwnB.app {w : World} {base : Nat} {v : Value} {l : List UInt8} (h : OwnB w base v l) : Vj w base v l := .inl h
theorem Jf (w : World) (C : Array Value) (n c : Nat) : (convert 38 38 (.slice (some ⟨w.heap.size, 0, none⟩) n c)).run Tryz.prog (w.alloc (.cells C 5)) = .ok (.slice (some ⟨w.heap.size, 0, none⟩) n c) (w.alloc (.cells C 5 (C.size, C.size + 1))) :=
 Lib.run_convert_bytes_const w 38 5 C n c Tryz.underlying38 Tryz.underlying5
theorem JQ (b : ByteArray) : ∀ (k i : Nat) (r : List UInt8), b.size - i = k → ByteArray.toList.loop b i r = r.reverse ++ b.data.toList.drop i
 | 0, i, r, h => by
  rw [ByteArray.toList.loop, if_neg (by omega), Xt (by simp; have : b.data.size = b.size := rfl; omega)]
  simp
 | k + 1, i, r, h => by
  have hi : i < b.data.toList.length := by simp; have : b.data.size = b.size := rfl; omega
  rw [ByteArray.toList.loop, if_pos (by omega), JQ b k (i + 1) _ (by omega), Xn hi]
  have : b.get! i = b.data.toList[i] := by
   simp at hi
   show b.data[i]! = _
   simp [hi]
  rw [this]
  simp
theorem toList_data (b : ByteArray) : b.toList = b.data.toList := by
 unfold ByteArray.toList
 rw [JQ b b.size 0 [] (by omega)]
 simp
def bs (l : List UInt8) : ByteArray := ⟨l.toArray⟩
theorem vZ (l : List UInt8) : (bs l).toList = l := by
 rw [toList_data]
 simp [bs]
theorem zL {w : World} {v : Value} {l : List UInt8} (h : IsB w v l) : (convert 38 9 v).run Tryz.prog w = .ok (.string (bs l)) w := by
 obtain ⟨A, c, rfl, h1, h2, hr⟩ := h
 cases A with
 | none =>
  have : l = [] := by
   by_cases hl : bvs l = []
   · simpa [bvs] using hl
   ·
    obtain ⟨b, o, e, _⟩ := hr hl
    cases e
  subst this
  rw [run_convert_bytes_string w _ _ 5 none _ c Tryz.underlying38 Tryz.underlying5 Tryz.underlying9]
  rfl
 | some ad =>
  refine run_convert_bytes_back w _ _ 5 ad c l Tryz.underlying38 Tryz.underlying5 Tryz.underlying9 fun j hj => ?_
  obtain ⟨b, o, e, _, hc⟩ := hr (by intro e; have := bJ l; rw [e] at this; simp at this; omega)
  injection e with e
  subst e
  rw [eu]
  exact hc j _ (mg l j hj)
namespace Mono
end Mono
theorem lt_of_some {w : World} {g : Nat} {o : Obj} (h : w.heap[g]? = some o) : g < w.heap.size := by
 rcases Xx g w.heap.size with h1 | h1
 · exact h1
 · rw [Array.getElem?_eq_none h1] at h; cases h
theorem SV (l : List UInt8) (k : Nat) (b : UInt8) : (bvs l).set k (bv b) = bvs (l.set k b) := by simp [bvs, List.map_set]
theorem aS (w : World) (g : Nat) (cs cs' : Array Value) (t : TypeId) (hg : w.heap[g]? = some (.cells cs t (0, 0))) : (w.setRow g cs').heap[g]? = some (.cells cs' t (0, 0)) := by
 simp [World.setRow, Array.getElem?_modify, hg]
theorem bQ {w w' : World} (h : Gr w w') (g : Nat) (cs : Array Value) (hg : w.heap.size ≤ g) : Gr w (w'.setRow g cs) :=
 ⟨h.os, h.tape, h.output, by rw [size_setRow]; exact h.size, fun i hi => by
  rw [← h.block i hi]
  simp only [World.setRow]
  rw [X4, if_neg (by omega)]⟩
def dG (l : List UInt8) : Value := .agg (bvs l).toArray
theorem qR (l : List UInt8) (h : l.length = 32) : (bvs l).toArray.size = 32 := by simp [bvs, h]
theorem fO (l : List UInt8) (h : l.length = 32) : (Tryz.prog.info? 29).map (·.size) = some (bvs l).toArray.size := by
 rw [qR l h]
 kernel_rfl
theorem lD (l : List UInt8) : (bvs l).toArray.all (·.oneCell') = true := by
 rw [List.all_toArray, Xk]
 exact fun x hx => dR l x hx
def Arr (w : World) (g : Nat) (t : TypeId) (l : List UInt8) : Prop := w.heap[g]? = some (.cells (bvs l).toArray t (0, 0))
theorem Arr.lt {w : World} {g : Nat} {t : TypeId} {l : List UInt8} (h : Arr w g t l) : g < w.heap.size := lt_of_some h
theorem Arr.gr {w w' : World} {g : Nat} {t : TypeId} {l : List UInt8} (h : Arr w g t l) (hg : Gr w w') : Arr w' g t l := (hg.block g h.lt).trans h
def Az (w : World) (v : Value) (ms : List (List UInt8)) : Prop :=
 ∃ (A : Option Addr) (c : Nat) (vals : List Value), v = .slice A ms.length c ∧ ms.length ≤ c ∧ c ≤ maxLen ∧ vals.length = ms.length ∧ Rd w w.heap.size A vals ∧ ∀ (i : Nat) (x : Value) (m : List UInt8), vals[i]? = some x → ms[i]? = some m → IsB w x m
theorem Az.nil (w : World) : Az w (.slice none 0 0) [] := ⟨none, 0, [], rfl, Nat.le_refl _, by simp [maxLen], rfl, Rd.nil, fun i x m h => by simp at h⟩
theorem Az.gr {w w' : World} {v : Value} {ms : List (List UInt8)} (h : Az w v ms) (hg : Gr w w') : Az w' v ms := by
 obtain ⟨A, c, vals, rfl, h1, h2, h3, h4, h5⟩ := h
 exact ⟨A, c, vals, rfl, h1, h2, h3, h4.gr hg, fun i x m a b => (h5 i x m a b).gr hg⟩
theorem Az.at {w : World} {B : Nat} {A : Option Addr} {vals : List Value} {ms : List (List UInt8)} (hlen : vals.length = ms.length) (hrd : Rd w B A vals) (hel : ∀ (i : Nat) (x : Value) (m : List UInt8), vals[i]? = some x → ms[i]? = some m → IsB w x m) (k : Nat) (hk : k < ms.length) :
  ∃ b o x, A = some ⟨b, o, none⟩ ∧ b < B ∧ w.cell? ⟨b, o + k, none⟩ = some x ∧ IsB w x ms[k] := by
 have hk' : k < vals.length := by omega
 obtain ⟨b, o, e, hb, hc⟩ := hrd (fun e => by rw [e] at hk'; simp at hk')
 exact ⟨b, o, vals[k], e, hb, hc k _ (List.getElem?_eq_getElem hk'), hel k _ _ (List.getElem?_eq_getElem hk') (List.getElem?_eq_getElem hk)⟩
theorem vP {w : World} {B : Nat} {A : Option Addr} {m : List UInt8} (h : Rd w B A (bvs m)) (k : Nat) (hk : k < m.length) : ∃ b o, A = some ⟨b, o, none⟩ ∧ b < B ∧ w.cell? ⟨b, o + k, none⟩ = some (.int .u8 (m[k].toNat : Int)) := by
 obtain ⟨b, o, e, hb, hc⟩ := h (fun e => by have := congrArg List.length e; rw [bJ] at this; simp at this; rw [this] at hk; simp at hk)
 exact ⟨b, o, e, hb, hc k _ (mg m k hk)⟩
theorem dA (w : World) (o : Obj) : (w.alloc o).heap.size = w.heap.size + 1 := by simp
theorem rJ (w : World) (o : Obj) (g : Nat) (h : g = w.heap.size) : (w.alloc o).heap[g]? = some o := by
 subst h
 exact heap_alloc_new w o
theorem bT (w : World) (o : Obj) (g : Nat) (h : g < w.heap.size) : (w.alloc o).heap[g]? = w.heap[g]? := Below.heap_alloc w o g h
end Go.Proofs.YtelbhdobjdnglaaGreat
namespace Go.Proofs.YtelbhdobjdnglaaGreat
open Go.RowKit Mono Rlp
def RdP (ok : Nat → Prop) (w : World) (A : Option Addr) (xs : List Value) : Prop :=
 xs ≠ [] → ∃ b o, A = some ⟨b, o, none⟩ ∧ ok b ∧ ∀ j u, xs[j]? = some u → w.cell? ⟨b, o + j, none⟩ = some u
theorem RdP.mono {ok ok' : Nat → Prop} {w w' : World} {A : Option Addr} {xs : List Value} (h : RdP ok w A xs) (h1 : ∀ b, ok b → ok' b) (h2 : ∀ p : Addr, ok p.block → w'.cell? p = w.cell? p) : RdP ok' w' A xs := fun hn => by
 obtain ⟨b, o, e, hb, hc⟩ := h hn
 exact ⟨b, o, e, h1 b hb, fun j u hu => (h2 _ hb).trans (hc j u hu)⟩
def wC (ok : Nat → Prop) (w : World) (v : Value) (l : List UInt8) : Prop :=
 ∃ A c, v = .slice A l.length c ∧ l.length ≤ c ∧ c ≤ maxLen ∧ RdP ok w A (bvs l)
theorem wC.mono {ok ok' : Nat → Prop} {w w' : World} {v : Value} {l : List UInt8} (h : wC ok w v l) (h1 : ∀ b, ok b → ok' b) (h2 : ∀ p : Addr, ok p.block → w'.cell? p = w.cell? p) : wC ok' w' v l := by
 obtain ⟨A, c, h3, h4, h5, h6⟩ := h
 exact ⟨A, c, h3, h4, h5, h6.mono h1 h2⟩
theorem nI {w : World} {base : Nat} {v : Value} {l : List UInt8} (h : OwnB w base v l) : wC (fun k => base ≤ k ∧ k < w.heap.size) w v l := by
 obtain ⟨A, c, rfl, h1, h2⟩ := dB h
 refine ⟨A, c, rfl, h1, h2, fun hn => ?_⟩
 have hl : 0 < l.length := by
  rcases Ya l.length with h0 | h0
  ·
   obtain rfl := XF h0
   exact absurd rfl hn
  · exact h0
 obtain ⟨g, rfl, hb, hg⟩ := Fj h hl
 exact ⟨g, 0, rfl, ⟨hb, hg⟩, fun j u hu => by
  have := World.ownsRow.cells h (g := g) rfl j u hu
  rwa [eu] at this⟩
theorem uy {w : World} {base e size n c : Nat} {A : Option Addr} {xs : List Value} (h : w.ownsRow base e size (.slice A n c) n xs) : RdP (fun k => base ≤ k ∧ k < w.heap.size) w A xs := fun hn => by
 rcases h.2 with ⟨hv, hz⟩ | ⟨g, cap, cur, hv, hb, hh, _⟩
 ·
  have := h.1
  rw [hz, Za] at this
  exact absurd (XF this) hn
 ·
  injection hv with hA _ _
  subst hA
  refine ⟨g, 0, rfl, ⟨hb, lt_of_some hh⟩, fun j u hu => ?_⟩
  have := World.ownsRow.cells h (g := g) rfl j u hu
  rwa [eu] at this
theorem qH {w : World} {base e size n c : Nat} {xs : List Value} (h : w.ownsRow base e size (.slice none n c) n xs) : n = 0 ∧ c = 0 := by
 rcases h.2 with ⟨hv, hz⟩ | ⟨g, cap, cur, hv, _⟩
 ·
  injection hv with _ _ hc
  exact ⟨hz, hc⟩
 ·
  injection hv with hA _ _
  cases hA
theorem dU {w : World} {g : Nat} {cs : Array Value} {p : Addr} (h : p.block ≠ g) : (w.setRow g cs).cell? p = w.cell? p := by
 refine World.cell?_of_block ?_
 simp only [World.setRow]
 rw [X4, if_neg (fun e => h e.symm)]
theorem Rk {w : World} {base e size n : Nat} {v : Value} {xs : List Value} (h : w.ownsRow base e size v n xs) {p : Addr} (hp : v.ownBlock ≠ some p.block) (u : Value) : (w.setCell p u).ownsRow base e size v n xs := by
 refine ⟨h.1, ?_⟩
 rcases h.2 with h1 | ⟨g, cap, cur, h1, h2, h3, h4⟩
 · exact .inl h1
 ·
  refine .inr ⟨g, cap, cur, h1, h2, ?_, h4⟩
  rw [Below.heap_setCell w p u g (fun e => hp (by rw [h1, e]; rfl))]
  exact h3
end Go.Proofs.YtelbhdobjdnglaaGreat
