/-
 Merged: lemmas of this claim.
 Conditions: none.
-/
import Derived.Test.YtaoicebcdmpemaaGreatZA10
import Derived.Test.YtaoicebcdmpemaaGreatZA2
import Derived.BigQuiet
import Derived.Deep.QuietTactic
import Derived.StillTailTactics
import Derived.Test.YtaoicebcdmpemaaGreatZA6
import Derived.Laws.BitsAllLaws
import Derived.Test.YtaoicebcdmpemaaGreatZA0
namespace Go.Proofs.YtaoicebcdmpemaaGreat
set_option linter.unusedVariables false
set_option maxRecDepth 20000
set_option maxHeartbeats 4000000
open Go.RowKit Mono Rlp
namespace E
section
variable {N : Nat} {X : Cx N} {S S' : St} {a : Act} {w w' : World} {ops : Array Oper} {o : Oper} {Q : Exit → Act → World → Prop} {l : List Oper} {rs : List (Tmp × R)} {os os' rest : List Obj} {fs : List (Value × D)} {base ok : Nat → Prop} {p q : Obj}
theorem Bq {T : TypeId} (ho : o.op = .makeMap T none) : jW ops S o [] (fun r os' => ∃ g, r = .val (.v (.map (some g))) ∧ os' = [.it g (.map #[] 0)]) := .mk fun base ok a w ha hown => by
 have hr : (execOp a.eval o).run Tryz.prog w = .ok (.value (.map (some w.heap.size))) (w.alloc (.map #[] 0)) := by
  unfold execOp
  have := @run_makeMap Tryz.prog
  simp [ho, this]
 rw [hr]
 obtain ⟨h1, h2⟩ := yX (ok := ok) (w := w) (q := .it w.heap.size (.map #[] 0)) (r := .val (.v (.map (some w.heap.size)))) (ob := .map #[] 0) (v := .map (some w.heap.size)) rfl (fun ok' _ => ⟨.inr (Nat.le_refl _), heap_alloc_new w _⟩) (fun _ => dM rfl) ha.lt
 exact ⟨_, _, ⟨_, rfl, rfl⟩, h1, h2⟩
theorem CO {t T ty : Nat} {pos : String} {af : Array Edge} {gd : Option (Nat × Bool)} (hg : guardOf ops ⟨rs, os, fs⟩ ⟨some t, .makeMap T none, ty, pos, af, gd⟩ = some true) (hN : Nat.blt t N = true) (kk : ∀ g, EL X ops Q l ⟨(t, .val (.v (.map (some g)))) :: rs, .it g (.map #[] 0) :: os, fs⟩) : EL X ops Q (⟨some t, .makeMap T none, ty, pos, af, gd⟩ :: l) ⟨rs, os, fs⟩ :=
 EL.mut (os := []) (rest := os) hg (dR rfl hN) (Bq rfl) fun r os' ⟨g, h1, h2⟩ => by
  subst h1 h2
  exact kk g
theorem lG {g : Nat} {ob ob' : Go.Obj} (hown : Own ok [.it g ob] w) : Turned ok [.it g ob] w [.it g ob'] { w with heap := w.heap.setIfInBounds g ob' } := by
 have hat := hown.at_ (.it g ob) (by simp)
 have hlt : g < w.heap.size := by
  have := hat.2
  exact (Hg.1 this).1
 have hB : ∀ b, gy [.it g ob] b ↔ b = g := fun b => ⟨fun ⟨o, ho, e⟩ => by
  obtain rfl : o = .it g ob := by simpa using ho
  injection e with e
  exact e.symm, fun e => ⟨.it g ob, by simp, by rw [e]; rfl⟩⟩
 have hgb := iE (o' := ob') hat.2
 refine ⟨⟨hgb.os, hgb.tape, hgb.output, hgb.size, fun k hk hn => hgb.block k hk fun e => hn ((hB k).2 (by injection e))⟩, by simp, fun o ho => ?_⟩
 obtain rfl : o = .it g ob' := by simpa using ho
 exact ⟨.inl ⟨.it g ob, by simp, rfl⟩, heap_put hat.2⟩
theorem sK {T K E U B : TypeId} {c : Nat} {x v : Value} {info : TypeInfo} {I : _} {g : Nat} (hT : Tryz.prog.underlying T = some (.map K E)) (hK : Tryz.prog.underlying K = some (.interface I)) (hU : Tryz.prog.info? U = some info) (hc : info.comparable = true) (hu : Tryz.prog.underlying U = some (.pointer B)) (h : w.heap[g]? = some (.map #[] c)) :
  (Instr.mapUpdate T (.map (some g)) (.iface U x) v).run Tryz.prog w = .ok () { w with heap := w.heap.setIfInBounds g (.map #[{ key := .iface U x, val := v, born := c }] (c + 1)) } := by
 have h1 : (Instr.checkKey false 10000 K (.iface U x)).run Tryz.prog w = .ok () w := by
  rw [show (10000 : Nat) = 9998 + 1 + 1 from rfl]
  unfold Instr.checkKey
  simp only [GR, run_underlying hK, GK, run_typeInfo w hU, hc, Bool.not_true, Il, if_false]
  unfold Instr.checkKey
  simp only [GR, run_underlying hu, GK, GY]
 have h2 : (Instr.findKey K (.iface U x) []).run Tryz.prog w = .ok none w := by
  unfold Instr.findKey
  simp only [GR, run_underlying hK, GK, Instr.findNow, GY]
 unfold Instr.mapUpdate
 simp only [GR, run_underlying hT, GK, IB h, h1, h2]
 rw [IZ _ h]
 rfl
theorem yV {T K E U B : TypeId} {I : _} {info : TypeInfo} {x y z : Operand} {dk d : D} {g c : Nat} (ho : o.op = .mapUpdate T x y z) (hx : ev S x = some (.val (.v (.map (some g))))) (hy : ev S y = some (.val (.ifc U dk))) (hz : ev S z = some (.val d)) (hT : Tryz.prog.underlying T = some (.map K E)) (hK : Tryz.prog.underlying K = some (.interface I)) (hU : Tryz.prog.info? U = some info) (hc : info.comparable = true) (hu : Tryz.prog.underlying U = some (.pointer B)) :
  jW ops S o [.it g (.map #[] c)] (fun r os' => r = .any ∧ ∃ es, os' = [.it g (.map es (c + 1))]) := .mk fun base ok a w ha hown => by
 have h1 := dI ha hx (aN (by rw [ho]; simp [Op.operands]))
 obtain ⟨cs, h2, _⟩ := uz (ha.ev hy (aN (by rw [ho]; simp [Op.operands])))
 have hat := hown.at_ (.it g (.map #[] c)) (by simp)
 have h3 := sK (w := w) (x := form dk cs) (v := a.eval z) hT hK hU hc hu hat.2
 have hr : (execOp a.eval o).run Tryz.prog w = .ok .skip { w with heap := w.heap.setIfInBounds g (.map #[{ key := .iface U (form dk cs), val := a.eval z, born := c }] (c + 1)) } := by
  unfold execOp
  simp only [ho, h1, h2, GR, h3, GK, GY]
 rw [hr]
 exact ⟨.any, _, ⟨rfl, _, rfl⟩, lG hown, trivial⟩
theorem wZ {T K E U B : TypeId} {I : _} {x y z : Operand} {dk d : D} {g c : Nat} (ho : o.op = .mapUpdate T x y z) (hx : ev S x = some (.val (.v (.map (some g))))) (hy : ev S y = some (.val (.ifc U dk))) (hz : ev S z = some (.val d)) (hT : Tryz.prog.underlying T = some (.map K E)) (hK : Tryz.prog.underlying K = some (.interface I)) (hU : (Tryz.prog.info? U).map (·.comparable) = some true) (hu : Tryz.prog.underlying U = some (.pointer B)) :
  jW ops S o [.it g (.map #[] c)] (fun r os' => r = .any ∧ ∃ es, os' = [.it g (.map es (c + 1))]) := by
 obtain ⟨info, h1, h2⟩ := Option.map_eq_some_iff.1 hU
 exact yV ho hx hy hz hT hK h1 h2 hu
theorem yY {T K E : TypeId} {x : Operand} {es : Array MapEntry} {g c : Nat} (ho : o.op = .call { callee := .builtin .clear, args := #[x], argTypes := #[T] }) (hx : ev S x = some (.val (.v (.map (some g))))) (hT : Tryz.prog.underlying T = some (.map K E)) :
  jW ops S o [.it g (.map es c)] (fun r os' => r = .tpl [] ∧ os' = [.it g (.map #[] c)]) := .mk fun base ok a w ha hown => by
 have h1 := dI ha hx (aN (by rw [ho]; simp [Op.operands, Call.operands]))
 have hat := hown.at_ (.it g (.map es c)) (by simp)
 have h2 : (Builtin.clear_ #[T] o.type #[.map (some g)]).run Tryz.prog w = .ok (.tuple #[]) { w with heap := w.heap.setIfInBounds g (.map #[] c) } := by
  simp [Builtin.clear_, run_underlying hT, MapKept.run_getObj_map hat.2, MapKept.run_setObj_map _ hat.2]
 have hr : (execOp a.eval o).run Tryz.prog w = .ok (.value (.tuple #[])) { w with heap := w.heap.setIfInBounds g (.map #[] c) } := by
  unfold execOp
  simp only [ho, resolve, invoke, builtin, GR, GY, GK, Iz, G9, H9, h1, h2]
 rw [hr]
 exact ⟨.tpl [], _, ⟨rfl, rfl⟩, lG hown, [], rfl, rfl⟩
end
theorem uM (cap : Array Value) (hc : cap.size = 1) (w : World) : CallsD Tryz.prog 103 cap .returning w fun e u' w' => u' = .returning ∧ e = .returned (.tuple #[]) ∧ w' = w := by
 refine callsD_of_wpS Tryz.func103 rfl fun c₀ cs hu => ?_
 obtain ⟨x, rfl⟩ : ∃ x, cap = #[x] := Array.size_eq_one_iff.1 hc
 apply wpS_seq
 apply wpS_region
 simp [wpOpsS, go_sem, recoverD, hu, Tryz.ntmps103, Exit.thenS]
 apply wpS_seq
 apply wpS_region
 simp [wpOpsS, go_sem, recoverD, hu, Exit.thenS]
 refine wpS_cond (t := false) (by simp [Act.eval, Array.replicate]) ?_
 simp only [Il, if_false]
 refine wpS_of_wp (wp_skip ?_)
 cases c₀
 simp_all [bodyPostS, results, Tryz.results103]
abbrev fnV (F : FuncId) (caps : List Value) : Value := .func (.func F) #[] caps.toArray
theorem pK {F : FuncId} {caps : List Value} {os : List Obj} {Φ : List Obj → Prop} (hF : FnM F (caps.map .v) os (fun r o => r = .tpl [] ∧ Φ o)) (hc : ∀ x ∈ caps, x.oneCell' = true) (hE : Enters F) : FnM 58 [.v (fnV F caps)] os (fun r o => r = .val (.v (.int .i64 0)) ∧ Φ o) := by
 refine FnM.Fp 6 Tryz.func58 rfl Tryz.ntmps58 (by simp) fun X => ?_
 repeat (refine stp ?_; intros)
 rename_i g2
 refine EL.defer (d := { target := .fn (.func 103) #[.pointer (some ⟨g2, 0, none⟩)], args := #[] }) rfl rfl (fun base ok a w ha => ?_) ?_
 ·
  have h1 : a.eval (.tmp 3) = .func (.func 103) #[] #[.pointer (some ⟨g2, 0, none⟩)] := dI ha rfl (aN (by simp [Op.operands, Call.operands]))
  unfold execOp
  simp [resolve, h1, Deferred.ofValue]
 refine EL.nil (EK.zX (DC.seq (DC.region ?_)))
 refine EL.le (Le.perm (List.perm_append_comm (l₁ := [_]))) ?_
 repeat (refine stp ?_; intros)
 refine Aq (os := os) (rest := [_]) (caps := caps) (ds' := []) (cds := caps.map .v) hF (fun base ok L a w _ => zZ hc) rfl rfl rfl (aj.refl _ _) hE rfl rfl ?_
 rintro _ os' ⟨rfl, hΦ⟩
 refine EL.nil (EK.zX (DC.seq (DC.region ?_)))
 refine EL.le (Le.perm (List.perm_append_comm (l₂ := [_]))) ?_
 simp only [G7, G6]
 repeat (refine stp ?_; intros)
 refine EK.zX (DC.ret (EK.Gy (EK.uZ 0 os' rfl rfl rfl rfl (aj.refl _ _) (List.sublist_cons_self _ _) ⟨rfl, hΦ⟩) (fun w => by simp [go_sem]) (uM _ rfl)))
end E
end Go.Proofs.YtaoicebcdmpemaaGreat
namespace Go.Proofs.YtaoicebcdmpemaaGreat
set_option maxHeartbeats 400000
open Go.RowKit Mono
def split (l : List UInt8) : List UInt8 := l.flatMap fun (x : UInt8) => [x >>> 4, x &&& 15]
theorem oN (l : List UInt8) : (split l).length = 2 * l.length := by
 induction l with
 | nil => rfl
 | cons x l ih => unfold split at *; rw [List.flatMap_cons, List.length_append, ih]; simp; omega
theorem sH (l : List UInt8) (k : Nat) (h : k < l.length) : split (l.take (k + 1)) = split (l.take k) ++ [l[k] >>> 4, l[k] &&& 15] := by
 rw [Hy h, split, List.flatMap_append]; rfl
theorem Gv (x : UInt8) : bvs [x >>> 4, x &&& 15] = [.int .u8 ((x.toNat : Int) / 16), .int .u8 ((x.toNat : Int) % 16)] := by
 have h1 : (x >>> 4).toNat = x.toNat / 16 := by rw [UInt8.toNat_shiftRight]; simp [Nat.shiftRight_eq_div_pow]
 have h2 : (x &&& 15).toNat = x.toNat % 16 := by rw [UInt8.toNat_and]; exact IY _ 4
 simp [bvs, bv, h1, h2]
theorem uo (v1 : Value) (l : List UInt8) (w : World) (h1 : IsB w v1 l) (hlen : l.length ≤ 1073741824) :
  Calls Tryz.prog 62 #[v1] w (Ret (fun v w' => OwnB w' w.heap.size v (split l)) w) := by
 obtain ⟨A, c, rfl, hl1, hl2, hA⟩ := h1
 clear hl1 hl2
 have HA := Lib.hid hA
 clear hA
 go_enter Tryz.func62, Tryz.ntmps62
 go_wp2
 go_loopw [3, 8] (fun v i wr => ∃ k : Nat, k ≤ l.length ∧ i = .int .i64 k ∧ OwnB wr w.heap.size v (split (l.take k)) ∧ Below w.heap.size w wr) (fun _ i _ => l.length - (intOf i).toNat)
 case atStart => exact ⟨0, by omega, rfl, OwnB.nil w w.heap.size, Below.refl _ _⟩
 case round =>
  obtain ⟨k, hk1, rfl, hown, hb⟩ := hrel
  obtain ⟨A', c', rfl, hc1, hc2⟩ := dP hown
  have hsl : (split (l.take k)).length ≤ 2 * k := by rw [oN, List.length_take]; omega
  have hbs := hb.size
  have HO := Lib.hid hown
  have HB := Lib.hid hb
  clear hown hb
  by_cases h1 : k < l.length
  ·
   obtain ⟨b1, o1, rfl, hb1, c1⟩ := HA.out (by intro e; have := aO l; rw [e] at this; simp at this; omega)
   have d1 := (HB.out.cell (p := ⟨b1, o1 + k, none⟩) hb1).trans (c1 k _ (pV l k h1))
   clear c1
   unfold bv at d1
   have hlx := vV l[k]
   have HS := Lib.hid (sH l k h1)
   have HN := Lib.hid (Gv l[k])
   generalize l[k].toNat = x at d1 hlx HN
   go_wp2_with (at_builtin; refine dL _ _ 41 eu _ _ _ _ _ _ (wr.heap.size + 1) [.int .u8 (↑x / 16), .int .u8 (↑x % 16)] rfl rfl rfl rfl (HO.out.alloc _) (Rd.new _ _ _) rfl (by simp [Value.oneCell']) (by simp only [maxLen]; omega) (by omega) (by simp; omega) ?_; intro A2 c2 w2 hown2 hg2 _)
   go_roundw
   case rel =>
    refine ⟨k + 1, by omega, by go_num, ?_, ?_⟩
    ·
     unfold OwnB
     rw [HS.out, mM, List.length_append]
     have e := HN.out
     rw [← e] at hown2
     exact hown2
    · exact (HB.out.alloc hbs _).grown hg2 (by simp; omega) fun j hj => fZ HO.out j hj
   case measure => simp [intOf]; omega
  ·
   go_wp2
   refine bodyPost_ret (results_tmp rfl _ _ _) rfl ?_
   refine ⟨_, rfl, HB.out, ?_⟩
   have h := HO.out
   rw [List.take_of_length_le (by omega)] at h
   show OwnB _ _ (.slice A' (split (l.take k)).length c') _
   rw [List.take_of_length_le (by omega)]
   exact h
end Go.Proofs.YtaoicebcdmpemaaGreat
namespace Go.Proofs.YtaoicebcdmpemaaGreat
set_option linter.unusedVariables false
open Go.RowKit Mono Rlp
namespace E
theorem qG {ok : Nat → Prop} {w w' : World} {v : Value} {l : List UInt8} (h : OwnB w' w.heap.size v l) : aW (fun b => (ok b ∨ w.heap.size ≤ b) ∧ b < w'.heap.size) w' (.bs l) v := by
 refine (aT rfl).2 ?_
 rw [Reads]
 exact ⟨_, rfl, (yR h).mono (fun b hb => ⟨.inr hb.1, hb.2⟩) fun _ _ => rfl⟩
theorem l9 (l : List UInt8) (hl : l.length ≤ 1073741824) : Fn 62 [.bs l] (· = .val (.bs (split l))) := ⟨fun ok w xs hok hr => by
 obtain ⟨x, _, rfl, h, hn⟩ := hr
 cases hn
 refine (uo x l w (lU hok h) hl).mono ?_
 rintro e w' ⟨v', rfl, hg, hv⟩
 exact ⟨hg, _, _, rfl, rfl, qG hv⟩⟩
end E
end Go.Proofs.YtaoicebcdmpemaaGreat
namespace Go.Proofs.YtaoicebcdmpemaaGreat.Kec
abbrev L := BitVec 64
abbrev St := Nat → L
def upd (f : St) (k : Nat) (v : L) : St := fun j => if j = k then v else f j
def rotl (x : L) (n : Nat) : L := x <<< n ||| x >>> (64 - n)
theorem DN (x : L) : x >>> 64 = 0 := by
 apply BitVec.eq_of_toNat_eq
 rw [BitVec.toNat_ushiftRight, Jg]
 have := x.isLt
 exact Nat.div_eq_of_lt this
theorem iR (x : L) : rotl x 0 = x := by simp [rotl, DN]
def turn (k : Nat) : Nat := [0, 1, 62, 28, 27, 36, 44, 6, 55, 20, 3, 10, 43, 25, 39, 41, 45, 15, 21, 8, 18, 2, 61, 56, 14].getD k 0
def rc (k : Nat) : L := ([0x0000000000000001, 0x0000000000008082, 0x800000000000808a, 0x8000000080008000, 0x000000000000808b, 0x0000000080000001,
 0x8000000080008081, 0x8000000000008009, 0x000000000000008a, 0x0000000000000088, 0x0000000080008009, 0x000000008000000a,
 0x000000008000808b, 0x800000000000008b, 0x8000000000008089, 0x8000000000008003, 0x8000000000008002, 0x8000000000000080,
 0x000000000000800a, 0x800000008000000a, 0x8000000080008081, 0x8000000000008080, 0x0000000080000001, 0x8000000080008008] : List L).getD k 0
def col (s : St) (x : Nat) : L := s x ^^^ s (x + 5) ^^^ s (x + 10) ^^^ s (x + 15) ^^^ s (x + 20)
def dd (s : St) (x : Nat) : L := col s ((x + 4) % 5) ^^^ rotl (col s ((x + 1) % 5)) 1
def place (k : Nat) : Nat := k / 5 + 5 * ((2 * (k % 5) + 3 * (k / 5)) % 5)
def bb (s : St) : Nat → St
 | 0 => fun _ => 0
 | k + 1 => upd (bb s k) (place k) (rotl (s k ^^^ dd s (k % 5)) (turn k))
def chi (b : St) (k : Nat) : L := b k ^^^ (~~~ b ((k % 5 + 1) % 5 + k / 5 * 5) &&& b ((k % 5 + 2) % 5 + k / 5 * 5))
def ss (b s : St) : Nat → St
 | 0 => s
 | k + 1 => upd (ss b s k) k (chi b k)
def round (s : St) (n : L) : St := upd (ss (bb s 25) s 25) 0 (ss (bb s 25) s 25 0 ^^^ n)
def perm (s : St) : Nat → St
 | 0 => s
 | k + 1 => round (perm s k) (rc k)
def th1 (d : L) (x : Nat) (a : St) : Nat → St
 | 0 => a
 | k + 1 => upd (th1 d x a k) (x + 5 * k) (th1 d x a k (x + 5 * k) ^^^ d)
def th (c a : St) : Nat → St
 | 0 => a
 | x + 1 => th1 (c ((x + 4) % 5) ^^^ rotl (c ((x + 1) % 5)) 1) x (th c a x) 5
structure Walk where
 x : Nat
 y : Nat
 cur : L
 a : St
def mv (a : St) : Nat → Walk
 | 0 => ⟨1, 0, a 1, a⟩
 | t + 1 =>
  let w := mv a t
  let x := w.y
  let y := (2 * w.x + 3 * w.y) % 5
  ⟨x, y, w.a (x + 5 * y), upd w.a (x + 5 * y) (rotl w.cur ((t + 1) * (t + 2) / 2 % 64))⟩
def ch1 (r a : St) (y : Nat) : Nat → St
 | 0 => a
 | x + 1 => upd (ch1 r a y x) (x + y) (r x ^^^ (~~~ r ((x + 1) % 5) &&& r ((x + 2) % 5)))
def ch (a : St) : Nat → St
 | 0 => a
 | y + 1 => ch1 (fun x => ch a y (x + 5 * y)) (ch a y) (5 * y) 5
def lf (l : BitVec 8) : BitVec 8 := if l &&& 128 ≠ 0 then (l <<< 1) ^^^ 0x71 else l <<< 1
def lfn (l : BitVec 8) : Nat → BitVec 8
 | 0 => l
 | j + 1 => lf (lfn l j)
def io (a : St) (l : BitVec 8) : Nat → St
 | 0 => a
 | j + 1 => if lfn l j &&& 1 = 1 then upd (io a l j) 0 (io a l j 0 ^^^ (1 : L) <<< (2 ^ j - 1)) else io a l j
def lq (a : St) (l : BitVec 8) : St := io (ch (mv (th (col a) a 5) 24).a 5) l 7
def lu (a : St) : Nat → St
 | 0 => a
 | k + 1 => lq (lu a k) (lfn 1 (7 * k))
def num (l : BitVec 8) : Nat → L
 | 0 => 0
 | j + 1 => if lfn l j &&& 1 = 1 then num l j ^^^ (1 : L) <<< (2 ^ j - 1) else num l j
theorem Dq (a : St) (l : BitVec 8) : ∀ j, io a l j = upd a 0 (a 0 ^^^ num l j)
 | 0 => by funext k; simp [io, num, upd]; intro h; rw [h]
 | j + 1 => by
  unfold io num
  rw [Dq a l j]
  split
  ·
   funext k
   by_cases hk : k = 0
   · subst hk; simp [upd, BitVec.xor_assoc]
   · simp [upd, hk]
  · rfl
theorem DZ : ∀ k, k < 24 → num (lfn 1 (7 * k)) 7 = rc k := by decide +kernel
theorem FZ (a : St) : ss (bb a 25) a 25 0 = ch (mv (th (col a) a 5) 24).a 5 0 := by simp [ss, bb, chi, upd, place, dd, col, turn, ch, ch1, mv, th, th1, iR]
theorem FY (a : St) : ss (bb a 25) a 25 1 = ch (mv (th (col a) a 5) 24).a 5 1 := by simp [ss, bb, chi, upd, place, dd, col, turn, ch, ch1, mv, th, th1]
theorem FX (a : St) : ss (bb a 25) a 25 2 = ch (mv (th (col a) a 5) 24).a 5 2 := by simp [ss, bb, chi, upd, place, dd, col, turn, ch, ch1, mv, th, th1]
theorem FW (a : St) : ss (bb a 25) a 25 3 = ch (mv (th (col a) a 5) 24).a 5 3 := by simp [ss, bb, chi, upd, place, dd, col, turn, ch, ch1, mv, th, th1, iR]
theorem FV (a : St) : ss (bb a 25) a 25 4 = ch (mv (th (col a) a 5) 24).a 5 4 := by simp [ss, bb, chi, upd, place, dd, col, turn, ch, ch1, mv, th, th1, iR]
theorem FU (a : St) : ss (bb a 25) a 25 5 = ch (mv (th (col a) a 5) 24).a 5 5 := by simp [ss, bb, chi, upd, place, dd, col, turn, ch, ch1, mv, th, th1]
theorem FT (a : St) : ss (bb a 25) a 25 6 = ch (mv (th (col a) a 5) 24).a 5 6 := by simp [ss, bb, chi, upd, place, dd, col, turn, ch, ch1, mv, th, th1]
theorem FQ (a : St) : ss (bb a 25) a 25 7 = ch (mv (th (col a) a 5) 24).a 5 7 := by simp [ss, bb, chi, upd, place, dd, col, turn, ch, ch1, mv, th, th1]
theorem FP (a : St) : ss (bb a 25) a 25 8 = ch (mv (th (col a) a 5) 24).a 5 8 := by simp [ss, bb, chi, upd, place, dd, col, turn, ch, ch1, mv, th, th1]
theorem FN (a : St) : ss (bb a 25) a 25 9 = ch (mv (th (col a) a 5) 24).a 5 9 := by simp [ss, bb, chi, upd, place, dd, col, turn, ch, ch1, mv, th, th1]
theorem Ep (a : St) : ss (bb a 25) a 25 10 = ch (mv (th (col a) a 5) 24).a 5 10 := by simp [ss, bb, chi, upd, place, dd, col, turn, ch, ch1, mv, th, th1]
theorem Eo (a : St) : ss (bb a 25) a 25 11 = ch (mv (th (col a) a 5) 24).a 5 11 := by simp [ss, bb, chi, upd, place, dd, col, turn, ch, ch1, mv, th, th1]
theorem En (a : St) : ss (bb a 25) a 25 12 = ch (mv (th (col a) a 5) 24).a 5 12 := by simp [ss, bb, chi, upd, place, dd, col, turn, ch, ch1, mv, th, th1]
theorem Em (a : St) : ss (bb a 25) a 25 13 = ch (mv (th (col a) a 5) 24).a 5 13 := by simp [ss, bb, chi, upd, place, dd, col, turn, ch, ch1, mv, th, th1]
theorem Ej (a : St) : ss (bb a 25) a 25 14 = ch (mv (th (col a) a 5) 24).a 5 14 := by simp [ss, bb, chi, upd, place, dd, col, turn, ch, ch1, mv, th, th1]
theorem Ei (a : St) : ss (bb a 25) a 25 15 = ch (mv (th (col a) a 5) 24).a 5 15 := by simp [ss, bb, chi, upd, place, dd, col, turn, ch, ch1, mv, th, th1]
theorem Eh (a : St) : ss (bb a 25) a 25 16 = ch (mv (th (col a) a 5) 24).a 5 16 := by simp [ss, bb, chi, upd, place, dd, col, turn, ch, ch1, mv, th, th1]
theorem Ef (a : St) : ss (bb a 25) a 25 17 = ch (mv (th (col a) a 5) 24).a 5 17 := by simp [ss, bb, chi, upd, place, dd, col, turn, ch, ch1, mv, th, th1]
theorem Ee (a : St) : ss (bb a 25) a 25 18 = ch (mv (th (col a) a 5) 24).a 5 18 := by simp [ss, bb, chi, upd, place, dd, col, turn, ch, ch1, mv, th, th1]
theorem Ed (a : St) : ss (bb a 25) a 25 19 = ch (mv (th (col a) a 5) 24).a 5 19 := by simp [ss, bb, chi, upd, place, dd, col, turn, ch, ch1, mv, th, th1]
theorem Ec (a : St) : ss (bb a 25) a 25 20 = ch (mv (th (col a) a 5) 24).a 5 20 := by simp [ss, bb, chi, upd, place, dd, col, turn, ch, ch1, mv, th, th1]
theorem Eb (a : St) : ss (bb a 25) a 25 21 = ch (mv (th (col a) a 5) 24).a 5 21 := by simp [ss, bb, chi, upd, place, dd, col, turn, ch, ch1, mv, th, th1]
theorem Ea (a : St) : ss (bb a 25) a 25 22 = ch (mv (th (col a) a 5) 24).a 5 22 := by simp [ss, bb, chi, upd, place, dd, col, turn, ch, ch1, mv, th, th1]
theorem D9 (a : St) : ss (bb a 25) a 25 23 = ch (mv (th (col a) a 5) 24).a 5 23 := by simp [ss, bb, chi, upd, place, dd, col, turn, ch, ch1, mv, th, th1]
theorem D8 (a : St) : ss (bb a 25) a 25 24 = ch (mv (th (col a) a 5) 24).a 5 24 := by simp [ss, bb, chi, upd, place, dd, col, turn, ch, ch1, mv, th, th1]
theorem lane (a : St) (k : Nat) (hk : k < 25) : ss (bb a 25) a 25 k = ch (mv (th (col a) a 5) 24).a 5 k := by
 match k, hk with
 | 0, _ => exact FZ a
 | 1, _ => exact FY a
 | 2, _ => exact FX a
 | 3, _ => exact FW a
 | 4, _ => exact FV a
 | 5, _ => exact FU a
 | 6, _ => exact FT a
 | 7, _ => exact FQ a
 | 8, _ => exact FP a
 | 9, _ => exact FN a
 | 10, _ => exact Ep a
 | 11, _ => exact Eo a
 | 12, _ => exact En a
 | 13, _ => exact Em a
 | 14, _ => exact Ej a
 | 15, _ => exact Ei a
 | 16, _ => exact Eh a
 | 17, _ => exact Ef a
 | 18, _ => exact Ee a
 | 19, _ => exact Ed a
 | 20, _ => exact Ec a
 | 21, _ => exact Eb a
 | 22, _ => exact Ea a
 | 23, _ => exact D9 a
 | 24, _ => exact D8 a
 | k + 25, h => omega
def Same (a b : St) : Prop := ∀ k, k < 25 → a k = b k
end Go.Proofs.YtaoicebcdmpemaaGreat.Kec
namespace Go.Proofs.YtaoicebcdmpemaaGreat
set_option maxHeartbeats 400000
open Go.RowKit Mono
open Kec
def u (x : L) : Int := (x.toNat : Int)
theorem jv (x : L) : 0 ≤ u x ∧ u x < 18446744073709551616 := by
 have := x.isLt
 unfold u
 omega
theorem gG (x y : L) : bits .xor .u64 (u x) (u y) = u (x ^^^ y) := by
 unfold u
 rw [u64_xor_nat _ _ x.isLt y.isLt, BitVec.toNat_xor]
theorem yw (x y : L) : bits .and .u64 (u x) (u y) = u (x &&& y) := by
 unfold u
 rw [u64_and_nat _ _ x.isLt y.isLt, BitVec.toNat_and]
theorem Fq (x y : L) : bits .or .u64 (u x) (u y) = u (x ||| y) := by
 unfold u
 rw [u64_or_nat _ _ x.isLt y.isLt, BitVec.toNat_or]
theorem uT (x : L) (n : Nat) : IntKind.u64.wrap (u x * 2 ^ n) = u (x <<< n) := by
 unfold u
 rw [IntKind.wrap_u64, BitVec.toNat_shiftLeft, Nat.shiftLeft_eq]
 have h : ((x.toNat : Int) * 2 ^ n) = ((x.toNat * 2 ^ n : Nat) : Int) := by simp
 rw [h]
 exact (Int.natCast_emod _ _).symm
theorem uS (x : L) (n : Nat) : u x / 2 ^ n = u (x >>> n) := by
 unfold u
 rw [BitVec.toNat_ushiftRight, Jg]
 simp
def lv (x : L) : Value := .int .u64 (u x)
theorem rotate (x : L) (k : Nat) (hk : k < 64) (w : World) : Calls Tryz.prog 197 #[.int .u64 (u x), .int .i64 k] w fun e w' => e = .returned (.int .u64 (u (rotl x k))) ∧ w' = w := by
 have ha : bits .and .u64 (k : Int) 63 = k := by
  have := u64_and_nat k 63 (by omega) (by omega)
  rw [show ((63 : Nat) : Int) = 63 from rfl] at this
  rw [this]
  congr 1
  exact (IY k 6).trans (Nat.mod_eq_of_lt hk)
 have hx := jv x
 have hx0 := hx.1
 clear hx
 go_enter Tryz.func197, Tryz.ntmps197
 go_wp2
 refine bodyPost_ret (results_tmp rfl _ _ _) rfl ⟨?_, rfl⟩
 show Ending.returned (.int .u64 (bits .or .u64 (IntKind.u64.wrap (u x * 2 ^ k)) (u x / 2 ^ (64 - k)))) = _
 rw [uT, uS, Fq]
 rfl
theorem rol (x : L) (k : Nat) (hk : k < 64) (w : World) : Calls Tryz.prog 147 #[.int .u64 (u x), .int .u64 k] w fun e w' => e = .returned (.int .u64 (u (rotl x k))) ∧ w' = w := by
 by_cases h0 : k = 0
 ·
  subst h0
  rw [iR]
  go_enter Tryz.func147, Tryz.ntmps147
  go_wp2
  exact bodyPost_ret (results_tmp rfl _ _ _) rfl ⟨rfl, rfl⟩
 ·
  have hk1 : 0 < k := by omega
  clear h0
  go_enter Tryz.func147, Tryz.ntmps147
  go_wp2
  refine bodyPost_ret (results_tmp rfl _ _ _) rfl ⟨?_, rfl⟩
  show Ending.returned (.int .u64 (bits .or .u64 (IntKind.u64.wrap (u x * 2 ^ k)) (u x / 2 ^ (64 - k)))) = _
  rw [uT, uS, Fq]
  rfl
def cellsOf (f : St) (n : Nat) : Array Value := ((List.range n).map fun k => lv (f k)).toArray
def aA (w : World) (g : Nat) (t : TypeId) (n : Nat) (f : St) : Prop := w.heap[g]? = some (.cells (cellsOf f n) t (0, 0))
theorem cellsOf_size (f : St) (n : Nat) : (cellsOf f n).size = n := by simp [cellsOf]
theorem fB (f : St) (n k : Nat) (h : k < n) : (cellsOf f n)[k]? = some (lv (f k)) := by simp [cellsOf, h]
theorem cellsOf_set (f : St) (n k : Nat) (v : L) : (cellsOf f n).setIfInBounds k (lv v) = cellsOf (Kec.upd f k v) n := by
 apply Array.ext_getElem?
 intro i
 rw [Iy]
 by_cases hi : i < n
 ·
  by_cases hk : k = i
  ·
   subst hk
   rw [if_pos rfl, cellsOf_size, if_pos hi, fB _ n k hi]
   congr 2
   exact (if_pos rfl).symm
  ·
   rw [if_neg hk, fB _ n i hi, fB _ n i hi]
   congr 2
   exact (if_neg (Ne.symm hk)).symm
 ·
  have h1 : (cellsOf f n)[i]? = none := Array.getElem?_eq_none (by rw [cellsOf_size]; omega)
  have h2 : (cellsOf (Kec.upd f k v) n)[i]? = none := Array.getElem?_eq_none (by rw [cellsOf_size]; omega)
  rw [h1, h2]
  by_cases hk : k = i
  · subst hk; rw [if_pos rfl, cellsOf_size, if_neg hi]
  · rw [if_neg hk]
section
variable {w w' : World} {g : Nat} {t : TypeId} {n : Nat} {f : St}
theorem aA.lt (h : aA w g t n f) : g < w.heap.size := by
 rcases Hu g w.heap.size with h1 | h1
 · exact h1
 · unfold aA at h; rw [Array.getElem?_eq_none h1] at h; cases h
theorem aA.cell (h : aA w g t n f) (k : Nat) (hk : k < n) : w.cell? ⟨g, k, none⟩ = some (lv (f k)) := by
 rw [cell_of_row w g k _ t (0, 0) h]
 exact fB f n k hk
theorem aA.frozen (h : aA w g t n f) (k : Nat) : w.frozen? ⟨g, k, none⟩ = false := by
 unfold aA at h
 simp [World.frozen?, h]
theorem aA.gr (h : aA w g t n f) (hg : Gr w w') : aA w' g t n f := (hg.block g h.lt).trans h
theorem aA.set (h : aA w g t n f) (k : Nat) (v : L) : aA (w.setCell ⟨g, k, none⟩ (lv v)) g t n (Kec.upd f k v) := by
 unfold aA at h ⊢
 simp [World.setCell, Array.getElem?_modify, h, cellsOf_set]
theorem aA.far (h : aA w g t n f) {p : Addr} (hp : g ≠ p.block) (v : Value) : aA (w.setCell p v) g t n f := (Below.heap_setCell w p v g hp).trans h
theorem aA.alloc (h : aA w g t n f) (o : Obj) : aA (w.alloc o) g t n f := h.gr (aG w o)
theorem aA.grown (h : aA w g t n f) {row : Option Nat} (hg : w.grownBy w' row) (hne : some g ≠ row) : aA w' g t n f := (hg.block g h.lt hne).trans h
end
def Only (g : Nat) (w w' : World) : Prop := w.grownBy w' (some g)
theorem Only.nV {w w' : World} (h : Gr w w') (g : Nat) : Only g w w' := ⟨h.os, h.tape, h.output, h.size, fun k hk _ => h.block k hk⟩
theorem Only.refl (g : Nat) (w : World) : Only g w w := Only.nV (Gr.refl w) g
theorem Only.trans {g : Nat} {a b c : World} (h : Only g a b) (k : Only g b c) : Only g a c :=
 ⟨k.os.trans h.os, k.tape.trans h.tape, k.output.trans h.output, Ia h.size k.size, fun i hi hne => (k.block i (GZ hi h.size) hne).trans (h.block i hi hne)⟩
theorem Only.set {g : Nat} (w : World) (k : Nat) (v : Value) : Only g w (w.setCell ⟨g, k, none⟩ v) :=
 ⟨rfl, rfl, rfl, by simp [World.setCell], fun i _ hne => Below.heap_setCell w _ v i (fun e => hne (by rw [e]))⟩
theorem Only.gr {g : Nat} {a b c : World} (hab : Gr a b) (h : Only g b c) (hg : a.heap.size ≤ g) : Gr a c :=
 ⟨h.os.trans hab.os, h.tape.trans hab.tape, h.output.trans hab.output, Ia hab.size h.size, fun i hi => (h.block i (GZ hi hab.size) (fun e => by injection e with e; omega)).trans (hab.block i hi)⟩
end Go.Proofs.YtaoicebcdmpemaaGreat
namespace Go.Proofs.YtaoicebcdmpemaaGreat
set_option maxRecDepth 20000
set_option maxHeartbeats 1000000
open Go.RowKit Mono
open Kec (L St rotl)
def takeB (f : St) (k : Nat) (b : Nat) : St := Kec.upd f (k / 8) (f (k / 8) ^^^ (BitVec.ofNat 64 b) <<< (8 * (k % 8)))
theorem yu (n : Nat) (h : n < 256) : u (BitVec.ofNat 64 n) = (n : Int) := by
 unfold u
 rw [BitVec.toNat_ofNat]
 omega
def Cm (R : World → Prop) (e : Ending) (w' : World) : Prop := e = .returned (.tuple #[]) ∧ R w'
theorem lT (g : Nat) (t : TypeId) (f : St) (k n : Nat) (hk : k < 136) (hn : n < 256) (w : World) (hl : aA w g t 25 f) :
  Calls Tryz.prog 142 #[.pointer (some ⟨g, 0, none⟩), .int .i64 k, .int .u8 n] w (Cm fun w' => aA w' g t 25 (takeB f k n) ∧ Only g w w') := by
 have hg := hl.lt
 have c1 := au (w := w) (p := ⟨g, k / 8, none⟩) hg (hl.cell (k / 8) (by omega))
 unfold lv at c1
 have hu := jv (f (k / 8))
 have hu0 := hu.1
 have HL := Lib.hid hl
 clear hl hu
 go_enter Tryz.func142, Tryz.ntmps142
 go_wp2
 refine aP 15 (by kernel_rfl) (by kernel_rfl) (by kernel_rfl) ?_
 simp only [GN, GX, GL, GV]
 refine aQ 15 (by kernel_rfl) ?_
 simp only [GN, GX, GL, GV]
 repeat (go_big_quiet_step (fail))
 refine wpQuiet_nil ?_
 refine bU (by kernel_rfl) ?_
 intro W hW
 replace hW := hW.gr
 unfold iZ
 have HW := Lib.hid (HL.out.gr hW)
 have e1 := HW.out.cell (k / 8) (by omega)
 have e2 := HW.out.frozen (k / 8)
 unfold lv at e1
 go_wp2
 refine bodyPost_ret (results_none rfl _ _ _) rfl ⟨rfl, ?_⟩
 have hv : Value.int .u64 (bits .xor .u64 (u (f (k / 8))) (IntKind.u64.wrap ((n : Int) * 2 ^ (8 * (k % 8))))) = lv (f (k / 8) ^^^ (BitVec.ofNat 64 n) <<< (8 * (k % 8))) := by
  rw [← yu n hn, uT, gG]
  rfl
 rw [hv]
 exact ⟨HW.out.set _ _, (Only.nV hW g).trans (Only.set _ _ _)⟩
def dw : Array Value := ((List.range 25).map fun k => Value.int .i64 (Kec.turn k)).toArray
def Turns (w : World) (g : Nat) (t : TypeId) : Prop := w.heap[g]? = some (.cells dw t (0, 0))
theorem Turns.cell {w : World} {g : Nat} {t : TypeId} (h : Turns w g t) (k : Nat) (hk : k < 25) : w.cell? ⟨g, k, none⟩ = some (.int .i64 (Kec.turn k)) := by
 rw [cell_of_row w g k _ t (0, 0) h]
 simp [dw, hk]
theorem Turns.lt {w : World} {g : Nat} {t : TypeId} (h : Turns w g t) : g < w.heap.size := by
 rcases Hu g w.heap.size with h1 | h1
 · exact h1
 · unfold Turns at h; rw [Array.getElem?_eq_none h1] at h; cases h
theorem Turns.gr {w w' : World} {g : Nat} {t : TypeId} (h : Turns w g t) (hg : Gr w w') : Turns w' g t := (hg.block g h.lt).trans h
theorem A8 : ∀ k, k < 25 → Kec.turn k < 64 := by decide
theorem yN : ∀ k, k < 25 → Kec.place k < 25 := by decide
def aV (f : St) (n : Nat) : St := fun j => if j < n then f j else 0
theorem eY (f : St) (n : Nat) : Kec.upd (aV f n) n (f n) = aV f (n + 1) := by
 funext j
 unfold Kec.upd aV
 by_cases h : j = n
 · subst h; rw [if_pos rfl, if_pos (by omega)]
 ·
  rw [if_neg h]
  by_cases h2 : j < n
  · rw [if_pos h2, if_pos (by omega)]
  · rw [if_neg h2, if_neg (by omega)]
theorem eX (f : St) : aV f 0 = fun _ => 0 := by funext j; simp [aV]
theorem dO (w : World) (t : TypeId) (n : Nat) (c : Array Value) (h : c = cellsOf (fun _ => 0) n) : aA (w.alloc (.cells c t)) w.heap.size t n (fun _ => 0) := by
 subst h
 unfold aA World.alloc
 simp
theorem Dl (x : L) : bits .xor .u64 (if IntKind.u64.signed = true then -1 else IntKind.u64.max) (u x) = u (~~~x) := by
 have h : (if IntKind.u64.signed = true then -1 else IntKind.u64.max) = u (BitVec.allOnes 64) := rfl
 rw [h, gG, BitVec.allOnes_xor]
theorem jU (w : World) (o : Obj) : (w.alloc o).heap.size = w.heap.size + 1 := by simp
theorem Dn (s : St) (k : Nat) : bits .xor .u64 (bits .xor .u64 (bits .xor .u64 (bits .xor .u64 (u (s k)) (u (s (k + 5)))) (u (s (k + 10)))) (u (s (k + 15)))) (u (s (k + 20))) = u (Kec.col s k) := by
 simp only [gG]
 rfl
theorem xH (g gt : Nat) (t tt : TypeId) (s : St) (n : L) (w : World) (hl : aA w g t 25 s) (ht : Turns w gt tt) :
  Calls Tryz.prog 171 #[.pointer (some ⟨g, 0, none⟩), .pointer (some ⟨gt, 0, none⟩), .int .u64 (u n)] w (Cm fun w' => aA w' g t 25 (Kec.round s n) ∧ Only g w w') := by
 have hg := hl.lt
 have hgt := ht.lt
 have HL := Lib.hid hl
 have HT := Lib.hid ht
 clear hl ht
 go_enter Tryz.func171, Tryz.ntmps171
 go_wp2
 go_loopw [17] (fun i wr => ∃ k : Nat, k ≤ 5 ∧ i = .int .i64 k ∧ aA wr w.heap.size 218 5 (aV (Kec.col s) k) ∧ aA wr (w.heap.size + 1) 218 5 (fun _ => 0) ∧ Gr w wr) (fun i _ => 5 - (intOf i).toNat)
 case atStart =>
  refine ⟨0, by omega, rfl, ?_, ?_, ?_⟩
  ·
   rw [eX]
   exact (dO w 218 5 _ rfl).alloc _
  ·
   have := dO (w.alloc (.cells #[.int .u64 0, .int .u64 0, .int .u64 0, .int .u64 0, .int .u64 0] 218)) 218 5 _ rfl
   rw [jU] at this
   exact this
  · exact (aG w _).trans (aG _ _)
 case round =>
  obtain ⟨k, hk, rfl, hc, hd, hb⟩ := hrel
  have hbs := hb.size
  have HC := Lib.hid hc
  have HD := Lib.hid hd
  have HB := Lib.hid hb
  have hcl := hc.lt
  have hdl := hd.lt
  clear hc hd hb
  by_cases h1 : k < 5
  ·
   have c0 := au (w := wr) (p := ⟨g, k, none⟩) (by dsimp only; omega) ((HL.out.gr HB.out).cell k (by omega))
   have c1 := au (w := wr) (p := ⟨g, k + 5, none⟩) (by dsimp only; omega) ((HL.out.gr HB.out).cell (k + 5) (by omega))
   have c2 := au (w := wr) (p := ⟨g, k + 10, none⟩) (by dsimp only; omega) ((HL.out.gr HB.out).cell (k + 10) (by omega))
   have c3 := au (w := wr) (p := ⟨g, k + 15, none⟩) (by dsimp only; omega) ((HL.out.gr HB.out).cell (k + 15) (by omega))
   have c4 := au (w := wr) (p := ⟨g, k + 20, none⟩) (by dsimp only; omega) ((HL.out.gr HB.out).cell (k + 20) (by omega))
   unfold lv at c0 c1 c2 c3 c4
   go_wp2
   refine aP 35 (by kernel_rfl) (by kernel_rfl) (by kernel_rfl) ?_
   simp only [GN, GX, GL, GV]
   refine aQ 35 (by kernel_rfl) ?_
   simp only [GN, GX, GL, GV]
   repeat (go_big_quiet_step (fail))
   refine wpQuiet_nil ?_
   refine bU (by kernel_rfl) ?_
   intro W hW
   replace hW := hW.gr
   unfold iZ
   rename_i wq hW
   have HQ := Lib.hid (HC.out.gr hW)
   have e2 := HQ.out.frozen k
   have e1 := HQ.out.cell k (by omega)
   unfold lv at e1
   go_wp2
   go_roundw
   case rel =>
    rw [Dn]
    refine ⟨k + 1, by omega, by go_num, ?_, ?_, ?_⟩
    ·
     rw [← eY]
     exact HQ.out.set k (Kec.col s k)
    · exact ((HD.out.gr hW)).far (by simp) _
    · exact (Only.set (g := w.heap.size) _ k _).gr (HB.out.trans hW) (Nat.le_refl _)
   case measure => simp [intOf]; omega
  ·
   have h5 : k = 5 := by omega
   subst h5
   go_wp2_with fail
   obtain ⟨wo, rfl⟩ : ∃ wo : World, wo = wr := ⟨_, rfl⟩
   go_loopw [56] (fun i wr => ∃ k : Nat, k ≤ 5 ∧ i = .int .i64 k ∧ aA wr w.heap.size 218 5 (aV (Kec.col s) 5) ∧ aA wr (w.heap.size + 1) 218 5 (aV (Kec.dd s) k) ∧ Gr w wr) (fun i _ => 5 - (intOf i).toNat)
   case atStart => exact ⟨0, by omega, rfl, HC.out, by rw [eX]; exact HD.out, HB.out⟩
   case round =>
    clear HB HC HD
    obtain ⟨k, hk, rfl, hc, hd, hb⟩ := hrel
    have hbs := hb.size
    have HC := Lib.hid hc
    have HD := Lib.hid hd
    have HB := Lib.hid hb
    have hcl := hc.lt
    have hdl := hd.lt
    clear hc hd hb
    by_cases h1 : k < 5
    ·
     have c0 := au (w := wr) (p := ⟨w.heap.size, (k + 4) % 5, none⟩) (by dsimp only; omega) (HC.out.cell ((k + 4) % 5) (by omega))
     have c1 := au (w := wr) (p := ⟨w.heap.size, (k + 1) % 5, none⟩) (by dsimp only; omega) (HC.out.cell ((k + 1) % 5) (by omega))
     unfold lv at c0 c1
     go_wp2
     refine aP 14 (by kernel_rfl) (by kernel_rfl) (by kernel_rfl) ?_
     simp only [GN, GX, GL, GV]
     refine aQ 11 (by kernel_rfl) ?_
     simp only [GN, GX, GL, GV]
     repeat (go_big_quiet_step (fail))
     refine wpQuiet_nil ?_
     refine kN (.int .u64 (u (rotl (aV (Kec.col s) 5 ((k + 1) % 5)) 1))) rfl (by kernel_rfl) (by kernel_rfl) (fun xw => ?_) ?_
     ·
      refine dW (by simp [go_sem]) ((rotate (aV (Kec.col s) 5 ((k + 1) % 5)) 1 (by omega) _).mono ?_)
      rintro e w' ⟨rfl, rfl⟩
      exact ⟨_, rfl, Gr.refl _, rfl⟩
     simp only [Act.put, IK, IG, II]
     refine aQ 2 (by kernel_rfl) ?_
     simp only [GN, GX, GL, GV]
     repeat (go_big_quiet_step (fail))
     refine wpQuiet_nil ?_
     refine bU (by kernel_rfl) ?_
     intro W hW
     replace hW := hW.gr
     unfold iZ
     rename_i wq hW
     have HQ := Lib.hid (HD.out.gr hW)
     have e2 := HQ.out.frozen k
     have e1 := HQ.out.cell k (by omega)
     unfold lv at e1
     go_wp2
     go_roundw
     case rel =>
      have hf : u (aV (Kec.col s) 5 ((k + 4) % 5)) = u (Kec.col s ((k + 4) % 5)) := by unfold aV; rw [if_pos (by omega)]
      have hf1 : aV (Kec.col s) 5 ((k + 1) % 5) = Kec.col s ((k + 1) % 5) := by unfold aV; rw [if_pos (by omega)]
      rw [hf, hf1, gG]
      refine ⟨k + 1, by omega, by go_num, ?_, ?_, ?_⟩
      · exact (HC.out.gr hW).far (by simp) _
      ·
       rw [← eY]
       exact HQ.out.set k (Kec.dd s k)
      · exact (Only.set (g := w.heap.size + 1) _ k _).gr (HB.out.trans hW) (by omega)
     case measure => simp [intOf]; omega
    ·
     have h5 : k = 5 := by omega
     subst h5
     go_wp2_with fail
     obtain ⟨wo, rfl⟩ : ∃ wo : World, wo = wr := ⟨_, rfl⟩
     go_loopw [74] (fun i wr => ∃ k : Nat, k ≤ 25 ∧ i = .int .i64 k ∧ aA wr (w.heap.size + 1) 218 5 (aV (Kec.dd s) 5) ∧ aA wr wo.heap.size 215 25 (Kec.bb s k) ∧ Gr w wr) (fun i _ => 25 - (intOf i).toNat)
     case atStart => exact ⟨0, by omega, rfl, HD.out.alloc _, dO wo 215 25 _ rfl, HB.out.trans (aG _ _)⟩
     case round =>
      clear HB HC HD
      obtain ⟨k, hk, rfl, hd, he, hb⟩ := hrel
      have hbs2 := hb.size
      have HE := Lib.hid he
      have HD := Lib.hid hd
      have HB := Lib.hid hb
      have hel := he.lt
      clear he hd hb
      by_cases h1 : k < 25
      ·
       have c0 := au (w := wr) (p := ⟨g, k, none⟩) (by dsimp only; omega) ((HL.out.gr HB.out).cell k (by omega))
       have c1 := au (w := wr) (p := ⟨w.heap.size + 1, k % 5, none⟩) (by dsimp only; omega) (HD.out.cell (k % 5) (by omega))
       have c2 := au (w := wr) (p := ⟨gt, k, none⟩) (by dsimp only; omega) ((HT.out.gr HB.out).cell k (by omega))
       unfold lv at c0 c1
       go_wp2
       refine aP 25 (by kernel_rfl) (by kernel_rfl) (by kernel_rfl) ?_
       simp only [GN, GX, GL, GV]
       refine aQ 23 (by kernel_rfl) ?_
       simp only [GN, GX, GL, GV]
       repeat (go_big_quiet_step (fail))
       refine wpQuiet_nil ?_
       refine kN (.int .u64 (u (rotl (s k ^^^ aV (Kec.dd s) 5 (k % 5)) (Kec.turn k)))) rfl (by kernel_rfl) (by kernel_rfl) (fun xw => ?_) ?_
       ·
        refine dW (by simp [go_sem, gG]) ((rotate (s k ^^^ aV (Kec.dd s) 5 (k % 5)) (Kec.turn k) (A8 k h1) _).mono ?_)
        rintro e w' ⟨rfl, rfl⟩
        exact ⟨_, rfl, Gr.refl _, rfl⟩
       simp only [Act.put, IK, IG, II]
       refine aQ 1 (by kernel_rfl) ?_
       simp only [GN, GX, GL, GV]
       repeat (go_big_quiet_step (fail))
       refine wpQuiet_nil ?_
       refine bU (by kernel_rfl) ?_
       intro W hW
       replace hW := hW.gr
       unfold iZ
       rename_i wq hW
       have HQ := Lib.hid (HE.out.gr hW)
       have e2 := HQ.out.frozen (Kec.place k)
       have e1 := HQ.out.cell (Kec.place k) (yN k h1)
       unfold lv at e1
       unfold Kec.place at e1 e2
       go_wp2
       go_roundw
       case rel =>
        have hv : u (rotl (s k ^^^ aV (Kec.dd s) 5 (k % 5)) (Kec.turn k)) = u (rotl (s k ^^^ Kec.dd s (k % 5)) (Kec.turn k)) := by
         unfold aV
         rw [if_pos (by omega)]
        rw [hv]
        refine ⟨k + 1, by omega, by go_num, ?_, ?_, ?_⟩
        · exact (HD.out.gr hW).far (by dsimp only; omega) _
        · exact HQ.out.set (Kec.place k) _
        · exact (Only.set (g := wo.heap.size) _ (Kec.place k) _).gr (HB.out.trans hW) (by omega)
       case measure => simp [intOf]; omega
      ·
       have h5 : k = 25 := by omega
       subst h5
       go_wp2_with fail
       obtain ⟨wo2, rfl⟩ : ∃ wo : World, wo = wr := ⟨_, rfl⟩
       go_loopw [107] (fun i wr => ∃ k : Nat, k ≤ 25 ∧ i = .int .i64 k ∧ aA wr wo.heap.size 215 25 (Kec.bb s 25) ∧ aA wr g t 25 (Kec.ss (Kec.bb s 25) s k) ∧ Only g w wr) (fun i _ => 25 - (intOf i).toNat)
       case atStart => exact ⟨0, by omega, rfl, HE.out, HL.out.gr HB.out, Only.nV HB.out g⟩
       case round =>
        clear HB HE HD
        obtain ⟨k, hk, rfl, he, hl, ho⟩ := hrel
        have hbs3 := ho.size
        have HE := Lib.hid he
        have HM := Lib.hid hl
        have HO := Lib.hid ho
        have hel := he.lt
        clear he hl ho
        by_cases h1 : k < 25
        ·
         have c0 := au (w := wr) (p := ⟨wo.heap.size, k, none⟩) (by dsimp only; omega) (HE.out.cell k (by omega))
         have c1 := au (w := wr) (p := ⟨wo.heap.size, (k + 1) % 5 + k / 5 * 5, none⟩) (by dsimp only; omega) (HE.out.cell ((k + 1) % 5 + k / 5 * 5) (by omega))
         have c2 := au (w := wr) (p := ⟨wo.heap.size, (k + 2) % 5 + k / 5 * 5, none⟩) (by dsimp only; omega) (HE.out.cell ((k + 2) % 5 + k / 5 * 5) (by omega))
         unfold lv at c0 c1 c2
         go_wp2
         refine aP 24 (by kernel_rfl) (by kernel_rfl) (by kernel_rfl) ?_
         simp only [GN, GX, GL, GV]
         refine aQ 24 (by kernel_rfl) ?_
         simp only [GN, GX, GL, GV]
         repeat (go_big_quiet_step (fail))
         refine wpQuiet_nil ?_
         refine bU (by kernel_rfl) ?_
         intro W hW
         replace hW := hW.gr
         unfold iZ
         rename_i wq hW
         have HQ := Lib.hid (HM.out.gr hW)
         have e2 := HQ.out.frozen k
         have e1 := HQ.out.cell k (by omega)
         unfold lv at e1
         go_wp2
         go_roundw
         case rel =>
          have hv : u (Kec.bb s 25 k ^^^ (~~~ Kec.bb s 25 ((k + 1) % 5 + k / 5 * 5) &&& Kec.bb s 25 ((k + 2) % 5 + k / 5 * 5))) = u (Kec.chi (Kec.bb s 25) k) := by
           unfold Kec.chi
           rw [show (k % 5 + 1) % 5 = (k + 1) % 5 by omega, show (k % 5 + 2) % 5 = (k + 2) % 5 by omega]
          rw [Dl, yw, gG, hv]
          refine ⟨k + 1, by omega, by go_num, ?_, ?_, ?_⟩
          · exact (HE.out.gr hW).far (by dsimp only; omega) _
          · exact HQ.out.set k _
          · exact (HO.out.trans (Only.nV hW g)).trans (Only.set _ _ _)
         case measure => simp [intOf]; omega
        ·
         have h5 : k = 25 := by omega
         subst h5
         have c0 := au (w := wr) (p := ⟨g, 0, none⟩) (by dsimp only; omega) (HM.out.cell 0 (by omega))
         unfold lv at c0
         go_wp2
         refine aP 8 (by kernel_rfl) (by kernel_rfl) (by kernel_rfl) ?_
         simp only [GN, GX, GL, GV]
         refine aQ 8 (by kernel_rfl) ?_
         simp only [GN, GX, GL, GV]
         repeat (go_big_quiet_step (fail))
         refine wpQuiet_nil ?_
         refine bU (by kernel_rfl) ?_
         intro W hW
         replace hW := hW.gr
         unfold iZ
         rename_i wq hW
         have HQ := Lib.hid (HM.out.gr hW)
         have e2 := HQ.out.frozen 0
         have e1 := HQ.out.cell 0 (by omega)
         unfold lv at e1
         go_wp2
         refine bodyPost_ret (results_none rfl _ _ _) rfl ⟨rfl, ?_⟩
         rw [gG]
         exact ⟨HQ.out.set 0 _, (HO.out.trans (Only.nV hW g)).trans (Only.set _ _ _)⟩
end Go.Proofs.YtaoicebcdmpemaaGreat
