/-
 Merged: lemmas of this claim.
 Conditions: none.
-/
import Derived.Test.YtkhjanjlcdhdcaaGreatZQ11
import Derived.Test.YtkhjanjlcdhdcaaGreatZQ19
import Derived.Test.YtkhjanjlcdhdcaaGreatZQ18
import Derived.Test.YtkhjanjlcdhdcaaGreatZQ0
namespace Go.Proofs.YtkhjanjlcdhdcaaGreat
set_option linter.unusedVariables false
set_option maxRecDepth 20000
set_option maxHeartbeats 8000000
open Go.RowKit Mono Rlp Wd
namespace E
theorem FnM.frz {f : FuncId} {ds : List D} {os : List Obj} {Φ : R → List Obj → Prop} (e z : Nat) (h : FnM f ds os (fun r os' => ∃ v ds' rest, r = .val (.v v) ∧ os' = .row v e z ds' :: rest ∧ Φ (.val (.sl z ds')) rest)) : FnM f ds os Φ := ⟨fun ok w xs h1 h2 h3 => (h.go ok w xs h1 h2 h3).mono fun en w' ⟨u, r, os', e1, ⟨v, ds', rest, e2, e3, hΦ⟩, ht, hv⟩ => by
 subst e2 e3
 obtain rfl := (ay.1 hv).2
 have hk : ∀ b, okM ok os w (.row u e z ds' :: rest) w' b → okM ok os w rest w' b := fun b hb => ⟨hb.1, hb.2.1, fun o ho => hb.2.2 o (Ld _ ho)⟩
 obtain ⟨rows, ⟨g1, hmine⟩, g2⟩ := ht.at_ (.row u e z ds') KQ
 have hap := LY.1 ht.apart
 refine ⟨u, .val (.sl z ds'), rest, e1, hΦ, ⟨ht.gr, hap.2, fun o ho => (ht.at_ o (Ld _ ho)).move hk (fun _ _ => rfl) fun _ _ => rfl⟩, ?_⟩
 obtain ⟨A, c, rfl, hc1, hc2⟩ := fQ g1
 refine (bH rfl).2 ?_
 rw [Reads]
 refine ⟨A, c, rows, rfl, hc1, hc2, fun e => by subst e; exact wR g1, fun hn => ?_, ah.mono hk (fun _ _ => rfl) z ds' rows g2⟩
 obtain ⟨b, o, rfl, hb, hc⟩ := uM g1 hn
 exact ⟨b, o, rfl, ⟨(hmine b rfl).elim (fun h => .inr (.inl h)) (fun h => .inr (.inr h)), hb.2, fun p hp e => hap.1 p hp b rfl e⟩, hc⟩⟩
def AcL.empty (x : AcL) : Bool := decide (x.n = 0) && (x.w == zero32) && x.cd.isEmpty && x.sl.isEmpty
theorem AcL.Is.lC {x : AcL} {y : Ac} (h : x.Is y) : x.empty = true ↔ y = Ac.zero := by
 unfold AcL.empty
 simp only [MB, decide_eq_true_eq, beq_iff_eq, List.isEmpty_iff]
 constructor
 ·
  rintro ⟨⟨⟨h1, h2⟩, h3⟩, h4⟩
  have hs : y.sl = fun _ => zero32 := by
   funext k
   refine L9 fun hn => ?_
   obtain ⟨p, hp, _⟩ := h.all k hn
   rw [h4] at hp
   simp at hp
  have e1 := h.n
  have e2 := h.w
  have e3 := h.cd
  cases y
  unfold Ac.zero
  dsimp only at *
  subst hs
  rw [← e1, ← e2, ← e3, h1, h2, h3]
 ·
  rintro rfl
  refine ⟨⟨⟨h.n, h.w⟩, h.cd⟩, List.eq_nil_iff_forall_not_mem.2 fun p hp => ?_⟩
  obtain ⟨h1, h2⟩ := h.val p hp
  exact h2 h1
theorem BI (x : AcL) : Fn 46 [ak x] (· = .val (.v (.bool x.empty))) := by
 obtain ⟨xa, n, w, cd, ss⟩ := x
 have hz := (dA w zero32).1
 unfold AcL.empty ak
 dsimp only
 refine Fn.walk 24 Tryz.func46 rfl Tryz.ntmps46 (by simp) fun X => ?_
 by_cases h1 : n = 0
 ·
  by_cases h2 : (w == zero32) = true
  ·
   rw [h2] at hz
   by_cases h3 : cd = []
   ·
    by_cases h4 : ss = []
    ·
     subst h3
     subst h4
     rw [h2]
     subst h1
     repeat
      (first
       | (refine bM (hrun := hz) (kk := ?_)) | (refine stp ?_; intros))
     exact EK.iU rfl rfl rfl
    ·
     subst h3
     have h5 : ss.isEmpty = false := by cases ss with | nil => exact absurd rfl h4 | cons _ _ => rfl
     have h6 : (ss.map aG).length ≠ 0 := by cases ss with | nil => exact absurd rfl h4 | cons _ _ => simp
     rw [h2, h5]
     subst h1
     repeat
      (first
       | (refine bM (hrun := hz) (kk := ?_)) | (refine stp ?_; intros))
     exact EK.iU rfl rfl rfl
   ·
    have h5 : cd.isEmpty = false := by cases cd with | nil => exact absurd rfl h3 | cons _ _ => rfl
    rw [h2, h5]
    subst h1
    repeat
     (first
      | (refine bM (hrun := hz) (kk := ?_)) | (refine stp ?_; intros))
    exact EK.iU rfl rfl rfl
  ·
   have h2 : (w == zero32) = false := by simpa using h2
   rw [h2] at hz ⊢
   subst h1
   repeat
    (first
     | (refine bM (hrun := hz) (kk := ?_)) | (refine stp ?_; intros))
   exact EK.iU rfl rfl rfl
 ·
  have h5 : decide (n = 0) = false := by simp [h1]
  rw [h5]
  repeat (refine stp ?_; intros)
  exact EK.iU rfl rfl rfl
theorem zq (l : List AcL) (hll : l.length ≤ 1000000) (hB : ∀ x ∈ l, x.sl.length ≤ 1000000 ∧ x.cd.length ≤ 140737488355328) : FnM 33 [.sl 55 (l.map ak)] [] (fun r os' => ∃ v, r = .val (.v v) ∧ os' = [.row v 51 55 (l.map ak)]) := by
 have hml : (l.map ak).length = l.length := KR _
 refine FnM.walk 35 Tryz.func33 rfl Tryz.ntmps33 (by simp) fun X => ?_
 repeat (refine stp ?_; intros)
 refine EC.le (Le.row 51 55) ?_
 refine EC.loop (ι := {x : Nat × Value // x.1 ≤ l.length})
  (fun x => ⟨[(4, .val (.v (.int .i64 (x.1.1 : Int)))), (3, .val (.v x.1.2)), (0, .val (.sl 55 (l.map ak)))], [.row x.1.2 51 55 ((l.take x.1.1).map ak)], []⟩)
  (fun x => l.length - x.1.1) ⟨(0, bF), Lr _⟩ ?_ ?_
 · exact Le.kp
 rintro ⟨⟨i, v⟩, hil⟩
 dsimp only at hil ⊢
 by_cases hlt : i < l.length
 ·
  have hd : (l.map ak)[i]? = some (ak l[i]) := by rw [List.getElem?_map, KJ hlt]; rfl
  have hBi := hB l[i] (LW hlt)
  have htk : (l.take (i + 1)).map ak = (l.take i).map ak ++ [ak l[i]] := by rw [LU hlt, MH]; rfl
  have hlen : ((l.take i).map ak).length = i := by rw [KR, LV]; omega
  generalize l[i] = x at hd hBi htk
  obtain ⟨xa, xn, xw, xc, xs⟩ := x
  unfold ak at hd
  dsimp only at hd hBi
  have hmx : (xs.map aG).length = xs.length := KR _
  have hv := hBi.2
  repeat
   (first
    | (apply vN hv; iterate 3 rfl) | (refine stp ?_; intros))
  refine EL.le (Le.row 63 64) ?_
  repeat (refine stp ?_; intros)
  dsimp only
  refine EK.le (Le.freeze (pre := []) rfl) ?_
  simp only [KE]
  rename_i sv v'
  refine EK.le (Le.pick [1, 0] [_, _] rfl (by decide) rfl) ?_
  refine EK.le (Le.Dj (ds' := (l.take i).map ak ++ [.tup [.arr 20 xa, .v (.int .i64 xn), .arr 32 xw, .bs xc, .sl 64 (xs.map aG)]]) (RL.append (aj.refl _ _) (RL.cons (Rf.tup (RL.cons Rf.same (RL.cons Rf.same (RL.cons Rf.same (RL.cons Rf.same (RL.cons (Rf.fact KQ rfl) RL.nil)))))) RL.nil))) ?_
  refine EK.again ⟨(i + 1, v'), hlt⟩ (by dsimp only; omega) ?_
  dsimp only
  rw [htk]
  unfold ak
  dsimp only
  simp only [LM]
  exact Le.kp
 ·
  have hiE : i = l.length := by omega
  subst hiE
  rw [Nh]
  repeat (refine stp ?_; intros)
  exact EK.aI [.row v 51 55 (l.map ak)] rfl rfl (by (repeat first | exact KO _ | apply List.Sublist.cons_cons | apply List.Sublist.cons)) ⟨v, rfl, rfl⟩
theorem Ew {A : As} {N : Nat} {l : List AcL} (h : RL A N l) : Canon A (l.filter fun x => !x.empty) := by
 refine ⟨h.ord.filter _, fun x hx => ?_, fun a ha => ?_⟩
 ·
  obtain ⟨h1, h2⟩ := List.mem_filter.1 hx
  refine ⟨h.mem x h1, fun e => ?_⟩
  rw [((h.mem x h1).lC).2 e] at h2
  simp at h2
 ·
  have hm : a ∈ l.map AcL.a := L9 fun hn => ha (h.out a hn)
  obtain ⟨x, hx, rfl⟩ := LD.1 hm
  refine ⟨x, List.mem_filter.2 ⟨hx, ?_⟩, rfl⟩
  cases he : x.empty with
  | false => rfl
  | true => exact absurd ((h.mem x hx).lC.1 he) ha
theorem o9 {g N : Nat} {A : As} {os : List Obj} (h : RSt g A N os) (hN : N ≤ 1000000) : FnM 15 [.v (ptr g)] os (fun r os' => ∃ L v, Canon A L ∧ L.length ≤ N ∧ r = .val (.v v) ∧ os' = .row v 51 55 (L.map ak) :: os) := by
 obtain ⟨L, k, n, l, rfl, hR, hlN⟩ := h
 have hC := Ew hR
 have hCl : (l.filter fun x => !x.empty).length ≤ N := LG (List.length_filter_le _ _) hlN
 have hcp := zq (l.filter fun x => !x.empty) (by omega) fun x hx => by have := hR.bd x (List.mem_filter.1 hx).1; exact ⟨LG this.1 hN, this.2⟩
 have hml : (l.map ak).length = l.length := KR _
 refine FnM.walk 35 Tryz.func15 rfl Tryz.ntmps15 (by simp) fun X => ?_
 repeat (refine stp ?_; intros)
 refine EC.le (Le.row 51 55) ?_
 refine EC.loop (ι := {x : Nat × Value // x.1 ≤ l.length})
  (fun x => ⟨[(4, .val (.v (.int .i64 (x.1.1 : Int)))), (3, .val (.v x.1.2)), (0, .val (.v (ptr g)))], [.row x.1.2 51 55 (((l.take x.1.1).filter fun x => !x.empty).map ak), rsO g L k n, raA L l], []⟩)
  (fun x => l.length - x.1.1) ⟨(0, bF), Lr _⟩ ?_ ?_
 · exact Le.kp
 rintro ⟨⟨i, v⟩, hil⟩
 dsimp only at hil ⊢
 by_cases hlt : i < l.length
 ·
  have hd : (l.map ak)[i]? = some (ak l[i]) := by rw [List.getElem?_map, KJ hlt]; rfl
  have htk : ((l.take (i + 1)).filter fun x => !x.empty) = ((l.take i).filter fun x => !x.empty) ++ ([l[i]].filter fun x => !x.empty) := by rw [LU hlt, List.filter_append]
  have hlen : ((l.take i).filter fun x => !x.empty).length ≤ i := LG (List.length_filter_le _ _) (by rw [LV]; omega)
  have hem := BI l[i]
  generalize l[i] = x at hd htk hem
  generalize ((l.take i).filter fun x => !x.empty) = F at hlen htk ⊢
  have hFl : (F.map ak).length = F.length := KR _
  cases he : x.empty with
  | true =>
   rw [he] at hem
   have hfx : ([x].filter fun x => !x.empty) = [] := by simp [he]
   rw [hfx, Lh] at htk
   repeat
    (first
     | (apply aU (k := i) (off := 0) (d := ak x); rfl; exact I2; exact ⟨by simp, hd⟩; iterate 4 rfl) | (refine dJ (hem) (kk := ?_))
     | (refine stp ?_; intros))
   refine EK.again ⟨(i + 1, v), hlt⟩ (by dsimp only; omega) ?_
   dsimp only
   rw [htk]
   simp only [LM]
   exact Le.kp
  | false =>
   rw [he] at hem
   have hfx : ([x].filter fun x => !x.empty) = [x] := by simp [he]
   rw [hfx] at htk
   repeat
    (first
     | (apply aU (k := i) (off := 0) (d := ak x); rfl; exact I2; exact ⟨by simp, hd⟩; iterate 4 rfl) | (refine dJ (hem) (kk := ?_))
     | (refine stp ?_; intros))
   rename_i v'
   refine EK.again ⟨(i + 1, v'), hlt⟩ (by dsimp only; omega) ?_
   dsimp only
   rw [htk, MH]
   simp only [LM]
   exact Le.kp
 ·
  have hiE : i = l.length := by omega
  subst hiE
  rw [Nh]
  refine EC.le (Le.freeze (pre := []) rfl) ?_
  refine EC.le (Le.refine (t := 3) rfl (Rf.fact KQ rfl)) ?_
  repeat
   (first
    | (refine bJ (os := []) hcp (kk := ?_); rintro _ _ ⟨v2, rfl, rfl⟩; simp only [KD, KE])
    | (refine stp ?_; intros))
  exact EK.aI (.row _ 51 55 ((l.filter fun x => !x.empty).map ak) :: [rsO g L k n, raA L l]) rfl rfl (by (repeat first | exact KO _ | apply List.Sublist.cons_cons | apply List.Sublist.cons)) ⟨_, _, hC, hCl, rfl, rfl⟩
theorem oM {g N : Nat} {A : As} {os : List Obj} (h : RSt g A N os) (hN : N ≤ 1000000) : FnM 15 [.v (ptr g)] os (fun r os' => (∃ L, Canon A L ∧ L.length ≤ N ∧ r = .val (.sl 55 (L.map ak))) ∧ os' = os) :=
 FnM.frz 51 55 ((o9 h hN).mono fun r os' ⟨L, v, h1, h2, h3, h4⟩ => ⟨v, _, os, h3, h4, ⟨L, h1, h2, rfl⟩, rfl⟩)

theorem IB {g N : Nat} {A : As} {os : List Obj} (h : RSt g A N os) (hN : N ≤ 1000000) (a : List UInt8) : FnM 56 [.v (ptr g), .arr 20 a] os (fun r os' => (∃ x : AcL, x.a = a ∧ x.Is (A a) ∧ x.Small N ∧ r = .val (ak x)) ∧ os' = os) := by
 obtain ⟨L, k, n, l, rfl, hR, hlN⟩ := h
 have hml : (l.map ak).length = l.length := KR _
 refine FnM.walk 34 Tryz.func56 rfl Tryz.ntmps56 (by simp) fun X => ?_
 repeat (refine stp ?_; intros)
 rename_i g3 g4
 refine EC.loop (ι := {i : Nat // i ≤ l.length ∧ ∀ j (hj : j < l.length), j < i → l[j].a ≠ a})
  (fun i => ⟨[(5, .val (.v (.int .i64 (i.1 : Int)))), (4, .val (.v (ptr g4))), (3, .val (.v (ptr g3))), (0, .val (.v (ptr g)))], [.var g4 51 (.tup [.arr 20 (List.replicate 20 0), .v (.int .i64 0), .arr 32 zero32, .v bF, .v bF]), .var g3 32 (.arr 20 a), rsO g L k n, raA L l], []⟩)
  (fun i => l.length - i.1) ⟨0, Lr _, fun j _ h => absurd h (Nat.not_lt_zero _)⟩ ?_ ?_
 · exact Le.kp
 rintro ⟨i, hi, hno⟩
 dsimp only at hi hno ⊢
 by_cases hlt : i < l.length
 ·
  have hd : (l.map ak)[i]? = some (ak l[i]) := by rw [List.getElem?_map, KJ hlt]; rfl
  have hb := (jc l[i].a a).1
  by_cases he : l[i].a = a
  ·
   rw [show (l[i].a == a) = true by simp [he]] at hb
   have hm := LW hlt
   have his := hR.mem _ hm
   rw [he] at his
   have hbd := hR.bd _ hm
   repeat (refine stp ?_; intros)
   refine EC.draw 10 (by kernel_rfl) ?_
   simp only [KG, KI, KF, KH]
   repeat
    (first
     | (apply dB (k := i) (off := 0) (d := ak l[i]); rfl; exact I3; exact ⟨by simp, hd⟩; iterate 4 rfl) | (refine dP (hrun := hb) (kk := ?_))
     | (refine sth ?_; intros))
   repeat
    (first
     | (apply aU (k := i) (off := 0) (d := ak l[i]); rfl; exact I3; exact ⟨by simp, hd⟩; iterate 4 rfl) | (refine stp ?_; intros))
   exact EK.kV 0 [rsO g L k n, raA L l] rfl rfl rfl rfl (aj.refl _ _) (by (repeat first | exact KO _ | apply List.Sublist.cons_cons | apply List.Sublist.cons)) ⟨⟨l[i], he, his, hbd, rfl⟩, rfl⟩
  ·
   rw [show (l[i].a == a) = false by simpa using he] at hb
   repeat (refine stp ?_; intros)
   refine EC.draw 10 (by kernel_rfl) ?_
   simp only [KG, KI, KF, KH]
   repeat
    (first
     | (apply dB (k := i) (off := 0) (d := ak l[i]); rfl; exact I3; exact ⟨by simp, hd⟩; iterate 4 rfl) | (refine dP (hrun := hb) (kk := ?_))
     | (refine sth ?_; intros))
   repeat (refine stp ?_; intros)
   refine EK.again ⟨i + 1, hlt, fun j hj hji => ?_⟩ (by dsimp only; omega) ?_
   ·
    by_cases e : j = i
    ·
     subst e
     exact he
    · exact hno j hj (by omega)
   simp only [LM]
   exact Le.kp
 ·
  have hz : A a = Ac.zero := hR.out a fun hm => by
   obtain ⟨x, hx, e⟩ := LD.1 hm
   obtain ⟨j, hj, rfl⟩ := OG hx
   exact hno j hj (by omega) e
  have his := AcL.uP a
  rw [← hz] at his
  repeat (refine stp ?_; intros)
  refine EK.kV 0 [rsO g L k n, raA L l] rfl rfl rfl rfl ?_ (by (repeat first | exact KO _ | apply List.Sublist.cons_cons | apply List.Sublist.cons)) ⟨⟨_, rfl, his, ⟨Lr _, Lr _⟩, rfl⟩, rfl⟩
  unfold ak AcL.none
  (exact RL.a)
abbrev i64 (n : Nat) : Value := .int .i64 (n : Int)
def dIs (ds : List Nat) : List D := (ds.map i64).map .v
@[simp] theorem dI (ds : List Nat) : (dIs ds).length = ds.length := by simp [dIs]
theorem gI {ds : List Nat} {k : Nat} (hk : k < ds.length) : (dIs ds)[k]? = some (.v (i64 ds[k])) := by
 unfold dIs
 rw [List.getElem?_map, List.getElem?_map, KJ hk]
 rfl
theorem vw (ds : List Nat) (k x : Nat) : (dIs ds).set k (.v (i64 x)) = dIs (ds.set k x) := by
 unfold dIs
 rw [List.map_set, List.map_set]
theorem qQ (ds es : List Nat) : dIs ds ++ dIs es = dIs (ds ++ es) := by simp [dIs]
theorem AB (n : Nat) : List.replicate n (D.v (.int .i64 0)) = dIs (List.replicate n 0) := by simp [dIs, i64]
theorem nD (n : Nat) (h : n < 9223372036854775808) : IntKind.i64.wrap (n : Int) = (n : Int) := IntWalk.i64_in _ ⟨by omega, by omega⟩
theorem kY (a : Nat) (h : a < 18446744073709551616) : (BitVec.ofInt 64 (a : Int)).toNat = a := by
 rw [BitVec.toNat_ofInt]
 omega
theorem y9 (a b : Nat) (ha : a < 9223372036854775808) (hb : b < 9223372036854775808) : bits .or .i64 (a : Int) (b : Int) = ((a ||| b : Nat) : Int) := by
 have h := Nat.or_lt_two_pow (n := 63) ha hb
 show IntKind.i64.wrap (((BitVec.ofInt 64 (a : Int) ||| BitVec.ofInt 64 (b : Int)).toNat : Nat) : Int) = _
 rw [BitVec.toNat_or, kY a (by omega), kY b (by omega)]
 exact nD _ h
theorem xI (a b : Nat) (ha : a < 9223372036854775808) (hb : b < 9223372036854775808) : bits .and .i64 (a : Int) (b : Int) = ((a &&& b : Nat) : Int) := by
 have h : a &&& b ≤ a := Nat.and_le_left
 show IntKind.i64.wrap (((BitVec.ofInt 64 (a : Int) &&& BitVec.ofInt 64 (b : Int)).toNat : Nat) : Int) = _
 rw [BitVec.toNat_and, kY a (by omega), kY b (by omega)]
 exact nD _ (by omega)
theorem EF (T : TypeId) (x y : Nat) (hx : x < 9223372036854775808) (hy : y < 9223372036854775808) : Bin .or T (.v (i64 x)) (.v (i64 y)) (i64 (x ||| y)) := gB rfl fun w => by
 show Result.ok (Value.int .i64 (bits .or .i64 (x : Int) (y : Int))) w = _
 rw [y9 x y hx hy]
theorem yw (T : TypeId) (x k : Nat) (hx : x < 9223372036854775808) (hk : k < 63) (m : Int) (hm : m = ((2 ^ k - 1 : Nat) : Int)) : Bin .and T (.v (i64 x)) (.v (.int .i64 m)) (i64 (x % 2 ^ k)) := gB rfl fun w => by
 subst hm
 have hp : 2 ^ k - 1 < 9223372036854775808 := by
  have : 2 ^ k < 2 ^ 63 := Nat.pow_lt_pow_right (by decide) hk
  omega
 show Result.ok (Value.int .i64 (bits .and .i64 (x : Int) ((2 ^ k - 1 : Nat) : Int))) w = _
 rw [xI x _ hx hp, Nat.and_two_pow_sub_one_eq_mod]
theorem BO (T : TypeId) (x k : Nat) (hk : k < 64) (hx : x * 2 ^ k < 9223372036854775808) : Bin .shl T (.v (i64 x)) (.v (.int .u64 (k : Int))) (i64 (x * 2 ^ k)) := gB rfl fun w => by
 have h1 : ¬ ((k : Int) < 0) := by omega
 have h2 : min ((k : Int)).toNat IntKind.i64.bits = k := by
  rw [L6]
  exact MN (Nr hk)
 have h3 : IntKind.i64.wrap ((x : Int) * 2 ^ k) = ((x * 2 ^ k : Nat) : Int) := by
  have : ((x : Int) * 2 ^ k) = ((x * 2 ^ k : Nat) : Int) := by simp
  rw [this]
  exact nD _ hx
 show (Op.shift .shl .i64 (x : Int) .u64 (k : Int)).run Tryz.prog w = _
 unfold Op.shift
 rw [if_neg h1]
 simp only [h2, h3, KX]
theorem tJ (T : TypeId) (x k : Nat) (hk : k < 64) : Bin .shr T (.v (i64 x)) (.v (.int .u64 (k : Int))) (i64 (x / 2 ^ k)) := gB rfl fun w => by
 have h1 : ¬ ((k : Int) < 0) := by omega
 have h2 : min ((k : Int)).toNat IntKind.i64.bits = k := by
  rw [L6]
  exact MN (Nr hk)
 have h3 : (x : Int).fdiv (2 ^ k) = ((x / 2 ^ k : Nat) : Int) := by
  rw [Int.fdiv_eq_ediv_of_nonneg _ (Int.le_of_lt (Int.pow_pos (by decide)))]
  simp
 show (Op.shift .shr .i64 (x : Int) .u64 (k : Int)).run Tryz.prog w = _
 unfold Op.shift
 rw [if_neg h1]
 simp only [h2, h3, KX]
section
variable {N : Nat} {ops : Array Oper} {l : List Oper} {TT : St → List Fr → Prop} {EE : List Fr} {rs : List (Tmp × R)} {os : List Obj} {fs : List (Value × D)}
theorem AQ {t ty : Nat} {pos : String} {af : Array Edge} {gd : Option (Nat × Bool)} {x : Operand} {T g n k i : Nat} {t0 : TypeId} {m : List UInt8} {b : UInt8} (hb : m[k]? = some b) (hx : ev (⟨rs, os, fs⟩ : St) x = some (.val (.v (.pointer (some ⟨g, k, none⟩))))) (hi : os[i]? = some (.var g t0 (.arr n m))) (hT : assoc tyL T = some (1, false)) (hg : guardOf ops ⟨rs, os, fs⟩ ⟨some t, .load T x, ty, pos, af, gd⟩ = some true) (hoff : bg N (some t) EE = true) (kk : EM N ops TT l ⟨(t, .val (.v (bv b))) :: rs, os, fs⟩ EE) : EM N ops TT (⟨some t, .load T x, ty, pos, af, gd⟩ :: l) ⟨rs, os, fs⟩ EE := EH.still (Gt i rfl hx hi hT hb) hg rfl hoff kk
end
theorem GN (v : List UInt8) (hv : v.length = 32) (i : Nat) (hi : i < 16) : (aX 2 16 v).getD i 0 = (v[31 - 2 * i]'(by omega)).toNat + (v[30 - 2 * i]'(by omega)).toNat * 256 := by
 have h1 : (aX 2 16 v).getD i 0 = Wd.le 256 (((nb v.reverse).drop (2 * i)).take 2) := by
  simp [aX, chunks, hi]
 have g : ∀ p, p < 32 → (nb v.reverse)[p]? = some (v[31 - p]'(by omega)).toNat := fun p hp => by
  have := zS v hv (31 - p) (by omega)
  rwa [show 31 - (31 - p) = p by omega] at this
 have h2 : ((nb v.reverse).drop (2 * i)).take 2 = [(v[31 - 2 * i]'(by omega)).toNat, (v[30 - 2 * i]'(by omega)).toNat] := by
  apply List.ext_getElem?
  intro p
  rw [Nc, NS]
  match p with
  | 0 => rw [if_pos (by omega), g _ (by omega)]; rfl
  | 1 =>
   rw [if_pos (by omega), g _ (by omega)]
   simp only [KP, KN, NW]
   congr 2
   omega
  | p + 2 => rw [if_neg (by omega)]; rfl
 rw [h1, h2]
 simp only [Wd.le]
 omega
theorem lu (v : List UInt8) (hv : v.length = 32) : Fn 73 [.arr 32 v] (· = .val (.sl 1 (dIs (aX 2 16 v)))) := by
 have hWl : (aX 2 16 v).length = 16 := iK 2 16 v
 have hget := GN v hv
 generalize aX 2 16 v = W at hWl hget
 refine Fn.walk 28 Tryz.func73 rfl Tryz.ntmps73 (by simp) fun X => ?_
 repeat (refine stp ?_; intros)
 apply EU (n := 16) (y' := 8)
 · exact ⟨by decide, by decide⟩
 iterate 5 rfl
 intro sv
 rename_i g1
 rw [AB 16]
 repeat (refine stp ?_; intros)
 refine EC.loop (ι := {i : Nat // i ≤ 16})
  (fun i => ⟨[(4, .val (.v (.int .i64 (i.1 : Int)))), (3, .val (.v sv)), (1, .val (.v (.pointer (some ⟨g1, 0, none⟩))))], [.row sv 3 1 (dIs (W.take i.1 ++ List.replicate (16 - i.1) 0)), .var g1 34 (.arr 32 v)], []⟩)
  (fun i => 16 - i.1) ⟨0, by omega⟩ ?_ ?_
 · exact Le.kp
 rintro ⟨i, hi⟩
 dsimp only at hi ⊢
 by_cases hlt : i < 16
 ·
  have hWi := hget i hlt
  have hst := lM W 0 i 16 hWl hlt
  rw [LK, KJ (by omega), Option.getD_some] at hWi
  rw [hWi] at hst
  have hb1 : v[31 - 2 * i]? = some (v[31 - 2 * i]'(by omega)) := KJ _
  have hb2 : v[30 - 2 * i]? = some (v[30 - 2 * i]'(by omega)) := KJ _
  have l1 : (v[31 - 2 * i]'(by omega)).toNat < 256 := UInt8.toNat_lt _
  have l2 : (v[30 - 2 * i]'(by omega)).toNat < 256 := UInt8.toNat_lt _
  generalize (v[31 - 2 * i]'(by omega)) = b1 at hb1 hst l1
  generalize (v[30 - 2 * i]'(by omega)) = b2 at hb2 hst l2
  have c1 := fun b : UInt8 => kF (T := 5) (U := 3) (k := .u8) (k' := .i64) Tryz.underlying5 Tryz.underlying3 (b.toNat : Int) (b.toNat : Int) (nD _ (by have := b.toNat_lt; omega))
  have r1 := BO 3 b2.toNat 8 (by decide) (by omega)
  have r2 := EF 3 b1.toNat (b2.toNat * 2 ^ 8) (by omega) (by omega)
  have hor : b1.toNat ||| b2.toNat * 2 ^ 8 = b1.toNat + b2.toNat * 256 := by
   rw [Nat.or_comm, Dw 8 (b2.toNat * 2 ^ 8) b1.toNat b2.toNat (Nz _ _) l1]
   omega
  rw [hor] at r2
  have o1 : 0 + ((31 : Int) - 2 * (i : Int)).toNat * 1 = 31 - 2 * i := by omega
  have o2 : 0 + ((30 : Int) - 2 * (i : Int)).toNat * 1 = 30 - 2 * i := by omega
  have hrl : (dIs (W.take i ++ List.replicate (16 - i) 0)).length = 16 := by rw [dI, LP, LV, MO]; omega
  have hold : (dIs (W.take i ++ List.replicate (16 - i) 0))[i]? = some (.v (i64 0)) := by
   rw [gI (by rw [← dI, hrl]; exact hlt)]
   congr 3
   rw [NZ (by rw [LV]; omega), List.getElem_replicate]
  repeat (refine stp ?_; intros)
  refine EC.draw 16 (by kernel_rfl) ?_
  simp only [KG, KI, KF, KH]
  repeat
   (first
    | (refine dP (hrun := r1) (kk := ?_)) | (refine dP (hrun := r2) (kk := ?_))
    | (apply aO; (iterate 3 rfl); exact ⟨by omega, by omega⟩; iterate 2 rfl)
    | (first | (apply AQ (k := 0 + ((31 : Int) - 2 * (i : Int)).toNat * 1); (rw [o1]; exact hb1); rfl; exact I1; iterate 3 rfl) | (apply AQ (k := 0 + ((30 : Int) - 2 * (i : Int)).toNat * 1); (rw [o2]; exact hb2); rfl; exact I1; iterate 3 rfl))
    | (apply Fz; rfl; exact c1 _; iterate 3 rfl) | (refine sth ?_; intros))
  repeat
   (first
    | (apply kM; rfl; exact I0; (iterate 2 rfl); exact ⟨by omega, by omega⟩; iterate 2 rfl)
    | (apply bn (k := i) (off := 0) (d := .v (i64 0)) (d'' := .v (i64 (b1.toNat + b2.toNat * 256))); rfl; exact .z; exact ⟨by omega, hold⟩; iterate 4 rfl) | (refine stp ?_; intros))
  refine EK.again ⟨i + 1, by omega⟩ (by dsimp only; omega) ?_
  rw [vw, hst]
  simp only [LM]
  exact Le.kp
 ·
  have : i = 16 := by omega
  subst this
  rw [MW (by omega), Ov, NM, Lh]
  repeat (refine stp ?_; intros)
  refine EK.le (Le.freeze (pre := []) rfl) ?_
  refine EK.Dk rfl rfl ?_ rfl
  (exact RL.a)
theorem yJ (ls : List Nat) (hl : ls.length = 16) (i : Nat) (hi : i < 32) : ((bZ 2 ls).map UInt8.ofNat).reverse[i]? = some (UInt8.ofNat (ls.getD ((31 - i) / 2) 0 / 256 ^ ((31 - i) % 2))) := by
 have hlen : (bZ 2 ls).length = 32 := by rw [dw, hl]
 rw [List.getElem?_reverse (by rw [KR]; omega), KR, hlen, List.getElem?_map, jK 2 (by decide) ls _ (by omega), show 32 - 1 - i = 31 - i by omega]
 simp only [Og]
 congr 1
 apply UInt8.toNat_inj.1
 show _ % 256 % 256 = _ % 256
 rw [Nat.mod_mod]
theorem rO (W : List UInt8) (k : Nat) (h : k + 1 < W.length) : ((List.replicate (k + 2) 0 ++ W.drop (k + 2)).set (k + 1) W[k + 1]).set k W[k] = List.replicate k 0 ++ W.drop k := by
 rw [Mc (show k < W.length by omega), Mc h, List.replicate_succ', List.replicate_succ', Lc, Lc]
 rw [Nl _ _ (by simp), Nl _ _ (by simp)]
 simp
theorem pU (n m : Nat) (h : n % 256 ^ 32 = m % 256 ^ 32) : aQ n = aQ m := val_inj _ _ (by rw [aY, aY]) (by rw [dQ, dQ, h])
theorem AU (ls : List Nat) (hl : 16 ≤ ls.length) : aQ (Wd.le 65536 (ls.take 16)) = aQ (Wd.le 65536 ls) := by
 refine pU _ _ ?_
 conv => rhs; rw [← MF 16 ls, dN, LV, MN hl]
 rw [show (65536 : Nat) ^ 16 = 256 ^ 32 from rfl, OJ]
theorem Aw (ls : List Nat) (hl : 16 ≤ ls.length) (h1 : ∀ x ∈ ls, x < 65536) : Fn 74 [.sl 1 (dIs ls)] (· = .val (.arr 32 (aQ (Wd.le 65536 ls)))) := by
 have hW := mM 2 (ls.take 16) (by rw [LV]; omega) (fun x hx => h1 x (List.mem_of_mem_take hx))
 rw [show (256 : Nat) ^ 2 = 65536 from rfl, AU ls hl] at hW
 rw [← hW]
 have hWl : (((bZ 2 (ls.take 16)).map UInt8.ofNat).reverse).length = 32 := by rw [MZ, KR, dw, LV]; omega
 have hget := yJ (ls.take 16) (by rw [LV]; omega)
 generalize ((bZ 2 (ls.take 16)).map UInt8.ofNat).reverse = W at hWl hget
 clear hW
 have hll := dI ls
 refine Fn.walk 36 Tryz.func74 rfl Tryz.ntmps74 (by simp) fun X => ?_
 repeat (refine stp ?_; intros)
 rename_i g1 g2
 refine EC.loop (ι := {i : Nat // i ≤ 16})
  (fun i => ⟨[(4, .val (.v (.int .i64 (i.1 : Int)))), (3, .val (.v (.pointer (some ⟨g2, 0, none⟩)))), (2, .val (.v (.pointer (some ⟨g1, 0, none⟩)))), (0, .val (.sl 1 (dIs ls)))], [.var g2 34 (.arr 32 (List.replicate (32 - 2 * i.1) 0 ++ W.drop (32 - 2 * i.1))), .var g1 34 (.arr 32 zero32)], []⟩)
  (fun i => 16 - i.1) ⟨0, by omega⟩ ?_ ?_
 ·
  dsimp only
  rw [MC (by omega)]
  exact Le.kp
 rintro ⟨i, hi⟩
 dsimp only at hi ⊢
 by_cases hlt : i < 16
 ·
  have hil : i < ls.length := by omega
  have hx : (dIs ls)[i]? = some (.v (i64 ls[i])) := gI hil
  have b1 := hget (31 - 2 * i) (by omega)
  have b2 := hget (30 - 2 * i) (by omega)
  have gd : ∀ p, p = i → (ls.take 16).getD p 0 = ls[i] := by
   rintro p rfl
   rw [LK, Nc, if_pos hlt, KJ hil]
   rfl
  rw [gd _ (by omega), show (31 - (31 - 2 * i)) % 2 = 0 by omega, Nat.pow_zero, Nat.div_one] at b1
  rw [gd _ (by omega), show (31 - (30 - 2 * i)) % 2 = 1 by omega, Nat.pow_one] at b2
  have hxl := h1 _ (LW hil)
  generalize ls[i] = x at hx b1 b2 hxl
  have hst := rO W (30 - 2 * i) (by omega)
  rw [show 30 - 2 * i + 2 = 32 - 2 * i by omega] at hst
  have hst1 : W[30 - 2 * i + 1]'(by omega) = UInt8.ofNat x := by
   have : W[30 - 2 * i + 1]? = some (UInt8.ofNat x) := by rw [show 30 - 2 * i + 1 = 31 - 2 * i by omega]; exact b1
   exact (KZ.1 this).2
  have hst2 : W[30 - 2 * i]'(by omega) = UInt8.ofNat (x / 256) := (KZ.1 b2).2
  rw [hst1, hst2, show 30 - 2 * i + 1 = 31 - 2 * i by omega] at hst
  have r1 := yw 3 x 8 (by omega) (by decide) 255 (by decide)
  have r2 := tJ 3 x 8 (by decide)
  have c1 : ∀ w, (Go.convert 3 5 (i64 (x % 2 ^ 8))).run Tryz.prog w = .ok (bv (UInt8.ofNat x)) w := by
   rw [Ez]
   exact kF (T := 3) (U := 5) (k := .i64) (k' := .u8) Tryz.underlying3 Tryz.underlying5 ((x % 2 ^ 8 : Nat) : Int) ((x % 256 : Nat) : Int) (by rw [IntKind.wrap_u8]; omega)
  have c2 : ∀ w, (Go.convert 3 5 (i64 (x / 2 ^ 8))).run Tryz.prog w = .ok (bv (UInt8.ofNat (x / 256))) w := by
   rw [Ez]
   exact kF (T := 3) (U := 5) (k := .i64) (k' := .u8) Tryz.underlying3 Tryz.underlying5 ((x / 2 ^ 8 : Nat) : Int) ((x / 256 % 256 : Nat) : Int) (by rw [IntKind.wrap_u8]; omega)
  have o1 : 0 + ((31 : Int) - 2 * (i : Int)).toNat * 1 = 31 - 2 * i := by omega
  have o2 : 0 + ((30 : Int) - 2 * (i : Int)).toNat * 1 = 30 - 2 * i := by omega
  have hk1 : (0 : Int) ≤ (31 : Int) - 2 * (i : Int) ∧ ((31 : Int) - 2 * (i : Int)).toNat < 32 := ⟨by omega, by omega⟩
  have hk2 : (0 : Int) ≤ (30 : Int) - 2 * (i : Int) ∧ ((30 : Int) - 2 * (i : Int)).toNat < 32 := ⟨by omega, by omega⟩
  have s1 : (List.replicate (32 - 2 * i) 0 ++ W.drop (32 - 2 * i)).length = 32 := by rw [LP, MO, OB]; omega
  generalize List.replicate (32 - 2 * i) 0 ++ W.drop (32 - 2 * i) = Z at hst s1
  repeat
   (first
    | (refine bM (hrun := r1) (kk := ?_)) | (refine bM (hrun := r2) (kk := ?_))
    | (apply E8; rfl; (first | exact c1 | exact c2); iterate 3 rfl) | (apply mG; (iterate 3 rfl); (first | exact hk1 | exact hk2); iterate 2 rfl)
    | (apply yD; rfl; exact .z; rfl; rfl; (omega); rfl) | (refine stp ?_; intros))
  refine EK.again ⟨i + 1, by omega⟩ (by dsimp only; omega) ?_
  rw [o1, o2, hst, show 30 - 2 * i = 32 - 2 * (i + 1) by omega]
  simp only [LM]
  exact Le.kp
 ·
  have : i = 16 := by omega
  subst this
  rw [Ov, NM, KE, KH]
  repeat (refine stp ?_; intros)
  refine EK.jT 1 rfl rfl rfl rfl ?_ rfl
  (exact RL.a)
def jd (a b : List Nat) : Nat → Nat
 | 0 => 0
 | i + 1 => (jd a b i + a.getD i 0 + b.getD i 0) / 65536
def jG (a b : List Nat) (i : Nat) : List Nat := (List.range i).map fun j => (jd a b j + a.getD j 0 + b.getD j 0) % 65536
theorem tV (a b : List Nat) (i : Nat) : jG a b (i + 1) = jG a b i ++ [(jd a b i + a.getD i 0 + b.getD i 0) % 65536] := by simp [jG, List.range_succ]
theorem fV (a b : List Nat) (i : Nat) : (jG a b i).length = i := by simp [jG]
theorem GX (a b : List Nat) (i : Nat) : ∀ x ∈ jG a b i, x < 65536 := fun x hx => by
 obtain ⟨j, _, rfl⟩ := LD.1 hx
 exact Nat.mod_lt _ (by decide)
theorem gG (B : Nat) (a : List Nat) (i : Nat) (h : i < a.length) : Wd.le B (a.take (i + 1)) = Wd.le B (a.take i) + B ^ i * a.getD i 0 := by
 rw [LU h, dN, LV, MN (Nr h), LK, KJ h]
 simp [Wd.le]
theorem pK (a b : List Nat) (h1 : ∀ x ∈ a, x < 65536) (h2 : ∀ x ∈ b, x < 65536) (ha : a.length = 16) (hb : b.length = 16) : ∀ i, i ≤ 16 → jd a b i ≤ 1
 | 0, _ => by simp [jd]
 | i + 1, h => by
  have := pK a b h1 h2 ha hb i (by omega)
  have g1 : a.getD i 0 < 65536 := by rw [LK, KJ (by omega)]; exact h1 _ (LW _)
  have g2 : b.getD i 0 < 65536 := by rw [LK, KJ (by omega)]; exact h2 _ (LW _)
  rw [jd]
  omega
theorem AO (a b : List Nat) (ha : a.length = 16) (hb : b.length = 16) : ∀ i, i ≤ 16 → Wd.le 65536 (jG a b i) + 65536 ^ i * jd a b i = Wd.le 65536 (a.take i) + Wd.le 65536 (b.take i)
 | 0, _ => by simp [jG, jd, Wd.le]
 | i + 1, h => by
  have ih := AO a b ha hb i (by omega)
  rw [tV, dN, fV, gG _ a i (by omega), gG _ b i (by omega), jd, NI]
  simp only [Wd.le, Nat.mul_zero, Ou]
  generalize a.getD i 0 = x
  generalize b.getD i 0 = y
  generalize jd a b i = c at ih
  have hdm := Nat.mod_add_div (c + x + y) 65536
  have : 65536 ^ i * ((c + x + y) % 65536) + 65536 ^ i * 65536 * ((c + x + y) / 65536) = 65536 ^ i * (c + x + y) := by
   rw [OD, ← MP, hdm]
  rw [MP, MP] at this
  omega
theorem Ji (a b : List Nat) (ha : a.length = 16) (hb : b.length = 16) (h1 : ∀ x ∈ a, x < 65536) (h2 : ∀ x ∈ b, x < 65536) : Fn 75 [.sl 1 (dIs a), .sl 1 (dIs b)] (· = .val (.sl 1 (dIs (jG a b 16 ++ [jd a b 16])))) := by
 have hla : (dIs a).length = 16 := (dI a).trans ha
 have hlb : (dIs b).length = 16 := (dI b).trans hb
 refine Fn.walk 51 Tryz.func75 rfl Tryz.ntmps75 (by simp) fun X => ?_
 repeat (refine stp ?_; intros)
 refine EC.le (Le.row 3 1) ?_
 refine EC.loop (ι := {p : Value × Nat // p.2 ≤ 16})
  (fun p => ⟨[(7, .val (.v (.int .i64 (p.1.2 : Int)))), (6, .val (.v (.int .i64 (jd a b p.1.2 : Int)))), (5, .val (.v p.1.1)), (1, .val (.sl 1 (dIs b))), (0, .val (.sl 1 (dIs a)))], [.row p.1.1 3 1 (dIs (jG a b p.1.2))], []⟩)
  (fun p => 16 - p.1.2) ⟨(.slice none 0 0, 0), by simp⟩ ?_ ?_
 · exact Le.kp
 rintro ⟨⟨sv, i⟩, hi⟩
 dsimp only at hi ⊢
 by_cases hlt : i < 16
 ·
  have hx : (dIs a)[i]? = some (.v (i64 (a.getD i 0))) := by rw [gI (by omega), LK, KJ (by omega)]; rfl
  have hy : (dIs b)[i]? = some (.v (i64 (b.getD i 0))) := by rw [gI (by omega), LK, KJ (by omega)]; rfl
  have g1 : a.getD i 0 < 65536 := by rw [LK, KJ (by omega)]; exact h1 _ (LW _)
  have g2 : b.getD i 0 < 65536 := by rw [LK, KJ (by omega)]; exact h2 _ (LW _)
  have hc := pK a b h1 h2 ha hb i hi
  have hO := tV a b i
  have hC : jd a b (i + 1) = (jd a b i + a.getD i 0 + b.getD i 0) / 65536 := rfl
  have hOl : (jG a b i).length = i := fV a b i
  generalize hO' : jG a b (i + 1) = O' at hO
  generalize hC' : jd a b (i + 1) = C' at hC
  generalize jd a b i = c at hc hO hC
  generalize jG a b i = O at hO hOl
  generalize a.getD i 0 = x at hx g1 hO hC
  generalize b.getD i 0 = y at hy g2 hO hC
  have r1 := yw 3 (c + x + y) 16 (by omega) (by decide) 65535 (by decide)
  have r2 := tJ 3 (c + x + y) 16 (by decide)
  simp only [i64, LM] at r1 r2
  subst hC
  have hO2 : dIs O ++ [.v (.int .i64 (((c + x + y) % 2 ^ 16 : Nat) : Int))] = dIs O' := by rw [hO, ← qQ]; rfl
  repeat
   (first
    | (refine bM (hrun := r1) (kk := ?_)) | (refine bM (hrun := r2) (kk := ?_)) | (refine stp ?_; intros))
  rename_i sv'
  refine EK.again ⟨(sv', i + 1), by omega⟩ (by dsimp only; omega) ?_
  dsimp only
  rw [hO2, hO', hC']
  simp only [LM]
  exact Le.kp
 ·
  have : i = 16 := by omega
  subst this
  have hc := pK a b h1 h2 ha hb 16 (by omega)
  have hOl : (jG a b 16).length = 16 := fV a b 16
  repeat (refine stp ?_; intros)
  refine EK.le (Le.freeze (pre := []) rfl) ?_
  refine EK.Dk rfl rfl ?_ rfl
  rw [show dIs (jG a b 16) ++ [.v (.int .i64 (jd a b 16 : Int))] = dIs (jG a b 16 ++ [jd a b 16]) by rw [← qQ]; rfl]
  (exact RL.a)
def jf (a b : List Nat) : Nat → Nat
 | 0 => 0
 | i + 1 => if a.getD i 0 < jf a b i + b.getD i 0 then 1 else 0
def yN (a b : List Nat) (i : Nat) : Nat := if a.getD i 0 < jf a b i + b.getD i 0 then a.getD i 0 + 65536 - jf a b i - b.getD i 0 else a.getD i 0 - jf a b i - b.getD i 0
def iH (a b : List Nat) (i : Nat) : List Nat := (List.range i).map (yN a b)
theorem rW (a b : List Nat) (i : Nat) : iH a b (i + 1) = iH a b i ++ [yN a b i] := by simp [iH, List.range_succ]
theorem jM (a b : List Nat) (i : Nat) : (iH a b i).length = i := by simp [iH]
theorem pF (a b : List Nat) : ∀ i, jf a b i ≤ 1
 | 0 => by simp [jf]
 | i + 1 => by rw [jf]; split <;> omega
theorem FH (a b : List Nat) (ha : ∀ j, a.getD j 0 < 65536) (hb : ∀ j, b.getD j 0 < 65536) (i : Nat) : ∀ x ∈ iH a b i, x < 65536 := fun x hx => by
 obtain ⟨j, _, rfl⟩ := LD.1 hx
 have := pF a b j
 have := ha j
 have := hb j
 unfold yN
 split <;> omega
theorem zL (a b : List Nat) (hA : ∀ j, a.getD j 0 < 65536) (hB : ∀ j, b.getD j 0 < 65536) (ha : a.length = 16) (hb : b.length = 16) : ∀ i, i ≤ 16 → Wd.le 65536 (iH a b i) + Wd.le 65536 (b.take i) = Wd.le 65536 (a.take i) + 65536 ^ i * jf a b i
 | 0, _ => by simp [iH, jf, Wd.le]
 | i + 1, h => by
  have ih := zL a b hA hB ha hb i (by omega)
  have := pF a b i
  rw [rW, dN, jM, gG _ a i (by omega), gG _ b i (by omega), jf, NI]
  simp only [Wd.le, Nat.mul_zero, Ou]
  unfold yN
  have hx := hA i
  have hy := hB i
  generalize a.getD i 0 = x at *
  generalize b.getD i 0 = y at *
  generalize jf a b i = c at *
  have key : ∀ d e : Nat, d + y + c = x + 65536 * e → 65536 ^ i * d + 65536 ^ i * y + 65536 ^ i * c = 65536 ^ i * x + 65536 ^ i * 65536 * e := fun d e h => by
   rw [OD, ← MP, ← MP, ← MP, h]
  split
  ·
   have := key (x + 65536 - c - y) 1 (by omega)
   omega
  ·
   have := key (x - c - y) 0 (by omega)
   omega
theorem Jg (a b : List Nat) (ha : a.length = 16) (hb : b.length = 16) (hA : ∀ j, a.getD j 0 < 65536) (hB : ∀ j, b.getD j 0 < 65536) : Fn 76 [.sl 1 (dIs a), .sl 1 (dIs b)] (· = .val (.sl 1 (dIs (iH a b 16)))) := by
 refine Fn.walk 43 Tryz.func76 rfl Tryz.ntmps76 (by simp) fun X => ?_
 repeat (refine stp ?_; intros)
 apply EU (n := (dIs a).length) (y' := 8)
 ·
  rw [dI, ha]
  exact ⟨by decide, by decide⟩
 iterate 5 rfl
 intro sv
 rw [show List.replicate (dIs a).length (D.v (.int .i64 0)) = dIs (iH a b 0 ++ List.replicate (16 - 0) 0) by rw [dI, ha]; exact AB 16]
 repeat (refine stp ?_; intros)
 refine EC.loop (ι := {i : Nat // i ≤ 16})
  (fun i => ⟨[(7, .val (.v (.int .i64 (i.1 : Int)))), (6, .val (.v (.int .i64 (jf a b i.1 : Int)))), (5, .val (.v sv)), (1, .val (.sl 1 (dIs b))), (0, .val (.sl 1 (dIs a)))], [.row sv 3 1 (dIs (iH a b i.1 ++ List.replicate (16 - i.1) 0))], []⟩)
  (fun i => 16 - i.1) ⟨0, by omega⟩ ?_ ?_
 · exact Le.kp
 rintro ⟨i, hi⟩
 dsimp only at hi ⊢
 by_cases hlt : i < 16
 ·
  have hx : (dIs a)[i]? = some (.v (i64 (a.getD i 0))) := by rw [gI (by omega), LK, KJ (by omega)]; rfl
  have hy : (dIs b)[i]? = some (.v (i64 (b.getD i 0))) := by rw [gI (by omega), LK, KJ (by omega)]; rfl
  have g1 := hA i
  have g2 := hB i
  have hc := pF a b i
  have hO := rW a b i
  have hOl : (iH a b i).length = i := jM a b i
  have hD : yN a b i = if a.getD i 0 < jf a b i + b.getD i 0 then a.getD i 0 + 65536 - jf a b i - b.getD i 0 else a.getD i 0 - jf a b i - b.getD i 0 := rfl
  have hC : jf a b (i + 1) = if a.getD i 0 < jf a b i + b.getD i 0 then 1 else 0 := rfl
  have hst : (iH a b i ++ List.replicate (16 - i) 0).set i (yN a b i) = iH a b (i + 1) ++ List.replicate (16 - (i + 1)) 0 := by
   rw [Nl _ _ (by omega), hOl, Ov, show 16 - i = (16 - (i + 1)) + 1 by omega, NK, Oe, hO, Lc]
   rfl
  have hold : (dIs (iH a b i ++ List.replicate (16 - i) 0))[i]? = some (.v (i64 0)) := by
   rw [gI (by rw [LP, MO]; omega)]
   congr 3
   rw [NZ (by omega), List.getElem_replicate]
  have hrl : (iH a b i ++ List.replicate (16 - i) 0).length = 16 := by rw [LP, MO, hOl]; omega
  generalize hO' : iH a b (i + 1) ++ List.replicate (16 - (i + 1)) 0 = O' at hst
  generalize hC' : jf a b (i + 1) = C' at hC
  generalize yN a b i = d at hst hD
  generalize jf a b i = c at hc hD hC
  generalize iH a b i ++ List.replicate (16 - i) 0 = O at hst hold hrl
  generalize a.getD i 0 = x at hx g1 hD hC
  generalize b.getD i 0 = y at hy g2 hD hC
  clear hO hOl
  by_cases hb : x < c + y
  ·
   rw [if_pos hb] at hD hC
   have hd : ((x : Int) - (c : Int) - (y : Int) + 65536) = (d : Int) := by omega
   repeat (refine stp ?_; intros)
   rw [hd]
   repeat
    (first
     | (apply bn (k := i) (off := 0) (d := .v (i64 0)) (d'' := .v (i64 d)); rfl; exact .z; exact ⟨by omega, hold⟩; iterate 4 rfl) | (refine stp ?_; intros))
   refine EK.again ⟨i + 1, by omega⟩ (by dsimp only; omega) ?_
   dsimp only
   rw [vw, hst, hO', hC', hC]
   simp only [LM]
   exact Le.kp
  ·
   rw [if_neg hb] at hD hC
   have hd : ((x : Int) - (c : Int) - (y : Int)) = (d : Int) := by omega
   repeat (refine stp ?_; intros)
   rw [hd]
   repeat
    (first
     | (apply bn (k := i) (off := 0) (d := .v (i64 0)) (d'' := .v (i64 d)); rfl; exact .z; exact ⟨by omega, hold⟩; iterate 4 rfl) | (refine stp ?_; intros))
   refine EK.again ⟨i + 1, by omega⟩ (by dsimp only; omega) ?_
   dsimp only
   rw [vw, hst, hO', hC', hC]
   simp only [LM]
   exact Le.kp
 ·
  have : i = 16 := by omega
  subst this
  rw [Ov, NM, Lh]
  repeat (refine stp ?_; intros)
  refine EK.le (Le.freeze (pre := []) rfl) ?_
  refine EK.Dk rfl rfl ?_ rfl
  (exact RL.a)
theorem Jh (ls ms : List Nat) (hl : ls.length = 16) (hm : ms.length = 16) (h1 : ∀ x ∈ ls, x < 65536) (h2 : ∀ x ∈ ms, x < 65536) :
  Fn 72 [.sl 1 (dIs ls), .sl 1 (dIs ms)] (· = .val (.v (.int .i64 (kG (Wd.le 65536 ls) (Wd.le 65536 ms))))) := by
 have hla : (dIs ls).length = 16 := (dI ls).trans hl
 have hlb : (dIs ms).length = 16 := (dI ms).trans hm
 refine Fn.walk 45 Tryz.func72 rfl Tryz.ntmps72 (by simp) fun X => ?_
 repeat (refine stp ?_; intros)
 refine EC.loop (ι := {p : Nat // p ≤ 16 ∧ ls.drop p = ms.drop p})
  (fun p => ⟨[(6, .val (.v (.int .i64 ((p.1 : Int) - 1)))), (1, .val (.sl 1 (dIs ms))), (0, .val (.sl 1 (dIs ls)))], [], []⟩)
  (fun p => p.1) ⟨16, by omega, by rw [MC (by omega), MC (by omega)]⟩ ?_ ?_
 ·
  rw [hla]
  exact Le.kp
 rintro ⟨p, hp, hd⟩
 dsimp only at hp ⊢
 rcases Nat.eq_zero_or_pos p with h0 | hpos
 ·
  subst h0
  have : ls = ms := by simpa using hd
  subst this
  repeat (refine stp ?_; intros)
  refine EK.iU rfl rfl ?_
  unfold kG
  rw [if_neg (by omega), if_neg (by omega)]
 ·
  obtain ⟨q, rfl⟩ : ∃ q, p = q + 1 := ⟨p - 1, by omega⟩
  have hpl : q < ls.length := by omega
  have hpm : q < ms.length := by omega
  have hx : (dIs ls)[q]? = some (.v (i64 ls[q])) := gI hpl
  have hy : (dIs ms)[q]? = some (.v (i64 ms[q])) := gI hpm
  have eq1 : (((q + 1 : Nat) : Int) - 1) = (q : Int) := by omega
  rw [eq1]
  rcases Nk ls[q] ms[q] with hc | hc | hc
  ·
   have hlt := nC ls ms (by omega) h1 h2 q hpl hd hc
   generalize ls[q] = x at hx hc
   generalize ms[q] = y at hy hc
   repeat (refine stp ?_; intros)
   refine EK.iU rfl rfl ?_
   unfold kG
   rw [if_pos hlt]
  ·
   have hd' : ls.drop q = ms.drop q := by rw [Mc hpl, Mc hpm, hc, hd]
   generalize ls[q] = x at hx hc
   generalize ms[q] = y at hy hc
   repeat (refine stp ?_; intros)
   refine EK.again ⟨q, by omega, hd'⟩ (by dsimp only; omega) ?_
   exact Le.kp
  ·
   have hlt := nC ms ls (by omega) h2 h1 q hpm (by simpa using hd.symm) hc
   generalize ls[q] = x at hx hc
   generalize ms[q] = y at hy hc
   repeat (refine stp ?_; intros)
   refine EK.iU rfl rfl ?_
   unfold kG
   rw [if_neg (by omega), if_pos hlt]
theorem lq (v : List UInt8) (hv : v.length = 32) : (aX 2 16 v).length = 16 ∧ (∀ x ∈ aX 2 16 v, x < 65536) ∧ Wd.le 65536 (aX 2 16 v) = val v := ⟨iK 2 16 v, sF 2 16 v, sH (c := 2) (k := 16) (by rw [hv])⟩
theorem FD (B o v u c : Nat) (hv : v < B) (hs : o + v = u + B * c) (hc : c ≤ 1) : o % B = (u + B - v) % B := by
 have : c = 0 ∨ c = 1 := by omega
 rcases this with rfl | rfl
 · rw [show u + B - v = o + B by omega, Nat.add_mod_right]
 · rw [show u + B - v = o by omega]
theorem getD_lt (ls : List Nat) (h : ∀ x ∈ ls, x < 65536) (j : Nat) : ls.getD j 0 < 65536 := by
 rw [LK]
 cases e : ls[j]? with
 | none => decide
 | some x => exact h x (Ls e)
theorem Em (u v : List UInt8) (hu : u.length = 32) (hv : v.length = 32) : Fn 57 [.arr 32 u, .arr 32 v] (· = .val (.v (.int .i64 (kG (val u) (val v))))) := by
 have h1 := lu u hu
 have h2 := lu v hv
 obtain ⟨a1, a2, a3⟩ := lq u hu
 obtain ⟨b1, b2, b3⟩ := lq v hv
 have h3 := Jh _ _ a1 b1 a2 b2
 rw [a3, b3] at h3
 refine Fn.walk 10 Tryz.func57 rfl Tryz.ntmps57 (by simp) fun X => ?_
 repeat (refine stp ?_; intros)
 refine EC.draw 5 (by kernel_rfl) ?_
 simp only [KG, KI, KF, KH]
 repeat
  (first
   | (refine aW (h1) (kk := ?_)) | (refine aW (h2) (kk := ?_))
   | (refine aW (h3) (kk := ?_)) | (refine sth ?_; intros))
 repeat (refine stp ?_; intros)
 refine EK.iU rfl rfl rfl
theorem Jk (u v : List UInt8) (hu : u.length = 32) (hv : v.length = 32) : Fn 58 [.arr 32 u, .arr 32 v] (· = .val (.arr 32 (aQ (val u + val v)))) := by
 have h1 := lu u hu
 have h2 := lu v hv
 obtain ⟨a1, a2, a3⟩ := lq u hu
 obtain ⟨b1, b2, b3⟩ := lq v hv
 have h3 := Ji _ _ a1 b1 a2 b2
 have hs := AO _ _ a1 b1 16 (by omega)
 rw [MW (by omega), MW (by omega), a3, b3] at hs
 have hc := pK _ _ a2 b2 a1 b1 16 (by omega)
 have h4 := Aw (jG (aX 2 16 u) (aX 2 16 v) 16 ++ [jd (aX 2 16 u) (aX 2 16 v) 16]) (by rw [LP, fV]; simp) (fun x hx => by
  rcases LH.1 hx with hx | hx
  · exact GX _ _ _ x hx
  · rw [List.mem_singleton.1 hx]; omega)
 rw [dN, fV] at h4
 simp only [Wd.le, Nat.mul_zero, Ou] at h4
 rw [hs] at h4
 clear hs hc
 generalize jG (aX 2 16 u) (aX 2 16 v) 16 ++ [jd (aX 2 16 u) (aX 2 16 v) 16] = os at h3 h4
 refine Fn.walk 11 Tryz.func58 rfl Tryz.ntmps58 (by simp) fun X => ?_
 repeat (refine stp ?_; intros)
 refine EC.draw 6 (by kernel_rfl) ?_
 simp only [KG, KI, KF, KH]
 repeat
  (first
   | (refine aW (h1) (kk := ?_)) | (refine aW (h2) (kk := ?_))
   | (refine aW (h3) (kk := ?_)) | (refine aW (h4) (kk := ?_)) | (refine sth ?_; intros))
 repeat (refine stp ?_; intros)
 refine EK.jT 0 rfl rfl rfl rfl ?_ rfl
 (exact RL.a)
theorem Jj (u v : List UInt8) (hu : u.length = 32) (hv : v.length = 32) : Fn 59 [.arr 32 u, .arr 32 v] (· = .val (.arr 32 (aQ (val u + 256 ^ 32 - val v)))) := by
 have h1 := lu u hu
 have h2 := lu v hv
 obtain ⟨a1, a2, a3⟩ := lq u hu
 obtain ⟨b1, b2, b3⟩ := lq v hv
 have h3 := Jg _ _ a1 b1 (getD_lt _ a2) (getD_lt _ b2)
 have hs := zL _ _ (getD_lt _ a2) (getD_lt _ b2) a1 b1 16 (by omega)
 rw [MW (by omega), MW (by omega), a3, b3, show (65536 : Nat) ^ 16 = 256 ^ 32 from rfl] at hs
 have hc := pF (aX 2 16 u) (aX 2 16 v) 16
 have hlt := FH _ _ (getD_lt _ a2) (getD_lt _ b2) 16
 have h4 := Aw (iH (aX 2 16 u) (aX 2 16 v) 16) (by rw [jM]; omega) hlt
 have e : aQ (Wd.le 65536 (iH (aX 2 16 u) (aX 2 16 v) 16)) = aQ (val u + 256 ^ 32 - val v) := by
  have hvl := uf v
  rw [hv] at hvl
  exact pU _ _ (FD _ _ _ _ _ hvl hs hc)
 rw [e] at h4
 clear e hs hc hlt
 generalize iH (aX 2 16 u) (aX 2 16 v) 16 = os at h3 h4
 refine Fn.walk 11 Tryz.func59 rfl Tryz.ntmps59 (by simp) fun X => ?_
 repeat (refine stp ?_; intros)
 refine EC.draw 6 (by kernel_rfl) ?_
 simp only [KG, KI, KF, KH]
 repeat
  (first
   | (refine aW (h1) (kk := ?_)) | (refine aW (h2) (kk := ?_))
   | (refine aW (h3) (kk := ?_)) | (refine aW (h4) (kk := ?_)) | (refine sth ?_; intros))
 repeat (refine stp ?_; intros)
 refine EK.jT 0 rfl rfl rfl rfl ?_ rfl
 (exact RL.a)
end E
end Go.Proofs.YtkhjanjlcdhdcaaGreat
