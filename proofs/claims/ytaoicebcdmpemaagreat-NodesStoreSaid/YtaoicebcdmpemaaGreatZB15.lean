/-
 Merged: lemmas of this claim.
 Conditions: none.
-/
import Derived.Test.YtaoicebcdmpemaaGreatZB14
import Derived.Lib.AppendZeros
import Derived.Test.YtaoicebcdmpemaaGreatZB2
import Derived.Lib.Bytealg
import Derived.Lib.BytesEntry
import Derived.Sort.Walk0
import Derived.Test.YtaoicebcdmpemaaGreatZB10
import Derived.Test.YtaoicebcdmpemaaGreatZB6
import Derived.Test.YtaoicebcdmpemaaGreatZB11
import Derived.Shelf.SlSortCmp.WholeK
import Derived.Shelf.SlSortCmp.NoneTotal
import Derived.Test.YtaoicebcdmpemaaGreatZB0
namespace Go.Proofs.YtaoicebcdmpemaaGreat
set_option linter.unusedVariables false
open Go.RowKit Mono Rlp
namespace E

end E
end Go.Proofs.YtaoicebcdmpemaaGreat
namespace Go.Proofs.YtaoicebcdmpemaaGreat
set_option linter.unusedVariables false
set_option maxRecDepth 20000
set_option maxHeartbeats 1000000
open Go.RowKit Mono
abbrev iM (l m : List UInt8) : Int := Lib.compareBytes l m
theorem uy : ∀ a b : List UInt8, Op.bytesLess a b = decide (iM a b < 0)
 | [], [] => rfl
 | _ :: _, [] => rfl
 | [], _ :: _ => rfl
 | a :: x, b :: y => by
  rw [Op.bytesLess, iM, Lib.compareBytes, uy x y]
  by_cases h1 : a < b
  · simp [h1]
  ·
   by_cases h2 : b < a
   ·
    have h3 : ¬ a = b := fun e => by subst e; exact h1 h2
    simp [h1, h2, h3]
   ·
    have h3 : a = b := by
     apply UInt8.toNat_inj.1
     have := UInt8.not_lt.1 h1
     have := UInt8.not_lt.1 h2
     exact Nat.le_antisymm (UInt8.le_iff_toNat_le.1 (UInt8.not_lt.1 h2)) (UInt8.le_iff_toNat_le.1 (UInt8.not_lt.1 h1))
    subst h3
    simp [h1]
theorem lT {w : World} {v : Value} {l : List UInt8} (h : IsB w v l) : (Extern.Bytes.bytesOf v).run Tryz.prog w = .ok (bs l) w := by
 obtain ⟨A, c, rfl, h1, h2, hr⟩ := h
 cases A with
 | none =>
  have : l = [] := by
   by_cases hl : bvs l = []
   · simpa [bvs] using hl
   ·
    obtain ⟨b, o, e, _⟩ := hr hl
    cases e
  subst this
  rfl
 | some ad =>
  have := Lib.run_loadBytesX (P := Tryz.prog) (w := w) (l.map fun x => (x.toNat : Int)) ad .empty fun j x hx => by
   rw [List.getElem?_map] at hx
   obtain ⟨y, hy, rfl⟩ := Option.map_eq_some_iff.1 hx
   obtain ⟨b, o, e, _, hc⟩ := hr (fun e => by have := congrArg List.length e; rw [aJ] at this; simp at this; rw [this] at hy; simp at hy)
   injection e with e
   subst e
   rw [bM]
   exact hc j _ (by simp [bvs, bv, hy])
  rw [Kv] at this
  show (Extern.Bytes.loadBytes ad l.length .empty).run Tryz.prog w = _
  rw [this]
  have h2 : Lib.bytesOf (l.map fun x => (x.toNat : Int)) = l := by
   simp only [Lib.bytesOf, LU]
   refine (MF fun x _ => ?_).trans (List.map_id l)
   simp
  rw [h2]
  simp [bs]
theorem tK {w : World} {v u : Value} {l m : List UInt8} (h1 : IsB w v l) (h2 : IsB w u m) : (Extern.BytealgCompare.compare #[v, u]).run Tryz.prog w = .ok (.int .i64 (iM l m)) w := by
 change Sem.run Tryz.prog (do pure (goInt (Extern.BytealgCompare.cmp (← Extern.Bytes.bytesOf v) (← Extern.Bytes.bytesOf u)))) w = _
 simp only [Kq, lT h1, lT h2, J6, Ku, Lib.cmp_eq]
 rfl
theorem oW (v u : Value) (l m : List UInt8) (w : World) (h1 : IsB w v l) (h2 : IsB w u m) : Calls Tryz.prog 132 #[v, u] w fun e w' => e = .returned (.int .i64 (iM l m)) ∧ w' = w := by
 have hr := tK h1 h2
 go_enter Tryz.func132, Tryz.ntmps132
 go_wp2_with fail
 rw [run_callFunc_extern Tryz.func160 (by kernel_rfl) (by kernel_rfl) (by kernel_rfl) (e := Extern.BytealgCompare.compare) (by kernel_rfl), hr]
 simp only [Result.andThen]
 rw [Oper.upon_value]
 go_wp2_with fail
 exact bodyPost_ret (results_tmp rfl _ _ _) rfl ⟨rfl, rfl⟩
theorem o7 (a b : List UInt8) : Op.bytesLess a b = decide (a < b) := Go.Proofs.bytesLess_eq a b
theorem mX (a b : List UInt8) : decide (iM a b < 0) = decide (a < b) := by rw [← uy, o7]
end Go.Proofs.YtaoicebcdmpemaaGreat
namespace Go.Proofs.YtaoicebcdmpemaaGreat
set_option linter.unusedVariables false
open Go.RowKit Mono Rlp
namespace E
theorem vC : Bin .eql 118 (.v .nilIface) (.v .nilIface) (.bool true) := by
 refine ⟨rfl, fun ok w p q hp hq => ?_⟩
 obtain rfl := (ay.1 hp).2
 obtain rfl := (ay.1 hq).2
 exact ⟨fun x y => by cases x <;> cases y <;> kernel_rfl, by kernel_rfl⟩
end E
end Go.Proofs.YtaoicebcdmpemaaGreat
namespace Go.Proofs.YtaoicebcdmpemaaGreat
set_option linter.unusedVariables false
set_option maxRecDepth 20000
open Go.RowKit Mono Rlp Go.Sort
namespace E
abbrev Pr := List UInt8 × List UInt8
def lg (x : List UInt8 × List UInt8) : Bool := decide (64 < x.1.length) || decide (1048576 < x.2.length)
theorem xH (x : List UInt8 × List UInt8) : Fn 61 [.bs x.1, .bs x.2] (· = .val (.v (.bool (lg x)))) := by
 unfold lg
 refine Fn.walk 13 Tryz.func61 rfl Tryz.ntmps61 (by simp) fun X => ?_
 by_cases h : 64 < x.1.length
 ·
  rw [decide_eq_true h]
  repeat (refine stp ?_; intros)
  exact EK.yZ rfl rfl rfl
 ·
  rw [decide_eq_false h]
  by_cases h2 : 1048576 < x.2.length
  ·
   rw [decide_eq_true h2]
   repeat (refine stp ?_; intros)
   exact EK.yZ rfl rfl rfl
  ·
   rw [decide_eq_false h2]
   repeat (refine stp ?_; intros)
   exact EK.yZ rfl rfl rfl
end E
end Go.Proofs.YtaoicebcdmpemaaGreat
namespace Go.Proofs.YtaoicebcdmpemaaGreat
set_option linter.unusedVariables false
set_option maxRecDepth 20000
set_option maxHeartbeats 8000000
open Go.RowKit Mono Rlp
namespace E
def Bo (ts : List Tn) : List Tn := ts.filter fun t => !t.isNil
structure Dlt (ts R : List Tn) (k i : Nat) : Prop where
 len : R.length = ts.length
 ki : k < i
 le : i ≤ ts.length
 hd : R.take k = Bo (ts.take i)
 tl : R.drop i = ts.drop i
theorem Dlt.at_ {ts R : List Tn} {k i : Nat} (h : Dlt ts R k i) (hi : i < ts.length) : R[i]? = some ts[i] := by
 have h1 := congrArg (fun l => l[0]?) h.tl
 simp only [Nl, Nat.add_zero] at h1
 rw [h1, List.getElem?_eq_getElem hi]
theorem Dlt.skip {ts R : List Tn} {k i : Nat} (h : Dlt ts R k i) (hi : i < ts.length) (hn : ts[i].isNil = true) : Dlt ts R k (i + 1) :=
 ⟨h.len, by have := h.ki; omega, hi, by
  rw [h.hd, KF hi]
  unfold Bo
  rw [List.filter_append, List.filter_cons_of_neg (by simp [hn]), List.filter_nil, MS], by
  have := congrArg (List.drop 1) h.tl
  rwa [Nq, Nq] at this⟩
theorem Dlt.keep {ts R : List Tn} {k i : Nat} (h : Dlt ts R k i) (hi : i < ts.length) (hn : ts[i].isNil = false) : Dlt ts (R.set k ts[i]) (k + 1) (i + 1) :=
 ⟨by rw [Me, h.len], by have := h.ki; omega, hi, by
  have hk : k < R.length := by rw [h.len]; have := h.ki; omega
  rw [KF (by rw [Me]; exact hk), List.getElem_set_self, List.take_set_of_le (Nat.le_refl _), h.hd, KF hi]
  unfold Bo
  rw [List.filter_append, List.filter_cons_of_pos (by simp [hn]), List.filter_nil], by
  have := congrArg (List.drop 1) h.tl
  rw [Nq, Nq] at this
  rw [List.drop_set_of_lt (by have := h.ki; omega)]
  exact this⟩
abbrev Mp := Nat × List Ent
def dNd (x : List UInt8 × List UInt8) : D := .tup [.arr 32 x.1, .bs x.2]
def fM (s : Mp) (x : Pr) : Mp := if dw s.2 x.1 then s else (kC s.1 s.2 x.1, kJ s.1 s.2 x.1 (.bs x.2))
theorem vI (s : Mp) (x : Pr) : (fM s x).2.length = s.2.length + (if dw s.2 x.1 then 0 else 1) := by
 unfold fM
 cases h : dw s.2 x.1 with
 | true => rfl
 | false =>
  rw [if_neg Ll, if_neg Ll]
  dsimp only
  unfold kJ
  rw [h, if_neg Ll, List.length_append]
  rfl
theorem qJ : ∀ (l : List Pr) (s : Mp), s.2.length ≤ (l.foldl fM s).2.length
 | [], s => Nat.le_refl _
 | x :: l, s => by
  have h1 := vI s x
  have h2 := qJ l (fM s x)
  rw [Ld]
  omega
theorem yK (g m : Nat) (l : List Pr) (hb : ∀ x ∈ l, x.2.length ≤ 140737488355328) (hl : l.length ≤ 1099511627776) (s : Mp) :
  FnM 30 [.v (ptr g), .sl 33 (l.map dNd)] [nsO g m, .map m 32 s.1 s.2] (fun r os' => r = .val (.v (.int .i64 (((l.foldl fM s).2.length - s.2.length : Nat) : Int))) ∧ os' = [nsO g m, .map m 32 (l.foldl fM s).1 (l.foldl fM s).2]) := by
 have hml : (l.map dNd).length = l.length := Kv _
 refine FnM.walk 41 Tryz.func30 rfl Tryz.ntmps30 (by simp) fun X => ?_
 repeat (refine stp ?_; intros)
 refine EC.le (Le.pick [1, 0] [_, _] rfl (by decide) rfl) ?_
 refine EC.loop (ι := {x : Nat × Nat × Mp // x.1 ≤ l.length ∧ x.2.2 = (l.take x.1).foldl fM s ∧ x.2.1 = x.2.2.2.length - s.2.length ∧ s.2.length ≤ x.2.2.2.length ∧ x.2.1 ≤ x.1})
  (fun x => ⟨[(5, .val (.v (.int .i64 (x.1.2.1 : Int)))), (12, .val (.v (.int .i64 (x.1.1 : Int)))), (11, .val (.v (.int .i64 ((l.map dNd).length : Int)))), (10, .val (.sl 33 (l.map dNd))), (0, .val (.v (ptr g)))], [.map m 32 x.1.2.2.1 x.1.2.2.2, nsO g m], []⟩)
  (fun x => l.length - x.1.1) ⟨(0, 0, s), Lm _, rfl, by dsimp only; omega, Nat.le_refl _, Nat.le_refl _⟩ ?_ ?_
 · exact Le.kp
 rintro ⟨⟨i, k, c, es⟩, hi, hs, hk, hge, hki⟩
 dsimp only at hi hs hk hge hki ⊢
 by_cases hlt : i < l.length
 ·
  have hd : (l.map dNd)[i]? = some (.tup [.arr 32 l[i].1, .bs l[i].2]) := by rw [List.getElem?_map, List.getElem?_eq_getElem hlt]; rfl
  have hf : (l.take (i + 1)).foldl fM s = fM (c, es) l[i] := by
   rw [KF hlt, MQ, ← hs]
   rfl
  have hal := vI (c, es) l[i]
  have hbl := hb l[i] (LH hlt)
  have hC := mW l[i].2 hbl
  unfold fM at hf hal
  dsimp only at hf hal
  obtain ⟨dv, hdv⟩ : ∃ dv, (aX es l[i].1).getD (.v (.slice none 0 0)) = dv := ⟨_, rfl⟩
  have hl2 : (aX es l[i].1).getD (.v (.slice none 0 0)) = dv ∧ (aX es l[i].1).isSome = dw es l[i].1 := ⟨hdv, (eH es l[i].1).symm⟩
  generalize l[i] = x at *
  obtain ⟨h1, b1⟩ := x
  dsimp only at *
  cases hh : dw es h1 with
  | true =>
   rw [hh] at hl2 hf hal
   rw [if_pos rfl] at hf hal
   repeat (refine stp ?_; intros)
   refine EC.draw 11 (by kernel_rfl) ?_
   simp only [J5, J9, J4, J7]
   repeat
    (first
     | (apply gZ; exact hl2; rfl; (first | exact I0 | exact I1 | exact I2 | exact I3 | exact I4 | exact I5); iterate 5 rfl) | (refine sth ?_; intros))
   repeat (refine stp ?_; intros)
   refine EK.again ⟨(i + 1, k, c, es), hlt, hf.symm, hk, hge, by dsimp only; omega⟩ (by dsimp only; omega) ?_
   simp only [Ls]
   exact Le.kp
  | false =>
   rw [hh] at hl2 hf hal
   rw [if_neg Ll] at hf hal
   rw [if_neg Ll] at hal
   repeat (refine stp ?_; intros)
   refine EC.draw 11 (by kernel_rfl) ?_
   simp only [J5, J9, J4, J7]
   repeat
    (first
     | (apply gZ; exact hl2; rfl; (first | exact I0 | exact I1 | exact I2 | exact I3 | exact I4 | exact I5); iterate 5 rfl) | (refine sth ?_; intros))
   repeat (refine stp ?_; intros)
   refine EC.le (Le.pick [1, 0, 2] [_, _, _] rfl (by decide) rfl) ?_
   refine EC.mD 10 [0, 1, 2, 3, 4, 5, 6, 7, 8] [9] [_] _ (by kernel_rfl) (by kernel_rfl) rfl ?_
   simp only [bI, Lp, LQ, KT, KZ]
   repeat
    (first
     | (refine bP (hC) (kk := ?_)) | (refine sth ?_; intros))
   refine EM.nil ?_
   repeat (first | rw [Ko] | rw [J8])
   refine CH.mut (os := [_]) (rest := []) rfl rfl (Jh (nR rfl rfl rfl rfl rfl)) ?_
   rintro _ _ ⟨rfl, rfl⟩
   try simp only [St.put]
   repeat (first | rw [Ko] | rw [J8])
   refine CH.nil ?_
   try simp only [J4, J7]
   repeat (refine stp ?_; intros)
   refine EK.again ⟨(i + 1, k + 1, kC c es h1, kJ c es h1 (.bs b1)), hlt, hf.symm, by dsimp only at hal ⊢; omega, by dsimp only at hal ⊢; omega, by dsimp only; omega⟩ (by dsimp only; omega) ?_
   simp only [Ls]
   exact Le.kp
 ·
  obtain rfl : i = l.length := by omega
  rw [L8] at hs
  rw [← hs]
  repeat (refine stp ?_; intros)
  refine EK.le (Le.pick [1, 0] [_, _] rfl (by decide) rfl) ?_
  exact EK.aY [nsO g m, .map m 32 c es] rfl rfl (by (repeat first | exact Kr _ | apply List.Sublist.cons_cons | apply List.Sublist.cons)) ⟨by dsimp only; rw [hk], rfl⟩
theorem CS (l : List Pr) (hb : ∀ x ∈ l, x.2.length ≤ 140737488355328) (hl : l.length ≤ 1099511627776) : FnM 19 [.sl 33 (l.map dNd)] [] (fun r os' => ∃ s m, r = .val (.v (ptr s)) ∧ os' = [nsO s m, .map m 32 (l.foldl fM (0, [])).1 (l.foldl fM (0, [])).2]) := by
 refine FnM.walk 11 Tryz.func19 rfl Tryz.ntmps19 (by simp) fun X => ?_
 repeat
  (first
   | (apply jE; (iterate 3 rfl); intro m) | (apply qV; rfl; rfl; rfl; intro g) | (refine stp ?_; intros))
 refine aO (os := [_, _]) (yK g m l hb hl (0, [])) (kk := ?_)
 rintro _ _ ⟨rfl, rfl⟩
 repeat (refine stp ?_; intros)
 exact EK.aY [_, _] rfl rfl (by (repeat first | exact Kr _ | apply List.Sublist.cons_cons | apply List.Sublist.cons)) ⟨g, m, rfl, rfl⟩
theorem EY (s m c : Nat) (es : List Ent) (w b : List UInt8) (h : aX es w = some (.bs b) ∨ aX es w = none ∧ b = []) (hl : b.length ≤ 140737488355328) : FnM 31 [.v (ptr s), .arr 32 w] [nsO s m, .map m 32 c es] (fun r os' => r = .tpl [.bs b, .v (.bool (dw es w))] ∧ os' = [nsO s m, .map m 32 c es]) := by
 have hC := mW b hl
 refine FnM.walk 20 Tryz.func31 rfl Tryz.ntmps31 (by simp) fun X => ?_
 have hE := eH es w
 rcases h with h | ⟨h, rfl⟩
 ·
  rw [h] at hE
  have hl2 : (aX es w).getD (.v (.slice none 0 0)) = .bs b ∧ (aX es w).isSome = true := by rw [h]; exact ⟨rfl, rfl⟩
  rw [hE]
  repeat (refine stp ?_; intros)
  refine EC.draw 10 (by kernel_rfl) ?_
  simp only [J5, J9, J4, J7]
  repeat
   (first
    | (apply gZ; exact hl2; rfl; (first | exact I0 | exact I1 | exact I2 | exact I3 | exact I4 | exact I5); iterate 5 rfl) | (refine sth ?_; intros))
  repeat
   (first
    | (refine bG (hC) (kk := ?_)) | (refine stp ?_; intros))
  exact EK.iC [nsO s m, .map m 32 c es] rfl rfl rfl (aj.refl _ _) (by (repeat first | exact Kr _ | apply List.Sublist.cons_cons | apply List.Sublist.cons)) ⟨rfl, rfl⟩
 ·
  rw [h] at hE
  have hl2 : (aX es w).getD (.v (.slice none 0 0)) = .v (.slice none 0 0) ∧ (aX es w).isSome = false := by rw [h]; exact ⟨rfl, rfl⟩
  rw [hE]
  repeat (refine stp ?_; intros)
  refine EC.draw 10 (by kernel_rfl) ?_
  simp only [J5, J9, J4, J7]
  repeat
   (first
    | (apply gZ; exact hl2; rfl; (first | exact I0 | exact I1 | exact I2 | exact I3 | exact I4 | exact I5); iterate 5 rfl) | (refine sth ?_; intros))
  repeat
   (first
    | (refine bG (hC) (kk := ?_)) | (refine stp ?_; intros))
  exact EK.iC [nsO s m, .map m 32 c es] rfl rfl rfl (aj.refl _ _) (by (repeat first | exact Kr _ | apply List.Sublist.cons_cons | apply List.Sublist.cons)) ⟨rfl, rfl⟩
theorem CU (s m c : Nat) (es : List Ent) (w : List UInt8) : FnM 33 [.v (ptr s), .arr 32 w] [nsO s m, .map m 32 c es] (fun r os' => r = .val (.v (.bool (dw es w))) ∧ os' = [nsO s m, .map m 32 c (fO es w)]) := by
 refine FnM.walk 22 Tryz.func33 rfl Tryz.ntmps33 (by simp) fun X => ?_
 obtain ⟨dv, hdv⟩ : ∃ dv, (aX es w).getD (.v (.slice none 0 0)) = dv := ⟨_, rfl⟩
 have hl2 : (aX es w).getD (.v (.slice none 0 0)) = dv ∧ (aX es w).isSome = dw es w := ⟨hdv, (eH es w).symm⟩
 repeat (refine stp ?_; intros)
 refine EC.draw 10 (by kernel_rfl) ?_
 simp only [J5, J9, J4, J7]
 repeat
  (first
   | (apply gZ; exact hl2; rfl; (first | exact I0 | exact I1 | exact I2 | exact I3 | exact I4 | exact I5); iterate 5 rfl) | (refine sth ?_; intros))
 repeat (refine stp ?_; intros)
 refine EC.draw 5 (by kernel_rfl) ?_
 simp only [J5, J9, J4, J7]
 repeat (refine sth ?_; intros)
 repeat (refine stp ?_; intros)
 exact EK.aY [nsO s m, .map m 32 c (fO es w)] rfl rfl (by (repeat first | exact Kr _ | apply List.Sublist.cons_cons | apply List.Sublist.cons)) ⟨rfl, rfl⟩
theorem zW (l m : List UInt8) : Bin .lss 9 (.v (.string (Go.Proofs.YtaoicebcdmpemaaGreat.bs l))) (.v (.string (Go.Proofs.YtaoicebcdmpemaaGreat.bs m))) (.bool (Op.bytesLess l m)) := by
 refine ⟨rfl, fun ok w p q hp hq => ?_⟩
 obtain rfl := (ay.1 hp).2
 obtain rfl := (ay.1 hq).2
 refine ⟨fun x y => by simp [eqGuard], ?_⟩
 simp [binOp, Op.stringOp, lH]
theorem Ce (l m : List UInt8) : Fn 115 [.arr 32 l, .arr 32 m] (· = .val (.v (.bool (Op.bytesLess l m)))) := by
 have hb := zW l m
 refine Fn.walk 10 Tryz.func115 rfl Tryz.ntmps115 (by simp) fun X => ?_
 repeat (refine stp ?_; intros)
 refine EC.draw 5 (by kernel_rfl) ?_
 simp only [J5, J9, J4, J7]
 repeat
  (first
   | (apply FT; exact kD; iterate 3 rfl) | (apply vM; rfl; exact I0; iterate 4 rfl) | (apply vM; rfl; exact I1; iterate 4 rfl)
   | (refine dR (hrun := hb) (kk := ?_)) | (refine sth ?_; intros))
 repeat (refine stp ?_; intros)
 exact EK.yZ rfl rfl rfl
def eu (x : List UInt8 × List UInt8) : List (List UInt8 × List UInt8) → List (List UInt8 × List UInt8)
 | [] => [x]
 | y :: l => if Op.bytesLess y.1 x.1 then y :: eu x l else if (y.1 == x.1) then y :: l else x :: y :: l
theorem ug (x : List UInt8 × List UInt8) : ∀ l, (eu x l).length ≤ l.length + 1
 | [] => by simp [eu]
 | y :: l => by
  have := ug x l
  rw [eu]
  split
  · simp; omega
  · split <;> simp
theorem zU (ns : List (List UInt8 × List UInt8)) (x : List UInt8 × List UInt8) (hl : ns.length ≤ 1000000000) : Fn 72 [.sl 33 (ns.map dNd), dNd x] (· = .val (.sl 33 ((eu x ns).map dNd))) := by
 have hml : (ns.map dNd).length = ns.length := Kv _
 obtain ⟨xh, xb⟩ := x
 unfold dNd
 dsimp only
 refine FnM.toFn ?_
 generalize hres : eu (xh, xb) ns = res
 refine FnM.walk 51 Tryz.func72 rfl Tryz.ntmps72 (by simp) fun X => ?_
 have hfn : (fun x : List UInt8 × List UInt8 => D.tup [.arr 32 x.1, .bs x.2]) = dNd := rfl
 rw [hfn]
 repeat (refine stp ?_; intros)
 rename_i gx
 refine EC.loop (ι := {k : Nat // k ≤ ns.length ∧ res = ns.take k ++ eu (xh, xb) (ns.drop k)})
  (fun k => ⟨[(5, .val (.v (.int .i64 (k.1 : Int)))), (0, .val (.sl 33 (ns.map dNd))), (3, .val (.v (.pointer (some ⟨gx, 0, none⟩))))], [.var gx 43 (.tup [.arr 32 xh, .bs xb])], []⟩)
  (fun k => ns.length - k.1) ⟨0, Lm _, by rw [← hres]; rfl⟩ ?_ ?_
 · exact Le.kp
 rintro ⟨k, hk, hI⟩
 dsimp only at hk ⊢
 have htk : (ns.map dNd).take k = (ns.take k).map dNd := by rw [List.map_take]
 have hdr : (ns.map dNd).drop k = (ns.drop k).map dNd := by rw [List.map_drop]
 have htl : ((ns.take k).map dNd).length = k := by rw [Kv, L6]; omega
 have hdl : ((ns.drop k).map dNd).length = ns.length - k := by rw [Kv, List.length_drop]
 by_cases hlt : k < ns.length
 ·
  have hd : (ns.map dNd)[k]? = some (.tup [.arr 32 ns[k].1, .bs ns[k].2]) := by rw [List.getElem?_map, List.getElem?_eq_getElem hlt]; rfl
  have hL := Ce ns[k].1 xh
  have he := (gW ns[k].1 xh).1
  rw [KW hlt, eu] at hI
  cases hb : Op.bytesLess ns[k].1 xh with
  | true =>
   rw [hb] at hL
   rw [if_pos hb] at hI
   have hI2 : res = ns.take (k + 1) ++ eu (xh, xb) (ns.drop (k + 1)) := by
    rw [hI, KF hlt, KY]
    rfl
   repeat
    (first
     | (with_reducible apply EC.seq))
   refine EC.draw 14 (by kernel_rfl) ?_
   simp only [J5, J9, J4, J7]
   repeat
    (first
     | (refine bP (hL) (kk := ?_)) | (refine sth ?_; intros))
   repeat (refine stp ?_; intros)
   refine EK.again ⟨k + 1, hlt, hI2⟩ (by dsimp only; omega) ?_
   simp only [Ls]
   exact Le.kp
  | false =>
   rw [hb] at hL
   rw [if_neg (by rw [hb]; decide)] at hI
   cases hq : (ns[k].1 == xh) with
   | true =>
    rw [hq] at he
    rw [if_pos hq, ← KW hlt, LK] at hI
    repeat
     (first
      | (with_reducible apply EC.seq))
    refine EC.draw 14 (by kernel_rfl) ?_
    simp only [J5, J9, J4, J7]
    repeat
     (first
      | (refine bP (hL) (kk := ?_)) | (refine sth ?_; intros))
    repeat (refine stp ?_; intros)
    refine EC.draw 14 (by kernel_rfl) ?_
    simp only [J5, J9, J4, J7]
    repeat
     (first
      | (refine dR (hrun := he) (kk := ?_)) | (refine sth ?_; intros))
    repeat (refine stp ?_; intros)
    rw [hI]
    exact EK.nJ [] rfl rfl (RL.cons Rf.same RL.nil) (Kr _) ⟨rfl, rfl⟩
   | false =>
    rw [hq] at he
    rw [if_neg (by rw [hq]; decide), ← KW hlt] at hI
    have hfin : res.map dNd = [] ++ (ns.take k).map dNd ++ [.tup [.arr 32 xh, .bs xb]] ++ (ns.drop k).map dNd := by
     rw [hI]
     simp [dNd]
    repeat
     (first
      | (with_reducible apply EC.seq))
    refine EC.draw 14 (by kernel_rfl) ?_
    simp only [J5, J9, J4, J7]
    repeat
     (first
      | (refine bP (hL) (kk := ?_)) | (refine sth ?_; intros))
    repeat (refine stp ?_; intros)
    refine EC.draw 14 (by kernel_rfl) ?_
    simp only [J5, J9, J4, J7]
    repeat
     (first
      | (refine dR (hrun := he) (kk := ?_)) | (refine sth ?_; intros))
    repeat (refine stp ?_; intros)
    refine EL.le (Le.row 43 33) ?_
    repeat
     (first
      | (apply pI; (iterate 3 rfl); exact ⟨by omega, by rw [hml, KX]; omega⟩; iterate 2 rfl) | (refine stp ?_; intros))
    refine EC.le (Le.freeze (pre := []) rfl) ?_
    refine EC.le (Le.refine (t := 6) (d' := .sl 33 ((ns.drop k).map dNd)) rfl (Rf.fact (by rw [← hdr]; exact Kt) rfl)) ?_
    simp only [J8]
    refine EC.le (Le.row 43 33) ?_
    refine EC.mD 9 [0, 1, 2, 4, 5, 7] [3, 6, 8] [_] _ (by kernel_rfl) (by kernel_rfl) rfl ?_
    simp only [bI, Lp, LQ, KT, KZ]
    repeat
     (first
      | (apply DF; (iterate 3 rfl); exact ⟨by omega, by rw [hml, KX]; omega⟩; iterate 2 rfl) | (refine sth ?_; intros))
    rw [KX, htk]
    refine EM.nil ?_
    repeat (first | rw [Ko] | rw [J8])
    refine CH.mut (os := [_]) (rest := []) rfl rfl (eG rfl rfl rfl rfl rfl ?_) ?_
    ·
     rw [htl]
     constructor <;> (simp; omega)
    rintro _ _ ⟨v2, rfl, rfl⟩
    try simp only [St.put]
    repeat (first | rw [Ko] | rw [J8])
    refine CH.mut (os := [_]) (rest := []) rfl rfl (eG rfl rfl rfl rfl rfl ?_) ?_
    ·
     rw [htl]
     constructor <;> (simp; omega)
    rintro _ _ ⟨v3, rfl, rfl⟩
    try simp only [St.put]
    repeat (first | rw [Ko] | rw [J8])
    refine CH.mut (os := [_]) (rest := []) rfl rfl (eG rfl rfl rfl rfl rfl ?_) ?_
    ·
     rw [List.length_append, htl, hdl]
     constructor <;> (simp; omega)
    rintro _ _ ⟨v4, rfl, rfl⟩
    try simp only [St.put]
    repeat (first | rw [Ko] | rw [J8])
    refine CH.nil ?_
    try simp only [J4, J7]
    refine EL.le (Le.freeze (pre := []) rfl) ?_
    simp only [J8]
    repeat (refine stp ?_; intros)
    exact EK.nJ [] rfl rfl (RL.cons (Rf.fact (by rw [hfin]; exact Kt) rfl) RL.nil) (Kr _) ⟨rfl, rfl⟩
 ·
  have hke : k = ns.length := by omega
  rw [LJ (by omega), eu] at hI
  have hfin : res.map dNd = [] ++ (ns.take k).map dNd ++ [.tup [.arr 32 xh, .bs xb]] ++ (ns.drop k).map dNd := by
   rw [hI, LJ (by omega)]
   simp [dNd]
  repeat
   (first
    | (with_reducible apply EC.seq))
  refine EC.draw 14 (by kernel_rfl) ?_
  simp only [J5, J9, J4, J7]
  repeat (refine sth ?_; intros)
  repeat (refine stp ?_; intros)
  refine EC.draw 14 (by kernel_rfl) ?_
  simp only [J5, J9, J4, J7]
  repeat (refine sth ?_; intros)
  repeat (refine stp ?_; intros)
  refine EL.le (Le.row 43 33) ?_
  repeat
   (first
    | (apply pI; (iterate 3 rfl); exact ⟨by omega, by rw [hml, KX]; omega⟩; iterate 2 rfl) | (refine stp ?_; intros))
  refine EC.le (Le.freeze (pre := []) rfl) ?_
  refine EC.le (Le.refine (t := 6) (d' := .sl 33 ((ns.drop k).map dNd)) rfl (Rf.fact (by rw [← hdr]; exact Kt) rfl)) ?_
  simp only [J8]
  refine EC.le (Le.row 43 33) ?_
  refine EC.mD 9 [0, 1, 2, 4, 5, 7] [3, 6, 8] [_] _ (by kernel_rfl) (by kernel_rfl) rfl ?_
  simp only [bI, Lp, LQ, KT, KZ]
  repeat
   (first
    | (apply DF; (iterate 3 rfl); exact ⟨by omega, by rw [hml, KX]; omega⟩; iterate 2 rfl) | (refine sth ?_; intros))
  rw [KX, htk]
  refine EM.nil ?_
  repeat (first | rw [Ko] | rw [J8])
  refine CH.mut (os := [_]) (rest := []) rfl rfl (eG rfl rfl rfl rfl rfl ?_) ?_
  ·
   rw [htl]
   constructor <;> (simp; omega)
  rintro _ _ ⟨v2, rfl, rfl⟩
  try simp only [St.put]
  repeat (first | rw [Ko] | rw [J8])
  refine CH.mut (os := [_]) (rest := []) rfl rfl (eG rfl rfl rfl rfl rfl ?_) ?_
  ·
   rw [htl]
   constructor <;> (simp; omega)
  rintro _ _ ⟨v3, rfl, rfl⟩
  try simp only [St.put]
  repeat (first | rw [Ko] | rw [J8])
  refine CH.mut (os := [_]) (rest := []) rfl rfl (eG rfl rfl rfl rfl rfl ?_) ?_
  ·
   rw [List.length_append, htl, hdl]
   constructor <;> (simp; omega)
  rintro _ _ ⟨v4, rfl, rfl⟩
  try simp only [St.put]
  repeat (first | rw [Ko] | rw [J8])
  refine CH.nil ?_
  try simp only [J4, J7]
  refine EL.le (Le.freeze (pre := []) rfl) ?_
  simp only [J8]
  repeat (refine stp ?_; intros)
  exact EK.nJ [] rfl rfl (RL.cons (Rf.fact (by rw [hfin]; exact Kt) rfl) RL.nil) (Kr _) ⟨rfl, rfl⟩

def aW : List Pr → List UInt8 → Option (List UInt8)
 | [], _ => none
 | x :: l, h => if x.1 == h then some x.2 else aW l h
def uT (o : Option (List UInt8)) : R := match o with
 | some b => .tpl [.bs b, .v (.bool true)]
 | none => .tpl [.bs [], .v (.bool false)]
theorem ET (ns : List Pr) (hns : ∀ x ∈ ns, x.1.length = 32) (hlen : ns.length ≤ 1099511627776) (h : List UInt8) : Fn 73 [.sl 33 (ns.map dNd), .bs h] (· = uT (aW ns h)) := by
 have hml : (ns.map dNd).length = ns.length := Kv _
 generalize hres : aW ns h = res
 refine Fn.walk 27 Tryz.func73 rfl Tryz.ntmps73 (by simp) fun X => ?_
 repeat (refine stp ?_; intros)
 refine EC.loop (ι := {i : Nat // i ≤ ns.length ∧ res = aW (ns.drop i) h})
  (fun i => ⟨[(6, .val (.v (.int .i64 (i.1 : Int)))), (0, .val (.sl 33 (ns.map dNd))), (1, .val (.bs h))], [], []⟩)
  (fun i => ns.length - i.1) ⟨0, Lm _, hres.symm⟩ ?_ ?_
 · exact Le.kp
 rintro ⟨i, hi, hI⟩
 dsimp only at hi hI ⊢
 by_cases hlt : i < ns.length
 ·
  have hd : (ns.map dNd)[i]? = some (.tup [.arr 32 ns[i].1, .bs ns[i].2]) := by rw [List.getElem?_map, List.getElem?_eq_getElem hlt]; rfl
  have hb := (fK ns[i].1 h).1
  rw [KW hlt, aW] at hI
  have hw := hns _ (LH hlt)
  cases hq : (ns[i].1 == h) with
  | true =>
   rw [hq] at hb hI
   rw [if_pos rfl] at hI
   generalize ns[i] = x at hd hb hw hI
   repeat (refine stp ?_; intros)
   refine EC.draw 9 (by kernel_rfl) ?_
   simp only [J5, J9, J4, J7]
   repeat
    (first
     | (refine dR (hrun := hb) (kk := ?_)) | (apply sV kD; iterate 6 rfl) | (refine sth ?_; intros))
   repeat (refine stp ?_; intros)
   exact EK.JL rfl rfl rfl (by rw [hI]; rfl)
  | false =>
   rw [hq] at hb hI
   rw [if_neg (by decide)] at hI
   generalize ns[i] = x at hd hb hw
   repeat (refine stp ?_; intros)
   refine EC.draw 9 (by kernel_rfl) ?_
   simp only [J5, J9, J4, J7]
   repeat
    (first
     | (refine dR (hrun := hb) (kk := ?_)) | (apply sV kD; iterate 6 rfl) | (refine sth ?_; intros))
   repeat (refine stp ?_; intros)
   refine EK.again ⟨i + 1, hlt, hI⟩ (by dsimp only; omega) ?_
   simp only [Ls]
   exact Le.kp
 ·
  have hie : i = ns.length := by omega
  subst hie
  rw [List.drop_length, aW] at hI
  repeat (refine stp ?_; intros)
  refine EK.Ja (d' := .bs []) (e' := .v (.bool false)) rfl rfl rfl ?_ (by rw [hI]; rfl)
  (exact RL.a)
section
variable {N : Nat} {X : Cx N} {rs : List (Tmp × R)} {os : List Obj} {fs : List (Value × D)}
theorem Le.IX {g : Nat} {t : TypeId} {d d' : D} (h : Refine fs d d') : Le X ⟨rs, .var g t d :: os, fs⟩ ⟨rs, .var g t d' :: os, fs⟩ := fun a w ha => by
 have hok : ∀ b, X.ok (.var g t d :: os) w b ↔ X.ok (.var g t d' :: os) w b := fun b => ⟨fun hb => ⟨hb.1, hb.2.1, fun o ho => by
   rcases Kz.1 ho with rfl | ho
   · exact hb.2.2 (.var g t d) Kt
   · exact hb.2.2 o (KC _ ho)⟩, fun hb => ⟨hb.1, hb.2.1, fun o ho => by
   rcases Kz.1 ho with rfl | ho
   · exact hb.2.2 (.var g t d') Kt
   · exact hb.2.2 o (KC _ ho)⟩⟩
 have hap := KR.1 ha.mem.apart
 have hf : ∀ f ∈ fs, Reads (X.ok (.var g t d' :: os) w) w f.2 [f.1] := fun f hf => Reads.mono (fun b hb => (hok b).1 hb) (fun _ _ => rfl) _ _ (ha.mem.fact f hf)
 refine ⟨⟨ha.mem.gr, KR.2 ⟨fun p hp b e => hap.1 p hp b e, hap.2⟩, fun o ho => ?_, hf⟩, fun t' r hr => (ha.regs t' r hr).mono (fun b hb => (hok b).1 hb) fun _ _ => rfl, ha.size, ha.defers⟩
 rcases Kz.1 ho with rfl | ho
 ·
  obtain ⟨h1, cs, h2, h3⟩ := ha.mem.at_ (.var g t d) Kt
  exact ⟨h1, cs, h2, (Refine.reads hf _ _ _ h (Reads.mono (fun b hb => (hok b).1 hb) (fun _ _ => rfl) _ _ h3)).1⟩
 · exact (ha.mem.at_ o (KC _ ho)).move (fun b hb => (hok b).1 hb) (fun _ _ => rfl) fun _ _ => rfl
end
abbrev rsO (g : Nat) (L : List Pr) : Obj := .var g 72 (.tup [.sl 33 (L.map dNd)])
def jH (L : List Pr) (x : Pr) : List Pr := eu x L
theorem kH (l : List Pr) : ∀ L, (l.foldl jH L).length ≤ L.length + l.length := by
 induction l with
 | nil => intro L; exact Nat.le_refl _
 | cons x l ih =>
  intro L
  have h1 := ug x L
  have h2 := ih (jH L x)
  rw [Ld, KN]
  have h3 : (jH L x).length = (eu x L).length := rfl
  omega
theorem yJ (g : Nat) (L l : List Pr) (hb : ∀ x ∈ l, x.2.length ≤ 140737488355328) (hl : L.length + l.length ≤ 1000000000) :
  FnM 29 [.v (ptr g), .sl 33 (l.map dNd)] [rsO g L] (fun r os' => r = .val (.v (.int .i64 (((l.foldl jH L).length : Int) - (L.length : Int)))) ∧ os' = [rsO g (l.foldl jH L)]) := by
 have hml : (l.map dNd).length = l.length := Kv _
 have hmL : (L.map dNd).length = L.length := Kv _
 refine FnM.walk 45 Tryz.func29 rfl Tryz.ntmps29 (by simp) fun X => ?_
 repeat (refine stp ?_; intros)
 refine EC.loop (ι := {x : Nat × List Pr // x.1 ≤ l.length ∧ x.2 = (l.take x.1).foldl jH L})
  (fun x => ⟨[(6, .val (.v (.int .i64 (x.1.1 : Int)))), (5, .val (.v (.int .i64 ((L.map dNd).length : Int)))), (1, .val (.sl 33 (l.map dNd))), (0, .val (.v (ptr g)))], [rsO g x.1.2], []⟩)
  (fun x => l.length - x.1.1) ⟨(0, L), Lm _, rfl⟩ ?_ ?_
 · exact Le.kp
 rintro ⟨⟨i, L1⟩, hi, hs⟩
 dsimp only at hi hs ⊢
 by_cases hlt : i < l.length
 ·
  have hd : (l.map dNd)[i]? = some (.tup [.arr 32 l[i].1, .bs l[i].2]) := by rw [List.getElem?_map, List.getElem?_eq_getElem hlt]; rfl
  have hf : (l.take (i + 1)).foldl jH L = eu l[i] L1 := by
   rw [KF hlt, MQ, ← hs]
   rfl
  have hln := kH (l.take i) L
  rw [L6, ← hs] at hln
  have hP := zU L1 l[i] (by omega)
  have hbl := hb l[i] (LH hlt)
  rw [← hf] at hP
  obtain ⟨L2, h2⟩ : ∃ L2, (l.take (i + 1)).foldl jH L = L2 := ⟨_, rfl⟩
  rw [h2] at hP
  generalize l[i] = x at hd hP hbl
  obtain ⟨h1, b1⟩ := x
  dsimp only at hd hP hbl
  repeat (refine stp ?_; intros)
  refine EC.draw 18 (by kernel_rfl) ?_
  simp only [J5, J9, J4, J7]
  repeat
   (first
    | (apply EH.grow (EI rfl rfl hbl); rfl; rfl; rfl) | (refine bP (hP) (kk := ?_)) | (refine sth ?_; intros))
  repeat (refine stp ?_; intros)
  refine EK.again ⟨(i + 1, L2), hlt, h2.symm⟩ (by dsimp only; omega) ?_
  simp only [Ls]
  exact Le.kp
 ·
  obtain rfl : i = l.length := by omega
  rw [L8] at hs
  have hln := kH l L
  rw [← hs] at hln ⊢
  have hm1 : (L1.map dNd).length = L1.length := Kv _
  repeat (refine stp ?_; intros)
  rw [hm1, hmL]
  exact EK.aY [rsO g L1] rfl rfl (by (repeat first | exact Kr _ | apply List.Sublist.cons_cons | apply List.Sublist.cons)) ⟨rfl, rfl⟩
def jo : List Pr → List UInt8 → List Pr
 | [], _ => []
 | x :: l, h => if x.1 == h then l else x :: jo l h
def jh (l : List Pr) (h : List UInt8) : Bool := l.any fun x => x.1 == h
theorem EP (g : Nat) (L : List Pr) (hL : ∀ x ∈ L, x.1.length = 32) (hl : L.length ≤ 1000000000) (w : List UInt8) (hw : w.length = 32) : FnM 32 [.v (ptr g), .arr 32 w] [rsO g L] (fun r os' => r = uT (aW L w) ∧ os' = [rsO g L]) := by
 have hF := ET L hL (by omega) w
 refine FnM.walk 14 Tryz.func32 rfl Tryz.ntmps32 (by simp) fun X => ?_
 unfold uT at hF ⊢
 cases hq : aW L w with
 | some b =>
  rw [hq] at hF
  dsimp only at hF ⊢
  repeat (refine stp ?_; intros)
  refine EC.le (Le.pin (p := 3) (pre := []) rfl rfl) ?_
  simp only [J8]
  refine EC.draw 8 (by kernel_rfl) ?_
  simp only [J5, J9, J4, J7]
  repeat
   (first
    | (refine bP (hF) (kk := ?_)) | (apply sV kD; iterate 6 rfl) | (refine sth ?_; intros))
  repeat (refine stp ?_; intros)
  exact EK.iC [rsO g L] rfl rfl rfl (aj.refl _ _) (by (repeat first | exact Kr _ | apply List.Sublist.cons_cons | apply List.Sublist.cons)) ⟨rfl, rfl⟩
 | none =>
  rw [hq] at hF
  dsimp only at hF ⊢
  repeat (refine stp ?_; intros)
  refine EC.le (Le.pin (p := 3) (pre := []) rfl rfl) ?_
  simp only [J8]
  refine EC.draw 8 (by kernel_rfl) ?_
  simp only [J5, J9, J4, J7]
  repeat
   (first
    | (refine bP (hF) (kk := ?_)) | (apply sV kD; iterate 6 rfl) | (refine sth ?_; intros))
  repeat (refine stp ?_; intros)
  exact EK.iC [rsO g L] rfl rfl rfl (aj.refl _ _) (by (repeat first | exact Kr _ | apply List.Sublist.cons_cons | apply List.Sublist.cons)) ⟨rfl, rfl⟩
theorem Cc (g : Nat) (L : List Pr) (hl : L.length ≤ 1000000000) (w : List UInt8) : FnM 34 [.v (ptr g), .arr 32 w] [rsO g L] (fun r os' => r = .val (.v (.bool (jh L w))) ∧ os' = [rsO g (jo L w)]) := by
 have hmL : (L.map dNd).length = L.length := Kv _
 generalize hD : jo L w = D1
 generalize hH : jh L w = H1
 refine FnM.walk 46 Tryz.func34 rfl Tryz.ntmps34 (by simp) fun X => ?_
 repeat (refine stp ?_; intros)
 rename_i gx
 refine EC.loop (ι := {i : Nat // i ≤ L.length ∧ D1 = L.take i ++ jo (L.drop i) w ∧ H1 = jh (L.drop i) w})
  (fun i => ⟨[(5, .val (.v (.int .i64 (i.1 : Int)))), (0, .val (.v (ptr g))), (3, .val (.v (.pointer (some ⟨gx, 0, none⟩))))], [.var gx 36 (.arr 32 w), rsO g L], []⟩)
  (fun i => L.length - i.1) ⟨0, Lm _, hD.symm, hH.symm⟩ ?_ ?_
 · exact Le.kp
 rintro ⟨i, hi, hI, hJ⟩
 dsimp only at hi hI hJ ⊢
 by_cases hlt : i < L.length
 ·
  have hd : (L.map dNd)[i]? = some (.tup [.arr 32 L[i].1, .bs L[i].2]) := by rw [List.getElem?_map, List.getElem?_eq_getElem hlt]; rfl
  have he := (gW L[i].1 w).1
  rw [KW hlt, jo] at hI
  rw [KW hlt, jh, List.any_cons] at hJ
  cases hq : (L[i].1 == w) with
  | true =>
   rw [hq] at he hI hJ
   rw [if_pos rfl] at hI
   rw [Bool.true_or] at hJ
   have htk : (L.map dNd).take i = (L.take i).map dNd := by rw [List.map_take]
   have hdr : (L.map dNd).drop ((i : Int) + 1).toNat = (L.drop (i + 1)).map dNd := by rw [show ((i : Int) + 1).toNat = i + 1 by omega, List.map_drop]
   have htl : ((L.take i).map dNd).length = i := by rw [Kv, L6]; omega
   have hdl : ((L.drop (i + 1)).map dNd).length = L.length - (i + 1) := by rw [Kv, List.length_drop]
   have hfin : D1.map dNd = [] ++ (L.take i).map dNd ++ (L.drop (i + 1)).map dNd := by
    rw [hI]
    simp
   generalize L[i] = x at hd he
   repeat (refine stp ?_; intros)
   refine EC.draw 10 (by kernel_rfl) ?_
   simp only [J5, J9, J4, J7]
   repeat
    (first
     | (refine dR (hrun := he) (kk := ?_)) | (refine sth ?_; intros))
   repeat (refine stp ?_; intros)
   refine EL.le (Le.row 43 33) ?_
   repeat
    (first
     | (apply pI; (iterate 3 rfl); exact ⟨by omega, by rw [hmL]; omega⟩; iterate 2 rfl) | (refine stp ?_; intros))
   refine EL.le (Le.freeze (pre := []) rfl) ?_
   refine EL.le (Le.refine (t := 6) (d' := .sl 33 ((L.drop (i + 1)).map dNd)) rfl (Rf.fact (by rw [← hdr]; exact Kt) rfl)) ?_
   simp only [J8]
   refine EL.le (Le.row 43 33) ?_
   repeat
    (first
     | (apply Iu; (iterate 3 rfl); exact ⟨by omega, by rw [hmL, KX]; omega⟩; iterate 2 rfl) | (refine stp ?_; intros))
   refine EK.le (Le.freeze (pre := []) rfl) ?_
   simp only [J8]
   refine EK.le (Le.pick [1, 0] [_, _] rfl (by decide) rfl) ?_
   refine EK.le (Le.IX (d' := .tup [.sl 33 (D1.map dNd)]) (Rf.tup (RL.cons (Rf.fact (by rw [hfin, ← htk, J8, KX]; exact Kt) rfl) RL.nil))) ?_
   subst hJ
   exact EK.aY [rsO g D1] rfl rfl (by (repeat first | exact Kr _ | apply List.Sublist.cons_cons | apply List.Sublist.cons)) ⟨rfl, rfl⟩
  | false =>
   rw [hq] at he hI hJ
   rw [if_neg (by decide)] at hI
   rw [Bool.false_or] at hJ
   have hI2 : D1 = L.take (i + 1) ++ jo (L.drop (i + 1)) w := by
    rw [hI, KF hlt, KY]
    rfl
   generalize L[i] = x at hd he
   repeat (refine stp ?_; intros)
   refine EC.draw 10 (by kernel_rfl) ?_
   simp only [J5, J9, J4, J7]
   repeat
    (first
     | (refine dR (hrun := he) (kk := ?_)) | (refine sth ?_; intros))
   repeat (refine stp ?_; intros)
   refine EK.again ⟨i + 1, hlt, hI2, hJ⟩ (by dsimp only; omega) ?_
   simp only [Ls]
   exact Le.kp
 ·
  obtain rfl : i = L.length := by omega
  rw [List.drop_length, jo, L8, MS] at hI
  rw [List.drop_length] at hJ
  obtain rfl : H1 = false := hJ
  subst hI
  repeat (refine stp ?_; intros)
  exact EK.aY [rsO g D1] rfl rfl (by (repeat first | exact Kr _ | apply List.Sublist.cons_cons | apply List.Sublist.cons)) ⟨rfl, rfl⟩
theorem ER (A : List Pr) (hlA : A.length ≤ 1000000000) : Fn 15 [.sl 33 (A.map dNd), .sl 33 (A.map dNd)] (· = .val (.v (.bool true))) := by
 have hml : (A.map dNd).length = A.length := Kv _
 refine FnM.toFn ?_
 refine FnM.walk 43 Tryz.func15 rfl Tryz.ntmps15 (by simp) fun X => ?_
 have hne : kT .neq ((A.map dNd).length : Int) ((A.map dNd).length : Int) = some false := by simp [kT]
 repeat
  (first
   | (apply qU (b := false); (iterate 2 rfl); exact hne; iterate 2 rfl) | (refine stp ?_; intros))
 refine EC.loop (ι := {i : Nat // i ≤ A.length})
  (fun i => ⟨[(5, .val (.v (.int .i64 (i.1 : Int)))), (0, .val (.sl 33 (A.map dNd))), (1, .val (.sl 33 (A.map dNd)))], [], []⟩)
  (fun i => A.length - i.1) ⟨0, Lm _⟩ ?_ ?_
 · exact Le.kp
 rintro ⟨i, hi⟩
 dsimp only at hi ⊢
 by_cases hlt : i < A.length
 ·
  have hd : (A.map dNd)[i]? = some (.tup [.arr 32 A[i].1, .bs A[i].2]) := by rw [List.getElem?_map, List.getElem?_eq_getElem hlt]; rfl
  have h1 := (gW A[i].1 A[i].1).2
  have h2 := (fK A[i].2 A[i].2).2
  rw [bne_self_eq_false] at h1 h2
  generalize A[i] = x at hd h1 h2
  repeat (refine stp ?_; intros)
  refine EC.draw 26 (by kernel_rfl) ?_
  simp only [J5, J9, J4, J7]
  repeat
   (first
    | (refine dR (hrun := h1) (kk := ?_)) | (refine dR (hrun := h2) (kk := ?_)) | (refine sth ?_; intros))
  repeat (refine stp ?_; intros)
  refine EK.again ⟨i + 1, hlt⟩ (by dsimp only; omega) ?_
  simp only [Ls]
  exact Le.kp
 ·
  obtain rfl : i = A.length := by omega
  repeat (refine stp ?_; intros)
  exact EK.aY [] rfl rfl (Kr _) ⟨rfl, rfl⟩
end E
end Go.Proofs.YtaoicebcdmpemaaGreat
