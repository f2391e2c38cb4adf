/-
 Merged: lemmas of this claim.
 Conditions: none.
-/
import Derived.Test.YtkhjanjlcdhdcaaGreatZQ11
import Derived.Test.YtkhjanjlcdhdcaaGreatZQ6
import Derived.Laws.Pointers
import Derived.Test.YtkhjanjlcdhdcaaGreatZQ0
namespace Go.Proofs.YtkhjanjlcdhdcaaGreat
set_option linter.unusedVariables false
open Go.RowKit Mono Rlp
namespace E
abbrev ptr (g : Nat) : Value := .pointer (some ⟨g, 0, none⟩)
theorem lG {T : Nat} (h : IL.contains T = true) (p : Option Addr) : Bin .eql T (.v (.pointer p)) (.v (.pointer none)) (.bool p.isNone) ∧ Bin .neq T (.v (.pointer p)) (.v (.pointer none)) (.bool !p.isNone) := by
 obtain ⟨e, he⟩ := Ku h
 have he : Tryz.prog.underlying T = some (.pointer (Tryz.prog.pointee T)) := by
  unfold Program.pointee
  rw [he]
 refine ⟨⟨rfl, fun ok w p q hp hq => ?_⟩, ⟨rfl, fun ok w p q hp hq => ?_⟩⟩ <;> (obtain rfl := (ay.1 hp).2; obtain rfl := (ay.1 hq).2; refine ⟨fun x y => by simp [eqGuard], ?_⟩)
 · exact run_eql_pointer_nil w T _ he
 · exact run_neq_pointer_nil w T _ he
section
variable {N : Nat} {X : Cx N} {rs : List (Tmp × R)} {os : List Obj} {fs : List (Value × D)}
theorem Le.rot (k : Nat) : Le X ⟨rs, os, fs⟩ ⟨rs, os.drop k ++ os.take k, fs⟩ := Le.perm (by
 have := Lm (l₁ := os.take k) (l₂ := os.drop k)
 rwa [MF] at this)
variable {S : St} {fn : Func} {Φ : R → List Obj → Prop}
theorem pG {os' : List Obj} (h : os'.Sublist os) {w : World} {b : Nat} (hb : X.ok os w b) : X.ok os' w b := ⟨hb.1, hb.2.1, fun o ho => hb.2.2 o (h.subset ho)⟩
theorem EK.IJ (os' : List Obj) (hres : fn.results = #[]) (ho : os'.Sublist S.objs) (hΦ : Φ (.tpl []) os') : EK X (bodyPost Tryz.prog fn (rQ X Φ) .ret) S := by
 constructor
 intro a w ha
 exact bodyPost_ret (results_none hres a.tmps Tryz.prog w) ha.defers ⟨_, _, os', rfl, hΦ, ha.mem.less ho (fun f hf => by cases hf), [], rfl, rfl⟩
theorem EK.cO (os' : List Obj) (hres : fn.results = #[]) (ho : os'.Sublist S.objs) (hΦ : Φ (.tpl []) os') : EK X (bodyPost Tryz.prog fn (rQ X Φ) .normal) S := by
 constructor
 intro a w ha
 have : bodyPost Tryz.prog fn (rQ X Φ) .ret a w := bodyPost_ret (results_none hres a.tmps Tryz.prog w) ha.defers ⟨_, _, os', rfl, hΦ, ha.mem.less ho (fun f hf => by cases hf), [], rfl, rfl⟩
 exact this
theorem EK.aI {t : Tmp} {r : R} (os' : List Obj) (hres : fn.results = #[.tmp t]) (hl : look S.regs t = some r) (ho : os'.Sublist S.objs) (hΦ : Φ r os') : EK X (bodyPost Tryz.prog fn (rQ X Φ) .ret) S := by
 constructor
 intro a w ha
 exact bodyPost_ret (results_tmp hres a.tmps Tryz.prog w) ha.defers ⟨_, r, os', rfl, hΦ, ha.mem.less ho (fun f hf => by cases hf), (ha.regs t r hl).mono (fun b hb => pG ho hb) fun _ _ => rfl⟩
theorem EK.kV {p : Tmp} {g ty : Nat} {t : TypeId} {d d' : D} (i : Nat) (os' : List Obj) (hres : fn.results = #[.cell p ty]) (hl : look S.regs p = some (.val (.v (.pointer (some ⟨g, 0, none⟩))))) (hi : S.objs[i]? = some (.var g t d)) (hT : assoc tyL ty = some (d.size, d.agg)) (hR : aj S.facts [d] [d']) (ho : os'.Sublist S.objs) (hΦ : Φ (.val d') os') : EK X (bodyPost Tryz.prog fn (rQ X Φ) .ret) S := by
 constructor
 intro a w ha
 obtain ⟨x, h1, h2⟩ := qm ha.mem hi (tyI hT)
 have hp := (ay.1 (ha.regs p _ hl)).2
 have hp' : a.tmps[p]?.getD undef = .pointer (some ⟨g, 0, none⟩) := by simpa using hp
 have h3 : aN (X.ok S.objs w) w (.val d') x := Refine1.jA ha.mem.fact hR h2
 refine bodyPost_ret (v := x) ?_ ha.defers ⟨_, _, os', rfl, hΦ, ha.mem.less ho (fun f hf => by cases hf), h3.mono (fun b hb => pG ho hb) fun _ _ => rfl⟩
 simp [results, hres, hp', asAddr, h1]
end
section
variable {N : Nat} {X : Cx N} {ops : Array Oper} {Q : Exit → Act → World → Prop}
theorem aK {l' : List Oper} {t ty f : Nat} {pos : String} {af : Array Edge} {gd : Option (Nat × Bool)} {args : Array Operand} {tys : Array TypeId} {ds ds' : List D} {Φ : R → List Obj → Prop} {rs : List (Tmp × R)} {os os0 : List Obj} {fs : List (Value × D)} (hF : FnM f ds' os Φ) (l1 l2 : List Obj) (hos : os0 = l1 ++ (os ++ l2))
  (hx : evs (⟨rs, l1 ++ l2, fs⟩ : St) args.toList = some ds) (hR : aj fs ds ds') (hf : Enters f) (hg : guardOf ops ⟨rs, os ++ (l1 ++ l2), fs⟩ ⟨some t, .call { callee := .value (.func f), args := args, argTypes := tys }, ty, pos, af, gd⟩ = some true) (hN : Nat.blt t N = true) (k : ∀ r os', Φ r os' → EL X ops Q l' ⟨(t, r) :: rs, l1 ++ (os' ++ l2), fs⟩) : EL X ops Q (⟨some t, .call { callee := .value (.func f), args := args, argTypes := tys }, ty, pos, af, gd⟩ :: l') ⟨rs, os0, fs⟩ := by
 subst hos
 have hp : ∀ os : List Obj, (l1 ++ (os ++ l2)).Perm (os ++ (l1 ++ l2)) := fun os => by
  rw [← Lc, ← Lc]
  exact Oh _ Lm
 exact EL.le (Le.perm (hp os)) (bJ hF rfl hx hR hf hg hN fun r os' h => EL.le (Le.perm (hp os').symm) (k r os' h))
theorem EK.II {fn : Func} {Φ : R → List Obj → Prop} {S : St} {t : Tmp} {d d' : D} (os' : List Obj) (hres : fn.results = #[.tmp t]) (hl : look S.regs t = some (.val d)) (hR : aj S.facts [d] [d']) (ho : os'.Sublist S.objs) (hΦ : Φ (.val d') os') : EK X (bodyPost Tryz.prog fn (rQ X Φ) .ret) S := by
 refine EK.le (S' := ⟨S.regs, os', S.facts⟩) ?_ (EK.IG hres hl hR hΦ)
 exact fun a w h => ⟨h.mem.less ho (fun f hf => hf), fun t r ht => aN.mono (fun b hb => pG ho hb) (fun _ _ => rfl) (h.regs t r ht), h.size, h.defers⟩
end
end E
end Go.Proofs.YtkhjanjlcdhdcaaGreat
namespace Go.Proofs.YtkhjanjlcdhdcaaGreat
set_option linter.unusedVariables false
set_option maxRecDepth 20000
set_option maxHeartbeats 4000000
open Go.RowKit Mono Rlp Wd
namespace E
abbrev stO (g m : Nat) (u k : Value) (n : Int) : Obj := .var g 56 (.tup [.v (.map (some m)), .v u, .v k, .v (.int .i64 n)])
abbrev smO (m c : Nat) (es : List Ent) : Obj := .map m 20 c es
abbrev unO (v : Value) (us : List D) : Obj := .row v 80 1 us
abbrev mkO (v : Value) (ks : List D) : Obj := .row v 73 2 ks
abbrev acO (g : Nat) (n : Int) (w c : List UInt8) (m : Value) : Obj := .var g 61 (.tup [.v (.int .i64 n), .arr 32 w, .bs c, .v m])
abbrev zaO (g : Nat) : Obj := .var g 61 (.tup [.v (.int .i64 0), .arr 32 zero32, .v (.slice none 0 0), .v (.map none)])
section
variable {g m c ga gs : Nat} {u k : Value} {n : Int} {es : List Ent} {a : List UInt8} {us ks : List D}
theorem zV (h : aJ es a = some (.v (ptr ga))) : FnM 48 [.v (ptr g), .arr 20 a] [stO g m u k n, smO m c es] (fun r os' => r = .val (.v (ptr ga)) ∧ os' = [stO g m u k n, smO m c es]) := by
 have hg : (aJ es a).getD (.v (.pointer none)) = .v (ptr ga) := by rw [h]; rfl
 have hn := (lG (T := 57) rfl (some ⟨ga, 0, none⟩)).2
 refine FnM.walk 17 Tryz.func48 rfl Tryz.ntmps48 (by simp) fun X => ?_
 repeat (refine stp ?_; intros)
 refine EC.draw 6 (by kernel_rfl) ?_
 simp only [KG, KI, KF, KH]
 repeat
  (first
   | (apply bY; exact hg; rfl; (first | exact I0 | exact I1 | exact I2); iterate 5 rfl) | (refine sth ?_; intros))
 repeat
  (first
   | (refine bM (hrun := hn) (kk := ?_)) | (refine stp ?_; intros))
 exact EK.aI [stO g m u k n, smO m c es] rfl rfl (by (repeat first | exact KO _ | apply List.Sublist.cons_cons | apply List.Sublist.cons)) ⟨rfl, rfl⟩
theorem uO (h : aJ es a = none) : FnM 48 [.v (ptr g), .arr 20 a] [stO g m u k n, smO m c es] (fun r os' => ∃ ga, r = .val (.v (ptr ga)) ∧ os' = [zaO ga, stO g m u k n, smO m c es]) := by
 have hg : (aJ es a).getD (.v (.pointer none)) = .v (.pointer none) := by rw [h]; rfl
 have hn := (lG (T := 57) rfl none).2
 refine FnM.walk 17 Tryz.func48 rfl Tryz.ntmps48 (by simp) fun X => ?_
 repeat (refine stp ?_; intros)
 refine EC.draw 6 (by kernel_rfl) ?_
 simp only [KG, KI, KF, KH]
 repeat
  (first
   | (apply bY; exact hg; rfl; (first | exact I0 | exact I1 | exact I2); iterate 5 rfl) | (refine sth ?_; intros))
 repeat
  (first
   | (refine bM (hrun := hn) (kk := ?_)) | (refine stp ?_; intros))
 rename_i ga
 exact EK.aI [zaO ga, stO g m u k n, smO m c es] rfl rfl (by (repeat first | exact KO _ | apply List.Sublist.cons_cons | apply List.Sublist.cons)) ⟨ga, rfl, rfl⟩
theorem qV {b : Int} {w cd : List UInt8} {sv : Value} (h : aJ es a = some (.v (ptr ga))) : FnM 51 [.v (ptr g), .arr 20 a] [stO g m u k n, smO m c es, acO ga b w cd sv] (fun r os' => r = .val (.arr 32 w) ∧ os' = [stO g m u k n, smO m c es, acO ga b w cd sv]) := by
 have h1 := zV (g := g) (m := m) (c := c) (u := u) (k := k) (n := n) h
 refine FnM.walk 11 Tryz.func51 rfl Tryz.ntmps51 (by simp) fun X => ?_
 repeat (refine stp ?_; intros)
 rename_i g3 g4
 refine EL.le (Le.rot 2) ?_
 simp only [KF, KH, KG, KI, KD, KE]
 repeat
  (first
   | (refine gq (h1) (kk := ?_)) | (refine stp ?_; intros))
 exact EK.kV 3 [stO g m u k n, smO m c es, acO ga b w cd sv] rfl rfl rfl rfl (by repeat first | exact aj.refl _ _ | exact RL.nil | exact Rf.same) (by (repeat first | exact KO _ | apply List.Sublist.cons_cons | apply List.Sublist.cons)) ⟨rfl, rfl⟩
theorem o7 (h : aJ es a = none) : FnM 51 [.v (ptr g), .arr 20 a] [stO g m u k n, smO m c es] (fun r os' => r = .val (.arr 32 zero32) ∧ os' = [stO g m u k n, smO m c es]) := by
 have h1 := uO (g := g) (m := m) (c := c) (u := u) (k := k) (n := n) h
 refine FnM.walk 11 Tryz.func51 rfl Tryz.ntmps51 (by simp) fun X => ?_
 repeat (refine stp ?_; intros)
 rename_i g3 g4
 refine EL.le (Le.rot 2) ?_
 simp only [KF, KH, KG, KI, KD, KE]
 repeat
  (first
   | (refine bJ h1 (kk := ?_); rintro _ _ ⟨ga, rfl, rfl⟩) | (refine stp ?_; intros))
 exact EK.kV 3 [stO g m u k n, smO m c es] rfl rfl rfl rfl (by repeat first | exact aj.refl _ _ | exact RL.nil | exact Rf.same) (by (repeat first | exact KO _ | apply List.Sublist.cons_cons | apply List.Sublist.cons)) ⟨rfl, rfl⟩
theorem qE {b : Int} {w cd : List UInt8} {sv : Value} (h : aJ es a = some (.v (ptr ga))) : FnM 17 [.v (ptr g), .arr 20 a] [stO g m u k n, smO m c es, acO ga b w cd sv] (fun r os' => r = .val (.v (.int .i64 b)) ∧ os' = [stO g m u k n, smO m c es, acO ga b w cd sv]) := by
 have h1 := zV (g := g) (m := m) (c := c) (u := u) (k := k) (n := n) h
 refine FnM.walk 11 Tryz.func17 rfl Tryz.ntmps17 (by simp) fun X => ?_
 repeat (refine stp ?_; intros)
 rename_i g3
 refine EL.le (Le.rot 1) ?_
 simp only [KF, KH, KG, KI, KD, KE]
 repeat
  (first
   | (refine gq (h1) (kk := ?_)) | (refine stp ?_; intros))
 exact EK.aI [stO g m u k n, smO m c es, acO ga b w cd sv] rfl rfl (by (repeat first | exact KO _ | apply List.Sublist.cons_cons | apply List.Sublist.cons)) ⟨rfl, rfl⟩
theorem Bg (h : aJ es a = none) : FnM 17 [.v (ptr g), .arr 20 a] [stO g m u k n, smO m c es] (fun r os' => r = .val (.v (.int .i64 0)) ∧ os' = [stO g m u k n, smO m c es]) := by
 have h1 := uO (g := g) (m := m) (c := c) (u := u) (k := k) (n := n) h
 refine FnM.walk 11 Tryz.func17 rfl Tryz.ntmps17 (by simp) fun X => ?_
 repeat (refine stp ?_; intros)
 rename_i g3
 refine EL.le (Le.rot 1) ?_
 simp only [KF, KH, KG, KI, KD, KE]
 repeat
  (first
   | (refine bJ h1 (kk := ?_); rintro _ _ ⟨ga, rfl, rfl⟩) | (refine stp ?_; intros))
 exact EK.aI [stO g m u k n, smO m c es] rfl rfl (by (repeat first | exact KO _ | apply List.Sublist.cons_cons | apply List.Sublist.cons)) ⟨rfl, rfl⟩
end
section
variable {N : Nat} {X : Cx N} {rs : List (Tmp × R)} {os : List Obj} {fs : List (Value × D)}
theorem Le.yL {g : Nat} {t : TypeId} {d d' : D} (h : Refine fs d d') : Le X ⟨rs, .var g t d :: os, fs⟩ ⟨rs, .var g t d' :: os, fs⟩ := fun a w ha => by
 have hok : ∀ b, X.ok (.var g t d :: os) w b ↔ X.ok (.var g t d' :: os) w b := fun b => ⟨fun hb => ⟨hb.1, hb.2.1, fun o ho => by
   rcases KT.1 ho with rfl | ho
   · exact hb.2.2 (.var g t d) KQ
   · exact hb.2.2 o (Ld _ ho)⟩, fun hb => ⟨hb.1, hb.2.1, fun o ho => by
   rcases KT.1 ho with rfl | ho
   · exact hb.2.2 (.var g t d') KQ
   · exact hb.2.2 o (Ld _ ho)⟩⟩
 have hap := LY.1 ha.mem.apart
 have hf : ∀ f ∈ fs, Reads (X.ok (.var g t d' :: os) w) w f.2 [f.1] := fun f hf => Reads.mono (fun b hb => (hok b).1 hb) (fun _ _ => rfl) _ _ (ha.mem.fact f hf)
 refine ⟨⟨ha.mem.gr, LY.2 ⟨fun p hp b e => hap.1 p hp b e, hap.2⟩, fun o ho => ?_, hf⟩, fun t' r hr => (ha.regs t' r hr).mono (fun b hb => (hok b).1 hb) fun _ _ => rfl, ha.size, ha.defers⟩
 rcases KT.1 ho with rfl | ho
 ·
  obtain ⟨h1, cs, h2, h3⟩ := ha.mem.at_ (.var g t d) KQ
  exact ⟨h1, cs, h2, (Refine.reads hf _ _ _ h (Reads.mono (fun b hb => (hok b).1 hb) (fun _ _ => rfl) _ _ h3)).1⟩
 · exact (ha.mem.at_ o (Ld _ ho)).move (fun b hb => (hok b).1 hb) (fun _ _ => rfl) fun _ _ => rfl
end
section
variable {g m c ga gs T : Nat} {u k : Value} {n : Int} {es : List Ent} {a : List UInt8} {us ks : List D} {d : D}
def bC (ks us : List D) (d : D) : List D := if ks.length = 0 then us else us ++ [d]
theorem nZ (h : aJ es a = some (.v (ptr ga))) (hu : us.length < 1099511627776) : FnM 47 [.v (ptr g), .arr 20 a, .ifc T d] [stO g m u k n, smO m c es, unO u us, mkO k ks] (fun r os' => ∃ u', r = .val (.v (ptr ga)) ∧ os' = [stO g m u' k n, smO m c es, unO u' (bC ks us (.ifc T d)), mkO k ks]) := by
 have hg : (aJ es a).getD (.v (.pointer none)) = .v (ptr ga) := by rw [h]; rfl
 have hn := (lG (T := 57) rfl (some ⟨ga, 0, none⟩)).1
 refine FnM.walk 44 Tryz.func47 rfl Tryz.ntmps47 (by simp) fun X => ?_
 by_cases hk : ks.length = 0
 ·
  obtain rfl : ks = [] := MX hk
  rw [show bC [] us (.ifc T d) = us from rfl]
  repeat (refine stp ?_; intros)
  refine EC.draw 7 (by kernel_rfl) ?_
  simp only [KG, KI, KF, KH]
  repeat
   (first
    | (apply bY; exact hg; rfl; (first | exact I0 | exact I1 | exact I2); iterate 5 rfl) | (refine dP (hrun := hn) (kk := ?_)) | (refine sth ?_; intros))
  repeat (refine stp ?_; intros)
  refine EC.draw 6 (by kernel_rfl) ?_
  simp only [KG, KI, KF, KH]
  repeat
   (first
    | (apply bY; exact hg; rfl; (first | exact I0 | exact I1 | exact I2); iterate 5 rfl) | (refine sth ?_; intros))
  repeat (refine stp ?_; intros)
  exact EK.aI [stO g m u k n, smO m c es, unO u us, mkO k []] rfl rfl (by (repeat first | exact KO _ | apply List.Sublist.cons_cons | apply List.Sublist.cons)) ⟨u, rfl, rfl⟩
 ·
  have hU : bC ks us (.ifc T d) = us ++ [.ifc T d] := if_neg hk
  rw [hU]
  repeat (refine stp ?_; intros)
  rename_i u'
  refine EC.draw 7 (by kernel_rfl) ?_
  simp only [KG, KI, KF, KH]
  repeat
   (first
    | (apply bY; exact hg; rfl; (first | exact I0 | exact I1 | exact I2); iterate 5 rfl) | (refine dP (hrun := hn) (kk := ?_)) | (refine sth ?_; intros))
  repeat (refine stp ?_; intros)
  refine EC.draw 6 (by kernel_rfl) ?_
  simp only [KG, KI, KF, KH]
  repeat
   (first
    | (apply bY; exact hg; rfl; (first | exact I0 | exact I1 | exact I2); iterate 5 rfl) | (refine sth ?_; intros))
  repeat (refine stp ?_; intros)
  exact EK.aI [stO g m u' k n, smO m c es, unO u' (us ++ [.ifc T d]), mkO k ks] rfl rfl (by (repeat first | exact KO _ | apply List.Sublist.cons_cons | apply List.Sublist.cons)) ⟨u', rfl, rfl⟩
theorem iw (h : aJ es a = none) (hu : us.length < 1099511627776) : FnM 47 [.v (ptr g), .arr 20 a, .ifc T d] [stO g m u k n, smO m c es, unO u us, mkO k ks] (fun r os' => ∃ u' ga gs, r = .val (.v (ptr ga)) ∧ os' = [acO ga 0 zero32 [] (.map (some gs)), .map gs 32 0 [], stO g m u' k n, smO m (bG c es a) (bK c es a (.v (ptr ga))), unO u' (bC ks us (.ifc T d)), mkO k ks]) := by
 have hg : (aJ es a).getD (.v (.pointer none)) = .v (.pointer none) := by rw [h]; rfl
 have hg2 : ∀ ga, (aJ (bK c es a (.v (ptr ga))) a).getD (.v (.pointer none)) = .v (ptr ga) := fun ga => by rw [dX, if_pos rfl]; rfl
 have hn := (lG (T := 57) rfl none).1
 refine FnM.walk 44 Tryz.func47 rfl Tryz.ntmps47 (by simp) fun X => ?_
 by_cases hk : ks.length = 0
 ·
  obtain rfl : ks = [] := MX hk
  rw [show bC [] us (.ifc T d) = us from rfl]
  repeat (refine stp ?_; intros)
  refine EC.draw 7 (by kernel_rfl) ?_
  simp only [KG, KI, KF, KH]
  repeat
   (first
    | (apply bY; exact hg; rfl; (first | exact I0 | exact I1 | exact I2); iterate 5 rfl) | (refine dP (hrun := hn) (kk := ?_)) | (refine sth ?_; intros))
  repeat (refine stp ?_; intros)
  refine EC.bI 8 [0, 1, 2, 3, 4] [5, 6, 7] [] _ (by kernel_rfl) (by kernel_rfl) rfl ?_
  simp only [aA, KU, KY, KN, KP]
  repeat (refine sth ?_; intros)
  refine EM.nil ?_
  repeat (first | rw [KD] | rw [KE])
  refine CH.mut (os := []) (rest := []) rfl rfl (gU rfl rfl) ?_
  rintro _ _ ⟨gs, rfl, rfl⟩
  try simp only [St.put]
  repeat (first | rw [KD] | rw [KE])
  refine CH.cut 1 ?_
  simp only [KG, KI, KF, KH]
  repeat (refine sth ?_; intros)
  refine EM.nil ?_
  repeat (first | rw [KD] | rw [KE])
  refine CH.mut (os := []) (rest := [_]) rfl rfl (xk rfl rfl) ?_
  rintro _ _ ⟨ga, rfl, rfl⟩
  try simp only [St.put]
  repeat (first | rw [KD] | rw [KE])
  refine CH.nil ?_
  try simp only [KF, KH]
  repeat (refine stp ?_; intros)
  refine EC.draw 6 (by kernel_rfl) ?_
  simp only [KG, KI, KF, KH]
  repeat
   (first
    | (apply bY; exact hg2 ga; rfl; (first | exact I0 | exact I1 | exact I2 | exact I3 | exact I4 | exact I5); iterate 5 rfl) | (refine sth ?_; intros))
  repeat (refine stp ?_; intros)
  refine EK.le (Le.yL (d' := .tup [.v (.int .i64 0), .arr 32 zero32, .bs [], .v (.map (some gs))]) ?_) ?_
  · exact Rf.tup (RL.cons Rf.same (RL.cons Rf.same (RL.cons Rf.bs0 (RL.cons Rf.same RL.nil))))
  exact EK.aI [acO ga 0 zero32 [] (.map (some gs)), .map gs 32 0 [], stO g m u k n, smO m (bG c es a) (bK c es a (.v (ptr ga))), unO u us, mkO k []] rfl rfl (by (repeat first | exact KO _ | apply List.Sublist.cons_cons | apply List.Sublist.cons)) ⟨u, ga, gs, rfl, rfl⟩
 ·
  have hU : bC ks us (.ifc T d) = us ++ [.ifc T d] := if_neg hk
  rw [hU]
  repeat (refine stp ?_; intros)
  rename_i u'
  refine EC.draw 7 (by kernel_rfl) ?_
  simp only [KG, KI, KF, KH]
  repeat
   (first
    | (apply bY; exact hg; rfl; (first | exact I0 | exact I1 | exact I2); iterate 5 rfl) | (refine dP (hrun := hn) (kk := ?_)) | (refine sth ?_; intros))
  repeat (refine stp ?_; intros)
  refine EC.bI 8 [0, 1, 2, 3, 4] [5, 6, 7] [] _ (by kernel_rfl) (by kernel_rfl) rfl ?_
  simp only [aA, KU, KY, KN, KP]
  repeat (refine sth ?_; intros)
  refine EM.nil ?_
  repeat (first | rw [KD] | rw [KE])
  refine CH.mut (os := []) (rest := []) rfl rfl (gU rfl rfl) ?_
  rintro _ _ ⟨gs, rfl, rfl⟩
  try simp only [St.put]
  repeat (first | rw [KD] | rw [KE])
  refine CH.cut 1 ?_
  simp only [KG, KI, KF, KH]
  repeat (refine sth ?_; intros)
  refine EM.nil ?_
  repeat (first | rw [KD] | rw [KE])
  refine CH.mut (os := []) (rest := [_]) rfl rfl (xk rfl rfl) ?_
  rintro _ _ ⟨ga, rfl, rfl⟩
  try simp only [St.put]
  repeat (first | rw [KD] | rw [KE])
  refine CH.nil ?_
  try simp only [KF, KH]
  repeat (refine stp ?_; intros)
  refine EC.draw 6 (by kernel_rfl) ?_
  simp only [KG, KI, KF, KH]
  repeat
   (first
    | (apply bY; exact hg2 ga; rfl; (first | exact I0 | exact I1 | exact I2 | exact I3 | exact I4 | exact I5); iterate 5 rfl) | (refine sth ?_; intros))
  repeat (refine stp ?_; intros)
  refine EK.le (Le.yL (d' := .tup [.v (.int .i64 0), .arr 32 zero32, .bs [], .v (.map (some gs))]) ?_) ?_
  · exact Rf.tup (RL.cons Rf.same (RL.cons Rf.same (RL.cons Rf.bs0 (RL.cons Rf.same RL.nil))))
  exact EK.aI [acO ga 0 zero32 [] (.map (some gs)), .map gs 32 0 [], stO g m u' k n, smO m (bG c es a) (bK c es a (.v (ptr ga))), unO u' (us ++ [.ifc T d]), mkO k ks] rfl rfl (by (repeat first | exact KO _ | apply List.Sublist.cons_cons | apply List.Sublist.cons)) ⟨u', ga, gs, rfl, rfl⟩
end
end E
end Go.Proofs.YtkhjanjlcdhdcaaGreat
namespace Go.Proofs.YtkhjanjlcdhdcaaGreat
set_option linter.unusedVariables false
open Go.RowKit Mono Rlp
namespace E
theorem jB {α : Type} : ∀ l : List α, (List.range l.length).filterMap (fun i => l[i]?) = l
 | [] => rfl
 | x :: l => by
  rw [LX, List.range_succ_eq_map, KU]
  simp only [KN, List.filterMap_map]
  congr 1
  exact jB l
theorem gQ {os : List Obj} (l : List Nat) (hn : os.length = l.length) (h : l.Perm (List.range l.length)) : os.Perm (l.filterMap fun i => os[i]?) := by
 have := h.filterMap fun i => os[i]?
 rw [← hn, jB] at this
 exact this.symm
theorem Le.pick {N : Nat} {X : Cx N} {rs : List (Tmp × R)} {os : List Obj} {fs : List (Value × D)} (l : List Nat) (os' : List Obj) (hn : os.length = l.length) (h : l.Perm (List.range l.length)) (hp : (l.filterMap fun i => os[i]?) = os') : Le X ⟨rs, os, fs⟩ ⟨rs, os', fs⟩ := hp ▸ Le.perm (gQ l hn h)
theorem FnM.pick {f : FuncId} {ds : List D} {os : List Obj} {Φ : R → List Obj → Prop} (hF : FnM f ds os Φ) (l : List Nat) (hn : os.length = l.length) (h : l.Perm (List.range l.length)) : FnM f ds (l.filterMap fun i => os[i]?) Φ := hF.perm (gQ l hn h)
theorem FnM.out {f : FuncId} {ds : List D} {os : List Obj} {Φ Ψ : R → List Obj → Prop} (hF : FnM f ds os Φ) (k : ∀ r os', Φ r os' → ∃ os2, os'.Perm os2 ∧ Ψ r os2) : FnM f ds os Ψ := ⟨fun ok w xs h1 h2 h3 => (hF.go ok w xs h1 h2 h3).mono fun e w' ⟨v, r, os', e1, e2, e3, e4⟩ => by
 obtain ⟨os2, hp, hΨ⟩ := k r os' e2
 have hok : okM ok os w os' w' = okM ok os w os2 w' := funext fun b => propext ⟨fun h => ⟨h.1, h.2.1, fun o ho => h.2.2 o (hp.mem_iff.2 ho)⟩, fun h => ⟨h.1, h.2.1, fun o ho => h.2.2 o (hp.mem_iff.1 ho)⟩⟩
 exact ⟨v, r, os2, e1, hΨ, ⟨e3.gr, e3.apart.perm hp, fun o ho => hok ▸ e3.at_ o (hp.mem_iff.2 ho)⟩, hok ▸ e4⟩⟩
theorem FnM.frame {f : FuncId} {ds : List D} {os : List Obj} {Φ : R → List Obj → Prop} (hF : FnM f ds os Φ) (rest : List Obj) : FnM f ds (os ++ rest) (fun r os' => ∃ os2, Φ r os2 ∧ os' = os2 ++ rest) := by
 constructor
 intro ok w xs hok hown hr
 have hap := LQ.1 hown.apart
 have hown1 : Own ok os w := ⟨fun o ho => hown.at_ o (Ll _ ho), hap.1, fun b ⟨o, ho, e⟩ => hown.off b ⟨o, Ll _ ho, e⟩⟩
 refine (hF.go ok w xs hok hown1 hr).mono ?_
 rintro e w' ⟨v, r, os', rfl, hΦ, ht, hv⟩
 have hrest : ∀ o ∈ rest, ∀ b, o.blk = some b → b < w.heap.size := fun o ho b e => (Obj.aZ (hown.at_ o (Lp _ ho)) e).2
 have hoff : ∀ b, (ok b ∨ jH os b ∨ w.heap.size ≤ b) → ∀ o ∈ rest, o.blk ≠ some b := fun b hb o ho e => by
  rcases hb with h | ⟨o', ho', e'⟩ | h
  · exact hown.off b ⟨o, Lp _ ho, e⟩ h
  · exact hap.2.2 o' ho' o ho b e' e
  ·
   have := hrest o ho b e
   omega
 have hbl : ∀ b, jH os b → jH (os ++ rest) b := fun b ⟨o, ho, e⟩ => ⟨o, Ll _ ho, e⟩
 have hz : ∀ b, okM ok os w os' w' b → okM ok (os ++ rest) w (os' ++ rest) w' b := fun b hb => ⟨hb.1.imp id (Or.imp (hbl b) id), hb.2.1, fun o ho => by
  rcases LH.1 ho with ho | ho
  · exact hb.2.2 o ho
  · exact hoff b hb.1 o ho⟩
 have hblk : ∀ o ∈ os', ∀ b, o.blk = some b → jH os b ∨ w.heap.size ≤ b := fun o ho b e => (Obj.aZ (ht.at_ o ho) e).1
 have hnew : ∀ b, ok b → ∀ o ∈ os', o.blk ≠ some b := fun b hb o ho e => by
  rcases hblk o ho b e with h | h
  · exact hown1.off b h hb
  ·
   have := hok b hb
   omega
 refine ⟨v, r, os' ++ rest, rfl, ⟨os', hΦ, rfl⟩, ⟨?_, LQ.2 ⟨ht.apart, hap.2.1, fun o ho p hp b e e' => ?_⟩, fun o ho => ?_⟩, aN.mono hz (fun _ _ => rfl) hv⟩
 · exact (GrE.refl w).step ht.gr fun b hb => .inl (hbl b hb)
 · exact hoff b (.inr (hblk o ho b e)) p hp e'
 ·
  rcases LH.1 ho with ho | ho
  · exact ((ht.at_ o ho).move hz (fun _ _ => rfl) fun _ _ => rfl).iI fun b e => (hblk o ho b e).imp (hbl b) id
  ·
   have hat := hown.at_ o (Lp _ ho)
   refine (hat.move (z' := okM ok (os ++ rest) w (os' ++ rest) w') (fun b hb => hz b ⟨.inl hb, LC (hok b hb) ht.gr.size, hnew b hb⟩) (fun p hp => ht.gr.cell (hok _ hp) fun hb => hown1.off _ hb hp) fun g e => ht.gr.block g (hrest o ho g e) fun hb => hoff g (.inr (.inl hb)) o ho e).iI fun b e => .inl ⟨o, Lp _ ho, e⟩
section
variable {S : St} {ops : Array Oper} {o : Oper}
theorem fU {T e z y' : Nat} {s x : Operand} {v : Value} {ds es : List D} (ho : o.op = .call { callee := .builtin .append, args := #[s, x], argTypes := #[T, T] }) (hT : assoc slL T = some (e, z, y')) (hz : Nat.blt 0 z = true) (hs : ev S s = some (.val (.v v))) (hx : ev S x = some (.val (.sl z es))) (hlen : (ds.length + es.length) * y' ≤ 140737488355328 ∧ ds.length + es.length ≤ 9223372036854775807) :
  oC ops S o [.row v e z ds] (fun r os' => ∃ v', r = .val (.v v') ∧ os' = [.row v' e z (ds ++ es)]) := .mk fun base ok a w ha hown => by
 have hs' := dh ha hs fun t e => au e (by rw [ho]; simp [Op.operands, Call.operands])
 obtain ⟨A, c, rows', h1, h2, h3, h4, h5, h6⟩ := qg (ha.ev hx fun t e => au e (by rw [ho]; simp [Op.operands, Call.operands]))
 obtain ⟨rows, h7, h8⟩ := hown.at_ (.row v e z ds) KQ
 obtain ⟨hl1, hl2⟩ := ah.lens es rows' h6
 have hlen' : rows'.flatten.length = es.length * z := by
  have : ∀ rows : List (List Value), (∀ r ∈ rows, r.length = z) → rows.flatten.length = rows.length * z := by
   intro rows
   induction rows with
   | nil => simp
   | cons r rows ih =>
    intro h
    rw [Md, LP, h r (by simp), ih fun r hr => h r (by simp [hr]), LX, Nb, NC, Ot]
  rw [this rows' hl2, hl1]
 have hrd : Rd w w.heap.size A rows'.flatten := fun hn => by
  obtain ⟨b, n, e, hb, hc⟩ := h5 hn
  exact ⟨b, n, e, ha.lt b hb, hc⟩
 obtain ⟨A', c', w', hrun, hown', hgr, hblk⟩ := eu (P := Tryz.prog) (ty := o.type) (c := c) (FN hT hz) h7.1 hlen' hrd (ah.one es rows' h6) (by simp only [maxLen]; exact hlen.2) hlen.1 (Lr _)
 have hoff : ∀ b, ok b → v.ownBlock ≠ some b := fun b hb e => hown.off b ⟨_, KQ, e⟩ hb
 have hblk' : ∀ b, (Value.slice A' (ds.length + es.length) c').ownBlock = some b → v.ownBlock = some b ∨ w.heap.size ≤ b := fun b e' => by
  rcases hblk with h | h
  · exact .inl (h ▸ e')
  ·
   rw [h] at e'
   cases e'
   exact .inr (Lj _)
 have hz' : ∀ b, ok b → okM ok [.row v e z ds] w [.row (.slice A' (ds.length + es.length) c') e z (ds ++ es)] w' b := fun b hb => ⟨.inl hb, LC (ha.lt b hb) hgr.size, fun o' ho' e' => by
  obtain rfl : o' = _ := by simpa using ho'
  rcases hblk' b e' with h | h
  · exact hoff b hb h
  ·
   have := ha.lt b hb
   omega⟩
 have hcell : ∀ p : Addr, ok p.block → w'.cell? p = w.cell? p := fun p hp => World.cell?_of_block (hgr.block _ (ha.lt _ hp) fun e' => hoff _ hp e'.symm)
 unfold execOp
 simp only [ho, resolve, invoke, builtin, KW, KX, KL, Np, Lu, ML, hs', h1, hrun, dR]
 refine ⟨.val (.v (.slice A' (ds.length + es.length) c')), [.row (.slice A' (ds.length + es.length) c') e z (ds ++ es)], ⟨_, rfl, rfl⟩, ⟨⟨hgr.os, hgr.tape, hgr.output, hgr.size, fun k hk hn => hgr.block k hk fun e' => hn ⟨_, KQ, e'.symm⟩⟩, by simp, fun o' ho' => ?_⟩, ?_⟩
 ·
  obtain rfl : o' = _ := by simpa using ho'
  refine ⟨rows ++ rows', ?_, ah.append ds es rows rows' (ah.mono hz' hcell z ds rows h8) (ah.mono hz' hcell z es rows' h6)⟩
  rw [List.flatten_append, LP]
  refine ⟨hown', fun b hb => ?_⟩
  rcases hblk' b hb with h | h
  · exact .inl ⟨_, KQ, h⟩
  · exact .inr h
 · exact ay.2 ⟨rfl, rfl⟩
end
end E
end Go.Proofs.YtkhjanjlcdhdcaaGreat
namespace Go.Proofs.YtkhjanjlcdhdcaaGreat
set_option linter.unusedVariables false
set_option maxRecDepth 20000
set_option maxHeartbeats 4000000
open Go.RowKit Mono Rlp Wd
namespace E
section
variable {g m c ga gs T : Nat} {u k : Value} {n : Int} {es : List Ent} {a w cd : List UInt8} {us ks : List D} {d : D} {b : Int} {sv : Value}
abbrev yK (a w : List UInt8) : D := .ifc 105 (.tup [.arr 20 a, .arr 32 w])
abbrev nN (a : List UInt8) (n : Int) : D := .ifc 98 (.tup [.arr 20 a, .v (.int .i64 n)])
theorem mg (h : aJ es a = some (.v (ptr ga))) (hu : us.length < 1099511627776) : FnM 47 [.v (ptr g), .arr 20 a, .ifc T d] [stO g m u k n, smO m c es, acO ga b w cd sv, unO u us, mkO k ks] (fun r os' => ∃ u', r = .val (.v (ptr ga)) ∧ os' = [stO g m u' k n, smO m c es, unO u' (bC ks us (.ifc T d)), mkO k ks, acO ga b w cd sv]) := by
 have h1 := ((nZ (g := g) (m := m) (c := c) (u := u) (k := k) (n := n) (ks := ks) (T := T) (d := d) h hu).frame [acO ga b w cd sv]).pick [0, 1, 4, 2, 3] rfl (by decide)
 refine FnM.mono h1 ?_
 rintro r _ ⟨_, ⟨u', rfl, rfl⟩, rfl⟩
 exact ⟨u', rfl, rfl⟩
theorem rH {w' : List UInt8} (h : aJ es a = some (.v (ptr ga))) (hu : us.length < 1099511627776) : FnM 25 [.v (ptr g), .arr 20 a, .arr 32 w'] [stO g m u k n, smO m c es, unO u us, mkO k ks, acO ga b w cd sv] (fun r os' => r = .tpl [] ∧ ∃ u', os' = [stO g m u' k n, smO m c es, unO u' (bC ks us (yK a w)), mkO k ks, acO ga b w' cd sv]) := by
 have h1 := qV (g := g) (m := m) (c := c) (u := u) (k := k) (n := n) (b := b) (w := w) (cd := cd) (sv := sv) h
 have h2 := mg (g := g) (m := m) (c := c) (u := u) (k := k) (n := n) (ks := ks) (T := 105) (d := .tup [.arr 20 a, .arr 32 w]) (b := b) (w := w) (cd := cd) (sv := sv) h hu
 refine FnM.walk 18 Tryz.func25 rfl Tryz.ntmps25 (by simp) fun X => ?_
 repeat (refine stp ?_; intros)
 refine EC.le (Le.pick [2, 3, 6, 4, 5, 0, 1] [_, _, _, _, _, _, _] rfl (by decide) rfl) ?_
 refine EC.bI 10 [0, 1, 2, 3, 4, 9] [5, 6, 7, 8] [_, _, _, _, _] _ (by kernel_rfl) (by kernel_rfl) rfl ?_
 simp only [aA, KU, KY, KN, KP]
 repeat (refine sth ?_; intros)
 refine EM.nil ?_
 repeat (first | rw [KD] | rw [KE])
 refine CH.bP (rest := [_, _]) h1 (k := ?_)
 rintro _ _ ⟨rfl, rfl⟩
 try simp only [St.put]
 repeat (first | rw [KD] | rw [KE])
 refine CH.cut 2 ?_
 simp only [KG, KI, KF, KH]
 repeat (refine sth ?_; intros)
 refine EM.nil ?_
 repeat (first | rw [KD] | rw [KE])
 refine CH.bP (rest := []) h2 (k := ?_)
 rintro _ _ ⟨u', rfl, rfl⟩
 try simp only [St.put]
 repeat (first | rw [KD] | rw [KE])
 refine CH.nil ?_
 try simp only [KF, KH]
 repeat (refine stp ?_; intros)
 exact EK.cO [stO g m u' k n, smO m c es, unO u' (bC ks us (yK a w)), mkO k ks, acO ga b w' cd sv] rfl (by (repeat first | exact KO _ | apply List.Sublist.cons_cons | apply List.Sublist.cons)) ⟨rfl, u', rfl⟩
theorem qj {w' : List UInt8} (h : aJ es a = none) (hu : us.length < 1099511627776) : FnM 25 [.v (ptr g), .arr 20 a, .arr 32 w'] [stO g m u k n, smO m c es, unO u us, mkO k ks] (fun r os' => r = .tpl [] ∧ ∃ u' ga gs, os' = [stO g m u' k n, smO m (bG c es a) (bK c es a (.v (ptr ga))), unO u' (bC ks us (yK a zero32)), mkO k ks, acO ga 0 w' [] (.map (some gs)), .map gs 32 0 []]) := by
 have h1 := o7 (g := g) (m := m) (c := c) (u := u) (k := k) (n := n) h
 have h2 := iw (g := g) (m := m) (c := c) (u := u) (k := k) (n := n) (ks := ks) (T := 105) (d := .tup [.arr 20 a, .arr 32 zero32]) h hu
 refine FnM.walk 18 Tryz.func25 rfl Tryz.ntmps25 (by simp) fun X => ?_
 repeat (refine stp ?_; intros)
 refine EC.le (Le.pick [2, 3, 4, 5, 0, 1] [_, _, _, _, _, _] rfl (by decide) rfl) ?_
 refine EC.bI 10 [0, 1, 2, 3, 4, 9] [5, 6, 7, 8] [_, _, _, _] _ (by kernel_rfl) (by kernel_rfl) rfl ?_
 simp only [aA, KU, KY, KN, KP]
 repeat (refine sth ?_; intros)
 refine EM.nil ?_
 repeat (first | rw [KD] | rw [KE])
 refine CH.bP (rest := [_, _]) h1 (k := ?_)
 rintro _ _ ⟨rfl, rfl⟩
 try simp only [St.put]
 repeat (first | rw [KD] | rw [KE])
 refine CH.cut 2 ?_
 simp only [KG, KI, KF, KH]
 repeat (refine sth ?_; intros)
 refine EM.nil ?_
 repeat (first | rw [KD] | rw [KE])
 refine CH.bP (rest := []) h2 (k := ?_)
 rintro _ _ ⟨u', ga, gs, rfl, rfl⟩
 try simp only [St.put]
 repeat (first | rw [KD] | rw [KE])
 refine CH.nil ?_
 try simp only [KF, KH]
 repeat (refine stp ?_; intros)
 refine EK.le (Le.pick [2, 3, 4, 5, 0, 1, 6, 7] [_, _, _, _, _, _, _, _] rfl (by decide) rfl) ?_
 exact EK.cO [stO g m u' k n, smO m (bG c es a) (bK c es a (.v (ptr ga))), unO u' (bC ks us (yK a zero32)), mkO k ks, acO ga 0 w' [] (.map (some gs)), .map gs 32 0 []] rfl (by (repeat first | exact KO _ | apply List.Sublist.cons_cons | apply List.Sublist.cons)) ⟨rfl, u', ga, gs, rfl⟩
theorem wH {n' : Int} (h : aJ es a = some (.v (ptr ga))) (hu : us.length < 1099511627776) : FnM 16 [.v (ptr g), .arr 20 a, .v (.int .i64 n')] [stO g m u k n, smO m c es, unO u us, mkO k ks, acO ga b w cd sv] (fun r os' => r = .tpl [] ∧ ∃ u', os' = [stO g m u' k n, smO m c es, unO u' (bC ks us (nN a b)), mkO k ks, acO ga (if n' > 0 then n' else 0) w cd sv]) := by
 have h1 := qE (g := g) (m := m) (c := c) (u := u) (k := k) (n := n) (b := b) (w := w) (cd := cd) (sv := sv) h
 have h2 := mg (g := g) (m := m) (c := c) (u := u) (k := k) (n := n) (ks := ks) (T := 98) (d := .tup [.arr 20 a, .v (.int .i64 b)]) (b := b) (w := w) (cd := cd) (sv := sv) h hu
 refine FnM.walk 19 Tryz.func16 rfl Tryz.ntmps16 (by simp) fun X => ?_
 repeat (refine stp ?_; intros)
 refine EC.le (Le.pick [1, 2, 5, 3, 4, 0] [_, _, _, _, _, _] rfl (by decide) rfl) ?_
 refine EC.bI 11 [0, 1, 2, 3, 4, 9, 10] [5, 6, 7, 8] [_, _, _, _, _] _ (by kernel_rfl) (by kernel_rfl) rfl ?_
 simp only [aA, KU, KY, KN, KP]
 repeat (refine sth ?_; intros)
 refine EM.nil ?_
 repeat (first | rw [KD] | rw [KE])
 refine CH.bP (rest := [_, _]) h1 (k := ?_)
 rintro _ _ ⟨rfl, rfl⟩
 try simp only [St.put]
 repeat (first | rw [KD] | rw [KE])
 refine CH.cut 2 ?_
 simp only [KG, KI, KF, KH]
 repeat (refine sth ?_; intros)
 refine EM.nil ?_
 repeat (first | rw [KD] | rw [KE])
 refine CH.bP (rest := []) h2 (k := ?_)
 rintro _ _ ⟨u', rfl, rfl⟩
 try simp only [St.put]
 repeat (first | rw [KD] | rw [KE])
 refine CH.nil ?_
 try simp only [KF, KH]
 repeat (refine stp ?_; intros)
 exact EK.cO [stO g m u' k n, smO m c es, unO u' (bC ks us (nN a b)), mkO k ks, acO ga (if n' > 0 then n' else 0) w cd sv] rfl (by (repeat first | exact KO _ | apply List.Sublist.cons_cons | apply List.Sublist.cons)) ⟨rfl, u', rfl⟩
theorem mP {n' : Int} (h : aJ es a = none) (hu : us.length < 1099511627776) : FnM 16 [.v (ptr g), .arr 20 a, .v (.int .i64 n')] [stO g m u k n, smO m c es, unO u us, mkO k ks] (fun r os' => r = .tpl [] ∧ ∃ u' ga gs, os' = [stO g m u' k n, smO m (bG c es a) (bK c es a (.v (ptr ga))), unO u' (bC ks us (nN a 0)), mkO k ks, acO ga (if n' > 0 then n' else 0) zero32 [] (.map (some gs)), .map gs 32 0 []]) := by
 have h1 := Bg (g := g) (m := m) (c := c) (u := u) (k := k) (n := n) h
 have h2 := iw (g := g) (m := m) (c := c) (u := u) (k := k) (n := n) (ks := ks) (T := 98) (d := .tup [.arr 20 a, .v (.int .i64 0)]) h hu
 refine FnM.walk 19 Tryz.func16 rfl Tryz.ntmps16 (by simp) fun X => ?_
 repeat (refine stp ?_; intros)
 refine EC.le (Le.pick [1, 2, 3, 4, 0] [_, _, _, _, _] rfl (by decide) rfl) ?_
 refine EC.bI 11 [0, 1, 2, 3, 4, 9, 10] [5, 6, 7, 8] [_, _, _, _] _ (by kernel_rfl) (by kernel_rfl) rfl ?_
 simp only [aA, KU, KY, KN, KP]
 repeat (refine sth ?_; intros)
 refine EM.nil ?_
 repeat (first | rw [KD] | rw [KE])
 refine CH.bP (rest := [_, _]) h1 (k := ?_)
 rintro _ _ ⟨rfl, rfl⟩
 try simp only [St.put]
 repeat (first | rw [KD] | rw [KE])
 refine CH.cut 2 ?_
 simp only [KG, KI, KF, KH]
 repeat (refine sth ?_; intros)
 refine EM.nil ?_
 repeat (first | rw [KD] | rw [KE])
 refine CH.bP (rest := []) h2 (k := ?_)
 rintro _ _ ⟨u', ga, gs, rfl, rfl⟩
 try simp only [St.put]
 repeat (first | rw [KD] | rw [KE])
 refine CH.nil ?_
 try simp only [KF, KH]
 repeat (refine stp ?_; intros)
 refine EK.le (Le.pick [2, 3, 4, 5, 0, 1, 6] [_, _, _, _, _, _, _] rfl (by decide) rfl) ?_
 exact EK.cO [stO g m u' k n, smO m (bG c es a) (bK c es a (.v (ptr ga))), unO u' (bC ks us (nN a 0)), mkO k ks, acO ga (if n' > 0 then n' else 0) zero32 [] (.map (some gs)), .map gs 32 0 []] rfl (by (repeat first | exact KO _ | apply List.Sublist.cons_cons | apply List.Sublist.cons)) ⟨rfl, u', ga, gs, rfl⟩
end
end E
end Go.Proofs.YtkhjanjlcdhdcaaGreat
