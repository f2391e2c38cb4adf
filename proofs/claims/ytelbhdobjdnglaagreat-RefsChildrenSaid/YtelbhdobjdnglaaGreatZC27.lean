/-
 Merged: lemmas of this claim.
 Conditions: none.
-/
import Derived.Test.YtelbhdobjdnglaaGreatZC26
import Derived.Test.YtelbhdobjdnglaaGreatZC25
import Derived.Test.YtelbhdobjdnglaaGreatZC0
namespace Go.Proofs.YtelbhdobjdnglaaGreat
set_option linter.unusedVariables false
set_option maxRecDepth 20000
set_option maxHeartbeats 16000000
open Go.RowKit Mono Rlp
namespace E
theorem EC.via {N : Nat} {X : Cx N} {Q : Exit → Act → World → Prop} {c : Code} {S : St} {ι : Type} (J : ι → St) (h : EC X (Exit.then (fun a w => ∃ i, At X (J i) a w) Q) c S) (k : ∀ i, EK X (Q .normal) (J i)) : EC X Q c S := ⟨fun a w ha => wp_mono (h.go a w ha) fun e a w hq => by
 cases e with
 | normal =>
  obtain ⟨i, hi⟩ := hq
  exact (k i).go a w hi
 | _ => exact hq⟩
abbrev rfO (g m h : Nat) : Obj := .var g 155 (.tup [.v (.map (some m)), .v (.map (some h))])
theorem Sz : FnM 30 [] [] (fun r os' => ∃ g m h, r = .val (.v (ptr g)) ∧ os' = [rfO g m h, .map m 32 0 [], .map h 32 0 []]) := by
 refine FnM.walk 5 Tryz.func30 rfl Tryz.ntmps30 (by simp) fun X => ?_
 repeat
  (first
   | (apply CV; (iterate 3 rfl); intro m) | (apply cZ; rfl; rfl; rfl; intro g) | (apply ah; iterate 3 rfl) | (apply dX; iterate 7 rfl)
   | apply EL.nil | (with_reducible first | apply EK.nc | apply EC.seq | apply EC.r0 | apply EC.ret))
 rename_i m1
 refine EK.le (Le.pick [0, 2, 1] [_, _, _] rfl (by decide) rfl) ?_
 exact EK.aW [rfO g m1 m, .map m1 32 0 [], .map m 32 0 []] rfl rfl (by (repeat first | exact WI _ | apply List.Sublist.cons_cons | apply List.Sublist.cons)) ⟨_, _, _, rfl, rfl⟩
def wQ (w : List UInt8) : Bool := (w == zero32) || (w == iY)
theorem Gj (w : List UInt8) : Fn 76 [.arr 32 w] (· = .val (.v (.bool (wQ w)))) := by
 have hE := vV
 have h1 := (oH w zero32).1
 have h2 := (oH w iY).1
 unfold wQ
 refine FnM.toFn ?_
 refine FnM.walk 11 Tryz.func76 rfl Tryz.ntmps76 (by simp) fun X => ?_
 generalize iY = r0 at *
 cases hz : (w == zero32) with
 | true =>
  rw [hz] at h1
  rw [Y7]
  clear h2
  repeat
   (first
    | (apply ah; iterate 3 rfl) | (apply cZ; rfl; rfl; rfl; intro _) | apply EL.nil
    | (with_reducible first | apply EK.nc | apply EC.seq | apply EC.r0))
  refine EC.draw 8 (by kernel_rfl) ?_
  simp only [WH, WO, WG, WM]
  repeat
   (first
    | (apply tZ; iterate 2 rfl) | (apply kV; (iterate 2 rfl); exact h1; iterate 2 rfl) | (apply bV; iterate 3 rfl) | (apply jr; iterate 4 rfl)
    | (apply dP; rfl; exact I.a; iterate 4 rfl) | (apply G7; iterate 5 rfl) | ((with_reducible apply EH.nil); rfl))
  repeat
   (first
    | (apply ah; iterate 3 rfl) | apply EL.nil | ((with_reducible apply EK.h0); apply EK.code) | (with_reducible apply EC.ret))
  exact EK.aW [] rfl rfl (WI _) ⟨rfl, rfl⟩
 | false =>
  rw [hz] at h1
  rw [YM]
  generalize (w == r0) = q at *
  repeat
   (first
    | (apply ah; iterate 3 rfl) | (apply cZ; rfl; rfl; rfl; intro _) | apply EL.nil
    | (with_reducible first | apply EK.nc | apply EC.seq | apply EC.r0))
  refine EC.draw 8 (by kernel_rfl) ?_
  simp only [WH, WO, WG, WM]
  repeat
   (first
    | (apply kV; (iterate 2 rfl); exact h1; iterate 2 rfl) | (apply jv (hE); rfl; exact aj.refl _ _; exact enA; iterate 2 rfl)
    | (apply kV; (iterate 2 rfl); exact h2; iterate 2 rfl) | (apply bV; iterate 3 rfl) | (apply jr; iterate 4 rfl)
    | (apply dP; rfl; exact I.a; iterate 4 rfl) | (apply G7; iterate 5 rfl) | ((with_reducible apply EH.nil); rfl))
  repeat
   (first
    | (apply ah; iterate 3 rfl) | apply EL.nil | ((with_reducible apply EK.h0); apply EK.code) | (with_reducible apply EC.ret))
  exact EK.aW [] rfl rfl (WI _) ⟨rfl, rfl⟩
def UY (es : List Ent) (w : List UInt8) : D := (dW es w).getD (.v (.int .i64 0))
theorem Cb (c : Nat) (es : List Ent) (w : List UInt8) (dz : D) : (dW (rZ c es w dz) w).getD dz = (dW es w).getD dz := by
 unfold rZ
 cases h : eG es w with
 | true => rfl
 | false =>
  rw [if_neg Bool.false_ne_true, qL]
  rw [jc] at h
  cases hg : dW es w with
  | none => simp
  | some d => rfl
theorem PS (g m h : Nat) (w : List UInt8) (hl : w.length = 32) (c1 : Nat) (ns : List Ent) (c : Nat) (es : List Ent) (n : Int) (hn : UY es w = .v (.int .i64 n)) (hn0 : 0 ≤ n) (hn1 : n ≤ 1099511627776) :
  FnM 33 [.v (ptr g), .arr 32 w] [rfO g m h, .map m 32 c1 ns, .map h 32 c es] (fun r os' => r = .val (.v (.int .i64 (if wQ w then 0 else if eG ns w then 0 else 7))) ∧ os' = [rfO g m h, .map m 32 c1 ns, if wQ w || !eG ns w then .map h 32 c es else .map h 32 (iR c es w) (iQ c es w (.v (.int .i64 (n + 1))))]) := by
 have hN := Gj w
 have hg1 : (dW es w).getD (.v (.int .i64 0)) = .v (.int .i64 n) := hn
 have hg2 := (Cb c es w (.v (.int .i64 0))).trans hg1
 refine FnM.walk 29 Tryz.func33 rfl Tryz.ntmps33 (by simp) fun X => ?_
 cases hb : wQ w with
 | true =>
  rw [hb] at hN
  rw [if_pos rfl, Y7, if_pos rfl]
  repeat
   (first
    | (apply aC (hN); rfl; exact aj.refl _ _; exact enA; iterate 2 rfl) | (apply ah; iterate 3 rfl) | (apply aI; rfl; exact I.a; iterate 4 rfl)
    | (apply cZ; rfl; rfl; rfl; intro _) | apply EL.nil | (apply EC.t0; rfl)
    | (with_reducible first | apply EK.nc | apply EC.seq | apply EC.r0 | apply EC.ret | apply EK.aB))
  exact EK.aW [rfO g m h, .map m 32 c1 ns, .map h 32 c es] rfl rfl (by (repeat first | exact WI _ | apply List.Sublist.cons_cons | apply List.Sublist.cons)) ⟨rfl, rfl⟩
 | false =>
  rw [hb] at hN
  rw [if_neg Bool.false_ne_true, YM]
  obtain ⟨dv, hdv⟩ : ∃ dv, (dW ns w).getD (.v (.slice none 0 0)) = dv := ⟨_, rfl⟩
  have hl2 : (dW ns w).getD (.v (.slice none 0 0)) = dv ∧ (dW ns w).isSome = eG ns w := ⟨hdv, (jc ns w).symm⟩
  cases hh : eG ns w with
  | false =>
   rw [hh] at hl2
   rw [if_neg Bool.false_ne_true, YD, if_pos rfl]
   repeat
    (first
     | (apply aC (hN); rfl; exact aj.refl _ _; exact enA; iterate 2 rfl) | (apply ah; iterate 3 rfl) | (apply aI; rfl; exact I.a; iterate 4 rfl)
     | (apply cZ; rfl; rfl; rfl; intro _) | apply EL.nil | (apply EC.f0; rfl)
     | (with_reducible first | apply EK.nc | apply EC.seq | apply EC.r0 | apply EC.k0))
   refine EC.draw 10 (by kernel_rfl) ?_
   simp only [WH, WO, WG, WM]
   repeat
    (first
     | (apply kH; exact hl2; rfl; (first | exact I0 | exact I1 | exact I2 | exact I3 | exact I4 | exact I5); iterate 5 rfl) | (apply bV; iterate 3 rfl)
     | (apply fV; iterate 3 rfl) | (apply dJ; iterate 6 rfl) | (apply dZ; iterate 4 rfl) | (apply dP; rfl; exact I.a; iterate 4 rfl)
     | (apply gQ; iterate 3 rfl) | ((with_reducible apply EH.nil); rfl))
   repeat
    (first
     | (apply ak; iterate 3 rfl) | (apply ah; iterate 3 rfl) | (apply bM; iterate 3 rfl) | apply EL.nil
     | (apply EC.t0; rfl) | (with_reducible first | apply EK.nc | apply EC.seq | apply EC.r0 | apply EC.ret | apply EK.aB))
   exact EK.aW [rfO g m h, .map m 32 c1 ns, .map h 32 c es] rfl rfl (by (repeat first | exact WI _ | apply List.Sublist.cons_cons | apply List.Sublist.cons)) ⟨rfl, rfl⟩
  | true =>
   rw [hh] at hl2
   rw [if_pos rfl, Bool.not_true, if_neg Bool.false_ne_true]
   repeat
    (first
     | (apply aC (hN); rfl; exact aj.refl _ _; exact enA; iterate 2 rfl) | (apply ah; iterate 3 rfl) | (apply aI; rfl; exact I.a; iterate 4 rfl)
     | (apply cZ; rfl; rfl; rfl; intro _) | apply EL.nil | (apply EC.f0; rfl)
     | (with_reducible first | apply EK.nc | apply EC.seq | apply EC.r0 | apply EC.k0))
   refine EC.draw 10 (by kernel_rfl) ?_
   simp only [WH, WO, WG, WM]
   repeat
    (first
     | (apply kH; exact hl2; rfl; (first | exact I0 | exact I1 | exact I2 | exact I3 | exact I4 | exact I5); iterate 5 rfl) | (apply bV; iterate 3 rfl)
     | (apply fV; iterate 3 rfl) | (apply dJ; iterate 6 rfl) | (apply dZ; iterate 4 rfl) | (apply dP; rfl; exact I.a; iterate 4 rfl)
     | (apply gQ; iterate 3 rfl) | ((with_reducible apply EH.nil); rfl))
   repeat
    (first
     | (apply ak; iterate 3 rfl) | (apply ah; iterate 3 rfl) | (apply bM; iterate 3 rfl) | apply EL.nil
     | (apply EC.f0; rfl) | (with_reducible first | apply EK.nc | apply EC.seq | apply EC.r0 | apply EC.k0))
   rename_i gx
   refine EC.via (ι := Unit) (fun _ => ⟨[(0, .val (.v (ptr g)))], [.map h 32 (iR c es w) (iQ c es w (.v (.int .i64 (n + 1)))), .var gx 29 (.arr 32 w), rfO g m h, .map m 32 c1 ns], []⟩) ?_ fun _ => ?_
   rotate_left
   ·
    skip
    repeat
     (first
      | (apply ah; iterate 3 rfl) | apply EL.nil | (with_reducible first | apply EK.nc | apply EC.seq | apply EC.r0 | apply EC.ret))
    refine EK.le (Le.pick [2, 3, 0, 1] [_, _, _, _] rfl (by decide) rfl) ?_
    exact EK.aW [rfO g m h, .map m 32 c1 ns, .map h 32 (iR c es w) (iQ c es w (.v (.int .i64 (n + 1))))] rfl rfl (by (repeat first | exact WI _ | apply List.Sublist.cons_cons | apply List.Sublist.cons)) ⟨rfl, rfl⟩
   refine EC.le (Le.pick [3, 0, 1, 2] [_, _, _, _] rfl (by decide) rfl) ?_
   refine EC.TL 10 [0, 1, 2, 3, 4] [5, 6, 7, 8, 9] [_] _ (by kernel_rfl) (by kernel_rfl) rfl ?_
   simp only [aZ, WU, WW, WQ, WR]
   repeat
    (first
     | (apply bV; iterate 3 rfl) | (apply dJ; iterate 6 rfl) | (apply dP; rfl; exact I.a; iterate 4 rfl) | (apply gQ; iterate 3 rfl))
   refine EM.nil ?_
   repeat (first | rw [WL] | rw [WJ])
   refine CT.pick [5, 7] (by kernel_rfl) fun k hk => ?_
   rcases (show k = 5 ∨ k = 7 by simpa using hk) with rfl | rfl
   all_goals clear hk
   ·
    skip
    simp only [aZ, WU, WW, WQ, WR]
    refine CH.cut 1 ?_
    simp only [WH, WO, WG, WM]
    repeat
     (first
      | (apply jX; exact hg1; rfl; (first | exact I0 | exact I1 | exact I2 | exact I3); iterate 5 rfl))
    refine EM.nil ?_
    repeat (first | rw [WL] | rw [WJ])
    refine CH.nil ?_
    refine CT.pick [6, 7] (by kernel_rfl) fun k hk => ?_
    rcases (show k = 6 ∨ k = 7 by simpa using hk) with rfl | rfl
    all_goals clear hk
    ·
     skip
     simp only [aZ, WU, WW, WQ, WR]
     refine CH.cut 1 ?_
     simp only [WH, WO, WG, WM]
     repeat
      (first
       | (apply xB; (iterate 3 rfl); (focus omega); (focus omega); iterate 2 rfl))
     refine EM.nil ?_
     repeat (first | rw [WL] | rw [WJ])
     refine CH.nil ?_
     refine CT.pick [7] (by kernel_rfl) fun k hk => ?_
     obtain rfl : k = 7 := (by simpa using hk)
     clear hk
     simp only [aZ, WU, WW, WQ, WR]
     refine CH.mut (os := [_]) (rest := []) rfl rfl (vJ rfl rfl (jm hg1 rfl rfl rfl rfl rfl)) ?_
     rintro _ _ ⟨rfl, rfl⟩
     try simp only [St.put]
     repeat (first | rw [WL] | rw [WJ])
     refine CH.nil ?_
     refine CT.pick [8] (by kernel_rfl) fun k hk => ?_
     obtain rfl : k = 8 := (by simpa using hk)
     clear hk
     simp only [aZ, WU, WW, WQ, WR]
     refine CH.cut 1 ?_
     simp only [WH, WO, WG, WM]
     repeat
      (first
       | (apply dZ; iterate 4 rfl))
     refine EM.nil ?_
     repeat (first | rw [WL] | rw [WJ])
     refine CH.nil ?_
     refine CT.pick [9] (by kernel_rfl) fun k hk => ?_
     obtain rfl : k = 9 := (by simpa using hk)
     clear hk
     simp only [aZ, WU, WW, WQ, WR]
     refine CH.mut (os := [_]) (rest := []) rfl rfl (kR (dQ hl (ig c es w (.v (.int .i64 0))) rfl rfl rfl rfl)) ?_
     rintro _ _ ⟨rfl, rfl⟩
     try simp only [St.put]
     repeat (first | rw [WL] | rw [WJ])
     rw [gZ]
     refine CH.nil ?_
     refine CT.nil ?_
     repeat
      (first
       | apply EL.nil)
     refine EK.h0 (EK.meet () ?_)
     exact Le.kp
    ·
     skip
     simp only [aZ, WU, WW, WQ, WR]
     refine CH.mut (os := [_]) (rest := []) rfl rfl (vJ rfl rfl (jm hg1 rfl rfl rfl rfl rfl)) ?_
     rintro _ _ ⟨rfl, rfl⟩
     try simp only [St.put]
     repeat (first | rw [WL] | rw [WJ])
     refine CH.nil ?_
     refine CT.pick [6, 8] (by kernel_rfl) fun k hk => ?_
     rcases (show k = 6 ∨ k = 8 by simpa using hk) with rfl | rfl
     all_goals clear hk
     ·
      skip
      simp only [aZ, WU, WW, WQ, WR]
      refine CH.cut 1 ?_
      simp only [WH, WO, WG, WM]
      repeat
       (first
        | (apply xB; (iterate 3 rfl); (focus omega); (focus omega); iterate 2 rfl))
      refine EM.nil ?_
      repeat (first | rw [WL] | rw [WJ])
      refine CH.nil ?_
      refine CT.pick [8] (by kernel_rfl) fun k hk => ?_
      obtain rfl : k = 8 := (by simpa using hk)
      clear hk
      simp only [aZ, WU, WW, WQ, WR]
      refine CH.cut 1 ?_
      simp only [WH, WO, WG, WM]
      repeat
       (first
        | (apply dZ; iterate 4 rfl))
      refine EM.nil ?_
      repeat (first | rw [WL] | rw [WJ])
      refine CH.nil ?_
      refine CT.pick [9] (by kernel_rfl) fun k hk => ?_
      obtain rfl : k = 9 := (by simpa using hk)
      clear hk
      simp only [aZ, WU, WW, WQ, WR]
      refine CH.mut (os := [_]) (rest := []) rfl rfl (kR (dQ hl (ig c es w (.v (.int .i64 0))) rfl rfl rfl rfl)) ?_
      rintro _ _ ⟨rfl, rfl⟩
      try simp only [St.put]
      repeat (first | rw [WL] | rw [WJ])
      rw [gZ]
      refine CH.nil ?_
      refine CT.nil ?_
      repeat
       (first
        | apply EL.nil)
      refine EK.h0 (EK.meet () ?_)
      exact Le.kp
     ·
      skip
      simp only [aZ, WU, WW, WQ, WR]
      refine CH.cut 1 ?_
      simp only [WH, WO, WG, WM]
      repeat
       (first
        | (apply dZ; iterate 4 rfl))
      refine EM.nil ?_
      repeat (first | rw [WL] | rw [WJ])
      refine CH.nil ?_
      refine CT.pick [6] (by kernel_rfl) fun k hk => ?_
      obtain rfl : k = 6 := (by simpa using hk)
      clear hk
      simp only [aZ, WU, WW, WQ, WR]
      refine CH.cut 1 ?_
      simp only [WH, WO, WG, WM]
      repeat
       (first
        | (apply xB; (iterate 3 rfl); (focus omega); (focus omega); iterate 2 rfl))
      refine EM.nil ?_
      repeat (first | rw [WL] | rw [WJ])
      refine CH.nil ?_
      refine CT.pick [9] (by kernel_rfl) fun k hk => ?_
      obtain rfl : k = 9 := (by simpa using hk)
      clear hk
      simp only [aZ, WU, WW, WQ, WR]
      refine CH.mut (os := [_]) (rest := []) rfl rfl (kR (dQ hl (ig c es w (.v (.int .i64 0))) rfl rfl rfl rfl)) ?_
      rintro _ _ ⟨rfl, rfl⟩
      try simp only [St.put]
      repeat (first | rw [WL] | rw [WJ])
      rw [gZ]
      refine CH.nil ?_
      refine CT.nil ?_
      repeat
       (first
        | apply EL.nil)
      refine EK.h0 (EK.meet () ?_)
      exact Le.kp
   ·
    skip
    simp only [aZ, WU, WW, WQ, WR]
    refine CH.mut (os := [_]) (rest := []) rfl rfl (vJ rfl rfl (jm hg1 rfl rfl rfl rfl rfl)) ?_
    rintro _ _ ⟨rfl, rfl⟩
    try simp only [St.put]
    repeat (first | rw [WL] | rw [WJ])
    refine CH.nil ?_
    refine CT.pick [5, 8] (by kernel_rfl) fun k hk => ?_
    rcases (show k = 5 ∨ k = 8 by simpa using hk) with rfl | rfl
    all_goals clear hk
    ·
     skip
     simp only [aZ, WU, WW, WQ, WR]
     refine CH.cut 1 ?_
     simp only [WH, WO, WG, WM]
     repeat
      (first
       | (apply jX; exact hg2; rfl; (first | exact I0 | exact I1 | exact I2 | exact I3); iterate 5 rfl))
     refine EM.nil ?_
     repeat (first | rw [WL] | rw [WJ])
     refine CH.nil ?_
     refine CT.pick [6, 8] (by kernel_rfl) fun k hk => ?_
     rcases (show k = 6 ∨ k = 8 by simpa using hk) with rfl | rfl
     all_goals clear hk
     ·
      skip
      simp only [aZ, WU, WW, WQ, WR]
      refine CH.cut 1 ?_
      simp only [WH, WO, WG, WM]
      repeat
       (first
        | (apply xB; (iterate 3 rfl); (focus omega); (focus omega); iterate 2 rfl))
      refine EM.nil ?_
      repeat (first | rw [WL] | rw [WJ])
      refine CH.nil ?_
      refine CT.pick [8] (by kernel_rfl) fun k hk => ?_
      obtain rfl : k = 8 := (by simpa using hk)
      clear hk
      simp only [aZ, WU, WW, WQ, WR]
      refine CH.cut 1 ?_
      simp only [WH, WO, WG, WM]
      repeat
       (first
        | (apply dZ; iterate 4 rfl))
      refine EM.nil ?_
      repeat (first | rw [WL] | rw [WJ])
      refine CH.nil ?_
      refine CT.pick [9] (by kernel_rfl) fun k hk => ?_
      obtain rfl : k = 9 := (by simpa using hk)
      clear hk
      simp only [aZ, WU, WW, WQ, WR]
      refine CH.mut (os := [_]) (rest := []) rfl rfl (kR (dQ hl (ig c es w (.v (.int .i64 0))) rfl rfl rfl rfl)) ?_
      rintro _ _ ⟨rfl, rfl⟩
      try simp only [St.put]
      repeat (first | rw [WL] | rw [WJ])
      rw [gZ]
      refine CH.nil ?_
      refine CT.nil ?_
      repeat
       (first
        | apply EL.nil)
      refine EK.h0 (EK.meet () ?_)
      exact Le.kp
     ·
      skip
      simp only [aZ, WU, WW, WQ, WR]
      refine CH.cut 1 ?_
      simp only [WH, WO, WG, WM]
      repeat
       (first
        | (apply dZ; iterate 4 rfl))
      refine EM.nil ?_
      repeat (first | rw [WL] | rw [WJ])
      refine CH.nil ?_
      refine CT.pick [6] (by kernel_rfl) fun k hk => ?_
      obtain rfl : k = 6 := (by simpa using hk)
      clear hk
      simp only [aZ, WU, WW, WQ, WR]
      refine CH.cut 1 ?_
      simp only [WH, WO, WG, WM]
      repeat
       (first
        | (apply xB; (iterate 3 rfl); (focus omega); (focus omega); iterate 2 rfl))
      refine EM.nil ?_
      repeat (first | rw [WL] | rw [WJ])
      refine CH.nil ?_
      refine CT.pick [9] (by kernel_rfl) fun k hk => ?_
      obtain rfl : k = 9 := (by simpa using hk)
      clear hk
      simp only [aZ, WU, WW, WQ, WR]
      refine CH.mut (os := [_]) (rest := []) rfl rfl (kR (dQ hl (ig c es w (.v (.int .i64 0))) rfl rfl rfl rfl)) ?_
      rintro _ _ ⟨rfl, rfl⟩
      try simp only [St.put]
      repeat (first | rw [WL] | rw [WJ])
      rw [gZ]
      refine CH.nil ?_
      refine CT.nil ?_
      repeat
       (first
        | apply EL.nil)
      refine EK.h0 (EK.meet () ?_)
      exact Le.kp
    ·
     skip
     simp only [aZ, WU, WW, WQ, WR]
     refine CH.cut 1 ?_
     simp only [WH, WO, WG, WM]
     repeat
      (first
       | (apply dZ; iterate 4 rfl))
     refine EM.nil ?_
     repeat (first | rw [WL] | rw [WJ])
     refine CH.nil ?_
     refine CT.pick [5] (by kernel_rfl) fun k hk => ?_
     obtain rfl : k = 5 := (by simpa using hk)
     clear hk
     simp only [aZ, WU, WW, WQ, WR]
     refine CH.cut 1 ?_
     simp only [WH, WO, WG, WM]
     repeat
      (first
       | (apply jX; exact hg2; rfl; (first | exact I0 | exact I1 | exact I2 | exact I3); iterate 5 rfl))
     refine EM.nil ?_
     repeat (first | rw [WL] | rw [WJ])
     refine CH.nil ?_
     refine CT.pick [6] (by kernel_rfl) fun k hk => ?_
     obtain rfl : k = 6 := (by simpa using hk)
     clear hk
     simp only [aZ, WU, WW, WQ, WR]
     refine CH.cut 1 ?_
     simp only [WH, WO, WG, WM]
     repeat
      (first
       | (apply xB; (iterate 3 rfl); (focus omega); (focus omega); iterate 2 rfl))
     refine EM.nil ?_
     repeat (first | rw [WL] | rw [WJ])
     refine CH.nil ?_
     refine CT.pick [9] (by kernel_rfl) fun k hk => ?_
     obtain rfl : k = 9 := (by simpa using hk)
     clear hk
     simp only [aZ, WU, WW, WQ, WR]
     refine CH.mut (os := [_]) (rest := []) rfl rfl (kR (dQ hl (ig c es w (.v (.int .i64 0))) rfl rfl rfl rfl)) ?_
     rintro _ _ ⟨rfl, rfl⟩
     try simp only [St.put]
     repeat (first | rw [WL] | rw [WJ])
     rw [gZ]
     refine CH.nil ?_
     refine CT.nil ?_
     repeat
      (first
       | apply EL.nil)
     refine EK.h0 (EK.meet () ?_)
     exact Le.kp
def uT (s : Mp) (x : Pr) : Mp := if eG s.2 x.1 then s else (iR s.1 s.2 x.1, iQ s.1 s.2 x.1 (.bs x.2))
theorem Qx (s : Mp) (x : Pr) : (uT s x).2.length = s.2.length + (if eG s.2 x.1 then 0 else 1) := by
 unfold uT
 cases h : eG s.2 x.1 with
 | true => rfl
 | false =>
  rw [if_neg Bool.false_ne_true, if_neg Bool.false_ne_true]
  dsimp only
  unfold iQ
  rw [h, if_neg Bool.false_ne_true, List.length_append]
  rfl
theorem SA (g m h : Nat) (l : List Pr) (hb : ∀ x ∈ l, x.2.length ≤ 140737488355328) (hl : l.length ≤ 1099511627776) (s : Mp) :
  FnM 32 [.v (ptr g), .sl 33 (l.map dNd)] [rfO g m h, .map m 32 s.1 s.2] (fun r os' => r = .val (.v (.int .i64 (((l.foldl uT s).2.length - s.2.length : Nat) : Int))) ∧ os' = [rfO g m h, .map m 32 (l.foldl uT s).1 (l.foldl uT s).2]) := by
 have hml : (l.map dNd).length = l.length := WY _
 refine FnM.walk 41 Tryz.func32 rfl Tryz.ntmps32 (by simp) fun X => ?_
 repeat
  (first
   | (apply ak; iterate 3 rfl) | (apply ah; iterate 3 rfl) | (apply bC; iterate 4 rfl) | apply EL.nil
   | (with_reducible first | apply EK.nc | apply EC.seq | apply EC.r0 | apply EC.b0))
 refine EC.le (Le.pick [1, 0] [_, _] rfl (by decide) rfl) ?_
 refine EC.loop (ι := {x : Nat × Nat × Mp // x.1 ≤ l.length ∧ x.2.2 = (l.take x.1).foldl uT s ∧ x.2.1 = x.2.2.2.length - s.2.length ∧ s.2.length ≤ x.2.2.2.length ∧ x.2.1 ≤ x.1})
  (fun x => ⟨[(5, .val (.v (.int .i64 (x.1.2.1 : Int)))), (12, .val (.v (.int .i64 (x.1.1 : Int)))), (11, .val (.v (.int .i64 ((l.map dNd).length : Int)))), (10, .val (.sl 33 (l.map dNd))), (0, .val (.v (ptr g)))], [.map m 32 x.1.2.2.1 x.1.2.2.2, rfO g m h], []⟩)
  (fun x => l.length - x.1.1) ⟨(0, 0, s), Xo _, rfl, by dsimp only; omega, Nat.le_refl _, Nat.le_refl _⟩ ?_ ?_
 · exact Le.kp
 rintro ⟨⟨i, k, c, es⟩, hi, hs, hk, hge, hki⟩
 dsimp only at hi hs hk hge hki ⊢
 by_cases hlt : i < l.length
 ·
  have hd : (l.map dNd)[i]? = some (.tup [.arr 32 l[i].1, .bs l[i].2]) := by rw [Xl, List.getElem?_eq_getElem hlt]; rfl
  have hf : (l.take (i + 1)).foldl uT s = uT (c, es) l[i] := by
   rw [Xa hlt, YP, ← hs]
   rfl
  have hal := Qx (c, es) l[i]
  have hbl := hb l[i] (XH hlt)
  have hC := SL l[i].2 hbl
  unfold uT at hf hal
  dsimp only at hf hal
  obtain ⟨dv, hdv⟩ : ∃ dv, (dW es l[i].1).getD (.v (.slice none 0 0)) = dv := ⟨_, rfl⟩
  have hl2 : (dW es l[i].1).getD (.v (.slice none 0 0)) = dv ∧ (dW es l[i].1).isSome = eG es l[i].1 := ⟨hdv, (jc es l[i].1).symm⟩
  generalize l[i] = x at *
  obtain ⟨h1, b1⟩ := x
  dsimp only at *
  cases hh : eG es h1 with
  | true =>
   rw [hh] at hl2 hf hal
   rw [if_pos rfl] at hf hal
   repeat
    (first
     | (apply aG; iterate 5 rfl) | (apply aG; iterate 5 rfl) | (apply aF (b := true); (iterate 2 rfl); exact aQ; iterate 2 rfl)
     | (apply bH; (iterate 4 rfl); exact ixA; iterate 2 rfl)
     | (apply aT; rfl; rfl; rfl; intro _) | (apply aO; rfl; exact saA; iterate 4 rfl) | apply EL.nil
     | (apply EC.t0; rfl) | (with_reducible first | apply EK.nc | apply EC.seq | apply EC.r0 | apply EC.k0 | apply EC.b0))
   refine EC.draw 11 (by kernel_rfl) ?_
   simp only [WH, WO, WG, WM]
   repeat
    (first
     | (apply kH; exact hl2; rfl; (first | exact I0 | exact I1 | exact I2 | exact I3 | exact I4 | exact I5); iterate 5 rfl) | (apply bV; iterate 3 rfl)
     | (apply fV; iterate 3 rfl) | (apply dJ; iterate 6 rfl) | (apply dZ; iterate 4 rfl) | (apply dP; rfl; exact I.a; iterate 4 rfl)
     | (apply gQ; iterate 3 rfl) | ((with_reducible apply EH.nil); rfl))
   repeat
    (first
     | (apply ak; iterate 3 rfl) | (apply ah; iterate 3 rfl) | (apply bM; iterate 3 rfl)
     | (apply jM; (iterate 3 rfl); (focus omega); (focus omega); iterate 2 rfl) | apply EL.nil | (apply EC.f0; rfl)
     | (with_reducible first | apply EK.nc | apply EC.seq | apply EC.r0 | apply EC.k0 | apply EK.n0))
   refine EK.again ⟨(i + 1, k, c, es), hlt, hf.symm, hk, hge, by dsimp only; omega⟩ (by dsimp only; omega) ?_
   simp only [XA]
   exact Le.kp
  | false =>
   rw [hh] at hl2 hf hal
   rw [if_neg Bool.false_ne_true] at hf hal
   rw [if_neg Bool.false_ne_true] at hal
   repeat
    (first
     | (apply aG; iterate 5 rfl) | (apply aF (b := true); (iterate 2 rfl); exact aQ; iterate 2 rfl)
     | (apply bH; (iterate 4 rfl); exact ixA; iterate 2 rfl)
     | (apply aT; rfl; rfl; rfl; intro _) | (apply aO; rfl; exact saA; iterate 4 rfl) | apply EL.nil
     | (apply EC.t0; rfl) | (with_reducible first | apply EK.nc | apply EC.seq | apply EC.r0 | apply EC.k0 | apply EC.b0))
   refine EC.draw 11 (by kernel_rfl) ?_
   simp only [WH, WO, WG, WM]
   repeat
    (first
     | (apply kH; exact hl2; rfl; (first | exact I0 | exact I1 | exact I2 | exact I3 | exact I4 | exact I5); iterate 5 rfl) | (apply bV; iterate 3 rfl)
     | (apply fV; iterate 3 rfl) | (apply dJ; iterate 6 rfl) | (apply dZ; iterate 4 rfl) | (apply dP; rfl; exact I.a; iterate 4 rfl)
     | (apply gQ; iterate 3 rfl) | ((with_reducible apply EH.nil); rfl))
   repeat
    (first
     | (apply ak; iterate 3 rfl) | (apply ah; iterate 3 rfl) | (apply bM; iterate 3 rfl) | apply EL.nil
     | (apply EC.t0; rfl) | (with_reducible first | apply EK.nc | apply EC.seq | apply EC.r0))
   refine EC.le (Le.pick [1, 0, 2] [_, _, _] rfl (by decide) rfl) ?_
   refine EC.uO 10 [0, 1, 2, 3, 4, 5, 6, 7, 8] [9] [_] _ (by kernel_rfl) (by kernel_rfl) rfl ?_
   simp only [aZ, WU, WW, WQ, WR]
   repeat
    (first
     | (apply jv (hC); rfl; exact aj.refl _ _; exact enA; iterate 2 rfl) | (apply bV; iterate 3 rfl) | (apply dJ; iterate 6 rfl)
     | (apply dP; rfl; exact I.a; iterate 4 rfl) | (apply gQ; iterate 3 rfl))
   refine EM.nil ?_
   repeat (first | rw [WL] | rw [WJ])
   refine CH.mut (os := [_]) (rest := []) rfl rfl (kR (yQ rfl rfl rfl rfl rfl)) ?_
   rintro _ _ ⟨rfl, rfl⟩
   try simp only [St.put]
   repeat (first | rw [WL] | rw [WJ])
   refine CH.nil ?_
   try simp only [WG, WM]
   repeat
    (first
     | (apply ak; iterate 3 rfl) | (apply ah; iterate 3 rfl) | (apply jM; (iterate 3 rfl); (focus omega); (focus omega); iterate 2 rfl) | apply EL.nil
     | (with_reducible first | apply EK.nc | apply EC.r0 | apply EK.n0))
   refine EK.again ⟨(i + 1, k + 1, iR c es h1, iQ c es h1 (.bs b1)), hlt, hf.symm, by dsimp only at hal ⊢; omega, by dsimp only at hal ⊢; omega, by dsimp only; omega⟩ (by dsimp only; omega) ?_
   simp only [XA]
   exact Le.kp
 ·
  obtain rfl : i = l.length := by omega
  rw [Yb] at hs
  rw [← hs]
  repeat
   (first
    | (apply ak; iterate 3 rfl) | (apply ah; iterate 3 rfl) | (apply aF (b := false); (iterate 2 rfl); exact aQ; iterate 2 rfl) | apply EL.nil
    | (apply EC.f0; rfl)
    | (with_reducible first | apply EK.nc | apply EC.seq | apply EC.r0 | apply EC.x0 | apply EC.ret | apply EK.s0 | apply EK.aJ))
  refine EK.le (Le.pick [1, 0] [_, _] rfl (by decide) rfl) ?_
  exact EK.aW [rfO g m h, .map m 32 c es] rfl rfl (by (repeat first | exact WI _ | apply List.Sublist.cons_cons | apply List.Sublist.cons)) ⟨by dsimp only; rw [hk], rfl⟩
theorem vI {α : Type} [DecidableEq α] : ∀ {l m : List α}, l.Nodup → (∀ x ∈ l, x ∈ m) → l.length ≤ m.length
 | [], m, _, _ => Xo _
 | a :: l, m, hn, h => by
  rw [XV] at hn
  have h1 := h a WT
  have h2 := vI (l := l) (m := m.erase a) hn.2 fun x hx => (List.mem_erase_of_ne (fun e => hn.1 (by rw [← e]; exact hx))).2 (h x (WZ _ hx))
  rw [List.length_erase_of_mem h1] at h2
  have h3 := List.length_pos_of_mem h1
  rw [WS]
  omega
def NdE (ns : List Ent) : Prop := ∀ k d, dW ns k = some d → ∃ b, d = .bs b ∧ b.length ≤ 16777216
def nbF (ns : List Ent) (k : List UInt8) : Option (List UInt8) := match dW ns k with
 | some (.bs b) => some b
 | _ => none
theorem OW {ns : List Ent} (h : NdE ns) {k : List UInt8} (hk : eG ns k = true) : ∃ b, nbF ns k = some b ∧ dW ns k = some (.bs b) ∧ b.length ≤ 16777216 := by
 rw [jc] at hk
 cases hg : dW ns k with
 | none => rw [hg] at hk; cases hk
 | some d =>
  obtain ⟨b, rfl, hb⟩ := h k d hg
  exact ⟨b, by unfold nbF; rw [hg], rfl, hb⟩
theorem FC {ns : List Ent} {k : List UInt8} (hk : eG ns k = false) : nbF ns k = none ∧ dW ns k = none := by
 rw [jc] at hk
 cases hg : dW ns k with
 | none => exact ⟨by unfold nbF; rw [hg], rfl⟩
 | some d => rw [hg] at hk; cases hk
theorem kQ {ns : List Ent} {k : List UInt8} : k ∈ ns.map (·.2.1) ↔ eG ns k = true := by
 rw [jc]
 cases hg : dW ns k with
 | none => exact ⟨fun h => absurd h ((rM ns k).1 hg), fun h => by cases h⟩
 | some d => exact ⟨fun _ => rfl, fun _ => Zm fun hn => by rw [(rM ns k).2 hn] at hg; cases hg⟩
structure tX (S : List Ent) : Prop where
 nd : (S.map (·.2.1)).Nodup
 tt : ∀ e ∈ S, e.2.2 = .v (.bool true)
theorem tX.nil : tX [] := ⟨List.nodup_nil, fun e h => by cases h⟩
theorem FX : ∀ {es : List Ent} {k : List UInt8} {d : D}, dW es k = some d → ∃ e ∈ es, e.2.1 = k ∧ e.2.2 = d
 | [], k, d, h => by cases h
 | x :: es, k, d, h => by
  rw [dW] at h
  split at h
  ·
   rename_i hx
   exact ⟨x, WT, by simpa using hx, by simpa using h⟩
  ·
   obtain ⟨e, he, h2⟩ := FX h
   exact ⟨e, WZ _ he, h2⟩
theorem tX.get {S : List Ent} (h : tX S) (k : List UInt8) : (dW S k).getD (.v (.bool false)) = .v (.bool (eG S k)) := by
 rw [jc]
 cases hg : dW S k with
 | none => rfl
 | some d =>
  obtain ⟨e, he, _, rfl⟩ := FX hg
  rw [h.tt e he]
  rfl
theorem tX.put {S : List Ent} (h : tX S) {c : Nat} {k : List UInt8} (hk : eG S k = false) : tX (iQ c S k (.v (.bool true))) ∧ (iQ c S k (.v (.bool true))).length = S.length + 1 ∧ ∀ y, y ∈ (iQ c S k (.v (.bool true))).map (·.2.1) ↔ y = k ∨ y ∈ S.map (·.2.1) := by
 have e : iQ c S k (.v (.bool true)) = S ++ [(c, k, .v (.bool true))] := by
  unfold iQ
  rw [hk, if_neg Bool.false_ne_true]
 have hn : k ∉ S.map (·.2.1) := fun hm => by
  rw [kQ.1 hm] at hk
  cases hk
 rw [e]
 refine ⟨⟨?_, fun x hx => ?_⟩, by simp, fun y => ?_⟩
 ·
  rw [XK]
  refine YQ.2 ⟨h.nd, by simp, fun a ha b hb e2 => ?_⟩
  obtain rfl : b = k := by simpa using hb
  exact hn (by rw [← e2]; exact ha)
 ·
  rcases Xq.1 hx with hx | hx
  · exact h.tt x hx
  ·
   obtain rfl := XQ.1 hx
   rfl
 ·
  rw [XK, Xq, or_comm]
  simp
theorem Qd (rs : List (List UInt8)) (hl : rs.length ≤ 1099511627776) : FnM 133 [.sl 32 (rs.map (D.arr 32))] [] (fun r os' => ∃ v, r = .val (.v v) ∧ os' = [wdO v rs]) := by
 have hml : (rs.map (D.arr 32)).length = rs.length := WY _
 refine FnM.walk 8 Tryz.func133 rfl Tryz.ntmps133 (by simp) fun X => ?_
 repeat
  (first
   | (apply KD; (iterate 6 rfl); intro v hv) | (apply ak; iterate 3 rfl) | (apply ah; iterate 3 rfl) | apply EL.nil
   | (with_reducible first | apply EK.nc | apply EC.seq | apply EC.r0))
 cases v with
 | true =>
  have h0 := hv rfl
  rw [h0] at hml
  obtain rfl : rs = [] := YX.1 hml.symm
  repeat
   (first
    | (apply ah; iterate 3 rfl) | apply EL.nil | (apply EC.t0; rfl)
    | (with_reducible first | apply EK.nc | apply EC.seq | apply EC.r0 | apply EC.ret | apply EK.aB))
  refine EK.le (Le.row 29 32) ?_
  exact EK.aW [wdO (.slice none 0 0) []] rfl rfl (by (repeat first | exact WI _ | apply List.Sublist.cons_cons | apply List.Sublist.cons)) ⟨_, rfl, rfl⟩
 | false =>
  repeat
   (first
    | (refine EL.mut (os := []) (rest := []) rfl (jf rfl rfl) (OY rfl rfl rfl) ?_; rintro _ _ ⟨v, rfl, rfl⟩; simp only [St.put, WL, WJ])
    | (apply jB; rfl; exact .z; (iterate 5 rfl); (constructor <;> (simp; omega)); intro u2) | (apply ak; iterate 3 rfl) | (apply ah; iterate 3 rfl) | apply EL.nil
    | (apply EC.f0; rfl) | (with_reducible first | apply EK.nc | apply EC.seq | apply EC.r0 | apply EC.k0 | apply EC.ret))
  exact EK.aW [wdO u2 rs] rfl rfl (by (repeat first | exact WI _ | apply List.Sublist.cons_cons | apply List.Sublist.cons)) ⟨_, rfl, rfl⟩
structure Rcd (ns : List Ent) (rs : List (List UInt8)) (S : List Ent) : Prop where
 set : tX S
 all : ∀ y, y ∈ S.map (·.2.1) ↔ Rch (nbF ns) rs y
 len : S.length ≤ ns.length
theorem wX {ns : List Ent} {k b : List UInt8} (h : nbF ns k = some b) : eG ns k = true := by
 cases hh : eG ns k with
 | true => rfl
 | false => rw [(FC hh).1] at h; cases h
def pW (a b : Nat) : Nat := (a - b) * 16777216
theorem Ia {a b : Nat} (h : b + 1 ≤ a) : pW a (b + 1) + 16777216 = pW a b := by
 unfold pW
 rw [← Nat.succ_mul]
 congr 1
 omega
theorem H6 {α : Type} (w : List α) : w = [] ∨ ∃ w' x, w = w' ++ [x] := by
 rcases List.eq_nil_or_concat w with h | ⟨w', x, h⟩
 · exact .inl h
 · exact .inr ⟨w', x, by rw [h, List.concat_eq_append]⟩
theorem J7 (g m h : Nat) (c1 : Nat) (ns : List Ent) (hns : NdE ns) (rs : List (List UInt8)) (hT : pW ns.length 0 + rs.length ≤ 1099511627776) :
  FnM 78 [.v (ptr g), .sl 32 (rs.map (D.arr 32))] [rfO g m h, .map m 32 c1 ns] (fun r os' => ∃ s cs S, Rcd ns rs S ∧ r = .val (.v (.map (some s))) ∧ os' = [rfO g m h, .map m 32 c1 ns, .map s 32 cs S]) := by
 have hC := Qd rs (by omega)
 refine FnM.walk 50 Tryz.func78 rfl Tryz.ntmps78 (by simp) fun X => ?_
 repeat
  (first
   | (apply CV; (iterate 3 rfl); intro s) | (apply ak; iterate 3 rfl) | (apply ah; iterate 3 rfl) | apply EL.nil
   | (with_reducible first | apply EK.nc | apply EC.seq | apply EC.r0))
 refine dD (os := []) hC rfl rfl (aj.refl _ _) (by intro _ _; simp [go_sem]) rfl rfl ?_
 rintro _ _ ⟨v0, rfl, rfl⟩
 simp only [WL, WJ]
 repeat
  (first
   | (apply ah; iterate 3 rfl) | apply EL.nil | ((with_reducible apply EK.h0); apply EK.code) | (with_reducible apply EC.b0))
 refine EC.loop (ι := {x : Value × List (List UInt8) × Nat × List Ent // Way (nbF ns) rs (x.2.2.2.map (·.2.1)) x.2.1 ∧ tX x.2.2.2 ∧ pW ns.length x.2.2.2.length + x.2.1.length ≤ pW ns.length 0 + rs.length})
  (fun x => ⟨[(6, .val (.v x.1.1)), (5, .val (.v (.map (some s)))), (0, .val (.v (ptr g)))], [wdO x.1.1 x.1.2.1, .map s 32 x.1.2.2.1 x.1.2.2.2, rfO g m h, .map m 32 c1 ns], []⟩)
  (fun x => pW ns.length x.1.2.2.2.length + x.1.2.1.length) ⟨(v0, rs, 0, []), .start, .nil, Nat.le_refl _⟩ ?_ ?_
 · exact Le.kp
 rintro ⟨⟨v, w, cs, S⟩, hW, hS, hM⟩
 dsimp only at hW hS hM ⊢
 have hSn : S.length ≤ ns.length := by
  have h1 := vI hS.nd fun x hx => kQ.2 (wX ((hW.sound x hx).there).choose_spec)
  rwa [WY, WY] at h1
 obtain rfl | ⟨w', x, rfl⟩ : w = [] ∨ ∃ w' x, w = w' ++ [x] := H6 w
 ·
  have hl0 : (([] : List (List UInt8)).map (D.arr 32)).length = 0 := rfl
  repeat
   (first
    | (apply ak; iterate 3 rfl) | (apply ah; iterate 3 rfl) | (apply aF (b := false); (iterate 2 rfl); exact aQ; iterate 2 rfl)
    | (apply oK; rfl; exact I.a; iterate 3 rfl) | apply EL.nil | (apply EC.f0; rfl)
    | (with_reducible first | apply EK.nc | apply EC.seq | apply EC.r0 | apply EC.x0 | apply EC.ret | apply EK.s0 | apply EK.aJ))
  refine EK.le (Le.pick [2, 3, 1, 0] [_, _, _, _] rfl (by decide) rfl) ?_
  exact EK.aW [rfO g m h, .map m 32 c1 ns, .map s 32 cs S] rfl rfl (by (repeat first | exact WI _ | apply List.Sublist.cons_cons | apply List.Sublist.cons)) ⟨s, cs, S, ⟨hS, fun y => hW.done y, hSn⟩, rfl, rfl⟩
 ·
  have hlen : ((w' ++ [x]).map (D.arr 32)).length = w'.length + 1 := by simp
  have hdx : ((w' ++ [x]).map (D.arr 32))[w'.length]? = some (.arr 32 x) := by simp
  have hcut : ((w' ++ [x]).map (D.arr 32)).take w'.length = w'.map (D.arr 32) := by simp
  have hlast : ∀ y ∈ w' ++ [x], y = x ∨ y ∈ w' := fun y hy => by
   rcases Xq.1 hy with hy | hy
   · exact .inr hy
   · exact .inl (XQ.1 hy)
  have hin : ∀ y ∈ w', y ∈ w' ++ [x] := fun y hy => XC _ hy
  have hxin : x ∈ w' ++ [x] := Xz _ (XQ.2 rfl)
  have hM2 : pW ns.length S.length + w'.length + 1 ≤ pW ns.length 0 + rs.length := by
   rw [List.length_append, List.length_singleton] at hM
   omega
  have hlw : (w' ++ [x]).length = w'.length + 1 := by simp
  obtain ⟨dv, hdv⟩ : ∃ dv, (dW ns x).getD (.v (.slice none 0 0)) = dv := ⟨_, rfl⟩
  have hl2 : (dW ns x).getD (.v (.slice none 0 0)) = dv ∧ (dW ns x).isSome = eG ns x := ⟨hdv, (jc ns x).symm⟩
  have hsv := hS.get x
  have hwl : (w'.map (D.arr 32)).length = w'.length := WY _
  show EC _ _ _ ⟨_, .row v 29 32 ((w' ++ [x]).map (D.arr 32)) :: _, _⟩
  generalize (w' ++ [x]).map (D.arr 32) = L at hlen hdx hcut ⊢
  have hix : ((L.length : Int) - 1).toNat = w'.length := by omega
  have hgo : gq .gtr (L.length : Int) 0 = some true := by
   have h0 : (0 : Int) < (L.length : Int) := by omega
   exact congrArg some (decide_eq_true h0)
  repeat
   (first
    | (apply aF (b := true); (iterate 2 rfl); exact hgo; iterate 2 rfl)
    | (apply qX; rfl; exact I0; rfl; rfl; exact ⟨by omega, by rw [hix]; omega⟩; iterate 2 rfl)
    | (apply oJ (k := w'.length) (off := 0) (d := .arr 32 x); rfl; exact I0; exact ⟨by rw [hix]; rfl, hdx⟩; iterate 4 rfl)
    | (apply GX; rfl; exact I1; (iterate 2 rfl); (focus (constructor <;> (first | omega | (rw [hix]; omega)))); iterate 2 rfl) | (apply ak; iterate 3 rfl)
    | (apply ah; iterate 3 rfl) | (apply jM; (iterate 3 rfl); (focus omega); (focus omega); iterate 2 rfl) | (apply oK; rfl; exact I.a; iterate 3 rfl)
    | (apply aT; rfl; rfl; rfl; intro _) | (apply aO; rfl; exact saA; iterate 4 rfl) | apply EL.nil
    | (apply EC.t0; rfl) | (with_reducible first | apply EK.nc | apply EC.seq | apply EC.r0 | apply EC.k0 | apply EC.b0))
  rw [hix]
  refine EC.le (Le.P9 (k := w'.length) (by omega) (.s .z)) ?_
  rw [hcut]
  clear hdx hcut hlen hgo hix
  cases hh : eG ns x with
  | false =>
   rw [hh] at hl2
   have hW2 := hW.skip hlast hin (.inl (FC hh).1)
   refine EC.draw 10 (by kernel_rfl) ?_
   simp only [WH, WO, WG, WM]
   repeat
    (first
     | (apply kH; exact hl2; rfl; (first | exact I0 | exact I1 | exact I2 | exact I3 | exact I4 | exact I5); iterate 5 rfl) | (apply bV; iterate 3 rfl)
     | (apply fV; iterate 3 rfl) | (apply dJ; iterate 6 rfl) | (apply dZ; iterate 4 rfl) | (apply dP; rfl; exact I.a; iterate 4 rfl)
     | (apply gQ; iterate 3 rfl) | ((with_reducible apply EH.nil); rfl))
   repeat
    (first
     | (apply dO; iterate 2 rfl) | (apply ak; iterate 3 rfl) | (apply ah; iterate 3 rfl) | (apply aK; iterate 4 rfl) | (apply bM; iterate 3 rfl)
     | apply EL.nil | (apply EC.t0; rfl)
     | (with_reducible first | apply EK.nc | apply EC.seq | apply EC.r0 | apply EC.x0 | apply EK.s0 | apply EK.aJ))
   refine EK.again ⟨(cutV v w'.length, w', cs, S), hW2, hS, by dsimp only; omega⟩ (by dsimp only; omega) ?_
   exact Le.kp
  | true =>
   rw [hh] at hl2
   obtain ⟨b, hb1, hb2, hb3⟩ := OW hns hh
   obtain rfl : dv = .bs b := by
    rw [← hdv, hb2]
    rfl
   cases hs : eG S x with
   | true =>
    rw [hs] at hsv
    have hW2 := hW.skip hlast hin (.inr (kQ.2 hs))
    refine EC.draw 10 (by kernel_rfl) ?_
    simp only [WH, WO, WG, WM]
    repeat
     (first
      | (apply kH; exact hl2; rfl; (first | exact I0 | exact I1 | exact I2 | exact I3 | exact I4 | exact I5); iterate 5 rfl) | (apply bV; iterate 3 rfl)
      | (apply fV; iterate 3 rfl) | (apply dJ; iterate 6 rfl) | (apply dZ; iterate 4 rfl) | (apply dP; rfl; exact I.a; iterate 4 rfl)
      | (apply gQ; iterate 3 rfl) | ((with_reducible apply EH.nil); rfl))
    repeat
     (first
      | (apply zZ; exact hsv; rfl; exact I2; iterate 5 rfl) | (apply ak; iterate 3 rfl) | (apply ah; iterate 3 rfl) | (apply aK; iterate 4 rfl)
      | (apply bM; iterate 3 rfl) | (apply aI; rfl; exact I.a; iterate 4 rfl) | apply EL.nil
      | (apply EC.t0; rfl) | (with_reducible first | apply EK.nc | apply EC.seq | apply EC.r0 | apply EC.x0 | apply EK.s0 | apply EK.aJ))
    refine EK.again ⟨(cutV v w'.length, w', cs, S), hW2, hS, by dsimp only; omega⟩ (by dsimp only; omega) ?_
    exact Le.kp
   | false =>
    rw [hs] at hsv
    have hC2 := zH b (by omega)
    have hlb := xI b
    obtain ⟨hS2, hS3, hS4⟩ := hS.put (c := cs) hs
    have hSlt : S.length + 1 ≤ ns.length := by
     have h1 := vI hS2.nd fun y hy => by
      rcases (hS4 y).1 hy with rfl | hy
      · exact kQ.2 hh
      · exact kQ.2 (wX ((hW.sound y hy).there).choose_spec)
     rw [WY, WY, hS3] at h1
     exact h1
    have hW2 := hW.go (S' := (iQ cs S x (.v (.bool true))).map (·.2.1)) (w' := w' ++ ldB b) hxin hb1 (fun y hy => (hlast y hy).imp id (XC _)) (fun y hy => (Xq.1 hy).imp (hin y) id) (fun y hy => Xz _ hy) hS4
    have hM3 := Ia hSlt
    have hlm : ((ldB b).map (D.arr 32)).length = (ldB b).length := WY _
    have hap : w'.map (D.arr 32) ++ (ldB b).map (D.arr 32) = (w' ++ ldB b).map (D.arr 32) := by rw [XK]
    have hla : (w' ++ ldB b).length = w'.length + (ldB b).length := List.length_append
    refine EC.draw 10 (by kernel_rfl) ?_
    simp only [WH, WO, WG, WM]
    repeat
     (first
      | (apply kH; exact hl2; rfl; (first | exact I0 | exact I1 | exact I2 | exact I3 | exact I4 | exact I5); iterate 5 rfl) | (apply bV; iterate 3 rfl)
      | (apply fV; iterate 3 rfl) | (apply dJ; iterate 6 rfl) | (apply dZ; iterate 4 rfl) | (apply dP; rfl; exact I.a; iterate 4 rfl)
      | (apply gQ; iterate 3 rfl) | ((with_reducible apply EH.nil); rfl))
    repeat
     (first
      | (apply zZ; exact hsv; rfl; exact I2; iterate 5 rfl) | (apply QF; rfl; exact .s (.s .z); iterate 4 rfl)
      | (apply aC (hC2); rfl; exact aj.refl _ _; exact enA; iterate 2 rfl) | (apply jB; rfl; exact .s .z; (iterate 5 rfl); (constructor <;> (simp; omega)); intro u2)
      | (apply ak; iterate 3 rfl) | (apply ah; iterate 3 rfl) | (apply aK; iterate 4 rfl) | (apply bM; iterate 3 rfl)
      | (apply aI; rfl; exact I.a; iterate 4 rfl) | apply EL.nil | (apply EC.f0; rfl)
      | (with_reducible first | apply EK.nc | apply EC.seq | apply EC.r0 | apply EC.k0 | apply EK.n0))
    rw [hap]
    refine EK.le (Le.pick [1, 2, 3, 4, 0] [_, _, _, _, _] rfl (by decide) rfl) ?_
    refine EK.again ⟨(u2, w' ++ ldB b, iR cs S x, iQ cs S x (.v (.bool true))), hW2, hS2, by dsimp only; rw [hS3]; omega⟩ (by dsimp only; rw [hS3]; omega) ?_
    exact Le.kp
end E
end Go.Proofs.YtelbhdobjdnglaaGreat
