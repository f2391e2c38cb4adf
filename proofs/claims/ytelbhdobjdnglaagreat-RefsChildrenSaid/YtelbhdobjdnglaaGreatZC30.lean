/-
 Merged: lemmas of this claim.
 Conditions: none.
-/
import Derived.Test.YtelbhdobjdnglaaGreatZC29
import Derived.Test.YtelbhdobjdnglaaGreatZC24
import Derived.Test.YtelbhdobjdnglaaGreatZC0
namespace Go.Proofs.YtelbhdobjdnglaaGreat
set_option linter.unusedVariables false
set_option maxRecDepth 20000
set_option maxHeartbeats 16000000
open Go.RowKit Mono Rlp
namespace E
structure Rem (ns S' ns' : List Ent) : Prop where
 sub : ns'.Sublist ns
 all : ∀ e ∈ ns, e ∈ ns' ↔ eG S' e.2.1 = false
theorem Rch.congr {F : List UInt8 → Option (List UInt8)} {rs rs' : List (List UInt8)} (h : ∀ y, y ∈ rs ↔ y ∈ rs') (y : List UInt8) : Rch F rs y ↔ Rch F rs' y := ⟨Rch.mono fun y hy => (h y).1 hy, Rch.mono fun y hy => (h y).2 hy⟩
theorem Rcd.congr {ns S : List Ent} {rs rs' : List (List UInt8)} (h : ∀ y, y ∈ rs ↔ y ∈ rs') (H : Rcd ns rs S) : Rcd ns rs' S := ⟨H.set, fun y => (H.all y).trans (Rch.congr h y), H.len⟩
theorem UM (g m h : Nat) (c1 : Nat) (ns : List Ent) (hns : NdE ns) (c2 : Nat) (hs : List Ent) (hT : pW ns.length 0 + hs.length ≤ 1099511627776) (s cs : Nat) (S : List Ent) (hS : tX S) (hSl : S.length ≤ 1000000000) :
  FnM 77 [.v (ptr g), .v (.map (some s))] [rfO g m h, .map m 32 c1 ns, .map h 32 c2 hs, .map s 32 cs S] (fun r os' => ∃ S' ns' W, Rcd ns (hs.map (·.2.1)) W ∧ Dif S W S' ∧ Rem ns S' ns' ∧ r = .val (.sl 32 ((sortL (S'.map (·.2.1))).map (D.arr 32))) ∧ os' = [rfO g m h, .map m 32 c1 ns', .map h 32 c2 hs]) := by
 have h1 := Rz h
 have h2 := fun gk => Jg gk h c2 hs (by omega)
 refine FnM.walk 32 Tryz.func77 rfl Tryz.ntmps77 (by simp) fun X => ?_
 repeat
  (first
   | (apply dD (os := []) h1; (iterate 2 rfl); exact aj.refl _ _; (focus (intro _ _; simp [go_sem]; done)); (iterate 2 rfl); rintro _ _ ⟨gk, rfl, rfl⟩; simp only [WL, WJ])
   | (apply ak; iterate 3 rfl) | (apply ah; iterate 3 rfl) | (apply aH; iterate 6 rfl) | (apply aI; rfl; exact I.a; iterate 4 rfl)
   | (apply kL; iterate 3 rfl) | apply EL.nil | (with_reducible first | apply EK.nc | apply EC.seq | apply EC.r0))
 refine EL.le (Le.pick [0, 3, 1, 2, 4] [_, _, _, _, _] rfl (by decide) rfl) ?_
 refine dD (os := [.var gk 153 (.v (.map (some h))), .map h 32 c2 hs]) (h2 gk) rfl rfl (aj.refl _ _) (by intro _ _; simp [go_sem]) rfl rfl ?_
 rintro _ _ ⟨v, ks, rfl, hp, rfl⟩
 simp only [WL, WJ]
 refine EL.le (Le.freeze (pre := []) rfl) ?_
 refine EL.le (Le.refine (t := 13) (d' := .sl 32 ((ks.map (·.1)).map (D.arr 32))) rfl (Rf.fact (by rw [← Hg]; exact WT) rfl)) ?_
 simp only [WJ]
 have hkl : (ks.map (·.1)).length = hs.length := by rw [hp.length_eq, WY]
 have h3 := J7 g m h c1 ns hns (ks.map (·.1)) (by rw [hkl]; exact hT)
 repeat
  fail
 refine EL.le (Le.pick [2, 3, 1, 4, 0] [_, _, _, _, _] rfl (by decide) rfl) ?_
 refine dD (os := [rfO g m h, .map m 32 c1 ns]) h3 rfl rfl (aj.refl _ _) (by intro _ _; simp [go_sem]) rfl rfl ?_
 rintro _ _ ⟨wm, cw, W, hW, rfl, rfl⟩
 simp only [WL, WJ]
 have hW2 := hW.congr fun y => hp.mem_iff
 clear h1 h2 h3
 repeat
  (first
   | (apply ak; iterate 3 rfl) | (apply uU; iterate 3 rfl) | (apply aT; rfl; rfl; rfl; intro _)
   | (apply aO; rfl; exact saA; iterate 4 rfl) | apply EL.nil
   | (with_reducible first | apply EK.nc | apply EC.seq | apply EC.r0))
 rename_i g5
 refine EL.le (Le.pick [5, 0, 3, 1, 2, 4, 6] [_, _, _, _, _, _, _] rfl (by decide) rfl) ?_
 refine dD (os := [.map s 32 cs S, wvO g5 wm, .map wm 32 cw W]) (Nv (g5 := g5) s cs S hS hW.set) rfl rfl (aj.refl _ _) (by intro _ _; simp [go_sem]) rfl rfl ?_
 rintro _ _ ⟨S', hD, rfl, rfl⟩
 simp only [WL, WJ]
 clear hp hW
 repeat
  (first
   | (apply KE; rfl; (first | exact I0 | exact I1 | exact I2 | exact I3); (iterate 3 rfl); intro gi) | (apply ak; iterate 3 rfl) | apply EL.nil
   | (with_reducible first | apply EK.nc | apply EC.seq | apply EC.r0 | apply EC.b0))
 refine EC.mapOf 1 rfl fun hE hlen => ?_
 refine EC.mapOf 5 rfl fun hEn hlenn => ?_
 refine EC.le (Le.pick [0, 1, 5, 4, 6, 2, 3, 7] [_, _, _, _, _, _, _, _] rfl (by decide) rfl) ?_
 refine EC.loop (ι := {x : List Ent × List Ent // (∀ e ∈ x.1, e ∈ S') ∧ (x.1.map (·.1)).Nodup ∧ x.2.Sublist ns ∧ ∀ e ∈ ns, e ∈ x.2 ↔ e.2.1 ∉ x.1.map (·.2.1)})
  (fun x => ⟨[(19, .val (.v (ptr gi))), (1, .val (.v (.map (some s)))), (0, .val (.v (ptr g)))], [itO gi s cs (x.1.1.map (·.1)).toArray, .map s 32 cs S', .map m 32 c1 x.1.2, rfO g m h, .map h 32 c2 hs], []⟩)
  (fun x => S'.length - x.1.1.length) ⟨([], ns), fun e he => by simp at he, .nil, Yn _, fun e he => by simp [he]⟩ ?_ ?_
 · exact Le.kp
 rintro ⟨⟨xs, cur⟩, hsub, hnod, hcs, hall⟩
 dsimp only at hsub hnod hcs hall ⊢
 repeat
  (first
   | (with_reducible first | apply EC.seq | apply EC.r0))
 refine QE rfl rfl rfl (fun hfin => ?_) (fun e he hne => ?_)
 ·
  have hperm := Oj hE.borns hsub hnod hfin
  have hR : Rem ns S' cur := ⟨hcs, fun e he => by
   rw [hall e he, (hperm.map (·.2.1)).mem_iff, kQ]
   cases eG S' e.2.1 <;> simp⟩
  have k1 := RD s
  have hSl2 := hD.sub.length_le
  have k2 := fun gk => KT 103 GH zI gk s cs S' (by omega)
  obtain ⟨K, hK⟩ : ∃ K, sortL (S'.map (·.2.1)) = K := ⟨_, rfl⟩
  simp only [hK] at k2
  repeat
   (first
    | (apply dD (os := []) k1; (iterate 2 rfl); exact aj.refl _ _; (focus (intro _ _; simp [go_sem]; done)); (iterate 2 rfl); rintro _ _ ⟨gk2, rfl, rfl⟩; simp only [WL, WJ])
    | (apply ak; iterate 3 rfl) | (apply aA; iterate 4 rfl) | apply EL.nil | (apply EC.f0; rfl)
    | (with_reducible first | apply EK.nc | apply EC.seq | apply EC.r0 | apply EC.x0 | apply EK.s0 | apply EK.aJ))
  refine EL.le (Le.pick [0, 2, 1, 3, 4, 5] [_, _, _, _, _, _] rfl (by decide) rfl) ?_
  refine dD (os := [.var gk2 163 (.v (.map (some s))), .map s 32 cs S']) (k2 gk2) rfl rfl (aj.refl _ _) (by intro _ _; simp [go_sem]) rfl rfl ?_
  rintro _ _ ⟨v2, rfl, rfl⟩
  simp only [WL, WJ]
  refine EL.le (Le.freeze (pre := []) rfl) ?_
  simp only [WJ]
  repeat
   (first
    | (apply ah; iterate 3 rfl) | apply EL.nil | ((with_reducible apply EK.h0); apply EK.code) | (with_reducible apply EC.ret))
  refine EK.le (Le.pick [4, 3, 5, 0, 1, 2] [_, _, _, _, _, _] rfl (by decide) rfl) ?_
  exact EK.iZ [rfO g m h, .map m 32 c1 cur, .map h 32 c2 hs] rfl rfl (RL.cons (Rf.fact WT rfl) RL.nil) (by (repeat first | exact WI _ | apply List.Sublist.cons_cons | apply List.Sublist.cons)) ⟨S', cur, W, hW2, hD, hR, by rw [hK], rfl⟩
 ·
  have heS := he
  obtain ⟨hsub2, hnod2, hlen2⟩ := Bc hsub hnod he hne
  have hpb := Bz xs e
  obtain ⟨be, ke, de⟩ := e
  have hdf := qQ cur ke (hEn.keys.sublist (hcs.map _))
  have hdm : ∀ e, e ∈ kG cur ke ↔ e ∈ cur ∧ e.2.1 ≠ ke := fun e => by
   rw [hdf, Yp]
   simp
  repeat
   (first
    | (apply Ej (e := (be, ke, de)) he; rfl; (first | exact I0 | exact I1); (first | exact I1 | exact I2); iterate 2 rfl) | (apply aA; iterate 4 rfl)
    | (apply aT; rfl; rfl; rfl; intro _) | (apply aO; rfl; exact saA; iterate 4 rfl) | apply EL.nil
    | (apply EC.t0; rfl) | (with_reducible first | apply EK.nc | apply EC.seq | apply EC.r0 | apply EC.k0 | apply EC.b0))
  dsimp only
  refine EC.draw 5 (by kernel_rfl) ?_
  simp only [WH, WO, WG, WM]
  repeat
   (first
    | (apply bV; iterate 3 rfl) | (apply dJ; iterate 6 rfl) | (apply dP; rfl; exact I.a; iterate 4 rfl) | (apply gQ; iterate 3 rfl)
    | ((with_reducible apply EH.nil); rfl))
  repeat
   (first
    | (apply Ac; rfl; exact saA; iterate 3 rfl) | apply EL.nil | (with_reducible apply EK.n0))
  refine EK.le (Le.pick [1, 2, 3, 4, 5, 0] [_, _, _, _, _, _] rfl (by decide) rfl) ?_
  refine EK.again ⟨(xs ++ [(be, ke, de)], kG cur ke), hsub2, hnod2, (l9 cur ke).trans hcs, fun e he1 => ?_⟩ (by dsimp only; rw [List.length_append, List.length_singleton]; omega) ?_
  ·
   rw [hdm, hall e he1, XK, Xq]
   simp
  ·
   dsimp only at hpb ⊢
   rw [← hpb]
   exact Le.kp
theorem Nr (g m h c : Nat) (es : List Ent) (bf : List UInt8 → List UInt8) (hb : ∀ k ∈ es.map (·.2.1), dW es k = some (.bs (bf k))) (hbl : ∀ k, (bf k).length ≤ 140737488355328) (hl : es.length ≤ 1000000000) :
  FnM 38 [.v (ptr g)] [rfO g m h, .map m 32 c es] (fun r os' => r = .val (.sl 33 ((sortL (es.map (·.2.1))).map fun k => dNd (k, bf k))) ∧ os' = [rfO g m h, .map m 32 c es]) := by
 have hL := UQ m c es bf hb hbl hl
 refine FnM.walk 8 Tryz.func38 rfl Tryz.ntmps38 (by simp) fun X => ?_
 generalize (sortL (es.map (·.2.1))).map (fun k => dNd (k, bf k)) = K at *
 repeat
  (first
   | (apply ak; iterate 3 rfl) | (apply ah; iterate 3 rfl) | (apply aH; iterate 6 rfl) | (apply aI; rfl; exact I.a; iterate 4 rfl)
   | (apply kL; iterate 3 rfl) | apply EL.nil | (with_reducible first | apply EK.nc | apply EC.seq | apply EC.r0))
 refine EL.le (Le.pick [1, 0] [_, _] rfl (by decide) rfl) ?_
 refine dD (os := [.map m 32 c es]) hL rfl rfl (aj.refl _ _) (by intro _ _; simp [go_sem]) rfl rfl ?_
 rintro _ _ ⟨rfl, rfl⟩
 simp only [WL, WJ]
 repeat
  (first
   | (apply ah; iterate 3 rfl) | apply EL.nil | ((with_reducible apply EK.h0); apply EK.code) | (with_reducible apply EC.ret))
 refine EK.le (Le.pick [1, 0] [_, _] rfl (by decide) rfl) ?_
 exact EK.aW [rfO g m h, .map m 32 c es] rfl rfl (by (repeat first | exact WI _ | apply List.Sublist.cons_cons | apply List.Sublist.cons)) ⟨rfl, rfl⟩
theorem A8 : ∀ (es : List Ent) (l : List UInt8) (d : D), (lS es l d).length = es.length
 | [], _, _ => rfl
 | x :: es, l, d => by
  rw [lS]
  split
  · rfl
  · rw [WS, WS, A8 es l d]
theorem LV (c : Nat) (es : List Ent) (l : List UInt8) (d : D) : (iQ c es l d).length ≤ es.length + 1 := by
 unfold iQ
 split
 ·
  rw [A8]
  omega
 · simp
theorem Ja (g m h : Nat) (w : List UInt8) (hl : w.length = 32) (hb : wQ w = false) (c1 : Nat) (ns : List Ent) (hns : NdE ns) (c : Nat) (es : List Ent) (hn : UY es w = .v (.int .i64 1)) (hT : pW ns.length 0 + es.length ≤ 1000000000000) (hnl : ns.length ≤ 1000000000) :
  FnM 35 [.v (ptr g), .arr 32 w] [rfO g m h, .map m 32 c1 ns, .map h 32 c es] (fun r os' => ∃ R S' ns' W, Rcd ns [w] R ∧ Rcd ns ((kG (iQ c es w (.v (.int .i64 0))) w).map (·.2.1)) W ∧ Dif R W S' ∧ Rem ns S' ns' ∧ r = .tpl [.sl 32 ((sortL (S'.map (·.2.1))).map (D.arr 32)), .v (.int .i64 0)] ∧ os' = [rfO g m h, .map m 32 c1 ns', .map h 32 (iR c es w) (kG (iQ c es w (.v (.int .i64 0))) w)]) := by
 have hN := Gj w
 rw [hb] at hN
 obtain ⟨n, hn1⟩ : ∃ n : Int, n = 1 := ⟨_, rfl⟩
 rw [← hn1] at hn
 have hn0 : (n - 1) = 0 := by omega
 rw [← hn0]
 have hg1 : (dW es w).getD (.v (.int .i64 0)) = .v (.int .i64 n) := hn
 have hg2 := (Cb c es w (.v (.int .i64 0))).trans hg1
 have hg4 : (dW (iQ c es w (.v (.int .i64 (n - 1)))) w).getD (.v (.int .i64 0)) = .v (.int .i64 (n - 1)) := by rw [MW, if_pos rfl]; rfl
 have hne : gq .eql n 0 = some false := congrArg some (beq_eq_false_iff_ne.2 (by omega))
 have hgt : gq .gtr (n - 1) 0 = some false := congrArg some (decide_eq_false (by omega))
 have hr1 := J7 g m h c1 ns hns [w] (by rw [List.length_singleton]; omega)
 have hdl : (kG (iQ c es w (.v (.int .i64 (n - 1)))) w).length ≤ es.length + 1 := XD (l9 _ _).length_le (LV c es w _)
 have hr2 := fun s cs S hS hl => UM g m h c1 ns hns (iR c es w) (kG (iQ c es w (.v (.int .i64 (n - 1)))) w) (by omega) s cs S hS hl
 refine FnM.walk 44 Tryz.func35 rfl Tryz.ntmps35 (by simp) fun X => ?_
 repeat
  (first
   | (apply aC (hN); rfl; exact aj.refl _ _; exact enA; iterate 2 rfl) | (apply ah; iterate 3 rfl) | (apply aI; rfl; exact I.a; iterate 4 rfl)
   | (apply cZ; rfl; rfl; rfl; intro _) | apply EL.nil | (apply EC.f0; rfl)
   | (with_reducible first | apply EK.nc | apply EC.seq | apply EC.r0 | apply EC.b0))
 refine EC.draw 6 (by kernel_rfl) ?_
 simp only [WH, WO, WG, WM]
 repeat
  (first
   | (apply jX; exact hg1; rfl; (first | exact I0 | exact I1 | exact I2 | exact I3); iterate 5 rfl) | (apply bV; iterate 3 rfl) | (apply dJ; iterate 6 rfl)
   | (apply dP; rfl; exact I.a; iterate 4 rfl) | (apply gQ; iterate 3 rfl) | ((with_reducible apply EH.nil); rfl))
 repeat
  (first
   | (apply aF (b := false); (iterate 2 rfl); exact hne; iterate 2 rfl) | (apply ah; iterate 3 rfl) | apply EL.nil
   | (apply EC.f0; rfl) | (with_reducible first | apply EK.nc | apply EC.seq | apply EC.k0 | apply EK.n0))
 rename_i gx
 refine EC.via (ι := Unit) (fun _ => ⟨[(3, .val (.v (.pointer (some ⟨gx, 0, none⟩)))), (0, .val (.v (ptr g)))], [.map h 32 (iR c es w) (iQ c es w (.v (.int .i64 (n - 1)))), .var gx 29 (.arr 32 w), rfO g m h, .map m 32 c1 ns], []⟩) ?_ fun _ => ?_
 rotate_left
 ·
  skip
  repeat
   (first
    | ((with_reducible apply EK.h0); apply EK.code) | (with_reducible apply EC.seq))
  refine EC.draw 6 (by kernel_rfl) ?_
  simp only [WH, WO, WG, WM]
  repeat
   (first
    | (apply jX; exact hg4; rfl; (first | exact I0 | exact I1 | exact I2 | exact I3); iterate 5 rfl) | (apply bV; iterate 3 rfl) | (apply dJ; iterate 6 rfl)
    | (apply dP; rfl; exact I.a; iterate 4 rfl) | (apply gQ; iterate 3 rfl) | ((with_reducible apply EH.nil); rfl))
  repeat
   (first
    | (apply aF (b := false); (iterate 2 rfl); exact hgt; iterate 2 rfl) | apply EL.nil | (apply EC.f0; rfl)
    | (with_reducible first | apply EK.nc | apply EC.seq | apply EC.k0))
  refine EC.draw 5 (by kernel_rfl) ?_
  simp only [WH, WO, WG, WM]
  repeat
   (first
    | (apply bV; iterate 3 rfl) | (apply dJ; iterate 6 rfl) | (apply dP; rfl; exact I.a; iterate 4 rfl) | (apply gQ; iterate 3 rfl)
    | ((with_reducible apply EH.nil); rfl))
  repeat
   (first
    | (apply ak; iterate 3 rfl) | (apply aI; rfl; exact I.a; iterate 4 rfl) | (apply mG; iterate 9 rfl)
    | (apply Ac; rfl; exact saA; iterate 3 rfl) | apply EL.nil
    | (with_reducible first | apply EK.nc | apply EC.seq | apply EC.r0))
  refine EL.le (Le.pick [2, 3, 0, 1] [_, _, _, _] rfl (by decide) rfl) ?_
  refine dD (os := [rfO g m h, .map m 32 c1 ns]) hr1 rfl rfl (aj.refl _ _) (by intro _ _; simp [go_sem]) rfl rfl ?_
  rintro _ _ ⟨s, cs, R, hR, rfl, rfl⟩
  simp only [WL, WJ]
  repeat
   fail
  refine EL.le (Le.pick [0, 1, 3, 2, 4] [_, _, _, _, _] rfl (by decide) rfl) ?_
  refine dD (os := [rfO g m h, .map m 32 c1 ns, .map h 32 (iR c es w) (kG (iQ c es w (.v (.int .i64 (n - 1)))) w), .map s 32 cs R]) (hr2 s cs R hR.set (by have := hR.len; omega)) rfl rfl (aj.refl _ _) (by intro _ _; simp [go_sem]) rfl rfl ?_
  rintro _ _ ⟨S', ns', W, q1, q2, q3, rfl, rfl⟩
  simp only [WL, WJ]
  repeat
   (first
    | (apply ah; iterate 3 rfl) | apply EL.nil | ((with_reducible apply EK.h0); apply EK.code) | (with_reducible apply EC.ret))
  exact EK.cO [rfO g m h, .map m 32 c1 ns', .map h 32 (iR c es w) (kG (iQ c es w (.v (.int .i64 (n - 1)))) w)] rfl rfl rfl RL.a (by (repeat first | exact WI _ | apply List.Sublist.cons_cons | apply List.Sublist.cons)) ⟨R, S', ns', W, hR, q1, q2, q3, by rw [hn0], rfl⟩
 refine EC.le (Le.pick [3, 0, 1, 2] [_, _, _, _] rfl (by decide) rfl) ?_
 refine EC.TL 10 [0, 1, 2, 3, 4] [5, 6, 7, 8, 9] [_] _ (by kernel_rfl) (by kernel_rfl) rfl ?_
 simp only [aZ, WU, WW, WQ, WR]
 repeat
  (first
   | (apply bV; iterate 3 rfl) | (apply dJ; iterate 6 rfl) | (apply dP; rfl; exact I.a; iterate 4 rfl) | (apply gQ; iterate 3 rfl))
 refine EM.nil ?_
 repeat (first | rw [WL] | rw [WJ])
 refine CT.pick [5, 7] (by kernel_rfl) fun k hk => ?_
 rcases (show k = 5 ∨ k = 7 by simpa using hk) with rfl | rfl
 all_goals clear hk
 ·
  skip
  simp only [aZ, WU, WW, WQ, WR]
  refine CH.cut 1 ?_
  simp only [WH, WO, WG, WM]
  repeat
   (first
    | (apply jX; exact hg1; rfl; (first | exact I0 | exact I1 | exact I2 | exact I3); iterate 5 rfl))
  refine EM.nil ?_
  repeat (first | rw [WL] | rw [WJ])
  refine CH.nil ?_
  refine CT.pick [6, 7] (by kernel_rfl) fun k hk => ?_
  rcases (show k = 6 ∨ k = 7 by simpa using hk) with rfl | rfl
  all_goals clear hk
  ·
   skip
   simp only [aZ, WU, WW, WQ, WR]
   refine CH.cut 1 ?_
   simp only [WH, WO, WG, WM]
   repeat
    (first
     | (apply xB; (iterate 3 rfl); (focus omega); (focus omega); iterate 2 rfl))
   refine EM.nil ?_
   repeat (first | rw [WL] | rw [WJ])
   refine CH.nil ?_
   refine CT.pick [7] (by kernel_rfl) fun k hk => ?_
   obtain rfl : k = 7 := (by simpa using hk)
   clear hk
   simp only [aZ, WU, WW, WQ, WR]
   refine CH.mut (os := [_]) (rest := []) rfl rfl (vJ rfl rfl (jm hg1 rfl rfl rfl rfl rfl)) ?_
   rintro _ _ ⟨rfl, rfl⟩
   try simp only [St.put]
   repeat (first | rw [WL] | rw [WJ])
   refine CH.nil ?_
   refine CT.pick [8] (by kernel_rfl) fun k hk => ?_
   obtain rfl : k = 8 := (by simpa using hk)
   clear hk
   simp only [aZ, WU, WW, WQ, WR]
   refine CH.cut 1 ?_
   simp only [WH, WO, WG, WM]
   repeat
    (first
     | (apply dZ; iterate 4 rfl))
   refine EM.nil ?_
   repeat (first | rw [WL] | rw [WJ])
   refine CH.nil ?_
   refine CT.pick [9] (by kernel_rfl) fun k hk => ?_
   obtain rfl : k = 9 := (by simpa using hk)
   clear hk
   simp only [aZ, WU, WW, WQ, WR]
   refine CH.mut (os := [_]) (rest := []) rfl rfl (kR (dQ hl (ig c es w (.v (.int .i64 0))) rfl rfl rfl rfl)) ?_
   rintro _ _ ⟨rfl, rfl⟩
   try simp only [St.put]
   repeat (first | rw [WL] | rw [WJ])
   rw [gZ]
   refine CH.nil ?_
   refine CT.nil ?_
   repeat
    (first
     | apply EL.nil)
   refine EK.h0 (EK.meet () ?_)
   exact Le.kp
  ·
   skip
   simp only [aZ, WU, WW, WQ, WR]
   refine CH.mut (os := [_]) (rest := []) rfl rfl (vJ rfl rfl (jm hg1 rfl rfl rfl rfl rfl)) ?_
   rintro _ _ ⟨rfl, rfl⟩
   try simp only [St.put]
   repeat (first | rw [WL] | rw [WJ])
   refine CH.nil ?_
   refine CT.pick [6, 8] (by kernel_rfl) fun k hk => ?_
   rcases (show k = 6 ∨ k = 8 by simpa using hk) with rfl | rfl
   all_goals clear hk
   ·
    skip
    simp only [aZ, WU, WW, WQ, WR]
    refine CH.cut 1 ?_
    simp only [WH, WO, WG, WM]
    repeat
     (first
      | (apply xB; (iterate 3 rfl); (focus omega); (focus omega); iterate 2 rfl))
    refine EM.nil ?_
    repeat (first | rw [WL] | rw [WJ])
    refine CH.nil ?_
    refine CT.pick [8] (by kernel_rfl) fun k hk => ?_
    obtain rfl : k = 8 := (by simpa using hk)
    clear hk
    simp only [aZ, WU, WW, WQ, WR]
    refine CH.cut 1 ?_
    simp only [WH, WO, WG, WM]
    repeat
     (first
      | (apply dZ; iterate 4 rfl))
    refine EM.nil ?_
    repeat (first | rw [WL] | rw [WJ])
    refine CH.nil ?_
    refine CT.pick [9] (by kernel_rfl) fun k hk => ?_
    obtain rfl : k = 9 := (by simpa using hk)
    clear hk
    simp only [aZ, WU, WW, WQ, WR]
    refine CH.mut (os := [_]) (rest := []) rfl rfl (kR (dQ hl (ig c es w (.v (.int .i64 0))) rfl rfl rfl rfl)) ?_
    rintro _ _ ⟨rfl, rfl⟩
    try simp only [St.put]
    repeat (first | rw [WL] | rw [WJ])
    rw [gZ]
    refine CH.nil ?_
    refine CT.nil ?_
    repeat
     (first
      | apply EL.nil)
    refine EK.h0 (EK.meet () ?_)
    exact Le.kp
   ·
    skip
    simp only [aZ, WU, WW, WQ, WR]
    refine CH.cut 1 ?_
    simp only [WH, WO, WG, WM]
    repeat
     (first
      | (apply dZ; iterate 4 rfl))
    refine EM.nil ?_
    repeat (first | rw [WL] | rw [WJ])
    refine CH.nil ?_
    refine CT.pick [6] (by kernel_rfl) fun k hk => ?_
    obtain rfl : k = 6 := (by simpa using hk)
    clear hk
    simp only [aZ, WU, WW, WQ, WR]
    refine CH.cut 1 ?_
    simp only [WH, WO, WG, WM]
    repeat
     (first
      | (apply xB; (iterate 3 rfl); (focus omega); (focus omega); iterate 2 rfl))
    refine EM.nil ?_
    repeat (first | rw [WL] | rw [WJ])
    refine CH.nil ?_
    refine CT.pick [9] (by kernel_rfl) fun k hk => ?_
    obtain rfl : k = 9 := (by simpa using hk)
    clear hk
    simp only [aZ, WU, WW, WQ, WR]
    refine CH.mut (os := [_]) (rest := []) rfl rfl (kR (dQ hl (ig c es w (.v (.int .i64 0))) rfl rfl rfl rfl)) ?_
    rintro _ _ ⟨rfl, rfl⟩
    try simp only [St.put]
    repeat (first | rw [WL] | rw [WJ])
    rw [gZ]
    refine CH.nil ?_
    refine CT.nil ?_
    repeat
     (first
      | apply EL.nil)
    refine EK.h0 (EK.meet () ?_)
    exact Le.kp
 ·
  skip
  simp only [aZ, WU, WW, WQ, WR]
  refine CH.mut (os := [_]) (rest := []) rfl rfl (vJ rfl rfl (jm hg1 rfl rfl rfl rfl rfl)) ?_
  rintro _ _ ⟨rfl, rfl⟩
  try simp only [St.put]
  repeat (first | rw [WL] | rw [WJ])
  refine CH.nil ?_
  refine CT.pick [5, 8] (by kernel_rfl) fun k hk => ?_
  rcases (show k = 5 ∨ k = 8 by simpa using hk) with rfl | rfl
  all_goals clear hk
  ·
   skip
   simp only [aZ, WU, WW, WQ, WR]
   refine CH.cut 1 ?_
   simp only [WH, WO, WG, WM]
   repeat
    (first
     | (apply jX; exact hg2; rfl; (first | exact I0 | exact I1 | exact I2 | exact I3); iterate 5 rfl))
   refine EM.nil ?_
   repeat (first | rw [WL] | rw [WJ])
   refine CH.nil ?_
   refine CT.pick [6, 8] (by kernel_rfl) fun k hk => ?_
   rcases (show k = 6 ∨ k = 8 by simpa using hk) with rfl | rfl
   all_goals clear hk
   ·
    skip
    simp only [aZ, WU, WW, WQ, WR]
    refine CH.cut 1 ?_
    simp only [WH, WO, WG, WM]
    repeat
     (first
      | (apply xB; (iterate 3 rfl); (focus omega); (focus omega); iterate 2 rfl))
    refine EM.nil ?_
    repeat (first | rw [WL] | rw [WJ])
    refine CH.nil ?_
    refine CT.pick [8] (by kernel_rfl) fun k hk => ?_
    obtain rfl : k = 8 := (by simpa using hk)
    clear hk
    simp only [aZ, WU, WW, WQ, WR]
    refine CH.cut 1 ?_
    simp only [WH, WO, WG, WM]
    repeat
     (first
      | (apply dZ; iterate 4 rfl))
    refine EM.nil ?_
    repeat (first | rw [WL] | rw [WJ])
    refine CH.nil ?_
    refine CT.pick [9] (by kernel_rfl) fun k hk => ?_
    obtain rfl : k = 9 := (by simpa using hk)
    clear hk
    simp only [aZ, WU, WW, WQ, WR]
    refine CH.mut (os := [_]) (rest := []) rfl rfl (kR (dQ hl (ig c es w (.v (.int .i64 0))) rfl rfl rfl rfl)) ?_
    rintro _ _ ⟨rfl, rfl⟩
    try simp only [St.put]
    repeat (first | rw [WL] | rw [WJ])
    rw [gZ]
    refine CH.nil ?_
    refine CT.nil ?_
    repeat
     (first
      | apply EL.nil)
    refine EK.h0 (EK.meet () ?_)
    exact Le.kp
   ·
    skip
    simp only [aZ, WU, WW, WQ, WR]
    refine CH.cut 1 ?_
    simp only [WH, WO, WG, WM]
    repeat
     (first
      | (apply dZ; iterate 4 rfl))
    refine EM.nil ?_
    repeat (first | rw [WL] | rw [WJ])
    refine CH.nil ?_
    refine CT.pick [6] (by kernel_rfl) fun k hk => ?_
    obtain rfl : k = 6 := (by simpa using hk)
    clear hk
    simp only [aZ, WU, WW, WQ, WR]
    refine CH.cut 1 ?_
    simp only [WH, WO, WG, WM]
    repeat
     (first
      | (apply xB; (iterate 3 rfl); (focus omega); (focus omega); iterate 2 rfl))
    refine EM.nil ?_
    repeat (first | rw [WL] | rw [WJ])
    refine CH.nil ?_
    refine CT.pick [9] (by kernel_rfl) fun k hk => ?_
    obtain rfl : k = 9 := (by simpa using hk)
    clear hk
    simp only [aZ, WU, WW, WQ, WR]
    refine CH.mut (os := [_]) (rest := []) rfl rfl (kR (dQ hl (ig c es w (.v (.int .i64 0))) rfl rfl rfl rfl)) ?_
    rintro _ _ ⟨rfl, rfl⟩
    try simp only [St.put]
    repeat (first | rw [WL] | rw [WJ])
    rw [gZ]
    refine CH.nil ?_
    refine CT.nil ?_
    repeat
     (first
      | apply EL.nil)
    refine EK.h0 (EK.meet () ?_)
    exact Le.kp
  ·
   skip
   simp only [aZ, WU, WW, WQ, WR]
   refine CH.cut 1 ?_
   simp only [WH, WO, WG, WM]
   repeat
    (first
     | (apply dZ; iterate 4 rfl))
   refine EM.nil ?_
   repeat (first | rw [WL] | rw [WJ])
   refine CH.nil ?_
   refine CT.pick [5] (by kernel_rfl) fun k hk => ?_
   obtain rfl : k = 5 := (by simpa using hk)
   clear hk
   simp only [aZ, WU, WW, WQ, WR]
   refine CH.cut 1 ?_
   simp only [WH, WO, WG, WM]
   repeat
    (first
     | (apply jX; exact hg2; rfl; (first | exact I0 | exact I1 | exact I2 | exact I3); iterate 5 rfl))
   refine EM.nil ?_
   repeat (first | rw [WL] | rw [WJ])
   refine CH.nil ?_
   refine CT.pick [6] (by kernel_rfl) fun k hk => ?_
   obtain rfl : k = 6 := (by simpa using hk)
   clear hk
   simp only [aZ, WU, WW, WQ, WR]
   refine CH.cut 1 ?_
   simp only [WH, WO, WG, WM]
   repeat
    (first
     | (apply xB; (iterate 3 rfl); (focus omega); (focus omega); iterate 2 rfl))
   refine EM.nil ?_
   repeat (first | rw [WL] | rw [WJ])
   refine CH.nil ?_
   refine CT.pick [9] (by kernel_rfl) fun k hk => ?_
   obtain rfl : k = 9 := (by simpa using hk)
   clear hk
   simp only [aZ, WU, WW, WQ, WR]
   refine CH.mut (os := [_]) (rest := []) rfl rfl (kR (dQ hl (ig c es w (.v (.int .i64 0))) rfl rfl rfl rfl)) ?_
   rintro _ _ ⟨rfl, rfl⟩
   try simp only [St.put]
   repeat (first | rw [WL] | rw [WJ])
   rw [gZ]
   refine CH.nil ?_
   refine CT.nil ?_
   repeat
    (first
     | apply EL.nil)
   refine EK.h0 (EK.meet () ?_)
   exact Le.kp
theorem V6 (bs : List UInt8) (a b c d : Raw) : bdX (.mk true bs [a, b, c, d]) = (lX a).bind fun n => (eF b).bind fun w => (wh c).bind fun r => (wh d).map fun h => (n, w, r, h) := by
 rw [bdX]
 cases lX a <;> cases eF b <;> cases wh c <;> cases wh d <;> rfl
theorem xP (bs : List UInt8) (a b c d : Raw) (h : wh c = none ∨ wh d = none) : bdX (.mk true bs [a, b, c, d]) = none := by
 rw [V6]
 rcases h with h | h <;> (rw [h]; cases lX a <;> cases eF b <;> first | rfl | (cases wh c <;> rfl))
theorem Gm (b : List UInt8) : Fn 31 [.bs b] (· = rbR (bdB b)) := by
 have h1 := CO b
 unfold yO rdX rdE at h1
 unfold bdB
 refine Fn.walk 106 Tryz.func31 rfl Tryz.ntmps31 (by simp) fun X => ?_
 cases hr : fU b with
 | error e =>
  rw [hr] at h1
  dsimp only at h1 ⊢
  rw [aX] at h1
  have he := rE hr
  repeat
   (first
    | (apply dO; iterate 2 rfl) | (apply aC (h1); rfl; exact RL.a; exact enA; iterate 2 rfl) | (apply ak; iterate 3 rfl) | (apply ah; iterate 3 rfl)
    | (apply aA; iterate 4 rfl) | (apply aK; iterate 4 rfl) | (apply aF (b := true); (iterate 2 rfl); exact aQ; iterate 2 rfl)
    | (apply dX; iterate 7 rfl) | (apply aT; rfl; rfl; rfl; intro _)
    | (apply aO; rfl; exact saA; iterate 4 rfl) | apply EL.nil
    | (apply EC.t0; rfl)
    | (with_reducible first | apply EK.nc | apply EC.seq | apply EC.r0 | apply EC.k0 | apply EC.label | apply EC.b0 | apply EC.x0 | apply EC.ret | apply EK.n0 | apply EK.s0 | apply EK.bK | apply EK.aB | apply EK.aJ))
  refine EK.iE 1 rfl rfl rfl rfl rfl ?_ rfl
  (exact RL.a)
 | ok x =>
  rw [hr] at h1
  dsimp only at h1 ⊢
  obtain ⟨il, bs, xs⟩ := x
  rw [aX] at h1
  cases il with
  | false =>
   have hbd : bdX (.mk false bs xs) = none := rfl
   rw [hbd]
   repeat
    (first
     | (apply dO; iterate 2 rfl) | (apply aC (h1); rfl; exact RL.a; exact enA; iterate 2 rfl) | (apply ak; iterate 3 rfl) | (apply ah; iterate 3 rfl)
     | (apply aH; iterate 6 rfl) | (apply aA; iterate 4 rfl) | (apply aK; iterate 4 rfl) | (apply bM; iterate 3 rfl)
     | (apply aI; rfl; exact I.a; iterate 4 rfl) | (apply aF (b := false); (iterate 2 rfl); exact aQ; iterate 2 rfl) | (apply dX; iterate 7 rfl)
     | (apply aT; rfl; rfl; rfl; intro _) | (apply aO; rfl; exact saA; iterate 4 rfl) | apply EL.nil
     | (apply EC.t0; rfl)
     | (with_reducible first | apply EK.nc | apply EC.seq | apply EC.r0 | apply EC.k0 | apply EC.label | apply EC.b0 | apply EC.x0 | apply EC.ret | apply EK.n0 | apply EK.s0 | apply EK.bK | apply EK.aB | apply EK.aJ))
   refine EK.iE 1 rfl rfl rfl rfl rfl ?_ rfl
   (exact RL.a)
  | true =>
   by_cases h4 : xs.length = 4
   ·
    match xs, h4 with
    | [⟨p1, q1, z1⟩, ⟨p2, q2, z2⟩, ⟨p3, q3, z3⟩, ⟨p4, q4, z4⟩], _ =>
     have g1 := SK (.mk p1 q1 z1)
     have g2 := PY (.mk p2 q2 z2)
     unfold intD at g1
     unfold Jt at g2
     simp only [bG, aX] at h1 g1 g2
     cases p3 with
     | true =>
      rw [xP _ _ _ _ _ (.inl rfl)]
      repeat
       (first
        | (apply dO; iterate 2 rfl) | (apply aC (h1); rfl; exact RL.a; exact enA; iterate 2 rfl) | (apply ak; iterate 3 rfl) | (apply ah; iterate 3 rfl)
        | (apply aH; iterate 6 rfl) | (apply aP; iterate 7 rfl) | (apply aA; iterate 4 rfl) | (apply aG; iterate 5 rfl)
        | (apply aK; iterate 4 rfl) | (apply bM; iterate 3 rfl) | (apply aI; rfl; exact I.a; iterate 4 rfl)
        | (apply aF (b := false); (iterate 2 rfl); exact aQ; iterate 2 rfl) | (apply bC; iterate 4 rfl)
        | (apply bH; (iterate 4 rfl); exact ixA; iterate 2 rfl)
        | (apply dX; iterate 7 rfl) | (apply aT; rfl; rfl; rfl; intro _)
        | (apply aO; rfl; exact saA; iterate 4 rfl) | apply EL.nil
        | (apply EC.t0; rfl)
        | (with_reducible first | apply EK.nc | apply EC.seq | apply EC.r0 | apply EC.k0 | apply EC.label | apply EC.b0 | apply EC.x0 | apply EC.ret | apply EK.n0 | apply EK.s0 | apply EK.bK | apply EK.aB | apply EK.aJ))
      refine EK.iE 1 rfl rfl rfl rfl rfl ?_ rfl
      (exact RL.a)
     | false =>
      cases p4 with
      | true =>
       rw [xP _ _ _ _ _ (.inr rfl)]
       repeat
        (first
         | (apply dO; iterate 2 rfl) | (apply aC (h1); rfl; exact RL.a; exact enA; iterate 2 rfl) | (apply ak; iterate 3 rfl) | (apply ah; iterate 3 rfl)
         | (apply aH; iterate 6 rfl) | (apply aP; iterate 7 rfl) | (apply aA; iterate 4 rfl) | (apply aG; iterate 5 rfl)
         | (apply aK; iterate 4 rfl) | (apply bM; iterate 3 rfl) | (apply aI; rfl; exact I.a; iterate 4 rfl)
         | (apply aF (b := false); (iterate 2 rfl); exact aQ; iterate 2 rfl) | (apply bC; iterate 4 rfl)
         | (apply bH; (iterate 4 rfl); exact ixA; iterate 2 rfl)
         | (apply dX; iterate 7 rfl) | (apply aT; rfl; rfl; rfl; intro _)
         | (apply aO; rfl; exact saA; iterate 4 rfl) | apply EL.nil
         | (apply EC.t0; rfl)
         | (with_reducible first | apply EK.nc | apply EC.seq | apply EC.r0 | apply EC.k0 | apply EC.label | apply EC.b0 | apply EC.x0 | apply EC.ret | apply EK.n0 | apply EK.s0 | apply EK.bK | apply EK.aB | apply EK.aJ))
       refine EK.iE 1 rfl rfl rfl rfl rfl ?_ rfl
       (exact RL.a)
      | false =>
       by_cases k3 : q3.length = 32
       ·
        by_cases k4 : q4.length = 32
        ·
         rw [V6, show wh (.mk false q3 z3) = some q3 by rw [wh, if_pos k3], show wh (.mk false q4 z4) = some q4 by rw [wh, if_pos k4]]
         cases e1 : lX (.mk p1 q1 z1) with
         | none =>
          rw [e1] at g1
          repeat
           (first
            | (apply dO; iterate 2 rfl) | (apply aC (h1); rfl; exact RL.a; exact enA; iterate 2 rfl) | (apply aC (g1); rfl; exact RL.a; exact enA; iterate 2 rfl)
            | (apply aC (g2); rfl; exact RL.a; exact enA; iterate 2 rfl) | (apply ak; iterate 3 rfl) | (apply ah; iterate 3 rfl) | (apply aH; iterate 6 rfl)
            | (apply aP; iterate 7 rfl) | (apply aA; iterate 4 rfl) | (apply aG; iterate 5 rfl) | (apply aK; iterate 4 rfl)
            | (apply bM; iterate 3 rfl) | (apply aI; rfl; exact I.a; iterate 4 rfl) | (apply aF (b := false); (iterate 2 rfl); exact aQ; iterate 2 rfl)
            | (apply aV; iterate 4 rfl) | (apply bC; iterate 4 rfl)
            | (apply bH; (iterate 4 rfl); exact ixA; iterate 2 rfl)
            | (apply aT; rfl; rfl; rfl; intro _) | (apply aO; rfl; exact saA; iterate 4 rfl) | apply EL.nil
            | (apply EC.t0; rfl) | (apply EC.f0; rfl)
            | (with_reducible first | apply EK.nc | apply EC.seq | apply EC.r0 | apply EC.k0 | apply EC.label | apply EC.b0 | apply EC.x0 | apply EC.ret | apply EK.n0 | apply EK.s0 | apply EK.bK | apply EK.aB | apply EK.aJ))
          refine EK.iE 3 rfl rfl rfl rfl rfl ?_ rfl
          (exact RL.a)
         | some n =>
          rw [e1] at g1
          cases e2 : eF (.mk p2 q2 z2) with
          | none =>
           rw [e2] at g2
           repeat
            (first
             | (apply aC (h1); rfl; exact RL.a; exact enA; iterate 2 rfl) | (apply aC (g1); rfl; exact RL.a; exact enA; iterate 2 rfl)
             | (apply aC (g2); rfl; exact RL.a; exact enA; iterate 2 rfl) | (apply ak; iterate 3 rfl) | (apply ah; iterate 3 rfl) | (apply aH; iterate 6 rfl)
             | (apply aP; iterate 7 rfl) | (apply aA; iterate 4 rfl) | (apply aG; iterate 5 rfl) | (apply aK; iterate 4 rfl)
             | (apply bM; iterate 3 rfl) | (apply aI; rfl; exact I.a; iterate 4 rfl) | (apply aF (b := false); (iterate 2 rfl); exact aQ; iterate 2 rfl)
             | (apply aV; iterate 4 rfl) | (apply bC; iterate 4 rfl)
             | (apply bH; (iterate 4 rfl); exact ixA; iterate 2 rfl)
             | (apply aT; rfl; rfl; rfl; intro _) | (apply aO; rfl; exact saA; iterate 4 rfl) | apply EL.nil
             | (apply EC.t0; rfl) | (apply EC.f0; rfl)
             | (with_reducible first | apply EK.nc | apply EC.seq | apply EC.r0 | apply EC.k0 | apply EC.label | apply EC.b0 | apply EC.x0 | apply EC.ret | apply EK.n0 | apply EK.s0 | apply EK.bK | apply EK.aB | apply EK.aJ))
           refine EK.iE 3 rfl rfl rfl rfl rfl ?_ rfl
           (exact RL.a)
          | some w =>
           rw [e2] at g2
           repeat
            (first
             | (apply aC (h1); rfl; exact RL.a; exact enA; iterate 2 rfl) | (apply aC (g1); rfl; exact RL.a; exact enA; iterate 2 rfl)
             | (apply aC (g2); rfl; exact RL.a; exact enA; iterate 2 rfl) | (apply ak; iterate 3 rfl) | (apply ah; iterate 3 rfl) | (apply aH; iterate 6 rfl)
             | (apply aP; iterate 7 rfl) | (apply aA; iterate 4 rfl) | (apply aG; iterate 5 rfl) | (apply aK; iterate 4 rfl)
             | (apply bM; iterate 3 rfl) | (apply aI; rfl; exact I.a; iterate 4 rfl) | (apply aF (b := false); (iterate 2 rfl); exact aQ; iterate 2 rfl)
             | (apply aV; iterate 4 rfl) | (apply bC; iterate 4 rfl)
             | (apply bH; (iterate 4 rfl); exact ixA; iterate 2 rfl)
             | (apply aT; rfl; rfl; rfl; intro _) | (apply aO; rfl; exact saA; iterate 4 rfl) | apply EL.nil
             | (apply EC.f0; rfl)
             | (with_reducible first | apply EK.nc | apply EC.seq | apply EC.r0 | apply EC.k0 | apply EC.label | apply EC.b0 | apply EC.x0 | apply EC.ret | apply EK.n0 | apply EK.s0 | apply EK.bK | apply EK.aB | apply EK.aJ))
           refine EC.draw 7 (by kernel_rfl) ?_
           simp only [WH, WO, WG, WM]
           repeat
            (first
             | (apply En xE; iterate 3 rfl) | (apply dJ; iterate 6 rfl) | (apply gG; iterate 7 rfl) | (apply fA; iterate 5 rfl)
             | (apply dP; rfl; exact I.a; iterate 4 rfl)
             | (apply gU; (iterate 4 rfl); exact ixA; iterate 2 rfl)
             | ((with_reducible apply EH.nil); rfl))
           repeat
            (first
             | (apply Jq 1 k3; iterate 8 rfl) | apply EL.nil
             | (with_reducible first | apply EK.nc | apply EC.seq | apply EC.r0 | apply EC.k0 | apply EC.label | apply EC.b0 | apply EC.x0 | apply EC.ret | apply EK.n0 | apply EK.s0 | apply EK.bK | apply EK.aB | apply EK.aJ))
           refine EC.draw 7 (by kernel_rfl) ?_
           simp only [WH, WO, WG, WM]
           repeat
            (first
             | (apply En xE; iterate 3 rfl) | (apply dJ; iterate 6 rfl) | (apply gG; iterate 7 rfl) | (apply fA; iterate 5 rfl)
             | (apply dP; rfl; exact I.a; iterate 4 rfl)
             | (apply gU; (iterate 4 rfl); exact ixA; iterate 2 rfl)
             | ((with_reducible apply EH.nil); rfl))
           repeat
            (first
             | (apply Jq 1 k4; iterate 8 rfl) | (apply ah; iterate 3 rfl) | (apply aI; rfl; exact I.a; iterate 4 rfl)
             | (apply aO; rfl; exact saA; iterate 4 rfl) | apply EL.nil
             | (with_reducible first | apply EK.nc | apply EC.seq | apply EC.r0 | apply EC.k0 | apply EC.label | apply EC.b0 | apply EC.x0 | apply EC.ret | apply EK.n0 | apply EK.s0 | apply EK.bK | apply EK.aB | apply EK.aJ))
           refine EK.iE 3 rfl rfl rfl rfl rfl ?_ rfl
           (exact RL.a)
        ·
         rw [xP _ _ _ _ _ (.inr (by rw [wh, if_neg k4]))]
         repeat
          (first
           | (apply aC (h1); rfl; exact RL.a; exact enA; iterate 2 rfl) | (apply ak; iterate 3 rfl) | (apply ah; iterate 3 rfl) | (apply aH; iterate 6 rfl)
           | (apply aP; iterate 7 rfl) | (apply aA; iterate 4 rfl) | (apply aG; iterate 5 rfl) | (apply aK; iterate 4 rfl)
           | (apply bM; iterate 3 rfl) | (apply aI; rfl; exact I.a; iterate 4 rfl) | (apply aF (b := true); (iterate 2 rfl); exact aQ; iterate 2 rfl)
           | (apply aF (b := false); (iterate 2 rfl); exact aQ; iterate 2 rfl) | (apply aV; iterate 4 rfl) | (apply bC; iterate 4 rfl)
           | (apply bH; (iterate 4 rfl); exact ixA; iterate 2 rfl)
           | (apply dX; iterate 7 rfl) | (apply aT; rfl; rfl; rfl; intro _)
           | (apply aO; rfl; exact saA; iterate 4 rfl) | apply EL.nil
           | (apply EC.t0; rfl)
           | (with_reducible first | apply EK.nc | apply EC.seq | apply EC.r0 | apply EC.k0 | apply EC.label | apply EC.b0 | apply EC.x0 | apply EC.ret | apply EK.n0 | apply EK.s0 | apply EK.bK | apply EK.aB | apply EK.aJ))
         refine EK.iE 1 rfl rfl rfl rfl rfl ?_ rfl
         (exact RL.a)
       ·
        rw [xP _ _ _ _ _ (.inl (by rw [wh, if_neg k3]))]
        repeat
         (first
          | (apply dO; iterate 2 rfl) | (apply aC (h1); rfl; exact RL.a; exact enA; iterate 2 rfl) | (apply ak; iterate 3 rfl) | (apply ah; iterate 3 rfl)
          | (apply aH; iterate 6 rfl) | (apply aP; iterate 7 rfl) | (apply aA; iterate 4 rfl) | (apply aG; iterate 5 rfl)
          | (apply aK; iterate 4 rfl) | (apply bM; iterate 3 rfl) | (apply aI; rfl; exact I.a; iterate 4 rfl)
          | (apply aF (b := true); (iterate 2 rfl); exact aQ; iterate 2 rfl) | (apply aF (b := false); (iterate 2 rfl); exact aQ; iterate 2 rfl)
          | (apply aV; iterate 4 rfl) | (apply bC; iterate 4 rfl)
          | (apply bH; (iterate 4 rfl); exact ixA; iterate 2 rfl)
          | (apply dX; iterate 7 rfl) | (apply aT; rfl; rfl; rfl; intro _)
          | (apply aO; rfl; exact saA; iterate 4 rfl) | apply EL.nil
          | (apply EC.t0; rfl)
          | (with_reducible first | apply EK.nc | apply EC.seq | apply EC.r0 | apply EC.k0 | apply EC.label | apply EC.b0 | apply EC.x0 | apply EC.ret | apply EK.n0 | apply EK.s0 | apply EK.bK | apply EK.aB | apply EK.aJ))
        refine EK.iE 1 rfl rfl rfl rfl rfl ?_ rfl
        (exact RL.a)
   ·
    have hl : (bG xs).length ≠ 4 := by rw [kK]; exact h4
    rw [Kw (.mk true bs xs) bs xs h4]
    repeat
     (first
      | (apply dO; iterate 2 rfl) | (apply aC (h1); rfl; exact RL.a; exact enA; iterate 2 rfl) | (apply ak; iterate 3 rfl) | (apply ah; iterate 3 rfl)
      | (apply aH; iterate 6 rfl) | (apply aA; iterate 4 rfl) | (apply aK; iterate 4 rfl) | (apply bM; iterate 3 rfl)
      | (apply aI; rfl; exact I.a; iterate 4 rfl) | (apply aF (b := true); (iterate 2 rfl); exact aQ; iterate 2 rfl)
      | (apply aF (b := false); (iterate 2 rfl); exact aQ; iterate 2 rfl) | (apply bC; iterate 4 rfl) | (apply dX; iterate 7 rfl)
      | (apply aT; rfl; rfl; rfl; intro _) | (apply aO; rfl; exact saA; iterate 4 rfl) | apply EL.nil
      | (apply EC.t0; rfl)
      | (with_reducible first | apply EK.nc | apply EC.seq | apply EC.r0 | apply EC.k0 | apply EC.label | apply EC.b0 | apply EC.x0 | apply EC.ret | apply EK.n0 | apply EK.s0 | apply EK.bK | apply EK.aB | apply EK.aJ))
    refine EK.iE 1 rfl rfl rfl rfl rfl ?_ rfl
    (exact RL.a)
end E
end Go.Proofs.YtelbhdobjdnglaaGreat
