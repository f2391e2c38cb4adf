/-
  Merged (wip/tools/merge.py): STE, Open, OpenAll, OpenWord, OpenAddr, LawM.
  Conditions: none.
-/
import Derived.Test.YtdhicdnmgmkpkaaZM18
import Derived.Test.YtdhicdnmgmkpkaaZM2
import Derived.OpenShut
import Derived.Deep.Slices
import Derived.ChangeSame
import Derived.Test.YtdhicdnmgmkpkaaZM14
import Derived.Below
/-
  StateMoves' own function: a Move from one account to another one.
  Conditions: none.
-/
namespace Go.Proofs.Ytdhicdnmgmkpkaa
set_option linter.unusedVariables false
open Go.RowKit Mono Rlp Wd
namespace E
set_option maxRecDepth 20000 in
set_option maxHeartbeats 16000000 in
theorem law_diff (a b x y w : List UInt8) (hab : a ≠ b) (hl : a.length = b.length) (hx : x.length = 32) (hy : y.length = 32) (hw : w.length = 32) : FnM 3 [.arr 20 a, .arr 20 b, .arr 32 x, .arr 32 y, .arr 32 w] [] (fun r os' => r = .val (.v (.bool true)) ∧ os' = []) := by
  have h1 := alive_
  have h2 := new_nil
  have h3 := rnew_nil
  have hne := (bin_addr a b).2
  rw [show (a != b) = true by simpa using hab] at hne
  have hee : (a == b) = false := by simpa using hab
  refine FnM.walk 74 Try.func3 rfl Try.ntmps3 (by simp) fun X => ?_
  repeat
    (first
     | ((apply P_callMD (h1); (iterate 2 exact rfl); (focus (repeat first | exact RefineL.refl _ _ | exact RL.nil | exact Rf.same | exact Rf.bs0 | exact Rf.sl0 | (apply Rf.fact; (focus (simp; done)); exact rfl) | apply Rf.tup | apply RL.cons)); (focus (intro _ _; simp [go_sem]; done)); (iterate 2 exact rfl)))
     | (apply P_assign; (iterate 3 exact rfl)) | (apply P_box; exact rfl; exact rfl; exact rfl; intro _) | apply EL.nil | ((with_reducible apply EK.then_normal); apply EK.code)
     | (with_reducible first | apply EC.seq | apply EC.region | apply EC.skip | apply EC.label | apply EC.block | apply EC.exit | apply EC.ret | apply EK.in_normal | apply EK.in_same | apply EK.in_ret | apply EK.then_ret | apply EK.then_exit))
  repeat
    (first
     | (apply P_callM (os := []) h2; (iterate 2 exact rfl); exact RefineL.refl _ _; (focus (intro _ _; simp [go_sem]; done)); (iterate 2 exact rfl); rintro _ _ ⟨g, m, rfl, rfl⟩)
     | (apply P_assign; (iterate 3 exact rfl)) | apply EL.nil | ((with_reducible apply EK.then_normal); apply EK.code)
     | (with_reducible first | apply EC.seq | apply EC.region | apply EC.skip | apply EC.label | apply EC.block | apply EC.exit | apply EC.ret | apply EK.in_normal | apply EK.in_same | apply EK.in_ret | apply EK.then_ret | apply EK.then_exit))
  repeat
    (first
     | (apply P_callM (os := []) h3; (iterate 2 exact rfl); exact RefineL.refl _ _; (focus (intro _ _; simp [go_sem]; done)); (iterate 2 exact rfl); rintro _ _ ⟨g', rfl, rfl⟩)
     | (apply P_move; (iterate 3 exact rfl)) | (apply P_assign; (iterate 3 exact rfl)) | apply EL.nil | ((with_reducible apply EK.then_normal); apply EK.code)
     | (with_reducible first | apply EC.seq | apply EC.region | apply EC.skip | apply EC.label | apply EC.block | apply EC.exit | apply EC.ret | apply EK.in_normal | apply EK.in_same | apply EK.in_ret | apply EK.then_ret | apply EK.then_exit))
  refine EL.le (Le.pick [6, 7, 8, 9, 10, 0, 1, 2, 3, 4, 5] [_, _, _, _, _, _, _, _, _, _, _] rfl (by decide) rfl) ?_
  repeat
    (first
     | (apply P_callX (setBalance_out (g := g) (m := m) (c := 0) (u := nilS) (k := nilS) (n := 0) (es := []) (a := a) (us := []) (ks := []) (w' := x) rfl (by decide)) [7, 8, 9, 10, 0, 1, 2, 3, 4, 5, 6] [_, _, _, _, _, _, _] rfl (by decide) rfl rfl (RefineL.refl _ _) (by intro _ _; simp [go_sem]) rfl rfl; rintro _ _ ⟨rfl, u1, ga, gs, rfl⟩)
     | (apply P_move; (iterate 3 exact rfl)) | (apply P_load; exact rfl; (first | exact I0 | exact I1 | exact I2 | exact I3 | exact I4 | exact I5 | exact I6); (iterate 4 exact rfl)) | apply EL.nil
     | ((with_reducible apply EK.then_normal); apply EK.code)
     | (with_reducible first | apply EC.seq | apply EC.region | apply EC.skip | apply EC.label | apply EC.block | apply EC.exit | apply EC.ret | apply EK.in_normal | apply EK.in_same | apply EK.in_ret | apply EK.then_ret | apply EK.then_exit))
  refine EL.le (Le.pick [6, 7, 8, 9, 10, 11, 12, 0, 1, 2, 3, 4, 5] [_, _, _, _, _, _, _, _, _, _, _, _, _] rfl (by decide) rfl) ?_
  repeat
    (first
     | (apply P_callX (rsetBalance_out (g := g') (L := nilS) (k := nilS) (n := 0) [] a x (by decide) 0 (by decide) (fun j hj => absurd hj (by simp)) (fun hj => absurd hj (by simp))) [5, 6, 0, 1, 2, 3, 4, 7, 8, 9, 10, 11, 12] [_, _, _, _, _, _, _, _, _, _, _] rfl (by decide) rfl rfl (RefineL.refl _ _) (by intro _ _; simp [go_sem]) rfl rfl; rintro _ _ ⟨rfl, L1, rfl⟩)
     | (apply P_bin; (iterate 2 exact rfl); exact hne; (iterate 2 exact rfl)) | (apply P_move; (iterate 3 exact rfl))
     | (apply P_load; exact rfl; (first | exact I0 | exact I1 | exact I2 | exact I3 | exact I4 | exact I5 | exact I6); (iterate 4 exact rfl)) | apply EL.nil
     | ((with_reducible apply EK.then_normal); apply EK.code) | (apply EC.cond_true; exact rfl)
     | (with_reducible first | apply EC.seq | apply EC.region | apply EC.skip | apply EC.label | apply EC.block | apply EC.exit | apply EC.ret | apply EK.in_normal | apply EK.in_same | apply EK.in_ret | apply EK.then_ret | apply EK.then_exit))
  have hin : getE (putE 0 [] a (.v (ptr ga))) a = some (.v (ptr ga)) := by rw [getE_putE, if_pos rfl]
  have hnb : getE (putE 0 [] a (.v (ptr ga))) b = none := by rw [getE_putE, if_neg hab]; rfl
  generalize putE 0 [] a (.v (ptr ga)) = es1 at hin hnb
  generalize tickE 0 [] a = c1
  repeat
    (first
     | (apply P_callX (setBalance_out (g := g) (m := m) (c := c1) (u := u1) (k := nilS) (n := 0) (es := es1) (a := b) (us := []) (ks := []) (w' := y) hnb (by decide)) [7, 8, 9, 10, 0, 1, 2, 3, 4, 5, 6, 11, 12] [_, _, _, _, _, _, _, _, _] rfl (by decide) rfl rfl (RefineL.refl _ _) (by intro _ _; simp [go_sem]) rfl rfl; rintro _ _ ⟨rfl, u2, gb, gs2, rfl⟩)
     | (apply P_move; (iterate 3 exact rfl)) | apply EL.nil | ((with_reducible apply EK.then_normal); apply EK.code)
     | (with_reducible first | apply EC.seq | apply EC.region | apply EC.skip | apply EC.label | apply EC.block | apply EC.exit | apply EC.ret | apply EK.in_normal | apply EK.in_same | apply EK.in_ret | apply EK.then_ret | apply EK.then_exit))
  have hia : getE (putE c1 es1 b (.v (ptr gb))) a = some (.v (ptr ga)) := by rw [getE_putE, if_neg (fun e => hab e.symm), hin]
  have hib : getE (putE c1 es1 b (.v (ptr gb))) b = some (.v (ptr gb)) := by rw [getE_putE, if_pos rfl]
  generalize putE c1 es1 b (.v (ptr gb)) = es2 at hia hib
  generalize tickE c1 es1 b = c2
  refine EL.le (Le.pick [8, 9, 10, 11, 12, 0, 1, 2, 3, 4, 5, 6, 7, 13, 14] [_, _, _, _, _, _, _, _, _, _, _, _, _, _, _] rfl (by decide) rfl) ?_
  repeat
    (first
     | (apply P_callX (rset_new (g := g') (L := L1) (k := nilS) (n := 0) hab hl x y) [11, 12, 0, 1, 2, 3, 4, 5, 6, 7, 8, 9, 10, 13, 14] [_, _, _, _, _, _, _, _, _, _, _, _, _] rfl (by decide) rfl rfl (RefineL.refl _ _) (by intro _ _; simp [go_sem]) rfl rfl; rintro _ _ ⟨rfl, L2, rfl⟩)
     | (apply P_move; (iterate 3 exact rfl)) | (apply P_load; exact rfl; (first | exact I0 | exact I1 | exact I2 | exact I3 | exact I4 | exact I5 | exact I6); (iterate 4 exact rfl)) | apply EL.nil
     | ((with_reducible apply EK.then_normal); apply EK.code)
     | (with_reducible first | apply EC.seq | apply EC.region | apply EC.skip | apply EC.label | apply EC.block | apply EC.exit | apply EC.ret | apply EK.in_normal | apply EK.in_same | apply EK.in_ret | apply EK.then_ret | apply EK.then_exit))
  have hlen := two_length hab hl x y
  have hxa := getR_two1 hab hl x y
  have hyb := getR_two2 hab hl x y
  by_cases hlt : val x < val w
  · have h7 := move_lt (g := g) (m := m) (c := c2) (u := u2) (k := nilS) (n := 0) (b := 0) (x := x) (a2 := b) (cd := []) (sv := .map (some gs)) hia hx hw hlt
    have h8 := rtwo_lt (g := g') (L := L2) (k := nilS) (n := 0) hab hl x y hx hw hlt
    have h5 := balance_in (g := g) (m := m) (c := c2) (u := u2) (k := nilS) (n := 0) (b := 0) (w := x) (cd := []) (sv := .map (some gs)) hia
    have h9 := balance_in (g := g) (m := m) (c := c2) (u := u2) (k := nilS) (n := 0) (b := 0) (w := y) (cd := []) (sv := .map (some gs2)) hib
    have h6 := rget (g := g') (L := L2) (k := nilS) (n := 0) (two a b x y) a (by rw [two_length hab hl]; omega)
    have h10 := rget (g := g') (L := L2) (k := nilS) (n := 0) (two a b x y) b (by rw [two_length hab hl]; omega)
    rw [getR_two1 hab hl] at h6
    rw [getR_two2 hab hl] at h10
    have hwx := (bin_word x x).1
    rw [beq_self_eq_true] at hwx
    have hwy := (bin_word y y).1
    rw [beq_self_eq_true] at hwy
    repeat
      (first
       | (apply P_callV (h7) [7, 8, 13, 0, 1, 2, 3, 4, 5, 6, 9, 10, 11, 12, 14] [_, _, _, _, _, _, _, _, _, _, _, _] rfl (by decide) rfl rfl (RefineL.refl _ _) (by intro _ _; simp [go_sem]) rfl rfl)
       | (apply P_move; (iterate 3 exact rfl)) | (apply P_assign; (iterate 3 exact rfl))
       | (apply P_load; exact rfl; (first | exact I0 | exact I1 | exact I2 | exact I3 | exact I4 | exact I5 | exact I6); (iterate 4 exact rfl)) | apply EL.nil
       | ((with_reducible apply EK.then_normal); apply EK.code)
       | (with_reducible first | apply EC.seq | apply EC.region | apply EC.skip | apply EC.label | apply EC.block | apply EC.exit | apply EC.ret | apply EK.in_normal | apply EK.in_same | apply EK.in_ret | apply EK.then_ret | apply EK.then_exit))
    repeat
      (first
       | (apply P_callV (h8) [0, 1, 2, 3, 4, 5, 6, 7, 8, 9, 10, 11, 12, 13, 14] [_, _, _, _, _, _, _, _, _, _, _, _, _] rfl (by decide) rfl rfl (RefineL.refl _ _) (by intro _ _; simp [go_sem]) rfl rfl)
       | (apply P_assign; (iterate 3 exact rfl)) | apply EL.nil | ((with_reducible apply EK.then_normal); apply EK.code)
       | (with_reducible first | apply EC.seq | apply EC.region | apply EC.skip | apply EC.label | apply EC.block | apply EC.exit | apply EC.ret | apply EK.in_normal | apply EK.in_same | apply EK.in_ret | apply EK.then_ret | apply EK.then_exit))
    refine EC.drawV 26 (by kernel_rfl) ?_
    simp only [List.take_succ_cons, List.take_zero, List.drop_succ_cons, List.drop_zero]
    refine EV.cut 9 ?_
    simp only [List.take_succ_cons, List.take_zero, List.drop_succ_cons, List.drop_zero]
    repeat
      (first
       | (apply H_bin; (iterate 2 exact rfl); exact (bin_bool false false).1; (iterate 2 exact rfl)) | (apply H_move; (iterate 3 exact rfl)) | (apply H_pick; (iterate 4 exact rfl))
       | (apply H_load; exact rfl; (first | exact I0 | exact I1 | exact I2 | exact I3 | exact I4 | exact I5 | exact I6); (iterate 4 exact rfl)))
    refine EM.nil ?_
    refine EV.callV (h5) [7, 8, 13, 0, 1, 2, 3, 4, 5, 6, 9, 10, 11, 12, 14] [_, _, _, _, _, _, _, _, _, _, _, _] rfl (by decide) rfl rfl (RefineL.refl _ _) (by intro _ _; simp [go_sem]) rfl rfl ?_
    refine EV.cut 2 ?_
    simp only [List.take_succ_cons, List.take_zero, List.drop_succ_cons, List.drop_zero]
    repeat
      (first
       | (apply H_move; (iterate 3 exact rfl)) | (apply H_load; exact rfl; (first | exact I0 | exact I1 | exact I2 | exact I3 | exact I4 | exact I5 | exact I6); (iterate 4 exact rfl)))
    refine EM.nil ?_
    refine EV.callV (h6) [0, 1, 2, 3, 4, 5, 6, 7, 8, 9, 10, 11, 12, 13, 14] [_, _, _, _, _, _, _, _, _, _, _, _, _] rfl (by decide) rfl rfl (RefineL.refl _ _) (by intro _ _; simp [go_sem]) rfl rfl ?_
    refine EV.cut 6 ?_
    simp only [List.take_succ_cons, List.take_zero, List.drop_succ_cons, List.drop_zero]
    repeat
      (first
       | (apply H_bin; (iterate 2 exact rfl); exact hwx; (iterate 2 exact rfl)) | (apply H_fieldv; (iterate 8 exact rfl)) | (apply H_move; (iterate 3 exact rfl)) | (apply H_pick; (iterate 4 exact rfl))
       | (apply H_load; exact rfl; (first | exact I0 | exact I1 | exact I2 | exact I3 | exact I4 | exact I5 | exact I6); (iterate 4 exact rfl)))
    refine EM.nil ?_
    refine EV.callV (h9) [7, 8, 11, 0, 1, 2, 3, 4, 5, 6, 9, 10, 12, 13, 14] [_, _, _, _, _, _, _, _, _, _, _, _] rfl (by decide) rfl rfl (RefineL.refl _ _) (by intro _ _; simp [go_sem]) rfl rfl ?_
    refine EV.cut 2 ?_
    simp only [List.take_succ_cons, List.take_zero, List.drop_succ_cons, List.drop_zero]
    repeat
      (first
       | (apply H_move; (iterate 3 exact rfl)) | (apply H_load; exact rfl; (first | exact I0 | exact I1 | exact I2 | exact I3 | exact I4 | exact I5 | exact I6); (iterate 4 exact rfl)))
    refine EM.nil ?_
    refine EV.callV (h10) [0, 1, 2, 3, 4, 5, 6, 7, 8, 9, 10, 11, 12, 13, 14] [_, _, _, _, _, _, _, _, _, _, _, _, _] rfl (by decide) rfl rfl (RefineL.refl _ _) (by intro _ _; simp [go_sem]) rfl rfl ?_
    refine EV.cut 3 ?_
    simp only [List.take_succ_cons, List.take_zero, List.drop_succ_cons, List.drop_zero]
    repeat
      (first
       | (apply H_bin; (iterate 2 exact rfl); exact hwy; (iterate 2 exact rfl)) | (apply H_fieldv; (iterate 8 exact rfl)) | (apply H_pick; (iterate 4 exact rfl)))
    refine EM.nil ?_
    refine EV.nil0 ?_
    repeat
      (first
       | (apply P_assign; (iterate 3 exact rfl)) | apply EL.nil | ((with_reducible apply EK.then_normal); apply EK.code)
       | (with_reducible first | apply EC.seq | apply EC.region | apply EC.skip | apply EC.label | apply EC.block | apply EC.exit | apply EC.ret | apply EK.in_normal | apply EK.in_same | apply EK.in_ret | apply EK.then_ret | apply EK.then_exit))
    exact EK.retM1s [] rfl rfl (List.nil_sublist _) ⟨rfl, rfl⟩
  by_cases hov : val (wordOf (val y + val w)) < val w
  · have h7 := move_over (g := g) (m := m) (c := c2) (u := u2) (k := nilS) (n := 0) (b := 0) (x := x) (a2 := b) (b2 := 0) (y := y) (cd := []) (sv := .map (some gs)) (cd2 := []) (sv2 := .map (some gs2)) hia hib hee hx hy hw hlt hov
    have h8 := rtwo_over (g := g') (L := L2) (k := nilS) (n := 0) hab hl x y hx hy hw hlt ((over_word y w hy hw).1 hov)
    have h5 := balance_in (g := g) (m := m) (c := c2) (u := u2) (k := nilS) (n := 0) (b := 0) (w := x) (cd := []) (sv := .map (some gs)) hia
    have h9 := balance_in (g := g) (m := m) (c := c2) (u := u2) (k := nilS) (n := 0) (b := 0) (w := y) (cd := []) (sv := .map (some gs2)) hib
    have h6 := rget (g := g') (L := L2) (k := nilS) (n := 0) (two a b x y) a (by rw [two_length hab hl]; omega)
    have h10 := rget (g := g') (L := L2) (k := nilS) (n := 0) (two a b x y) b (by rw [two_length hab hl]; omega)
    rw [getR_two1 hab hl] at h6
    rw [getR_two2 hab hl] at h10
    have hwx := (bin_word x x).1
    rw [beq_self_eq_true] at hwx
    have hwy := (bin_word y y).1
    rw [beq_self_eq_true] at hwy
    repeat
      (first
       | (apply P_callV (h7) [7, 8, 13, 11, 0, 1, 2, 3, 4, 5, 6, 9, 10, 12, 14] [_, _, _, _, _, _, _, _, _, _, _] rfl (by decide) rfl rfl (RefineL.refl _ _) (by intro _ _; simp [go_sem]) rfl rfl)
       | (apply P_move; (iterate 3 exact rfl)) | (apply P_assign; (iterate 3 exact rfl))
       | (apply P_load; exact rfl; (first | exact I0 | exact I1 | exact I2 | exact I3 | exact I4 | exact I5 | exact I6); (iterate 4 exact rfl)) | apply EL.nil
       | ((with_reducible apply EK.then_normal); apply EK.code)
       | (with_reducible first | apply EC.seq | apply EC.region | apply EC.skip | apply EC.label | apply EC.block | apply EC.exit | apply EC.ret | apply EK.in_normal | apply EK.in_same | apply EK.in_ret | apply EK.then_ret | apply EK.then_exit))
    repeat
      (first
       | (apply P_callV (h8) [0, 1, 2, 3, 4, 5, 6, 7, 8, 9, 10, 11, 12, 13, 14] [_, _, _, _, _, _, _, _, _, _, _, _, _] rfl (by decide) rfl rfl (RefineL.refl _ _) (by intro _ _; simp [go_sem]) rfl rfl)
       | (apply P_assign; (iterate 3 exact rfl)) | apply EL.nil | ((with_reducible apply EK.then_normal); apply EK.code)
       | (with_reducible first | apply EC.seq | apply EC.region | apply EC.skip | apply EC.label | apply EC.block | apply EC.exit | apply EC.ret | apply EK.in_normal | apply EK.in_same | apply EK.in_ret | apply EK.then_ret | apply EK.then_exit))
    refine EC.drawV 26 (by kernel_rfl) ?_
    simp only [List.take_succ_cons, List.take_zero, List.drop_succ_cons, List.drop_zero]
    refine EV.cut 9 ?_
    simp only [List.take_succ_cons, List.take_zero, List.drop_succ_cons, List.drop_zero]
    repeat
      (first
       | (apply H_bin; (iterate 2 exact rfl); exact (bin_bool false false).1; (iterate 2 exact rfl)) | (apply H_move; (iterate 3 exact rfl)) | (apply H_pick; (iterate 4 exact rfl))
       | (apply H_load; exact rfl; (first | exact I0 | exact I1 | exact I2 | exact I3 | exact I4 | exact I5 | exact I6); (iterate 4 exact rfl)))
    refine EM.nil ?_
    refine EV.callV (h5) [7, 8, 13, 0, 1, 2, 3, 4, 5, 6, 9, 10, 11, 12, 14] [_, _, _, _, _, _, _, _, _, _, _, _] rfl (by decide) rfl rfl (RefineL.refl _ _) (by intro _ _; simp [go_sem]) rfl rfl ?_
    refine EV.cut 2 ?_
    simp only [List.take_succ_cons, List.take_zero, List.drop_succ_cons, List.drop_zero]
    repeat
      (first
       | (apply H_move; (iterate 3 exact rfl)) | (apply H_load; exact rfl; (first | exact I0 | exact I1 | exact I2 | exact I3 | exact I4 | exact I5 | exact I6); (iterate 4 exact rfl)))
    refine EM.nil ?_
    refine EV.callV (h6) [0, 1, 2, 3, 4, 5, 6, 7, 8, 9, 10, 11, 12, 13, 14] [_, _, _, _, _, _, _, _, _, _, _, _, _] rfl (by decide) rfl rfl (RefineL.refl _ _) (by intro _ _; simp [go_sem]) rfl rfl ?_
    refine EV.cut 6 ?_
    simp only [List.take_succ_cons, List.take_zero, List.drop_succ_cons, List.drop_zero]
    repeat
      (first
       | (apply H_bin; (iterate 2 exact rfl); exact hwx; (iterate 2 exact rfl)) | (apply H_fieldv; (iterate 8 exact rfl)) | (apply H_move; (iterate 3 exact rfl)) | (apply H_pick; (iterate 4 exact rfl))
       | (apply H_load; exact rfl; (first | exact I0 | exact I1 | exact I2 | exact I3 | exact I4 | exact I5 | exact I6); (iterate 4 exact rfl)))
    refine EM.nil ?_
    refine EV.callV (h9) [7, 8, 11, 0, 1, 2, 3, 4, 5, 6, 9, 10, 12, 13, 14] [_, _, _, _, _, _, _, _, _, _, _, _] rfl (by decide) rfl rfl (RefineL.refl _ _) (by intro _ _; simp [go_sem]) rfl rfl ?_
    refine EV.cut 2 ?_
    simp only [List.take_succ_cons, List.take_zero, List.drop_succ_cons, List.drop_zero]
    repeat
      (first
       | (apply H_move; (iterate 3 exact rfl)) | (apply H_load; exact rfl; (first | exact I0 | exact I1 | exact I2 | exact I3 | exact I4 | exact I5 | exact I6); (iterate 4 exact rfl)))
    refine EM.nil ?_
    refine EV.callV (h10) [0, 1, 2, 3, 4, 5, 6, 7, 8, 9, 10, 11, 12, 13, 14] [_, _, _, _, _, _, _, _, _, _, _, _, _] rfl (by decide) rfl rfl (RefineL.refl _ _) (by intro _ _; simp [go_sem]) rfl rfl ?_
    refine EV.cut 3 ?_
    simp only [List.take_succ_cons, List.take_zero, List.drop_succ_cons, List.drop_zero]
    repeat
      (first
       | (apply H_bin; (iterate 2 exact rfl); exact hwy; (iterate 2 exact rfl)) | (apply H_fieldv; (iterate 8 exact rfl)) | (apply H_pick; (iterate 4 exact rfl)))
    refine EM.nil ?_
    refine EV.nil0 ?_
    repeat
      (first
       | (apply P_assign; (iterate 3 exact rfl)) | apply EL.nil | ((with_reducible apply EK.then_normal); apply EK.code)
       | (with_reducible first | apply EC.seq | apply EC.region | apply EC.skip | apply EC.label | apply EC.block | apply EC.exit | apply EC.ret | apply EK.in_normal | apply EK.in_same | apply EK.in_ret | apply EK.then_ret | apply EK.then_exit))
    exact EK.retM1s [] rfl rfl (List.nil_sublist _) ⟨rfl, rfl⟩
  · have h7 := move_do (g := g) (m := m) (c := c2) (u := u2) (k := nilS) (n := 0) (b := 0) (x := x) (a2 := b) (b2 := 0) (y := y) (us := []) (cd := []) (sv := .map (some gs)) (cd2 := []) (sv2 := .map (some gs2)) hia hib hee (by decide) hx hy hw hlt hov
    have h8 := rtwo_do (g := g') (L := L2) (k := nilS) (n := 0) hab hl x y hx hy hw hlt (fun h => hov ((over_word y w hy hw).2 h))
    have hs1 : ∃ s, wordOf (val x + 256 ^ 32 - val w) = s := ⟨_, rfl⟩
    obtain ⟨s1, hs1⟩ := hs1
    have hs2 : ∃ s, wordOf (val y + val w) = s := ⟨_, rfl⟩
    obtain ⟨s2, hs2⟩ := hs2
    rw [hs1, hs2] at h7 h8
    repeat
      (first
       | (apply P_callX (h7) [7, 8, 9, 10, 13, 11, 0, 1, 2, 3, 4, 5, 6, 12, 14] [_, _, _, _, _, _, _, _, _]  rfl (by decide) rfl rfl (RefineL.refl _ _) (by intro _ _; simp [go_sem]) rfl rfl; rintro _ _ ⟨rfl, u3, rfl⟩)
       | (apply P_move; (iterate 3 exact rfl)) | (apply P_assign; (iterate 3 exact rfl)) | apply EL.nil | ((with_reducible apply EK.then_normal); apply EK.code)
       | (with_reducible first | apply EC.seq | apply EC.region | apply EC.skip | apply EC.label | apply EC.block | apply EC.exit | apply EC.ret | apply EK.in_normal | apply EK.in_same | apply EK.in_ret | apply EK.then_ret | apply EK.then_exit))
    refine EL.le (Le.pick [6, 7, 8, 9, 10, 11, 12, 0, 1, 2, 3, 4, 5, 13, 14] [_, _, _, _, _, _, _, _, _, _, _, _, _, _, _] rfl (by decide) rfl) ?_
    have h5 := balance_in (g := g) (m := m) (c := c2) (u := u3) (k := nilS) (n := 0) (b := 0) (w := s1) (cd := []) (sv := .map (some gs)) hia
    have h9 := balance_in (g := g) (m := m) (c := c2) (u := u3) (k := nilS) (n := 0) (b := 0) (w := s2) (cd := []) (sv := .map (some gs2)) hib
    have h6 := rget (g := g') (L := L2) (k := nilS) (n := 0) (two a b s1 s2) a (by rw [two_length hab hl]; omega)
    have h10 := rget (g := g') (L := L2) (k := nilS) (n := 0) (two a b s1 s2) b (by rw [two_length hab hl]; omega)
    rw [getR_two1 hab hl] at h6
    rw [getR_two2 hab hl] at h10
    have hwx := (bin_word s1 s1).1
    rw [beq_self_eq_true] at hwx
    have hwy := (bin_word s2 s2).1
    rw [beq_self_eq_true] at hwy
    repeat
      (first
       | (apply P_callX (h8) [0, 1, 2, 3, 4, 5, 6, 7, 8, 9, 10, 11, 12, 13, 14] [_, _, _, _, _, _, _, _, _, _, _, _, _] rfl (by decide) rfl rfl (RefineL.refl _ _) (by intro _ _; simp [go_sem]) rfl rfl; rintro _ _ ⟨rfl, rfl⟩)
       | (apply P_assign; (iterate 3 exact rfl)) | (apply P_load; exact rfl; (first | exact I0 | exact I1 | exact I2 | exact I3 | exact I4 | exact I5 | exact I6); (iterate 4 exact rfl)) | apply EL.nil
       | ((with_reducible apply EK.then_normal); apply EK.code)
       | (with_reducible first | apply EC.seq | apply EC.region | apply EC.skip | apply EC.label | apply EC.block | apply EC.exit | apply EC.ret | apply EK.in_normal | apply EK.in_same | apply EK.in_ret | apply EK.then_ret | apply EK.then_exit))
    refine EC.drawV 26 (by kernel_rfl) ?_
    simp only [List.take_succ_cons, List.take_zero, List.drop_succ_cons, List.drop_zero]
    refine EV.cut 9 ?_
    simp only [List.take_succ_cons, List.take_zero, List.drop_succ_cons, List.drop_zero]
    repeat
      (first
       | (apply H_bin; (iterate 2 exact rfl); exact (bin_bool true true).1; (iterate 2 exact rfl)) | (apply H_move; (iterate 3 exact rfl)) | (apply H_pick; (iterate 4 exact rfl))
       | (apply H_load; exact rfl; (first | exact I0 | exact I1 | exact I2 | exact I3 | exact I4 | exact I5 | exact I6); (iterate 4 exact rfl)))
    refine EM.nil ?_
    refine EV.callV (h5) [7, 8, 11, 0, 1, 2, 3, 4, 5, 6, 9, 10, 12, 13, 14] [_, _, _, _, _, _, _, _, _, _, _, _] rfl (by decide) rfl rfl (RefineL.refl _ _) (by intro _ _; simp [go_sem]) rfl rfl ?_
    refine EV.cut 2 ?_
    simp only [List.take_succ_cons, List.take_zero, List.drop_succ_cons, List.drop_zero]
    repeat
      (first
       | (apply H_move; (iterate 3 exact rfl)) | (apply H_load; exact rfl; (first | exact I0 | exact I1 | exact I2 | exact I3 | exact I4 | exact I5 | exact I6); (iterate 4 exact rfl)))
    refine EM.nil ?_
    refine EV.callV (h6) [0, 1, 2, 3, 4, 5, 6, 7, 8, 9, 10, 11, 12, 13, 14] [_, _, _, _, _, _, _, _, _, _, _, _, _] rfl (by decide) rfl rfl (RefineL.refl _ _) (by intro _ _; simp [go_sem]) rfl rfl ?_
    refine EV.cut 6 ?_
    simp only [List.take_succ_cons, List.take_zero, List.drop_succ_cons, List.drop_zero]
    repeat
      (first
       | (apply H_bin; (iterate 2 exact rfl); exact hwx; (iterate 2 exact rfl)) | (apply H_fieldv; (iterate 8 exact rfl)) | (apply H_move; (iterate 3 exact rfl)) | (apply H_pick; (iterate 4 exact rfl))
       | (apply H_load; exact rfl; (first | exact I0 | exact I1 | exact I2 | exact I3 | exact I4 | exact I5 | exact I6); (iterate 4 exact rfl)))
    refine EM.nil ?_
    refine EV.callV (h9) [7, 8, 12, 0, 1, 2, 3, 4, 5, 6, 9, 10, 11, 13, 14] [_, _, _, _, _, _, _, _, _, _, _, _] rfl (by decide) rfl rfl (RefineL.refl _ _) (by intro _ _; simp [go_sem]) rfl rfl ?_
    refine EV.cut 2 ?_
    simp only [List.take_succ_cons, List.take_zero, List.drop_succ_cons, List.drop_zero]
    repeat
      (first
       | (apply H_move; (iterate 3 exact rfl)) | (apply H_load; exact rfl; (first | exact I0 | exact I1 | exact I2 | exact I3 | exact I4 | exact I5 | exact I6); (iterate 4 exact rfl)))
    refine EM.nil ?_
    refine EV.callV (h10) [0, 1, 2, 3, 4, 5, 6, 7, 8, 9, 10, 11, 12, 13, 14] [_, _, _, _, _, _, _, _, _, _, _, _, _] rfl (by decide) rfl rfl (RefineL.refl _ _) (by intro _ _; simp [go_sem]) rfl rfl ?_
    refine EV.cut 3 ?_
    simp only [List.take_succ_cons, List.take_zero, List.drop_succ_cons, List.drop_zero]
    repeat
      (first
       | (apply H_bin; (iterate 2 exact rfl); exact hwy; (iterate 2 exact rfl)) | (apply H_fieldv; (iterate 8 exact rfl)) | (apply H_pick; (iterate 4 exact rfl)))
    refine EM.nil ?_
    refine EV.nil0 ?_
    repeat
      (first
       | (apply P_assign; (iterate 3 exact rfl)) | apply EL.nil | ((with_reducible apply EK.then_normal); apply EK.code)
       | (with_reducible first | apply EC.seq | apply EC.region | apply EC.skip | apply EC.label | apply EC.block | apply EC.exit | apply EC.ret | apply EK.in_normal | apply EK.in_same | apply EK.in_ret | apply EK.then_ret | apply EK.then_exit))
    exact EK.retM1s [] rfl rfl (List.nil_sublist _) ⟨rfl, rfl⟩
end E
end Go.Proofs.Ytdhicdnmgmkpkaa
/-
  What a slice of bytes that comes in reads as.
  Conditions: none.
-/
namespace Go.Proofs.Ytdhicdnmgmkpkaa
open Go.RowKit Mono
theorem isB_of_cells {w : World} {a : Option Addr} {len cap : Nat} {zs : List Int}
    (h : (a = none ∧ len = 0 ∧ cap = 0 ∧ zs = []) ∨ ∃ x, a = some x ∧ len ≤ cap ∧ cap ≤ maxLen ∧ zs.length = cap ∧ (∀ i, i < zs.length → w.cell? (x.add i) = some (.int .u8 (zs.getD i 0))) ∧ ∀ n ∈ zs, (Lit.int .u8 n).wf = true) :
    ∃ l, IsB w (.slice a len cap) l := by
  rcases h with ⟨rfl, rfl, rfl, rfl⟩ | ⟨x, rfl, hl, hm, hz, hc, hw⟩
  · exact ⟨[], IsB.nil w⟩
  · refine ⟨(zs.take len).map fun z => UInt8.ofNat z.toNat, some x, cap, ?_, ?_, hm, ?_⟩
    · simp; omega
    · simp; omega
    · intro hne
      have hlen : 0 < len := by
        rcases Nat.eq_zero_or_pos len with h0 | h0
        · subst h0; simp [bvs] at hne
        · exact h0
      obtain ⟨blk, off, spot⟩ := x
      have h0 := hc 0 (by omega)
      have hspot : spot = none := by
        simp only [Addr.add, if_true, World.cell?] at h0
        cases spot with
        | none => rfl
        | some s =>
          simp at h0
          split at h0 <;> simp at h0
      subst hspot
      refine ⟨blk, off, rfl, ?_, fun j u hu => ?_⟩
      · rcases Nat.lt_or_ge blk w.heap.size with hlt | hge
        · exact hlt
        · simp [Addr.add, World.cell?, Array.getElem?_eq_none hge] at h0
      · have hj : j < len := by
          have := (List.getElem?_eq_some_iff.1 hu).1
          simp [bvs] at this
          omega
        have hjz : j < zs.length := by omega
        have h1 := hc j hjz
        rw [add_none] at h1
        rw [h1]
        have hz0 : zs.getD j 0 = zs[j] := by simp [hjz]
        have hb := bounds_u8 (hw zs[j] (List.getElem_mem hjz))
        simp [bvs, hj, hjz] at hu
        rw [← hu, hz0]
        unfold bv
        have h2 : (UInt8.ofNat zs[j].toNat).toNat = zs[j].toNat := by simp; omega
        rw [h2]
        congr 2
        omega
end Go.Proofs.Ytdhicdnmgmkpkaa
/-
  What data that come in read as: bytes, lists of bytes, arrays of bytes.
  Conditions: none.
-/
namespace Go.Proofs.Ytdhicdnmgmkpkaa
open Go.RowKit Mono Go.ChangeShapes Go.WideShapes Go.Deep
theorem cell_spot {w : World} {p : Addr} {v : Value} (h : w.cell? p = some v) : p.block < w.heap.size ∧ ∃ b o, p = ⟨b, o, none⟩ := by
  obtain ⟨blk, off, spot⟩ := p
  have hspot : spot = none := by
    simp only [World.cell?] at h
    cases spot with
    | none => rfl
    | some s =>
      simp at h
      split at h <;> simp at h
  subst hspot
  refine ⟨?_, blk, off, rfl⟩
  rcases Nat.lt_or_ge blk w.heap.size with hlt | hge
  · exact hlt
  · simp [World.cell?, Array.getElem?_eq_none hge] at h
theorem flat_get {n : Nat} {u : Value} : ∀ (rows : List (List Value)) (j : Nat), (∀ r ∈ rows, r.length = n) → rows.flatten[j]? = some u → ∃ i r row, j = i * n + r ∧ r < n ∧ rows[i]? = some row ∧ row[r]? = some u
  | [], j, _, h => by simp at h
  | row :: rows, j, hn, h => by
    have hr : row.length = n := hn row (by simp)
    rw [List.flatten_cons] at h
    by_cases hj : j < n
    · rw [List.getElem?_append_left (by omega)] at h
      exact ⟨0, j, row, by simp, hj, rfl, h⟩
    · rw [List.getElem?_append_right (by omega), hr] at h
      obtain ⟨i, r, row', h1, h2, h3, h4⟩ := flat_get rows (j - n) (fun r hr => hn r (by simp [hr])) h
      exact ⟨i + 1, r, row', by rw [Nat.add_mul]; omega, h2, by simpa using h3, h4⟩
section
variable {H : Type} {enc : TypeId × Value → H} {w : World} {spare : Nat → Bool} {held : Bool}
theorem slice_rows {t e n : TypeId} {fuel : Nat} {v : Value} {x : DataW H × List MemPlace} (ht : Try.prog.underlying t = some (.slice e)) (hn : Try.prog.cellsOf e = n) (h : DataW.trod enc Try.prog w 0 spare held fuel t [v] = some x) :
    ∃ (A : Option Addr) (c f : Nat) (rows : List (List Value)), v = .slice A rows.length c ∧ rows.length ≤ c ∧ c ≤ maxLen ∧ Rd w w.heap.size A rows.flatten ∧ (∀ r ∈ rows, r.length = n) ∧ (A = none → rows = [] ∧ c = 0) ∧ ∀ r ∈ rows, ∃ y, DataW.trod enc Try.prog w 0 spare held f e r = some y := by
  rcases open_slice ht h with ⟨hcs, _⟩ | ⟨a, len, cap, m, f, D, Pl, hcs, _, hl, hm, hmm, _, hi⟩
  · simp at hcs
    subst hcs
    exact ⟨none, 0, 0, [], rfl, Nat.le_refl _, by simp [maxLen], Rd.nil, by simp, fun _ => ⟨rfl, rfl⟩, by simp⟩
  · simp at hcs
    subst hcs
    have hlm : len ≤ m := by rw [hmm]; split <;> omega
    rw [hn] at hi
    let row : Nat → List Value := fun i => (w.cells? 0 (a.add (i * n)) n).getD []
    have hrow : ∀ i, i < len → w.cells? 0 (a.add (i * n)) n = some (row i) ∧ ∃ y, DataW.trod enc Try.prog w 0 spare held f e (row i) = some y := fun i hil => by
      obtain ⟨cs', h1, h2⟩ := hi i (by omega)
      have : row i = cs' := by simp only [row]; rw [h1]; rfl
      rw [this]
      exact ⟨h1, _, h2⟩
    have hmem : ∀ r ∈ (List.range len).map row, ∃ i, i < len ∧ r = row i := fun r hr => by
      obtain ⟨i, h1, h2⟩ := List.mem_map.1 hr
      exact ⟨i, List.mem_range.1 h1, h2.symm⟩
    have hlen : ∀ r ∈ (List.range len).map row, r.length = n := fun r hr => by
      obtain ⟨i, h1, rfl⟩ := hmem r hr
      exact (World.cells?_some (hrow i h1).1).2.1
    refine ⟨some a, cap, f, (List.range len).map row, by simp, by simpa using hl, hm, ?_, hlen, (fun e => by cases e), fun r hr => ?_⟩
    · have hcell : ∀ j u, ((List.range len).map row).flatten[j]? = some u → w.cell? (a.add j) = some u := fun j u hu => by
        obtain ⟨i, r, row', rfl, h2, h3, h4⟩ := flat_get _ j hlen hu
        have hil : i < len := by
          have := (List.getElem?_eq_some_iff.1 h3).1
          simpa using this
        have h5 : row' = row i := by
          rw [List.getElem?_map, List.getElem?_range hil] at h3
          exact (Option.some.inj h3).symm
        subst h5
        have h6 := (World.cells?_some (hrow i hil).1).2.2 r h2
        rw [h4, Go.Deep.add_add] at h6
        exact h6
      intro hne
      obtain ⟨u0, rest, he⟩ := List.exists_cons_of_ne_nil hne
      have h0 := hcell 0 u0 (by rw [he]; rfl)
      rw [show a.add 0 = a from if_pos rfl] at h0
      obtain ⟨h1, b, o, rfl⟩ := cell_spot h0
      refine ⟨b, o, rfl, h1, fun j u hu => ?_⟩
      have := hcell j u hu
      rw [add_none] at this
      exact this
    · obtain ⟨i, h1, rfl⟩ := hmem r hr
      exact (hrow i h1).2
theorem int_of_trod {t : TypeId} {k : IntKind} {fuel : Nat} {cs : List Value} {x : DataW H × List MemPlace} (ht : Try.prog.underlying t = some (.int k)) (h : DataW.trod enc Try.prog w 0 spare held fuel t cs = some x) : ∃ n, cs = [.int k n] ∧ (Lit.int k n).wf = true := by
  obtain ⟨n, h1, _, h2⟩ := DataW.trod_int ht h
  exact ⟨n, h1, h2⟩
theorem u8_of_trod {fuel : Nat} {cs : List Value} {x : DataW H × List MemPlace} (h : DataW.trod enc Try.prog w 0 spare held fuel 5 cs = some x) : ∃ b : UInt8, cs = [bv b] := by
  obtain ⟨n, rfl, hw⟩ := int_of_trod Try.underlying5 h
  have hb := bounds_u8 hw
  refine ⟨UInt8.ofNat n.toNat, ?_⟩
  unfold bv
  rw [UInt8.toNat_ofNat']
  have : ((n.toNat % 2 ^ 8 : Nat) : Int) = n := by omega
  rw [this]
theorem bytes_of_rows {rows : List (List Value)} (h : ∀ r ∈ rows, ∃ b : UInt8, r = [bv b]) : ∃ l : List UInt8, l.length = rows.length ∧ rows.flatten = bvs l := by
  induction rows with
  | nil => exact ⟨[], rfl, rfl⟩
  | cons r rows ih =>
    obtain ⟨l, h1, h2⟩ := ih fun r hr => h r (by simp [hr])
    obtain ⟨b, rfl⟩ := h r (by simp)
    exact ⟨b :: l, by simp [h1], by simp [h2, bvs]⟩
theorem bytes_of_trod {fuel : Nat} {v : Value} {x : DataW H × List MemPlace} (h : DataW.trod enc Try.prog w 0 spare held fuel 34 [v] = some x) : ∃ l, IsB w v l := by
  obtain ⟨A, c, f, rows, rfl, h1, h2, h3, _, _, h5⟩ := slice_rows Try.underlying34 (by kernel_rfl : Try.prog.cellsOf 5 = 1) h
  obtain ⟨l, h6, h7⟩ := bytes_of_rows fun r hr => by
    obtain ⟨y, hy⟩ := h5 r hr
    exact u8_of_trod hy
  rw [h7] at h3
  exact ⟨l, A, c, by rw [h6], by rw [h6]; exact h1, h2, h3⟩
/-! ### A parameter, by its type -/
set_option maxRecDepth 100000
variable {r : Reach} {b0 : Nat} {v : Value} {d : DataW H} {ps : List MemPlace}
theorem o_int (hv : Value.okWide Try.prog w r b0 3 v) (h : DataW.Trod enc Try.prog w 0 spare held 3 v d ps) : ∃ n : Int, v = .int .i64 n ∧ -9223372036854775808 ≤ n ∧ n ≤ 9223372036854775807 := by
  obtain ⟨n, rfl, _, _, hw⟩ := open_int Try.underlying3 hv h
  exact ⟨n, rfl, bounds_i64 hw⟩
theorem o_u8 (hv : Value.okWide Try.prog w r b0 5 v) (h : DataW.Trod enc Try.prog w 0 spare held 5 v d ps) : ∃ n : Int, v = .int .u8 n ∧ 0 ≤ n ∧ n ≤ 255 := by
  obtain ⟨n, rfl, _, _, hw⟩ := open_int Try.underlying5 hv h
  exact ⟨n, rfl, bounds_u8 hw⟩
theorem o_bool (hv : Value.okWide Try.prog w r b0 4 v) (h : DataW.Trod enc Try.prog w 0 spare held 4 v d ps) : ∃ b : Bool, v = .bool b := by
  obtain ⟨b, rfl, _, _⟩ := open_bool Try.underlying4 hv h
  exact ⟨b, rfl⟩
theorem o_bytes (hv : Value.okWide Try.prog w r b0 34 v) (h : DataW.Trod enc Try.prog w 0 spare held 34 v d ps) : ∃ l, IsB w v l := by
  obtain ⟨a, n, c, rfl⟩ := okWide_slice Try.underlying34 hv
  obtain ⟨fuel, hf⟩ := h
  exact bytes_of_trod hf
end
end Go.Proofs.Ytdhicdnmgmkpkaa
/-
  What data that come in read as: words and addresses.
  Conditions: none.
-/
namespace Go.Proofs.Ytdhicdnmgmkpkaa
set_option linter.unusedVariables false
set_option maxRecDepth 100000
open Go.RowKit Mono Go.ChangeShapes Go.WideShapes Go.Deep
section
variable {H : Type} {enc : TypeId × Value → H} {w : World} {spare : Nat → Bool} {held : Bool}
theorem bvs_of (cs : List Value) (h : ∀ u ∈ cs, ∃ b : UInt8, u = bv b) : ∃ l : List UInt8, cs = bvs l := by
  induction cs with
  | nil => exact ⟨[], rfl⟩
  | cons u cs ih =>
    obtain ⟨l, hl⟩ := ih fun u hu => h u (by simp [hu])
    obtain ⟨b, rfl⟩ := h u (by simp)
    exact ⟨b :: l, by rw [hl]; rfl⟩
theorem arr_of_trod {t : TypeId} {n fuel : Nat} {cs : List Value} {x : DataW H × List MemPlace} (ht : Try.prog.underlying t = some (.array n 5)) (hc : Try.prog.cellsOf t = n) (h : DataW.trod enc Try.prog w 0 spare held fuel t cs = some x) :
    ∃ l : List UInt8, l.length = n ∧ cs = bvs l := by
  obtain ⟨xs, m, _, _, hl, hxl, hg⟩ := DataW.trod_array ht h
  rw [hc] at hl
  obtain ⟨l, rfl⟩ := bvs_of cs fun u hu => by
    obtain ⟨i, hi, rfl⟩ := List.getElem_of_mem hu
    have h1 := hg i (by omega)
    rw [(by kernel_rfl : Try.prog.cellsOf 5 = 1), Nat.mul_one, List.drop_eq_getElem_cons hi, List.take_succ_cons, List.take_zero, List.getElem?_eq_getElem (by omega)] at h1
    obtain ⟨b, hb⟩ := u8_of_trod h1
    exact ⟨b, by simpa using hb⟩
  exact ⟨l, by rw [← hl, bvs_length], rfl⟩
variable {r : Reach} {b0 : Nat} {v : Value} {d : DataW H} {ps : List MemPlace}
theorem arr_opens {t : TypeId} {n : Nat} (ht : Try.prog.underlying t = some (.array n 5)) (hc : Try.prog.cellsOf t = n) (hv : Value.okWide Try.prog w r b0 t v) (h : DataW.Trod enc Try.prog w 0 spare held t v d ps) : ∃ l : List UInt8, l.length = n ∧ v = arrV l := by
  simp only [Value.okWide, ht] at hv
  obtain ⟨cs, rfl, _⟩ := hv
  obtain ⟨fuel, hf⟩ := h
  obtain ⟨l, h1, h2⟩ := arr_of_trod ht hc hf
  refine ⟨l, h1, ?_⟩
  unfold arrV
  rw [← h2]
  simp [Value.cells]
theorem o_word (hv : Value.okWide Try.prog w r b0 25 v) (h : DataW.Trod enc Try.prog w 0 spare held 25 v d ps) : ∃ l : List UInt8, l.length = 32 ∧ v = arrV l :=
  arr_opens Try.underlying25 (by kernel_rfl) hv h
end
end Go.Proofs.Ytdhicdnmgmkpkaa
/-
  What data that come in read as: addresses.
  Conditions: none.
-/
namespace Go.Proofs.Ytdhicdnmgmkpkaa
set_option linter.unusedVariables false
set_option maxRecDepth 100000
open Go.RowKit Mono Go.ChangeShapes Go.WideShapes Go.Deep
section
variable {H : Type} {enc : TypeId × Value → H} {w : World} {spare : Nat → Bool} {held : Bool} {r : Reach} {b0 : Nat} {v : Value} {d : DataW H} {ps : List MemPlace}
theorem o_addr (hv : Value.okWide Try.prog w r b0 23 v) (h : DataW.Trod enc Try.prog w 0 spare held 23 v d ps) : ∃ l : List UInt8, l.length = 20 ∧ v = arrV l :=
  arr_opens Try.underlying23 (by kernel_rfl) hv h
end
end Go.Proofs.Ytdhicdnmgmkpkaa
/-
  A law's function that answers true and whose pieces are none.
  Conditions: none.
-/
namespace Go.Proofs.Ytdhicdnmgmkpkaa
set_option linter.unusedVariables false
open Go.RowKit Mono
namespace E
theorem law_boolM {f : FuncId} {ds : List D} {xs : List Value} {w : World} (h : FnM f ds [] (fun r os' => r = .val (.v (.bool true)) ∧ os' = [])) (hr : ReadVs (fun b => b < w.heap.size) w ds xs) : Calls Try.prog f xs.toArray w fun e w' => e = .returned (.bool true) ∧ Below w.heap.size w w' :=
  (h.go _ w xs (fun b hb => hb) ⟨fun o ho => by simp at ho, .nil, fun b ⟨o, ho, _⟩ => by simp at ho⟩ hr).mono fun e w' ⟨v, r, os', he, ⟨h1, h2⟩, ht, hv⟩ => by
    subst he h1
    have hg := ht.gr.gr fun b ⟨o, ho, _⟩ => by simp at ho
    exact ⟨by rw [(readV_v.1 hv).2], hg⟩
theorem arr_read {ok : Nat → Prop} {w : World} {n : Nat} {l : List UInt8} (h : l.length = n) : ReadV ok w (.arr n l) (arrV l) := ⟨bvs l, by rw [Reads]; exact ⟨h, rfl⟩, rfl⟩
end E
end Go.Proofs.Ytdhicdnmgmkpkaa
