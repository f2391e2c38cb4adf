/-
  Merged (wip/tools/merge.py): RTB, SP1.
  Conditions: none.
-/
import Derived.Test.YtdhicdnmgmkpkaaGreatZB22
import Derived.Test.YtdhicdnmgmkpkaaGreatZB20
/-
  The reference's slots, SameChanges of one list.
  Conditions: none.
-/
namespace Go.Proofs.YtdhicdnmgmkpkaaGreat
set_option linter.unusedVariables false
open Go.RowKit Mono Rlp Wd
namespace E
set_option maxRecDepth 20000 in
set_option maxHeartbeats 16000000 in
theorem rslots_ (xs ys : PrL) (hx : xs.length ≤ 1000000) (hy : ys.length ≤ 1000000) : FnM 103 [.sl 64 (xs.map dSlL), .sl 64 (ys.map dSlL)] [] (fun r os' => r = .val (.sl 64 ((mgS xs ys).map dSlL)) ∧ os' = []) := by
  have hmx : (xs.map dSlL).length = xs.length := List.length_map _
  have hmy : (ys.map dSlL).length = ys.length := List.length_map _
  refine FnM.walk 103 Tryz.func103 rfl Tryz.ntmps103 (by simp) fun X => ?_
  repeat
    (first
     | (apply P_assign; (iterate 3 exact rfl)) | apply EL.nil | ((with_reducible apply EK.then_normal); apply EK.code)
     | (with_reducible first | apply EC.seq | apply EC.region | apply EC.skip | apply EC.label | apply EC.block | apply EC.exit | apply EC.ret | apply EK.in_normal | apply EK.in_same | apply EK.in_ret | apply EK.then_ret | apply EK.then_exit))
  refine EC.le (Le.row 103 64) ?_
  refine EC.loop (ι := {x : Nat × Nat × PrL × Value // x.1 ≤ xs.length ∧ x.2.1 ≤ ys.length ∧ x.2.2.1.length ≤ x.1 + x.2.1 ∧ mgS xs ys = x.2.2.1 ++ mgS (xs.drop x.1) (ys.drop x.2.1)})
    (fun x => ⟨[(6, .val (.v (.int .i64 (x.1.1 : Int)))), (7, .val (.v (.int .i64 (x.1.2.1 : Int)))), (5, .val (.v x.1.2.2.2)), (1, .val (.sl 64 (ys.map dSlL))), (0, .val (.sl 64 (xs.map dSlL)))], [.row x.1.2.2.2 103 64 (x.1.2.2.1.map dSlL)], []⟩)
    (fun x => (xs.length - x.1.1) + (ys.length - x.1.2.1)) ⟨(0, 0, [], nilS), Nat.zero_le _, Nat.zero_le _, Nat.le_refl _, rfl⟩ ?_ ?_
  · exact (Le.keep (by repeat first | exact trivial | refine ⟨rfl, ?_⟩) (by repeat first | exact List.nil_sublist _ | apply List.Sublist.cons_cons | apply List.Sublist.cons) (by simp))
  rintro ⟨⟨i, k, R, v⟩, hi, hk, hRl, hR⟩
  dsimp only at hi hk hRl hR ⊢
  have hmR : (R.map dSlL).length = R.length := List.length_map _
  by_cases hix : i < xs.length
  · have hdx : (xs.map dSlL)[i]? = some (dSlL xs[i]) := by rw [List.getElem?_map, List.getElem?_eq_getElem hix]; rfl
    by_cases hky : k < ys.length
    · have hdy : (ys.map dSlL)[k]? = some (dSlL ys[k]) := by rw [List.getElem?_map, List.getElem?_eq_getElem hky]; rfl
      have gx := fun h => mg_x (xs := xs) (ys := ys) (i := i) (k := k) hix (.inr ⟨hky, h⟩)
      have gy := fun h1 h2 => mg_y (xs := xs) (ys := ys) (i := i) (k := k) hky (.inr ⟨hix, h1, h2⟩)
      have ge := mg_e (xs := xs) (ys := ys) (i := i) (k := k) hix hky
      generalize xs[i] = x at hdx gx gy ge
      generalize ys[k] = y at hdy gx gy ge
      obtain ⟨xk, xv⟩ := x
      obtain ⟨yk, yv⟩ := y
      have f1 := f_rLess xk yk
      have f2 := f_rLess yk xk
      unfold dSlL at hdx hdy
      dsimp only at hdx hdy gx gy ge
      by_cases hlt : xk < yk
      · rw [lt_bl hlt] at f1
        rw [gx hlt] at hR
        repeat
          (first
           | (apply P_skip; (iterate 2 exact rfl)) | (apply P_move; (iterate 3 exact rfl)) | (apply P_pick; (iterate 4 exact rfl))
           | (apply P_cmp (b := true); (iterate 2 exact rfl); (focus (first | (simp [cmpI]; done) | (simp [cmpI]; omega))); (iterate 2 exact rfl)) | (apply P_lensl; (iterate 4 exact rfl)) | apply EL.nil
           | ((with_reducible apply EK.then_normal); apply EK.code) | (apply EC.cond_true; exact rfl)
           | (with_reducible first | apply EC.seq | apply EC.region | apply EC.skip | apply EC.label | apply EC.block | apply EC.exit | apply EC.ret | apply EK.in_normal | apply EK.in_same | apply EK.in_ret | apply EK.then_ret | apply EK.then_exit))
        refine EC.draw 24 (by kernel_rfl) ?_
        simp only [List.take_succ_cons, List.take_zero, List.drop_succ_cons, List.drop_zero]
        repeat
          (first
           | (apply H_call (f1); exact rfl; (focus (repeat first | exact RefineL.refl _ _ | exact RL.nil | exact Rf.same | exact Rf.bs0 | exact Rf.sl0 | (apply Rf.fact; (focus (simp; done)); exact rfl) | apply Rf.tup | apply RL.cons)); (focus (intro _ _; simp [go_sem]; done)); (iterate 2 exact rfl))
           | (apply H_move; (iterate 3 exact rfl)) | (apply H_assign; (iterate 3 exact rfl)) | (apply H_fieldpd; (iterate 7 exact rfl)) | (apply H_loadpd; (iterate 5 exact rfl))
           | (apply H_pick; (iterate 4 exact rfl)) | (apply H_cmp (b := true); (iterate 2 exact rfl); (focus (first | (simp [cmpI]; done) | (simp [cmpI]; omega))); (iterate 2 exact rfl))
           | (apply H_cmp (b := false); (iterate 2 exact rfl); (focus (first | (simp [cmpI]; done) | (simp [cmpI]; omega))); (iterate 2 exact rfl)) | (apply H_lensl; (iterate 4 exact rfl))
           | (apply H_index; (iterate 4 exact rfl); (focus (first | exact ⟨by decide, rfl⟩ | (refine ⟨by omega, ?_⟩; rw [Int.toNat_natCast]; assumption))); (iterate 2 exact rfl))
           | ((with_reducible apply EH.nil); exact rfl))
        repeat
          (first
           | (apply P_move; (iterate 3 exact rfl)) | (apply P_assign; (iterate 3 exact rfl)) | (apply P_fieldpd; (iterate 7 exact rfl)) | (apply P_loadpd; (iterate 5 exact rfl))
           | (apply P_ar; (iterate 3 exact rfl); (focus omega); (focus omega); (iterate 2 exact rfl))
           | (apply P_index; (iterate 4 exact rfl); (focus (first | exact ⟨by decide, rfl⟩ | (refine ⟨by omega, ?_⟩; rw [Int.toNat_natCast]; assumption))); (iterate 2 exact rfl))
           | (apply P_build; (iterate 7 exact rfl)) | (apply P_lit; (iterate 9 exact rfl))
           | ((apply P_append; exact rfl; (focus (repeat first | exact .z | apply SetAt.s | apply SetAtF.s)); (iterate 5 exact rfl); (focus (constructor <;> (first | (simp; done) | (simp; omega))))); intro _)
           | apply EL.nil | ((with_reducible apply EK.then_normal); apply EK.code) | (apply EC.cond_true; exact rfl)
           | (with_reducible first | apply EC.seq | apply EC.region | apply EC.skip | apply EC.label | apply EC.block | apply EC.exit | apply EC.ret | apply EK.in_normal | apply EK.in_same | apply EK.in_ret | apply EK.then_ret | apply EK.then_exit))
        rename_i v'
        refine EK.again ⟨(i + 1, k, R ++ [(xk, zero32)], v'), hix, hk, by simp; omega, by rw [hR]; simp⟩ (by dsimp only; omega) ?_
        dsimp only
        rw [List.map_append]
        simp only [Int.natCast_add]
        exact (Le.keep (by repeat first | exact trivial | refine ⟨rfl, ?_⟩) (by repeat first | exact List.nil_sublist _ | apply List.Sublist.cons_cons | apply List.Sublist.cons) (by simp))
      · rw [ge_bl hlt] at f1
        by_cases hgt : yk < xk
        · rw [lt_bl hgt] at f2
          rw [gy hlt hgt] at hR
          repeat
            (first
             | (apply P_skip; (iterate 2 exact rfl)) | (apply P_move; (iterate 3 exact rfl)) | (apply P_pick; (iterate 4 exact rfl))
             | (apply P_cmp (b := true); (iterate 2 exact rfl); (focus (first | (simp [cmpI]; done) | (simp [cmpI]; omega))); (iterate 2 exact rfl)) | (apply P_lensl; (iterate 4 exact rfl)) | apply EL.nil
             | ((with_reducible apply EK.then_normal); apply EK.code) | (apply EC.cond_true; exact rfl)
             | (with_reducible first | apply EC.seq | apply EC.region | apply EC.skip | apply EC.label | apply EC.block | apply EC.exit | apply EC.ret | apply EK.in_normal | apply EK.in_same | apply EK.in_ret | apply EK.then_ret | apply EK.then_exit))
          refine EC.draw 24 (by kernel_rfl) ?_
          simp only [List.take_succ_cons, List.take_zero, List.drop_succ_cons, List.drop_zero]
          repeat
            (first
             | (apply H_call (f1); exact rfl; (focus (repeat first | exact RefineL.refl _ _ | exact RL.nil | exact Rf.same | exact Rf.bs0 | exact Rf.sl0 | (apply Rf.fact; (focus (simp; done)); exact rfl) | apply Rf.tup | apply RL.cons)); (focus (intro _ _; simp [go_sem]; done)); (iterate 2 exact rfl))
             | (apply H_move; (iterate 3 exact rfl)) | (apply H_assign; (iterate 3 exact rfl)) | (apply H_fieldpd; (iterate 7 exact rfl)) | (apply H_loadpd; (iterate 5 exact rfl))
             | (apply H_pick; (iterate 4 exact rfl)) | (apply H_cmp (b := true); (iterate 2 exact rfl); (focus (first | (simp [cmpI]; done) | (simp [cmpI]; omega))); (iterate 2 exact rfl))
             | (apply H_cmp (b := false); (iterate 2 exact rfl); (focus (first | (simp [cmpI]; done) | (simp [cmpI]; omega))); (iterate 2 exact rfl)) | (apply H_lensl; (iterate 4 exact rfl))
             | (apply H_index; (iterate 4 exact rfl); (focus (first | exact ⟨by decide, rfl⟩ | (refine ⟨by omega, ?_⟩; rw [Int.toNat_natCast]; assumption))); (iterate 2 exact rfl))
             | ((with_reducible apply EH.nil); exact rfl))
          repeat
            (first
             | apply EL.nil | ((with_reducible apply EK.then_normal); apply EK.code) | (apply EC.cond_false; exact rfl)
             | (with_reducible first | apply EC.seq | apply EC.region | apply EC.skip | apply EC.label | apply EC.block | apply EC.exit | apply EC.ret | apply EK.in_normal | apply EK.in_same | apply EK.in_ret | apply EK.then_ret | apply EK.then_exit))
          refine EC.draw 18 (by kernel_rfl) ?_
          simp only [List.take_succ_cons, List.take_zero, List.drop_succ_cons, List.drop_zero]
          repeat
            (first
             | (apply H_call (f2); exact rfl; (focus (repeat first | exact RefineL.refl _ _ | exact RL.nil | exact Rf.same | exact Rf.bs0 | exact Rf.sl0 | (apply Rf.fact; (focus (simp; done)); exact rfl) | apply Rf.tup | apply RL.cons)); (focus (intro _ _; simp [go_sem]; done)); (iterate 2 exact rfl))
             | (apply H_move; (iterate 3 exact rfl)) | (apply H_assign; (iterate 3 exact rfl)) | (apply H_fieldpd; (iterate 7 exact rfl)) | (apply H_loadpd; (iterate 5 exact rfl))
             | (apply H_pick; (iterate 4 exact rfl)) | (apply H_cmp (b := false); (iterate 2 exact rfl); (focus (first | (simp [cmpI]; done) | (simp [cmpI]; omega))); (iterate 2 exact rfl))
             | (apply H_lensl; (iterate 4 exact rfl))
             | (apply H_index; (iterate 4 exact rfl); (focus (first | exact ⟨by decide, rfl⟩ | (refine ⟨by omega, ?_⟩; rw [Int.toNat_natCast]; assumption))); (iterate 2 exact rfl))
             | ((with_reducible apply EH.nil); exact rfl))
          repeat
            (first
             | (apply P_move; (iterate 3 exact rfl)) | (apply P_assign; (iterate 3 exact rfl)) | (apply P_loadpd; (iterate 5 exact rfl))
             | (apply P_ar; (iterate 3 exact rfl); (focus omega); (focus omega); (iterate 2 exact rfl))
             | (apply P_index; (iterate 4 exact rfl); (focus (first | exact ⟨by decide, rfl⟩ | (refine ⟨by omega, ?_⟩; rw [Int.toNat_natCast]; assumption))); (iterate 2 exact rfl))
             | (apply P_lit; (iterate 9 exact rfl))
             | ((apply P_append; exact rfl; (focus (repeat first | exact .z | apply SetAt.s | apply SetAtF.s)); (iterate 5 exact rfl); (focus (constructor <;> (first | (simp; done) | (simp; omega))))); intro _)
             | apply EL.nil | ((with_reducible apply EK.then_normal); apply EK.code) | (apply EC.cond_true; exact rfl)
             | (with_reducible first | apply EC.seq | apply EC.region | apply EC.skip | apply EC.label | apply EC.block | apply EC.exit | apply EC.ret | apply EK.in_normal | apply EK.in_same | apply EK.in_ret | apply EK.then_ret | apply EK.then_exit))
          rename_i v'
          refine EK.again ⟨(i, k + 1, R ++ [(yk, yv)], v'), hi, hky, by simp; omega, by rw [hR]; simp⟩ (by dsimp only; omega) ?_
          dsimp only
          rw [List.map_append]
          simp only [Int.natCast_add]
          exact (Le.keep (by repeat first | exact trivial | refine ⟨rfl, ?_⟩) (by repeat first | exact List.nil_sublist _ | apply List.Sublist.cons_cons | apply List.Sublist.cons) (by simp))
        · rw [ge_bl hgt] at f2
          rw [ge hlt hgt] at hR
          have hb := (bin_word xv yv).2
          by_cases hne : xv = yv
          · rw [show (xv != yv) = false by simp [hne]] at hb
            rw [if_neg (by simpa using hne)] at hR
            repeat
              (first
               | (apply P_skip; (iterate 2 exact rfl)) | (apply P_move; (iterate 3 exact rfl)) | (apply P_pick; (iterate 4 exact rfl))
               | (apply P_cmp (b := true); (iterate 2 exact rfl); (focus (first | (simp [cmpI]; done) | (simp [cmpI]; omega))); (iterate 2 exact rfl)) | (apply P_lensl; (iterate 4 exact rfl)) | apply EL.nil
               | ((with_reducible apply EK.then_normal); apply EK.code) | (apply EC.cond_true; exact rfl)
               | (with_reducible first | apply EC.seq | apply EC.region | apply EC.skip | apply EC.label | apply EC.block | apply EC.exit | apply EC.ret | apply EK.in_normal | apply EK.in_same | apply EK.in_ret | apply EK.then_ret | apply EK.then_exit))
            refine EC.draw 24 (by kernel_rfl) ?_
            simp only [List.take_succ_cons, List.take_zero, List.drop_succ_cons, List.drop_zero]
            repeat
              (first
               | (apply H_call (f1); exact rfl; (focus (repeat first | exact RefineL.refl _ _ | exact RL.nil | exact Rf.same | exact Rf.bs0 | exact Rf.sl0 | (apply Rf.fact; (focus (simp; done)); exact rfl) | apply Rf.tup | apply RL.cons)); (focus (intro _ _; simp [go_sem]; done)); (iterate 2 exact rfl))
               | (apply H_move; (iterate 3 exact rfl)) | (apply H_assign; (iterate 3 exact rfl)) | (apply H_fieldpd; (iterate 7 exact rfl)) | (apply H_loadpd; (iterate 5 exact rfl))
               | (apply H_pick; (iterate 4 exact rfl)) | (apply H_cmp (b := true); (iterate 2 exact rfl); (focus (first | (simp [cmpI]; done) | (simp [cmpI]; omega))); (iterate 2 exact rfl))
               | (apply H_cmp (b := false); (iterate 2 exact rfl); (focus (first | (simp [cmpI]; done) | (simp [cmpI]; omega))); (iterate 2 exact rfl)) | (apply H_lensl; (iterate 4 exact rfl))
               | (apply H_index; (iterate 4 exact rfl); (focus (first | exact ⟨by decide, rfl⟩ | (refine ⟨by omega, ?_⟩; rw [Int.toNat_natCast]; assumption))); (iterate 2 exact rfl))
               | ((with_reducible apply EH.nil); exact rfl))
            repeat
              (first
               | apply EL.nil | ((with_reducible apply EK.then_normal); apply EK.code) | (apply EC.cond_false; exact rfl)
               | (with_reducible first | apply EC.seq | apply EC.region | apply EC.skip | apply EC.label | apply EC.block | apply EC.exit | apply EC.ret | apply EK.in_normal | apply EK.in_same | apply EK.in_ret | apply EK.then_ret | apply EK.then_exit))
            refine EC.draw 18 (by kernel_rfl) ?_
            simp only [List.take_succ_cons, List.take_zero, List.drop_succ_cons, List.drop_zero]
            repeat
              (first
               | (apply H_call (f2); exact rfl; (focus (repeat first | exact RefineL.refl _ _ | exact RL.nil | exact Rf.same | exact Rf.bs0 | exact Rf.sl0 | (apply Rf.fact; (focus (simp; done)); exact rfl) | apply Rf.tup | apply RL.cons)); (focus (intro _ _; simp [go_sem]; done)); (iterate 2 exact rfl))
               | (apply H_move; (iterate 3 exact rfl)) | (apply H_assign; (iterate 3 exact rfl)) | (apply H_fieldpd; (iterate 7 exact rfl)) | (apply H_loadpd; (iterate 5 exact rfl))
               | (apply H_pick; (iterate 4 exact rfl)) | (apply H_cmp (b := false); (iterate 2 exact rfl); (focus (first | (simp [cmpI]; done) | (simp [cmpI]; omega))); (iterate 2 exact rfl))
               | (apply H_lensl; (iterate 4 exact rfl))
               | (apply H_index; (iterate 4 exact rfl); (focus (first | exact ⟨by decide, rfl⟩ | (refine ⟨by omega, ?_⟩; rw [Int.toNat_natCast]; assumption))); (iterate 2 exact rfl))
               | ((with_reducible apply EH.nil); exact rfl))
            repeat
              (first
               | apply EL.nil | ((with_reducible apply EK.then_normal); apply EK.code) | (apply EC.cond_false; exact rfl)
               | (with_reducible first | apply EC.seq | apply EC.region | apply EC.skip | apply EC.label | apply EC.block | apply EC.exit | apply EC.ret | apply EK.in_normal | apply EK.in_same | apply EK.in_ret | apply EK.then_ret | apply EK.then_exit))
            refine EC.draw 11 (by kernel_rfl) ?_
            simp only [List.take_succ_cons, List.take_zero, List.drop_succ_cons, List.drop_zero]
            repeat
              (first
               | (apply H_bin; (iterate 2 exact rfl); exact hb; (iterate 2 exact rfl)) | (apply H_move; (iterate 3 exact rfl)) | (apply H_fieldpd; (iterate 7 exact rfl)) | (apply H_loadpd; (iterate 5 exact rfl))
               | (apply H_index; (iterate 4 exact rfl); (focus (first | exact ⟨by decide, rfl⟩ | (refine ⟨by omega, ?_⟩; rw [Int.toNat_natCast]; assumption))); (iterate 2 exact rfl))
               | ((with_reducible apply EH.nil); exact rfl))
            repeat
              (first
               | (apply P_move; (iterate 3 exact rfl)) | (apply P_assign; (iterate 3 exact rfl)) | (apply P_ar; (iterate 3 exact rfl); (focus omega); (focus omega); (iterate 2 exact rfl)) | apply EL.nil
               | ((with_reducible apply EK.then_normal); apply EK.code) | (apply EC.cond_false; exact rfl)
               | (with_reducible first | apply EC.seq | apply EC.region | apply EC.skip | apply EC.label | apply EC.block | apply EC.exit | apply EC.ret | apply EK.in_normal | apply EK.in_same | apply EK.in_ret | apply EK.then_ret | apply EK.then_exit))
            refine EK.again ⟨(i + 1, k + 1, R, v), hix, hky, by dsimp only; omega, by rw [hR]; rfl⟩ (by dsimp only; omega) ?_
            simp only [Int.natCast_add]
            exact (Le.keep (by repeat first | exact trivial | refine ⟨rfl, ?_⟩) (by repeat first | exact List.nil_sublist _ | apply List.Sublist.cons_cons | apply List.Sublist.cons) (by simp))
          · rw [show (xv != yv) = true by simpa using hne] at hb
            rw [if_pos hne] at hR
            repeat
              (first
               | (apply P_skip; (iterate 2 exact rfl)) | (apply P_move; (iterate 3 exact rfl)) | (apply P_pick; (iterate 4 exact rfl))
               | (apply P_cmp (b := true); (iterate 2 exact rfl); (focus (first | (simp [cmpI]; done) | (simp [cmpI]; omega))); (iterate 2 exact rfl)) | (apply P_lensl; (iterate 4 exact rfl)) | apply EL.nil
               | ((with_reducible apply EK.then_normal); apply EK.code) | (apply EC.cond_true; exact rfl)
               | (with_reducible first | apply EC.seq | apply EC.region | apply EC.skip | apply EC.label | apply EC.block | apply EC.exit | apply EC.ret | apply EK.in_normal | apply EK.in_same | apply EK.in_ret | apply EK.then_ret | apply EK.then_exit))
            refine EC.draw 24 (by kernel_rfl) ?_
            simp only [List.take_succ_cons, List.take_zero, List.drop_succ_cons, List.drop_zero]
            repeat
              (first
               | (apply H_call (f1); exact rfl; (focus (repeat first | exact RefineL.refl _ _ | exact RL.nil | exact Rf.same | exact Rf.bs0 | exact Rf.sl0 | (apply Rf.fact; (focus (simp; done)); exact rfl) | apply Rf.tup | apply RL.cons)); (focus (intro _ _; simp [go_sem]; done)); (iterate 2 exact rfl))
               | (apply H_move; (iterate 3 exact rfl)) | (apply H_assign; (iterate 3 exact rfl)) | (apply H_fieldpd; (iterate 7 exact rfl)) | (apply H_loadpd; (iterate 5 exact rfl))
               | (apply H_pick; (iterate 4 exact rfl)) | (apply H_cmp (b := true); (iterate 2 exact rfl); (focus (first | (simp [cmpI]; done) | (simp [cmpI]; omega))); (iterate 2 exact rfl))
               | (apply H_cmp (b := false); (iterate 2 exact rfl); (focus (first | (simp [cmpI]; done) | (simp [cmpI]; omega))); (iterate 2 exact rfl)) | (apply H_lensl; (iterate 4 exact rfl))
               | (apply H_index; (iterate 4 exact rfl); (focus (first | exact ⟨by decide, rfl⟩ | (refine ⟨by omega, ?_⟩; rw [Int.toNat_natCast]; assumption))); (iterate 2 exact rfl))
               | ((with_reducible apply EH.nil); exact rfl))
            repeat
              (first
               | apply EL.nil | ((with_reducible apply EK.then_normal); apply EK.code) | (apply EC.cond_false; exact rfl)
               | (with_reducible first | apply EC.seq | apply EC.region | apply EC.skip | apply EC.label | apply EC.block | apply EC.exit | apply EC.ret | apply EK.in_normal | apply EK.in_same | apply EK.in_ret | apply EK.then_ret | apply EK.then_exit))
            refine EC.draw 18 (by kernel_rfl) ?_
            simp only [List.take_succ_cons, List.take_zero, List.drop_succ_cons, List.drop_zero]
            repeat
              (first
               | (apply H_call (f2); exact rfl; (focus (repeat first | exact RefineL.refl _ _ | exact RL.nil | exact Rf.same | exact Rf.bs0 | exact Rf.sl0 | (apply Rf.fact; (focus (simp; done)); exact rfl) | apply Rf.tup | apply RL.cons)); (focus (intro _ _; simp [go_sem]; done)); (iterate 2 exact rfl))
               | (apply H_move; (iterate 3 exact rfl)) | (apply H_assign; (iterate 3 exact rfl)) | (apply H_fieldpd; (iterate 7 exact rfl)) | (apply H_loadpd; (iterate 5 exact rfl))
               | (apply H_pick; (iterate 4 exact rfl)) | (apply H_cmp (b := false); (iterate 2 exact rfl); (focus (first | (simp [cmpI]; done) | (simp [cmpI]; omega))); (iterate 2 exact rfl))
               | (apply H_lensl; (iterate 4 exact rfl))
               | (apply H_index; (iterate 4 exact rfl); (focus (first | exact ⟨by decide, rfl⟩ | (refine ⟨by omega, ?_⟩; rw [Int.toNat_natCast]; assumption))); (iterate 2 exact rfl))
               | ((with_reducible apply EH.nil); exact rfl))
            repeat
              (first
               | apply EL.nil | ((with_reducible apply EK.then_normal); apply EK.code) | (apply EC.cond_false; exact rfl)
               | (with_reducible first | apply EC.seq | apply EC.region | apply EC.skip | apply EC.label | apply EC.block | apply EC.exit | apply EC.ret | apply EK.in_normal | apply EK.in_same | apply EK.in_ret | apply EK.then_ret | apply EK.then_exit))
            refine EC.draw 11 (by kernel_rfl) ?_
            simp only [List.take_succ_cons, List.take_zero, List.drop_succ_cons, List.drop_zero]
            repeat
              (first
               | (apply H_bin; (iterate 2 exact rfl); exact hb; (iterate 2 exact rfl)) | (apply H_move; (iterate 3 exact rfl)) | (apply H_fieldpd; (iterate 7 exact rfl)) | (apply H_loadpd; (iterate 5 exact rfl))
               | (apply H_index; (iterate 4 exact rfl); (focus (first | exact ⟨by decide, rfl⟩ | (refine ⟨by omega, ?_⟩; rw [Int.toNat_natCast]; assumption))); (iterate 2 exact rfl))
               | ((with_reducible apply EH.nil); exact rfl))
            repeat
              (first
               | (apply P_move; (iterate 3 exact rfl)) | (apply P_assign; (iterate 3 exact rfl)) | (apply P_loadpd; (iterate 5 exact rfl))
               | (apply P_ar; (iterate 3 exact rfl); (focus omega); (focus omega); (iterate 2 exact rfl))
               | (apply P_index; (iterate 4 exact rfl); (focus (first | exact ⟨by decide, rfl⟩ | (refine ⟨by omega, ?_⟩; rw [Int.toNat_natCast]; assumption))); (iterate 2 exact rfl))
               | (apply P_lit; (iterate 9 exact rfl))
               | ((apply P_append; exact rfl; (focus (repeat first | exact .z | apply SetAt.s | apply SetAtF.s)); (iterate 5 exact rfl); (focus (constructor <;> (first | (simp; done) | (simp; omega))))); intro _)
               | apply EL.nil | ((with_reducible apply EK.then_normal); apply EK.code) | (apply EC.cond_true; exact rfl)
               | (with_reducible first | apply EC.seq | apply EC.region | apply EC.skip | apply EC.label | apply EC.block | apply EC.exit | apply EC.ret | apply EK.in_normal | apply EK.in_same | apply EK.in_ret | apply EK.then_ret | apply EK.then_exit))
            rename_i v'
            refine EK.again ⟨(i + 1, k + 1, R ++ [(yk, yv)], v'), hix, hky, by simp; omega, by rw [hR]; simp⟩ (by dsimp only; omega) ?_
            dsimp only
            rw [List.map_append]
            simp only [Int.natCast_add]
            exact (Le.keep (by repeat first | exact trivial | refine ⟨rfl, ?_⟩) (by repeat first | exact List.nil_sublist _ | apply List.Sublist.cons_cons | apply List.Sublist.cons) (by simp))
    · have hkE : k = ys.length := by omega
      have gx := mg_x (xs := xs) (ys := ys) (i := i) (k := k) hix (.inl hkE)
      rw [gx] at hR
      clear gx
      generalize xs[i] = x at hdx hR
      obtain ⟨xk, xv⟩ := x
      unfold dSlL at hdx
      dsimp only at hdx hR
      repeat
        (first
         | (apply P_skip; (iterate 2 exact rfl)) | (apply P_move; (iterate 3 exact rfl)) | (apply P_pick; (iterate 4 exact rfl))
         | (apply P_cmp (b := true); (iterate 2 exact rfl); (focus (first | (simp [cmpI]; done) | (simp [cmpI]; omega))); (iterate 2 exact rfl)) | (apply P_lensl; (iterate 4 exact rfl)) | apply EL.nil
         | ((with_reducible apply EK.then_normal); apply EK.code) | (apply EC.cond_true; exact rfl)
         | (with_reducible first | apply EC.seq | apply EC.region | apply EC.skip | apply EC.label | apply EC.block | apply EC.exit | apply EC.ret | apply EK.in_normal | apply EK.in_same | apply EK.in_ret | apply EK.then_ret | apply EK.then_exit))
      refine EC.draw 24 (by kernel_rfl) ?_
      simp only [List.take_succ_cons, List.take_zero, List.drop_succ_cons, List.drop_zero]
      repeat
        (first
         | (apply H_skip; (iterate 2 exact rfl)) | (apply H_move; (iterate 3 exact rfl)) | (apply H_assign; (iterate 3 exact rfl)) | (apply H_pick; (iterate 4 exact rfl))
         | (apply H_cmp (b := true); (iterate 2 exact rfl); (focus (first | (simp [cmpI]; done) | (simp [cmpI]; omega))); (iterate 2 exact rfl)) | (apply H_lensl; (iterate 4 exact rfl))
         | ((with_reducible apply EH.nil); exact rfl))
      repeat
        (first
         | (apply P_move; (iterate 3 exact rfl)) | (apply P_assign; (iterate 3 exact rfl)) | (apply P_fieldpd; (iterate 7 exact rfl)) | (apply P_loadpd; (iterate 5 exact rfl))
         | (apply P_ar; (iterate 3 exact rfl); (focus omega); (focus omega); (iterate 2 exact rfl))
         | (apply P_index; (iterate 4 exact rfl); (focus (first | exact ⟨by decide, rfl⟩ | (refine ⟨by omega, ?_⟩; rw [Int.toNat_natCast]; assumption))); (iterate 2 exact rfl))
         | (apply P_build; (iterate 7 exact rfl)) | (apply P_lit; (iterate 9 exact rfl))
         | ((apply P_append; exact rfl; (focus (repeat first | exact .z | apply SetAt.s | apply SetAtF.s)); (iterate 5 exact rfl); (focus (constructor <;> (first | (simp; done) | (simp; omega))))); intro _)
         | apply EL.nil | ((with_reducible apply EK.then_normal); apply EK.code) | (apply EC.cond_true; exact rfl)
         | (with_reducible first | apply EC.seq | apply EC.region | apply EC.skip | apply EC.label | apply EC.block | apply EC.exit | apply EC.ret | apply EK.in_normal | apply EK.in_same | apply EK.in_ret | apply EK.then_ret | apply EK.then_exit))
      rename_i v'
      refine EK.again ⟨(i + 1, k, R ++ [(xk, zero32)], v'), hix, hk, by simp; omega, by rw [hR]; simp⟩ (by dsimp only; omega) ?_
      dsimp only
      rw [List.map_append]
      simp only [Int.natCast_add]
      exact (Le.keep (by repeat first | exact trivial | refine ⟨rfl, ?_⟩) (by repeat first | exact List.nil_sublist _ | apply List.Sublist.cons_cons | apply List.Sublist.cons) (by simp))
  · have hiE : i = xs.length := by omega
    by_cases hky : k < ys.length
    · have hdy : (ys.map dSlL)[k]? = some (dSlL ys[k]) := by rw [List.getElem?_map, List.getElem?_eq_getElem hky]; rfl
      have gy := mg_y (xs := xs) (ys := ys) (i := i) (k := k) hky (.inl hiE)
      rw [gy] at hR
      clear gy
      generalize ys[k] = y at hdy hR
      obtain ⟨yk, yv⟩ := y
      unfold dSlL at hdy
      dsimp only at hdy hR
      repeat
        (first
         | (apply P_move; (iterate 3 exact rfl)) | (apply P_pick; (iterate 4 exact rfl))
         | (apply P_cmp (b := true); (iterate 2 exact rfl); (focus (first | (simp [cmpI]; done) | (simp [cmpI]; omega))); (iterate 2 exact rfl))
         | (apply P_cmp (b := false); (iterate 2 exact rfl); (focus (first | (simp [cmpI]; done) | (simp [cmpI]; omega))); (iterate 2 exact rfl)) | (apply P_lensl; (iterate 4 exact rfl)) | apply EL.nil
         | ((with_reducible apply EK.then_normal); apply EK.code) | (apply EC.cond_true; exact rfl)
         | (with_reducible first | apply EC.seq | apply EC.region | apply EC.skip | apply EC.label | apply EC.block | apply EC.exit | apply EC.ret | apply EK.in_normal | apply EK.in_same | apply EK.in_ret | apply EK.then_ret | apply EK.then_exit))
      refine EC.draw 24 (by kernel_rfl) ?_
      simp only [List.take_succ_cons, List.take_zero, List.drop_succ_cons, List.drop_zero]
      repeat
        (first
         | (apply H_skip; (iterate 2 exact rfl)) | (apply H_move; (iterate 3 exact rfl)) | (apply H_assign; (iterate 3 exact rfl)) | (apply H_pick; (iterate 4 exact rfl))
         | (apply H_cmp (b := false); (iterate 2 exact rfl); (focus (first | (simp [cmpI]; done) | (simp [cmpI]; omega))); (iterate 2 exact rfl)) | (apply H_lensl; (iterate 4 exact rfl))
         | ((with_reducible apply EH.nil); exact rfl))
      repeat
        (first
         | apply EL.nil | ((with_reducible apply EK.then_normal); apply EK.code) | (apply EC.cond_false; exact rfl)
         | (with_reducible first | apply EC.seq | apply EC.region | apply EC.skip | apply EC.label | apply EC.block | apply EC.exit | apply EC.ret | apply EK.in_normal | apply EK.in_same | apply EK.in_ret | apply EK.then_ret | apply EK.then_exit))
      refine EC.draw 18 (by kernel_rfl) ?_
      simp only [List.take_succ_cons, List.take_zero, List.drop_succ_cons, List.drop_zero]
      repeat
        (first
         | (apply H_skip; (iterate 2 exact rfl)) | (apply H_move; (iterate 3 exact rfl)) | (apply H_assign; (iterate 3 exact rfl)) | (apply H_pick; (iterate 4 exact rfl))
         | (apply H_cmp (b := true); (iterate 2 exact rfl); (focus (first | (simp [cmpI]; done) | (simp [cmpI]; omega))); (iterate 2 exact rfl)) | (apply H_lensl; (iterate 4 exact rfl))
         | ((with_reducible apply EH.nil); exact rfl))
      repeat
        (first
         | (apply P_move; (iterate 3 exact rfl)) | (apply P_assign; (iterate 3 exact rfl)) | (apply P_loadpd; (iterate 5 exact rfl))
         | (apply P_ar; (iterate 3 exact rfl); (focus omega); (focus omega); (iterate 2 exact rfl))
         | (apply P_index; (iterate 4 exact rfl); (focus (first | exact ⟨by decide, rfl⟩ | (refine ⟨by omega, ?_⟩; rw [Int.toNat_natCast]; assumption))); (iterate 2 exact rfl))
         | (apply P_lit; (iterate 9 exact rfl))
         | ((apply P_append; exact rfl; (focus (repeat first | exact .z | apply SetAt.s | apply SetAtF.s)); (iterate 5 exact rfl); (focus (constructor <;> (first | (simp; done) | (simp; omega))))); intro _)
         | apply EL.nil | ((with_reducible apply EK.then_normal); apply EK.code) | (apply EC.cond_true; exact rfl)
         | (with_reducible first | apply EC.seq | apply EC.region | apply EC.skip | apply EC.label | apply EC.block | apply EC.exit | apply EC.ret | apply EK.in_normal | apply EK.in_same | apply EK.in_ret | apply EK.then_ret | apply EK.then_exit))
      rename_i v'
      refine EK.again ⟨(i, k + 1, R ++ [(yk, yv)], v'), hi, hky, by simp; omega, by rw [hR]; simp⟩ (by dsimp only; omega) ?_
      dsimp only
      rw [List.map_append]
      simp only [Int.natCast_add]
      exact (Le.keep (by repeat first | exact trivial | refine ⟨rfl, ?_⟩) (by repeat first | exact List.nil_sublist _ | apply List.Sublist.cons_cons | apply List.Sublist.cons) (by simp))
    · have hkE : k = ys.length := by omega
      rw [hiE, hkE, List.drop_length, List.drop_length, mg_nil [] [] rfl rfl, List.append_nil] at hR
      repeat
        (first
         | (apply P_move; (iterate 3 exact rfl)) | (apply P_assign; (iterate 3 exact rfl)) | (apply P_pick; (iterate 4 exact rfl))
         | (apply P_cmp (b := false); (iterate 2 exact rfl); (focus (first | (simp [cmpI]; done) | (simp [cmpI]; omega))); (iterate 2 exact rfl)) | (apply P_lensl; (iterate 4 exact rfl)) | apply EL.nil
         | ((with_reducible apply EK.then_normal); apply EK.code) | (apply EC.cond_false; exact rfl)
         | (with_reducible first | apply EC.seq | apply EC.region | apply EC.skip | apply EC.label | apply EC.block | apply EC.exit | apply EC.ret | apply EK.in_normal | apply EK.in_same | apply EK.in_ret | apply EK.then_ret | apply EK.then_exit))
      refine EK.le (Le.freeze (pre := []) rfl) ?_
      exact EK.retM1k [] rfl rfl (RL.cons (Rf.fact List.mem_cons_self rfl) RL.nil) (List.nil_sublist _) ⟨by rw [hR], rfl⟩
set_option maxRecDepth 20000 in
set_option maxHeartbeats 16000000 in
theorem f_sameChanges (l : List ChL) (hl : l.length ≤ 1099511627776) (hx : ∀ x ∈ l, x.sl.length ≤ 1099511627776) : Fn 45 [.sl 56 (l.map dChL), .sl 56 (l.map dChL)] (· = .val (.v (.bool true))) := by
  have hml : (l.map dChL).length = l.length := List.length_map _
  refine Fn.walk 88 Tryz.func45 rfl Tryz.ntmps45 (by simp) fun X => ?_
  repeat
    (first
     | (apply P_move; (iterate 3 exact rfl)) | (apply P_assign; (iterate 3 exact rfl))
     | (apply P_cmp (b := false); (iterate 2 exact rfl); (focus (first | (simp [cmpI]; done) | (simp [cmpI]; omega))); (iterate 2 exact rfl)) | (apply P_lensl; (iterate 4 exact rfl)) | apply EL.nil
     | ((with_reducible apply EK.then_normal); apply EK.code) | (apply EC.cond_false; exact rfl)
     | (with_reducible first | apply EC.seq | apply EC.region | apply EC.skip | apply EC.label | apply EC.block | apply EC.exit | apply EC.ret | apply EK.in_normal | apply EK.in_same | apply EK.in_ret | apply EK.then_ret | apply EK.then_exit))
  refine EC.loop (ι := {k : Nat // k ≤ l.length})
    (fun k => ⟨[(5, .val (.v (.int .i64 (k.1 : Int)))), (0, .val (.sl 56 (l.map dChL))), (1, .val (.sl 56 (l.map dChL)))], [], []⟩)
    (fun k => l.length - k.1) ⟨0, by omega⟩ ?_ ?_
  · exact (Le.keep (by repeat first | exact trivial | refine ⟨rfl, ?_⟩) (by repeat first | exact List.nil_sublist _ | apply List.Sublist.cons_cons | apply List.Sublist.cons) (by simp))
  rintro ⟨k, hk⟩
  dsimp only at hk ⊢
  by_cases hlt : k < l.length
  · have hd : (l.map dChL)[k]? = some (dChL l[k]) := by rw [List.getElem?_map, List.getElem?_eq_getElem hlt]; rfl
    have hs := hx _ (List.getElem_mem hlt)
    generalize l[k] = x at hd hs
    obtain ⟨ca, cg, cn, cw, cc, cs⟩ := x
    have hc := f_sameAccount ⟨ca, cn, cw, cc, cs⟩ hs
    have hb := (bin_bool cg cg).2
    rw [bne_self_eq_false] at hb
    unfold dChL at hd
    unfold dAcL at hc
    dsimp only at hd hc
    repeat
      (first
       | (apply P_move; (iterate 3 exact rfl)) | (apply P_cmp (b := true); (iterate 2 exact rfl); (focus (first | (simp [cmpI]; done) | (simp [cmpI]; omega))); (iterate 2 exact rfl))
       | (apply P_lensl; (iterate 4 exact rfl)) | apply EL.nil | ((with_reducible apply EK.then_normal); apply EK.code) | (apply EC.cond_true; exact rfl)
       | (with_reducible first | apply EC.seq | apply EC.region | apply EC.skip | apply EC.label | apply EC.block | apply EC.exit | apply EC.ret | apply EK.in_normal | apply EK.in_same | apply EK.in_ret | apply EK.then_ret | apply EK.then_exit))
    refine EC.draw 27 (by kernel_rfl) ?_
    simp only [List.take_succ_cons, List.take_zero, List.drop_succ_cons, List.drop_zero]
    repeat
      (first
       | (apply H_move; (iterate 3 exact rfl)) | (apply H_fieldpd; (iterate 7 exact rfl)) | (apply H_loadpd; (iterate 5 exact rfl))
       | (apply H_index; (iterate 4 exact rfl); (focus (first | exact ⟨by decide, rfl⟩ | (refine ⟨by omega, ?_⟩; rw [Int.toNat_natCast]; assumption))); (iterate 2 exact rfl))
       | (apply H_build; (iterate 7 exact rfl)) | (apply H_alloc; (iterate 3 exact rfl)) | ((with_reducible apply EH.nil1); exact rfl; intro _))
    repeat
      (first
       | (apply P_store; exact rfl; (focus (repeat first | exact .z | apply SetAt.s | apply SetAtF.s)); (iterate 4 exact rfl)) | apply EL.nil | ((with_reducible apply EK.then_normal); apply EK.code)
       | (with_reducible first | apply EC.seq | apply EC.region | apply EC.skip | apply EC.label | apply EC.block | apply EC.exit | apply EC.ret | apply EK.in_normal | apply EK.in_same | apply EK.in_ret | apply EK.then_ret | apply EK.then_exit))
    refine EC.draw 27 (by kernel_rfl) ?_
    simp only [List.take_succ_cons, List.take_zero, List.drop_succ_cons, List.drop_zero]
    repeat
      (first
       | (apply H_move; (iterate 3 exact rfl)) | (apply H_fieldpd; (iterate 7 exact rfl)) | (apply H_loadpd; (iterate 5 exact rfl))
       | (apply H_index; (iterate 4 exact rfl); (focus (first | exact ⟨by decide, rfl⟩ | (refine ⟨by omega, ?_⟩; rw [Int.toNat_natCast]; assumption))); (iterate 2 exact rfl))
       | (apply H_build; (iterate 7 exact rfl)) | (apply H_alloc; (iterate 3 exact rfl)) | ((with_reducible apply EH.nil1); exact rfl; intro _))
    repeat
      (first
       | (apply P_store; exact rfl; (focus (repeat first | exact .z | apply SetAt.s | apply SetAtF.s)); (iterate 4 exact rfl)) | apply EL.nil | ((with_reducible apply EK.then_normal); apply EK.code)
       | (with_reducible first | apply EC.seq | apply EC.region | apply EC.skip | apply EC.label | apply EC.block | apply EC.exit | apply EC.ret | apply EK.in_normal | apply EK.in_same | apply EK.in_ret | apply EK.then_ret | apply EK.then_exit))
    refine EC.draw 17 (by kernel_rfl) ?_
    simp only [List.take_succ_cons, List.take_zero, List.drop_succ_cons, List.drop_zero]
    repeat
      (first
       | (apply H_call (hc); exact rfl; (focus (repeat first | exact RefineL.refl _ _ | exact RL.nil | exact Rf.same | exact Rf.bs0 | exact Rf.sl0 | (apply Rf.fact; (focus (simp; done)); exact rfl) | apply Rf.tup | apply RL.cons)); (focus (intro _ _; simp [go_sem]; done)); (iterate 2 exact rfl))
       | (apply H_bin; (iterate 2 exact rfl); exact hb; (iterate 2 exact rfl)) | (apply H_move; (iterate 3 exact rfl)) | (apply H_fieldpd; (iterate 7 exact rfl)) | (apply H_loadpd; (iterate 5 exact rfl))
       | (apply H_pick; (iterate 4 exact rfl)) | (apply H_not; (iterate 3 exact rfl))
       | (apply H_load; exact rfl; (first | exact I0 | exact I1 | exact I2 | exact I3 | exact I4 | exact I5 | exact I6); (iterate 4 exact rfl))
       | (apply H_index; (iterate 4 exact rfl); (focus (first | exact ⟨by decide, rfl⟩ | (refine ⟨by omega, ?_⟩; rw [Int.toNat_natCast]; assumption))); (iterate 2 exact rfl))
       | ((with_reducible apply EH.nil); exact rfl))
    repeat
      (first
       | (apply P_move; (iterate 3 exact rfl)) | (apply P_assign; (iterate 3 exact rfl)) | (apply P_ar; (iterate 3 exact rfl); (focus omega); (focus omega); (iterate 2 exact rfl)) | apply EL.nil
       | ((with_reducible apply EK.then_normal); apply EK.code) | (apply EC.cond_false; exact rfl)
       | (with_reducible first | apply EC.seq | apply EC.region | apply EC.skip | apply EC.label | apply EC.block | apply EC.exit | apply EC.ret | apply EK.in_normal | apply EK.in_same | apply EK.in_ret | apply EK.then_ret | apply EK.then_exit))
    refine EK.again ⟨k + 1, hlt⟩ (by dsimp only; omega) ?_
    simp only [Int.natCast_add]
    exact (Le.keep (by repeat first | exact trivial | refine ⟨rfl, ?_⟩) (by repeat first | exact List.nil_sublist _ | apply List.Sublist.cons_cons | apply List.Sublist.cons) (by simp))
  · skip
    repeat
      (first
       | (apply P_move; (iterate 3 exact rfl)) | (apply P_assign; (iterate 3 exact rfl))
       | (apply P_cmp (b := false); (iterate 2 exact rfl); (focus (first | (simp [cmpI]; done) | (simp [cmpI]; omega))); (iterate 2 exact rfl)) | (apply P_lensl; (iterate 4 exact rfl)) | apply EL.nil
       | ((with_reducible apply EK.then_normal); apply EK.code) | (apply EC.cond_false; exact rfl)
       | (with_reducible first | apply EC.seq | apply EC.region | apply EC.skip | apply EC.label | apply EC.block | apply EC.exit | apply EC.ret | apply EK.in_normal | apply EK.in_same | apply EK.in_ret | apply EK.then_ret | apply EK.then_exit))
    exact EK.ret1 rfl rfl rfl
end E
end Go.Proofs.YtdhicdnmgmkpkaaGreat
/-
  Between two states: the one list of changes, and that it makes the one of the other (plain law).
  Conditions: none.
-/
namespace Go.Proofs.YtdhicdnmgmkpkaaGreat
set_option linter.unusedVariables false
open Go.RowKit Mono Rlp Wd Go.Sort
namespace E
structure ChL.Is (c : ChL) (x y : Ac) : Prop where
  gone : c.gone = true ↔ y = Ac.zero
  n : c.n = y.n
  w : c.w = y.w
  cd : c.cd = y.cd
  ord : c.sl.Pairwise fun p q => p.1 < q.1
  sl : ∀ k v, (k, v) ∈ c.sl ↔ y ≠ Ac.zero ∧ x.sl k ≠ y.sl k ∧ v = y.sl k
structure BtwU (A B : As) (K : List (List UInt8)) (D : List ChL) : Prop where
  ord : D.Pairwise fun x y => x.a < y.a
  mem : ∀ c ∈ D, c.a ∈ K ∧ A c.a ≠ B c.a ∧ c.Is (A c.a) (B c.a)
  all : ∀ a ∈ K, A a ≠ B a → ∃ c ∈ D, c.a = a
structure Btw (A B : As) (D : List ChL) : Prop where
  ord : D.Pairwise fun x y => x.a < y.a
  mem : ∀ c ∈ D, A c.a ≠ B c.a ∧ c.Is (A c.a) (B c.a)
  all : ∀ a, A a ≠ B a → ∃ c ∈ D, c.a = a
theorem ChL.Is.eq {c d : ChL} {x y : Ac} (h : c.Is x y) (k : d.Is x y) (e : c.a = d.a) : c = d := by
  have hs : c.sl = d.sl := rising_eq (key := fun p : List UInt8 × List UInt8 => p.1) h.ord k.ord (fun p hp => (k.sl p.1 p.2).2 ((h.sl p.1 p.2).1 hp)) (fun p hp => (h.sl p.1 p.2).2 ((k.sl p.1 p.2).1 hp))
  have hg : c.gone = d.gone := by
    have := h.gone.trans k.gone.symm
    cases h1 : c.gone <;> cases h2 : d.gone <;> simp_all
  cases c
  cases d
  simp only [ChL.mk.injEq]
  exact ⟨e, hg, h.n.trans k.n.symm, h.w.trans k.w.symm, h.cd.trans k.cd.symm, hs⟩
theorem Btw.eq {A B : As} {D F : List ChL} (h : Btw A B D) (k : Btw A B F) : D = F := by
  have one : ∀ {D F : List ChL}, Btw A B D → Btw A B F → ∀ x ∈ D, x ∈ F := fun {D F} h k x hx => by
    obtain ⟨h1, h2⟩ := h.mem x hx
    obtain ⟨y, hy, e⟩ := k.all x.a h1
    have := (k.mem y hy).2
    rw [e] at this
    rw [h2.eq this e.symm]
    exact hy
  exact rising_eq (key := ChL.a) h.ord k.ord (one h k) (one k h)
theorem BtwU.btw {A B : As} {K : List (List UInt8)} {D : List ChL} (h : BtwU A B K D) (hK : ∀ a, A a ≠ B a → a ∈ K) : Btw A B D := ⟨h.ord, fun c hc => (h.mem c hc).2, fun a ha => h.all a (hK a ha) ha⟩
theorem BtwU.nil {A B : As} : BtwU A B [] [] := ⟨.nil, fun x hx => by simp at hx, fun a ha => by simp at ha⟩
theorem BtwU.skip {A B : As} {K : List (List UInt8)} {D : List ChL} (h : BtwU A B K D) {a : List UInt8} (ha : A a = B a) : BtwU A B (K ++ [a]) D := ⟨h.ord, fun x hx => ⟨List.mem_append_left _ (h.mem x hx).1, (h.mem x hx).2⟩, fun b hb hne => by
  rcases List.mem_append.1 hb with hb | hb
  · exact h.all b hb hne
  · obtain rfl : b = a := by simpa using hb
    exact absurd ha hne⟩
theorem BtwU.take {A B : As} {K : List (List UInt8)} {D : List ChL} (h : BtwU A B K D) {c : ChL} (hne : A c.a ≠ B c.a) (hc : c.Is (A c.a) (B c.a)) (hlt : ∀ b ∈ K, b < c.a) : BtwU A B (K ++ [c.a]) (D ++ [c]) := ⟨List.pairwise_append.2 ⟨h.ord, List.pairwise_singleton _ _, fun y hy z hz => by
    obtain rfl : z = c := by simpa using hz
    exact hlt _ (h.mem y hy).1⟩, fun y hy => by
    rcases List.mem_append.1 hy with hy | hy
    · exact ⟨List.mem_append_left _ (h.mem y hy).1, (h.mem y hy).2⟩
    · obtain rfl : y = c := by simpa using hy
      exact ⟨by simp, hne, hc⟩, fun b hb hb' => by
    rcases List.mem_append.1 hb with hb | hb
    · obtain ⟨y, hy, e⟩ := h.all b hb hb'
      exact ⟨y, List.mem_append_left _ hy, e⟩
    · obtain rfl : b = c.a := by simpa using hb
      exact ⟨c, by simp, rfl⟩⟩
def slG (sl : List (List UInt8 × List UInt8)) (f : List UInt8 → List UInt8) : List UInt8 → List UInt8 := sl.foldl (fun f p => fun k => if p.1 = k then p.2 else f k) f
theorem slG_at (z : List UInt8) : ∀ (sl : List (List UInt8 × List UInt8)) (f : List UInt8 → List UInt8) (k : List UInt8), (∀ p ∈ sl, p.1 = k → p.2 = z) → slG sl f k = if k ∈ sl.map Prod.fst then z else f k
  | [], f, k, _ => by simp [slG]
  | p :: sl, f, k, h => by
    have ih := slG_at z sl (fun k => if p.1 = k then p.2 else f k) k fun q hq => h q (List.mem_cons_of_mem _ hq)
    have e : slG (p :: sl) f k = slG sl (fun k => if p.1 = k then p.2 else f k) k := rfl
    rw [e, ih]
    by_cases h1 : k ∈ sl.map Prod.fst
    · rw [if_pos h1, if_pos (by simp only [List.map_cons, List.mem_cons]; exact .inr h1)]
    · rw [if_neg h1]
      by_cases h2 : p.1 = k
      · rw [if_pos h2, if_pos (by simp [h2]), h p List.mem_cons_self h2]
      · rw [if_neg h2, if_neg (by simp only [List.map_cons, List.mem_cons, not_or]; exact ⟨fun e => h2 e.symm, h1⟩)]
theorem upd_same (A : As) (a : List UInt8) (x : Ac) : A.upd a x a = x := by unfold As.upd; rw [if_pos rfl]
theorem upd_upd (A : As) (a : List UInt8) (x y : Ac) : (A.upd a x).upd a y = A.upd a y := by
  funext b
  unfold As.upd
  split <;> rfl
theorem slots1_eq (a : List UInt8) : ∀ (sl : List (List UInt8 × List UInt8)) (A : As), slots1 a sl A = A.upd a {A a with sl := slG sl (A a).sl}
  | [], A => by
    funext b
    unfold As.upd
    split
    · rename_i e
      subst e
      rfl
    · rfl
  | p :: sl, A => by
    have e : slots1 a (p :: sl) A = slots1 a sl (A.upd a ((A a).slot p.1 p.2)) := rfl
    rw [e, slots1_eq a sl, upd_upd, upd_same]
    rfl
def ChL.one (c : ChL) (x : Ac) : Ac := ⟨if c.n > 0 then c.n else 0, c.w, c.cd, slG c.sl (if c.gone = true then fun _ => zero32 else x.sl)⟩
theorem ChL.of_eq (c : ChL) (A : As) : c.of A = A.upd c.a (c.one (A c.a)) := by
  unfold ChL.of ChL.base
  dsimp only
  rw [slots1_eq]
  cases hg : c.gone with
  | true => simp only [if_true, upd_upd, upd_same, ChL.one, hg]; rfl
  | false => simp only [Bool.false_eq_true, if_false, upd_upd, upd_same, ChL.one, hg]
theorem applyA_off : ∀ (D : List ChL) (A : As) (b : List UInt8), b ∉ D.map ChL.a → applyA A D b = A b
  | [], A, b, _ => rfl
  | c :: D, A, b, h => by
    have e : applyA A (c :: D) = applyA (c.of A) D := rfl
    simp only [List.map_cons, List.mem_cons, not_or] at h
    rw [e, applyA_off D _ b h.2, ChL.of_eq]
    unfold As.upd
    rw [if_neg fun e => h.1 e.symm]
theorem applyA_at : ∀ (D : List ChL) (A : As) (c : ChL), c ∈ D → (D.Pairwise fun x y => x.a < y.a) → applyA A D c.a = c.one (A c.a)
  | [], A, c, h, _ => by simp at h
  | d :: D, A, c, h, ho => by
    have e : applyA A (d :: D) = applyA (d.of A) D := rfl
    obtain ⟨h1, h2⟩ := List.pairwise_cons.1 ho
    rcases List.mem_cons.1 h with rfl | h
    · rw [e, applyA_off D _ c.a fun hm => by
        obtain ⟨x, hx, hxa⟩ := List.mem_map.1 hm
        have := h1 x hx
        rw [hxa] at this
        exact List.lt_irrefl _ this, ChL.of_eq, upd_same]
    · rw [e, applyA_at D _ c h h2, ChL.of_eq]
      have hne : d.a ≠ c.a := fun e => by
        have := h1 c h
        rw [e] at this
        exact List.lt_irrefl _ this
      unfold As.upd
      rw [if_neg hne]
theorem ChL.Is.one {c : ChL} {x y : Ac} (h : c.Is x y) (hn : 0 ≤ y.n) : c.one x = y := by
  unfold ChL.one
  have h1 : (if c.n > 0 then c.n else 0) = y.n := by
    rw [h.n]
    split
    · rfl
    · omega
  have h2 : slG c.sl (if c.gone = true then fun _ => zero32 else x.sl) = y.sl := by
    funext k
    rw [slG_at (y.sl k) _ _ k fun p hp e => by
      have := ((h.sl p.1 p.2).1 hp).2.2
      rw [e] at this
      exact this]
    by_cases hm : k ∈ c.sl.map Prod.fst
    · rw [if_pos hm]
    · rw [if_neg hm]
      by_cases hg : c.gone = true
      · rw [if_pos hg, h.gone.1 hg]
        rfl
      · rw [if_neg hg]
        refine Classical.byContradiction fun hne => hm (List.mem_map.2 ⟨(k, y.sl k), (h.sl k _).2 ⟨fun e => hg (h.gone.2 e), hne, rfl⟩, rfl⟩)
  rw [h1, h2, h.w, h.cd]
theorem Btw.apply {A B : As} {D : List ChL} (h : Btw A B D) (hB : ∀ a, 0 ≤ (B a).n) : applyA A D = B := by
  funext b
  by_cases hb : b ∈ D.map ChL.a
  · obtain ⟨c, hc, rfl⟩ := List.mem_map.1 hb
    rw [applyA_at D A c hc h.ord, (h.mem c hc).2.one (hB _)]
  · rw [applyA_off D A b hb]
    exact Classical.byContradiction fun hne => hb (by
      obtain ⟨c, hc, e⟩ := h.all b hne
      exact List.mem_map.2 ⟨c, hc, e⟩)
theorem newA_nn (l : List AcL) : ∀ a, 0 ≤ (newA l a).n := by
  have h : ∀ (l : List AcL) (A : As), (∀ a, 0 ≤ (A a).n) → ∀ a, 0 ≤ (l.foldl (fun A x => A.upd x.a x.take) A a).n := fun l => by
    induction l with
    | nil => exact fun A h => h
    | cons x l ih =>
      intro A h
      refine ih _ fun a => ?_
      show 0 ≤ (if x.a = a then x.take else A a).n
      split
      · unfold AcL.take
        dsimp only
        split <;> omega
      · exact h a
  exact h l _ fun a => Int.le_refl _
theorem AcL.Is.slF {x : AcL} {y : Ac} (h : x.Is y) : slF x.sl = y.sl := by
  funext k
  have e : E.slF x.sl k = slG x.sl (fun _ => zero32) k := rfl
  rw [e, slG_at (y.sl k) _ _ k fun p hp e => by rw [(h.val p hp).1, e]]
  by_cases hm : k ∈ x.sl.map Prod.fst
  · rw [if_pos hm]
  · rw [if_neg hm]
    refine Classical.byContradiction fun hne => hm ?_
    obtain ⟨p, hp, e⟩ := h.all k fun e => hne e.symm
    exact List.mem_map.2 ⟨p, hp, e⟩
theorem AcL.Is.take {x : AcL} {y : Ac} (h : x.Is y) (hn : 0 ≤ y.n) : x.take = y := by
  unfold AcL.take
  have h1 : (if x.n > 0 then x.n else 0) = y.n := by
    rw [h.n]
    split
    · rfl
    · omega
  rw [h1, h.slF, h.w, h.cd]
theorem newF_off : ∀ (L : List AcL) (A : As) (b : List UInt8), b ∉ L.map AcL.a → L.foldl (fun A x => A.upd x.a x.take) A b = A b
  | [], A, b, _ => rfl
  | x :: L, A, b, h => by
    simp only [List.map_cons, List.mem_cons, not_or] at h
    rw [List.foldl_cons, newF_off L _ b h.2]
    unfold As.upd
    rw [if_neg fun e => h.1 e.symm]
theorem newF_at : ∀ (L : List AcL) (A : As) (x : AcL), x ∈ L → (L.Pairwise fun x y => x.a < y.a) → L.foldl (fun A x => A.upd x.a x.take) A x.a = x.take
  | [], A, x, h, _ => by simp at h
  | d :: L, A, x, h, ho => by
    obtain ⟨h1, h2⟩ := List.pairwise_cons.1 ho
    rw [List.foldl_cons]
    rcases List.mem_cons.1 h with rfl | h
    · rw [newF_off L _ x.a fun hm => by
        obtain ⟨y, hy, hya⟩ := List.mem_map.1 hm
        have := h1 y hy
        rw [hya] at this
        exact List.lt_irrefl _ this, upd_same]
    · exact newF_at L _ x h h2
theorem Canon.new {A : As} {L : List AcL} (h : Canon A L) (hn : ∀ a, 0 ≤ (A a).n) : newA L = A := by
  funext b
  unfold newA
  by_cases hb : b ∈ L.map AcL.a
  · obtain ⟨x, hx, rfl⟩ := List.mem_map.1 hb
    rw [newF_at L _ x hx h.ord, (h.mem x hx).1.take (hn _)]
  · rw [newF_off L _ b hb]
    refine Classical.byContradiction fun hne => hb ?_
    obtain ⟨x, hx, e⟩ := h.all b fun e => hne e.symm
    exact List.mem_map.2 ⟨x, hx, e⟩
theorem Canon.length_le {l L : List AcL} (h : Canon (newA l) L) : L.length ≤ l.length := by
  have h1 : (L.map AcL.a).Nodup := by
    have := h.ord
    unfold List.Nodup
    rw [List.pairwise_map]
    exact this.imp fun h e => by rw [e] at h; exact List.lt_irrefl _ h
  have h2 : ∀ b ∈ L.map AcL.a, b ∈ l.map AcL.a := fun b hb => by
    obtain ⟨x, hx, rfl⟩ := List.mem_map.1 hb
    refine Classical.byContradiction fun hn => (h.mem x hx).2 ?_
    unfold newA
    rw [newF_off l _ _ hn]
  have := h1.length_le_of_subset h2
  simpa using this
end E
end Go.Proofs.YtdhicdnmgmkpkaaGreat
