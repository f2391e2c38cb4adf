/-
  Merged (wip/tools/merge.py): BS3.
  Conditions: none.
-/
import Derived.Test.YtmlajcbabimkjaaGreatZA25
import Derived.Test.YtmlajcbabimkjaaGreatZA26
/-
  The reference's May.
  Conditions: none.
-/
namespace Go.Proofs.YtmlajcbabimkjaaGreat
set_option linter.unusedVariables false
open Go.RowKit Mono Rlp
namespace E
theorem bin_strge (l m : List UInt8) : Bin .geq 9 (.v (.string (Go.Proofs.YtmlajcbabimkjaaGreat.bs l))) (.v (.string (Go.Proofs.YtmlajcbabimkjaaGreat.bs m))) (.bool (!Op.bytesLess l m)) := by
  refine ⟨rfl, fun ok w p q hp hq => ?_⟩
  obtain rfl := (readV_v.1 hp).2
  obtain rfl := (readV_v.1 hq).2
  refine ⟨fun x y => by simp [eqGuard], ?_⟩
  simp [binOp, Op.stringOp, bs_toList]
set_option maxRecDepth 20000 in
set_option maxHeartbeats 8000000 in
theorem f_rIsEmpty (x : Acc) : Fn 42 [dAcc x] (· = .val (.v (.bool x.empty))) := by
  obtain ⟨xa, n, w, cd, ss⟩ := x
  have hz := (bin_word w zero32).1
  unfold Acc.empty dAcc
  dsimp only
  refine Fn.walk 24 Tryz.func42 rfl Tryz.ntmps42 (by simp) fun X => ?_
  by_cases h1 : n = 0
  · by_cases h2 : (w == zero32) = true
    · rw [h2] at hz
      by_cases h3 : cd = []
      · by_cases h4 : ss = []
        · subst h3
          subst h4
          rw [h2]
          subst h1
          repeat
            (first
             | (apply P_bin; (iterate 2 exact rfl); exact hz; (iterate 2 exact rfl)) | (apply P_move; (iterate 3 exact rfl)) | (apply P_assign; (iterate 3 exact rfl)) | (apply P_field; (iterate 6 exact rfl))
             | (apply P_pick; (iterate 4 exact rfl)) | (apply P_load; exact rfl; (first | exact I0 | exact I1 | exact I2 | exact I3 | exact I4 | exact I5 | exact I6); (iterate 4 exact rfl))
             | (apply P_cmp (b := true); (iterate 2 exact rfl); (focus (first | (simp [cmpI]; done) | (simp [cmpI]; omega))); (iterate 2 exact rfl)) | (apply P_lenbs; (iterate 4 exact rfl))
             | (apply P_lensl; (iterate 4 exact rfl)) | (apply P_build0; (iterate 5 exact rfl)) | (apply P_box; exact rfl; exact rfl; exact rfl; intro _) | apply EL.nil
             | ((with_reducible apply EK.then_normal); apply EK.code)
             | (with_reducible first | apply EC.seq | apply EC.region | apply EC.skip | apply EC.label | apply EC.block | apply EC.exit | apply EC.ret | apply EK.in_normal | apply EK.in_same | apply EK.in_ret | apply EK.then_ret | apply EK.then_exit))
          exact EK.ret1 rfl rfl rfl
        · subst h3
          have h5 : ss.isEmpty = false := by cases ss with | nil => exact absurd rfl h4 | cons _ _ => rfl
          have h6 : (ss.map dSlP).length ≠ 0 := by cases ss with | nil => exact absurd rfl h4 | cons _ _ => simp
          rw [h2, h5]
          subst h1
          repeat
            (first
             | (apply P_bin; (iterate 2 exact rfl); exact hz; (iterate 2 exact rfl)) | (apply P_move; (iterate 3 exact rfl)) | (apply P_assign; (iterate 3 exact rfl)) | (apply P_field; (iterate 6 exact rfl))
             | (apply P_pick; (iterate 4 exact rfl)) | (apply P_load; exact rfl; (first | exact I0 | exact I1 | exact I2 | exact I3 | exact I4 | exact I5 | exact I6); (iterate 4 exact rfl))
             | (apply P_cmp (b := true); (iterate 2 exact rfl); (focus (first | (simp [cmpI]; done) | (simp [cmpI]; omega))); (iterate 2 exact rfl))
             | (apply P_cmp (b := false); (iterate 2 exact rfl); (focus (first | (simp [cmpI]; done) | (simp [cmpI]; omega))); (iterate 2 exact rfl)) | (apply P_lenbs; (iterate 4 exact rfl))
             | (apply P_lensl; (iterate 4 exact rfl)) | (apply P_build0; (iterate 5 exact rfl)) | (apply P_box; exact rfl; exact rfl; exact rfl; intro _) | apply EL.nil
             | ((with_reducible apply EK.then_normal); apply EK.code)
             | (with_reducible first | apply EC.seq | apply EC.region | apply EC.skip | apply EC.label | apply EC.block | apply EC.exit | apply EC.ret | apply EK.in_normal | apply EK.in_same | apply EK.in_ret | apply EK.then_ret | apply EK.then_exit))
          exact EK.ret1 rfl rfl rfl
      · have h5 : cd.isEmpty = false := by cases cd with | nil => exact absurd rfl h3 | cons _ _ => rfl
        rw [h2, h5]
        subst h1
        repeat
          (first
           | (apply P_skip; (iterate 2 exact rfl)) | (apply P_bin; (iterate 2 exact rfl); exact hz; (iterate 2 exact rfl)) | (apply P_move; (iterate 3 exact rfl)) | (apply P_assign; (iterate 3 exact rfl))
           | (apply P_field; (iterate 6 exact rfl)) | (apply P_pick; (iterate 4 exact rfl))
           | (apply P_load; exact rfl; (first | exact I0 | exact I1 | exact I2 | exact I3 | exact I4 | exact I5 | exact I6); (iterate 4 exact rfl))
           | (apply P_cmp (b := true); (iterate 2 exact rfl); (focus (first | (simp [cmpI]; done) | (simp [cmpI]; omega))); (iterate 2 exact rfl))
           | (apply P_cmp (b := false); (iterate 2 exact rfl); (focus (first | (simp [cmpI]; done) | (simp [cmpI]; omega))); (iterate 2 exact rfl)) | (apply P_lenbs; (iterate 4 exact rfl))
           | (apply P_build0; (iterate 5 exact rfl)) | (apply P_box; exact rfl; exact rfl; exact rfl; intro _) | apply EL.nil | ((with_reducible apply EK.then_normal); apply EK.code)
           | (with_reducible first | apply EC.seq | apply EC.region | apply EC.skip | apply EC.label | apply EC.block | apply EC.exit | apply EC.ret | apply EK.in_normal | apply EK.in_same | apply EK.in_ret | apply EK.then_ret | apply EK.then_exit))
        exact EK.ret1 rfl rfl rfl
    · have h2 : (w == zero32) = false := by simpa using h2
      rw [h2] at hz ⊢
      subst h1
      repeat
        (first
         | (apply P_skip; (iterate 2 exact rfl)) | (apply P_bin; (iterate 2 exact rfl); exact hz; (iterate 2 exact rfl)) | (apply P_move; (iterate 3 exact rfl)) | (apply P_assign; (iterate 3 exact rfl))
         | (apply P_field; (iterate 6 exact rfl)) | (apply P_pick; (iterate 4 exact rfl))
         | (apply P_load; exact rfl; (first | exact I0 | exact I1 | exact I2 | exact I3 | exact I4 | exact I5 | exact I6); (iterate 4 exact rfl))
         | (apply P_cmp (b := true); (iterate 2 exact rfl); (focus (first | (simp [cmpI]; done) | (simp [cmpI]; omega))); (iterate 2 exact rfl)) | (apply P_build0; (iterate 5 exact rfl))
         | (apply P_box; exact rfl; exact rfl; exact rfl; intro _) | apply EL.nil | ((with_reducible apply EK.then_normal); apply EK.code)
         | (with_reducible first | apply EC.seq | apply EC.region | apply EC.skip | apply EC.label | apply EC.block | apply EC.exit | apply EC.ret | apply EK.in_normal | apply EK.in_same | apply EK.in_ret | apply EK.then_ret | apply EK.then_exit))
      exact EK.ret1 rfl rfl rfl
  · have h5 : decide (n = 0) = false := by simp [h1]
    rw [h5]
    repeat
      (first
       | (apply P_skip; (iterate 2 exact rfl)) | (apply P_move; (iterate 3 exact rfl)) | (apply P_assign; (iterate 3 exact rfl)) | (apply P_field; (iterate 6 exact rfl)) | (apply P_pick; (iterate 4 exact rfl))
       | (apply P_load; exact rfl; (first | exact I0 | exact I1 | exact I2 | exact I3 | exact I4 | exact I5 | exact I6); (iterate 4 exact rfl))
       | (apply P_cmp (b := false); (iterate 2 exact rfl); (focus (first | (simp [cmpI]; done) | (simp [cmpI]; omega))); (iterate 2 exact rfl)) | (apply P_box; exact rfl; exact rfl; exact rfl; intro _)
       | apply EL.nil | ((with_reducible apply EK.then_normal); apply EK.code)
       | (with_reducible first | apply EC.seq | apply EC.region | apply EC.skip | apply EC.label | apply EC.block | apply EC.exit | apply EC.ret | apply EK.in_normal | apply EK.in_same | apply EK.in_ret | apply EK.then_ret | apply EK.then_exit))
    exact EK.ret1 rfl rfl rfl
theorem risK_some (p k : List UInt8) : risK (some p) k = Op.bytesLess p k := (less_cmp p k).symm
set_option maxRecDepth 20000 in
set_option maxHeartbeats 16000000 in
theorem f_rMay (l : List Acc) (hsl : ∀ x ∈ l, x.sl.length ≤ 1000000) (hlen : l.length ≤ 1000000) : Fn 10 [.sl 55 (l.map dAcc)] (· = .val (.v (.bool (accM none l)))) := by
  have hml : (l.map dAcc).length = l.length := List.length_map _
  generalize hres : accM none l = res
  refine Fn.walk 82 Tryz.func10 rfl Tryz.ntmps10 (by simp) fun X => ?_
  repeat
    (first
     | (apply P_assign; (iterate 3 exact rfl)) | apply EL.nil | ((with_reducible apply EK.then_normal); apply EK.code)
     | (with_reducible first | apply EC.seq | apply EC.region | apply EC.skip | apply EC.label | apply EC.block | apply EC.exit | apply EC.ret | apply EK.in_normal | apply EK.in_same | apply EK.in_ret | apply EK.then_ret | apply EK.then_exit))
  refine EC.loop (ι := {i : Nat // i ≤ l.length ∧ res = accM (prevK Acc.a l i) (l.drop i)})
    (fun i => ⟨[(3, .val (.v (.int .i64 (i.1 : Int)))), (0, .val (.sl 55 (l.map dAcc)))], [], []⟩)
    (fun i => l.length - i.1) ⟨0, Nat.zero_le _, hres.symm⟩ ?_ ?_
  · exact (Le.keep (by repeat first | exact trivial | refine ⟨rfl, ?_⟩) (by repeat first | exact List.nil_sublist _ | apply List.Sublist.cons_cons | apply List.Sublist.cons) (by simp))
  rintro ⟨i, hi, hI⟩
  dsimp only at hi ⊢
  by_cases hlt : i < l.length
  · have hd : (l.map dAcc)[i]? = some (dAcc l[i]) := by rw [List.getElem?_map, List.getElem?_eq_getElem hlt]; rfl
    have hE := f_rIsEmpty l[i]
    have hls := hsl _ (List.getElem_mem hlt)
    have hnx : prevK Acc.a l (i + 1) = some l[i].a := prevK_succ hlt
    rw [List.drop_eq_getElem_cons hlt, accM_cons, ← hnx] at hI
    obtain ⟨nv, hnv⟩ : ∃ b, accM (prevK Acc.a l (i + 1)) (l.drop (i + 1)) = b := ⟨_, rfl⟩
    rw [hnv] at hI
    clear hnx
    cases i with
    | zero =>
      generalize l[0] = x at hd hE hls hI
      obtain ⟨xa, n, w, cd, ss⟩ := x
      unfold Acc.one at hI
      generalize Acc.empty ⟨xa, n, w, cd, ss⟩ = em at hE hI
      unfold dAcc at hd hE
      dsimp only at hd hE hls hI
      rw [show risK (prevK Acc.a l 0) xa = true from rfl] at hI
      by_cases hneg : n < 0
      · obtain rfl : res = false := by rw [hI, decide_eq_false (show ¬ (0 : Int) ≤ n by omega)]; simp
        repeat
          (first
           | (apply P_move; (iterate 3 exact rfl)) | (apply P_loadpd; (iterate 5 exact rfl))
           | (apply P_cmp (b := true); (iterate 2 exact rfl); (focus (first | (simp [cmpI]; done) | (simp [cmpI]; omega))); (iterate 2 exact rfl)) | (apply P_lensl; (iterate 4 exact rfl))
           | (apply P_index; (iterate 4 exact rfl); (focus (first | exact ⟨by decide, rfl⟩ | (refine ⟨by omega, ?_⟩; rw [Int.toNat_natCast]; assumption))); (iterate 2 exact rfl))
           | (apply P_alloc; exact rfl; exact rfl; exact rfl; intro _) | (apply P_store; exact rfl; (focus (repeat first | exact .z | apply SetAt.s | apply SetAtF.s)); (iterate 4 exact rfl)) | apply EL.nil
           | ((with_reducible apply EK.then_normal); apply EK.code) | (apply EC.cond_true; exact rfl)
           | (with_reducible first | apply EC.seq | apply EC.region | apply EC.skip | apply EC.label | apply EC.block | apply EC.exit | apply EC.ret | apply EK.in_normal | apply EK.in_same | apply EK.in_ret | apply EK.then_ret | apply EK.then_exit))
        refine EC.draw 30 (by kernel_rfl) ?_
        simp only [List.take_succ_cons, List.take_zero, List.drop_succ_cons, List.drop_zero]
        repeat
          (first
           | (apply H_skip; (iterate 2 exact rfl)) | (apply H_move; (iterate 3 exact rfl)) | (apply H_field; (iterate 6 exact rfl)) | (apply H_pick; (iterate 4 exact rfl))
           | (apply H_load; exact rfl; (first | exact I0 | exact I1 | exact I2 | exact I3 | exact I4 | exact I5 | exact I6); (iterate 4 exact rfl))
           | (apply H_cmp (b := true); (iterate 2 exact rfl); (focus (first | (simp [cmpI]; done) | (simp [cmpI]; omega))); (iterate 2 exact rfl))
           | (apply H_cmp (b := false); (iterate 2 exact rfl); (focus (first | (simp [cmpI]; done) | (simp [cmpI]; omega))); (iterate 2 exact rfl)) | ((with_reducible apply EH.nil); exact rfl))
        repeat
          (first
           | (apply P_assign; (iterate 3 exact rfl)) | apply EL.nil | ((with_reducible apply EK.then_normal); apply EK.code) | (apply EC.cond_true; exact rfl)
           | (with_reducible first | apply EC.seq | apply EC.region | apply EC.skip | apply EC.label | apply EC.block | apply EC.exit | apply EC.ret | apply EK.in_normal | apply EK.in_same | apply EK.in_ret | apply EK.then_ret | apply EK.then_exit))
        exact EK.ret1 rfl rfl rfl
      rw [decide_eq_true (show (0 : Int) ≤ n by omega)] at hI
      by_cases hcd : (24576 : Int) < (cd.length : Int)
      · obtain rfl : res = false := by rw [hI, decide_eq_false (show ¬ (cd.length : Int) ≤ 24576 by omega)]; simp
        repeat
          (first
           | (apply P_move; (iterate 3 exact rfl)) | (apply P_loadpd; (iterate 5 exact rfl))
           | (apply P_cmp (b := true); (iterate 2 exact rfl); (focus (first | (simp [cmpI]; done) | (simp [cmpI]; omega))); (iterate 2 exact rfl)) | (apply P_lensl; (iterate 4 exact rfl))
           | (apply P_index; (iterate 4 exact rfl); (focus (first | exact ⟨by decide, rfl⟩ | (refine ⟨by omega, ?_⟩; rw [Int.toNat_natCast]; assumption))); (iterate 2 exact rfl))
           | (apply P_alloc; exact rfl; exact rfl; exact rfl; intro _) | (apply P_store; exact rfl; (focus (repeat first | exact .z | apply SetAt.s | apply SetAtF.s)); (iterate 4 exact rfl)) | apply EL.nil
           | ((with_reducible apply EK.then_normal); apply EK.code) | (apply EC.cond_true; exact rfl)
           | (with_reducible first | apply EC.seq | apply EC.region | apply EC.skip | apply EC.label | apply EC.block | apply EC.exit | apply EC.ret | apply EK.in_normal | apply EK.in_same | apply EK.in_ret | apply EK.then_ret | apply EK.then_exit))
        refine EC.draw 30 (by kernel_rfl) ?_
        simp only [List.take_succ_cons, List.take_zero, List.drop_succ_cons, List.drop_zero]
        repeat
          (first
           | (apply H_skip; (iterate 2 exact rfl)) | (apply H_move; (iterate 3 exact rfl)) | (apply H_field; (iterate 6 exact rfl)) | (apply H_pick; (iterate 4 exact rfl))
           | (apply H_load; exact rfl; (first | exact I0 | exact I1 | exact I2 | exact I3 | exact I4 | exact I5 | exact I6); (iterate 4 exact rfl))
           | (apply H_cmp (b := true); (iterate 2 exact rfl); (focus (first | (simp [cmpI]; done) | (simp [cmpI]; omega))); (iterate 2 exact rfl))
           | (apply H_cmp (b := false); (iterate 2 exact rfl); (focus (first | (simp [cmpI]; done) | (simp [cmpI]; omega))); (iterate 2 exact rfl)) | (apply H_lenbs; (iterate 4 exact rfl))
           | ((with_reducible apply EH.nil); exact rfl))
        repeat
          (first
           | (apply P_assign; (iterate 3 exact rfl)) | apply EL.nil | ((with_reducible apply EK.then_normal); apply EK.code) | (apply EC.cond_true; exact rfl)
           | (with_reducible first | apply EC.seq | apply EC.region | apply EC.skip | apply EC.label | apply EC.block | apply EC.exit | apply EC.ret | apply EK.in_normal | apply EK.in_same | apply EK.in_ret | apply EK.then_ret | apply EK.then_exit))
        exact EK.ret1 rfl rfl rfl
      rw [decide_eq_true (show (cd.length : Int) ≤ 24576 by omega)] at hI
      cases em with
      | true =>
        obtain rfl : res = false := by rw [hI]; simp
        repeat
          (first
           | (apply P_move; (iterate 3 exact rfl)) | (apply P_loadpd; (iterate 5 exact rfl))
           | (apply P_cmp (b := true); (iterate 2 exact rfl); (focus (first | (simp [cmpI]; done) | (simp [cmpI]; omega))); (iterate 2 exact rfl)) | (apply P_lensl; (iterate 4 exact rfl))
           | (apply P_index; (iterate 4 exact rfl); (focus (first | exact ⟨by decide, rfl⟩ | (refine ⟨by omega, ?_⟩; rw [Int.toNat_natCast]; assumption))); (iterate 2 exact rfl))
           | (apply P_alloc; exact rfl; exact rfl; exact rfl; intro _) | (apply P_store; exact rfl; (focus (repeat first | exact .z | apply SetAt.s | apply SetAtF.s)); (iterate 4 exact rfl)) | apply EL.nil
           | ((with_reducible apply EK.then_normal); apply EK.code) | (apply EC.cond_true; exact rfl)
           | (with_reducible first | apply EC.seq | apply EC.region | apply EC.skip | apply EC.label | apply EC.block | apply EC.exit | apply EC.ret | apply EK.in_normal | apply EK.in_same | apply EK.in_ret | apply EK.then_ret | apply EK.then_exit))
        refine EC.draw 30 (by kernel_rfl) ?_
        simp only [List.take_succ_cons, List.take_zero, List.drop_succ_cons, List.drop_zero]
        repeat
          (first
           | (apply H_skip; (iterate 2 exact rfl))
           | (apply H_call (hE); exact rfl; (focus (repeat first | exact RefineL.refl _ _ | exact RL.nil | exact Rf.same | exact Rf.bs0 | exact Rf.sl0 | (apply Rf.fact; (focus (simp; done)); exact rfl) | apply Rf.tup | apply RL.cons)); (focus (intro _ _; simp [go_sem]; done)); (iterate 2 exact rfl))
           | (apply H_move; (iterate 3 exact rfl)) | (apply H_field; (iterate 6 exact rfl)) | (apply H_pick; (iterate 4 exact rfl))
           | (apply H_load; exact rfl; (first | exact I0 | exact I1 | exact I2 | exact I3 | exact I4 | exact I5 | exact I6); (iterate 4 exact rfl))
           | (apply H_cmp (b := false); (iterate 2 exact rfl); (focus (first | (simp [cmpI]; done) | (simp [cmpI]; omega))); (iterate 2 exact rfl)) | (apply H_lenbs; (iterate 4 exact rfl))
           | ((with_reducible apply EH.nil); exact rfl))
        repeat
          (first
           | (apply P_assign; (iterate 3 exact rfl)) | apply EL.nil | ((with_reducible apply EK.then_normal); apply EK.code) | (apply EC.cond_true; exact rfl)
           | (with_reducible first | apply EC.seq | apply EC.region | apply EC.skip | apply EC.label | apply EC.block | apply EC.exit | apply EC.ret | apply EK.in_normal | apply EK.in_same | apply EK.in_ret | apply EK.then_ret | apply EK.then_exit))
        exact EK.ret1 rfl rfl rfl
      | false =>
        repeat
          (first
           | (apply P_move; (iterate 3 exact rfl)) | (apply P_loadpd; (iterate 5 exact rfl))
           | (apply P_cmp (b := true); (iterate 2 exact rfl); (focus (first | (simp [cmpI]; done) | (simp [cmpI]; omega))); (iterate 2 exact rfl)) | (apply P_lensl; (iterate 4 exact rfl))
           | (apply P_index; (iterate 4 exact rfl); (focus (first | exact ⟨by decide, rfl⟩ | (refine ⟨by omega, ?_⟩; rw [Int.toNat_natCast]; assumption))); (iterate 2 exact rfl))
           | (apply P_alloc; exact rfl; exact rfl; exact rfl; intro _) | (apply P_store; exact rfl; (focus (repeat first | exact .z | apply SetAt.s | apply SetAtF.s)); (iterate 4 exact rfl)) | apply EL.nil
           | ((with_reducible apply EK.then_normal); apply EK.code) | (apply EC.cond_true; exact rfl)
           | (with_reducible first | apply EC.seq | apply EC.region | apply EC.skip | apply EC.label | apply EC.block | apply EC.exit | apply EC.ret | apply EK.in_normal | apply EK.in_same | apply EK.in_ret | apply EK.then_ret | apply EK.then_exit))
        refine EC.draw 30 (by kernel_rfl) ?_
        simp only [List.take_succ_cons, List.take_zero, List.drop_succ_cons, List.drop_zero]
        repeat
          (first
           | (apply H_skip; (iterate 2 exact rfl))
           | (apply H_call (hE); exact rfl; (focus (repeat first | exact RefineL.refl _ _ | exact RL.nil | exact Rf.same | exact Rf.bs0 | exact Rf.sl0 | (apply Rf.fact; (focus (simp; done)); exact rfl) | apply Rf.tup | apply RL.cons)); (focus (intro _ _; simp [go_sem]; done)); (iterate 2 exact rfl))
           | (apply H_move; (iterate 3 exact rfl)) | (apply H_field; (iterate 6 exact rfl)) | (apply H_pick; (iterate 4 exact rfl))
           | (apply H_load; exact rfl; (first | exact I0 | exact I1 | exact I2 | exact I3 | exact I4 | exact I5 | exact I6); (iterate 4 exact rfl))
           | (apply H_cmp (b := false); (iterate 2 exact rfl); (focus (first | (simp [cmpI]; done) | (simp [cmpI]; omega))); (iterate 2 exact rfl)) | (apply H_lenbs; (iterate 4 exact rfl))
           | ((with_reducible apply EH.nil); exact rfl))
        rename_i g4
        have hml2 : (ss.map dSlP).length = ss.length := List.length_map _
        generalize hrs : slM none ss = rs at hI
        repeat
          (first
           | (apply P_assign; (iterate 3 exact rfl)) | apply EL.nil | ((with_reducible apply EK.then_normal); apply EK.code) | (apply EC.cond_false; exact rfl)
           | (with_reducible first | apply EC.seq | apply EC.region | apply EC.skip | apply EC.label | apply EC.block | apply EC.exit | apply EC.ret | apply EK.in_normal | apply EK.in_same | apply EK.in_ret | apply EK.then_ret | apply EK.then_exit))
        refine EC.loop (ι := {k : Nat // k ≤ ss.length ∧ rs = slM (prevK (·.1) ss k) (ss.drop k)})
          (fun k => ⟨[(5, .val (.v (.int .i64 (k.1 : Int)))), (3, .val (.v (.int .i64 (0 : Int)))), (0, .val (.sl 55 (l.map dAcc))), (4, .val (.v (.pointer (some ⟨g4, 0, none⟩))))], [.var g4 32 (.tup [.arr 20 xa, .v (.int .i64 n), .arr 32 w, .bs cd, .sl 64 (ss.map dSlP)])], []⟩)
          (fun k => ss.length - k.1) ⟨0, Nat.zero_le _, hrs.symm⟩ ?_ ?_
        · exact (Le.keep (by repeat first | exact trivial | refine ⟨rfl, ?_⟩) (by repeat first | exact List.nil_sublist _ | apply List.Sublist.cons_cons | apply List.Sublist.cons) (by simp))
        rintro ⟨k, hk, hJ⟩
        dsimp only at hk ⊢
        by_cases hkl : k < ss.length
        · have hdk : (ss.map dSlP)[k]? = some (.tup [.arr 32 ss[k].1, .arr 32 ss[k].2]) := by rw [List.getElem?_map, List.getElem?_eq_getElem hkl]; rfl
          rw [List.drop_eq_getElem_cons hkl, slM_cons] at hJ
          have hz := (bin_word ss[k].2 zero32).1
          cases hv : (ss[k].2 == zero32) with
          | true =>
            rw [hv] at hz hJ
            obtain rfl : rs = false := by rw [hJ]; rfl
            obtain rfl : res = false := by rw [hI]; rfl
            repeat
              (first
               | (apply P_move; (iterate 3 exact rfl)) | (apply P_field; (iterate 6 exact rfl))
               | (apply P_load; exact rfl; (first | exact I0 | exact I1 | exact I2 | exact I3 | exact I4 | exact I5 | exact I6); (iterate 4 exact rfl))
               | (apply P_cmp (b := true); (iterate 2 exact rfl); (focus (first | (simp [cmpI]; done) | (simp [cmpI]; omega))); (iterate 2 exact rfl)) | (apply P_lensl; (iterate 4 exact rfl)) | apply EL.nil
               | ((with_reducible apply EK.then_normal); apply EK.code) | (apply EC.cond_true; exact rfl)
               | (with_reducible first | apply EC.seq | apply EC.region | apply EC.skip | apply EC.label | apply EC.block | apply EC.exit | apply EC.ret | apply EK.in_normal | apply EK.in_same | apply EK.in_ret | apply EK.then_ret | apply EK.then_exit))
            refine EC.draw 29 (by kernel_rfl) ?_
            simp only [List.take_succ_cons, List.take_zero, List.drop_succ_cons, List.drop_zero]
            repeat
              (first
               | (apply H_skip; (iterate 2 exact rfl)) | (apply H_bin; (iterate 2 exact rfl); exact hz; (iterate 2 exact rfl)) | (apply H_move; (iterate 3 exact rfl)) | (apply H_field; (iterate 6 exact rfl))
               | (apply H_fieldpd; (iterate 7 exact rfl)) | (apply H_loadpd; (iterate 5 exact rfl)) | (apply H_pick; (iterate 4 exact rfl))
               | (apply H_load; exact rfl; (first | exact I0 | exact I1 | exact I2 | exact I3 | exact I4 | exact I5 | exact I6); (iterate 4 exact rfl))
               | (apply H_index; (iterate 4 exact rfl); (focus (first | exact ⟨by decide, rfl⟩ | (refine ⟨by omega, ?_⟩; rw [Int.toNat_natCast]; assumption))); (iterate 2 exact rfl))
               | (apply H_build0; (iterate 5 exact rfl)) | ((with_reducible apply EH.nil); exact rfl))
            repeat
              (first
               | (apply P_assign; (iterate 3 exact rfl)) | apply EL.nil | ((with_reducible apply EK.then_normal); apply EK.code) | (apply EC.cond_true; exact rfl)
               | (with_reducible first | apply EC.seq | apply EC.region | apply EC.skip | apply EC.label | apply EC.block | apply EC.exit | apply EC.ret | apply EK.in_normal | apply EK.in_same | apply EK.in_ret | apply EK.then_ret | apply EK.then_exit))
            exact EK.ret1 rfl rfl rfl
          | false =>
            rw [hv] at hz hJ
            cases k with
            | zero =>
              have hJ2 : rs = slM (prevK (·.1) ss 1) (ss.drop 1) := by rw [hJ, prevK_succ hkl]; rfl
              repeat
                (first
                 | (apply P_move; (iterate 3 exact rfl)) | (apply P_field; (iterate 6 exact rfl))
                 | (apply P_load; exact rfl; (first | exact I0 | exact I1 | exact I2 | exact I3 | exact I4 | exact I5 | exact I6); (iterate 4 exact rfl))
                 | (apply P_cmp (b := true); (iterate 2 exact rfl); (focus (first | (simp [cmpI]; done) | (simp [cmpI]; omega))); (iterate 2 exact rfl)) | (apply P_lensl; (iterate 4 exact rfl)) | apply EL.nil
                 | ((with_reducible apply EK.then_normal); apply EK.code) | (apply EC.cond_true; exact rfl)
                 | (with_reducible first | apply EC.seq | apply EC.region | apply EC.skip | apply EC.label | apply EC.block | apply EC.exit | apply EC.ret | apply EK.in_normal | apply EK.in_same | apply EK.in_ret | apply EK.then_ret | apply EK.then_exit))
              refine EC.draw 29 (by kernel_rfl) ?_
              simp only [List.take_succ_cons, List.take_zero, List.drop_succ_cons, List.drop_zero]
              repeat
                (first
                 | (apply H_skip; (iterate 2 exact rfl)) | (apply H_bin; (iterate 2 exact rfl); exact hz; (iterate 2 exact rfl)) | (apply H_move; (iterate 3 exact rfl)) | (apply H_field; (iterate 6 exact rfl))
                 | (apply H_fieldpd; (iterate 7 exact rfl)) | (apply H_loadpd; (iterate 5 exact rfl)) | (apply H_pick; (iterate 4 exact rfl))
                 | (apply H_load; exact rfl; (first | exact I0 | exact I1 | exact I2 | exact I3 | exact I4 | exact I5 | exact I6); (iterate 4 exact rfl))
                 | (apply H_cmp (b := false); (iterate 2 exact rfl); (focus (first | (simp [cmpI]; done) | (simp [cmpI]; omega))); (iterate 2 exact rfl))
                 | (apply H_index; (iterate 4 exact rfl); (focus (first | exact ⟨by decide, rfl⟩ | (refine ⟨by omega, ?_⟩; rw [Int.toNat_natCast]; assumption))); (iterate 2 exact rfl))
                 | (apply H_build0; (iterate 5 exact rfl)) | ((with_reducible apply EH.nil); exact rfl))
              repeat
                (first
                 | (apply P_move; (iterate 3 exact rfl)) | (apply P_assign; (iterate 3 exact rfl)) | (apply P_ar; (iterate 3 exact rfl); (focus omega); (focus omega); (iterate 2 exact rfl)) | apply EL.nil
                 | ((with_reducible apply EK.then_normal); apply EK.code) | (apply EC.cond_false; exact rfl)
                 | (with_reducible first | apply EC.seq | apply EC.region | apply EC.skip | apply EC.label | apply EC.block | apply EC.exit | apply EC.ret | apply EK.in_normal | apply EK.in_same | apply EK.in_ret | apply EK.then_ret | apply EK.then_exit))
              refine EK.again ⟨1, hkl, hJ2⟩ (by dsimp only; omega) ?_
              exact (Le.keep (by repeat first | exact trivial | refine ⟨rfl, ?_⟩) (by repeat first | exact List.nil_sublist _ | apply List.Sublist.cons_cons | apply List.Sublist.cons) (by simp))
            | succ j =>
              have hdj : (ss.map dSlP)[j]? = some (.tup [.arr 32 (ss[j]'(by omega)).1, .arr 32 (ss[j]'(by omega)).2]) := by rw [List.getElem?_map, List.getElem?_eq_getElem (by omega)]; rfl
              rw [prevK_succ (by omega : j < ss.length), risK_some] at hJ
              have hc := f_rLessB (ss[j]'(by omega)).1 ss[j + 1].1
              cases hb : Op.bytesLess (ss[j]'(by omega)).1 ss[j + 1].1 with
              | true =>
                rw [hb] at hc hJ
                have hJ2 : rs = slM (prevK (·.1) ss (j + 1 + 1)) (ss.drop (j + 1 + 1)) := by
                  rw [hJ, prevK_succ hkl]
                  rfl
                repeat
                  (first
                   | (apply P_move; (iterate 3 exact rfl)) | (apply P_field; (iterate 6 exact rfl))
                   | (apply P_load; exact rfl; (first | exact I0 | exact I1 | exact I2 | exact I3 | exact I4 | exact I5 | exact I6); (iterate 4 exact rfl))
                   | (apply P_cmp (b := true); (iterate 2 exact rfl); (focus (first | (simp [cmpI]; done) | (simp [cmpI]; omega))); (iterate 2 exact rfl)) | (apply P_lensl; (iterate 4 exact rfl)) | apply EL.nil
                   | ((with_reducible apply EK.then_normal); apply EK.code) | (apply EC.cond_true; exact rfl)
                   | (with_reducible first | apply EC.seq | apply EC.region | apply EC.skip | apply EC.label | apply EC.block | apply EC.exit | apply EC.ret | apply EK.in_normal | apply EK.in_same | apply EK.in_ret | apply EK.then_ret | apply EK.then_exit))
                refine EC.draw 29 (by kernel_rfl) ?_
                simp only [List.take_succ_cons, List.take_zero, List.drop_succ_cons, List.drop_zero]
                repeat
                  (first
                   | (apply H_bin; (iterate 2 exact rfl); exact hz; (iterate 2 exact rfl))
                   | (apply H_call (hc); exact rfl; (focus (repeat first | exact RefineL.refl _ _ | exact RL.nil | exact Rf.same | exact Rf.bs0 | exact Rf.sl0 | (apply Rf.fact; (focus (simp; done)); exact rfl) | apply Rf.tup | apply RL.cons)); (focus (intro _ _; simp [go_sem]; done)); (iterate 2 exact rfl))
                   | (apply H_index; (iterate 4 exact rfl); exact ⟨by omega, by rw [show (((j + 1 : Nat) : Int) - 1) = (j : Int) by omega, Int.toNat_natCast]; exact hdj⟩; (iterate 2 exact rfl))
                   | (apply H_move; (iterate 3 exact rfl)) | (apply H_field; (iterate 6 exact rfl)) | (apply H_fieldpd; (iterate 7 exact rfl)) | (apply H_loadpd; (iterate 5 exact rfl))
                   | (apply H_pick; (iterate 4 exact rfl)) | (apply H_not; (iterate 3 exact rfl))
                   | (apply H_load; exact rfl; (first | exact I0 | exact I1 | exact I2 | exact I3 | exact I4 | exact I5 | exact I6); (iterate 4 exact rfl))
                   | (apply H_cmp (b := true); (iterate 2 exact rfl); (focus (first | (simp [cmpI]; done) | (simp [cmpI]; omega))); (iterate 2 exact rfl))
                   | (apply H_ar; (iterate 3 exact rfl); (focus omega); (focus omega); (iterate 2 exact rfl))
                   | (apply H_index; (iterate 4 exact rfl); (focus (first | exact ⟨by decide, rfl⟩ | (refine ⟨by omega, ?_⟩; rw [Int.toNat_natCast]; assumption))); (iterate 2 exact rfl))
                   | (apply H_build0; (iterate 5 exact rfl)) | ((with_reducible apply EH.nil); exact rfl))
                repeat
                  (first
                   | (apply P_move; (iterate 3 exact rfl)) | (apply P_assign; (iterate 3 exact rfl)) | (apply P_ar; (iterate 3 exact rfl); (focus omega); (focus omega); (iterate 2 exact rfl)) | apply EL.nil
                   | ((with_reducible apply EK.then_normal); apply EK.code) | (apply EC.cond_false; exact rfl)
                   | (with_reducible first | apply EC.seq | apply EC.region | apply EC.skip | apply EC.label | apply EC.block | apply EC.exit | apply EC.ret | apply EK.in_normal | apply EK.in_same | apply EK.in_ret | apply EK.then_ret | apply EK.then_exit))
                refine EK.again ⟨j + 1 + 1, hkl, hJ2⟩ (by dsimp only; omega) ?_
                dsimp only
                rw [show (((j + 1 : Nat) : Int) + 1) = ((j + 1 + 1 : Nat) : Int) by omega]
                exact (Le.keep (by repeat first | exact trivial | refine ⟨rfl, ?_⟩) (by repeat first | exact List.nil_sublist _ | apply List.Sublist.cons_cons | apply List.Sublist.cons) (by simp))
              | false =>
                rw [hb] at hc hJ
                obtain rfl : rs = false := by rw [hJ]; rfl
                obtain rfl : res = false := by rw [hI]; rfl
                repeat
                  (first
                   | (apply P_move; (iterate 3 exact rfl)) | (apply P_field; (iterate 6 exact rfl))
                   | (apply P_load; exact rfl; (first | exact I0 | exact I1 | exact I2 | exact I3 | exact I4 | exact I5 | exact I6); (iterate 4 exact rfl))
                   | (apply P_cmp (b := true); (iterate 2 exact rfl); (focus (first | (simp [cmpI]; done) | (simp [cmpI]; omega))); (iterate 2 exact rfl)) | (apply P_lensl; (iterate 4 exact rfl)) | apply EL.nil
                   | ((with_reducible apply EK.then_normal); apply EK.code) | (apply EC.cond_true; exact rfl)
                   | (with_reducible first | apply EC.seq | apply EC.region | apply EC.skip | apply EC.label | apply EC.block | apply EC.exit | apply EC.ret | apply EK.in_normal | apply EK.in_same | apply EK.in_ret | apply EK.then_ret | apply EK.then_exit))
                refine EC.draw 29 (by kernel_rfl) ?_
                simp only [List.take_succ_cons, List.take_zero, List.drop_succ_cons, List.drop_zero]
                repeat
                  (first
                   | (apply H_bin; (iterate 2 exact rfl); exact hz; (iterate 2 exact rfl))
                   | (apply H_call (hc); exact rfl; (focus (repeat first | exact RefineL.refl _ _ | exact RL.nil | exact Rf.same | exact Rf.bs0 | exact Rf.sl0 | (apply Rf.fact; (focus (simp; done)); exact rfl) | apply Rf.tup | apply RL.cons)); (focus (intro _ _; simp [go_sem]; done)); (iterate 2 exact rfl))
                   | (apply H_index; (iterate 4 exact rfl); exact ⟨by omega, by rw [show (((j + 1 : Nat) : Int) - 1) = (j : Int) by omega, Int.toNat_natCast]; exact hdj⟩; (iterate 2 exact rfl))
                   | (apply H_move; (iterate 3 exact rfl)) | (apply H_field; (iterate 6 exact rfl)) | (apply H_fieldpd; (iterate 7 exact rfl)) | (apply H_loadpd; (iterate 5 exact rfl))
                   | (apply H_pick; (iterate 4 exact rfl)) | (apply H_not; (iterate 3 exact rfl))
                   | (apply H_load; exact rfl; (first | exact I0 | exact I1 | exact I2 | exact I3 | exact I4 | exact I5 | exact I6); (iterate 4 exact rfl))
                   | (apply H_cmp (b := true); (iterate 2 exact rfl); (focus (first | (simp [cmpI]; done) | (simp [cmpI]; omega))); (iterate 2 exact rfl))
                   | (apply H_ar; (iterate 3 exact rfl); (focus omega); (focus omega); (iterate 2 exact rfl))
                   | (apply H_index; (iterate 4 exact rfl); (focus (first | exact ⟨by decide, rfl⟩ | (refine ⟨by omega, ?_⟩; rw [Int.toNat_natCast]; assumption))); (iterate 2 exact rfl))
                   | (apply H_build0; (iterate 5 exact rfl)) | ((with_reducible apply EH.nil); exact rfl))
                repeat
                  (first
                   | (apply P_assign; (iterate 3 exact rfl)) | apply EL.nil | ((with_reducible apply EK.then_normal); apply EK.code) | (apply EC.cond_true; exact rfl)
                   | (with_reducible first | apply EC.seq | apply EC.region | apply EC.skip | apply EC.label | apply EC.block | apply EC.exit | apply EC.ret | apply EK.in_normal | apply EK.in_same | apply EK.in_ret | apply EK.then_ret | apply EK.then_exit))
                exact EK.ret1 rfl rfl rfl
        · obtain rfl : rs = true := by rw [hJ, List.drop_eq_nil_of_le (by omega), slM]
          have hI2 : res = accM (prevK Acc.a l (0 + 1)) (l.drop (0 + 1)) := by rw [hI, hnv]; rfl
          repeat
            (first
             | (apply P_move; (iterate 3 exact rfl)) | (apply P_assign; (iterate 3 exact rfl)) | (apply P_field; (iterate 6 exact rfl))
             | (apply P_load; exact rfl; (first | exact I0 | exact I1 | exact I2 | exact I3 | exact I4 | exact I5 | exact I6); (iterate 4 exact rfl))
             | (apply P_cmp (b := false); (iterate 2 exact rfl); (focus (first | (simp [cmpI]; done) | (simp [cmpI]; omega))); (iterate 2 exact rfl))
             | (apply P_ar; (iterate 3 exact rfl); (focus omega); (focus omega); (iterate 2 exact rfl)) | (apply P_lensl; (iterate 4 exact rfl)) | apply EL.nil
             | ((with_reducible apply EK.then_normal); apply EK.code) | (apply EC.cond_false; exact rfl)
             | (with_reducible first | apply EC.seq | apply EC.region | apply EC.skip | apply EC.label | apply EC.block | apply EC.exit | apply EC.ret | apply EK.in_normal | apply EK.in_same | apply EK.in_ret | apply EK.then_ret | apply EK.then_exit))
          refine EK.again ⟨0 + 1, hlt, hI2⟩ (by dsimp only; omega) ?_
          dsimp only
          exact (Le.keep (by repeat first | exact trivial | refine ⟨rfl, ?_⟩) (by repeat first | exact List.nil_sublist _ | apply List.Sublist.cons_cons | apply List.Sublist.cons) (by simp))
    | succ q =>
      have hd' : (l.map dAcc)[q]? = some (dAcc (l[q]'(by omega))) := by rw [List.getElem?_map, List.getElem?_eq_getElem (by omega)]; rfl
      unfold dAcc at hd'
      rw [prevK_succ (by omega : q < l.length), risK_some] at hI
      generalize (l[q]'(by omega)).a = pa at hd' hI
      generalize l[q + 1] = x at hd hE hls hI
      obtain ⟨xa, n, w, cd, ss⟩ := x
      unfold Acc.one at hI
      generalize Acc.empty ⟨xa, n, w, cd, ss⟩ = em at hE hI
      unfold dAcc at hd hE
      dsimp only at hd hE hls hI
      have hge := bin_strge pa xa
      cases hb : Op.bytesLess pa xa with
      | false =>
        rw [hb] at hge hI
        obtain rfl : res = false := by rw [hI]; simp
        repeat
          (first
           | (apply P_move; (iterate 3 exact rfl)) | (apply P_loadpd; (iterate 5 exact rfl))
           | (apply P_cmp (b := true); (iterate 2 exact rfl); (focus (first | (simp [cmpI]; done) | (simp [cmpI]; omega))); (iterate 2 exact rfl)) | (apply P_lensl; (iterate 4 exact rfl))
           | (apply P_index; (iterate 4 exact rfl); (focus (first | exact ⟨by decide, rfl⟩ | (refine ⟨by omega, ?_⟩; rw [Int.toNat_natCast]; assumption))); (iterate 2 exact rfl))
           | (apply P_alloc; exact rfl; exact rfl; exact rfl; intro _) | (apply P_store; exact rfl; (focus (repeat first | exact .z | apply SetAt.s | apply SetAtF.s)); (iterate 4 exact rfl)) | apply EL.nil
           | ((with_reducible apply EK.then_normal); apply EK.code) | (apply EC.cond_true; exact rfl)
           | (with_reducible first | apply EC.seq | apply EC.region | apply EC.skip | apply EC.label | apply EC.block | apply EC.exit | apply EC.ret | apply EK.in_normal | apply EK.in_same | apply EK.in_ret | apply EK.then_ret | apply EK.then_exit))
        refine EC.draw 30 (by kernel_rfl) ?_
        simp only [List.take_succ_cons, List.take_zero, List.drop_succ_cons, List.drop_zero]
        repeat
          (first
           | (apply H_skip; (iterate 2 exact rfl)) | (apply H_bin; (iterate 2 exact rfl); exact hge; (iterate 2 exact rfl)) | (apply H_slpd sl_addr; (iterate 6 exact rfl))
           | (apply H_slarr; exact sl_addr; (iterate 3 exact rfl)) | (apply H_strvar; exact rfl; exact I0; (iterate 4 exact rfl))
           | (apply H_index; (iterate 4 exact rfl); exact ⟨by omega, by rw [show (((q + 1 : Nat) : Int) - 1) = (q : Int) by omega, Int.toNat_natCast]; exact hd'⟩; (iterate 2 exact rfl))
           | (apply H_move; (iterate 3 exact rfl)) | (apply H_field; (iterate 6 exact rfl)) | (apply H_fieldpd; (iterate 7 exact rfl)) | (apply H_pick; (iterate 4 exact rfl))
           | (apply H_cmp (b := true); (iterate 2 exact rfl); (focus (first | (simp [cmpI]; done) | (simp [cmpI]; omega))); (iterate 2 exact rfl))
           | (apply H_ar; (iterate 3 exact rfl); (focus omega); (focus omega); (iterate 2 exact rfl)) | (apply H_str; (iterate 3 exact rfl)) | ((with_reducible apply EH.nil); exact rfl))
        repeat
          (first
           | (apply P_assign; (iterate 3 exact rfl)) | apply EL.nil | ((with_reducible apply EK.then_normal); apply EK.code) | (apply EC.cond_true; exact rfl)
           | (with_reducible first | apply EC.seq | apply EC.region | apply EC.skip | apply EC.label | apply EC.block | apply EC.exit | apply EC.ret | apply EK.in_normal | apply EK.in_same | apply EK.in_ret | apply EK.then_ret | apply EK.then_exit))
        exact EK.ret1 rfl rfl rfl
      | true =>
        rw [hb] at hge hI
        by_cases hneg : n < 0
        · obtain rfl : res = false := by rw [hI, decide_eq_false (show ¬ (0 : Int) ≤ n by omega)]; simp
          repeat
            (first
             | (apply P_move; (iterate 3 exact rfl)) | (apply P_loadpd; (iterate 5 exact rfl))
             | (apply P_cmp (b := true); (iterate 2 exact rfl); (focus (first | (simp [cmpI]; done) | (simp [cmpI]; omega))); (iterate 2 exact rfl)) | (apply P_lensl; (iterate 4 exact rfl))
             | (apply P_index; (iterate 4 exact rfl); (focus (first | exact ⟨by decide, rfl⟩ | (refine ⟨by omega, ?_⟩; rw [Int.toNat_natCast]; assumption))); (iterate 2 exact rfl))
             | (apply P_alloc; exact rfl; exact rfl; exact rfl; intro _) | (apply P_store; exact rfl; (focus (repeat first | exact .z | apply SetAt.s | apply SetAtF.s)); (iterate 4 exact rfl)) | apply EL.nil
             | ((with_reducible apply EK.then_normal); apply EK.code) | (apply EC.cond_true; exact rfl)
             | (with_reducible first | apply EC.seq | apply EC.region | apply EC.skip | apply EC.label | apply EC.block | apply EC.exit | apply EC.ret | apply EK.in_normal | apply EK.in_same | apply EK.in_ret | apply EK.then_ret | apply EK.then_exit))
          refine EC.draw 30 (by kernel_rfl) ?_
          simp only [List.take_succ_cons, List.take_zero, List.drop_succ_cons, List.drop_zero]
          repeat
            (first
             | (apply H_skip; (iterate 2 exact rfl)) | (apply H_bin; (iterate 2 exact rfl); exact hge; (iterate 2 exact rfl)) | (apply H_slpd sl_addr; (iterate 6 exact rfl))
             | (apply H_slarr; exact sl_addr; (iterate 3 exact rfl)) | (apply H_strvar; exact rfl; exact I0; (iterate 4 exact rfl))
             | (apply H_index; (iterate 4 exact rfl); exact ⟨by omega, by rw [show (((q + 1 : Nat) : Int) - 1) = (q : Int) by omega, Int.toNat_natCast]; exact hd'⟩; (iterate 2 exact rfl))
             | (apply H_move; (iterate 3 exact rfl)) | (apply H_field; (iterate 6 exact rfl)) | (apply H_fieldpd; (iterate 7 exact rfl)) | (apply H_pick; (iterate 4 exact rfl))
             | (apply H_load; exact rfl; (first | exact I0 | exact I1 | exact I2 | exact I3 | exact I4 | exact I5 | exact I6); (iterate 4 exact rfl))
             | (apply H_cmp (b := true); (iterate 2 exact rfl); (focus (first | (simp [cmpI]; done) | (simp [cmpI]; omega))); (iterate 2 exact rfl))
             | (apply H_ar; (iterate 3 exact rfl); (focus omega); (focus omega); (iterate 2 exact rfl)) | (apply H_str; (iterate 3 exact rfl)) | ((with_reducible apply EH.nil); exact rfl))
          repeat
            (first
             | (apply P_assign; (iterate 3 exact rfl)) | apply EL.nil | ((with_reducible apply EK.then_normal); apply EK.code) | (apply EC.cond_true; exact rfl)
             | (with_reducible first | apply EC.seq | apply EC.region | apply EC.skip | apply EC.label | apply EC.block | apply EC.exit | apply EC.ret | apply EK.in_normal | apply EK.in_same | apply EK.in_ret | apply EK.then_ret | apply EK.then_exit))
          exact EK.ret1 rfl rfl rfl
        rw [decide_eq_true (show (0 : Int) ≤ n by omega)] at hI
        by_cases hcd : (24576 : Int) < (cd.length : Int)
        · obtain rfl : res = false := by rw [hI, decide_eq_false (show ¬ (cd.length : Int) ≤ 24576 by omega)]; simp
          repeat
            (first
             | (apply P_move; (iterate 3 exact rfl)) | (apply P_loadpd; (iterate 5 exact rfl))
             | (apply P_cmp (b := true); (iterate 2 exact rfl); (focus (first | (simp [cmpI]; done) | (simp [cmpI]; omega))); (iterate 2 exact rfl)) | (apply P_lensl; (iterate 4 exact rfl))
             | (apply P_index; (iterate 4 exact rfl); (focus (first | exact ⟨by decide, rfl⟩ | (refine ⟨by omega, ?_⟩; rw [Int.toNat_natCast]; assumption))); (iterate 2 exact rfl))
             | (apply P_alloc; exact rfl; exact rfl; exact rfl; intro _) | (apply P_store; exact rfl; (focus (repeat first | exact .z | apply SetAt.s | apply SetAtF.s)); (iterate 4 exact rfl)) | apply EL.nil
             | ((with_reducible apply EK.then_normal); apply EK.code) | (apply EC.cond_true; exact rfl)
             | (with_reducible first | apply EC.seq | apply EC.region | apply EC.skip | apply EC.label | apply EC.block | apply EC.exit | apply EC.ret | apply EK.in_normal | apply EK.in_same | apply EK.in_ret | apply EK.then_ret | apply EK.then_exit))
          refine EC.draw 30 (by kernel_rfl) ?_
          simp only [List.take_succ_cons, List.take_zero, List.drop_succ_cons, List.drop_zero]
          repeat
            (first
             | (apply H_skip; (iterate 2 exact rfl)) | (apply H_bin; (iterate 2 exact rfl); exact hge; (iterate 2 exact rfl)) | (apply H_slpd sl_addr; (iterate 6 exact rfl))
             | (apply H_slarr; exact sl_addr; (iterate 3 exact rfl)) | (apply H_strvar; exact rfl; exact I0; (iterate 4 exact rfl))
             | (apply H_index; (iterate 4 exact rfl); exact ⟨by omega, by rw [show (((q + 1 : Nat) : Int) - 1) = (q : Int) by omega, Int.toNat_natCast]; exact hd'⟩; (iterate 2 exact rfl))
             | (apply H_move; (iterate 3 exact rfl)) | (apply H_field; (iterate 6 exact rfl)) | (apply H_fieldpd; (iterate 7 exact rfl)) | (apply H_pick; (iterate 4 exact rfl))
             | (apply H_load; exact rfl; (first | exact I0 | exact I1 | exact I2 | exact I3 | exact I4 | exact I5 | exact I6); (iterate 4 exact rfl))
             | (apply H_cmp (b := true); (iterate 2 exact rfl); (focus (first | (simp [cmpI]; done) | (simp [cmpI]; omega))); (iterate 2 exact rfl))
             | (apply H_cmp (b := false); (iterate 2 exact rfl); (focus (first | (simp [cmpI]; done) | (simp [cmpI]; omega))); (iterate 2 exact rfl))
             | (apply H_ar; (iterate 3 exact rfl); (focus omega); (focus omega); (iterate 2 exact rfl)) | (apply H_lenbs; (iterate 4 exact rfl)) | (apply H_str; (iterate 3 exact rfl))
             | ((with_reducible apply EH.nil); exact rfl))
          repeat
            (first
             | (apply P_assign; (iterate 3 exact rfl)) | apply EL.nil | ((with_reducible apply EK.then_normal); apply EK.code) | (apply EC.cond_true; exact rfl)
             | (with_reducible first | apply EC.seq | apply EC.region | apply EC.skip | apply EC.label | apply EC.block | apply EC.exit | apply EC.ret | apply EK.in_normal | apply EK.in_same | apply EK.in_ret | apply EK.then_ret | apply EK.then_exit))
          exact EK.ret1 rfl rfl rfl
        rw [decide_eq_true (show (cd.length : Int) ≤ 24576 by omega)] at hI
        cases em with
        | true =>
          obtain rfl : res = false := by rw [hI]; simp
          repeat
            (first
             | (apply P_move; (iterate 3 exact rfl)) | (apply P_loadpd; (iterate 5 exact rfl))
             | (apply P_cmp (b := true); (iterate 2 exact rfl); (focus (first | (simp [cmpI]; done) | (simp [cmpI]; omega))); (iterate 2 exact rfl)) | (apply P_lensl; (iterate 4 exact rfl))
             | (apply P_index; (iterate 4 exact rfl); (focus (first | exact ⟨by decide, rfl⟩ | (refine ⟨by omega, ?_⟩; rw [Int.toNat_natCast]; assumption))); (iterate 2 exact rfl))
             | (apply P_alloc; exact rfl; exact rfl; exact rfl; intro _) | (apply P_store; exact rfl; (focus (repeat first | exact .z | apply SetAt.s | apply SetAtF.s)); (iterate 4 exact rfl)) | apply EL.nil
             | ((with_reducible apply EK.then_normal); apply EK.code) | (apply EC.cond_true; exact rfl)
             | (with_reducible first | apply EC.seq | apply EC.region | apply EC.skip | apply EC.label | apply EC.block | apply EC.exit | apply EC.ret | apply EK.in_normal | apply EK.in_same | apply EK.in_ret | apply EK.then_ret | apply EK.then_exit))
          refine EC.draw 30 (by kernel_rfl) ?_
          simp only [List.take_succ_cons, List.take_zero, List.drop_succ_cons, List.drop_zero]
          repeat
            (first
             | (apply H_bin; (iterate 2 exact rfl); exact hge; (iterate 2 exact rfl)) | (apply H_slpd sl_addr; (iterate 6 exact rfl)) | (apply H_slarr; exact sl_addr; (iterate 3 exact rfl))
             | (apply H_strvar; exact rfl; exact I0; (iterate 4 exact rfl))
             | (apply H_index; (iterate 4 exact rfl); exact ⟨by omega, by rw [show (((q + 1 : Nat) : Int) - 1) = (q : Int) by omega, Int.toNat_natCast]; exact hd'⟩; (iterate 2 exact rfl))
             | (apply H_call (hE); exact rfl; (focus (repeat first | exact RefineL.refl _ _ | exact RL.nil | exact Rf.same | exact Rf.bs0 | exact Rf.sl0 | (apply Rf.fact; (focus (simp; done)); exact rfl) | apply Rf.tup | apply RL.cons)); (focus (intro _ _; simp [go_sem]; done)); (iterate 2 exact rfl))
             | (apply H_move; (iterate 3 exact rfl)) | (apply H_field; (iterate 6 exact rfl)) | (apply H_fieldpd; (iterate 7 exact rfl)) | (apply H_pick; (iterate 4 exact rfl))
             | (apply H_load; exact rfl; (first | exact I0 | exact I1 | exact I2 | exact I3 | exact I4 | exact I5 | exact I6); (iterate 4 exact rfl))
             | (apply H_cmp (b := true); (iterate 2 exact rfl); (focus (first | (simp [cmpI]; done) | (simp [cmpI]; omega))); (iterate 2 exact rfl))
             | (apply H_cmp (b := false); (iterate 2 exact rfl); (focus (first | (simp [cmpI]; done) | (simp [cmpI]; omega))); (iterate 2 exact rfl))
             | (apply H_ar; (iterate 3 exact rfl); (focus omega); (focus omega); (iterate 2 exact rfl)) | (apply H_lenbs; (iterate 4 exact rfl)) | (apply H_str; (iterate 3 exact rfl))
             | ((with_reducible apply EH.nil); exact rfl))
          repeat
            (first
             | (apply P_assign; (iterate 3 exact rfl)) | apply EL.nil | ((with_reducible apply EK.then_normal); apply EK.code) | (apply EC.cond_true; exact rfl)
             | (with_reducible first | apply EC.seq | apply EC.region | apply EC.skip | apply EC.label | apply EC.block | apply EC.exit | apply EC.ret | apply EK.in_normal | apply EK.in_same | apply EK.in_ret | apply EK.then_ret | apply EK.then_exit))
          exact EK.ret1 rfl rfl rfl
        | false =>
          repeat
            (first
             | (apply P_move; (iterate 3 exact rfl)) | (apply P_loadpd; (iterate 5 exact rfl))
             | (apply P_cmp (b := true); (iterate 2 exact rfl); (focus (first | (simp [cmpI]; done) | (simp [cmpI]; omega))); (iterate 2 exact rfl)) | (apply P_lensl; (iterate 4 exact rfl))
             | (apply P_index; (iterate 4 exact rfl); (focus (first | exact ⟨by decide, rfl⟩ | (refine ⟨by omega, ?_⟩; rw [Int.toNat_natCast]; assumption))); (iterate 2 exact rfl))
             | (apply P_alloc; exact rfl; exact rfl; exact rfl; intro _) | (apply P_store; exact rfl; (focus (repeat first | exact .z | apply SetAt.s | apply SetAtF.s)); (iterate 4 exact rfl)) | apply EL.nil
             | ((with_reducible apply EK.then_normal); apply EK.code) | (apply EC.cond_true; exact rfl)
             | (with_reducible first | apply EC.seq | apply EC.region | apply EC.skip | apply EC.label | apply EC.block | apply EC.exit | apply EC.ret | apply EK.in_normal | apply EK.in_same | apply EK.in_ret | apply EK.then_ret | apply EK.then_exit))
          refine EC.draw 30 (by kernel_rfl) ?_
          simp only [List.take_succ_cons, List.take_zero, List.drop_succ_cons, List.drop_zero]
          repeat
            (first
             | (apply H_bin; (iterate 2 exact rfl); exact hge; (iterate 2 exact rfl)) | (apply H_slpd sl_addr; (iterate 6 exact rfl)) | (apply H_slarr; exact sl_addr; (iterate 3 exact rfl))
             | (apply H_strvar; exact rfl; exact I0; (iterate 4 exact rfl))
             | (apply H_index; (iterate 4 exact rfl); exact ⟨by omega, by rw [show (((q + 1 : Nat) : Int) - 1) = (q : Int) by omega, Int.toNat_natCast]; exact hd'⟩; (iterate 2 exact rfl))
             | (apply H_call (hE); exact rfl; (focus (repeat first | exact RefineL.refl _ _ | exact RL.nil | exact Rf.same | exact Rf.bs0 | exact Rf.sl0 | (apply Rf.fact; (focus (simp; done)); exact rfl) | apply Rf.tup | apply RL.cons)); (focus (intro _ _; simp [go_sem]; done)); (iterate 2 exact rfl))
             | (apply H_move; (iterate 3 exact rfl)) | (apply H_field; (iterate 6 exact rfl)) | (apply H_fieldpd; (iterate 7 exact rfl)) | (apply H_pick; (iterate 4 exact rfl))
             | (apply H_load; exact rfl; (first | exact I0 | exact I1 | exact I2 | exact I3 | exact I4 | exact I5 | exact I6); (iterate 4 exact rfl))
             | (apply H_cmp (b := true); (iterate 2 exact rfl); (focus (first | (simp [cmpI]; done) | (simp [cmpI]; omega))); (iterate 2 exact rfl))
             | (apply H_cmp (b := false); (iterate 2 exact rfl); (focus (first | (simp [cmpI]; done) | (simp [cmpI]; omega))); (iterate 2 exact rfl))
             | (apply H_ar; (iterate 3 exact rfl); (focus omega); (focus omega); (iterate 2 exact rfl)) | (apply H_lenbs; (iterate 4 exact rfl)) | (apply H_str; (iterate 3 exact rfl))
             | ((with_reducible apply EH.nil); exact rfl))
          rename_i g4
          have hml2 : (ss.map dSlP).length = ss.length := List.length_map _
          generalize hrs : slM none ss = rs at hI
          repeat
            (first
             | (apply P_assign; (iterate 3 exact rfl)) | apply EL.nil | ((with_reducible apply EK.then_normal); apply EK.code) | (apply EC.cond_false; exact rfl)
             | (with_reducible first | apply EC.seq | apply EC.region | apply EC.skip | apply EC.label | apply EC.block | apply EC.exit | apply EC.ret | apply EK.in_normal | apply EK.in_same | apply EK.in_ret | apply EK.then_ret | apply EK.then_exit))
          refine EC.loop (ι := {k : Nat // k ≤ ss.length ∧ rs = slM (prevK (·.1) ss k) (ss.drop k)})
            (fun k => ⟨[(5, .val (.v (.int .i64 (k.1 : Int)))), (3, .val (.v (.int .i64 ((q + 1) : Int)))), (0, .val (.sl 55 (l.map dAcc))), (4, .val (.v (.pointer (some ⟨g4, 0, none⟩))))], [.var g4 32 (.tup [.arr 20 xa, .v (.int .i64 n), .arr 32 w, .bs cd, .sl 64 (ss.map dSlP)])], []⟩)
            (fun k => ss.length - k.1) ⟨0, Nat.zero_le _, hrs.symm⟩ ?_ ?_
          · exact (Le.keep (by repeat first | exact trivial | refine ⟨rfl, ?_⟩) (by repeat first | exact List.nil_sublist _ | apply List.Sublist.cons_cons | apply List.Sublist.cons) (by simp))
          rintro ⟨k, hk, hJ⟩
          dsimp only at hk ⊢
          by_cases hkl : k < ss.length
          · have hdk : (ss.map dSlP)[k]? = some (.tup [.arr 32 ss[k].1, .arr 32 ss[k].2]) := by rw [List.getElem?_map, List.getElem?_eq_getElem hkl]; rfl
            rw [List.drop_eq_getElem_cons hkl, slM_cons] at hJ
            have hz := (bin_word ss[k].2 zero32).1
            cases hv : (ss[k].2 == zero32) with
            | true =>
              rw [hv] at hz hJ
              obtain rfl : rs = false := by rw [hJ]; rfl
              obtain rfl : res = false := by rw [hI]; rfl
              repeat
                (first
                 | (apply P_move; (iterate 3 exact rfl)) | (apply P_field; (iterate 6 exact rfl))
                 | (apply P_load; exact rfl; (first | exact I0 | exact I1 | exact I2 | exact I3 | exact I4 | exact I5 | exact I6); (iterate 4 exact rfl))
                 | (apply P_cmp (b := true); (iterate 2 exact rfl); (focus (first | (simp [cmpI]; done) | (simp [cmpI]; omega))); (iterate 2 exact rfl)) | (apply P_lensl; (iterate 4 exact rfl)) | apply EL.nil
                 | ((with_reducible apply EK.then_normal); apply EK.code) | (apply EC.cond_true; exact rfl)
                 | (with_reducible first | apply EC.seq | apply EC.region | apply EC.skip | apply EC.label | apply EC.block | apply EC.exit | apply EC.ret | apply EK.in_normal | apply EK.in_same | apply EK.in_ret | apply EK.then_ret | apply EK.then_exit))
              refine EC.draw 29 (by kernel_rfl) ?_
              simp only [List.take_succ_cons, List.take_zero, List.drop_succ_cons, List.drop_zero]
              repeat
                (first
                 | (apply H_skip; (iterate 2 exact rfl)) | (apply H_bin; (iterate 2 exact rfl); exact hz; (iterate 2 exact rfl)) | (apply H_move; (iterate 3 exact rfl)) | (apply H_field; (iterate 6 exact rfl))
                 | (apply H_fieldpd; (iterate 7 exact rfl)) | (apply H_loadpd; (iterate 5 exact rfl)) | (apply H_pick; (iterate 4 exact rfl))
                 | (apply H_load; exact rfl; (first | exact I0 | exact I1 | exact I2 | exact I3 | exact I4 | exact I5 | exact I6); (iterate 4 exact rfl))
                 | (apply H_index; (iterate 4 exact rfl); (focus (first | exact ⟨by decide, rfl⟩ | (refine ⟨by omega, ?_⟩; rw [Int.toNat_natCast]; assumption))); (iterate 2 exact rfl))
                 | (apply H_build0; (iterate 5 exact rfl)) | ((with_reducible apply EH.nil); exact rfl))
              repeat
                (first
                 | (apply P_assign; (iterate 3 exact rfl)) | apply EL.nil | ((with_reducible apply EK.then_normal); apply EK.code) | (apply EC.cond_true; exact rfl)
                 | (with_reducible first | apply EC.seq | apply EC.region | apply EC.skip | apply EC.label | apply EC.block | apply EC.exit | apply EC.ret | apply EK.in_normal | apply EK.in_same | apply EK.in_ret | apply EK.then_ret | apply EK.then_exit))
              exact EK.ret1 rfl rfl rfl
            | false =>
              rw [hv] at hz hJ
              cases k with
              | zero =>
                have hJ2 : rs = slM (prevK (·.1) ss 1) (ss.drop 1) := by rw [hJ, prevK_succ hkl]; rfl
                repeat
                  (first
                   | (apply P_move; (iterate 3 exact rfl)) | (apply P_field; (iterate 6 exact rfl))
                   | (apply P_load; exact rfl; (first | exact I0 | exact I1 | exact I2 | exact I3 | exact I4 | exact I5 | exact I6); (iterate 4 exact rfl))
                   | (apply P_cmp (b := true); (iterate 2 exact rfl); (focus (first | (simp [cmpI]; done) | (simp [cmpI]; omega))); (iterate 2 exact rfl)) | (apply P_lensl; (iterate 4 exact rfl)) | apply EL.nil
                   | ((with_reducible apply EK.then_normal); apply EK.code) | (apply EC.cond_true; exact rfl)
                   | (with_reducible first | apply EC.seq | apply EC.region | apply EC.skip | apply EC.label | apply EC.block | apply EC.exit | apply EC.ret | apply EK.in_normal | apply EK.in_same | apply EK.in_ret | apply EK.then_ret | apply EK.then_exit))
                refine EC.draw 29 (by kernel_rfl) ?_
                simp only [List.take_succ_cons, List.take_zero, List.drop_succ_cons, List.drop_zero]
                repeat
                  (first
                   | (apply H_skip; (iterate 2 exact rfl)) | (apply H_bin; (iterate 2 exact rfl); exact hz; (iterate 2 exact rfl)) | (apply H_move; (iterate 3 exact rfl)) | (apply H_field; (iterate 6 exact rfl))
                   | (apply H_fieldpd; (iterate 7 exact rfl)) | (apply H_loadpd; (iterate 5 exact rfl)) | (apply H_pick; (iterate 4 exact rfl))
                   | (apply H_load; exact rfl; (first | exact I0 | exact I1 | exact I2 | exact I3 | exact I4 | exact I5 | exact I6); (iterate 4 exact rfl))
                   | (apply H_cmp (b := false); (iterate 2 exact rfl); (focus (first | (simp [cmpI]; done) | (simp [cmpI]; omega))); (iterate 2 exact rfl))
                   | (apply H_index; (iterate 4 exact rfl); (focus (first | exact ⟨by decide, rfl⟩ | (refine ⟨by omega, ?_⟩; rw [Int.toNat_natCast]; assumption))); (iterate 2 exact rfl))
                   | (apply H_build0; (iterate 5 exact rfl)) | ((with_reducible apply EH.nil); exact rfl))
                repeat
                  (first
                   | (apply P_move; (iterate 3 exact rfl)) | (apply P_assign; (iterate 3 exact rfl)) | (apply P_ar; (iterate 3 exact rfl); (focus omega); (focus omega); (iterate 2 exact rfl)) | apply EL.nil
                   | ((with_reducible apply EK.then_normal); apply EK.code) | (apply EC.cond_false; exact rfl)
                   | (with_reducible first | apply EC.seq | apply EC.region | apply EC.skip | apply EC.label | apply EC.block | apply EC.exit | apply EC.ret | apply EK.in_normal | apply EK.in_same | apply EK.in_ret | apply EK.then_ret | apply EK.then_exit))
                refine EK.again ⟨1, hkl, hJ2⟩ (by dsimp only; omega) ?_
                exact (Le.keep (by repeat first | exact trivial | refine ⟨rfl, ?_⟩) (by repeat first | exact List.nil_sublist _ | apply List.Sublist.cons_cons | apply List.Sublist.cons) (by simp))
              | succ j =>
                have hdj : (ss.map dSlP)[j]? = some (.tup [.arr 32 (ss[j]'(by omega)).1, .arr 32 (ss[j]'(by omega)).2]) := by rw [List.getElem?_map, List.getElem?_eq_getElem (by omega)]; rfl
                rw [prevK_succ (by omega : j < ss.length), risK_some] at hJ
                have hc := f_rLessB (ss[j]'(by omega)).1 ss[j + 1].1
                cases hb : Op.bytesLess (ss[j]'(by omega)).1 ss[j + 1].1 with
                | true =>
                  rw [hb] at hc hJ
                  have hJ2 : rs = slM (prevK (·.1) ss (j + 1 + 1)) (ss.drop (j + 1 + 1)) := by
                    rw [hJ, prevK_succ hkl]
                    rfl
                  repeat
                    (first
                     | (apply P_move; (iterate 3 exact rfl)) | (apply P_field; (iterate 6 exact rfl))
                     | (apply P_load; exact rfl; (first | exact I0 | exact I1 | exact I2 | exact I3 | exact I4 | exact I5 | exact I6); (iterate 4 exact rfl))
                     | (apply P_cmp (b := true); (iterate 2 exact rfl); (focus (first | (simp [cmpI]; done) | (simp [cmpI]; omega))); (iterate 2 exact rfl)) | (apply P_lensl; (iterate 4 exact rfl)) | apply EL.nil
                     | ((with_reducible apply EK.then_normal); apply EK.code) | (apply EC.cond_true; exact rfl)
                     | (with_reducible first | apply EC.seq | apply EC.region | apply EC.skip | apply EC.label | apply EC.block | apply EC.exit | apply EC.ret | apply EK.in_normal | apply EK.in_same | apply EK.in_ret | apply EK.then_ret | apply EK.then_exit))
                  refine EC.draw 29 (by kernel_rfl) ?_
                  simp only [List.take_succ_cons, List.take_zero, List.drop_succ_cons, List.drop_zero]
                  repeat
                    (first
                     | (apply H_bin; (iterate 2 exact rfl); exact hz; (iterate 2 exact rfl))
                     | (apply H_call (hc); exact rfl; (focus (repeat first | exact RefineL.refl _ _ | exact RL.nil | exact Rf.same | exact Rf.bs0 | exact Rf.sl0 | (apply Rf.fact; (focus (simp; done)); exact rfl) | apply Rf.tup | apply RL.cons)); (focus (intro _ _; simp [go_sem]; done)); (iterate 2 exact rfl))
                     | (apply H_index; (iterate 4 exact rfl); exact ⟨by omega, by rw [show (((j + 1 : Nat) : Int) - 1) = (j : Int) by omega, Int.toNat_natCast]; exact hdj⟩; (iterate 2 exact rfl))
                     | (apply H_move; (iterate 3 exact rfl)) | (apply H_field; (iterate 6 exact rfl)) | (apply H_fieldpd; (iterate 7 exact rfl)) | (apply H_loadpd; (iterate 5 exact rfl))
                     | (apply H_pick; (iterate 4 exact rfl)) | (apply H_not; (iterate 3 exact rfl))
                     | (apply H_load; exact rfl; (first | exact I0 | exact I1 | exact I2 | exact I3 | exact I4 | exact I5 | exact I6); (iterate 4 exact rfl))
                     | (apply H_cmp (b := true); (iterate 2 exact rfl); (focus (first | (simp [cmpI]; done) | (simp [cmpI]; omega))); (iterate 2 exact rfl))
                     | (apply H_ar; (iterate 3 exact rfl); (focus omega); (focus omega); (iterate 2 exact rfl))
                     | (apply H_index; (iterate 4 exact rfl); (focus (first | exact ⟨by decide, rfl⟩ | (refine ⟨by omega, ?_⟩; rw [Int.toNat_natCast]; assumption))); (iterate 2 exact rfl))
                     | (apply H_build0; (iterate 5 exact rfl)) | ((with_reducible apply EH.nil); exact rfl))
                  repeat
                    (first
                     | (apply P_move; (iterate 3 exact rfl)) | (apply P_assign; (iterate 3 exact rfl)) | (apply P_ar; (iterate 3 exact rfl); (focus omega); (focus omega); (iterate 2 exact rfl)) | apply EL.nil
                     | ((with_reducible apply EK.then_normal); apply EK.code) | (apply EC.cond_false; exact rfl)
                     | (with_reducible first | apply EC.seq | apply EC.region | apply EC.skip | apply EC.label | apply EC.block | apply EC.exit | apply EC.ret | apply EK.in_normal | apply EK.in_same | apply EK.in_ret | apply EK.then_ret | apply EK.then_exit))
                  refine EK.again ⟨j + 1 + 1, hkl, hJ2⟩ (by dsimp only; omega) ?_
                  dsimp only
                  rw [show (((j + 1 : Nat) : Int) + 1) = ((j + 1 + 1 : Nat) : Int) by omega]
                  exact (Le.keep (by repeat first | exact trivial | refine ⟨rfl, ?_⟩) (by repeat first | exact List.nil_sublist _ | apply List.Sublist.cons_cons | apply List.Sublist.cons) (by simp))
                | false =>
                  rw [hb] at hc hJ
                  obtain rfl : rs = false := by rw [hJ]; rfl
                  obtain rfl : res = false := by rw [hI]; rfl
                  repeat
                    (first
                     | (apply P_move; (iterate 3 exact rfl)) | (apply P_field; (iterate 6 exact rfl))
                     | (apply P_load; exact rfl; (first | exact I0 | exact I1 | exact I2 | exact I3 | exact I4 | exact I5 | exact I6); (iterate 4 exact rfl))
                     | (apply P_cmp (b := true); (iterate 2 exact rfl); (focus (first | (simp [cmpI]; done) | (simp [cmpI]; omega))); (iterate 2 exact rfl)) | (apply P_lensl; (iterate 4 exact rfl)) | apply EL.nil
                     | ((with_reducible apply EK.then_normal); apply EK.code) | (apply EC.cond_true; exact rfl)
                     | (with_reducible first | apply EC.seq | apply EC.region | apply EC.skip | apply EC.label | apply EC.block | apply EC.exit | apply EC.ret | apply EK.in_normal | apply EK.in_same | apply EK.in_ret | apply EK.then_ret | apply EK.then_exit))
                  refine EC.draw 29 (by kernel_rfl) ?_
                  simp only [List.take_succ_cons, List.take_zero, List.drop_succ_cons, List.drop_zero]
                  repeat
                    (first
                     | (apply H_bin; (iterate 2 exact rfl); exact hz; (iterate 2 exact rfl))
                     | (apply H_call (hc); exact rfl; (focus (repeat first | exact RefineL.refl _ _ | exact RL.nil | exact Rf.same | exact Rf.bs0 | exact Rf.sl0 | (apply Rf.fact; (focus (simp; done)); exact rfl) | apply Rf.tup | apply RL.cons)); (focus (intro _ _; simp [go_sem]; done)); (iterate 2 exact rfl))
                     | (apply H_index; (iterate 4 exact rfl); exact ⟨by omega, by rw [show (((j + 1 : Nat) : Int) - 1) = (j : Int) by omega, Int.toNat_natCast]; exact hdj⟩; (iterate 2 exact rfl))
                     | (apply H_move; (iterate 3 exact rfl)) | (apply H_field; (iterate 6 exact rfl)) | (apply H_fieldpd; (iterate 7 exact rfl)) | (apply H_loadpd; (iterate 5 exact rfl))
                     | (apply H_pick; (iterate 4 exact rfl)) | (apply H_not; (iterate 3 exact rfl))
                     | (apply H_load; exact rfl; (first | exact I0 | exact I1 | exact I2 | exact I3 | exact I4 | exact I5 | exact I6); (iterate 4 exact rfl))
                     | (apply H_cmp (b := true); (iterate 2 exact rfl); (focus (first | (simp [cmpI]; done) | (simp [cmpI]; omega))); (iterate 2 exact rfl))
                     | (apply H_ar; (iterate 3 exact rfl); (focus omega); (focus omega); (iterate 2 exact rfl))
                     | (apply H_index; (iterate 4 exact rfl); (focus (first | exact ⟨by decide, rfl⟩ | (refine ⟨by omega, ?_⟩; rw [Int.toNat_natCast]; assumption))); (iterate 2 exact rfl))
                     | (apply H_build0; (iterate 5 exact rfl)) | ((with_reducible apply EH.nil); exact rfl))
                  repeat
                    (first
                     | (apply P_assign; (iterate 3 exact rfl)) | apply EL.nil | ((with_reducible apply EK.then_normal); apply EK.code) | (apply EC.cond_true; exact rfl)
                     | (with_reducible first | apply EC.seq | apply EC.region | apply EC.skip | apply EC.label | apply EC.block | apply EC.exit | apply EC.ret | apply EK.in_normal | apply EK.in_same | apply EK.in_ret | apply EK.then_ret | apply EK.then_exit))
                  exact EK.ret1 rfl rfl rfl
          · obtain rfl : rs = true := by rw [hJ, List.drop_eq_nil_of_le (by omega), slM]
            have hI2 : res = accM (prevK Acc.a l ((q + 1) + 1)) (l.drop ((q + 1) + 1)) := by rw [hI, hnv]; rfl
            repeat
              (first
               | (apply P_move; (iterate 3 exact rfl)) | (apply P_assign; (iterate 3 exact rfl)) | (apply P_field; (iterate 6 exact rfl))
               | (apply P_load; exact rfl; (first | exact I0 | exact I1 | exact I2 | exact I3 | exact I4 | exact I5 | exact I6); (iterate 4 exact rfl))
               | (apply P_cmp (b := false); (iterate 2 exact rfl); (focus (first | (simp [cmpI]; done) | (simp [cmpI]; omega))); (iterate 2 exact rfl))
               | (apply P_ar; (iterate 3 exact rfl); (focus omega); (focus omega); (iterate 2 exact rfl)) | (apply P_lensl; (iterate 4 exact rfl)) | apply EL.nil
               | ((with_reducible apply EK.then_normal); apply EK.code) | (apply EC.cond_false; exact rfl)
               | (with_reducible first | apply EC.seq | apply EC.region | apply EC.skip | apply EC.label | apply EC.block | apply EC.exit | apply EC.ret | apply EK.in_normal | apply EK.in_same | apply EK.in_ret | apply EK.then_ret | apply EK.then_exit))
            refine EK.again ⟨(q + 1) + 1, hlt, hI2⟩ (by dsimp only; omega) ?_
            dsimp only; rw [show ((q : Int) + 1 + 1) = ((q + 1 + 1 : Nat) : Int) by omega]
            exact (Le.keep (by repeat first | exact trivial | refine ⟨rfl, ?_⟩) (by repeat first | exact List.nil_sublist _ | apply List.Sublist.cons_cons | apply List.Sublist.cons) (by simp))
  · obtain rfl : res = true := by rw [hI, List.drop_eq_nil_of_le (by omega), accM]
    repeat
      (first
       | (apply P_move; (iterate 3 exact rfl)) | (apply P_assign; (iterate 3 exact rfl))
       | (apply P_cmp (b := false); (iterate 2 exact rfl); (focus (first | (simp [cmpI]; done) | (simp [cmpI]; omega))); (iterate 2 exact rfl)) | (apply P_lensl; (iterate 4 exact rfl)) | apply EL.nil
       | ((with_reducible apply EK.then_normal); apply EK.code) | (apply EC.cond_false; exact rfl)
       | (with_reducible first | apply EC.seq | apply EC.region | apply EC.skip | apply EC.label | apply EC.block | apply EC.exit | apply EC.ret | apply EK.in_normal | apply EK.in_same | apply EK.in_ret | apply EK.then_ret | apply EK.then_exit))
    exact EK.ret1 rfl rfl rfl
end E
end Go.Proofs.YtmlajcbabimkjaaGreat
