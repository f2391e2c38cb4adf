/-
  Merged (wip/tools/merge.py): AB3, Kec, KecMem, KecTake.
  Conditions: none.
-/
import Derived.Test.YtmlajcbabimkjaaZB16
import Derived.Test.YtmlajcbabimkjaaZB2
import Derived.BigQuiet
import Derived.Deep.QuietTactic
import Derived.Laws.BitsAllLaws
/-
  Bodies: the reference's ReadBody.
  Conditions: none.
-/
namespace Go.Proofs.Ytmlajcbabimkjaa
set_option linter.unusedVariables false
open Go.RowKit Mono Rlp
namespace E
theorem bdX4 (bs : List UInt8) (a b c d : Raw) : bdX (.mk true bs [a, b, c, d]) = (intR a).bind fun n => (wordR b).bind fun w => (wh c).bind fun r => (wh d).map fun h => (n, w, r, h) := by
  rw [bdX]
  cases intR a <;> cases wordR b <;> cases wh c <;> cases wh d <;> rfl
theorem bdX_bad (bs : List UInt8) (a b c d : Raw) (h : wh c = none ∨ wh d = none) : bdX (.mk true bs [a, b, c, d]) = none := by
  rw [bdX4]
  rcases h with h | h <;> (rw [h]; cases intR a <;> cases wordR b <;> first | rfl | (cases wh c <;> rfl))
set_option maxRecDepth 20000 in
set_option maxHeartbeats 8000000 in
theorem f_rReadBody (b : List UInt8) : Fn 29 [.bs b] (· = rbR (bdB b)) := by
  have h1 := f_ReadRef b
  unfold readD rdX rdE at h1
  unfold bdB
  refine Fn.walk 106 Try.func29 rfl Try.ntmps29 (by simp) fun X => ?_
  cases hr : readR b with
  | error e =>
    rw [hr] at h1
    dsimp only at h1 ⊢
    rw [dItem] at h1
    have he := readR_err hr
    repeat
      (first
       | (apply P_skip; (iterate 2 exact rfl))
       | (apply P_call (h1); exact rfl; (focus (repeat first | exact RefineL.refl _ _ | exact RL.nil | exact Rf.same | exact Rf.bs0 | exact Rf.sl0 | (apply Rf.fact; (focus (simp; done)); exact rfl) | apply Rf.tup | apply RL.cons)); (focus (intro _ _; simp [go_sem]; done)); (iterate 2 exact rfl))
       | (apply P_move; (iterate 3 exact rfl)) | (apply P_assign; (iterate 3 exact rfl)) | (apply P_extract; (iterate 4 exact rfl)) | (apply P_pick; (iterate 4 exact rfl))
       | (apply P_cmp (b := true); (iterate 2 exact rfl); (focus (first | (simp [cmpI]; done) | (simp [cmpI]; omega))); (iterate 2 exact rfl)) | (apply P_build; (iterate 7 exact rfl))
       | (apply P_alloc; exact rfl; exact rfl; exact rfl; intro _) | (apply P_store; exact rfl; (focus (repeat first | exact .z | apply SetAt.s | apply SetAtF.s)); (iterate 4 exact rfl)) | apply EL.nil
       | ((with_reducible apply EK.then_normal); apply EK.code) | (apply EC.cond_true; exact rfl)
       | (with_reducible first | apply EC.seq | apply EC.region | apply EC.skip | apply EC.label | apply EC.block | apply EC.exit | apply EC.ret | apply EK.in_normal | apply EK.in_same | apply EK.in_ret | apply EK.then_ret | apply EK.then_exit))
    refine EK.retc2r 1 rfl rfl rfl rfl rfl ?_ rfl
    (repeat first | exact RefineL.refl _ _ | exact RL.nil | exact Rf.same | exact Rf.bs0 | exact Rf.sl0 | (apply Rf.fact; (focus (simp; done)); exact rfl) | apply Rf.tup | apply RL.cons)
  | ok x =>
    rw [hr] at h1
    dsimp only at h1 ⊢
    obtain ⟨il, bs, xs⟩ := x
    rw [dItem] at h1
    cases il with
    | false =>
      have hbd : bdX (.mk false bs xs) = none := rfl
      rw [hbd]
      repeat
        (first
         | (apply P_skip; (iterate 2 exact rfl))
         | (apply P_call (h1); exact rfl; (focus (repeat first | exact RefineL.refl _ _ | exact RL.nil | exact Rf.same | exact Rf.bs0 | exact Rf.sl0 | (apply Rf.fact; (focus (simp; done)); exact rfl) | apply Rf.tup | apply RL.cons)); (focus (intro _ _; simp [go_sem]; done)); (iterate 2 exact rfl))
         | (apply P_move; (iterate 3 exact rfl)) | (apply P_assign; (iterate 3 exact rfl)) | (apply P_field; (iterate 6 exact rfl)) | (apply P_extract; (iterate 4 exact rfl))
         | (apply P_pick; (iterate 4 exact rfl)) | (apply P_not; (iterate 3 exact rfl))
         | (apply P_load; exact rfl; (first | exact I0 | exact I1 | exact I2 | exact I3 | exact I4 | exact I5 | exact I6); (iterate 4 exact rfl))
         | (apply P_cmp (b := false); (iterate 2 exact rfl); (focus (first | (simp [cmpI]; done) | (simp [cmpI]; omega))); (iterate 2 exact rfl)) | (apply P_build; (iterate 7 exact rfl))
         | (apply P_alloc; exact rfl; exact rfl; exact rfl; intro _) | (apply P_store; exact rfl; (focus (repeat first | exact .z | apply SetAt.s | apply SetAtF.s)); (iterate 4 exact rfl)) | apply EL.nil
         | ((with_reducible apply EK.then_normal); apply EK.code) | (apply EC.cond_true; exact rfl)
         | (with_reducible first | apply EC.seq | apply EC.region | apply EC.skip | apply EC.label | apply EC.block | apply EC.exit | apply EC.ret | apply EK.in_normal | apply EK.in_same | apply EK.in_ret | apply EK.then_ret | apply EK.then_exit))
      refine EK.retc2r 1 rfl rfl rfl rfl rfl ?_ rfl
      (repeat first | exact RefineL.refl _ _ | exact RL.nil | exact Rf.same | exact Rf.bs0 | exact Rf.sl0 | (apply Rf.fact; (focus (simp; done)); exact rfl) | apply Rf.tup | apply RL.cons)
    | true =>
      by_cases h4 : xs.length = 4
      · match xs, h4 with
        | [⟨p1, q1, z1⟩, ⟨p2, q2, z2⟩, ⟨p3, q3, z3⟩, ⟨p4, q4, z4⟩], _ =>
          have g1 := f_IntOf (.mk p1 q1 z1)
          have g2 := f_WordOf (.mk p2 q2 z2)
          unfold intD at g1
          unfold wordD at g2
          simp only [dItems, dItem] at h1 g1 g2
          cases p3 with
          | true =>
            rw [bdX_bad _ _ _ _ _ (.inl rfl)]
            repeat
              (first
               | (apply P_skip; (iterate 2 exact rfl))
               | (apply P_call (h1); exact rfl; (focus (repeat first | exact RefineL.refl _ _ | exact RL.nil | exact Rf.same | exact Rf.bs0 | exact Rf.sl0 | (apply Rf.fact; (focus (simp; done)); exact rfl) | apply Rf.tup | apply RL.cons)); (focus (intro _ _; simp [go_sem]; done)); (iterate 2 exact rfl))
               | (apply P_move; (iterate 3 exact rfl)) | (apply P_assign; (iterate 3 exact rfl)) | (apply P_field; (iterate 6 exact rfl)) | (apply P_fieldpd; (iterate 7 exact rfl))
               | (apply P_extract; (iterate 4 exact rfl)) | (apply P_loadpd; (iterate 5 exact rfl)) | (apply P_pick; (iterate 4 exact rfl)) | (apply P_not; (iterate 3 exact rfl))
               | (apply P_load; exact rfl; (first | exact I0 | exact I1 | exact I2 | exact I3 | exact I4 | exact I5 | exact I6); (iterate 4 exact rfl))
               | (apply P_cmp (b := false); (iterate 2 exact rfl); (focus (first | (simp [cmpI]; done) | (simp [cmpI]; omega))); (iterate 2 exact rfl)) | (apply P_lensl; (iterate 4 exact rfl))
               | (apply P_index; (iterate 4 exact rfl); (focus (first | exact ⟨by decide, rfl⟩ | (refine ⟨by omega, ?_⟩; rw [Int.toNat_natCast]; assumption))); (iterate 2 exact rfl))
               | (apply P_build; (iterate 7 exact rfl)) | (apply P_alloc; exact rfl; exact rfl; exact rfl; intro _)
               | (apply P_store; exact rfl; (focus (repeat first | exact .z | apply SetAt.s | apply SetAtF.s)); (iterate 4 exact rfl)) | apply EL.nil | ((with_reducible apply EK.then_normal); apply EK.code)
               | (apply EC.cond_true; exact rfl)
               | (with_reducible first | apply EC.seq | apply EC.region | apply EC.skip | apply EC.label | apply EC.block | apply EC.exit | apply EC.ret | apply EK.in_normal | apply EK.in_same | apply EK.in_ret | apply EK.then_ret | apply EK.then_exit))
            refine EK.retc2r 1 rfl rfl rfl rfl rfl ?_ rfl
            (repeat first | exact RefineL.refl _ _ | exact RL.nil | exact Rf.same | exact Rf.bs0 | exact Rf.sl0 | (apply Rf.fact; (focus (simp; done)); exact rfl) | apply Rf.tup | apply RL.cons)
          | false =>
            cases p4 with
            | true =>
              rw [bdX_bad _ _ _ _ _ (.inr rfl)]
              repeat
                (first
                 | (apply P_skip; (iterate 2 exact rfl))
                 | (apply P_call (h1); exact rfl; (focus (repeat first | exact RefineL.refl _ _ | exact RL.nil | exact Rf.same | exact Rf.bs0 | exact Rf.sl0 | (apply Rf.fact; (focus (simp; done)); exact rfl) | apply Rf.tup | apply RL.cons)); (focus (intro _ _; simp [go_sem]; done)); (iterate 2 exact rfl))
                 | (apply P_move; (iterate 3 exact rfl)) | (apply P_assign; (iterate 3 exact rfl)) | (apply P_field; (iterate 6 exact rfl)) | (apply P_fieldpd; (iterate 7 exact rfl))
                 | (apply P_extract; (iterate 4 exact rfl)) | (apply P_loadpd; (iterate 5 exact rfl)) | (apply P_pick; (iterate 4 exact rfl)) | (apply P_not; (iterate 3 exact rfl))
                 | (apply P_load; exact rfl; (first | exact I0 | exact I1 | exact I2 | exact I3 | exact I4 | exact I5 | exact I6); (iterate 4 exact rfl))
                 | (apply P_cmp (b := false); (iterate 2 exact rfl); (focus (first | (simp [cmpI]; done) | (simp [cmpI]; omega))); (iterate 2 exact rfl)) | (apply P_lensl; (iterate 4 exact rfl))
                 | (apply P_index; (iterate 4 exact rfl); (focus (first | exact ⟨by decide, rfl⟩ | (refine ⟨by omega, ?_⟩; rw [Int.toNat_natCast]; assumption))); (iterate 2 exact rfl))
                 | (apply P_build; (iterate 7 exact rfl)) | (apply P_alloc; exact rfl; exact rfl; exact rfl; intro _)
                 | (apply P_store; exact rfl; (focus (repeat first | exact .z | apply SetAt.s | apply SetAtF.s)); (iterate 4 exact rfl)) | apply EL.nil | ((with_reducible apply EK.then_normal); apply EK.code)
                 | (apply EC.cond_true; exact rfl)
                 | (with_reducible first | apply EC.seq | apply EC.region | apply EC.skip | apply EC.label | apply EC.block | apply EC.exit | apply EC.ret | apply EK.in_normal | apply EK.in_same | apply EK.in_ret | apply EK.then_ret | apply EK.then_exit))
              refine EK.retc2r 1 rfl rfl rfl rfl rfl ?_ rfl
              (repeat first | exact RefineL.refl _ _ | exact RL.nil | exact Rf.same | exact Rf.bs0 | exact Rf.sl0 | (apply Rf.fact; (focus (simp; done)); exact rfl) | apply Rf.tup | apply RL.cons)
            | false =>
              by_cases k3 : q3.length = 32
              · by_cases k4 : q4.length = 32
                · rw [bdX4, show wh (.mk false q3 z3) = some q3 by rw [wh, if_pos k3], show wh (.mk false q4 z4) = some q4 by rw [wh, if_pos k4]]
                  cases e1 : intR (.mk p1 q1 z1) with
                  | none =>
                    rw [e1] at g1
                    repeat
                      (first
                       | (apply P_skip; (iterate 2 exact rfl))
                       | (apply P_call (h1); exact rfl; (focus (repeat first | exact RefineL.refl _ _ | exact RL.nil | exact Rf.same | exact Rf.bs0 | exact Rf.sl0 | (apply Rf.fact; (focus (simp; done)); exact rfl) | apply Rf.tup | apply RL.cons)); (focus (intro _ _; simp [go_sem]; done)); (iterate 2 exact rfl))
                       | (apply P_call (g1); exact rfl; (focus (repeat first | exact RefineL.refl _ _ | exact RL.nil | exact Rf.same | exact Rf.bs0 | exact Rf.sl0 | (apply Rf.fact; (focus (simp; done)); exact rfl) | apply Rf.tup | apply RL.cons)); (focus (intro _ _; simp [go_sem]; done)); (iterate 2 exact rfl))
                       | (apply P_call (g2); exact rfl; (focus (repeat first | exact RefineL.refl _ _ | exact RL.nil | exact Rf.same | exact Rf.bs0 | exact Rf.sl0 | (apply Rf.fact; (focus (simp; done)); exact rfl) | apply Rf.tup | apply RL.cons)); (focus (intro _ _; simp [go_sem]; done)); (iterate 2 exact rfl))
                       | (apply P_move; (iterate 3 exact rfl)) | (apply P_assign; (iterate 3 exact rfl)) | (apply P_field; (iterate 6 exact rfl)) | (apply P_fieldpd; (iterate 7 exact rfl))
                       | (apply P_extract; (iterate 4 exact rfl)) | (apply P_loadpd; (iterate 5 exact rfl)) | (apply P_pick; (iterate 4 exact rfl)) | (apply P_not; (iterate 3 exact rfl))
                       | (apply P_load; exact rfl; (first | exact I0 | exact I1 | exact I2 | exact I3 | exact I4 | exact I5 | exact I6); (iterate 4 exact rfl))
                       | (apply P_cmp (b := false); (iterate 2 exact rfl); (focus (first | (simp [cmpI]; done) | (simp [cmpI]; omega))); (iterate 2 exact rfl)) | (apply P_lenbs; (iterate 4 exact rfl))
                       | (apply P_lensl; (iterate 4 exact rfl))
                       | (apply P_index; (iterate 4 exact rfl); (focus (first | exact ⟨by decide, rfl⟩ | (refine ⟨by omega, ?_⟩; rw [Int.toNat_natCast]; assumption))); (iterate 2 exact rfl))
                       | (apply P_alloc; exact rfl; exact rfl; exact rfl; intro _) | (apply P_store; exact rfl; (focus (repeat first | exact .z | apply SetAt.s | apply SetAtF.s)); (iterate 4 exact rfl)) | apply EL.nil
                       | ((with_reducible apply EK.then_normal); apply EK.code) | (apply EC.cond_true; exact rfl) | (apply EC.cond_false; exact rfl)
                       | (with_reducible first | apply EC.seq | apply EC.region | apply EC.skip | apply EC.label | apply EC.block | apply EC.exit | apply EC.ret | apply EK.in_normal | apply EK.in_same | apply EK.in_ret | apply EK.then_ret | apply EK.then_exit))
                    refine EK.retc2r 3 rfl rfl rfl rfl rfl ?_ rfl
                    (repeat first | exact RefineL.refl _ _ | exact RL.nil | exact Rf.same | exact Rf.bs0 | exact Rf.sl0 | (apply Rf.fact; (focus (simp; done)); exact rfl) | apply Rf.tup | apply RL.cons)
                  | some n =>
                    rw [e1] at g1
                    cases e2 : wordR (.mk p2 q2 z2) with
                    | none =>
                      rw [e2] at g2
                      repeat
                        (first
                         | (apply P_call (h1); exact rfl; (focus (repeat first | exact RefineL.refl _ _ | exact RL.nil | exact Rf.same | exact Rf.bs0 | exact Rf.sl0 | (apply Rf.fact; (focus (simp; done)); exact rfl) | apply Rf.tup | apply RL.cons)); (focus (intro _ _; simp [go_sem]; done)); (iterate 2 exact rfl))
                         | (apply P_call (g1); exact rfl; (focus (repeat first | exact RefineL.refl _ _ | exact RL.nil | exact Rf.same | exact Rf.bs0 | exact Rf.sl0 | (apply Rf.fact; (focus (simp; done)); exact rfl) | apply Rf.tup | apply RL.cons)); (focus (intro _ _; simp [go_sem]; done)); (iterate 2 exact rfl))
                         | (apply P_call (g2); exact rfl; (focus (repeat first | exact RefineL.refl _ _ | exact RL.nil | exact Rf.same | exact Rf.bs0 | exact Rf.sl0 | (apply Rf.fact; (focus (simp; done)); exact rfl) | apply Rf.tup | apply RL.cons)); (focus (intro _ _; simp [go_sem]; done)); (iterate 2 exact rfl))
                         | (apply P_move; (iterate 3 exact rfl)) | (apply P_assign; (iterate 3 exact rfl)) | (apply P_field; (iterate 6 exact rfl)) | (apply P_fieldpd; (iterate 7 exact rfl))
                         | (apply P_extract; (iterate 4 exact rfl)) | (apply P_loadpd; (iterate 5 exact rfl)) | (apply P_pick; (iterate 4 exact rfl)) | (apply P_not; (iterate 3 exact rfl))
                         | (apply P_load; exact rfl; (first | exact I0 | exact I1 | exact I2 | exact I3 | exact I4 | exact I5 | exact I6); (iterate 4 exact rfl))
                         | (apply P_cmp (b := false); (iterate 2 exact rfl); (focus (first | (simp [cmpI]; done) | (simp [cmpI]; omega))); (iterate 2 exact rfl)) | (apply P_lenbs; (iterate 4 exact rfl))
                         | (apply P_lensl; (iterate 4 exact rfl))
                         | (apply P_index; (iterate 4 exact rfl); (focus (first | exact ⟨by decide, rfl⟩ | (refine ⟨by omega, ?_⟩; rw [Int.toNat_natCast]; assumption))); (iterate 2 exact rfl))
                         | (apply P_alloc; exact rfl; exact rfl; exact rfl; intro _) | (apply P_store; exact rfl; (focus (repeat first | exact .z | apply SetAt.s | apply SetAtF.s)); (iterate 4 exact rfl)) | apply EL.nil
                         | ((with_reducible apply EK.then_normal); apply EK.code) | (apply EC.cond_true; exact rfl) | (apply EC.cond_false; exact rfl)
                         | (with_reducible first | apply EC.seq | apply EC.region | apply EC.skip | apply EC.label | apply EC.block | apply EC.exit | apply EC.ret | apply EK.in_normal | apply EK.in_same | apply EK.in_ret | apply EK.then_ret | apply EK.then_exit))
                      refine EK.retc2r 3 rfl rfl rfl rfl rfl ?_ rfl
                      (repeat first | exact RefineL.refl _ _ | exact RL.nil | exact Rf.same | exact Rf.bs0 | exact Rf.sl0 | (apply Rf.fact; (focus (simp; done)); exact rfl) | apply Rf.tup | apply RL.cons)
                    | some w =>
                      rw [e2] at g2
                      repeat
                        (first
                         | (apply P_call (h1); exact rfl; (focus (repeat first | exact RefineL.refl _ _ | exact RL.nil | exact Rf.same | exact Rf.bs0 | exact Rf.sl0 | (apply Rf.fact; (focus (simp; done)); exact rfl) | apply Rf.tup | apply RL.cons)); (focus (intro _ _; simp [go_sem]; done)); (iterate 2 exact rfl))
                         | (apply P_call (g1); exact rfl; (focus (repeat first | exact RefineL.refl _ _ | exact RL.nil | exact Rf.same | exact Rf.bs0 | exact Rf.sl0 | (apply Rf.fact; (focus (simp; done)); exact rfl) | apply Rf.tup | apply RL.cons)); (focus (intro _ _; simp [go_sem]; done)); (iterate 2 exact rfl))
                         | (apply P_call (g2); exact rfl; (focus (repeat first | exact RefineL.refl _ _ | exact RL.nil | exact Rf.same | exact Rf.bs0 | exact Rf.sl0 | (apply Rf.fact; (focus (simp; done)); exact rfl) | apply Rf.tup | apply RL.cons)); (focus (intro _ _; simp [go_sem]; done)); (iterate 2 exact rfl))
                         | (apply P_move; (iterate 3 exact rfl)) | (apply P_assign; (iterate 3 exact rfl)) | (apply P_field; (iterate 6 exact rfl)) | (apply P_fieldpd; (iterate 7 exact rfl))
                         | (apply P_extract; (iterate 4 exact rfl)) | (apply P_loadpd; (iterate 5 exact rfl)) | (apply P_pick; (iterate 4 exact rfl)) | (apply P_not; (iterate 3 exact rfl))
                         | (apply P_load; exact rfl; (first | exact I0 | exact I1 | exact I2 | exact I3 | exact I4 | exact I5 | exact I6); (iterate 4 exact rfl))
                         | (apply P_cmp (b := false); (iterate 2 exact rfl); (focus (first | (simp [cmpI]; done) | (simp [cmpI]; omega))); (iterate 2 exact rfl)) | (apply P_lenbs; (iterate 4 exact rfl))
                         | (apply P_lensl; (iterate 4 exact rfl))
                         | (apply P_index; (iterate 4 exact rfl); (focus (first | exact ⟨by decide, rfl⟩ | (refine ⟨by omega, ?_⟩; rw [Int.toNat_natCast]; assumption))); (iterate 2 exact rfl))
                         | (apply P_alloc; exact rfl; exact rfl; exact rfl; intro _) | (apply P_store; exact rfl; (focus (repeat first | exact .z | apply SetAt.s | apply SetAtF.s)); (iterate 4 exact rfl)) | apply EL.nil
                         | ((with_reducible apply EK.then_normal); apply EK.code) | (apply EC.cond_false; exact rfl)
                         | (with_reducible first | apply EC.seq | apply EC.region | apply EC.skip | apply EC.label | apply EC.block | apply EC.exit | apply EC.ret | apply EK.in_normal | apply EK.in_same | apply EK.in_ret | apply EK.then_ret | apply EK.then_exit))
                      refine EC.draw 7 (by kernel_rfl) ?_
                      simp only [List.take_succ_cons, List.take_zero, List.drop_succ_cons, List.drop_zero]
                      repeat
                        (first
                         | (apply H_slarr sl_word; (iterate 3 exact rfl)) | (apply H_field; (iterate 6 exact rfl)) | (apply H_fieldpd; (iterate 7 exact rfl)) | (apply H_loadpd; (iterate 5 exact rfl))
                         | (apply H_load; exact rfl; (first | exact I0 | exact I1 | exact I2 | exact I3 | exact I4 | exact I5 | exact I6); (iterate 4 exact rfl))
                         | (apply H_index; (iterate 4 exact rfl); (focus (first | exact ⟨by decide, rfl⟩ | (refine ⟨by omega, ?_⟩; rw [Int.toNat_natCast]; assumption))); (iterate 2 exact rfl))
                         | ((with_reducible apply EH.nil); exact rfl))
                      repeat
                        (first
                         | (apply P_copy 1 k3; (iterate 8 exact rfl)) | apply EL.nil | ((with_reducible apply EK.then_normal); apply EK.code)
                         | (with_reducible first | apply EC.seq | apply EC.region | apply EC.skip | apply EC.label | apply EC.block | apply EC.exit | apply EC.ret | apply EK.in_normal | apply EK.in_same | apply EK.in_ret | apply EK.then_ret | apply EK.then_exit))
                      refine EC.draw 7 (by kernel_rfl) ?_
                      simp only [List.take_succ_cons, List.take_zero, List.drop_succ_cons, List.drop_zero]
                      repeat
                        (first
                         | (apply H_slarr sl_word; (iterate 3 exact rfl)) | (apply H_field; (iterate 6 exact rfl)) | (apply H_fieldpd; (iterate 7 exact rfl)) | (apply H_loadpd; (iterate 5 exact rfl))
                         | (apply H_load; exact rfl; (first | exact I0 | exact I1 | exact I2 | exact I3 | exact I4 | exact I5 | exact I6); (iterate 4 exact rfl))
                         | (apply H_index; (iterate 4 exact rfl); (focus (first | exact ⟨by decide, rfl⟩ | (refine ⟨by omega, ?_⟩; rw [Int.toNat_natCast]; assumption))); (iterate 2 exact rfl))
                         | ((with_reducible apply EH.nil); exact rfl))
                      repeat
                        (first
                         | (apply P_copy 1 k4; (iterate 8 exact rfl)) | (apply P_assign; (iterate 3 exact rfl))
                         | (apply P_load; exact rfl; (first | exact I0 | exact I1 | exact I2 | exact I3 | exact I4 | exact I5 | exact I6); (iterate 4 exact rfl))
                         | (apply P_store; exact rfl; (focus (repeat first | exact .z | apply SetAt.s | apply SetAtF.s)); (iterate 4 exact rfl)) | apply EL.nil | ((with_reducible apply EK.then_normal); apply EK.code)
                         | (with_reducible first | apply EC.seq | apply EC.region | apply EC.skip | apply EC.label | apply EC.block | apply EC.exit | apply EC.ret | apply EK.in_normal | apply EK.in_same | apply EK.in_ret | apply EK.then_ret | apply EK.then_exit))
                      refine EK.retc2r 3 rfl rfl rfl rfl rfl ?_ rfl
                      (repeat first | exact RefineL.refl _ _ | exact RL.nil | exact Rf.same | exact Rf.bs0 | exact Rf.sl0 | (apply Rf.fact; (focus (simp; done)); exact rfl) | apply Rf.tup | apply RL.cons)
                · rw [bdX_bad _ _ _ _ _ (.inr (by rw [wh, if_neg k4]))]
                  repeat
                    (first
                     | (apply P_call (h1); exact rfl; (focus (repeat first | exact RefineL.refl _ _ | exact RL.nil | exact Rf.same | exact Rf.bs0 | exact Rf.sl0 | (apply Rf.fact; (focus (simp; done)); exact rfl) | apply Rf.tup | apply RL.cons)); (focus (intro _ _; simp [go_sem]; done)); (iterate 2 exact rfl))
                     | (apply P_move; (iterate 3 exact rfl)) | (apply P_assign; (iterate 3 exact rfl)) | (apply P_field; (iterate 6 exact rfl)) | (apply P_fieldpd; (iterate 7 exact rfl))
                     | (apply P_extract; (iterate 4 exact rfl)) | (apply P_loadpd; (iterate 5 exact rfl)) | (apply P_pick; (iterate 4 exact rfl)) | (apply P_not; (iterate 3 exact rfl))
                     | (apply P_load; exact rfl; (first | exact I0 | exact I1 | exact I2 | exact I3 | exact I4 | exact I5 | exact I6); (iterate 4 exact rfl))
                     | (apply P_cmp (b := true); (iterate 2 exact rfl); (focus (first | (simp [cmpI]; done) | (simp [cmpI]; omega))); (iterate 2 exact rfl))
                     | (apply P_cmp (b := false); (iterate 2 exact rfl); (focus (first | (simp [cmpI]; done) | (simp [cmpI]; omega))); (iterate 2 exact rfl)) | (apply P_lenbs; (iterate 4 exact rfl))
                     | (apply P_lensl; (iterate 4 exact rfl))
                     | (apply P_index; (iterate 4 exact rfl); (focus (first | exact ⟨by decide, rfl⟩ | (refine ⟨by omega, ?_⟩; rw [Int.toNat_natCast]; assumption))); (iterate 2 exact rfl))
                     | (apply P_build; (iterate 7 exact rfl)) | (apply P_alloc; exact rfl; exact rfl; exact rfl; intro _)
                     | (apply P_store; exact rfl; (focus (repeat first | exact .z | apply SetAt.s | apply SetAtF.s)); (iterate 4 exact rfl)) | apply EL.nil | ((with_reducible apply EK.then_normal); apply EK.code)
                     | (apply EC.cond_true; exact rfl)
                     | (with_reducible first | apply EC.seq | apply EC.region | apply EC.skip | apply EC.label | apply EC.block | apply EC.exit | apply EC.ret | apply EK.in_normal | apply EK.in_same | apply EK.in_ret | apply EK.then_ret | apply EK.then_exit))
                  refine EK.retc2r 1 rfl rfl rfl rfl rfl ?_ rfl
                  (repeat first | exact RefineL.refl _ _ | exact RL.nil | exact Rf.same | exact Rf.bs0 | exact Rf.sl0 | (apply Rf.fact; (focus (simp; done)); exact rfl) | apply Rf.tup | apply RL.cons)
              · rw [bdX_bad _ _ _ _ _ (.inl (by rw [wh, if_neg k3]))]
                repeat
                  (first
                   | (apply P_skip; (iterate 2 exact rfl))
                   | (apply P_call (h1); exact rfl; (focus (repeat first | exact RefineL.refl _ _ | exact RL.nil | exact Rf.same | exact Rf.bs0 | exact Rf.sl0 | (apply Rf.fact; (focus (simp; done)); exact rfl) | apply Rf.tup | apply RL.cons)); (focus (intro _ _; simp [go_sem]; done)); (iterate 2 exact rfl))
                   | (apply P_move; (iterate 3 exact rfl)) | (apply P_assign; (iterate 3 exact rfl)) | (apply P_field; (iterate 6 exact rfl)) | (apply P_fieldpd; (iterate 7 exact rfl))
                   | (apply P_extract; (iterate 4 exact rfl)) | (apply P_loadpd; (iterate 5 exact rfl)) | (apply P_pick; (iterate 4 exact rfl)) | (apply P_not; (iterate 3 exact rfl))
                   | (apply P_load; exact rfl; (first | exact I0 | exact I1 | exact I2 | exact I3 | exact I4 | exact I5 | exact I6); (iterate 4 exact rfl))
                   | (apply P_cmp (b := true); (iterate 2 exact rfl); (focus (first | (simp [cmpI]; done) | (simp [cmpI]; omega))); (iterate 2 exact rfl))
                   | (apply P_cmp (b := false); (iterate 2 exact rfl); (focus (first | (simp [cmpI]; done) | (simp [cmpI]; omega))); (iterate 2 exact rfl)) | (apply P_lenbs; (iterate 4 exact rfl))
                   | (apply P_lensl; (iterate 4 exact rfl))
                   | (apply P_index; (iterate 4 exact rfl); (focus (first | exact ⟨by decide, rfl⟩ | (refine ⟨by omega, ?_⟩; rw [Int.toNat_natCast]; assumption))); (iterate 2 exact rfl))
                   | (apply P_build; (iterate 7 exact rfl)) | (apply P_alloc; exact rfl; exact rfl; exact rfl; intro _)
                   | (apply P_store; exact rfl; (focus (repeat first | exact .z | apply SetAt.s | apply SetAtF.s)); (iterate 4 exact rfl)) | apply EL.nil | ((with_reducible apply EK.then_normal); apply EK.code)
                   | (apply EC.cond_true; exact rfl)
                   | (with_reducible first | apply EC.seq | apply EC.region | apply EC.skip | apply EC.label | apply EC.block | apply EC.exit | apply EC.ret | apply EK.in_normal | apply EK.in_same | apply EK.in_ret | apply EK.then_ret | apply EK.then_exit))
                refine EK.retc2r 1 rfl rfl rfl rfl rfl ?_ rfl
                (repeat first | exact RefineL.refl _ _ | exact RL.nil | exact Rf.same | exact Rf.bs0 | exact Rf.sl0 | (apply Rf.fact; (focus (simp; done)); exact rfl) | apply Rf.tup | apply RL.cons)
      · have hl : (dItems xs).length ≠ 4 := by rw [dItems_length]; exact h4
        rw [bdX_len (.mk true bs xs) bs xs h4]
        repeat
          (first
           | (apply P_skip; (iterate 2 exact rfl))
           | (apply P_call (h1); exact rfl; (focus (repeat first | exact RefineL.refl _ _ | exact RL.nil | exact Rf.same | exact Rf.bs0 | exact Rf.sl0 | (apply Rf.fact; (focus (simp; done)); exact rfl) | apply Rf.tup | apply RL.cons)); (focus (intro _ _; simp [go_sem]; done)); (iterate 2 exact rfl))
           | (apply P_move; (iterate 3 exact rfl)) | (apply P_assign; (iterate 3 exact rfl)) | (apply P_field; (iterate 6 exact rfl)) | (apply P_extract; (iterate 4 exact rfl))
           | (apply P_pick; (iterate 4 exact rfl)) | (apply P_not; (iterate 3 exact rfl))
           | (apply P_load; exact rfl; (first | exact I0 | exact I1 | exact I2 | exact I3 | exact I4 | exact I5 | exact I6); (iterate 4 exact rfl))
           | (apply P_cmp (b := true); (iterate 2 exact rfl); (focus (first | (simp [cmpI]; done) | (simp [cmpI]; omega))); (iterate 2 exact rfl))
           | (apply P_cmp (b := false); (iterate 2 exact rfl); (focus (first | (simp [cmpI]; done) | (simp [cmpI]; omega))); (iterate 2 exact rfl)) | (apply P_lensl; (iterate 4 exact rfl))
           | (apply P_build; (iterate 7 exact rfl)) | (apply P_alloc; exact rfl; exact rfl; exact rfl; intro _)
           | (apply P_store; exact rfl; (focus (repeat first | exact .z | apply SetAt.s | apply SetAtF.s)); (iterate 4 exact rfl)) | apply EL.nil | ((with_reducible apply EK.then_normal); apply EK.code)
           | (apply EC.cond_true; exact rfl)
           | (with_reducible first | apply EC.seq | apply EC.region | apply EC.skip | apply EC.label | apply EC.block | apply EC.exit | apply EC.ret | apply EK.in_normal | apply EK.in_same | apply EK.in_ret | apply EK.then_ret | apply EK.then_exit))
        refine EK.retc2r 1 rfl rfl rfl rfl rfl ?_ rfl
        (repeat first | exact RefineL.refl _ _ | exact RL.nil | exact Rf.same | exact Rf.bs0 | exact Rf.sl0 | (apply Rf.fact; (focus (simp; done)); exact rfl) | apply Rf.tup | apply RL.cons)
end E
end Go.Proofs.Ytmlajcbabimkjaa
/-
  Keccak in plain words: the permutation as the program does it, and as the reference does it; they are one.
  Conditions: none. No program is named here.
-/
namespace Go.Proofs.Ytmlajcbabimkjaa.Kec
abbrev L := BitVec 64
abbrev St := Nat → L
def upd (f : St) (k : Nat) (v : L) : St := fun j => if j = k then v else f j
def rotl (x : L) (n : Nat) : L := x <<< n ||| x >>> (64 - n)
theorem shr_64 (x : L) : x >>> 64 = 0 := by
  apply BitVec.eq_of_toNat_eq
  rw [BitVec.toNat_ushiftRight, Nat.shiftRight_eq_div_pow]
  have := x.isLt
  exact Nat.div_eq_of_lt this
theorem rotl_zero (x : L) : rotl x 0 = x := by simp [rotl, shr_64]
def turn (k : Nat) : Nat := [0, 1, 62, 28, 27, 36, 44, 6, 55, 20, 3, 10, 43, 25, 39, 41, 45, 15, 21, 8, 18, 2, 61, 56, 14].getD k 0
def rc (k : Nat) : L := ([0x0000000000000001, 0x0000000000008082, 0x800000000000808a, 0x8000000080008000, 0x000000000000808b, 0x0000000080000001,
  0x8000000080008081, 0x8000000000008009, 0x000000000000008a, 0x0000000000000088, 0x0000000080008009, 0x000000008000000a,
  0x000000008000808b, 0x800000000000008b, 0x8000000000008089, 0x8000000000008003, 0x8000000000008002, 0x8000000000000080,
  0x000000000000800a, 0x800000008000000a, 0x8000000080008081, 0x8000000000008080, 0x0000000080000001, 0x8000000080008008] : List L).getD k 0
/-! ### The program's round -/
def col (s : St) (x : Nat) : L := s x ^^^ s (x + 5) ^^^ s (x + 10) ^^^ s (x + 15) ^^^ s (x + 20)
def dd (s : St) (x : Nat) : L := col s ((x + 4) % 5) ^^^ rotl (col s ((x + 1) % 5)) 1
def place (k : Nat) : Nat := k / 5 + 5 * ((2 * (k % 5) + 3 * (k / 5)) % 5)
def bb (s : St) : Nat → St
  | 0 => fun _ => 0
  | k + 1 => upd (bb s k) (place k) (rotl (s k ^^^ dd s (k % 5)) (turn k))
def chi (b : St) (k : Nat) : L := b k ^^^ (~~~ b ((k % 5 + 1) % 5 + k / 5 * 5) &&& b ((k % 5 + 2) % 5 + k / 5 * 5))
def ss (b s : St) : Nat → St
  | 0 => s
  | k + 1 => upd (ss b s k) k (chi b k)
def round (s : St) (n : L) : St := upd (ss (bb s 25) s 25) 0 (ss (bb s 25) s 25 0 ^^^ n)
def perm (s : St) : Nat → St
  | 0 => s
  | k + 1 => round (perm s k) (rc k)
/-! ### The reference's round -/
def th1 (d : L) (x : Nat) (a : St) : Nat → St
  | 0 => a
  | k + 1 => upd (th1 d x a k) (x + 5 * k) (th1 d x a k (x + 5 * k) ^^^ d)
def th (c a : St) : Nat → St
  | 0 => a
  | x + 1 => th1 (c ((x + 4) % 5) ^^^ rotl (c ((x + 1) % 5)) 1) x (th c a x) 5
structure Walk where
  x : Nat
  y : Nat
  cur : L
  a : St
def mv (a : St) : Nat → Walk
  | 0 => ⟨1, 0, a 1, a⟩
  | t + 1 =>
    let w := mv a t
    let x := w.y
    let y := (2 * w.x + 3 * w.y) % 5
    ⟨x, y, w.a (x + 5 * y), upd w.a (x + 5 * y) (rotl w.cur ((t + 1) * (t + 2) / 2 % 64))⟩
def ch1 (r a : St) (y : Nat) : Nat → St
  | 0 => a
  | x + 1 => upd (ch1 r a y x) (x + y) (r x ^^^ (~~~ r ((x + 1) % 5) &&& r ((x + 2) % 5)))
def ch (a : St) : Nat → St
  | 0 => a
  | y + 1 => ch1 (fun x => ch a y (x + 5 * y)) (ch a y) (5 * y) 5
def lf (l : BitVec 8) : BitVec 8 := if l &&& 128 ≠ 0 then (l <<< 1) ^^^ 0x71 else l <<< 1
def lfn (l : BitVec 8) : Nat → BitVec 8
  | 0 => l
  | j + 1 => lf (lfn l j)
def io (a : St) (l : BitVec 8) : Nat → St
  | 0 => a
  | j + 1 => if lfn l j &&& 1 = 1 then upd (io a l j) 0 (io a l j 0 ^^^ (1 : L) <<< (2 ^ j - 1)) else io a l j
def rround (a : St) (l : BitVec 8) : St := io (ch (mv (th (col a) a 5) 24).a 5) l 7
def rperm (a : St) : Nat → St
  | 0 => a
  | k + 1 => rround (rperm a k) (lfn 1 (7 * k))
/-! ### They are one -/
def num (l : BitVec 8) : Nat → L
  | 0 => 0
  | j + 1 => if lfn l j &&& 1 = 1 then num l j ^^^ (1 : L) <<< (2 ^ j - 1) else num l j
theorem io_eq (a : St) (l : BitVec 8) : ∀ j, io a l j = upd a 0 (a 0 ^^^ num l j)
  | 0 => by funext k; simp [io, num, upd]; intro h; rw [h]
  | j + 1 => by
    unfold io num
    rw [io_eq a l j]
    split
    · funext k
      by_cases hk : k = 0
      · subst hk; simp [upd, BitVec.xor_assoc]
      · simp [upd, hk]
    · rfl
theorem num_rc : ∀ k, k < 24 → num (lfn 1 (7 * k)) 7 = rc k := by decide +kernel
theorem lane0 (a : St) : ss (bb a 25) a 25 0 = ch (mv (th (col a) a 5) 24).a 5 0 := by simp [ss, bb, chi, upd, place, dd, col, turn, ch, ch1, mv, th, th1, rotl_zero]
theorem lane1 (a : St) : ss (bb a 25) a 25 1 = ch (mv (th (col a) a 5) 24).a 5 1 := by simp [ss, bb, chi, upd, place, dd, col, turn, ch, ch1, mv, th, th1]
theorem lane2 (a : St) : ss (bb a 25) a 25 2 = ch (mv (th (col a) a 5) 24).a 5 2 := by simp [ss, bb, chi, upd, place, dd, col, turn, ch, ch1, mv, th, th1]
theorem lane3 (a : St) : ss (bb a 25) a 25 3 = ch (mv (th (col a) a 5) 24).a 5 3 := by simp [ss, bb, chi, upd, place, dd, col, turn, ch, ch1, mv, th, th1, rotl_zero]
theorem lane4 (a : St) : ss (bb a 25) a 25 4 = ch (mv (th (col a) a 5) 24).a 5 4 := by simp [ss, bb, chi, upd, place, dd, col, turn, ch, ch1, mv, th, th1, rotl_zero]
theorem lane5 (a : St) : ss (bb a 25) a 25 5 = ch (mv (th (col a) a 5) 24).a 5 5 := by simp [ss, bb, chi, upd, place, dd, col, turn, ch, ch1, mv, th, th1]
theorem lane6 (a : St) : ss (bb a 25) a 25 6 = ch (mv (th (col a) a 5) 24).a 5 6 := by simp [ss, bb, chi, upd, place, dd, col, turn, ch, ch1, mv, th, th1]
theorem lane7 (a : St) : ss (bb a 25) a 25 7 = ch (mv (th (col a) a 5) 24).a 5 7 := by simp [ss, bb, chi, upd, place, dd, col, turn, ch, ch1, mv, th, th1]
theorem lane8 (a : St) : ss (bb a 25) a 25 8 = ch (mv (th (col a) a 5) 24).a 5 8 := by simp [ss, bb, chi, upd, place, dd, col, turn, ch, ch1, mv, th, th1]
theorem lane9 (a : St) : ss (bb a 25) a 25 9 = ch (mv (th (col a) a 5) 24).a 5 9 := by simp [ss, bb, chi, upd, place, dd, col, turn, ch, ch1, mv, th, th1]
theorem lane10 (a : St) : ss (bb a 25) a 25 10 = ch (mv (th (col a) a 5) 24).a 5 10 := by simp [ss, bb, chi, upd, place, dd, col, turn, ch, ch1, mv, th, th1]
theorem lane11 (a : St) : ss (bb a 25) a 25 11 = ch (mv (th (col a) a 5) 24).a 5 11 := by simp [ss, bb, chi, upd, place, dd, col, turn, ch, ch1, mv, th, th1]
theorem lane12 (a : St) : ss (bb a 25) a 25 12 = ch (mv (th (col a) a 5) 24).a 5 12 := by simp [ss, bb, chi, upd, place, dd, col, turn, ch, ch1, mv, th, th1]
theorem lane13 (a : St) : ss (bb a 25) a 25 13 = ch (mv (th (col a) a 5) 24).a 5 13 := by simp [ss, bb, chi, upd, place, dd, col, turn, ch, ch1, mv, th, th1]
theorem lane14 (a : St) : ss (bb a 25) a 25 14 = ch (mv (th (col a) a 5) 24).a 5 14 := by simp [ss, bb, chi, upd, place, dd, col, turn, ch, ch1, mv, th, th1]
theorem lane15 (a : St) : ss (bb a 25) a 25 15 = ch (mv (th (col a) a 5) 24).a 5 15 := by simp [ss, bb, chi, upd, place, dd, col, turn, ch, ch1, mv, th, th1]
theorem lane16 (a : St) : ss (bb a 25) a 25 16 = ch (mv (th (col a) a 5) 24).a 5 16 := by simp [ss, bb, chi, upd, place, dd, col, turn, ch, ch1, mv, th, th1]
theorem lane17 (a : St) : ss (bb a 25) a 25 17 = ch (mv (th (col a) a 5) 24).a 5 17 := by simp [ss, bb, chi, upd, place, dd, col, turn, ch, ch1, mv, th, th1]
theorem lane18 (a : St) : ss (bb a 25) a 25 18 = ch (mv (th (col a) a 5) 24).a 5 18 := by simp [ss, bb, chi, upd, place, dd, col, turn, ch, ch1, mv, th, th1]
theorem lane19 (a : St) : ss (bb a 25) a 25 19 = ch (mv (th (col a) a 5) 24).a 5 19 := by simp [ss, bb, chi, upd, place, dd, col, turn, ch, ch1, mv, th, th1]
theorem lane20 (a : St) : ss (bb a 25) a 25 20 = ch (mv (th (col a) a 5) 24).a 5 20 := by simp [ss, bb, chi, upd, place, dd, col, turn, ch, ch1, mv, th, th1]
theorem lane21 (a : St) : ss (bb a 25) a 25 21 = ch (mv (th (col a) a 5) 24).a 5 21 := by simp [ss, bb, chi, upd, place, dd, col, turn, ch, ch1, mv, th, th1]
theorem lane22 (a : St) : ss (bb a 25) a 25 22 = ch (mv (th (col a) a 5) 24).a 5 22 := by simp [ss, bb, chi, upd, place, dd, col, turn, ch, ch1, mv, th, th1]
theorem lane23 (a : St) : ss (bb a 25) a 25 23 = ch (mv (th (col a) a 5) 24).a 5 23 := by simp [ss, bb, chi, upd, place, dd, col, turn, ch, ch1, mv, th, th1]
theorem lane24 (a : St) : ss (bb a 25) a 25 24 = ch (mv (th (col a) a 5) 24).a 5 24 := by simp [ss, bb, chi, upd, place, dd, col, turn, ch, ch1, mv, th, th1]
theorem lane (a : St) (k : Nat) (hk : k < 25) : ss (bb a 25) a 25 k = ch (mv (th (col a) a 5) 24).a 5 k := by
  match k, hk with
  | 0, _ => exact lane0 a
  | 1, _ => exact lane1 a
  | 2, _ => exact lane2 a
  | 3, _ => exact lane3 a
  | 4, _ => exact lane4 a
  | 5, _ => exact lane5 a
  | 6, _ => exact lane6 a
  | 7, _ => exact lane7 a
  | 8, _ => exact lane8 a
  | 9, _ => exact lane9 a
  | 10, _ => exact lane10 a
  | 11, _ => exact lane11 a
  | 12, _ => exact lane12 a
  | 13, _ => exact lane13 a
  | 14, _ => exact lane14 a
  | 15, _ => exact lane15 a
  | 16, _ => exact lane16 a
  | 17, _ => exact lane17 a
  | 18, _ => exact lane18 a
  | 19, _ => exact lane19 a
  | 20, _ => exact lane20 a
  | 21, _ => exact lane21 a
  | 22, _ => exact lane22 a
  | 23, _ => exact lane23 a
  | 24, _ => exact lane24 a
  | k + 25, h => omega
def Same (a b : St) : Prop := ∀ k, k < 25 → a k = b k
end Go.Proofs.Ytmlajcbabimkjaa.Kec
/-
  Lanes in memory; a turned lane.
  Conditions: none.
-/
namespace Go.Proofs.Ytmlajcbabimkjaa
open Go.RowKit Mono
open Kec
def u (x : L) : Int := (x.toNat : Int)
theorem u_range (x : L) : 0 ≤ u x ∧ u x < 18446744073709551616 := by
  have := x.isLt
  unfold u
  omega
theorem u_xor (x y : L) : bits .xor .u64 (u x) (u y) = u (x ^^^ y) := by
  unfold u
  rw [u64_xor_nat _ _ x.isLt y.isLt, BitVec.toNat_xor]
theorem u_and (x y : L) : bits .and .u64 (u x) (u y) = u (x &&& y) := by
  unfold u
  rw [u64_and_nat _ _ x.isLt y.isLt, BitVec.toNat_and]
theorem u_or (x y : L) : bits .or .u64 (u x) (u y) = u (x ||| y) := by
  unfold u
  rw [u64_or_nat _ _ x.isLt y.isLt, BitVec.toNat_or]
theorem u_shl (x : L) (n : Nat) : IntKind.u64.wrap (u x * 2 ^ n) = u (x <<< n) := by
  unfold u
  rw [IntKind.wrap_u64, BitVec.toNat_shiftLeft, Nat.shiftLeft_eq]
  have h : ((x.toNat : Int) * 2 ^ n) = ((x.toNat * 2 ^ n : Nat) : Int) := by simp
  rw [h]
  exact (Int.natCast_emod _ _).symm
theorem u_shr (x : L) (n : Nat) : u x / 2 ^ n = u (x >>> n) := by
  unfold u
  rw [BitVec.toNat_ushiftRight, Nat.shiftRight_eq_div_pow]
  simp
def lv (x : L) : Value := .int .u64 (u x)
set_option maxHeartbeats 400000 in
theorem rotate (x : L) (k : Nat) (hk : k < 64) (w : World) : Calls Try.prog 135 #[.int .u64 (u x), .int .i64 k] w fun e w' => e = .returned (.int .u64 (u (rotl x k))) ∧ w' = w := by
  have ha : bits .and .u64 (k : Int) 63 = k := by
    have := u64_and_nat k 63 (by omega) (by omega)
    rw [show ((63 : Nat) : Int) = 63 from rfl] at this
    rw [this]
    congr 1
    exact (Nat.and_two_pow_sub_one_eq_mod k 6).trans (Nat.mod_eq_of_lt hk)
  have hx := u_range x
  have hx0 := hx.1
  clear hx
  go_enter Try.func135, Try.ntmps135
  go_wp2
  refine bodyPost_ret (results_tmp rfl _ _ _) rfl ⟨?_, rfl⟩
  show Ending.returned (.int .u64 (bits .or .u64 (IntKind.u64.wrap (u x * 2 ^ k)) (u x / 2 ^ (64 - k)))) = _
  rw [u_shl, u_shr, u_or]
  rfl
set_option maxHeartbeats 400000 in
theorem rol (x : L) (k : Nat) (hk : k < 64) (w : World) : Calls Try.prog 66 #[.int .u64 (u x), .int .u64 k] w fun e w' => e = .returned (.int .u64 (u (rotl x k))) ∧ w' = w := by
  by_cases h0 : k = 0
  · subst h0
    rw [rotl_zero]
    go_enter Try.func66, Try.ntmps66
    go_wp2
    exact bodyPost_ret (results_tmp rfl _ _ _) rfl ⟨rfl, rfl⟩
  · have hk1 : 0 < k := by omega
    clear h0
    go_enter Try.func66, Try.ntmps66
    go_wp2
    refine bodyPost_ret (results_tmp rfl _ _ _) rfl ⟨?_, rfl⟩
    show Ending.returned (.int .u64 (bits .or .u64 (IntKind.u64.wrap (u x * 2 ^ k)) (u x / 2 ^ (64 - k)))) = _
    rw [u_shl, u_shr, u_or]
    rfl
/-! ### Lanes in a block -/
def cellsOf (f : St) (n : Nat) : Array Value := ((List.range n).map fun k => lv (f k)).toArray
def Lanes (w : World) (g : Nat) (t : TypeId) (n : Nat) (f : St) : Prop := w.heap[g]? = some (.cells (cellsOf f n) t (0, 0))
theorem cellsOf_size (f : St) (n : Nat) : (cellsOf f n).size = n := by simp [cellsOf]
theorem cellsOf_get (f : St) (n k : Nat) (h : k < n) : (cellsOf f n)[k]? = some (lv (f k)) := by simp [cellsOf, h]
theorem cellsOf_set (f : St) (n k : Nat) (v : L) : (cellsOf f n).setIfInBounds k (lv v) = cellsOf (Kec.upd f k v) n := by
  apply Array.ext_getElem?
  intro i
  rw [Array.getElem?_setIfInBounds]
  by_cases hi : i < n
  · by_cases hk : k = i
    · subst hk
      rw [if_pos rfl, cellsOf_size, if_pos hi, cellsOf_get _ n k hi]
      congr 2
      exact (if_pos rfl).symm
    · rw [if_neg hk, cellsOf_get _ n i hi, cellsOf_get _ n i hi]
      congr 2
      exact (if_neg (Ne.symm hk)).symm
  · have h1 : (cellsOf f n)[i]? = none := Array.getElem?_eq_none (by rw [cellsOf_size]; omega)
    have h2 : (cellsOf (Kec.upd f k v) n)[i]? = none := Array.getElem?_eq_none (by rw [cellsOf_size]; omega)
    rw [h1, h2]
    by_cases hk : k = i
    · subst hk; rw [if_pos rfl, cellsOf_size, if_neg hi]
    · rw [if_neg hk]
section
variable {w w' : World} {g : Nat} {t : TypeId} {n : Nat} {f : St}
theorem Lanes.lt (h : Lanes w g t n f) : g < w.heap.size := by
  rcases Nat.lt_or_ge g w.heap.size with h1 | h1
  · exact h1
  · unfold Lanes at h; rw [Array.getElem?_eq_none h1] at h; cases h
theorem Lanes.cell (h : Lanes w g t n f) (k : Nat) (hk : k < n) : w.cell? ⟨g, k, none⟩ = some (lv (f k)) := by
  rw [cell_of_row w g k _ t (0, 0) h]
  exact cellsOf_get f n k hk
theorem Lanes.frozen (h : Lanes w g t n f) (k : Nat) : w.frozen? ⟨g, k, none⟩ = false := by
  unfold Lanes at h
  simp [World.frozen?, h]
theorem Lanes.gr (h : Lanes w g t n f) (hg : Gr w w') : Lanes w' g t n f := (hg.block g h.lt).trans h
theorem Lanes.set (h : Lanes w g t n f) (k : Nat) (v : L) : Lanes (w.setCell ⟨g, k, none⟩ (lv v)) g t n (Kec.upd f k v) := by
  unfold Lanes at h ⊢
  simp [World.setCell, Array.getElem?_modify, h, cellsOf_set]
theorem Lanes.far (h : Lanes w g t n f) {p : Addr} (hp : g ≠ p.block) (v : Value) : Lanes (w.setCell p v) g t n f := (Below.heap_setCell w p v g hp).trans h
theorem Lanes.alloc (h : Lanes w g t n f) (o : Obj) : Lanes (w.alloc o) g t n f := h.gr (gr_alloc w o)
theorem Lanes.grown (h : Lanes w g t n f) {row : Option Nat} (hg : w.grownBy w' row) (hne : some g ≠ row) : Lanes w' g t n f := (hg.block g h.lt hne).trans h
end
def Only (g : Nat) (w w' : World) : Prop := w.grownBy w' (some g)
theorem Only.of_gr {w w' : World} (h : Gr w w') (g : Nat) : Only g w w' := ⟨h.os, h.tape, h.output, h.size, fun k hk _ => h.block k hk⟩
theorem Only.refl (g : Nat) (w : World) : Only g w w := Only.of_gr (Gr.refl w) g
theorem Only.trans {g : Nat} {a b c : World} (h : Only g a b) (k : Only g b c) : Only g a c :=
  ⟨k.os.trans h.os, k.tape.trans h.tape, k.output.trans h.output, Nat.le_trans h.size k.size, fun i hi hne => (k.block i (Nat.lt_of_lt_of_le hi h.size) hne).trans (h.block i hi hne)⟩
theorem Only.set {g : Nat} (w : World) (k : Nat) (v : Value) : Only g w (w.setCell ⟨g, k, none⟩ v) :=
  ⟨rfl, rfl, rfl, by simp [World.setCell], fun i _ hne => Below.heap_setCell w _ v i (fun e => hne (by rw [e]))⟩
theorem Only.gr {g : Nat} {a b c : World} (hab : Gr a b) (h : Only g b c) (hg : a.heap.size ≤ g) : Gr a c :=
  ⟨h.os.trans hab.os, h.tape.trans hab.tape, h.output.trans hab.output, Nat.le_trans hab.size h.size, fun i hi => (h.block i (Nat.lt_of_lt_of_le hi hab.size) (fun e => by injection e with e; omega)).trans (hab.block i hi)⟩
end Go.Proofs.Ytmlajcbabimkjaa
/-
  keccak's take: a byte into a lane.
  Conditions: the place is below 136.
-/
namespace Go.Proofs.Ytmlajcbabimkjaa
open Go.RowKit Mono
open Kec (L St rotl)
def takeB (f : St) (k : Nat) (b : Nat) : St := Kec.upd f (k / 8) (f (k / 8) ^^^ (BitVec.ofNat 64 b) <<< (8 * (k % 8)))
theorem u_byte (n : Nat) (h : n < 256) : u (BitVec.ofNat 64 n) = (n : Int) := by
  unfold u
  rw [BitVec.toNat_ofNat]
  omega
def RetU (R : World → Prop) (e : Ending) (w' : World) : Prop := e = .returned (.tuple #[]) ∧ R w'
set_option maxHeartbeats 400000 in
theorem kec_take (g : Nat) (t : TypeId) (f : St) (k n : Nat) (hk : k < 136) (hn : n < 256) (w : World) (hl : Lanes w g t 25 f) :
    Calls Try.prog 97 #[.pointer (some ⟨g, 0, none⟩), .int .i64 k, .int .u8 n] w (RetU fun w' => Lanes w' g t 25 (takeB f k n) ∧ Only g w w') := by
  have hg := hl.lt
  have c1 := later_cell (w := w) (p := ⟨g, k / 8, none⟩) hg (hl.cell (k / 8) (by omega))
  unfold lv at c1
  have hu := u_range (f (k / 8))
  have hu0 := hu.1
  have HL := Lib.hid hl
  clear hl hu
  go_enter Try.func97, Try.ntmps97
  go_wp2
  refine wp_region_N 15 (by kernel_rfl) (by kernel_rfl) (by kernel_rfl) ?_
  simp only [List.take_succ_cons, List.take_zero, List.drop_succ_cons, List.drop_zero]
  refine wpN_quiet 15 (by kernel_rfl) ?_
  simp only [List.take_succ_cons, List.take_zero, List.drop_succ_cons, List.drop_zero]
  repeat (go_big_quiet_step (fail))
  refine wpQuiet_nil ?_
  refine wpN_nil (by kernel_rfl) ?_
  intro W hW
  replace hW := hW.gr
  unfold finN
  have HW := Lib.hid (HL.out.gr hW)
  have e1 := HW.out.cell (k / 8) (by omega)
  have e2 := HW.out.frozen (k / 8)
  unfold lv at e1
  go_wp2
  refine bodyPost_ret (results_none rfl _ _ _) rfl ⟨rfl, ?_⟩
  have hv : Value.int .u64 (bits .xor .u64 (u (f (k / 8))) (IntKind.u64.wrap ((n : Int) * 2 ^ (8 * (k % 8))))) = lv (f (k / 8) ^^^ (BitVec.ofNat 64 n) <<< (8 * (k % 8))) := by
    rw [← u_byte n hn, u_shl, u_xor]
    rfl
  rw [hv]
  exact ⟨HW.out.set _ _, (Only.of_gr hW g).trans (Only.set _ _ _)⟩
end Go.Proofs.Ytmlajcbabimkjaa
