/-
 Merged (wip/tools/merge.py): PF5.
 Conditions: none.
-/
import Derived.Test.YtiledgojbpmoiaaZC16
import Derived.Test.YtiledgojbpmoiaaZC15
/-
 path.Read; the nodes of items: shape.ref, shape.pair.
 Conditions: none.
-/
namespace Go.Proofs.Ytiledgojbpmoiaa
set_option linter.unusedVariables false
open Go.RowKit Mono Rlp
namespace E
theorem bits_and1P (x : Nat) (h : x < 256) : bits .and .u8 (x : Int) 1 = ((x % 2 : Nat) : Int) := by
 have h' : ∀ x : Fin 256, bits .and .u8 (x.1 : Int) 1 = ((x.1 % 2 : Nat) : Int) := by decide +kernel
 exact h' ⟨x, h⟩
theorem bin_and1 (a : UInt8) : Bin .and 5 (.v (bv a)) (.v (.int .u8 1)) (.int .u8 ((a.toNat % 2 : Nat) : Int)) := bin_of rfl fun w => by
 have h := bits_and1P a.toNat a.toNat_lt
 show Result.ok (Value.int .u8 (bits .and .u8 (a.toNat : Int) 1)) w = _
 rw [h]
set_option maxRecDepth 20000 in
set_option maxHeartbeats 8000000 in
theorem f_pRead (b : List UInt8) (hb : b.length ≤ 536870912) : Fn 67 [.bs b] (· = rpD b) := by
 have hS := f_pSplit b (by omega)
 unfold rpD
 refine FnM.toFn ?_
 cases b with
 | nil =>
  rw [show split [] = [] from rfl] at hS
  rw [rdP]
  refine FnM.walk 37 Try.func67 rfl Try.ntmps67 (by simp) fun X => ?_
  repeat
   (first
    | (apply P_skip; iterate 2 rfl) | (apply P_call (hS); rfl; exact RefineL.refl _ _; (focus (intro _ _; simp [go_sem]; done)); iterate 2 rfl) | (apply P_move; iterate 3 rfl)
    | (apply P_assign; iterate 3 rfl) | (apply P_pick; iterate 4 rfl)
    | (apply P_cmp (b := true); (iterate 2 rfl); (focus (first | (simp [cmpI]; done) | (simp [cmpI]; omega))); iterate 2 rfl) | (apply P_lenbs; iterate 4 rfl) | apply EL.nil
    | ((with_reducible apply EK.then_normal); apply EK.code) | (apply EC.cond_true; rfl) | (with_reducible first | apply EC.seq | apply EC.region | apply EC.ret | apply EK.then_ret))
  exact EK.retM3 [] rfl rfl rfl rfl (by (repeat first | exact RefineL.refl _ _ | exact RL.nil | exact Rf.same | exact Rf.bs0 | exact Rf.sl0 | (apply Rf.fact; (focus (simp; done)); rfl) | apply Rf.tup | apply RL.cons)) (by (repeat first | exact RefineL.refl _ _ | exact RL.nil | exact Rf.same | exact Rf.bs0 | exact Rf.sl0 | (apply Rf.fact; (focus (simp; done)); rfl) | apply Rf.tup | apply RL.cons)) (by (repeat first | exact RefineL.refl _ _ | exact RL.nil | exact Rf.same | exact Rf.bs0 | exact Rf.sl0 | (apply Rf.fact; (focus (simp; done)); rfl) | apply Rf.tup | apply RL.cons)) (List.nil_sublist _) ⟨rfl, rfl⟩
 | cons c r =>
  have hsl := split_length r
  rw [List.length_cons] at hb
  rw [split_consP] at hS
  rw [rdP]
  generalize c >>> 4 = x at hS ⊢
  generalize c &&& 15 = y at hS ⊢
  generalize split r = s at hS hsl ⊢
  have hl2 : (x :: y :: s).length = s.length + 2 := rfl
  have hrem := bin_and1 x
  refine FnM.walk 37 Try.func67 rfl Try.ntmps67 (by simp) fun X => ?_
  by_cases h3 : 3 < x.toNat
  ·
   rw [if_pos h3]
   repeat
    (first
     | (apply P_call (hS); rfl; exact RefineL.refl _ _; (focus (intro _ _; simp [go_sem]; done)); iterate 2 rfl) | (apply P_move; iterate 3 rfl)
     | (apply P_assign; iterate 3 rfl) | (apply P_loadpd; iterate 5 rfl) | (apply P_pick; iterate 4 rfl)
     | (apply P_cmp (b := true); (iterate 2 rfl); (focus (first | (simp [cmpI]; done) | (simp [cmpI]; omega))); iterate 2 rfl)
     | (apply P_cmp (b := false); (iterate 2 rfl); (focus (first | (simp [cmpI]; done) | (simp [cmpI]; omega))); iterate 2 rfl) | (apply P_lenbs; iterate 4 rfl)
     | (apply P_indexbs; (iterate 3 rfl); (focus (first | exact ⟨by decide, rfl⟩ | (refine ⟨by omega, ?_⟩; rw [Int.toNat_natCast]; assumption))); iterate 2 rfl) | apply EL.nil
     | ((with_reducible apply EK.then_normal); apply EK.code) | (apply EC.cond_true; rfl) | (with_reducible first | apply EC.seq | apply EC.region | apply EC.ret | apply EK.then_ret))
   exact EK.retM3 [] rfl rfl rfl rfl (by (repeat first | exact RefineL.refl _ _ | exact RL.nil | exact Rf.same | exact Rf.bs0 | exact Rf.sl0 | (apply Rf.fact; (focus (simp; done)); rfl) | apply Rf.tup | apply RL.cons)) (by (repeat first | exact RefineL.refl _ _ | exact RL.nil | exact Rf.same | exact Rf.bs0 | exact Rf.sl0 | (apply Rf.fact; (focus (simp; done)); rfl) | apply Rf.tup | apply RL.cons)) (by (repeat first | exact RefineL.refl _ _ | exact RL.nil | exact Rf.same | exact Rf.bs0 | exact Rf.sl0 | (apply Rf.fact; (focus (simp; done)); rfl) | apply Rf.tup | apply RL.cons)) (List.nil_sublist _) ⟨rfl, rfl⟩
  ·
   rw [if_neg h3]
   by_cases h1 : x.toNat % 2 = 1
   ·
    rw [if_pos h1]
    rw [h1] at hrem
    by_cases h2 : 2 ≤ x.toNat
    ·
     rw [show decide (2 ≤ x.toNat) = true by simp [h2]]
     repeat
      (first
       | (apply P_call (hS); rfl; exact RefineL.refl _ _; (focus (intro _ _; simp [go_sem]; done)); iterate 2 rfl) | (apply P_bin; (iterate 2 rfl); exact hrem; iterate 2 rfl)
       | (apply P_bsfrom; (iterate 3 rfl); exact ⟨by decide, by rw [hl2]; show 1 ≤ _; omega⟩; iterate 2 rfl) | (apply P_move; iterate 3 rfl) | (apply P_assign; iterate 3 rfl)
       | (apply P_loadpd; iterate 5 rfl) | (apply P_pick; iterate 4 rfl)
       | (apply P_cmp (b := true); (iterate 2 rfl); (focus (first | (simp [cmpI]; done) | (simp [cmpI]; omega))); iterate 2 rfl)
       | (apply P_cmp (b := false); (iterate 2 rfl); (focus (first | (simp [cmpI]; done) | (simp [cmpI]; omega))); iterate 2 rfl) | (apply P_lenbs; iterate 4 rfl)
       | (apply P_indexbs; (iterate 3 rfl); (focus (first | exact ⟨by decide, rfl⟩ | (refine ⟨by omega, ?_⟩; rw [Int.toNat_natCast]; assumption))); iterate 2 rfl) | apply EL.nil
       | ((with_reducible apply EK.then_normal); apply EK.code) | (apply EC.cond_true; rfl) | (apply EC.cond_false; rfl)
       | (with_reducible first | apply EC.seq | apply EC.region | apply EC.skip | apply EC.ret | apply EK.then_ret))
     exact EK.retM3 [] rfl rfl rfl rfl (by (repeat first | exact RefineL.refl _ _ | exact RL.nil | exact Rf.same | exact Rf.bs0 | exact Rf.sl0 | (apply Rf.fact; (focus (simp; done)); rfl) | apply Rf.tup | apply RL.cons)) (by (repeat first | exact RefineL.refl _ _ | exact RL.nil | exact Rf.same | exact Rf.bs0 | exact Rf.sl0 | (apply Rf.fact; (focus (simp; done)); rfl) | apply Rf.tup | apply RL.cons)) (by (repeat first | exact RefineL.refl _ _ | exact RL.nil | exact Rf.same | exact Rf.bs0 | exact Rf.sl0 | (apply Rf.fact; (focus (simp; done)); rfl) | apply Rf.tup | apply RL.cons)) (List.nil_sublist _) ⟨rfl, rfl⟩
    ·
     rw [show decide (2 ≤ x.toNat) = false by simp [h2]]
     repeat
      (first
       | (apply P_call (hS); rfl; exact RefineL.refl _ _; (focus (intro _ _; simp [go_sem]; done)); iterate 2 rfl) | (apply P_bin; (iterate 2 rfl); exact hrem; iterate 2 rfl)
       | (apply P_bsfrom; (iterate 3 rfl); exact ⟨by decide, by rw [hl2]; show 1 ≤ _; omega⟩; iterate 2 rfl) | (apply P_move; iterate 3 rfl) | (apply P_assign; iterate 3 rfl)
       | (apply P_loadpd; iterate 5 rfl) | (apply P_pick; iterate 4 rfl)
       | (apply P_cmp (b := true); (iterate 2 rfl); (focus (first | (simp [cmpI]; done) | (simp [cmpI]; omega))); iterate 2 rfl)
       | (apply P_cmp (b := false); (iterate 2 rfl); (focus (first | (simp [cmpI]; done) | (simp [cmpI]; omega))); iterate 2 rfl) | (apply P_lenbs; iterate 4 rfl)
       | (apply P_indexbs; (iterate 3 rfl); (focus (first | exact ⟨by decide, rfl⟩ | (refine ⟨by omega, ?_⟩; rw [Int.toNat_natCast]; assumption))); iterate 2 rfl) | apply EL.nil
       | ((with_reducible apply EK.then_normal); apply EK.code) | (apply EC.cond_true; rfl) | (apply EC.cond_false; rfl)
       | (with_reducible first | apply EC.seq | apply EC.region | apply EC.skip | apply EC.ret | apply EK.then_ret))
     exact EK.retM3 [] rfl rfl rfl rfl (by (repeat first | exact RefineL.refl _ _ | exact RL.nil | exact Rf.same | exact Rf.bs0 | exact Rf.sl0 | (apply Rf.fact; (focus (simp; done)); rfl) | apply Rf.tup | apply RL.cons)) (by (repeat first | exact RefineL.refl _ _ | exact RL.nil | exact Rf.same | exact Rf.bs0 | exact Rf.sl0 | (apply Rf.fact; (focus (simp; done)); rfl) | apply Rf.tup | apply RL.cons)) (by (repeat first | exact RefineL.refl _ _ | exact RL.nil | exact Rf.same | exact Rf.bs0 | exact Rf.sl0 | (apply Rf.fact; (focus (simp; done)); rfl) | apply Rf.tup | apply RL.cons)) (List.nil_sublist _) ⟨rfl, rfl⟩
   ·
    have h0 : x.toNat % 2 = 0 := by omega
    rw [if_neg h1]
    rw [h0] at hrem
    by_cases hy : y.toNat = 0
    ·
     rw [if_pos hy]
     by_cases h2 : 2 ≤ x.toNat
     ·
      rw [show decide (2 ≤ x.toNat) = true by simp [h2]]
      repeat
       (first
        | (apply P_call (hS); rfl; exact RefineL.refl _ _; (focus (intro _ _; simp [go_sem]; done)); iterate 2 rfl) | (apply P_bin; (iterate 2 rfl); exact hrem; iterate 2 rfl)
        | (apply P_bsfrom; (iterate 3 rfl); exact ⟨by decide, by rw [hl2]; show 2 ≤ _; omega⟩; iterate 2 rfl) | (apply P_move; iterate 3 rfl) | (apply P_assign; iterate 3 rfl)
        | (apply P_loadpd; iterate 5 rfl) | (apply P_pick; iterate 4 rfl)
        | (apply P_cmp (b := true); (iterate 2 rfl); (focus (first | (simp [cmpI]; done) | (simp [cmpI]; omega))); iterate 2 rfl)
        | (apply P_cmp (b := false); (iterate 2 rfl); (focus (first | (simp [cmpI]; done) | (simp [cmpI]; omega))); iterate 2 rfl) | (apply P_lenbs; iterate 4 rfl)
        | (apply P_indexbs; (iterate 3 rfl); (focus (first | exact ⟨by decide, rfl⟩ | (refine ⟨by omega, ?_⟩; rw [Int.toNat_natCast]; assumption))); iterate 2 rfl) | apply EL.nil
        | ((with_reducible apply EK.then_normal); apply EK.code) | (apply EC.cond_false; rfl) | (with_reducible first | apply EC.seq | apply EC.region | apply EC.skip | apply EC.ret))
      exact EK.retM3 [] rfl rfl rfl rfl (by (repeat first | exact RefineL.refl _ _ | exact RL.nil | exact Rf.same | exact Rf.bs0 | exact Rf.sl0 | (apply Rf.fact; (focus (simp; done)); rfl) | apply Rf.tup | apply RL.cons)) (by (repeat first | exact RefineL.refl _ _ | exact RL.nil | exact Rf.same | exact Rf.bs0 | exact Rf.sl0 | (apply Rf.fact; (focus (simp; done)); rfl) | apply Rf.tup | apply RL.cons)) (by (repeat first | exact RefineL.refl _ _ | exact RL.nil | exact Rf.same | exact Rf.bs0 | exact Rf.sl0 | (apply Rf.fact; (focus (simp; done)); rfl) | apply Rf.tup | apply RL.cons)) (List.nil_sublist _) ⟨rfl, rfl⟩
     ·
      rw [show decide (2 ≤ x.toNat) = false by simp [h2]]
      repeat
       (first
        | (apply P_call (hS); rfl; exact RefineL.refl _ _; (focus (intro _ _; simp [go_sem]; done)); iterate 2 rfl) | (apply P_bin; (iterate 2 rfl); exact hrem; iterate 2 rfl)
        | (apply P_bsfrom; (iterate 3 rfl); exact ⟨by decide, by rw [hl2]; show 2 ≤ _; omega⟩; iterate 2 rfl) | (apply P_move; iterate 3 rfl) | (apply P_assign; iterate 3 rfl)
        | (apply P_loadpd; iterate 5 rfl) | (apply P_pick; iterate 4 rfl)
        | (apply P_cmp (b := false); (iterate 2 rfl); (focus (first | (simp [cmpI]; done) | (simp [cmpI]; omega))); iterate 2 rfl) | (apply P_lenbs; iterate 4 rfl)
        | (apply P_indexbs; (iterate 3 rfl); (focus (first | exact ⟨by decide, rfl⟩ | (refine ⟨by omega, ?_⟩; rw [Int.toNat_natCast]; assumption))); iterate 2 rfl) | apply EL.nil
        | ((with_reducible apply EK.then_normal); apply EK.code) | (apply EC.cond_false; rfl) | (with_reducible first | apply EC.seq | apply EC.region | apply EC.skip | apply EC.ret))
      exact EK.retM3 [] rfl rfl rfl rfl (by (repeat first | exact RefineL.refl _ _ | exact RL.nil | exact Rf.same | exact Rf.bs0 | exact Rf.sl0 | (apply Rf.fact; (focus (simp; done)); rfl) | apply Rf.tup | apply RL.cons)) (by (repeat first | exact RefineL.refl _ _ | exact RL.nil | exact Rf.same | exact Rf.bs0 | exact Rf.sl0 | (apply Rf.fact; (focus (simp; done)); rfl) | apply Rf.tup | apply RL.cons)) (by (repeat first | exact RefineL.refl _ _ | exact RL.nil | exact Rf.same | exact Rf.bs0 | exact Rf.sl0 | (apply Rf.fact; (focus (simp; done)); rfl) | apply Rf.tup | apply RL.cons)) (List.nil_sublist _) ⟨rfl, rfl⟩
    ·
     rw [if_neg hy]
     repeat
      (first
       | (apply P_call (hS); rfl; exact RefineL.refl _ _; (focus (intro _ _; simp [go_sem]; done)); iterate 2 rfl) | (apply P_bin; (iterate 2 rfl); exact hrem; iterate 2 rfl)
       | (apply P_move; iterate 3 rfl) | (apply P_assign; iterate 3 rfl) | (apply P_loadpd; iterate 5 rfl) | (apply P_pick; iterate 4 rfl)
       | (apply P_cmp (b := true); (iterate 2 rfl); (focus (first | (simp [cmpI]; done) | (simp [cmpI]; omega))); iterate 2 rfl)
       | (apply P_cmp (b := false); (iterate 2 rfl); (focus (first | (simp [cmpI]; done) | (simp [cmpI]; omega))); iterate 2 rfl) | (apply P_cmp; iterate 5 rfl)
       | (apply P_lenbs; iterate 4 rfl)
       | (apply P_indexbs; (iterate 3 rfl); (focus (first | exact ⟨by decide, rfl⟩ | (refine ⟨by omega, ?_⟩; rw [Int.toNat_natCast]; assumption))); iterate 2 rfl) | apply EL.nil
       | ((with_reducible apply EK.then_normal); apply EK.code) | (apply EC.cond_true; rfl) | (apply EC.cond_false; rfl)
       | (with_reducible first | apply EC.seq | apply EC.region | apply EC.skip | apply EC.ret | apply EK.then_ret))
     exact EK.retM3 [] rfl rfl rfl rfl (by (repeat first | exact RefineL.refl _ _ | exact RL.nil | exact Rf.same | exact Rf.bs0 | exact Rf.sl0 | (apply Rf.fact; (focus (simp; done)); rfl) | apply Rf.tup | apply RL.cons)) (by (repeat first | exact RefineL.refl _ _ | exact RL.nil | exact Rf.same | exact Rf.bs0 | exact Rf.sl0 | (apply Rf.fact; (focus (simp; done)); rfl) | apply Rf.tup | apply RL.cons)) (by (repeat first | exact RefineL.refl _ _ | exact RL.nil | exact Rf.same | exact Rf.bs0 | exact Rf.sl0 | (apply Rf.fact; (focus (simp; done)); rfl) | apply Rf.tup | apply RL.cons)) (List.nil_sublist _) ⟨rfl, rfl⟩
def dN : Nd → D
 | .nil => .v .nilIface
 | .hash w => .ifc 42 (.arr 32 w)
 | .leaf p v => .ifc 72 (.pd (.tup [.bs p, .bs v]))
 | .ext p k => .ifc 76 (.pd (.tup [.bs p, dN k]))
 | .br ks v => .ifc 81 (.pd (.tup [.tup ((List.range 16).map fun i => dN (ks i)), .bs v]))
theorem dN_one (t : Nd) : (dN t).size = 1 ∧ (dN t).agg = false := by cases t <;> exact ⟨rfl, rfl⟩
def nodeD (r : Nd × Bool) : R := .tpl [dN r.1, .v (.bool r.2)]
set_option maxRecDepth 20000 in
set_option maxHeartbeats 8000000 in
theorem f_sRef (x : Raw) (N : Raw → Nd × Bool) (H : isL x = true → Fn 29 [dItem x] (· = nodeD (N x))) : Fn 68 [dItem x] (· = nodeD (refF N x)) := by
 have h2 := f_Pack x
 refine FnM.toFn ?_
 obtain ⟨l, b, xs⟩ := x
 unfold refF
 cases l with
 | true =>
  rw [if_pos (show isL (.mk true b xs) = true from rfl)]
  have h1 := H rfl
  cases hp : packed (.mk true b xs) with
  | none =>
   rw [hp] at h2
   unfold packD at h2
   dsimp only at h2 ⊢
   clear h1
   unfold dItem at h2 ⊢
   refine FnM.walk 36 Try.func68 rfl Try.ntmps68 (by simp) fun X => ?_
   repeat
    (first
     | (apply P_skip; iterate 2 rfl) | (apply P_call (h2); rfl; exact RefineL.refl _ _; (focus (intro _ _; simp [go_sem]; done)); iterate 2 rfl) | (apply P_move; iterate 3 rfl)
     | (apply P_assign; iterate 3 rfl) | (apply P_field; iterate 6 rfl) | (apply P_extract; iterate 4 rfl) | (apply P_pick; iterate 4 rfl)
     | (apply P_load; rfl; (first | exact I0 | exact I1 | exact I2 | exact I3 | exact I4 | exact I5 | exact I6); iterate 4 rfl)
     | (apply P_cmp (b := true); (iterate 2 rfl); (focus (first | (simp [cmpI]; done) | (simp [cmpI]; omega))); iterate 2 rfl) | (apply P_box; rfl; rfl; rfl; intro _)
     | apply EL.nil | ((with_reducible apply EK.then_normal); apply EK.code) | (apply EC.cond_true; rfl) | (with_reducible first | apply EC.seq | apply EC.region | apply EC.ret | apply EK.then_ret))
   exact EK.retM2kS [] rfl rfl rfl (RL.cons Rf.same (RL.cons Rf.same RL.nil)) (List.nil_sublist _) ⟨rfl, rfl⟩
  | some pb =>
   rw [hp] at h2
   unfold packD at h2
   dsimp only at h2 ⊢
   by_cases h32 : pb.length < 32
   ·
    rw [if_pos h32]
    unfold nodeD at h1 ⊢
    generalize N (.mk true b xs) = r at h1 ⊢
    unfold dItem at h1 h2 ⊢
    refine FnM.walk 36 Try.func68 rfl Try.ntmps68 (by simp) fun X => ?_
    repeat
     (first
      | (apply P_call (h2); rfl; exact RefineL.refl _ _; (focus (intro _ _; simp [go_sem]; done)); iterate 2 rfl)
      | (apply P_call (h1); rfl; exact RefineL.refl _ _; (focus (intro _ _; simp [go_sem]; done)); iterate 2 rfl) | (apply P_move; iterate 3 rfl)
      | (apply P_assign; iterate 3 rfl) | (apply P_field; iterate 6 rfl) | (apply P_extract; iterate 4 rfl) | (apply P_pick; iterate 4 rfl)
      | (apply P_load; rfl; (first | exact I0 | exact I1 | exact I2 | exact I3 | exact I4 | exact I5 | exact I6); iterate 4 rfl)
      | (apply P_cmp (b := false); (iterate 2 rfl); (focus (first | (simp [cmpI]; done) | (simp [cmpI]; omega))); iterate 2 rfl) | (apply P_lenbs; iterate 4 rfl)
      | (apply P_box; rfl; rfl; rfl; intro _) | apply EL.nil | ((with_reducible apply EK.then_normal); apply EK.code) | (apply EC.cond_true; rfl) | (apply EC.cond_false; rfl)
      | (with_reducible first | apply EC.seq | apply EC.region | apply EC.skip | apply EC.ret | apply EK.then_ret))
    exact EK.retM2kS [] rfl rfl rfl (RL.cons Rf.same (RL.cons Rf.same RL.nil)) (List.nil_sublist _) ⟨rfl, rfl⟩
   ·
    rw [if_neg h32]
    clear h1
    unfold dItem at h2 ⊢
    refine FnM.walk 36 Try.func68 rfl Try.ntmps68 (by simp) fun X => ?_
    repeat
     (first
      | (apply P_call (h2); rfl; exact RefineL.refl _ _; (focus (intro _ _; simp [go_sem]; done)); iterate 2 rfl) | (apply P_move; iterate 3 rfl)
      | (apply P_assign; iterate 3 rfl) | (apply P_field; iterate 6 rfl) | (apply P_extract; iterate 4 rfl) | (apply P_pick; iterate 4 rfl)
      | (apply P_load; rfl; (first | exact I0 | exact I1 | exact I2 | exact I3 | exact I4 | exact I5 | exact I6); iterate 4 rfl)
      | (apply P_cmp (b := true); (iterate 2 rfl); (focus (first | (simp [cmpI]; done) | (simp [cmpI]; omega))); iterate 2 rfl)
      | (apply P_cmp (b := false); (iterate 2 rfl); (focus (first | (simp [cmpI]; done) | (simp [cmpI]; omega))); iterate 2 rfl) | (apply P_lenbs; iterate 4 rfl)
      | (apply P_box; rfl; rfl; rfl; intro _) | apply EL.nil | ((with_reducible apply EK.then_normal); apply EK.code) | (apply EC.cond_true; rfl)
      | (with_reducible first | apply EC.seq | apply EC.region | apply EC.ret | apply EK.then_ret))
    exact EK.retM2kS [] rfl rfl rfl (RL.cons Rf.same (RL.cons Rf.same RL.nil)) (List.nil_sublist _) ⟨rfl, rfl⟩
 | false =>
  clear h2 H
  rw [if_neg (show ¬ isL (.mk false b xs) = true from Bool.false_ne_true)]
  rw [show bts (.mk false b xs) = b from rfl]
  unfold dItem
  refine FnM.walk 36 Try.func68 rfl Try.ntmps68 (by simp) fun X => ?_
  by_cases h0 : b.length = 0
  ·
   rw [if_pos h0]
   have hc : cmpI .eql (b.length : Int) 0 = some true := by rw [h0]; rfl
   repeat
    (first
     | (apply P_cmp (b := true); (iterate 2 rfl); exact hc; iterate 2 rfl) | (apply P_assign; iterate 3 rfl) | (apply P_field; iterate 6 rfl)
     | (apply P_load; rfl; (first | exact I0 | exact I1 | exact I2 | exact I3 | exact I4 | exact I5 | exact I6); iterate 4 rfl) | (apply P_lenbs; iterate 4 rfl)
     | (apply P_box; rfl; rfl; rfl; intro _) | apply EL.nil | ((with_reducible apply EK.then_normal); apply EK.code) | (apply EC.cond_true; rfl) | (apply EC.cond_false; rfl)
     | (with_reducible first | apply EC.seq | apply EC.region | apply EC.skip | apply EC.block | apply EC.ret | apply EK.in_ret | apply EK.then_ret))
   exact EK.retM2kS [] rfl rfl rfl (RL.cons Rf.same (RL.cons Rf.same RL.nil)) (List.nil_sublist _) ⟨rfl, rfl⟩
  ·
   rw [if_neg h0]
   have hc : cmpI .eql (b.length : Int) 0 = some false := by
    simp only [cmpI, Option.some.injEq, beq_eq_false_iff_ne]
    omega
   by_cases h32 : b.length = 32
   ·
    rw [if_pos h32]
    repeat
     (first
      | (apply P_cmp (b := false); (iterate 2 rfl); exact hc; iterate 2 rfl) | (apply P_assign; iterate 3 rfl) | (apply P_field; iterate 6 rfl)
      | (apply P_loadpd; iterate 5 rfl) | (apply P_load; rfl; (first | exact I0 | exact I1 | exact I2 | exact I3 | exact I4 | exact I5 | exact I6); iterate 4 rfl)
      | (apply P_cmp (b := true); (iterate 2 rfl); (focus (first | (simp [cmpI]; done) | (simp [cmpI]; omega))); iterate 2 rfl) | (apply P_lenbs; iterate 4 rfl)
      | (apply P_s2a; (iterate 2 rfl); (focus (first | assumption | omega)); iterate 3 rfl) | (apply P_mkifc; iterate 4 rfl) | (apply P_box; rfl; rfl; rfl; intro _)
      | apply EL.nil | ((with_reducible apply EK.then_normal); apply EK.code) | (apply EC.cond_true; rfl) | (apply EC.cond_false; rfl)
      | (with_reducible first | apply EC.seq | apply EC.region | apply EC.skip | apply EC.block | apply EC.ret | apply EK.in_ret | apply EK.then_ret))
    exact EK.retM2kS [] rfl rfl rfl (RL.cons Rf.same (RL.cons Rf.same RL.nil)) (List.nil_sublist _) ⟨rfl, rfl⟩
   ·
    rw [if_neg h32]
    repeat
     (first
      | (apply P_cmp (b := false); (iterate 2 rfl); exact hc; iterate 2 rfl) | (apply P_assign; iterate 3 rfl) | (apply P_field; iterate 6 rfl)
      | (apply P_load; rfl; (first | exact I0 | exact I1 | exact I2 | exact I3 | exact I4 | exact I5 | exact I6); iterate 4 rfl)
      | (apply P_cmp (b := false); (iterate 2 rfl); (focus (first | (simp [cmpI]; done) | (simp [cmpI]; omega))); iterate 2 rfl) | (apply P_lenbs; iterate 4 rfl)
      | (apply P_box; rfl; rfl; rfl; intro _) | apply EL.nil | ((with_reducible apply EK.then_normal); apply EK.code) | (apply EC.cond_false; rfl)
      | (with_reducible first | apply EC.seq | apply EC.region | apply EC.skip | apply EC.block | apply EC.ret | apply EK.in_normal))
    exact EK.retM2kS [] rfl rfl rfl (RL.cons Rf.same (RL.cons Rf.same RL.nil)) (List.nil_sublist _) ⟨rfl, rfl⟩
theorem fill_extN (p : List UInt8) (t : Nd) : fillD (([(0, 1, false), (1, 1, false)] : List (Nat × Nat × Bool)).map fun x => (x.1, x.2.1)) (.tup [.v (.slice none 0 0), .v .nilIface]) [(0, .bs p), (1, dN t)] = some (.tup [.bs p, dN t]) := by
 have h1 := (dN_one t).1
 have h2 := (dN_one t).2
 have h3 : (D.bs p).agg = false := rfl
 simp [fillD, D.upd, D.updL, D.size, D.sizes, h1, h2, h3]
set_option maxRecDepth 20000 in
set_option maxHeartbeats 16000000 in
theorem f_sPair (x y : Raw) (N : Raw → Nd × Bool) (hx : (bts x).length ≤ 536870912) (H : isL y = true → Fn 29 [dItem y] (· = nodeD (N y))) : Fn 46 [dItem x, dItem y] (· = nodeD (pairF N x y)) := by
 have hR := f_sRef y N H
 clear H
 refine FnM.toFn ?_
 unfold pairF
 obtain ⟨xl, xb, xx⟩ := x
 have hP := f_pRead xb hx
 rw [show isL (.mk xl xb xx) = xl from rfl, show bts (.mk xl xb xx) = xb from rfl]
 unfold rpD at hP
 cases hr : rdP xb with
 | none =>
  rw [hr] at hP
  dsimp only at hP ⊢
  clear hR
  obtain ⟨yl, yb, yx⟩ := y
  unfold dItem
  refine FnM.walk 65 Try.func46 rfl Try.ntmps46 (by simp) fun X => ?_
  cases xl with
  | true =>
   repeat
    (first
     | (apply P_skip; iterate 2 rfl) | (apply P_call (hP); rfl; exact RefineL.refl _ _; (focus (intro _ _; simp [go_sem]; done)); iterate 2 rfl) | (apply P_move; iterate 3 rfl)
     | (apply P_assign; iterate 3 rfl) | (apply P_field; iterate 6 rfl) | (apply P_extract; iterate 4 rfl) | (apply P_pick; iterate 4 rfl)
     | (apply P_load; rfl; (first | exact I0 | exact I1 | exact I2 | exact I3 | exact I4 | exact I5 | exact I6); iterate 4 rfl) | (apply P_box; rfl; rfl; rfl; intro _)
     | apply EL.nil | ((with_reducible apply EK.then_normal); apply EK.code) | (apply EC.cond_true; rfl)
     | (with_reducible first | apply EC.seq | apply EC.region | apply EC.block | apply EC.ret | apply EK.in_ret | apply EK.then_ret))
   exact EK.retM2kS [] rfl rfl rfl (RL.cons Rf.same (RL.cons Rf.same RL.nil)) (List.nil_sublist _) ⟨rfl, rfl⟩
  | false =>
   repeat
    (first
     | (apply P_call (hP); rfl; exact RefineL.refl _ _; (focus (intro _ _; simp [go_sem]; done)); iterate 2 rfl) | (apply P_move; iterate 3 rfl)
     | (apply P_assign; iterate 3 rfl) | (apply P_field; iterate 6 rfl) | (apply P_extract; iterate 4 rfl) | (apply P_pick; iterate 4 rfl)
     | (apply P_not; iterate 3 rfl) | (apply P_load; rfl; (first | exact I0 | exact I1 | exact I2 | exact I3 | exact I4 | exact I5 | exact I6); iterate 4 rfl)
     | (apply P_box; rfl; rfl; rfl; intro _) | apply EL.nil | ((with_reducible apply EK.then_normal); apply EK.code) | (apply EC.cond_true; rfl)
     | (with_reducible first | apply EC.seq | apply EC.region | apply EC.block | apply EC.ret | apply EK.in_ret | apply EK.then_ret))
   exact EK.retM2kS [] rfl rfl rfl (RL.cons Rf.same (RL.cons Rf.same RL.nil)) (List.nil_sublist _) ⟨rfl, rfl⟩
 | some pl =>
  obtain ⟨p, lf⟩ := pl
  rw [hr] at hP
  dsimp only at hP ⊢
  cases xl with
  | true =>
   rw [if_pos rfl]
   clear hR
   obtain ⟨yl, yb, yx⟩ := y
   unfold dItem
   refine FnM.walk 65 Try.func46 rfl Try.ntmps46 (by simp) fun X => ?_
   repeat
    (first
     | (apply P_skip; iterate 2 rfl) | (apply P_call (hP); rfl; exact RefineL.refl _ _; (focus (intro _ _; simp [go_sem]; done)); iterate 2 rfl) | (apply P_move; iterate 3 rfl)
     | (apply P_assign; iterate 3 rfl) | (apply P_field; iterate 6 rfl) | (apply P_extract; iterate 4 rfl) | (apply P_pick; iterate 4 rfl)
     | (apply P_load; rfl; (first | exact I0 | exact I1 | exact I2 | exact I3 | exact I4 | exact I5 | exact I6); iterate 4 rfl) | (apply P_box; rfl; rfl; rfl; intro _)
     | apply EL.nil | ((with_reducible apply EK.then_normal); apply EK.code) | (apply EC.cond_true; rfl)
     | (with_reducible first | apply EC.seq | apply EC.region | apply EC.block | apply EC.ret | apply EK.in_ret | apply EK.then_ret))
   exact EK.retM2kS [] rfl rfl rfl (RL.cons Rf.same (RL.cons Rf.same RL.nil)) (List.nil_sublist _) ⟨rfl, rfl⟩
  | false =>
   rw [if_neg Bool.false_ne_true]
   cases lf with
   | true =>
    rw [if_pos rfl]
    clear hR
    obtain ⟨yl, yb, yx⟩ := y
    rw [show isL (.mk yl yb yx) = yl from rfl, show bts (.mk yl yb yx) = yb from rfl]
    unfold dItem
    refine FnM.walk 65 Try.func46 rfl Try.ntmps46 (by simp) fun X => ?_
    cases yl with
    | true =>
     rw [Bool.not_true, Bool.false_and]
     repeat
      (first
       | (apply P_call (hP); rfl; exact RefineL.refl _ _; (focus (intro _ _; simp [go_sem]; done)); iterate 2 rfl) | (apply P_move; iterate 3 rfl)
       | (apply P_assign; iterate 3 rfl) | (apply P_field; iterate 6 rfl) | (apply P_extract; iterate 4 rfl) | (apply P_pick; iterate 4 rfl)
       | (apply P_not; iterate 3 rfl) | (apply P_load; rfl; (first | exact I0 | exact I1 | exact I2 | exact I3 | exact I4 | exact I5 | exact I6); iterate 4 rfl)
       | (apply P_box; rfl; rfl; rfl; intro _) | apply EL.nil | ((with_reducible apply EK.then_normal); apply EK.code) | (apply EC.cond_true; rfl) | (apply EC.cond_false; rfl)
       | (with_reducible first | apply EC.seq | apply EC.region | apply EC.block))
     refine EC.draw 16 (by kernel_rfl) ?_
     simp only [List.take_succ_cons, List.take_zero, List.drop_succ_cons, List.drop_zero]
     repeat
      (first
       | (apply H_skip; iterate 2 rfl) | (apply EH.grow (g_boxpd rfl rfl); rfl; rfl; rfl) | (apply H_move; iterate 3 rfl) | (apply H_assign; iterate 3 rfl)
       | (apply H_field; iterate 6 rfl) | (apply H_pick; iterate 4 rfl) | (apply H_not; iterate 3 rfl)
       | (apply H_load; rfl; (first | exact I0 | exact I1 | exact I2 | exact I3 | exact I4 | exact I5 | exact I6); iterate 4 rfl) | (apply H_build; iterate 7 rfl)
       | (apply H_mkifc; iterate 4 rfl) | ((with_reducible apply EH.nil); rfl))
     repeat
      (first
       | (apply P_assign; iterate 3 rfl) | apply EL.nil | ((with_reducible apply EK.then_normal); apply EK.code) | (with_reducible first | apply EC.ret | apply EK.in_ret | apply EK.then_ret))
     exact EK.retM2kS [] rfl rfl rfl (RL.cons Rf.same (RL.cons Rf.same RL.nil)) (List.nil_sublist _) ⟨rfl, rfl⟩
    | false =>
     rw [Bool.not_false, Bool.true_and]
     by_cases h0 : 0 < yb.length
     ·
      rw [show decide (0 < yb.length) = true by simp [h0]]
      repeat
       (first
        | (apply P_call (hP); rfl; exact RefineL.refl _ _; (focus (intro _ _; simp [go_sem]; done)); iterate 2 rfl) | (apply P_move; iterate 3 rfl)
        | (apply P_assign; iterate 3 rfl) | (apply P_field; iterate 6 rfl) | (apply P_extract; iterate 4 rfl) | (apply P_pick; iterate 4 rfl)
        | (apply P_not; iterate 3 rfl) | (apply P_load; rfl; (first | exact I0 | exact I1 | exact I2 | exact I3 | exact I4 | exact I5 | exact I6); iterate 4 rfl)
        | (apply P_box; rfl; rfl; rfl; intro _) | apply EL.nil | ((with_reducible apply EK.then_normal); apply EK.code) | (apply EC.cond_true; rfl) | (apply EC.cond_false; rfl)
        | (with_reducible first | apply EC.seq | apply EC.region | apply EC.block))
      refine EC.draw 16 (by kernel_rfl) ?_
      simp only [List.take_succ_cons, List.take_zero, List.drop_succ_cons, List.drop_zero]
      repeat
       (first
        | (apply EH.grow (g_boxpd rfl rfl); rfl; rfl; rfl) | (apply H_move; iterate 3 rfl) | (apply H_assign; iterate 3 rfl) | (apply H_field; iterate 6 rfl)
        | (apply H_pick; iterate 4 rfl) | (apply H_not; iterate 3 rfl)
        | (apply H_load; rfl; (first | exact I0 | exact I1 | exact I2 | exact I3 | exact I4 | exact I5 | exact I6); iterate 4 rfl)
        | (apply H_cmp (b := true); (iterate 2 rfl); (focus (first | (simp [cmpI]; done) | (simp [cmpI]; omega))); iterate 2 rfl) | (apply H_lenbs; iterate 4 rfl)
        | (apply H_build; iterate 7 rfl) | (apply H_mkifc; iterate 4 rfl) | ((with_reducible apply EH.nil); rfl))
      repeat
       (first
        | (apply P_assign; iterate 3 rfl) | apply EL.nil | ((with_reducible apply EK.then_normal); apply EK.code) | (with_reducible first | apply EC.ret | apply EK.in_ret | apply EK.then_ret))
      exact EK.retM2kS [] rfl rfl rfl (RL.cons Rf.same (RL.cons Rf.same RL.nil)) (List.nil_sublist _) ⟨rfl, rfl⟩
     ·
      rw [show decide (0 < yb.length) = false by simp [h0]]
      have hc : cmpI .gtr (yb.length : Int) 0 = some false := by
       simp only [cmpI, Option.some.injEq, decide_eq_false_iff_not]
       omega
      repeat
       (first
        | (apply P_call (hP); rfl; exact RefineL.refl _ _; (focus (intro _ _; simp [go_sem]; done)); iterate 2 rfl) | (apply P_move; iterate 3 rfl)
        | (apply P_assign; iterate 3 rfl) | (apply P_field; iterate 6 rfl) | (apply P_extract; iterate 4 rfl) | (apply P_pick; iterate 4 rfl)
        | (apply P_not; iterate 3 rfl) | (apply P_load; rfl; (first | exact I0 | exact I1 | exact I2 | exact I3 | exact I4 | exact I5 | exact I6); iterate 4 rfl)
        | (apply P_box; rfl; rfl; rfl; intro _) | apply EL.nil | ((with_reducible apply EK.then_normal); apply EK.code) | (apply EC.cond_true; rfl) | (apply EC.cond_false; rfl)
        | (with_reducible first | apply EC.seq | apply EC.region | apply EC.block))
      refine EC.draw 16 (by kernel_rfl) ?_
      simp only [List.take_succ_cons, List.take_zero, List.drop_succ_cons, List.drop_zero]
      repeat
       (first
        | (apply EH.grow (g_boxpd rfl rfl); rfl; rfl; rfl) | (apply H_cmp (b := false); (iterate 2 rfl); exact hc; iterate 2 rfl) | (apply H_move; iterate 3 rfl)
        | (apply H_assign; iterate 3 rfl) | (apply H_field; iterate 6 rfl) | (apply H_pick; iterate 4 rfl) | (apply H_not; iterate 3 rfl)
        | (apply H_load; rfl; (first | exact I0 | exact I1 | exact I2 | exact I3 | exact I4 | exact I5 | exact I6); iterate 4 rfl) | (apply H_lenbs; iterate 4 rfl)
        | (apply H_build; iterate 7 rfl) | (apply H_mkifc; iterate 4 rfl) | ((with_reducible apply EH.nil); rfl))
      repeat
       (first
        | (apply P_assign; iterate 3 rfl) | apply EL.nil | ((with_reducible apply EK.then_normal); apply EK.code) | (with_reducible first | apply EC.ret | apply EK.in_ret | apply EK.then_ret))
      exact EK.retM2kS [] rfl rfl rfl (RL.cons Rf.same (RL.cons Rf.same RL.nil)) (List.nil_sublist _) ⟨rfl, rfl⟩
   | false =>
    rw [if_neg Bool.false_ne_true]
    unfold nodeD at hR
    generalize refF N y = k at hR ⊢
    obtain ⟨k, ok⟩ := k
    obtain ⟨yl, yb, yx⟩ := y
    dsimp only at hR ⊢
    have hfe := fill_extN p k
    unfold dItem at hR ⊢
    refine FnM.walk 65 Try.func46 rfl Try.ntmps46 (by simp) fun X => ?_
    cases k with
    | nil =>
     rw [if_neg (show ¬ Nd.nil.isBH = true from Bool.false_ne_true)]
     rw [dN] at hR
     repeat
      (first
       | (apply P_call (hP); rfl; exact RefineL.refl _ _; (focus (intro _ _; simp [go_sem]; done)); iterate 2 rfl)
       | (apply P_call (hR); rfl; exact RefineL.refl _ _; (focus (intro _ _; simp [go_sem]; done)); iterate 2 rfl) | (apply P_move; iterate 3 rfl)
       | (apply P_assign; iterate 3 rfl) | (apply P_field; iterate 6 rfl) | (apply P_extract; iterate 4 rfl) | (apply P_pick; iterate 4 rfl)
       | (apply P_not; iterate 3 rfl) | (apply P_load; rfl; (first | exact I0 | exact I1 | exact I2 | exact I3 | exact I4 | exact I5 | exact I6); iterate 4 rfl)
       | (apply P_asNil; iterate 5 rfl) | (apply P_box; rfl; rfl; rfl; intro _) | apply EL.nil | ((with_reducible apply EK.then_normal); apply EK.code)
       | (apply EC.cond_false; rfl) | (with_reducible first | apply EC.seq | apply EC.region | apply EC.skip | apply EC.block | apply EC.ret | apply EK.in_normal))
     exact EK.retM2kS [] rfl rfl rfl (RL.cons Rf.same (RL.cons Rf.same RL.nil)) (List.nil_sublist _) ⟨rfl, rfl⟩
    | leaf a b =>
     rw [if_neg (show ¬ (Nd.leaf a b).isBH = true from Bool.false_ne_true)]
     rw [dN] at hR
     repeat
      (first
       | (apply P_call (hP); rfl; exact RefineL.refl _ _; (focus (intro _ _; simp [go_sem]; done)); iterate 2 rfl)
       | (apply P_call (hR); rfl; exact RefineL.refl _ _; (focus (intro _ _; simp [go_sem]; done)); iterate 2 rfl) | (apply P_move; iterate 3 rfl)
       | (apply P_assign; iterate 3 rfl) | (apply P_field; iterate 6 rfl) | (apply P_extract; iterate 4 rfl) | (apply P_pick; iterate 4 rfl)
       | (apply P_not; iterate 3 rfl) | (apply P_load; rfl; (first | exact I0 | exact I1 | exact I2 | exact I3 | exact I4 | exact I5 | exact I6); iterate 4 rfl)
       | (apply P_asNo; iterate 6 rfl) | (apply P_box; rfl; rfl; rfl; intro _) | apply EL.nil | ((with_reducible apply EK.then_normal); apply EK.code)
       | (apply EC.cond_false; rfl) | (with_reducible first | apply EC.seq | apply EC.region | apply EC.skip | apply EC.block | apply EC.ret | apply EK.in_normal))
     exact EK.retM2kS [] rfl rfl rfl (RL.cons Rf.same (RL.cons Rf.same RL.nil)) (List.nil_sublist _) ⟨rfl, rfl⟩
    | ext a b =>
     rw [if_neg (show ¬ (Nd.ext a b).isBH = true from Bool.false_ne_true)]
     rw [dN] at hR
     repeat
      (first
       | (apply P_call (hP); rfl; exact RefineL.refl _ _; (focus (intro _ _; simp [go_sem]; done)); iterate 2 rfl)
       | (apply P_call (hR); rfl; exact RefineL.refl _ _; (focus (intro _ _; simp [go_sem]; done)); iterate 2 rfl) | (apply P_move; iterate 3 rfl)
       | (apply P_assign; iterate 3 rfl) | (apply P_field; iterate 6 rfl) | (apply P_extract; iterate 4 rfl) | (apply P_pick; iterate 4 rfl)
       | (apply P_not; iterate 3 rfl) | (apply P_load; rfl; (first | exact I0 | exact I1 | exact I2 | exact I3 | exact I4 | exact I5 | exact I6); iterate 4 rfl)
       | (apply P_asNo; iterate 6 rfl) | (apply P_box; rfl; rfl; rfl; intro _) | apply EL.nil | ((with_reducible apply EK.then_normal); apply EK.code)
       | (apply EC.cond_false; rfl) | (with_reducible first | apply EC.seq | apply EC.region | apply EC.skip | apply EC.block | apply EC.ret | apply EK.in_normal))
     exact EK.retM2kS [] rfl rfl rfl (RL.cons Rf.same (RL.cons Rf.same RL.nil)) (List.nil_sublist _) ⟨rfl, rfl⟩
    | hash a =>
     rw [if_pos (show (Nd.hash a).isBH = true from rfl)]
     rw [nodeD, dN]
     rw [dN] at hR hfe ⊢
     by_cases h0 : 0 < p.length
     ·
      rw [show decide (0 < p.length) = true by simp [h0], Bool.and_true]
      cases ok with
      | true =>
       repeat
        (first
         | (apply P_call (hP); rfl; exact RefineL.refl _ _; (focus (intro _ _; simp [go_sem]; done)); iterate 2 rfl)
         | (apply P_call (hR); rfl; exact RefineL.refl _ _; (focus (intro _ _; simp [go_sem]; done)); iterate 2 rfl) | (apply ES.grow (g_boxpd rfl rfl); rfl; rfl; rfl)
         | (apply P_move; iterate 3 rfl) | (apply P_assign; iterate 3 rfl) | (apply P_fieldpd; iterate 7 rfl) | (apply P_extract; iterate 4 rfl)
         | (apply P_loadpd; iterate 5 rfl) | (apply P_pick; iterate 4 rfl) | (apply P_not; iterate 3 rfl)
         | (apply P_cmp (b := true); (iterate 2 rfl); (focus (first | (simp [cmpI]; done) | (simp [cmpI]; omega))); iterate 2 rfl) | (apply P_lenbs; iterate 4 rfl)
         | (apply P_build; iterate 7 rfl) | (apply P_mkifc; iterate 4 rfl) | (apply P_asYes; iterate 4 rfl) | (apply P_asNo; iterate 6 rfl) | apply EL.nil
         | ((with_reducible apply EK.then_normal); apply EK.code) | (apply EC.cond_true; rfl) | (apply EC.cond_false; rfl)
         | (with_reducible first | apply EC.seq | apply EC.region | apply EC.skip | apply EC.block | apply EC.ret | apply EK.in_normal | apply EK.in_ret | apply EK.then_ret))
       exact EK.retM2kS [] rfl rfl rfl (RL.cons Rf.same (RL.cons Rf.same RL.nil)) (List.nil_sublist _) ⟨rfl, rfl⟩
      | false =>
       repeat
        (first
         | (apply P_skip; iterate 2 rfl) | (apply P_call (hP); rfl; exact RefineL.refl _ _; (focus (intro _ _; simp [go_sem]; done)); iterate 2 rfl)
         | (apply P_call (hR); rfl; exact RefineL.refl _ _; (focus (intro _ _; simp [go_sem]; done)); iterate 2 rfl) | (apply ES.grow (g_boxpd rfl rfl); rfl; rfl; rfl)
         | (apply P_move; iterate 3 rfl) | (apply P_assign; iterate 3 rfl) | (apply P_fieldpd; iterate 7 rfl) | (apply P_extract; iterate 4 rfl)
         | (apply P_loadpd; iterate 5 rfl) | (apply P_pick; iterate 4 rfl) | (apply P_not; iterate 3 rfl) | (apply P_build; iterate 7 rfl) | (apply P_mkifc; iterate 4 rfl)
         | (apply P_asYes; iterate 4 rfl) | (apply P_asNo; iterate 6 rfl) | apply EL.nil | ((with_reducible apply EK.then_normal); apply EK.code) | (apply EC.cond_true; rfl)
         | (apply EC.cond_false; rfl) | (with_reducible first | apply EC.seq | apply EC.region | apply EC.skip | apply EC.block | apply EC.ret | apply EK.in_normal | apply EK.in_ret | apply EK.then_ret))
       exact EK.retM2kS [] rfl rfl rfl (RL.cons Rf.same (RL.cons Rf.same RL.nil)) (List.nil_sublist _) ⟨rfl, rfl⟩
     ·
      rw [show decide (0 < p.length) = false by simp [h0], Bool.and_false]
      have hc : cmpI .gtr (p.length : Int) 0 = some false := by
       simp only [cmpI, Option.some.injEq, decide_eq_false_iff_not]
       omega
      cases ok with
      | true =>
       repeat
        (first
         | (apply P_call (hP); rfl; exact RefineL.refl _ _; (focus (intro _ _; simp [go_sem]; done)); iterate 2 rfl)
         | (apply P_call (hR); rfl; exact RefineL.refl _ _; (focus (intro _ _; simp [go_sem]; done)); iterate 2 rfl) | (apply ES.grow (g_boxpd rfl rfl); rfl; rfl; rfl)
         | (apply P_cmp (b := false); (iterate 2 rfl); exact hc; iterate 2 rfl) | (apply P_move; iterate 3 rfl) | (apply P_assign; iterate 3 rfl)
         | (apply P_fieldpd; iterate 7 rfl) | (apply P_extract; iterate 4 rfl) | (apply P_loadpd; iterate 5 rfl) | (apply P_pick; iterate 4 rfl)
         | (apply P_not; iterate 3 rfl) | (apply P_lenbs; iterate 4 rfl) | (apply P_build; iterate 7 rfl) | (apply P_mkifc; iterate 4 rfl) | (apply P_asYes; iterate 4 rfl)
         | (apply P_asNo; iterate 6 rfl) | apply EL.nil | ((with_reducible apply EK.then_normal); apply EK.code) | (apply EC.cond_true; rfl) | (apply EC.cond_false; rfl)
         | (with_reducible first | apply EC.seq | apply EC.region | apply EC.skip | apply EC.block | apply EC.ret | apply EK.in_normal | apply EK.in_ret | apply EK.then_ret))
       exact EK.retM2kS [] rfl rfl rfl (RL.cons Rf.same (RL.cons Rf.same RL.nil)) (List.nil_sublist _) ⟨rfl, rfl⟩
      | false =>
       repeat
        (first
         | (apply P_skip; iterate 2 rfl) | (apply P_call (hP); rfl; exact RefineL.refl _ _; (focus (intro _ _; simp [go_sem]; done)); iterate 2 rfl)
         | (apply P_call (hR); rfl; exact RefineL.refl _ _; (focus (intro _ _; simp [go_sem]; done)); iterate 2 rfl) | (apply ES.grow (g_boxpd rfl rfl); rfl; rfl; rfl)
         | (apply P_move; iterate 3 rfl) | (apply P_assign; iterate 3 rfl) | (apply P_fieldpd; iterate 7 rfl) | (apply P_extract; iterate 4 rfl)
         | (apply P_loadpd; iterate 5 rfl) | (apply P_pick; iterate 4 rfl) | (apply P_not; iterate 3 rfl) | (apply P_build; iterate 7 rfl) | (apply P_mkifc; iterate 4 rfl)
         | (apply P_asYes; iterate 4 rfl) | (apply P_asNo; iterate 6 rfl) | apply EL.nil | ((with_reducible apply EK.then_normal); apply EK.code) | (apply EC.cond_true; rfl)
         | (apply EC.cond_false; rfl) | (with_reducible first | apply EC.seq | apply EC.region | apply EC.skip | apply EC.block | apply EC.ret | apply EK.in_normal | apply EK.in_ret | apply EK.then_ret))
       exact EK.retM2kS [] rfl rfl rfl (RL.cons Rf.same (RL.cons Rf.same RL.nil)) (List.nil_sublist _) ⟨rfl, rfl⟩
    | br a b =>
     rw [if_pos (show (Nd.br a b).isBH = true from rfl)]
     rw [nodeD, dN]
     rw [dN] at hR hfe ⊢
     generalize (List.range 16).map (fun i => dN (a i)) = K at *
     by_cases h0 : 0 < p.length
     ·
      rw [show decide (0 < p.length) = true by simp [h0], Bool.and_true]
      cases ok with
      | true =>
       repeat
        (first
         | (apply P_call (hP); rfl; exact RefineL.refl _ _; (focus (intro _ _; simp [go_sem]; done)); iterate 2 rfl)
         | (apply P_call (hR); rfl; exact RefineL.refl _ _; (focus (intro _ _; simp [go_sem]; done)); iterate 2 rfl) | (apply ES.grow (g_boxpd rfl rfl); rfl; rfl; rfl)
         | (apply P_move; iterate 3 rfl) | (apply P_assign; iterate 3 rfl) | (apply P_fieldpd; iterate 7 rfl) | (apply P_extract; iterate 4 rfl)
         | (apply P_loadpd; iterate 5 rfl) | (apply P_pick; iterate 4 rfl) | (apply P_not; iterate 3 rfl)
         | (apply P_cmp (b := true); (iterate 2 rfl); (focus (first | (simp [cmpI]; done) | (simp [cmpI]; omega))); iterate 2 rfl) | (apply P_lenbs; iterate 4 rfl)
         | (apply P_build; iterate 7 rfl) | (apply P_mkifc; iterate 4 rfl) | (apply P_asYes; iterate 4 rfl) | (apply P_asNo; iterate 6 rfl) | apply EL.nil
         | ((with_reducible apply EK.then_normal); apply EK.code) | (apply EC.cond_true; rfl) | (apply EC.cond_false; rfl)
         | (with_reducible first | apply EC.seq | apply EC.region | apply EC.skip | apply EC.block | apply EC.ret | apply EK.in_normal | apply EK.in_ret | apply EK.then_ret))
       exact EK.retM2kS [] rfl rfl rfl (RL.cons Rf.same (RL.cons Rf.same RL.nil)) (List.nil_sublist _) ⟨rfl, rfl⟩
      | false =>
       repeat
        (first
         | (apply P_skip; iterate 2 rfl) | (apply P_call (hP); rfl; exact RefineL.refl _ _; (focus (intro _ _; simp [go_sem]; done)); iterate 2 rfl)
         | (apply P_call (hR); rfl; exact RefineL.refl _ _; (focus (intro _ _; simp [go_sem]; done)); iterate 2 rfl) | (apply ES.grow (g_boxpd rfl rfl); rfl; rfl; rfl)
         | (apply P_move; iterate 3 rfl) | (apply P_assign; iterate 3 rfl) | (apply P_fieldpd; iterate 7 rfl) | (apply P_extract; iterate 4 rfl)
         | (apply P_loadpd; iterate 5 rfl) | (apply P_pick; iterate 4 rfl) | (apply P_not; iterate 3 rfl) | (apply P_build; iterate 7 rfl) | (apply P_mkifc; iterate 4 rfl)
         | (apply P_asYes; iterate 4 rfl) | (apply P_asNo; iterate 6 rfl) | apply EL.nil | ((with_reducible apply EK.then_normal); apply EK.code) | (apply EC.cond_true; rfl)
         | (apply EC.cond_false; rfl) | (with_reducible first | apply EC.seq | apply EC.region | apply EC.skip | apply EC.block | apply EC.ret | apply EK.in_normal | apply EK.in_ret | apply EK.then_ret))
       exact EK.retM2kS [] rfl rfl rfl (RL.cons Rf.same (RL.cons Rf.same RL.nil)) (List.nil_sublist _) ⟨rfl, rfl⟩
     ·
      rw [show decide (0 < p.length) = false by simp [h0], Bool.and_false]
      have hc : cmpI .gtr (p.length : Int) 0 = some false := by
       simp only [cmpI, Option.some.injEq, decide_eq_false_iff_not]
       omega
      cases ok with
      | true =>
       repeat
        (first
         | (apply P_call (hP); rfl; exact RefineL.refl _ _; (focus (intro _ _; simp [go_sem]; done)); iterate 2 rfl)
         | (apply P_call (hR); rfl; exact RefineL.refl _ _; (focus (intro _ _; simp [go_sem]; done)); iterate 2 rfl) | (apply ES.grow (g_boxpd rfl rfl); rfl; rfl; rfl)
         | (apply P_cmp (b := false); (iterate 2 rfl); exact hc; iterate 2 rfl) | (apply P_move; iterate 3 rfl) | (apply P_assign; iterate 3 rfl)
         | (apply P_fieldpd; iterate 7 rfl) | (apply P_extract; iterate 4 rfl) | (apply P_loadpd; iterate 5 rfl) | (apply P_pick; iterate 4 rfl)
         | (apply P_not; iterate 3 rfl) | (apply P_lenbs; iterate 4 rfl) | (apply P_build; iterate 7 rfl) | (apply P_mkifc; iterate 4 rfl) | (apply P_asYes; iterate 4 rfl)
         | (apply P_asNo; iterate 6 rfl) | apply EL.nil | ((with_reducible apply EK.then_normal); apply EK.code) | (apply EC.cond_true; rfl) | (apply EC.cond_false; rfl)
         | (with_reducible first | apply EC.seq | apply EC.region | apply EC.skip | apply EC.block | apply EC.ret | apply EK.in_normal | apply EK.in_ret | apply EK.then_ret))
       exact EK.retM2kS [] rfl rfl rfl (RL.cons Rf.same (RL.cons Rf.same RL.nil)) (List.nil_sublist _) ⟨rfl, rfl⟩
      | false =>
       repeat
        (first
         | (apply P_skip; iterate 2 rfl) | (apply P_call (hP); rfl; exact RefineL.refl _ _; (focus (intro _ _; simp [go_sem]; done)); iterate 2 rfl)
         | (apply P_call (hR); rfl; exact RefineL.refl _ _; (focus (intro _ _; simp [go_sem]; done)); iterate 2 rfl) | (apply ES.grow (g_boxpd rfl rfl); rfl; rfl; rfl)
         | (apply P_move; iterate 3 rfl) | (apply P_assign; iterate 3 rfl) | (apply P_fieldpd; iterate 7 rfl) | (apply P_extract; iterate 4 rfl)
         | (apply P_loadpd; iterate 5 rfl) | (apply P_pick; iterate 4 rfl) | (apply P_not; iterate 3 rfl) | (apply P_build; iterate 7 rfl) | (apply P_mkifc; iterate 4 rfl)
         | (apply P_asYes; iterate 4 rfl) | (apply P_asNo; iterate 6 rfl) | apply EL.nil | ((with_reducible apply EK.then_normal); apply EK.code) | (apply EC.cond_true; rfl)
         | (apply EC.cond_false; rfl) | (with_reducible first | apply EC.seq | apply EC.region | apply EC.skip | apply EC.block | apply EC.ret | apply EK.in_normal | apply EK.in_ret | apply EK.then_ret))
       exact EK.retM2kS [] rfl rfl rfl (RL.cons Rf.same (RL.cons Rf.same RL.nil)) (List.nil_sublist _) ⟨rfl, rfl⟩
end E
end Go.Proofs.Ytiledgojbpmoiaa
