/-
 Merged (wip/tools/merge.py): PF5, PF3, Cmp0.
 Conditions: none.
-/
import Derived.Test.YtiledgojbpmoiaaGreatZR17
import Derived.Test.YtiledgojbpmoiaaGreatZR3
import Derived.Lib.Bytealg
import Derived.Lib.BytesEntry
import Derived.Sort.Walk0
namespace Go.Proofs.YtiledgojbpmoiaaGreat
set_option linter.unusedVariables false
set_option maxRecDepth 20000
set_option maxHeartbeats 16000000
open Go.RowKit Mono Rlp
namespace E
theorem Jh (x : Nat) (h : x < 256) : bits .and .u8 (x : Int) 1 = ((x % 2 : Nat) : Int) := by
 have h' : ∀ x : Fin 256, bits .and .u8 (x.1 : Int) 1 = ((x.1 % 2 : Nat) : Int) := by decide +kernel
 exact h' ⟨x, h⟩
theorem QB (a : UInt8) : Bin .and 5 (.v (bv a)) (.v (.int .u8 1)) (.int .u8 ((a.toNat % 2 : Nat) : Int)) := QA rfl fun w => by
 have h := Jh a.toNat a.toNat_lt
 show Result.ok (Value.int .u8 (bits .and .u8 (a.toNat : Int) 1)) w = _
 rw [h]
theorem SE (b : List UInt8) (hb : b.length ≤ 536870912) : Fn 205 [.bs b] (· = rpD b) := by
 have hS := qx b (by omega)
 unfold rpD
 refine FnM.toFn ?_
 cases b with
 | nil =>
  rw [show split [] = [] from rfl] at hS
  rw [rdP]
  refine FnM.walk 37 Tryz.func205 rfl Tryz.ntmps205 (by simp) fun X => ?_
  repeat
   (first
    | (apply fF; iterate 2 rfl) | (apply aA (hS); rfl; exact aj.refl _ _; exact enA; iterate 2 rfl) | (apply au; iterate 3 rfl)
    | (apply ak; iterate 3 rfl) | (apply aT; iterate 4 rfl) | (apply aC (b := true); (iterate 2 rfl); exact aO; iterate 2 rfl)
    | (apply aU; iterate 4 rfl) | apply EL.nil | ((with_reducible apply EK.ah); apply EK.code) | (apply EC.cond_true; rfl)
    | (with_reducible first | apply EC.seq | apply EC.region | apply EC.ret | apply EK.aH))
  exact EK.iK [] rfl rfl rfl rfl RL.a RL.a RL.a (List.nil_sublist _) ⟨rfl, rfl⟩
 | cons c r =>
  have hsl := dG r
  rw [List.length_cons] at hb
  rw [wu] at hS
  rw [rdP]
  generalize c >>> 4 = x at hS ⊢
  generalize c &&& 15 = y at hS ⊢
  generalize split r = s at hS hsl ⊢
  have hl2 : (x :: y :: s).length = s.length + 2 := rfl
  have hrem := QB x
  refine FnM.walk 37 Tryz.func205 rfl Tryz.ntmps205 (by simp) fun X => ?_
  by_cases h3 : 3 < x.toNat
  ·
   rw [if_pos h3]
   repeat
    (first
     | (apply aA (hS); rfl; exact aj.refl _ _; exact enA; iterate 2 rfl) | (apply au; iterate 3 rfl) | (apply ak; iterate 3 rfl)
     | (apply aK; iterate 5 rfl) | (apply aT; iterate 4 rfl) | (apply aC (b := true); (iterate 2 rfl); exact aO; iterate 2 rfl)
     | (apply aC (b := false); (iterate 2 rfl); exact aO; iterate 2 rfl) | (apply aU; iterate 4 rfl)
     | (apply gJ; (iterate 3 rfl); (focus (first | exact ⟨by decide, rfl⟩ | (refine ⟨by omega, ?_⟩; rw [Int.toNat_natCast]; assumption))); iterate 2 rfl) | apply EL.nil
     | ((with_reducible apply EK.ah); apply EK.code) | (apply EC.cond_true; rfl) | (with_reducible first | apply EC.seq | apply EC.region | apply EC.ret | apply EK.aH))
   exact EK.iK [] rfl rfl rfl rfl RL.a RL.a RL.a (List.nil_sublist _) ⟨rfl, rfl⟩
  ·
   rw [if_neg h3]
   by_cases h1 : x.toNat % 2 = 1
   ·
    rw [if_pos h1]
    rw [h1] at hrem
    by_cases h2 : 2 ≤ x.toNat
    ·
     rw [show decide (2 ≤ x.toNat) = true by simp [h2]]
     repeat
      (first
       | (apply aA (hS); rfl; exact aj.refl _ _; exact enA; iterate 2 rfl) | (apply dY; (iterate 2 rfl); exact hrem; iterate 2 rfl)
       | (apply qL; (iterate 3 rfl); exact ⟨by decide, by rw [hl2]; show 1 ≤ _; omega⟩; iterate 2 rfl) | (apply au; iterate 3 rfl) | (apply ak; iterate 3 rfl)
       | (apply aK; iterate 5 rfl) | (apply aT; iterate 4 rfl) | (apply aC (b := true); (iterate 2 rfl); exact aO; iterate 2 rfl)
       | (apply aC (b := false); (iterate 2 rfl); exact aO; iterate 2 rfl) | (apply aU; iterate 4 rfl)
       | (apply gJ; (iterate 3 rfl); (focus (first | exact ⟨by decide, rfl⟩ | (refine ⟨by omega, ?_⟩; rw [Int.toNat_natCast]; assumption))); iterate 2 rfl) | apply EL.nil
       | ((with_reducible apply EK.ah); apply EK.code) | (apply EC.cond_true; rfl) | (apply EC.cond_false; rfl)
       | (with_reducible first | apply EC.seq | apply EC.region | apply EC.skip | apply EC.ret | apply EK.aH))
     exact EK.iK [] rfl rfl rfl rfl RL.a RL.a RL.a (List.nil_sublist _) ⟨rfl, rfl⟩
    ·
     rw [show decide (2 ≤ x.toNat) = false by simp [h2]]
     repeat
      (first
       | (apply aA (hS); rfl; exact aj.refl _ _; exact enA; iterate 2 rfl) | (apply dY; (iterate 2 rfl); exact hrem; iterate 2 rfl)
       | (apply qL; (iterate 3 rfl); exact ⟨by decide, by rw [hl2]; show 1 ≤ _; omega⟩; iterate 2 rfl) | (apply au; iterate 3 rfl) | (apply ak; iterate 3 rfl)
       | (apply aK; iterate 5 rfl) | (apply aT; iterate 4 rfl) | (apply aC (b := true); (iterate 2 rfl); exact aO; iterate 2 rfl)
       | (apply aC (b := false); (iterate 2 rfl); exact aO; iterate 2 rfl) | (apply aU; iterate 4 rfl)
       | (apply gJ; (iterate 3 rfl); (focus (first | exact ⟨by decide, rfl⟩ | (refine ⟨by omega, ?_⟩; rw [Int.toNat_natCast]; assumption))); iterate 2 rfl) | apply EL.nil
       | ((with_reducible apply EK.ah); apply EK.code) | (apply EC.cond_true; rfl) | (apply EC.cond_false; rfl)
       | (with_reducible first | apply EC.seq | apply EC.region | apply EC.skip | apply EC.ret | apply EK.aH))
     exact EK.iK [] rfl rfl rfl rfl RL.a RL.a RL.a (List.nil_sublist _) ⟨rfl, rfl⟩
   ·
    have h0 : x.toNat % 2 = 0 := by omega
    rw [if_neg h1]
    rw [h0] at hrem
    by_cases hy : y.toNat = 0
    ·
     rw [if_pos hy]
     by_cases h2 : 2 ≤ x.toNat
     ·
      rw [show decide (2 ≤ x.toNat) = true by simp [h2]]
      repeat
       (first
        | (apply aA (hS); rfl; exact aj.refl _ _; exact enA; iterate 2 rfl) | (apply dY; (iterate 2 rfl); exact hrem; iterate 2 rfl)
        | (apply qL; (iterate 3 rfl); exact ⟨by decide, by rw [hl2]; show 2 ≤ _; omega⟩; iterate 2 rfl) | (apply au; iterate 3 rfl) | (apply ak; iterate 3 rfl)
        | (apply aK; iterate 5 rfl) | (apply aT; iterate 4 rfl) | (apply aC (b := true); (iterate 2 rfl); exact aO; iterate 2 rfl)
        | (apply aC (b := false); (iterate 2 rfl); exact aO; iterate 2 rfl) | (apply aU; iterate 4 rfl)
        | (apply gJ; (iterate 3 rfl); (focus (first | exact ⟨by decide, rfl⟩ | (refine ⟨by omega, ?_⟩; rw [Int.toNat_natCast]; assumption))); iterate 2 rfl) | apply EL.nil
        | ((with_reducible apply EK.ah); apply EK.code) | (apply EC.cond_false; rfl) | (with_reducible first | apply EC.seq | apply EC.region | apply EC.skip | apply EC.ret))
      exact EK.iK [] rfl rfl rfl rfl RL.a RL.a RL.a (List.nil_sublist _) ⟨rfl, rfl⟩
     ·
      rw [show decide (2 ≤ x.toNat) = false by simp [h2]]
      repeat
       (first
        | (apply aA (hS); rfl; exact aj.refl _ _; exact enA; iterate 2 rfl) | (apply dY; (iterate 2 rfl); exact hrem; iterate 2 rfl)
        | (apply qL; (iterate 3 rfl); exact ⟨by decide, by rw [hl2]; show 2 ≤ _; omega⟩; iterate 2 rfl) | (apply au; iterate 3 rfl) | (apply ak; iterate 3 rfl)
        | (apply aK; iterate 5 rfl) | (apply aT; iterate 4 rfl) | (apply aC (b := false); (iterate 2 rfl); exact aO; iterate 2 rfl)
        | (apply aU; iterate 4 rfl)
        | (apply gJ; (iterate 3 rfl); (focus (first | exact ⟨by decide, rfl⟩ | (refine ⟨by omega, ?_⟩; rw [Int.toNat_natCast]; assumption))); iterate 2 rfl) | apply EL.nil
        | ((with_reducible apply EK.ah); apply EK.code) | (apply EC.cond_false; rfl) | (with_reducible first | apply EC.seq | apply EC.region | apply EC.skip | apply EC.ret))
      exact EK.iK [] rfl rfl rfl rfl RL.a RL.a RL.a (List.nil_sublist _) ⟨rfl, rfl⟩
    ·
     rw [if_neg hy]
     repeat
      (first
       | (apply aA (hS); rfl; exact aj.refl _ _; exact enA; iterate 2 rfl) | (apply dY; (iterate 2 rfl); exact hrem; iterate 2 rfl)
       | (apply au; iterate 3 rfl) | (apply ak; iterate 3 rfl) | (apply aK; iterate 5 rfl) | (apply aT; iterate 4 rfl)
       | (apply aC (b := true); (iterate 2 rfl); exact aO; iterate 2 rfl) | (apply aC (b := false); (iterate 2 rfl); exact aO; iterate 2 rfl)
       | (apply aC; iterate 5 rfl) | (apply aU; iterate 4 rfl)
       | (apply gJ; (iterate 3 rfl); (focus (first | exact ⟨by decide, rfl⟩ | (refine ⟨by omega, ?_⟩; rw [Int.toNat_natCast]; assumption))); iterate 2 rfl) | apply EL.nil
       | ((with_reducible apply EK.ah); apply EK.code) | (apply EC.cond_true; rfl) | (apply EC.cond_false; rfl)
       | (with_reducible first | apply EC.seq | apply EC.region | apply EC.skip | apply EC.ret | apply EK.aH))
     exact EK.iK [] rfl rfl rfl rfl RL.a RL.a RL.a (List.nil_sublist _) ⟨rfl, rfl⟩
def dN : Nd → D
 | .nil => .v .nilIface
 | .hash w => .ifc 167 (.arr 32 w)
 | .leaf p v => .ifc 233 (.pd (.tup [.bs p, .bs v]))
 | .ext p k => .ifc 237 (.pd (.tup [.bs p, dN k]))
 | .br ks v => .ifc 241 (.pd (.tup [.tup ((List.range 16).map fun i => dN (ks i)), .bs v]))
theorem lZ (t : Nd) : (dN t).size = 1 ∧ (dN t).agg = false := by cases t <;> exact ⟨rfl, rfl⟩
def jv (r : Nd × Bool) : R := .tpl [dN r.1, .v (.bool r.2)]
theorem P9 (x : Raw) (N : Raw → Nd × Bool) (H : isL x = true → Fn 134 [aW x] (· = jv (N x))) : Fn 206 [aW x] (· = jv (gY N x)) := by
 have h2 := Qj x
 refine FnM.toFn ?_
 obtain ⟨l, b, xs⟩ := x
 unfold gY
 cases l with
 | true =>
  rw [if_pos (show isL (.mk true b xs) = true from rfl)]
  have h1 := H rfl
  cases hp : packed (.mk true b xs) with
  | none =>
   rw [hp] at h2
   unfold nM at h2
   dsimp only at h2 ⊢
   clear h1
   unfold aW at h2 ⊢
   refine FnM.walk 36 Tryz.func206 rfl Tryz.ntmps206 (by simp) fun X => ?_
   repeat
    (first
     | (apply fF; iterate 2 rfl) | (apply aA (h2); rfl; exact aj.refl _ _; exact enA; iterate 2 rfl) | (apply au; iterate 3 rfl)
     | (apply ak; iterate 3 rfl) | (apply cZ; iterate 6 rfl) | (apply aF; iterate 4 rfl) | (apply aT; iterate 4 rfl)
     | (apply dh; rfl; exact I.a; iterate 4 rfl) | (apply aC (b := true); (iterate 2 rfl); exact aO; iterate 2 rfl)
     | (apply gU; rfl; rfl; rfl; intro _) | apply EL.nil | ((with_reducible apply EK.ah); apply EK.code) | (apply EC.cond_true; rfl)
     | (with_reducible first | apply EC.seq | apply EC.region | apply EC.ret | apply EK.aH))
   exact EK.bT [] rfl rfl rfl (RL.cons Rf.same (RL.cons Rf.same RL.nil)) (List.nil_sublist _) ⟨rfl, rfl⟩
  | some pb =>
   rw [hp] at h2
   unfold nM at h2
   dsimp only at h2 ⊢
   by_cases h32 : pb.length < 32
   ·
    rw [if_pos h32]
    unfold jv at h1 ⊢
    generalize N (.mk true b xs) = r at h1 ⊢
    unfold aW at h1 h2 ⊢
    refine FnM.walk 36 Tryz.func206 rfl Tryz.ntmps206 (by simp) fun X => ?_
    repeat
     (first
      | (apply aA (h2); rfl; exact aj.refl _ _; exact enA; iterate 2 rfl) | (apply aA (h1); rfl; exact aj.refl _ _; exact enA; iterate 2 rfl)
      | (apply au; iterate 3 rfl) | (apply ak; iterate 3 rfl) | (apply cZ; iterate 6 rfl) | (apply aF; iterate 4 rfl)
      | (apply aT; iterate 4 rfl) | (apply dh; rfl; exact I.a; iterate 4 rfl) | (apply aC (b := false); (iterate 2 rfl); exact aO; iterate 2 rfl)
      | (apply aU; iterate 4 rfl) | (apply gU; rfl; rfl; rfl; intro _) | apply EL.nil | ((with_reducible apply EK.ah); apply EK.code)
      | (apply EC.cond_true; rfl) | (apply EC.cond_false; rfl) | (with_reducible first | apply EC.seq | apply EC.region | apply EC.skip | apply EC.ret | apply EK.aH))
    exact EK.bT [] rfl rfl rfl (RL.cons Rf.same (RL.cons Rf.same RL.nil)) (List.nil_sublist _) ⟨rfl, rfl⟩
   ·
    rw [if_neg h32]
    clear h1
    unfold aW at h2 ⊢
    refine FnM.walk 36 Tryz.func206 rfl Tryz.ntmps206 (by simp) fun X => ?_
    repeat
     (first
      | (apply aA (h2); rfl; exact aj.refl _ _; exact enA; iterate 2 rfl) | (apply au; iterate 3 rfl) | (apply ak; iterate 3 rfl)
      | (apply cZ; iterate 6 rfl) | (apply aF; iterate 4 rfl) | (apply aT; iterate 4 rfl) | (apply dh; rfl; exact I.a; iterate 4 rfl)
      | (apply aC (b := true); (iterate 2 rfl); exact aO; iterate 2 rfl) | (apply aC (b := false); (iterate 2 rfl); exact aO; iterate 2 rfl)
      | (apply aU; iterate 4 rfl) | (apply gU; rfl; rfl; rfl; intro _) | apply EL.nil | ((with_reducible apply EK.ah); apply EK.code)
      | (apply EC.cond_true; rfl) | (with_reducible first | apply EC.seq | apply EC.region | apply EC.ret | apply EK.aH))
    exact EK.bT [] rfl rfl rfl (RL.cons Rf.same (RL.cons Rf.same RL.nil)) (List.nil_sublist _) ⟨rfl, rfl⟩
 | false =>
  clear h2 H
  rw [if_neg (show ¬ isL (.mk false b xs) = true from Bool.false_ne_true)]
  rw [show bts (.mk false b xs) = b from rfl]
  unfold aW
  refine FnM.walk 36 Tryz.func206 rfl Tryz.ntmps206 (by simp) fun X => ?_
  by_cases h0 : b.length = 0
  ·
   rw [if_pos h0]
   have hc : dL .eql (b.length : Int) 0 = some true := by rw [h0]; rfl
   repeat
    (first
     | (apply aC (b := true); (iterate 2 rfl); exact hc; iterate 2 rfl) | (apply ak; iterate 3 rfl) | (apply cZ; iterate 6 rfl)
     | (apply dh; rfl; exact I.a; iterate 4 rfl) | (apply aU; iterate 4 rfl) | (apply gU; rfl; rfl; rfl; intro _) | apply EL.nil
     | ((with_reducible apply EK.ah); apply EK.code) | (apply EC.cond_true; rfl) | (apply EC.cond_false; rfl)
     | (with_reducible first | apply EC.seq | apply EC.region | apply EC.skip | apply EC.block | apply EC.ret | apply EK.dV | apply EK.aH))
   exact EK.bT [] rfl rfl rfl (RL.cons Rf.same (RL.cons Rf.same RL.nil)) (List.nil_sublist _) ⟨rfl, rfl⟩
  ·
   rw [if_neg h0]
   have hc : dL .eql (b.length : Int) 0 = some false := by
    simp only [dL, Option.some.injEq, beq_eq_false_iff_ne]
    omega
   by_cases h32 : b.length = 32
   ·
    rw [if_pos h32]
    repeat
     (first
      | (apply aC (b := false); (iterate 2 rfl); exact hc; iterate 2 rfl) | (apply ak; iterate 3 rfl) | (apply cZ; iterate 6 rfl)
      | (apply aK; iterate 5 rfl) | (apply dh; rfl; exact I.a; iterate 4 rfl) | (apply aC (b := true); (iterate 2 rfl); exact aO; iterate 2 rfl)
      | (apply aU; iterate 4 rfl) | (apply WG; (iterate 2 rfl); (focus (first | assumption | omega)); iterate 3 rfl) | (apply fZ; iterate 4 rfl)
      | (apply gU; rfl; rfl; rfl; intro _) | apply EL.nil | ((with_reducible apply EK.ah); apply EK.code) | (apply EC.cond_true; rfl) | (apply EC.cond_false; rfl)
      | (with_reducible first | apply EC.seq | apply EC.region | apply EC.skip | apply EC.block | apply EC.ret | apply EK.dV | apply EK.aH))
    exact EK.bT [] rfl rfl rfl (RL.cons Rf.same (RL.cons Rf.same RL.nil)) (List.nil_sublist _) ⟨rfl, rfl⟩
   ·
    rw [if_neg h32]
    repeat
     (first
      | (apply aC (b := false); (iterate 2 rfl); exact hc; iterate 2 rfl) | (apply ak; iterate 3 rfl) | (apply cZ; iterate 6 rfl)
      | (apply dh; rfl; exact I.a; iterate 4 rfl) | (apply aC (b := false); (iterate 2 rfl); exact aO; iterate 2 rfl) | (apply aU; iterate 4 rfl)
      | (apply gU; rfl; rfl; rfl; intro _) | apply EL.nil | ((with_reducible apply EK.ah); apply EK.code) | (apply EC.cond_false; rfl)
      | (with_reducible first | apply EC.seq | apply EC.region | apply EC.skip | apply EC.block | apply EC.ret | apply EK.aI))
    exact EK.bT [] rfl rfl rfl (RL.cons Rf.same (RL.cons Rf.same RL.nil)) (List.nil_sublist _) ⟨rfl, rfl⟩
theorem Nz (p : List UInt8) (t : Nd) : nV (([(0, 1, false), (1, 1, false)] : List (Nat × Nat × Bool)).map fun x => (x.1, x.2.1)) (.tup [.v (.slice none 0 0), .v .nilIface]) [(0, .bs p), (1, dN t)] = some (.tup [.bs p, dN t]) := by
 have h1 := (lZ t).1
 have h2 := (lZ t).2
 have h3 : (D.bs p).agg = false := rfl
 simp [nV, D.upd, D.rX, D.size, D.sizes, h1, h2, h3]
theorem SA (x y : Raw) (N : Raw → Nd × Bool) (hx : (bts x).length ≤ 536870912) (H : isL y = true → Fn 134 [aW y] (· = jv (N y))) : Fn 178 [aW x, aW y] (· = jv (rP N x y)) := by
 have hR := P9 y N H
 clear H
 refine FnM.toFn ?_
 unfold rP
 obtain ⟨xl, xb, xx⟩ := x
 have hP := SE xb hx
 rw [show isL (.mk xl xb xx) = xl from rfl, show bts (.mk xl xb xx) = xb from rfl]
 unfold rpD at hP
 cases hr : rdP xb with
 | none =>
  rw [hr] at hP
  dsimp only at hP ⊢
  clear hR
  obtain ⟨yl, yb, yx⟩ := y
  unfold aW
  refine FnM.walk 65 Tryz.func178 rfl Tryz.ntmps178 (by simp) fun X => ?_
  cases xl with
  | true =>
   repeat
    (first
     | (apply fF; iterate 2 rfl) | (apply aA (hP); rfl; exact aj.refl _ _; exact enA; iterate 2 rfl) | (apply au; iterate 3 rfl)
     | (apply ak; iterate 3 rfl) | (apply cZ; iterate 6 rfl) | (apply aF; iterate 4 rfl) | (apply aT; iterate 4 rfl)
     | (apply dh; rfl; exact I.a; iterate 4 rfl) | (apply gU; rfl; rfl; rfl; intro _) | apply EL.nil | ((with_reducible apply EK.ah); apply EK.code)
     | (apply EC.cond_true; rfl) | (with_reducible first | apply EC.seq | apply EC.region | apply EC.block | apply EC.ret | apply EK.dV | apply EK.aH))
   exact EK.bT [] rfl rfl rfl (RL.cons Rf.same (RL.cons Rf.same RL.nil)) (List.nil_sublist _) ⟨rfl, rfl⟩
  | false =>
   repeat
    (first
     | (apply aA (hP); rfl; exact aj.refl _ _; exact enA; iterate 2 rfl) | (apply au; iterate 3 rfl) | (apply ak; iterate 3 rfl)
     | (apply cZ; iterate 6 rfl) | (apply aF; iterate 4 rfl) | (apply aT; iterate 4 rfl) | (apply dP; iterate 3 rfl)
     | (apply dh; rfl; exact I.a; iterate 4 rfl) | (apply gU; rfl; rfl; rfl; intro _) | apply EL.nil | ((with_reducible apply EK.ah); apply EK.code)
     | (apply EC.cond_true; rfl) | (with_reducible first | apply EC.seq | apply EC.region | apply EC.block | apply EC.ret | apply EK.dV | apply EK.aH))
   exact EK.bT [] rfl rfl rfl (RL.cons Rf.same (RL.cons Rf.same RL.nil)) (List.nil_sublist _) ⟨rfl, rfl⟩
 | some pl =>
  obtain ⟨p, lf⟩ := pl
  rw [hr] at hP
  dsimp only at hP ⊢
  cases xl with
  | true =>
   rw [if_pos rfl]
   clear hR
   obtain ⟨yl, yb, yx⟩ := y
   unfold aW
   refine FnM.walk 65 Tryz.func178 rfl Tryz.ntmps178 (by simp) fun X => ?_
   repeat
    (first
     | (apply fF; iterate 2 rfl) | (apply aA (hP); rfl; exact aj.refl _ _; exact enA; iterate 2 rfl) | (apply au; iterate 3 rfl)
     | (apply ak; iterate 3 rfl) | (apply cZ; iterate 6 rfl) | (apply aF; iterate 4 rfl) | (apply aT; iterate 4 rfl)
     | (apply dh; rfl; exact I.a; iterate 4 rfl) | (apply gU; rfl; rfl; rfl; intro _) | apply EL.nil | ((with_reducible apply EK.ah); apply EK.code)
     | (apply EC.cond_true; rfl) | (with_reducible first | apply EC.seq | apply EC.region | apply EC.block | apply EC.ret | apply EK.dV | apply EK.aH))
   exact EK.bT [] rfl rfl rfl (RL.cons Rf.same (RL.cons Rf.same RL.nil)) (List.nil_sublist _) ⟨rfl, rfl⟩
  | false =>
   rw [if_neg Bool.false_ne_true]
   cases lf with
   | true =>
    rw [if_pos rfl]
    clear hR
    obtain ⟨yl, yb, yx⟩ := y
    rw [show isL (.mk yl yb yx) = yl from rfl, show bts (.mk yl yb yx) = yb from rfl]
    unfold aW
    refine FnM.walk 65 Tryz.func178 rfl Tryz.ntmps178 (by simp) fun X => ?_
    cases yl with
    | true =>
     rw [Bool.not_true, Bool.false_and]
     repeat
      (first
       | (apply aA (hP); rfl; exact aj.refl _ _; exact enA; iterate 2 rfl) | (apply au; iterate 3 rfl) | (apply ak; iterate 3 rfl)
       | (apply cZ; iterate 6 rfl) | (apply aF; iterate 4 rfl) | (apply aT; iterate 4 rfl) | (apply dP; iterate 3 rfl)
       | (apply dh; rfl; exact I.a; iterate 4 rfl) | (apply gU; rfl; rfl; rfl; intro _) | apply EL.nil | ((with_reducible apply EK.ah); apply EK.code)
       | (apply EC.cond_true; rfl) | (apply EC.cond_false; rfl) | (with_reducible first | apply EC.seq | apply EC.region | apply EC.block))
     refine EC.draw 16 (by kernel_rfl) ?_
     simp only [List.take_succ_cons, List.take_zero, List.drop_succ_cons, List.drop_zero]
     repeat
      (first
       | (apply tJ; iterate 2 rfl) | (apply EH.grow (jU rfl rfl); rfl; rfl; rfl) | (apply aY; iterate 3 rfl) | (apply gy; iterate 3 rfl)
       | (apply dB; iterate 6 rfl) | (apply jB; iterate 4 rfl) | (apply G9; iterate 3 rfl) | (apply dH; rfl; exact I.a; iterate 4 rfl)
       | (apply iZ; iterate 7 rfl) | (apply D9; iterate 4 rfl) | ((with_reducible apply EH.nil); rfl))
     repeat
      (first
       | (apply ak; iterate 3 rfl) | apply EL.nil | ((with_reducible apply EK.ah); apply EK.code) | (with_reducible first | apply EC.ret | apply EK.dV | apply EK.aH))
     exact EK.bT [] rfl rfl rfl (RL.cons Rf.same (RL.cons Rf.same RL.nil)) (List.nil_sublist _) ⟨rfl, rfl⟩
    | false =>
     rw [Bool.not_false, Bool.true_and]
     by_cases h0 : 0 < yb.length
     ·
      rw [show decide (0 < yb.length) = true by simp [h0]]
      repeat
       (first
        | (apply aA (hP); rfl; exact aj.refl _ _; exact enA; iterate 2 rfl) | (apply au; iterate 3 rfl) | (apply ak; iterate 3 rfl)
        | (apply cZ; iterate 6 rfl) | (apply aF; iterate 4 rfl) | (apply aT; iterate 4 rfl) | (apply dP; iterate 3 rfl)
        | (apply dh; rfl; exact I.a; iterate 4 rfl) | (apply gU; rfl; rfl; rfl; intro _) | apply EL.nil | ((with_reducible apply EK.ah); apply EK.code)
        | (apply EC.cond_true; rfl) | (apply EC.cond_false; rfl) | (with_reducible first | apply EC.seq | apply EC.region | apply EC.block))
      refine EC.draw 16 (by kernel_rfl) ?_
      simp only [List.take_succ_cons, List.take_zero, List.drop_succ_cons, List.drop_zero]
      repeat
       (first
        | (apply EH.grow (jU rfl rfl); rfl; rfl; rfl) | (apply aY; iterate 3 rfl) | (apply gy; iterate 3 rfl) | (apply dB; iterate 6 rfl)
        | (apply jB; iterate 4 rfl) | (apply G9; iterate 3 rfl) | (apply dH; rfl; exact I.a; iterate 4 rfl)
        | (apply jw (b := true); (iterate 2 rfl); exact aO; iterate 2 rfl) | (apply KR; iterate 4 rfl) | (apply iZ; iterate 7 rfl)
        | (apply D9; iterate 4 rfl) | ((with_reducible apply EH.nil); rfl))
      repeat
       (first
        | (apply ak; iterate 3 rfl) | apply EL.nil | ((with_reducible apply EK.ah); apply EK.code) | (with_reducible first | apply EC.ret | apply EK.dV | apply EK.aH))
      exact EK.bT [] rfl rfl rfl (RL.cons Rf.same (RL.cons Rf.same RL.nil)) (List.nil_sublist _) ⟨rfl, rfl⟩
     ·
      rw [show decide (0 < yb.length) = false by simp [h0]]
      have hc : dL .gtr (yb.length : Int) 0 = some false := by
       simp only [dL, Option.some.injEq, decide_eq_false_iff_not]
       omega
      repeat
       (first
        | (apply aA (hP); rfl; exact aj.refl _ _; exact enA; iterate 2 rfl) | (apply au; iterate 3 rfl) | (apply ak; iterate 3 rfl)
        | (apply cZ; iterate 6 rfl) | (apply aF; iterate 4 rfl) | (apply aT; iterate 4 rfl) | (apply dP; iterate 3 rfl)
        | (apply dh; rfl; exact I.a; iterate 4 rfl) | (apply gU; rfl; rfl; rfl; intro _) | apply EL.nil | ((with_reducible apply EK.ah); apply EK.code)
        | (apply EC.cond_true; rfl) | (apply EC.cond_false; rfl) | (with_reducible first | apply EC.seq | apply EC.region | apply EC.block))
      refine EC.draw 16 (by kernel_rfl) ?_
      simp only [List.take_succ_cons, List.take_zero, List.drop_succ_cons, List.drop_zero]
      repeat
       (first
        | (apply EH.grow (jU rfl rfl); rfl; rfl; rfl) | (apply jw (b := false); (iterate 2 rfl); exact hc; iterate 2 rfl) | (apply aY; iterate 3 rfl)
        | (apply gy; iterate 3 rfl) | (apply dB; iterate 6 rfl) | (apply jB; iterate 4 rfl) | (apply G9; iterate 3 rfl)
        | (apply dH; rfl; exact I.a; iterate 4 rfl) | (apply KR; iterate 4 rfl) | (apply iZ; iterate 7 rfl) | (apply D9; iterate 4 rfl)
        | ((with_reducible apply EH.nil); rfl))
      repeat
       (first
        | (apply ak; iterate 3 rfl) | apply EL.nil | ((with_reducible apply EK.ah); apply EK.code) | (with_reducible first | apply EC.ret | apply EK.dV | apply EK.aH))
      exact EK.bT [] rfl rfl rfl (RL.cons Rf.same (RL.cons Rf.same RL.nil)) (List.nil_sublist _) ⟨rfl, rfl⟩
   | false =>
    rw [if_neg Bool.false_ne_true]
    unfold jv at hR
    generalize gY N y = k at hR ⊢
    obtain ⟨k, ok⟩ := k
    obtain ⟨yl, yb, yx⟩ := y
    dsimp only at hR ⊢
    have hfe := Nz p k
    unfold aW at hR ⊢
    refine FnM.walk 65 Tryz.func178 rfl Tryz.ntmps178 (by simp) fun X => ?_
    cases k with
    | nil =>
     rw [if_neg (show ¬ Nd.nil.xk = true from Bool.false_ne_true)]
     rw [dN] at hR
     repeat
      (first
       | (apply aA (hP); rfl; exact aj.refl _ _; exact enA; iterate 2 rfl) | (apply aA (hR); rfl; exact aj.refl _ _; exact enA; iterate 2 rfl)
       | (apply au; iterate 3 rfl) | (apply ak; iterate 3 rfl) | (apply cZ; iterate 6 rfl) | (apply aF; iterate 4 rfl)
       | (apply aT; iterate 4 rfl) | (apply dP; iterate 3 rfl) | (apply dh; rfl; exact I.a; iterate 4 rfl) | (apply KP; iterate 5 rfl)
       | (apply gU; rfl; rfl; rfl; intro _) | apply EL.nil | ((with_reducible apply EK.ah); apply EK.code) | (apply EC.cond_false; rfl)
       | (with_reducible first | apply EC.seq | apply EC.region | apply EC.skip | apply EC.block | apply EC.ret | apply EK.aI))
     exact EK.bT [] rfl rfl rfl (RL.cons Rf.same (RL.cons Rf.same RL.nil)) (List.nil_sublist _) ⟨rfl, rfl⟩
    | leaf a b =>
     rw [if_neg (show ¬ (Nd.leaf a b).xk = true from Bool.false_ne_true)]
     rw [dN] at hR
     repeat
      (first
       | (apply aA (hP); rfl; exact aj.refl _ _; exact enA; iterate 2 rfl) | (apply aA (hR); rfl; exact aj.refl _ _; exact enA; iterate 2 rfl)
       | (apply au; iterate 3 rfl) | (apply ak; iterate 3 rfl) | (apply cZ; iterate 6 rfl) | (apply aF; iterate 4 rfl)
       | (apply aT; iterate 4 rfl) | (apply dP; iterate 3 rfl) | (apply dh; rfl; exact I.a; iterate 4 rfl) | (apply iC; iterate 6 rfl)
       | (apply gU; rfl; rfl; rfl; intro _) | apply EL.nil | ((with_reducible apply EK.ah); apply EK.code) | (apply EC.cond_false; rfl)
       | (with_reducible first | apply EC.seq | apply EC.region | apply EC.skip | apply EC.block | apply EC.ret | apply EK.aI))
     exact EK.bT [] rfl rfl rfl (RL.cons Rf.same (RL.cons Rf.same RL.nil)) (List.nil_sublist _) ⟨rfl, rfl⟩
    | ext a b =>
     rw [if_neg (show ¬ (Nd.ext a b).xk = true from Bool.false_ne_true)]
     rw [dN] at hR
     repeat
      (first
       | (apply aA (hP); rfl; exact aj.refl _ _; exact enA; iterate 2 rfl) | (apply aA (hR); rfl; exact aj.refl _ _; exact enA; iterate 2 rfl)
       | (apply au; iterate 3 rfl) | (apply ak; iterate 3 rfl) | (apply cZ; iterate 6 rfl) | (apply aF; iterate 4 rfl)
       | (apply aT; iterate 4 rfl) | (apply dP; iterate 3 rfl) | (apply dh; rfl; exact I.a; iterate 4 rfl) | (apply iC; iterate 6 rfl)
       | (apply gU; rfl; rfl; rfl; intro _) | apply EL.nil | ((with_reducible apply EK.ah); apply EK.code) | (apply EC.cond_false; rfl)
       | (with_reducible first | apply EC.seq | apply EC.region | apply EC.skip | apply EC.block | apply EC.ret | apply EK.aI))
     exact EK.bT [] rfl rfl rfl (RL.cons Rf.same (RL.cons Rf.same RL.nil)) (List.nil_sublist _) ⟨rfl, rfl⟩
    | hash a =>
     rw [if_pos (show (Nd.hash a).xk = true from rfl)]
     rw [jv, dN]
     rw [dN] at hR hfe ⊢
     by_cases h0 : 0 < p.length
     ·
      rw [show decide (0 < p.length) = true by simp [h0], Bool.and_true]
      cases ok with
      | true =>
       repeat
        (first
         | (apply aA (hP); rfl; exact aj.refl _ _; exact enA; iterate 2 rfl) | (apply aA (hR); rfl; exact aj.refl _ _; exact enA; iterate 2 rfl)
         | (apply ES.grow (jU rfl rfl); rfl; rfl; rfl) | (apply au; iterate 3 rfl) | (apply ak; iterate 3 rfl) | (apply bf; iterate 7 rfl)
         | (apply aF; iterate 4 rfl) | (apply aK; iterate 5 rfl) | (apply aT; iterate 4 rfl) | (apply dP; iterate 3 rfl)
         | (apply aC (b := true); (iterate 2 rfl); exact aO; iterate 2 rfl) | (apply aU; iterate 4 rfl) | (apply eU; iterate 7 rfl)
         | (apply fZ; iterate 4 rfl) | (apply eX; iterate 4 rfl) | (apply iC; iterate 6 rfl) | apply EL.nil | ((with_reducible apply EK.ah); apply EK.code)
         | (apply EC.cond_true; rfl) | (apply EC.cond_false; rfl)
         | (with_reducible first | apply EC.seq | apply EC.region | apply EC.skip | apply EC.block | apply EC.ret | apply EK.aI | apply EK.dV | apply EK.aH))
       exact EK.bT [] rfl rfl rfl (RL.cons Rf.same (RL.cons Rf.same RL.nil)) (List.nil_sublist _) ⟨rfl, rfl⟩
      | false =>
       repeat
        (first
         | (apply fF; iterate 2 rfl) | (apply aA (hP); rfl; exact aj.refl _ _; exact enA; iterate 2 rfl)
         | (apply aA (hR); rfl; exact aj.refl _ _; exact enA; iterate 2 rfl) | (apply ES.grow (jU rfl rfl); rfl; rfl; rfl) | (apply au; iterate 3 rfl)
         | (apply ak; iterate 3 rfl) | (apply bf; iterate 7 rfl) | (apply aF; iterate 4 rfl) | (apply aK; iterate 5 rfl)
         | (apply aT; iterate 4 rfl) | (apply dP; iterate 3 rfl) | (apply eU; iterate 7 rfl) | (apply fZ; iterate 4 rfl) | (apply eX; iterate 4 rfl)
         | (apply iC; iterate 6 rfl) | apply EL.nil | ((with_reducible apply EK.ah); apply EK.code) | (apply EC.cond_true; rfl) | (apply EC.cond_false; rfl)
         | (with_reducible first | apply EC.seq | apply EC.region | apply EC.skip | apply EC.block | apply EC.ret | apply EK.aI | apply EK.dV | apply EK.aH))
       exact EK.bT [] rfl rfl rfl (RL.cons Rf.same (RL.cons Rf.same RL.nil)) (List.nil_sublist _) ⟨rfl, rfl⟩
     ·
      rw [show decide (0 < p.length) = false by simp [h0], Bool.and_false]
      have hc : dL .gtr (p.length : Int) 0 = some false := by
       simp only [dL, Option.some.injEq, decide_eq_false_iff_not]
       omega
      cases ok with
      | true =>
       repeat
        (first
         | (apply aA (hP); rfl; exact aj.refl _ _; exact enA; iterate 2 rfl) | (apply aA (hR); rfl; exact aj.refl _ _; exact enA; iterate 2 rfl)
         | (apply ES.grow (jU rfl rfl); rfl; rfl; rfl) | (apply aC (b := false); (iterate 2 rfl); exact hc; iterate 2 rfl) | (apply au; iterate 3 rfl)
         | (apply ak; iterate 3 rfl) | (apply bf; iterate 7 rfl) | (apply aF; iterate 4 rfl) | (apply aK; iterate 5 rfl)
         | (apply aT; iterate 4 rfl) | (apply dP; iterate 3 rfl) | (apply aU; iterate 4 rfl) | (apply eU; iterate 7 rfl) | (apply fZ; iterate 4 rfl)
         | (apply eX; iterate 4 rfl) | (apply iC; iterate 6 rfl) | apply EL.nil | ((with_reducible apply EK.ah); apply EK.code) | (apply EC.cond_true; rfl)
         | (apply EC.cond_false; rfl) | (with_reducible first | apply EC.seq | apply EC.region | apply EC.skip | apply EC.block | apply EC.ret | apply EK.aI | apply EK.dV | apply EK.aH))
       exact EK.bT [] rfl rfl rfl (RL.cons Rf.same (RL.cons Rf.same RL.nil)) (List.nil_sublist _) ⟨rfl, rfl⟩
      | false =>
       repeat
        (first
         | (apply fF; iterate 2 rfl) | (apply aA (hP); rfl; exact aj.refl _ _; exact enA; iterate 2 rfl)
         | (apply aA (hR); rfl; exact aj.refl _ _; exact enA; iterate 2 rfl) | (apply ES.grow (jU rfl rfl); rfl; rfl; rfl) | (apply au; iterate 3 rfl)
         | (apply ak; iterate 3 rfl) | (apply bf; iterate 7 rfl) | (apply aF; iterate 4 rfl) | (apply aK; iterate 5 rfl)
         | (apply aT; iterate 4 rfl) | (apply dP; iterate 3 rfl) | (apply eU; iterate 7 rfl) | (apply fZ; iterate 4 rfl) | (apply eX; iterate 4 rfl)
         | (apply iC; iterate 6 rfl) | apply EL.nil | ((with_reducible apply EK.ah); apply EK.code) | (apply EC.cond_true; rfl) | (apply EC.cond_false; rfl)
         | (with_reducible first | apply EC.seq | apply EC.region | apply EC.skip | apply EC.block | apply EC.ret | apply EK.aI | apply EK.dV | apply EK.aH))
       exact EK.bT [] rfl rfl rfl (RL.cons Rf.same (RL.cons Rf.same RL.nil)) (List.nil_sublist _) ⟨rfl, rfl⟩
    | br a b =>
     rw [if_pos (show (Nd.br a b).xk = true from rfl)]
     rw [jv, dN]
     rw [dN] at hR hfe ⊢
     generalize (List.range 16).map (fun i => dN (a i)) = K at *
     by_cases h0 : 0 < p.length
     ·
      rw [show decide (0 < p.length) = true by simp [h0], Bool.and_true]
      cases ok with
      | true =>
       repeat
        (first
         | (apply aA (hP); rfl; exact aj.refl _ _; exact enA; iterate 2 rfl) | (apply aA (hR); rfl; exact aj.refl _ _; exact enA; iterate 2 rfl)
         | (apply ES.grow (jU rfl rfl); rfl; rfl; rfl) | (apply au; iterate 3 rfl) | (apply ak; iterate 3 rfl) | (apply bf; iterate 7 rfl)
         | (apply aF; iterate 4 rfl) | (apply aK; iterate 5 rfl) | (apply aT; iterate 4 rfl) | (apply dP; iterate 3 rfl)
         | (apply aC (b := true); (iterate 2 rfl); exact aO; iterate 2 rfl) | (apply aU; iterate 4 rfl) | (apply eU; iterate 7 rfl)
         | (apply fZ; iterate 4 rfl) | (apply eX; iterate 4 rfl) | (apply iC; iterate 6 rfl) | apply EL.nil | ((with_reducible apply EK.ah); apply EK.code)
         | (apply EC.cond_true; rfl) | (apply EC.cond_false; rfl)
         | (with_reducible first | apply EC.seq | apply EC.region | apply EC.skip | apply EC.block | apply EC.ret | apply EK.aI | apply EK.dV | apply EK.aH))
       exact EK.bT [] rfl rfl rfl (RL.cons Rf.same (RL.cons Rf.same RL.nil)) (List.nil_sublist _) ⟨rfl, rfl⟩
      | false =>
       repeat
        (first
         | (apply fF; iterate 2 rfl) | (apply aA (hP); rfl; exact aj.refl _ _; exact enA; iterate 2 rfl)
         | (apply aA (hR); rfl; exact aj.refl _ _; exact enA; iterate 2 rfl) | (apply ES.grow (jU rfl rfl); rfl; rfl; rfl) | (apply au; iterate 3 rfl)
         | (apply ak; iterate 3 rfl) | (apply bf; iterate 7 rfl) | (apply aF; iterate 4 rfl) | (apply aK; iterate 5 rfl)
         | (apply aT; iterate 4 rfl) | (apply dP; iterate 3 rfl) | (apply eU; iterate 7 rfl) | (apply fZ; iterate 4 rfl) | (apply eX; iterate 4 rfl)
         | (apply iC; iterate 6 rfl) | apply EL.nil | ((with_reducible apply EK.ah); apply EK.code) | (apply EC.cond_true; rfl) | (apply EC.cond_false; rfl)
         | (with_reducible first | apply EC.seq | apply EC.region | apply EC.skip | apply EC.block | apply EC.ret | apply EK.aI | apply EK.dV | apply EK.aH))
       exact EK.bT [] rfl rfl rfl (RL.cons Rf.same (RL.cons Rf.same RL.nil)) (List.nil_sublist _) ⟨rfl, rfl⟩
     ·
      rw [show decide (0 < p.length) = false by simp [h0], Bool.and_false]
      have hc : dL .gtr (p.length : Int) 0 = some false := by
       simp only [dL, Option.some.injEq, decide_eq_false_iff_not]
       omega
      cases ok with
      | true =>
       repeat
        (first
         | (apply aA (hP); rfl; exact aj.refl _ _; exact enA; iterate 2 rfl) | (apply aA (hR); rfl; exact aj.refl _ _; exact enA; iterate 2 rfl)
         | (apply ES.grow (jU rfl rfl); rfl; rfl; rfl) | (apply aC (b := false); (iterate 2 rfl); exact hc; iterate 2 rfl) | (apply au; iterate 3 rfl)
         | (apply ak; iterate 3 rfl) | (apply bf; iterate 7 rfl) | (apply aF; iterate 4 rfl) | (apply aK; iterate 5 rfl)
         | (apply aT; iterate 4 rfl) | (apply dP; iterate 3 rfl) | (apply aU; iterate 4 rfl) | (apply eU; iterate 7 rfl) | (apply fZ; iterate 4 rfl)
         | (apply eX; iterate 4 rfl) | (apply iC; iterate 6 rfl) | apply EL.nil | ((with_reducible apply EK.ah); apply EK.code) | (apply EC.cond_true; rfl)
         | (apply EC.cond_false; rfl) | (with_reducible first | apply EC.seq | apply EC.region | apply EC.skip | apply EC.block | apply EC.ret | apply EK.aI | apply EK.dV | apply EK.aH))
       exact EK.bT [] rfl rfl rfl (RL.cons Rf.same (RL.cons Rf.same RL.nil)) (List.nil_sublist _) ⟨rfl, rfl⟩
      | false =>
       repeat
        (first
         | (apply fF; iterate 2 rfl) | (apply aA (hP); rfl; exact aj.refl _ _; exact enA; iterate 2 rfl)
         | (apply aA (hR); rfl; exact aj.refl _ _; exact enA; iterate 2 rfl) | (apply ES.grow (jU rfl rfl); rfl; rfl; rfl) | (apply au; iterate 3 rfl)
         | (apply ak; iterate 3 rfl) | (apply bf; iterate 7 rfl) | (apply aF; iterate 4 rfl) | (apply aK; iterate 5 rfl)
         | (apply aT; iterate 4 rfl) | (apply dP; iterate 3 rfl) | (apply eU; iterate 7 rfl) | (apply fZ; iterate 4 rfl) | (apply eX; iterate 4 rfl)
         | (apply iC; iterate 6 rfl) | apply EL.nil | ((with_reducible apply EK.ah); apply EK.code) | (apply EC.cond_true; rfl) | (apply EC.cond_false; rfl)
         | (with_reducible first | apply EC.seq | apply EC.region | apply EC.skip | apply EC.block | apply EC.ret | apply EK.aI | apply EK.dV | apply EK.aH))
       exact EK.bT [] rfl rfl rfl (RL.cons Rf.same (RL.cons Rf.same RL.nil)) (List.nil_sublist _) ⟨rfl, rfl⟩
theorem getD_mem {xs : List Raw} {k : Nat} (h : k < xs.length) : xs.getD k fM = xs[k] := by
 rw [List.getD_eq_getElem?_getD, List.getElem?_eq_getElem h]
 rfl
end E
end Go.Proofs.YtiledgojbpmoiaaGreat
namespace Go.Proofs.YtiledgojbpmoiaaGreat
set_option linter.unusedVariables false
set_option maxRecDepth 20000
set_option maxHeartbeats 1000000
open Go.RowKit Mono
abbrev xu (l m : List UInt8) : Int := Lib.compareBytes l m
theorem FP : ∀ a b : List UInt8, Op.bytesLess a b = decide (xu a b < 0)
 | [], [] => rfl
 | _ :: _, [] => rfl
 | [], _ :: _ => rfl
 | a :: x, b :: y => by
  rw [Op.bytesLess, xu, Lib.compareBytes, FP x y]
  by_cases h1 : a < b
  · simp [h1]
  ·
   by_cases h2 : b < a
   ·
    have h3 : ¬ a = b := fun e => by subst e; exact h1 h2
    simp [h1, h2, h3]
   ·
    have h3 : a = b := by
     apply UInt8.toNat_inj.1
     have := UInt8.not_lt.1 h1
     have := UInt8.not_lt.1 h2
     exact Nat.le_antisymm (UInt8.le_iff_toNat_le.1 (UInt8.not_lt.1 h2)) (UInt8.le_iff_toNat_le.1 (UInt8.not_lt.1 h1))
    subst h3
    simp [h1]
theorem wE {w : World} {v : Value} {l : List UInt8} (h : IsB w v l) : (Extern.Bytes.bytesOf v).run Tryz.prog w = .ok (bs l) w := by
 obtain ⟨A, c, rfl, h1, h2, hr⟩ := h
 cases A with
 | none =>
  have : l = [] := by
   by_cases hl : bvs l = []
   · simpa [bvs] using hl
   ·
    obtain ⟨b, o, e, _⟩ := hr hl
    cases e
  subst this
  rfl
 | some ad =>
  have := Lib.run_loadBytesX (P := Tryz.prog) (w := w) (l.map fun x => (x.toNat : Int)) ad .empty fun j x hx => by
   rw [List.getElem?_map] at hx
   obtain ⟨y, hy, rfl⟩ := Option.map_eq_some_iff.1 hx
   obtain ⟨b, o, e, _, hc⟩ := hr (fun e => by have := congrArg List.length e; rw [bn] at this; simp at this; rw [this] at hy; simp at hy)
   injection e with e
   subst e
   rw [eF]
   exact hc j _ (by simp [bvs, bv, hy])
  rw [List.length_map] at this
  show (Extern.Bytes.loadBytes ad l.length .empty).run Tryz.prog w = _
  rw [this]
  have h2 : Lib.bytesOf (l.map fun x => (x.toNat : Int)) = l := by
   simp only [Lib.bytesOf, List.map_map]
   refine (List.map_congr_left fun x _ => ?_).trans (List.map_id l)
   simp
  rw [h2]
  simp [bs]
theorem Em {w : World} {v u : Value} {l m : List UInt8} (h1 : IsB w v l) (h2 : IsB w u m) : (Extern.BytealgCompare.compare #[v, u]).run Tryz.prog w = .ok (.int .i64 (xu l m)) w := by
 change Sem.run Tryz.prog (do pure (goInt (Extern.BytealgCompare.cmp (← Extern.Bytes.bytesOf v) (← Extern.Bytes.bytesOf u)))) w = _
 simp only [Sem.run_bind, wE h1, wE h2, Result.andThen_ok, Sem.run_pure, Lib.cmp_eq]
 rfl
theorem zN (v u : Value) (l m : List UInt8) (w : World) (h1 : IsB w v l) (h2 : IsB w u m) : Calls Tryz.prog 165 #[v, u] w fun e w' => e = .returned (.int .i64 (xu l m)) ∧ w' = w := by
 have hr := Em h1 h2
 go_enter Tryz.func165, Tryz.ntmps165
 go_wp2_with fail
 rw [run_callFunc_extern Tryz.func200 (by kernel_rfl) (by kernel_rfl) (by kernel_rfl) (e := Extern.BytealgCompare.compare) (by kernel_rfl), hr]
 simp only [Result.andThen]
 rw [Oper.upon_value]
 go_wp2_with fail
 exact bodyPost_ret (results_tmp rfl _ _ _) rfl ⟨rfl, rfl⟩
theorem DV (a b : List UInt8) : Op.bytesLess a b = decide (a < b) := Go.Proofs.bytesLess_eq a b
theorem KA (a b : List UInt8) : decide (xu a b < 0) = decide (a < b) := by rw [← FP, DV]
end Go.Proofs.YtiledgojbpmoiaaGreat
