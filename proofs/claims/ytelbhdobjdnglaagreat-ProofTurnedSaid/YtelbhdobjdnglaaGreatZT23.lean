/-
 Merged: lemmas of this claim.
 Conditions: none.
-/
import Derived.Test.YtelbhdobjdnglaaGreatZT22
import Derived.Test.YtelbhdobjdnglaaGreatZT17
import Derived.Test.YtelbhdobjdnglaaGreatZT15
import Derived.Test.YtelbhdobjdnglaaGreatZT16
import Derived.Test.YtelbhdobjdnglaaGreatZT0
namespace Go.Proofs.YtelbhdobjdnglaaGreat
set_option linter.unusedVariables false
set_option maxRecDepth 20000
set_option maxHeartbeats 16000000
open Go.RowKit Mono Rlp
namespace E
theorem Jd (x : Nat) (h : x < 256) : bits .and .u8 (x : Int) 1 = ((x % 2 : Nat) : Int) := by
 have h' : ∀ x : Fin 256, bits .and .u8 (x.1 : Int) 1 = ((x.1 % 2 : Nat) : Int) := by decide +kernel
 exact h' ⟨x, h⟩
theorem Qy (a : UInt8) : Bin .and 5 (.v (bv a)) (.v (.int .u8 1)) (.int .u8 ((a.toNat % 2 : Nat) : Int)) := DZ rfl fun w => by
 have h := Jd a.toNat a.toNat_lt
 show Result.ok (Value.int .u8 (bits .and .u8 (a.toNat : Int) 1)) w = _
 rw [h]
theorem SL (b : List UInt8) (hb : b.length ≤ 536870912) : Fn 188 [.bs b] (· = rpD b) := by
 have hS := uX b (by omega)
 unfold rpD
 refine FnM.toFn ?_
 cases b with
 | nil =>
  rw [show split [] = [] from rfl] at hS
  rw [rdP]
  refine FnM.walk 37 Tryz.func188 rfl Tryz.ntmps188 (by simp) fun X => ?_
  repeat
   (first
    | (apply eX; iterate 2 rfl) | (apply aA (hS); rfl; exact aj.refl _ _; exact enA; iterate 2 rfl) | (apply ak; iterate 3 rfl)
    | (apply ah; iterate 3 rfl) | (apply aS; iterate 4 rfl) | (apply aC (b := true); (iterate 2 rfl); exact aK; iterate 2 rfl)
    | (apply aP; iterate 4 rfl) | apply EL.nil | (apply EC.t0; rfl)
    | (with_reducible first | apply EK.nc | apply EC.seq | apply EC.r0 | apply EC.ret | apply EK.aG))
  exact EK.gy [] rfl rfl rfl rfl RL.a RL.a RL.a (Xt _) ⟨rfl, rfl⟩
 | cons c r =>
  have hsl := dB r
  rw [List.length_cons] at hb
  rw [qw] at hS
  rw [rdP]
  generalize c >>> 4 = x at hS ⊢
  generalize c &&& 15 = y at hS ⊢
  generalize split r = s at hS hsl ⊢
  have hl2 : (x :: y :: s).length = s.length + 2 := rfl
  have hrem := Qy x
  refine FnM.walk 37 Tryz.func188 rfl Tryz.ntmps188 (by simp) fun X => ?_
  by_cases h3 : 3 < x.toNat
  ·
   rw [if_pos h3]
   repeat
    (first
     | (apply aA (hS); rfl; exact aj.refl _ _; exact enA; iterate 2 rfl) | (apply ak; iterate 3 rfl) | (apply ah; iterate 3 rfl)
     | (apply aH; iterate 5 rfl) | (apply aS; iterate 4 rfl) | (apply aC (b := true); (iterate 2 rfl); exact aK; iterate 2 rfl)
     | (apply aC (b := false); (iterate 2 rfl); exact aK; iterate 2 rfl) | (apply aP; iterate 4 rfl)
     | (apply gB; (iterate 3 rfl); exact ixA; iterate 2 rfl) | apply EL.nil
     | (apply EC.t0; rfl) | (with_reducible first | apply EK.nc | apply EC.seq | apply EC.r0 | apply EC.ret | apply EK.aG))
   exact EK.gy [] rfl rfl rfl rfl RL.a RL.a RL.a (Xt _) ⟨rfl, rfl⟩
  ·
   rw [if_neg h3]
   by_cases h1 : x.toNat % 2 = 1
   ·
    rw [if_pos h1]
    rw [h1] at hrem
    by_cases h2 : 2 ≤ x.toNat
    ·
     rw [show decide (2 ≤ x.toNat) = true by simp [h2]]
     repeat
      (first
       | (apply aA (hS); rfl; exact aj.refl _ _; exact enA; iterate 2 rfl) | (apply dW; (iterate 2 rfl); exact hrem; iterate 2 rfl)
       | (apply ru; (iterate 3 rfl); exact ⟨by decide, by rw [hl2]; show 1 ≤ _; omega⟩; iterate 2 rfl) | (apply ak; iterate 3 rfl) | (apply ah; iterate 3 rfl)
       | (apply aH; iterate 5 rfl) | (apply aS; iterate 4 rfl) | (apply aC (b := true); (iterate 2 rfl); exact aK; iterate 2 rfl)
       | (apply aC (b := false); (iterate 2 rfl); exact aK; iterate 2 rfl) | (apply aP; iterate 4 rfl)
       | (apply gB; (iterate 3 rfl); exact ixA; iterate 2 rfl) | apply EL.nil
       | (apply EC.t0; rfl) | (apply EC.f0; rfl)
       | (with_reducible first | apply EK.nc | apply EC.seq | apply EC.r0 | apply EC.k0 | apply EC.ret | apply EK.aG))
     exact EK.gy [] rfl rfl rfl rfl RL.a RL.a RL.a (Xt _) ⟨rfl, rfl⟩
    ·
     rw [show decide (2 ≤ x.toNat) = false by simp [h2]]
     repeat
      (first
       | (apply aA (hS); rfl; exact aj.refl _ _; exact enA; iterate 2 rfl) | (apply dW; (iterate 2 rfl); exact hrem; iterate 2 rfl)
       | (apply ru; (iterate 3 rfl); exact ⟨by decide, by rw [hl2]; show 1 ≤ _; omega⟩; iterate 2 rfl) | (apply ak; iterate 3 rfl) | (apply ah; iterate 3 rfl)
       | (apply aH; iterate 5 rfl) | (apply aS; iterate 4 rfl) | (apply aC (b := true); (iterate 2 rfl); exact aK; iterate 2 rfl)
       | (apply aC (b := false); (iterate 2 rfl); exact aK; iterate 2 rfl) | (apply aP; iterate 4 rfl)
       | (apply gB; (iterate 3 rfl); exact ixA; iterate 2 rfl) | apply EL.nil
       | (apply EC.t0; rfl) | (apply EC.f0; rfl)
       | (with_reducible first | apply EK.nc | apply EC.seq | apply EC.r0 | apply EC.k0 | apply EC.ret | apply EK.aG))
     exact EK.gy [] rfl rfl rfl rfl RL.a RL.a RL.a (Xt _) ⟨rfl, rfl⟩
   ·
    have h0 : x.toNat % 2 = 0 := by omega
    rw [if_neg h1]
    rw [h0] at hrem
    by_cases hy : y.toNat = 0
    ·
     rw [if_pos hy]
     by_cases h2 : 2 ≤ x.toNat
     ·
      rw [show decide (2 ≤ x.toNat) = true by simp [h2]]
      repeat
       (first
        | (apply aA (hS); rfl; exact aj.refl _ _; exact enA; iterate 2 rfl) | (apply dW; (iterate 2 rfl); exact hrem; iterate 2 rfl)
        | (apply ru; (iterate 3 rfl); exact ⟨by decide, by rw [hl2]; show 2 ≤ _; omega⟩; iterate 2 rfl) | (apply ak; iterate 3 rfl) | (apply ah; iterate 3 rfl)
        | (apply aH; iterate 5 rfl) | (apply aS; iterate 4 rfl) | (apply aC (b := true); (iterate 2 rfl); exact aK; iterate 2 rfl)
        | (apply aC (b := false); (iterate 2 rfl); exact aK; iterate 2 rfl) | (apply aP; iterate 4 rfl)
        | (apply gB; (iterate 3 rfl); exact ixA; iterate 2 rfl) | apply EL.nil
        | (apply EC.f0; rfl) | (with_reducible first | apply EK.nc | apply EC.seq | apply EC.r0 | apply EC.k0 | apply EC.ret))
      exact EK.gy [] rfl rfl rfl rfl RL.a RL.a RL.a (Xt _) ⟨rfl, rfl⟩
     ·
      rw [show decide (2 ≤ x.toNat) = false by simp [h2]]
      repeat
       (first
        | (apply aA (hS); rfl; exact aj.refl _ _; exact enA; iterate 2 rfl) | (apply dW; (iterate 2 rfl); exact hrem; iterate 2 rfl)
        | (apply ru; (iterate 3 rfl); exact ⟨by decide, by rw [hl2]; show 2 ≤ _; omega⟩; iterate 2 rfl) | (apply ak; iterate 3 rfl) | (apply ah; iterate 3 rfl)
        | (apply aH; iterate 5 rfl) | (apply aS; iterate 4 rfl) | (apply aC (b := false); (iterate 2 rfl); exact aK; iterate 2 rfl)
        | (apply aP; iterate 4 rfl)
        | (apply gB; (iterate 3 rfl); exact ixA; iterate 2 rfl) | apply EL.nil
        | (apply EC.f0; rfl) | (with_reducible first | apply EK.nc | apply EC.seq | apply EC.r0 | apply EC.k0 | apply EC.ret))
      exact EK.gy [] rfl rfl rfl rfl RL.a RL.a RL.a (Xt _) ⟨rfl, rfl⟩
    ·
     rw [if_neg hy]
     repeat
      (first
       | (apply aA (hS); rfl; exact aj.refl _ _; exact enA; iterate 2 rfl) | (apply dW; (iterate 2 rfl); exact hrem; iterate 2 rfl)
       | (apply ak; iterate 3 rfl) | (apply ah; iterate 3 rfl) | (apply aH; iterate 5 rfl) | (apply aS; iterate 4 rfl)
       | (apply aC (b := true); (iterate 2 rfl); exact aK; iterate 2 rfl) | (apply aC (b := false); (iterate 2 rfl); exact aK; iterate 2 rfl)
       | (apply aC; iterate 5 rfl) | (apply aP; iterate 4 rfl)
       | (apply gB; (iterate 3 rfl); exact ixA; iterate 2 rfl) | apply EL.nil
       | (apply EC.t0; rfl) | (apply EC.f0; rfl)
       | (with_reducible first | apply EK.nc | apply EC.seq | apply EC.r0 | apply EC.k0 | apply EC.ret | apply EK.aG))
     exact EK.gy [] rfl rfl rfl rfl RL.a RL.a RL.a (Xt _) ⟨rfl, rfl⟩
def dN : Nd → D
 | .nil => .v .nilIface
 | .hash w => .ifc 179 (.arr 32 w)
 | .leaf p v => .ifc 233 (.pd (.tup [.bs p, .bs v]))
 | .ext p k => .ifc 237 (.pd (.tup [.bs p, dN k]))
 | .br ks v => .ifc 241 (.pd (.tup [.tup ((List.range 16).map fun i => dN (ks i)), .bs v]))
theorem mJ (t : Nd) : (dN t).size = 1 ∧ (dN t).agg = false := by cases t <;> exact ⟨rfl, rfl⟩
def jE (r : Nd × Bool) : R := .tpl [dN r.1, .v (.bool r.2)]
theorem PX (x : Raw) (N : Raw → Nd × Bool) (H : isL x = true → Fn 111 [aO x] (· = jE (N x))) : Fn 189 [aO x] (· = jE (gX N x)) := by
 have h2 := Qd x
 refine FnM.toFn ?_
 obtain ⟨l, b, xs⟩ := x
 unfold gX
 cases l with
 | true =>
  rw [if_pos (show isL (.mk true b xs) = true from rfl)]
  have h1 := H rfl
  cases hp : packed (.mk true b xs) with
  | none =>
   rw [hp] at h2
   unfold og at h2
   dsimp only at h2 ⊢
   clear h1
   unfold aO at h2 ⊢
   refine FnM.walk 36 Tryz.func189 rfl Tryz.ntmps189 (by simp) fun X => ?_
   repeat
    (first
     | (apply eX; iterate 2 rfl) | (apply aA (h2); rfl; exact aj.refl _ _; exact enA; iterate 2 rfl) | (apply ak; iterate 3 rfl)
     | (apply ah; iterate 3 rfl) | (apply bn; iterate 6 rfl) | (apply aF; iterate 4 rfl) | (apply aS; iterate 4 rfl)
     | (apply bH; rfl; exact I.a; iterate 4 rfl) | (apply aC (b := true); (iterate 2 rfl); exact aK; iterate 2 rfl)
     | (apply fU; rfl; rfl; rfl; intro _) | apply EL.nil | (apply EC.t0; rfl)
     | (with_reducible first | apply EK.nc | apply EC.seq | apply EC.r0 | apply EC.ret | apply EK.aG))
   exact EK.bV [] rfl rfl rfl RL.a (Xt _) ⟨rfl, rfl⟩
  | some pb =>
   rw [hp] at h2
   unfold og at h2
   dsimp only at h2 ⊢
   by_cases h32 : pb.length < 32
   ·
    rw [if_pos h32]
    unfold jE at h1 ⊢
    generalize N (.mk true b xs) = r at h1 ⊢
    unfold aO at h1 h2 ⊢
    refine FnM.walk 36 Tryz.func189 rfl Tryz.ntmps189 (by simp) fun X => ?_
    repeat
     (first
      | (apply aA (h2); rfl; exact aj.refl _ _; exact enA; iterate 2 rfl) | (apply aA (h1); rfl; exact aj.refl _ _; exact enA; iterate 2 rfl)
      | (apply ak; iterate 3 rfl) | (apply ah; iterate 3 rfl) | (apply bn; iterate 6 rfl) | (apply aF; iterate 4 rfl)
      | (apply aS; iterate 4 rfl) | (apply bH; rfl; exact I.a; iterate 4 rfl) | (apply aC (b := false); (iterate 2 rfl); exact aK; iterate 2 rfl)
      | (apply aP; iterate 4 rfl) | (apply fU; rfl; rfl; rfl; intro _) | apply EL.nil
      | (apply EC.t0; rfl) | (apply EC.f0; rfl) | (with_reducible first | apply EK.nc | apply EC.seq | apply EC.r0 | apply EC.k0 | apply EC.ret | apply EK.aG))
    exact EK.bV [] rfl rfl rfl RL.a (Xt _) ⟨rfl, rfl⟩
   ·
    rw [if_neg h32]
    clear h1
    unfold aO at h2 ⊢
    refine FnM.walk 36 Tryz.func189 rfl Tryz.ntmps189 (by simp) fun X => ?_
    repeat
     (first
      | (apply aA (h2); rfl; exact aj.refl _ _; exact enA; iterate 2 rfl) | (apply ak; iterate 3 rfl) | (apply ah; iterate 3 rfl)
      | (apply bn; iterate 6 rfl) | (apply aF; iterate 4 rfl) | (apply aS; iterate 4 rfl) | (apply bH; rfl; exact I.a; iterate 4 rfl)
      | (apply aC (b := true); (iterate 2 rfl); exact aK; iterate 2 rfl) | (apply aC (b := false); (iterate 2 rfl); exact aK; iterate 2 rfl)
      | (apply aP; iterate 4 rfl) | (apply fU; rfl; rfl; rfl; intro _) | apply EL.nil
      | (apply EC.t0; rfl) | (with_reducible first | apply EK.nc | apply EC.seq | apply EC.r0 | apply EC.ret | apply EK.aG))
    exact EK.bV [] rfl rfl rfl RL.a (Xt _) ⟨rfl, rfl⟩
 | false =>
  clear h2 H
  rw [if_neg (show ¬ isL (.mk false b xs) = true from Xv)]
  rw [show bts (.mk false b xs) = b from rfl]
  unfold aO
  refine FnM.walk 36 Tryz.func189 rfl Tryz.ntmps189 (by simp) fun X => ?_
  by_cases h0 : b.length = 0
  ·
   rw [if_pos h0]
   have hc : fM .eql (b.length : Int) 0 = some true := by rw [h0]; rfl
   repeat
    (first
     | (apply aC (b := true); (iterate 2 rfl); exact hc; iterate 2 rfl) | (apply ah; iterate 3 rfl) | (apply bn; iterate 6 rfl)
     | (apply bH; rfl; exact I.a; iterate 4 rfl) | (apply aP; iterate 4 rfl) | (apply fU; rfl; rfl; rfl; intro _) | apply EL.nil
     | (apply EC.t0; rfl) | (apply EC.f0; rfl)
     | (with_reducible first | apply EK.nc | apply EC.seq | apply EC.r0 | apply EC.k0 | apply EC.b0 | apply EC.ret | apply EK.dK | apply EK.aG))
   exact EK.bV [] rfl rfl rfl RL.a (Xt _) ⟨rfl, rfl⟩
  ·
   rw [if_neg h0]
   have hc : fM .eql (b.length : Int) 0 = some false := by
    simp only [fM, XT, beq_eq_false_iff_ne]
    omega
   by_cases h32 : b.length = 32
   ·
    rw [if_pos h32]
    repeat
     (first
      | (apply aC (b := false); (iterate 2 rfl); exact hc; iterate 2 rfl) | (apply ah; iterate 3 rfl) | (apply bn; iterate 6 rfl)
      | (apply aH; iterate 5 rfl) | (apply bH; rfl; exact I.a; iterate 4 rfl) | (apply aC (b := true); (iterate 2 rfl); exact aK; iterate 2 rfl)
      | (apply aP; iterate 4 rfl) | (apply WY; (iterate 2 rfl); (focus (first | assumption | omega)); iterate 3 rfl) | (apply iw; iterate 4 rfl)
      | (apply fU; rfl; rfl; rfl; intro _) | apply EL.nil | (apply EC.t0; rfl) | (apply EC.f0; rfl)
      | (with_reducible first | apply EK.nc | apply EC.seq | apply EC.r0 | apply EC.k0 | apply EC.b0 | apply EC.ret | apply EK.dK | apply EK.aG))
    exact EK.bV [] rfl rfl rfl RL.a (Xt _) ⟨rfl, rfl⟩
   ·
    rw [if_neg h32]
    repeat
     (first
      | (apply aC (b := false); (iterate 2 rfl); exact hc; iterate 2 rfl) | (apply ah; iterate 3 rfl) | (apply bn; iterate 6 rfl)
      | (apply bH; rfl; exact I.a; iterate 4 rfl) | (apply aC (b := false); (iterate 2 rfl); exact aK; iterate 2 rfl) | (apply aP; iterate 4 rfl)
      | (apply fU; rfl; rfl; rfl; intro _) | apply EL.nil | (apply EC.f0; rfl)
      | (with_reducible first | apply EK.nc | apply EC.seq | apply EC.r0 | apply EC.k0 | apply EC.b0 | apply EC.ret | apply EK.n0))
    exact EK.bV [] rfl rfl rfl RL.a (Xt _) ⟨rfl, rfl⟩
theorem Nz (p : List UInt8) (t : Nd) : qN (([(0, 1, false), (1, 1, false)] : List (Nat × Nat × Bool)).map fun x => (x.1, x.2.1)) (.tup [.v (.slice none 0 0), .v .nilIface]) [(0, .bs p), (1, dN t)] = some (.tup [.bs p, dN t]) := by
 have h1 := (mJ t).1
 have h2 := (mJ t).2
 have h3 : (D.bs p).agg = false := rfl
 simp [qN, D.upd, D.vM, D.size, D.sizes, h1, h2, h3]
theorem SG (x y : Raw) (N : Raw → Nd × Bool) (hx : (bts x).length ≤ 536870912) (H : isL y = true → Fn 111 [aO y] (· = jE (N y))) : Fn 159 [aO x, aO y] (· = jE (sO N x y)) := by
 have hR := PX y N H
 clear H
 refine FnM.toFn ?_
 unfold sO
 obtain ⟨xl, xb, xx⟩ := x
 have hP := SL xb hx
 rw [show isL (.mk xl xb xx) = xl from rfl, show bts (.mk xl xb xx) = xb from rfl]
 unfold rpD at hP
 cases hr : rdP xb with
 | none =>
  rw [hr] at hP
  dsimp only at hP ⊢
  clear hR
  obtain ⟨yl, yb, yx⟩ := y
  unfold aO
  refine FnM.walk 65 Tryz.func159 rfl Tryz.ntmps159 (by simp) fun X => ?_
  cases xl with
  | true =>
   repeat
    (first
     | (apply eX; iterate 2 rfl) | (apply aA (hP); rfl; exact aj.refl _ _; exact enA; iterate 2 rfl) | (apply ak; iterate 3 rfl)
     | (apply ah; iterate 3 rfl) | (apply bn; iterate 6 rfl) | (apply aF; iterate 4 rfl) | (apply aS; iterate 4 rfl)
     | (apply bH; rfl; exact I.a; iterate 4 rfl) | (apply fU; rfl; rfl; rfl; intro _) | apply EL.nil
     | (apply EC.t0; rfl) | (with_reducible first | apply EK.nc | apply EC.seq | apply EC.r0 | apply EC.b0 | apply EC.ret | apply EK.dK | apply EK.aG))
   exact EK.bV [] rfl rfl rfl RL.a (Xt _) ⟨rfl, rfl⟩
  | false =>
   repeat
    (first
     | (apply aA (hP); rfl; exact aj.refl _ _; exact enA; iterate 2 rfl) | (apply ak; iterate 3 rfl) | (apply ah; iterate 3 rfl)
     | (apply bn; iterate 6 rfl) | (apply aF; iterate 4 rfl) | (apply aS; iterate 4 rfl) | (apply dI; iterate 3 rfl)
     | (apply bH; rfl; exact I.a; iterate 4 rfl) | (apply fU; rfl; rfl; rfl; intro _) | apply EL.nil
     | (apply EC.t0; rfl) | (with_reducible first | apply EK.nc | apply EC.seq | apply EC.r0 | apply EC.b0 | apply EC.ret | apply EK.dK | apply EK.aG))
   exact EK.bV [] rfl rfl rfl RL.a (Xt _) ⟨rfl, rfl⟩
 | some pl =>
  obtain ⟨p, lf⟩ := pl
  rw [hr] at hP
  dsimp only at hP ⊢
  cases xl with
  | true =>
   rw [if_pos rfl]
   clear hR
   obtain ⟨yl, yb, yx⟩ := y
   unfold aO
   refine FnM.walk 65 Tryz.func159 rfl Tryz.ntmps159 (by simp) fun X => ?_
   repeat
    (first
     | (apply eX; iterate 2 rfl) | (apply aA (hP); rfl; exact aj.refl _ _; exact enA; iterate 2 rfl) | (apply ak; iterate 3 rfl)
     | (apply ah; iterate 3 rfl) | (apply bn; iterate 6 rfl) | (apply aF; iterate 4 rfl) | (apply aS; iterate 4 rfl)
     | (apply bH; rfl; exact I.a; iterate 4 rfl) | (apply fU; rfl; rfl; rfl; intro _) | apply EL.nil
     | (apply EC.t0; rfl) | (with_reducible first | apply EK.nc | apply EC.seq | apply EC.r0 | apply EC.b0 | apply EC.ret | apply EK.dK | apply EK.aG))
   exact EK.bV [] rfl rfl rfl RL.a (Xt _) ⟨rfl, rfl⟩
  | false =>
   rw [if_neg Xv]
   cases lf with
   | true =>
    rw [if_pos rfl]
    clear hR
    obtain ⟨yl, yb, yx⟩ := y
    rw [show isL (.mk yl yb yx) = yl from rfl, show bts (.mk yl yb yx) = yb from rfl]
    unfold aO
    refine FnM.walk 65 Tryz.func159 rfl Tryz.ntmps159 (by simp) fun X => ?_
    cases yl with
    | true =>
     rw [Bool.not_true, ZO]
     repeat
      (first
       | (apply aA (hP); rfl; exact aj.refl _ _; exact enA; iterate 2 rfl) | (apply ak; iterate 3 rfl) | (apply ah; iterate 3 rfl)
       | (apply bn; iterate 6 rfl) | (apply aF; iterate 4 rfl) | (apply aS; iterate 4 rfl) | (apply dI; iterate 3 rfl)
       | (apply bH; rfl; exact I.a; iterate 4 rfl) | (apply fU; rfl; rfl; rfl; intro _) | apply EL.nil
       | (apply EC.t0; rfl) | (apply EC.f0; rfl) | (with_reducible first | apply EK.nc | apply EC.seq | apply EC.r0 | apply EC.b0))
     refine EC.draw 16 (by kernel_rfl) ?_
     simp only [Xp, Xu, mP, Xq]
     repeat
      (first
       | (apply uj; iterate 2 rfl) | (apply EH.grow (kD rfl rfl); rfl; rfl; rfl) | (apply aX; iterate 3 rfl) | (apply fA; iterate 3 rfl)
       | (apply dH; iterate 6 rfl) | (apply jI; iterate 4 rfl) | (apply G8; iterate 3 rfl) | (apply dw; rfl; exact I.a; iterate 4 rfl)
       | (apply iM; iterate 7 rfl) | (apply Ed; iterate 4 rfl) | ((with_reducible apply EH.nil); rfl))
     repeat
      (first
       | (apply ah; iterate 3 rfl) | apply EL.nil | (with_reducible first | apply EK.nc | apply EC.ret | apply EK.dK | apply EK.aG))
     exact EK.bV [] rfl rfl rfl RL.a (Xt _) ⟨rfl, rfl⟩
    | false =>
     rw [ZP, Y4]
     by_cases h0 : 0 < yb.length
     ·
      rw [show decide (0 < yb.length) = true by simp [h0]]
      repeat
       (first
        | (apply aA (hP); rfl; exact aj.refl _ _; exact enA; iterate 2 rfl) | (apply ak; iterate 3 rfl) | (apply ah; iterate 3 rfl)
        | (apply bn; iterate 6 rfl) | (apply aF; iterate 4 rfl) | (apply aS; iterate 4 rfl) | (apply dI; iterate 3 rfl)
        | (apply bH; rfl; exact I.a; iterate 4 rfl) | (apply fU; rfl; rfl; rfl; intro _) | apply EL.nil
        | (apply EC.t0; rfl) | (apply EC.f0; rfl) | (with_reducible first | apply EK.nc | apply EC.seq | apply EC.r0 | apply EC.b0))
      refine EC.draw 16 (by kernel_rfl) ?_
      simp only [Xp, Xu, mP, Xq]
      repeat
       (first
        | (apply EH.grow (kD rfl rfl); rfl; rfl; rfl) | (apply aX; iterate 3 rfl) | (apply fA; iterate 3 rfl) | (apply dH; iterate 6 rfl)
        | (apply jI; iterate 4 rfl) | (apply G8; iterate 3 rfl) | (apply dw; rfl; exact I.a; iterate 4 rfl)
        | (apply jm (b := true); (iterate 2 rfl); exact aK; iterate 2 rfl) | (apply Ee; iterate 4 rfl) | (apply iM; iterate 7 rfl)
        | (apply Ed; iterate 4 rfl) | ((with_reducible apply EH.nil); rfl))
      repeat
       (first
        | (apply ah; iterate 3 rfl) | apply EL.nil | (with_reducible first | apply EK.nc | apply EC.ret | apply EK.dK | apply EK.aG))
      exact EK.bV [] rfl rfl rfl RL.a (Xt _) ⟨rfl, rfl⟩
     ·
      rw [show decide (0 < yb.length) = false by simp [h0]]
      have hc : fM .gtr (yb.length : Int) 0 = some false := by
       simp only [fM, XT, decide_eq_false_iff_not]
       omega
      repeat
       (first
        | (apply aA (hP); rfl; exact aj.refl _ _; exact enA; iterate 2 rfl) | (apply ak; iterate 3 rfl) | (apply ah; iterate 3 rfl)
        | (apply bn; iterate 6 rfl) | (apply aF; iterate 4 rfl) | (apply aS; iterate 4 rfl) | (apply dI; iterate 3 rfl)
        | (apply bH; rfl; exact I.a; iterate 4 rfl) | (apply fU; rfl; rfl; rfl; intro _) | apply EL.nil
        | (apply EC.t0; rfl) | (apply EC.f0; rfl) | (with_reducible first | apply EK.nc | apply EC.seq | apply EC.r0 | apply EC.b0))
      refine EC.draw 16 (by kernel_rfl) ?_
      simp only [Xp, Xu, mP, Xq]
      repeat
       (first
        | (apply EH.grow (kD rfl rfl); rfl; rfl; rfl) | (apply jm (b := false); (iterate 2 rfl); exact hc; iterate 2 rfl) | (apply aX; iterate 3 rfl)
        | (apply fA; iterate 3 rfl) | (apply dH; iterate 6 rfl) | (apply jI; iterate 4 rfl) | (apply G8; iterate 3 rfl)
        | (apply dw; rfl; exact I.a; iterate 4 rfl) | (apply Ee; iterate 4 rfl) | (apply iM; iterate 7 rfl) | (apply Ed; iterate 4 rfl)
        | ((with_reducible apply EH.nil); rfl))
      repeat
       (first
        | (apply ah; iterate 3 rfl) | apply EL.nil | (with_reducible first | apply EK.nc | apply EC.ret | apply EK.dK | apply EK.aG))
      exact EK.bV [] rfl rfl rfl RL.a (Xt _) ⟨rfl, rfl⟩
   | false =>
    rw [if_neg Xv]
    unfold jE at hR
    generalize gX N y = k at hR ⊢
    obtain ⟨k, ok⟩ := k
    obtain ⟨yl, yb, yx⟩ := y
    dsimp only at hR ⊢
    have hfe := Nz p k
    unfold aO at hR ⊢
    refine FnM.walk 65 Tryz.func159 rfl Tryz.ntmps159 (by simp) fun X => ?_
    cases k with
    | nil =>
     rw [if_neg (show ¬ Nd.nil.xM = true from Xv)]
     rw [dN] at hR
     repeat
      (first
       | (apply aA (hP); rfl; exact aj.refl _ _; exact enA; iterate 2 rfl) | (apply aA (hR); rfl; exact aj.refl _ _; exact enA; iterate 2 rfl)
       | (apply ak; iterate 3 rfl) | (apply ah; iterate 3 rfl) | (apply bn; iterate 6 rfl) | (apply aF; iterate 4 rfl)
       | (apply aS; iterate 4 rfl) | (apply dI; iterate 3 rfl) | (apply bH; rfl; exact I.a; iterate 4 rfl) | (apply KP; iterate 5 rfl)
       | (apply fU; rfl; rfl; rfl; intro _) | apply EL.nil | (apply EC.f0; rfl)
       | (with_reducible first | apply EK.nc | apply EC.seq | apply EC.r0 | apply EC.k0 | apply EC.b0 | apply EC.ret | apply EK.n0))
     exact EK.bV [] rfl rfl rfl RL.a (Xt _) ⟨rfl, rfl⟩
    | leaf a b =>
     rw [if_neg (show ¬ (Nd.leaf a b).xM = true from Xv)]
     rw [dN] at hR
     repeat
      (first
       | (apply aA (hP); rfl; exact aj.refl _ _; exact enA; iterate 2 rfl) | (apply aA (hR); rfl; exact aj.refl _ _; exact enA; iterate 2 rfl)
       | (apply ak; iterate 3 rfl) | (apply ah; iterate 3 rfl) | (apply bn; iterate 6 rfl) | (apply aF; iterate 4 rfl)
       | (apply aS; iterate 4 rfl) | (apply dI; iterate 3 rfl) | (apply bH; rfl; exact I.a; iterate 4 rfl) | (apply iC; iterate 6 rfl)
       | (apply fU; rfl; rfl; rfl; intro _) | apply EL.nil | (apply EC.f0; rfl)
       | (with_reducible first | apply EK.nc | apply EC.seq | apply EC.r0 | apply EC.k0 | apply EC.b0 | apply EC.ret | apply EK.n0))
     exact EK.bV [] rfl rfl rfl RL.a (Xt _) ⟨rfl, rfl⟩
    | ext a b =>
     rw [if_neg (show ¬ (Nd.ext a b).xM = true from Xv)]
     rw [dN] at hR
     repeat
      (first
       | (apply aA (hP); rfl; exact aj.refl _ _; exact enA; iterate 2 rfl) | (apply aA (hR); rfl; exact aj.refl _ _; exact enA; iterate 2 rfl)
       | (apply ak; iterate 3 rfl) | (apply ah; iterate 3 rfl) | (apply bn; iterate 6 rfl) | (apply aF; iterate 4 rfl)
       | (apply aS; iterate 4 rfl) | (apply dI; iterate 3 rfl) | (apply bH; rfl; exact I.a; iterate 4 rfl) | (apply iC; iterate 6 rfl)
       | (apply fU; rfl; rfl; rfl; intro _) | apply EL.nil | (apply EC.f0; rfl)
       | (with_reducible first | apply EK.nc | apply EC.seq | apply EC.r0 | apply EC.k0 | apply EC.b0 | apply EC.ret | apply EK.n0))
     exact EK.bV [] rfl rfl rfl RL.a (Xt _) ⟨rfl, rfl⟩
    | hash a =>
     rw [if_pos (show (Nd.hash a).xM = true from rfl)]
     rw [jE, dN]
     rw [dN] at hR hfe ⊢
     by_cases h0 : 0 < p.length
     ·
      rw [show decide (0 < p.length) = true by simp [h0], Bool.and_true]
      cases ok with
      | true =>
       repeat
        (first
         | (apply aA (hP); rfl; exact aj.refl _ _; exact enA; iterate 2 rfl) | (apply aA (hR); rfl; exact aj.refl _ _; exact enA; iterate 2 rfl)
         | (apply ES.grow (kD rfl rfl); rfl; rfl; rfl) | (apply ak; iterate 3 rfl) | (apply ah; iterate 3 rfl) | (apply bC; iterate 7 rfl)
         | (apply aF; iterate 4 rfl) | (apply aH; iterate 5 rfl) | (apply aS; iterate 4 rfl) | (apply dI; iterate 3 rfl)
         | (apply aC (b := true); (iterate 2 rfl); exact aK; iterate 2 rfl) | (apply aP; iterate 4 rfl) | (apply eH; iterate 7 rfl)
         | (apply iw; iterate 4 rfl) | (apply eP; iterate 4 rfl) | (apply iC; iterate 6 rfl) | apply EL.nil
         | (apply EC.t0; rfl) | (apply EC.f0; rfl)
         | (with_reducible first | apply EK.nc | apply EC.seq | apply EC.r0 | apply EC.k0 | apply EC.b0 | apply EC.ret | apply EK.n0 | apply EK.dK | apply EK.aG))
       exact EK.bV [] rfl rfl rfl RL.a (Xt _) ⟨rfl, rfl⟩
      | false =>
       repeat
        (first
         | (apply eX; iterate 2 rfl) | (apply aA (hP); rfl; exact aj.refl _ _; exact enA; iterate 2 rfl)
         | (apply aA (hR); rfl; exact aj.refl _ _; exact enA; iterate 2 rfl) | (apply ES.grow (kD rfl rfl); rfl; rfl; rfl) | (apply ak; iterate 3 rfl)
         | (apply ah; iterate 3 rfl) | (apply bC; iterate 7 rfl) | (apply aF; iterate 4 rfl) | (apply aH; iterate 5 rfl)
         | (apply aS; iterate 4 rfl) | (apply dI; iterate 3 rfl) | (apply eH; iterate 7 rfl) | (apply iw; iterate 4 rfl) | (apply eP; iterate 4 rfl)
         | (apply iC; iterate 6 rfl) | apply EL.nil | (apply EC.t0; rfl) | (apply EC.f0; rfl)
         | (with_reducible first | apply EK.nc | apply EC.seq | apply EC.r0 | apply EC.k0 | apply EC.b0 | apply EC.ret | apply EK.n0 | apply EK.dK | apply EK.aG))
       exact EK.bV [] rfl rfl rfl RL.a (Xt _) ⟨rfl, rfl⟩
     ·
      rw [show decide (0 < p.length) = false by simp [h0], Bool.and_false]
      have hc : fM .gtr (p.length : Int) 0 = some false := by
       simp only [fM, XT, decide_eq_false_iff_not]
       omega
      cases ok with
      | true =>
       repeat
        (first
         | (apply aA (hP); rfl; exact aj.refl _ _; exact enA; iterate 2 rfl) | (apply aA (hR); rfl; exact aj.refl _ _; exact enA; iterate 2 rfl)
         | (apply ES.grow (kD rfl rfl); rfl; rfl; rfl) | (apply aC (b := false); (iterate 2 rfl); exact hc; iterate 2 rfl) | (apply ak; iterate 3 rfl)
         | (apply ah; iterate 3 rfl) | (apply bC; iterate 7 rfl) | (apply aF; iterate 4 rfl) | (apply aH; iterate 5 rfl)
         | (apply aS; iterate 4 rfl) | (apply dI; iterate 3 rfl) | (apply aP; iterate 4 rfl) | (apply eH; iterate 7 rfl) | (apply iw; iterate 4 rfl)
         | (apply eP; iterate 4 rfl) | (apply iC; iterate 6 rfl) | apply EL.nil | (apply EC.t0; rfl)
         | (apply EC.f0; rfl) | (with_reducible first | apply EK.nc | apply EC.seq | apply EC.r0 | apply EC.k0 | apply EC.b0 | apply EC.ret | apply EK.n0 | apply EK.dK | apply EK.aG))
       exact EK.bV [] rfl rfl rfl RL.a (Xt _) ⟨rfl, rfl⟩
      | false =>
       repeat
        (first
         | (apply eX; iterate 2 rfl) | (apply aA (hP); rfl; exact aj.refl _ _; exact enA; iterate 2 rfl)
         | (apply aA (hR); rfl; exact aj.refl _ _; exact enA; iterate 2 rfl) | (apply ES.grow (kD rfl rfl); rfl; rfl; rfl) | (apply ak; iterate 3 rfl)
         | (apply ah; iterate 3 rfl) | (apply bC; iterate 7 rfl) | (apply aF; iterate 4 rfl) | (apply aH; iterate 5 rfl)
         | (apply aS; iterate 4 rfl) | (apply dI; iterate 3 rfl) | (apply eH; iterate 7 rfl) | (apply iw; iterate 4 rfl) | (apply eP; iterate 4 rfl)
         | (apply iC; iterate 6 rfl) | apply EL.nil | (apply EC.t0; rfl) | (apply EC.f0; rfl)
         | (with_reducible first | apply EK.nc | apply EC.seq | apply EC.r0 | apply EC.k0 | apply EC.b0 | apply EC.ret | apply EK.n0 | apply EK.dK | apply EK.aG))
       exact EK.bV [] rfl rfl rfl RL.a (Xt _) ⟨rfl, rfl⟩
    | br a b =>
     rw [if_pos (show (Nd.br a b).xM = true from rfl)]
     rw [jE, dN]
     rw [dN] at hR hfe ⊢
     generalize (List.range 16).map (fun i => dN (a i)) = K at *
     by_cases h0 : 0 < p.length
     ·
      rw [show decide (0 < p.length) = true by simp [h0], Bool.and_true]
      cases ok with
      | true =>
       repeat
        (first
         | (apply aA (hP); rfl; exact aj.refl _ _; exact enA; iterate 2 rfl) | (apply aA (hR); rfl; exact aj.refl _ _; exact enA; iterate 2 rfl)
         | (apply ES.grow (kD rfl rfl); rfl; rfl; rfl) | (apply ak; iterate 3 rfl) | (apply ah; iterate 3 rfl) | (apply bC; iterate 7 rfl)
         | (apply aF; iterate 4 rfl) | (apply aH; iterate 5 rfl) | (apply aS; iterate 4 rfl) | (apply dI; iterate 3 rfl)
         | (apply aC (b := true); (iterate 2 rfl); exact aK; iterate 2 rfl) | (apply aP; iterate 4 rfl) | (apply eH; iterate 7 rfl)
         | (apply iw; iterate 4 rfl) | (apply eP; iterate 4 rfl) | (apply iC; iterate 6 rfl) | apply EL.nil
         | (apply EC.t0; rfl) | (apply EC.f0; rfl)
         | (with_reducible first | apply EK.nc | apply EC.seq | apply EC.r0 | apply EC.k0 | apply EC.b0 | apply EC.ret | apply EK.n0 | apply EK.dK | apply EK.aG))
       exact EK.bV [] rfl rfl rfl RL.a (Xt _) ⟨rfl, rfl⟩
      | false =>
       repeat
        (first
         | (apply eX; iterate 2 rfl) | (apply aA (hP); rfl; exact aj.refl _ _; exact enA; iterate 2 rfl)
         | (apply aA (hR); rfl; exact aj.refl _ _; exact enA; iterate 2 rfl) | (apply ES.grow (kD rfl rfl); rfl; rfl; rfl) | (apply ak; iterate 3 rfl)
         | (apply ah; iterate 3 rfl) | (apply bC; iterate 7 rfl) | (apply aF; iterate 4 rfl) | (apply aH; iterate 5 rfl)
         | (apply aS; iterate 4 rfl) | (apply dI; iterate 3 rfl) | (apply eH; iterate 7 rfl) | (apply iw; iterate 4 rfl) | (apply eP; iterate 4 rfl)
         | (apply iC; iterate 6 rfl) | apply EL.nil | (apply EC.t0; rfl) | (apply EC.f0; rfl)
         | (with_reducible first | apply EK.nc | apply EC.seq | apply EC.r0 | apply EC.k0 | apply EC.b0 | apply EC.ret | apply EK.n0 | apply EK.dK | apply EK.aG))
       exact EK.bV [] rfl rfl rfl RL.a (Xt _) ⟨rfl, rfl⟩
     ·
      rw [show decide (0 < p.length) = false by simp [h0], Bool.and_false]
      have hc : fM .gtr (p.length : Int) 0 = some false := by
       simp only [fM, XT, decide_eq_false_iff_not]
       omega
      cases ok with
      | true =>
       repeat
        (first
         | (apply aA (hP); rfl; exact aj.refl _ _; exact enA; iterate 2 rfl) | (apply aA (hR); rfl; exact aj.refl _ _; exact enA; iterate 2 rfl)
         | (apply ES.grow (kD rfl rfl); rfl; rfl; rfl) | (apply aC (b := false); (iterate 2 rfl); exact hc; iterate 2 rfl) | (apply ak; iterate 3 rfl)
         | (apply ah; iterate 3 rfl) | (apply bC; iterate 7 rfl) | (apply aF; iterate 4 rfl) | (apply aH; iterate 5 rfl)
         | (apply aS; iterate 4 rfl) | (apply dI; iterate 3 rfl) | (apply aP; iterate 4 rfl) | (apply eH; iterate 7 rfl) | (apply iw; iterate 4 rfl)
         | (apply eP; iterate 4 rfl) | (apply iC; iterate 6 rfl) | apply EL.nil | (apply EC.t0; rfl)
         | (apply EC.f0; rfl) | (with_reducible first | apply EK.nc | apply EC.seq | apply EC.r0 | apply EC.k0 | apply EC.b0 | apply EC.ret | apply EK.n0 | apply EK.dK | apply EK.aG))
       exact EK.bV [] rfl rfl rfl RL.a (Xt _) ⟨rfl, rfl⟩
      | false =>
       repeat
        (first
         | (apply eX; iterate 2 rfl) | (apply aA (hP); rfl; exact aj.refl _ _; exact enA; iterate 2 rfl)
         | (apply aA (hR); rfl; exact aj.refl _ _; exact enA; iterate 2 rfl) | (apply ES.grow (kD rfl rfl); rfl; rfl; rfl) | (apply ak; iterate 3 rfl)
         | (apply ah; iterate 3 rfl) | (apply bC; iterate 7 rfl) | (apply aF; iterate 4 rfl) | (apply aH; iterate 5 rfl)
         | (apply aS; iterate 4 rfl) | (apply dI; iterate 3 rfl) | (apply eH; iterate 7 rfl) | (apply iw; iterate 4 rfl) | (apply eP; iterate 4 rfl)
         | (apply iC; iterate 6 rfl) | apply EL.nil | (apply EC.t0; rfl) | (apply EC.f0; rfl)
         | (with_reducible first | apply EK.nc | apply EC.seq | apply EC.r0 | apply EC.k0 | apply EC.b0 | apply EC.ret | apply EK.n0 | apply EK.dK | apply EK.aG))
       exact EK.bV [] rfl rfl rfl RL.a (Xt _) ⟨rfl, rfl⟩
theorem getD_mem {xs : List Raw} {k : Nat} (h : k < xs.length) : xs.getD k eF = xs[k] := by
 rw [List.getD_eq_getElem?_getD, List.getElem?_eq_getElem h]
 rfl
end E
end Go.Proofs.YtelbhdobjdnglaaGreat
namespace Go.Proofs.YtelbhdobjdnglaaGreat
set_option maxRecDepth 20000
set_option maxHeartbeats 4000000
open Go.RowKit Mono Rlp
theorem IK (a b : Nat) (ha : a < 2 ^ 63) (hb : b < 2 ^ 63) : bits .or .i64 (a : Int) (b : Int) = ((a ||| b : Nat) : Int) := by
 have key : (BitVec.ofInt 64 (a : Int) ||| BitVec.ofInt 64 (b : Int)).toNat = a ||| b := by
  rw [BitVec.toNat_or, ZM, ZM]
  congr 1
  · omega
  · omega
 show IntKind.i64.wrap ((BitVec.ofInt 64 (a : Int) ||| BitVec.ofInt 64 (b : Int)).toNat : Nat) = _
 have hlt := Nat.or_lt_two_pow ha hb
 rw [key, IntKind.wrap_i64]
 omega
theorem zq (n x : Nat) (hn : n ≤ 16777216) (hx : x < 256) : bits .or .i64 ((n : Int) * 256) (x : Int) = ((n * 256 + x : Nat) : Int) := by
 have := IK (n * 256) x (by omega) (by omega)
 rw [nat_join 8 (n * 256) x (by omega) (by omega)] at this
 rw [← this]
 simp
theorem um (l : List UInt8) (j : Nat) (h : j < l.length) : val (l.take (j + 1)) = val (l.take j) * 256 + l[j].toNat := by
 rw [XE h, yj]
theorem yt (l : List UInt8) : ∀ (i j : Nat), i ≤ j → val (l.take i) ≤ val (l.take j) := by
 intro i j h
 induction j with
 | zero =>
      obtain rfl : i = 0 := by omega
      exact Nat.le_refl _
 | succ j ih =>
  rcases XY i (j + 1) with h1 | h1
  ·
   rcases XY j l.length with h2 | h2
   ·
    have := ih (by omega)
    rw [um l j h2]
    omega
   ·
    have h3 := ih (by omega)
    rw [YM (l := l) (i := j) h2] at h3
    rw [YM (l := l) (i := j + 1) (by omega)]
    exact h3
  ·
   obtain rfl : i = j + 1 := by omega
   exact Nat.le_refl _
def Jl (b : List UInt8) (base : Nat) (v : Value) : Prop := match Rlp.hdr b base with
 | some (h, n) => v = .tuple #[.int .i64 (h : Int), .int .i64 (n : Int), .bool true]
 | none => ∃ x y : Int, v = .tuple #[.int .i64 x, .int .i64 y, .bool false]
theorem BH {b : List UInt8} {base h n : Nat} {v : Value} (hh : Rlp.hdr b base = some (h, n)) (hv : v = .tuple #[.int .i64 (h : Int), .int .i64 (n : Int), .bool true]) : Jl b base v := by unfold Jl; rw [hh]; exact hv
theorem lU {b : List UInt8} {base : Nat} {v : Value} (hh : Rlp.hdr b base = none) (x y : Int) (hv : v = .tuple #[.int .i64 x, .int .i64 y, .bool false]) : Jl b base v := by unfold Jl; rw [hh]; exact ⟨x, y, hv⟩
def Xk (V : Value → Prop) (w : World) (e : Ending) (w' : World) : Prop := w' = w ∧ ∃ v, e = .returned v ∧ V v
theorem yK (v : Value) (c : UInt8) (t : List UInt8) (base : Nat) (w : World) (h : IsB w v (c :: t)) (hl : t.length ≤ 70368744177664) (hb : base ≤ 192) (h1 : base ≤ c.toNat) (h2 : c.toNat < base + 64) :
  Calls Tryz.prog 187 #[v, .int .i64 base] w (Xk (Jl (c :: t) base) w) := by
 obtain ⟨A, cp, rfl, hc1, hc2, hr⟩ := h
 obtain ⟨bl, o, rfl, hbl, hcell⟩ := hr (by simp [bvs])
 have e0 := hcell 0 (bv c) rfl
 rw [Yk] at e0
 unfold bv at e0
 have hcl := jP c
 have HC : Hid (∀ j (hj : j < t.length), w.cell? ⟨bl, o + 1 + j, none⟩ = some (.int .u8 (t[j].toNat : Int))) := by
  refine Lib.hid fun j hj => ?_
  have := hcell (j + 1) (bv t[j]) (by simp [bvs, hj])
  rw [show o + 1 + j = o + (j + 1) by omega]
  exact this
 clear hcell hr
 unfold maxLen at hc2
 simp only [List.length_cons] at hc1 ⊢
 have hdr0 : Rlp.hdr (c :: t) base = if c.toNat - base ≤ 55 then (if c.toNat - base ≤ t.length then some (1, c.toNat - base) else none)
   else if t.length + 1 < 1 + (c.toNat - base - 55) ∨ t.getD 0 0 = 0 then none
   else if val (t.take (c.toNat - base - 55)) > most then none
   else if 55 < val (t.take (c.toNat - base - 55)) ∧ val (t.take (c.toNat - base - 55)) ≤ t.length - (c.toNat - base - 55) then some (1 + (c.toNat - base - 55), val (t.take (c.toNat - base - 55))) else none := by
  unfold Rlp.hdr
  simp only [Zk, List.length_cons, ZH, mP, Xq, ZN]
 have HD := Lib.hid hdr0
 clear hdr0
 by_cases h3 : c.toNat - base ≤ 55
 ·
  by_cases h4 : c.toNat - base ≤ t.length
  ·
   have HH := Lib.hid (show Rlp.hdr (c :: t) base = some (1, c.toNat - base) by rw [HD.out, if_pos h3, if_pos h4])
   go_enter Tryz.func187, Tryz.ntmps187
   go_wp2_with fail
   refine bodyPost_ret (results_tmp3 rfl _ _ _) rfl ⟨rfl, _, rfl, BH HH.out ?_⟩
   simp
   omega
  ·
   have HH := Lib.hid (show Rlp.hdr (c :: t) base = none by rw [HD.out, if_pos h3, if_neg h4])
   go_enter Tryz.func187, Tryz.ntmps187
   go_wp2_with fail
   refine bodyPost_ret (results_tmp3 rfl _ _ _) rfl ⟨rfl, _, rfl, lU HH.out 1 ((c.toNat : Int) - base) ?_⟩
   simp
   omega
 ·
  obtain ⟨m, hm⟩ : ∃ m : Nat, m = c.toNat - base - 55 := ⟨_, rfl⟩
  rw [← hm] at HD
  have hm1 : 1 ≤ m := by omega
  have hm8 : m ≤ 8 := by omega
  have hmc : (c.toNat : Int) = base + 55 + m := by omega
  by_cases h4 : t.length + 1 < 1 + m
  ·
   have HH := Lib.hid (show Rlp.hdr (c :: t) base = none by rw [HD.out, if_neg h3, if_pos (.inl h4)])
   clear HD h3 hm
   rw [hmc] at e0
   clear hmc
   go_enter Tryz.func187, Tryz.ntmps187
   go_wp2_with fail
   refine bodyPost_ret (results_tmp3 rfl _ _ _) rfl ⟨rfl, _, rfl, lU HH.out 0 0 rfl⟩
  ·
   have h0t : 0 < t.length := by omega
   have e1 := HC.out 0 h0t
   rw [Yk] at e1
   have hx0 := jP (t[0]'h0t)
   by_cases h5 : t[0]'h0t = 0
   ·
    have HH := Lib.hid (show Rlp.hdr (c :: t) base = none by
     rw [HD.out, if_neg h3, if_pos (.inr (by rw [List.getD_eq_getElem?_getD, List.getElem?_eq_getElem h0t, h5]; rfl))])
    rw [h5] at e1
    rw [hmc] at e0
    have h6 : 1 + m ≤ t.length + 1 := by omega
    have e1' : w.cell? ⟨bl, o + 1, none⟩ = some (.int .u8 0) := e1
    clear HD h3 hm hmc e1 h5 h4
    go_enter Tryz.func187, Tryz.ntmps187
    go_wp2_with fail
    refine bodyPost_ret (results_tmp3 rfl _ _ _) rfl ⟨rfl, _, rfl, lU HH.out 0 0 rfl⟩
   ·
    have h6 : 1 + m ≤ t.length + 1 := by omega
    have h7 : 0 < (t[0]'h0t).toNat := by
     rcases YL (t[0]'h0t).toNat with h0 | h0
     · exact absurd (Yt.1 (by rw [h0]; rfl)) h5
     · exact h0
    have h8 : (((t[0]'h0t).toNat : Int) == 0) = false := by simp; omega
    have HH : Hid (Rlp.hdr (c :: t) base = if val (t.take m) > most then none else if 55 < val (t.take m) ∧ val (t.take m) ≤ t.length - m then some (1 + m, val (t.take m)) else none) := by
     refine Lib.hid ?_
     rw [HD.out, if_neg h3, if_neg ?_]
     rintro (h | h)
     · omega
     ·
      rw [List.getD_eq_getElem?_getD, List.getElem?_eq_getElem h0t] at h
      exact h5 h
    rw [hmc] at e0
    clear HD h3 hm h5 h4 hmc
    generalize (t[0]'h0t).toNat = x0 at e1 hx0 h7 h8
    go_enter Tryz.func187, Tryz.ntmps187
    go_wp2_with fail
    have k1 : ((base : Int) + 55 + m - base - 55) = m := by omega
    have k2 : base + 55 + m - base - 55 = m := by omega
    have k3 : 1 + m - 1 = m := by omega
    have k4 : decide ((t.length : Int) + 1 < 1 + (m : Int)) = false := by simp; omega
    have k5 : decide ((base : Int) + 55 + m - base ≤ 55) = false := by simp; omega
    simp only [k1, k2, k3, k4, k5]
    clear k1 k2 k3 k4 k5 h8 e1
    go_loopw [5, 42] (fun nv i wr => ∃ j : Nat, j ≤ m ∧ i = .int .i64 j ∧ nv = .int .i64 (val (t.take j) : Nat) ∧ val (t.take j) ≤ 16777216 ∧ wr = w) (fun _ i _ => m - (intOf i).toNat)
    case atStart => exact ⟨0, by omega, rfl, rfl, by simp [val], rfl⟩
    case round =>
     obtain ⟨j, hj, rfl, rfl, hv, rfl⟩ := hrel
     by_cases h9 : j < m
     ·
      have e2 := HC.out j (by omega)
      have hxl := jP (t[j]'(by omega))
      have HV := Lib.hid (um t j (by omega))
      generalize (t[j]'(by omega)).toNat = x at e2 hxl HV
      have HJ := Lib.hid (zq (val (t.take j)) x hv hxl)
      have hmm := yt t (j + 1) m (by omega)
      rw [HV.out] at hmm
      generalize val (t.take j) = n at HV HJ hmm hv
      have hjj := HJ.out
      by_cases h10 : n * 256 + x ≤ 16777216
      ·
       go_wp2_with fail
       go_round
       case rel => exact ⟨j + 1, by omega, by go_num, by rw [HV.out]; go_num, by rw [HV.out]; exact h10, trivial⟩
       case measure => simp [intOf]; omega
      ·
       have HH2 := Lib.hid (show Rlp.hdr (c :: t) base = none by rw [HH.out, if_pos (by simp only [most]; omega)])
       have h11 : 16777216 < n * 256 + x := by omega
       clear h10 HH
       go_wp2_with fail
       refine bodyPost_ret (results_tmp3 rfl _ _ _) rfl ⟨rfl, _, rfl, lU HH2.out 0 0 rfl⟩
     ·
      have h10 : m ≤ j := by omega
      have h11 : t.take j = t.take m := by rw [show j = m by omega]
      rw [h11] at hv ⊢
      generalize val (t.take m) = n at HH hv ⊢
      clear h9 h11
      by_cases h12 : 55 < n ∧ n ≤ t.length - m
      ·
       have HH2 := Lib.hid (show Rlp.hdr (c :: t) base = some (1 + m, n) by rw [HH.out, if_neg (by simp only [most]; omega), if_pos h12])
       obtain ⟨h13, h14⟩ := h12
       have h15 : n + m ≤ t.length := by omega
       clear HH
       go_wp2_with fail
       refine bodyPost_ret (results_tmp3 rfl _ _ _) rfl ⟨rfl, _, rfl, BH HH2.out ?_⟩
       simp
       omega
      ·
       have HH2 := Lib.hid (show Rlp.hdr (c :: t) base = none by rw [HH.out, if_neg (by simp only [most]; omega), if_neg h12])
       clear HH
       by_cases h13 : 55 < n
       ·
        have h14 : t.length < n + m := by omega
        clear h12
        go_wp2_with fail
        refine bodyPost_ret (results_tmp3 rfl _ _ _) rfl ⟨rfl, _, rfl, lU HH2.out (1 + m) n ?_⟩
        simp
        omega
       ·
        have h14 : n ≤ 55 := by omega
        clear h12 h13
        go_wp2_with fail
        refine bodyPost_ret (results_tmp3 rfl _ _ _) rfl ⟨rfl, _, rfl, lU HH2.out (1 + m) n ?_⟩
        simp
        try omega
end Go.Proofs.YtelbhdobjdnglaaGreat
