/-
 Merged: lemmas of this claim.
 Conditions: none.
-/
import Derived.Test.YtelbhdobjdnglaaGreatZC17
import Derived.Test.YtelbhdobjdnglaaGreatZC2
import Derived.Lib.Bytealg
import Derived.Lib.BytesEntry
import Derived.Sort.Walk0
import Derived.Test.YtelbhdobjdnglaaGreatZC12
import Derived.Shelf.SlSortCmp.WholeK
import Derived.Shelf.SlSortCmp.NoneTotal
import Derived.Shelf.SlGeneric
import Derived.Ground.SlsfProg
import Derived.Test.YtelbhdobjdnglaaGreatRows
import Derived.Test.YtelbhdobjdnglaaGreatZC0
namespace Go.Proofs.YtelbhdobjdnglaaGreat
set_option linter.unusedVariables false
set_option maxRecDepth 20000
set_option maxHeartbeats 16000000
open Go.RowKit Mono Rlp
namespace E
theorem getD_mem {xs : List Raw} {k : Nat} (h : k < xs.length) : xs.getD k jw = xs[k] := by
 rw [List.getD_eq_getElem?_getD, List.getElem?_eq_getElem h]
 rfl
theorem ML (f : Nat) (b : List UInt8) (xs : List Raw) (h17 : xs.length = 17) (ih : ∀ y ∈ xs, isL y = true → Fn 67 [aX y] (· = .val (.v (.bool (isN f y))))) : Fn 67 [aX (.mk true b xs)] (· = .val (.v (.bool (brB (isN f) xs)))) := by
 refine FnM.toFn ?_
 have hml : (bG xs).length = 17 := by rw [gJ, WY, h17]
 have hat : ∀ k, (hk : k < xs.length) → (bG xs)[k]? = some (aX xs[k]) := fun k hk => by rw [gJ, Xl, List.getElem?_eq_getElem hk]; rfl
 have h16 := hat 16 (by omega)
 unfold brB
 rw [getD_mem (show 16 < xs.length by omega)]
 obtain ⟨q, hq⟩ : ∃ q, (xs.take 16).all (rfB (isN f) true) = q := ⟨_, rfl⟩
 rw [hq]
 generalize hDs : bG xs = Ds at hml hat h16
 refine FnM.walk 121 Tryz.func67 rfl Tryz.ntmps67 (by simp) fun X => ?_
 unfold aX
 rw [hDs]
 repeat
  (first
   | (apply ah; iterate 3 rfl) | (apply aH; iterate 6 rfl) | (apply bM; iterate 3 rfl) | (apply aI; rfl; exact I.a; iterate 4 rfl)
   | (apply aF (b := true); (iterate 2 rfl); exact aQ; iterate 2 rfl) | (apply bC; iterate 4 rfl) | (apply cZ; rfl; rfl; rfl; intro _) | apply EL.nil
   | (apply EC.t0; rfl) | (apply EC.f0; rfl)
   | (with_reducible first | apply EK.nc | apply EC.seq | apply EC.r0 | apply EC.k0 | apply EC.b0))
 rename_i g
 refine EC.loop (ι := {k : Nat // k ≤ 16 ∧ (xs.take k).all (rfB (isN f) true) = true})
  (fun k => ⟨[(4, .val (.v (.int .i64 (k.1 : Int)))), (3, .val (.v (.int .i64 (((xs.take k.1).filter some1).length : Nat)))), (1, .val (.v (.pointer (some ⟨g, 0, none⟩))))], [.var g 138 (.tup [.v (.bool true), .bs b, .sl 3 Ds])], []⟩)
  (fun k => 16 - k.1) ⟨0, Xo _, rfl⟩ ?_ ?_
 · exact Le.kp
 rintro ⟨k, hk, hall⟩
 dsimp only at hk ⊢
 by_cases hlt : k < 16
 ·
  have hkx : k < xs.length := by omega
  have hd := hat k hkx
  have htk : xs.take (k + 1) = xs.take k ++ [xs[k]] := Xa hkx
  have hR := J9 xs[k] true (isN f) (ih xs[k] (XH hkx))
  have hno : rfB (isN f) true xs[k] = false → (xs.take 16).all (rfB (isN f) true) = false := fun h => by
   refine Y5.2 fun ha => ?_
   have := Xk.1 ha xs[k] (List.mem_iff_getElem.2 ⟨k, by rw [Xi]; omega, by rw [List.getElem_take]⟩)
   rw [h] at this
   cases this
  generalize xs[k] = y at hd htk hR hno
  cases hb : rfB (isN f) true y with
  | false =>
   rw [hb] at hR
   rw [← hq, hno hb, Yk, Yk]
   obtain ⟨yl, yb, yx⟩ := y
   unfold aX at hd hR
   repeat
    (first
     | (apply aC (hR); rfl; exact aj.refl _ _; exact enA; iterate 2 rfl)
     | (apply bH (d := .tup [.v (.bool yl), .bs yb, .sl 3 (bG yx)]); (iterate 4 rfl); exact ⟨by omega, by rw [Xy]; exact hd⟩; iterate 2 rfl)
     | (apply ak; iterate 3 rfl) | (apply ah; iterate 3 rfl) | (apply aH; iterate 6 rfl) | (apply aG; iterate 5 rfl)
     | (apply bM; iterate 3 rfl) | (apply aI; rfl; exact I.a; iterate 4 rfl) | (apply aF (b := true); (iterate 2 rfl); exact aQ; iterate 2 rfl) | apply EL.nil
     | (apply EC.t0; rfl)
     | (with_reducible first | apply EK.nc | apply EC.seq | apply EC.r0 | apply EC.k0 | apply EC.b0 | apply EC.ret | apply EK.bK | apply EK.aB))
   exact EK.aW [] rfl rfl (WI _) ⟨rfl, rfl⟩
  | true =>
   rw [hb] at hR
   clear hno
   have hall1 : (xs.take (k + 1)).all (rfB (isN f) true) = true := by rw [htk, List.all_append, hall]; simp [hb]
   have hc1 : ((xs.take (k + 1)).filter some1).length = ((xs.take k).filter some1).length + (if some1 y then 1 else 0) := by
    rw [htk, YF, List.length_append]
    congr 1
    cases h : some1 y with
    | true => rw [Yd h]; rfl
    | false => rw [Ym (by rw [h]; decide)]; rfl
   have hle : ((xs.take k).filter some1).length ≤ 16 := XD (YJ _ _) (by rw [Xi]; omega)
   generalize ((xs.take k).filter some1).length = n at hc1 hle ⊢
   obtain ⟨yl, yb, yx⟩ := y
   rw [show some1 (.mk yl yb yx) = (yl || decide (0 < yb.length)) from rfl] at hc1
   unfold aX at hd hR
   cases yl with
   | true =>
    rw [Y7, if_pos rfl] at hc1
    repeat
     (first
      | (apply dO; iterate 2 rfl) | (apply aC (hR); rfl; exact aj.refl _ _; exact enA; iterate 2 rfl)
      | (apply bH (d := .tup [.v (.bool true), .bs yb, .sl 3 (bG yx)]); (iterate 4 rfl); exact ⟨by omega, by rw [Xy]; exact hd⟩; iterate 2 rfl)
      | (apply ak; iterate 3 rfl) | (apply ah; iterate 3 rfl) | (apply aH; iterate 6 rfl) | (apply aP; iterate 7 rfl)
      | (apply aG; iterate 5 rfl) | (apply aK; iterate 4 rfl) | (apply bM; iterate 3 rfl) | (apply aI; rfl; exact I.a; iterate 4 rfl)
      | (apply aF (b := true); (iterate 2 rfl); exact aQ; iterate 2 rfl) | (apply jM; (iterate 3 rfl); (focus omega); (focus omega); iterate 2 rfl) | apply EL.nil
      | (apply EC.t0; rfl) | (apply EC.f0; rfl)
      | (with_reducible first | apply EK.nc | apply EC.seq | apply EC.r0 | apply EC.k0 | apply EC.b0 | apply EK.n0))
    refine EK.again ⟨k + 1, hlt, hall1⟩ (by dsimp only; omega) ?_
    dsimp only
    rw [hc1]
    simp only [XA]
    exact Le.kp
   | false =>
    rw [YM] at hc1
    by_cases h0 : 0 < yb.length
    ·
     rw [show decide (0 < yb.length) = true by simp [h0], if_pos rfl] at hc1
     repeat
      (first
       | (apply aC (hR); rfl; exact aj.refl _ _; exact enA; iterate 2 rfl)
       | (apply bH (d := .tup [.v (.bool false), .bs yb, .sl 3 (bG yx)]); (iterate 4 rfl); exact ⟨by omega, by rw [Xy]; exact hd⟩; iterate 2 rfl)
       | (apply ak; iterate 3 rfl) | (apply ah; iterate 3 rfl) | (apply aH; iterate 6 rfl) | (apply aP; iterate 7 rfl)
       | (apply aG; iterate 5 rfl) | (apply aK; iterate 4 rfl) | (apply bM; iterate 3 rfl) | (apply aI; rfl; exact I.a; iterate 4 rfl)
       | (apply aF (b := true); (iterate 2 rfl); exact aQ; iterate 2 rfl) | (apply jM; (iterate 3 rfl); (focus omega); (focus omega); iterate 2 rfl)
       | (apply aV; iterate 4 rfl) | apply EL.nil | (apply EC.t0; rfl) | (apply EC.f0; rfl)
       | (with_reducible first | apply EK.nc | apply EC.seq | apply EC.r0 | apply EC.k0 | apply EC.b0 | apply EK.n0))
     refine EK.again ⟨k + 1, hlt, hall1⟩ (by dsimp only; omega) ?_
     dsimp only
     rw [hc1]
     simp only [XA]
     exact Le.kp
    ·
     rw [show decide (0 < yb.length) = false by simp [h0], if_neg (by decide)] at hc1
     have hc0 : gq .gtr (yb.length : Int) 0 = some false := by
      simp only [gq, Xw, decide_eq_false_iff_not]
      omega
     repeat
      (first
       | (apply aC (hR); rfl; exact aj.refl _ _; exact enA; iterate 2 rfl) | (apply aF (b := false); (iterate 2 rfl); exact hc0; iterate 2 rfl)
       | (apply bH (d := .tup [.v (.bool false), .bs yb, .sl 3 (bG yx)]); (iterate 4 rfl); exact ⟨by omega, by rw [Xy]; exact hd⟩; iterate 2 rfl)
       | (apply ak; iterate 3 rfl) | (apply ah; iterate 3 rfl) | (apply aH; iterate 6 rfl) | (apply aP; iterate 7 rfl)
       | (apply aG; iterate 5 rfl) | (apply aK; iterate 4 rfl) | (apply bM; iterate 3 rfl) | (apply aI; rfl; exact I.a; iterate 4 rfl)
       | (apply aF (b := true); (iterate 2 rfl); exact aQ; iterate 2 rfl) | (apply jM; (iterate 3 rfl); (focus omega); (focus omega); iterate 2 rfl)
       | (apply aV; iterate 4 rfl) | apply EL.nil | (apply EC.t0; rfl) | (apply EC.f0; rfl)
       | (with_reducible first | apply EK.nc | apply EC.seq | apply EC.r0 | apply EC.k0 | apply EC.b0 | apply EK.n0))
     refine EK.again ⟨k + 1, hlt, hall1⟩ (by dsimp only; omega) ?_
     dsimp only
     rw [hc1]
     simp only [XA]
     exact Le.kp
 ·
  obtain rfl : k = 16 := by omega
  have hle : ((xs.take 16).filter some1).length ≤ 16 := XD (YJ _ _) (by rw [Xi]; omega)
  rw [hall] at hq
  rw [← hq, XO]
  clear hq
  generalize ((xs.take 16).filter some1).length = n at hle ⊢
  generalize xs[16]'(by omega) = y at h16 ⊢
  obtain ⟨yl, yb, yx⟩ := y
  unfold aX at h16
  unfold isL bts
  dsimp only
  cases yl with
  | true =>
   repeat
    (first
     | (apply bH (d := .tup [.v (.bool true), .bs yb, .sl 3 (bG yx)]); (iterate 4 rfl); exact ⟨by decide, h16⟩; iterate 2 rfl) | (apply ak; iterate 3 rfl)
     | (apply ah; iterate 3 rfl) | (apply aH; iterate 6 rfl) | (apply aP; iterate 7 rfl) | (apply aG; iterate 5 rfl)
     | (apply aI; rfl; exact I.a; iterate 4 rfl) | (apply aF (b := false); (iterate 2 rfl); exact aQ; iterate 2 rfl) | apply EL.nil
     | (apply EC.t0; rfl) | (apply EC.f0; rfl)
     | (with_reducible first | apply EK.nc | apply EC.seq | apply EC.r0 | apply EC.x0 | apply EC.ret | apply EK.s0 | apply EK.aB | apply EK.aJ))
   exact EK.aW [] rfl rfl (WI _) ⟨rfl, rfl⟩
  | false =>
   rw [YD, XO]
   by_cases h0 : 0 < yb.length
   ·
    rw [if_pos h0]
    by_cases h2 : 2 ≤ n + 1
    ·
     rw [show decide (2 ≤ n + 1) = true by simp; omega]
     repeat
      (first
       | (apply bH (d := .tup [.v (.bool false), .bs yb, .sl 3 (bG yx)]); (iterate 4 rfl); exact ⟨by decide, h16⟩; iterate 2 rfl) | (apply ak; iterate 3 rfl)
       | (apply ah; iterate 3 rfl) | (apply aH; iterate 6 rfl) | (apply aP; iterate 7 rfl) | (apply aG; iterate 5 rfl)
       | (apply aI; rfl; exact I.a; iterate 4 rfl) | (apply aF (b := true); (iterate 2 rfl); exact aQ; iterate 2 rfl)
       | (apply aF (b := false); (iterate 2 rfl); exact aQ; iterate 2 rfl) | (apply jM; (iterate 3 rfl); (focus omega); (focus omega); iterate 2 rfl)
       | (apply aV; iterate 4 rfl) | apply EL.nil | (apply EC.t0; rfl) | (apply EC.f0; rfl)
       | (with_reducible first | apply EK.nc | apply EC.seq | apply EC.r0 | apply EC.k0 | apply EC.x0 | apply EC.ret | apply EK.s0 | apply EK.aB | apply EK.aJ))
     exact EK.aW [] rfl rfl (WI _) ⟨rfl, rfl⟩
    ·
     rw [show decide (2 ≤ n + 1) = false by simp; omega]
     repeat
      (first
       | (apply bH (d := .tup [.v (.bool false), .bs yb, .sl 3 (bG yx)]); (iterate 4 rfl); exact ⟨by decide, h16⟩; iterate 2 rfl) | (apply ak; iterate 3 rfl)
       | (apply ah; iterate 3 rfl) | (apply aH; iterate 6 rfl) | (apply aP; iterate 7 rfl) | (apply aG; iterate 5 rfl)
       | (apply aI; rfl; exact I.a; iterate 4 rfl) | (apply aF (b := true); (iterate 2 rfl); exact aQ; iterate 2 rfl)
       | (apply aF (b := false); (iterate 2 rfl); exact aQ; iterate 2 rfl) | (apply jM; (iterate 3 rfl); (focus omega); (focus omega); iterate 2 rfl)
       | (apply aV; iterate 4 rfl) | apply EL.nil | (apply EC.t0; rfl) | (apply EC.f0; rfl)
       | (with_reducible first | apply EK.nc | apply EC.seq | apply EC.r0 | apply EC.k0 | apply EC.x0 | apply EC.ret | apply EK.s0 | apply EK.aB | apply EK.aJ))
     exact EK.aW [] rfl rfl (WI _) ⟨rfl, rfl⟩
   ·
    rw [if_neg h0]
    have hc0 : gq .gtr (yb.length : Int) 0 = some false := by
     simp only [gq, Xw, decide_eq_false_iff_not]
     omega
    by_cases h2 : 2 ≤ n
    ·
     rw [show decide (2 ≤ n + 0) = true by simp; omega]
     repeat
      (first
       | (apply aF (b := false); (iterate 2 rfl); exact hc0; iterate 2 rfl)
       | (apply bH (d := .tup [.v (.bool false), .bs yb, .sl 3 (bG yx)]); (iterate 4 rfl); exact ⟨by decide, h16⟩; iterate 2 rfl) | (apply ak; iterate 3 rfl)
       | (apply ah; iterate 3 rfl) | (apply aH; iterate 6 rfl) | (apply aP; iterate 7 rfl) | (apply aG; iterate 5 rfl)
       | (apply aI; rfl; exact I.a; iterate 4 rfl) | (apply aF (b := true); (iterate 2 rfl); exact aQ; iterate 2 rfl)
       | (apply aF (b := false); (iterate 2 rfl); exact aQ; iterate 2 rfl) | (apply aV; iterate 4 rfl) | apply EL.nil
       | (apply EC.f0; rfl) | (with_reducible first | apply EK.nc | apply EC.seq | apply EC.r0 | apply EC.k0 | apply EC.x0 | apply EC.ret | apply EK.s0 | apply EK.aB | apply EK.aJ))
     exact EK.aW [] rfl rfl (WI _) ⟨rfl, rfl⟩
    ·
     rw [show decide (2 ≤ n + 0) = false by simp; omega]
     repeat
      (first
       | (apply aF (b := false); (iterate 2 rfl); exact hc0; iterate 2 rfl)
       | (apply bH (d := .tup [.v (.bool false), .bs yb, .sl 3 (bG yx)]); (iterate 4 rfl); exact ⟨by decide, h16⟩; iterate 2 rfl) | (apply ak; iterate 3 rfl)
       | (apply ah; iterate 3 rfl) | (apply aH; iterate 6 rfl) | (apply aP; iterate 7 rfl) | (apply aG; iterate 5 rfl)
       | (apply aI; rfl; exact I.a; iterate 4 rfl) | (apply aF (b := false); (iterate 2 rfl); exact aQ; iterate 2 rfl) | (apply aV; iterate 4 rfl)
       | apply EL.nil | (apply EC.f0; rfl)
       | (with_reducible first | apply EK.nc | apply EC.seq | apply EC.r0 | apply EC.k0 | apply EC.x0 | apply EC.ret | apply EK.s0 | apply EK.aB | apply EK.aJ))
     exact EK.aW [] rfl rfl (WI _) ⟨rfl, rfl⟩
theorem MK (f : Nat) (b : List UInt8) (x y : Raw) (hx : isL x = false → (bts x).length ≤ 536870912) (ih : isL y = true → Fn 67 [aX y] (· = .val (.v (.bool (isN f y))))) : Fn 67 [aX (.mk true b [x, y])] (· = .val (.v (.bool (prB (isN f) x y)))) := by
 have hR := J9 y false (isN f) ih
 have hS := PU y
 refine FnM.toFn ?_
 unfold prB
 obtain ⟨xl, xb, xx⟩ := x
 have hx := hx
 unfold isL bts at hx
 dsimp only at hx
 refine FnM.walk 121 Tryz.func67 rfl Tryz.ntmps67 (by simp) fun X => ?_
 cases xl with
 | true =>
  rw [show isL (.mk true xb xx) = true from rfl, Bool.not_true, Yk]
  unfold aX bG aX bG
  repeat
   (first
    | (apply ak; iterate 3 rfl) | (apply ah; iterate 3 rfl) | (apply aH; iterate 6 rfl) | (apply aP; iterate 7 rfl)
    | (apply aG; iterate 5 rfl) | (apply aK; iterate 4 rfl) | (apply bM; iterate 3 rfl) | (apply aI; rfl; exact I.a; iterate 4 rfl)
    | (apply aF; iterate 5 rfl) | (apply bC; iterate 4 rfl)
    | (apply bH; (iterate 4 rfl); exact ixA; iterate 2 rfl)
    | (apply cZ; rfl; rfl; rfl; intro _) | apply EL.nil | (apply EC.t0; rfl) | (apply EC.f0; rfl)
    | (with_reducible first | apply EK.nc | apply EC.seq | apply EC.r0 | apply EC.k0 | apply EC.ret | apply EK.aB))
  exact EK.aW [] rfl rfl (WI _) ⟨rfl, rfl⟩
 | false =>
  rw [show isL (.mk false xb xx) = false from rfl, YD, XO]
  rw [show bts (.mk false xb xx) = xb from rfl]
  have hP := xk xb (hx rfl)
  unfold rpD at hP
  generalize hq : rfB (isN f) false y = q at hR ⊢
  cases hr : rdP xb with
  | none =>
   rw [hr] at hP
   dsimp only at hP ⊢
   rw [aX, bG, aX, bG, bG]
   repeat
    (first
     | (apply aC (hP); rfl; exact aj.refl _ _; exact enA; iterate 2 rfl) | (apply ak; iterate 3 rfl) | (apply ah; iterate 3 rfl)
     | (apply aH; iterate 6 rfl) | (apply aP; iterate 7 rfl) | (apply aA; iterate 4 rfl) | (apply aG; iterate 5 rfl)
     | (apply aK; iterate 4 rfl) | (apply bM; iterate 3 rfl) | (apply aI; rfl; exact I.a; iterate 4 rfl)
     | (apply aF (b := false); (iterate 2 rfl); exact aQ; iterate 2 rfl) | (apply bC; iterate 4 rfl)
     | (apply bH; (iterate 4 rfl); exact ixA; iterate 2 rfl)
     | (apply cZ; rfl; rfl; rfl; intro _) | apply EL.nil | (apply EC.t0; rfl) | (apply EC.f0; rfl)
     | (with_reducible first | apply EK.nc | apply EC.seq | apply EC.r0 | apply EC.k0 | apply EC.ret | apply EK.aB))
   exact EK.aW [] rfl rfl (WI _) ⟨rfl, rfl⟩
  | some pl =>
   obtain ⟨p, lf⟩ := pl
   rw [hr] at hP
   dsimp only at hP
   cases lf with
   | true =>
    clear hR hS hq
    obtain ⟨yl, yb, yx⟩ := y
    dsimp only
    rw [show isL (.mk yl yb yx) = yl from rfl, show bts (.mk yl yb yx) = yb from rfl]
    rw [aX, bG, aX, bG, aX, bG]
    cases yl with
    | true =>
     repeat
      (first
       | (apply dO; iterate 2 rfl) | (apply aC (hP); rfl; exact aj.refl _ _; exact enA; iterate 2 rfl) | (apply ak; iterate 3 rfl)
       | (apply ah; iterate 3 rfl) | (apply aH; iterate 6 rfl) | (apply aP; iterate 7 rfl) | (apply aA; iterate 4 rfl)
       | (apply aG; iterate 5 rfl) | (apply aK; iterate 4 rfl) | (apply bM; iterate 3 rfl) | (apply aI; rfl; exact I.a; iterate 4 rfl)
       | (apply aF (b := false); (iterate 2 rfl); exact aQ; iterate 2 rfl) | (apply bC; iterate 4 rfl)
       | (apply bH; (iterate 4 rfl); exact ixA; iterate 2 rfl)
       | (apply cZ; rfl; rfl; rfl; intro _) | apply EL.nil | (apply EC.t0; rfl) | (apply EC.f0; rfl)
       | (with_reducible first | apply EK.nc | apply EC.seq | apply EC.r0 | apply EC.k0 | apply EC.ret | apply EK.aB))
     exact EK.aW [] rfl rfl (WI _) ⟨rfl, rfl⟩
    | false =>
     rw [YD, XO]
     by_cases h0 : 0 < yb.length
     ·
      rw [show decide (0 < yb.length) = true by simp [h0]]
      repeat
       (first
        | (apply aC (hP); rfl; exact aj.refl _ _; exact enA; iterate 2 rfl) | (apply ak; iterate 3 rfl) | (apply ah; iterate 3 rfl)
        | (apply aH; iterate 6 rfl) | (apply aP; iterate 7 rfl) | (apply aA; iterate 4 rfl) | (apply aG; iterate 5 rfl)
        | (apply aK; iterate 4 rfl) | (apply bM; iterate 3 rfl) | (apply aI; rfl; exact I.a; iterate 4 rfl)
        | (apply aF (b := true); (iterate 2 rfl); exact aQ; iterate 2 rfl) | (apply aF (b := false); (iterate 2 rfl); exact aQ; iterate 2 rfl)
        | (apply aV; iterate 4 rfl) | (apply bC; iterate 4 rfl)
        | (apply bH; (iterate 4 rfl); exact ixA; iterate 2 rfl)
        | (apply cZ; rfl; rfl; rfl; intro _) | apply EL.nil | (apply EC.t0; rfl) | (apply EC.f0; rfl)
        | (with_reducible first | apply EK.nc | apply EC.seq | apply EC.r0 | apply EC.k0 | apply EC.ret | apply EK.aB))
      exact EK.aW [] rfl rfl (WI _) ⟨rfl, rfl⟩
     ·
      rw [show decide (0 < yb.length) = false by simp [h0]]
      have hc0 : gq .gtr (yb.length : Int) 0 = some false := by
       simp only [gq, Xw, decide_eq_false_iff_not]
       omega
      repeat
       (first
        | (apply aF (b := false); (iterate 2 rfl); exact hc0; iterate 2 rfl) | (apply aC (hP); rfl; exact aj.refl _ _; exact enA; iterate 2 rfl)
        | (apply ak; iterate 3 rfl) | (apply ah; iterate 3 rfl) | (apply aH; iterate 6 rfl) | (apply aP; iterate 7 rfl)
        | (apply aA; iterate 4 rfl) | (apply aG; iterate 5 rfl) | (apply aK; iterate 4 rfl) | (apply bM; iterate 3 rfl)
        | (apply aI; rfl; exact I.a; iterate 4 rfl) | (apply aF (b := false); (iterate 2 rfl); exact aQ; iterate 2 rfl) | (apply aV; iterate 4 rfl)
        | (apply bC; iterate 4 rfl)
        | (apply bH; (iterate 4 rfl); exact ixA; iterate 2 rfl)
        | (apply cZ; rfl; rfl; rfl; intro _) | apply EL.nil | (apply EC.t0; rfl) | (apply EC.f0; rfl)
        | (with_reducible first | apply EK.nc | apply EC.seq | apply EC.r0 | apply EC.k0 | apply EC.ret | apply EK.aB))
      exact EK.aW [] rfl rfl (WI _) ⟨rfl, rfl⟩
   | false =>
    dsimp only
    generalize (isL y && decide ((its y).length = 2)) = sh at hS ⊢
    rw [aX, bG, aX, bG, bG]
    obtain ⟨yl, yb, yx⟩ := y
    rw [aX] at hR hS ⊢
    by_cases h0 : 0 < p.length
    ·
     rw [show decide (0 < p.length) = true by simp [h0], XO]
     cases q with
     | false =>
      repeat
       (first
        | (apply dO; iterate 2 rfl) | (apply aC (hP); rfl; exact aj.refl _ _; exact enA; iterate 2 rfl)
        | (apply aC (hR); rfl; exact aj.refl _ _; exact enA; iterate 2 rfl) | (apply ak; iterate 3 rfl) | (apply ah; iterate 3 rfl)
        | (apply aH; iterate 6 rfl) | (apply aP; iterate 7 rfl) | (apply aA; iterate 4 rfl) | (apply aG; iterate 5 rfl)
        | (apply aK; iterate 4 rfl) | (apply bM; iterate 3 rfl) | (apply aI; rfl; exact I.a; iterate 4 rfl)
        | (apply aF (b := true); (iterate 2 rfl); exact aQ; iterate 2 rfl) | (apply aF (b := false); (iterate 2 rfl); exact aQ; iterate 2 rfl)
        | (apply aV; iterate 4 rfl) | (apply bC; iterate 4 rfl)
        | (apply bH; (iterate 4 rfl); exact ixA; iterate 2 rfl)
        | (apply cZ; rfl; rfl; rfl; intro _) | apply EL.nil | (apply EC.f0; rfl)
        | (with_reducible first | apply EK.nc | apply EC.seq | apply EC.r0 | apply EC.k0 | apply EC.ret))
      exact EK.aW [] rfl rfl (WI _) ⟨rfl, rfl⟩
     | true =>
      rw [XO]
      repeat
       (first
        | (apply aC (hP); rfl; exact aj.refl _ _; exact enA; iterate 2 rfl) | (apply aC (hR); rfl; exact aj.refl _ _; exact enA; iterate 2 rfl)
        | (apply aC (hS); rfl; exact aj.refl _ _; exact enA; iterate 2 rfl) | (apply ak; iterate 3 rfl) | (apply ah; iterate 3 rfl)
        | (apply aH; iterate 6 rfl) | (apply aP; iterate 7 rfl) | (apply aA; iterate 4 rfl) | (apply aG; iterate 5 rfl)
        | (apply aK; iterate 4 rfl) | (apply bM; iterate 3 rfl) | (apply aI; rfl; exact I.a; iterate 4 rfl)
        | (apply aF (b := true); (iterate 2 rfl); exact aQ; iterate 2 rfl) | (apply aF (b := false); (iterate 2 rfl); exact aQ; iterate 2 rfl)
        | (apply aV; iterate 4 rfl) | (apply bC; iterate 4 rfl)
        | (apply bH; (iterate 4 rfl); exact ixA; iterate 2 rfl)
        | (apply cZ; rfl; rfl; rfl; intro _) | apply EL.nil | (apply EC.f0; rfl)
        | (with_reducible first | apply EK.nc | apply EC.seq | apply EC.r0 | apply EC.k0 | apply EC.ret))
      exact EK.aW [] rfl rfl (WI _) ⟨rfl, rfl⟩
    ·
     rw [show decide (0 < p.length) = false by simp [h0], Yk, Yk]
     have hc0 : gq .gtr (p.length : Int) 0 = some false := by
      simp only [gq, Xw, decide_eq_false_iff_not]
      omega
     repeat
      (first
       | (apply dO; iterate 2 rfl) | (apply aF (b := false); (iterate 2 rfl); exact hc0; iterate 2 rfl)
       | (apply aC (hP); rfl; exact aj.refl _ _; exact enA; iterate 2 rfl) | (apply aC (hR); rfl; exact aj.refl _ _; exact enA; iterate 2 rfl)
       | (apply ak; iterate 3 rfl) | (apply ah; iterate 3 rfl) | (apply aH; iterate 6 rfl) | (apply aP; iterate 7 rfl)
       | (apply aA; iterate 4 rfl) | (apply aG; iterate 5 rfl) | (apply aK; iterate 4 rfl) | (apply bM; iterate 3 rfl)
       | (apply aI; rfl; exact I.a; iterate 4 rfl) | (apply aF (b := false); (iterate 2 rfl); exact aQ; iterate 2 rfl) | (apply aV; iterate 4 rfl)
       | (apply bC; iterate 4 rfl)
       | (apply bH; (iterate 4 rfl); exact ixA; iterate 2 rfl)
       | (apply cZ; rfl; rfl; rfl; intro _) | apply EL.nil | (apply EC.f0; rfl)
       | (with_reducible first | apply EK.nc | apply EC.seq | apply EC.r0 | apply EC.k0 | apply EC.ret))
     exact EK.aW [] rfl rfl (WI _) ⟨rfl, rfl⟩
theorem Gs : ∀ (f : Nat) (x : Raw), dep x < f → (Rlp.E x).length ≤ 16777225 → Fn 67 [aX x] (· = .val (.v (.bool (isN f x))))
 | 0, x, h, _ => absurd h (Nat.not_lt_zero _)
 | f + 1, .mk false b xs, _, _ => by
  rw [isN, aX]
  refine FnM.toFn ?_
  refine FnM.walk 121 Tryz.func67 rfl Tryz.ntmps67 (by simp) fun X => ?_
  repeat
   (first
    | (apply ah; iterate 3 rfl) | (apply aH; iterate 6 rfl) | (apply bM; iterate 3 rfl) | (apply aI; rfl; exact I.a; iterate 4 rfl)
    | (apply cZ; rfl; rfl; rfl; intro _) | apply EL.nil | (apply EC.t0; rfl)
    | (with_reducible first | apply EK.nc | apply EC.seq | apply EC.r0 | apply EC.ret | apply EK.aB))
  exact EK.aW [] rfl rfl (WI _) ⟨rfl, rfl⟩
 | f + 1, .mk true b xs, h, hE => by
  have ih : ∀ y ∈ xs, isL y = true → Fn 67 [aX y] (· = .val (.v (.bool (isN f y)))) := fun y hy _ => Gs f y (by have := xK hy; rw [dep] at h; omega) (XD (KH hy) hE)
  have hlx : ∀ y ∈ xs, isL y = false → (bts y).length ≤ 536870912 := fun y hy hl => by
   have h1 := KH (b := b) hy
   obtain ⟨yl, yb, yx⟩ := y
   obtain rfl : yl = false := hl
   rw [Rlp.E] at h1
   have := QL yb
   show yb.length ≤ _
   omega
  rw [isN]
  by_cases h17 : xs.length = 17
  ·
   rw [if_pos h17]
   exact ML f b xs h17 ih
  ·
   rw [if_neg h17]
   by_cases h2 : xs.length = 2
   ·
    rw [if_pos h2]
    match xs, h2 with
    | [x, y], _ => exact MK f b x y (hlx x WT) (ih y (WZ _ WT))
   ·
    rw [if_neg h2]
    have hml : (bG xs).length = xs.length := by rw [gJ, WY]
    rw [aX]
    refine FnM.toFn ?_
    refine FnM.walk 121 Tryz.func67 rfl Tryz.ntmps67 (by simp) fun X => ?_
    repeat
     (first
      | (apply dO; iterate 2 rfl) | (apply ak; iterate 3 rfl) | (apply ah; iterate 3 rfl) | (apply aH; iterate 6 rfl) | (apply aK; iterate 4 rfl)
      | (apply bM; iterate 3 rfl) | (apply aI; rfl; exact I.a; iterate 4 rfl) | (apply aF (b := true); (iterate 2 rfl); exact aQ; iterate 2 rfl)
      | (apply aF (b := false); (iterate 2 rfl); exact aQ; iterate 2 rfl) | (apply bC; iterate 4 rfl) | (apply cZ; rfl; rfl; rfl; intro _) | apply EL.nil
      | (apply EC.t0; rfl) | (apply EC.f0; rfl)
      | (with_reducible first | apply EK.nc | apply EC.seq | apply EC.r0 | apply EC.k0 | apply EC.ret | apply EK.aB))
    exact EK.aW [] rfl rfl (WI _) ⟨rfl, rfl⟩
end E
end Go.Proofs.YtelbhdobjdnglaaGreat
namespace Go.Proofs.YtelbhdobjdnglaaGreat
set_option linter.unusedVariables false
set_option maxRecDepth 20000
set_option maxHeartbeats 1000000
open Go.RowKit Mono
abbrev pF (l m : List UInt8) : Int := Lib.compareBytes l m
theorem FK : ∀ a b : List UInt8, Op.bytesLess a b = decide (pF a b < 0)
 | [], [] => rfl
 | _ :: _, [] => rfl
 | [], _ :: _ => rfl
 | a :: x, b :: y => by
  rw [Op.bytesLess, pF, Lib.compareBytes, FK x y]
  by_cases h1 : a < b
  · simp [h1]
  ·
   by_cases h2 : b < a
   ·
    have h3 : ¬ a = b := fun e => by subst e; exact h1 h2
    simp [h1, h2, h3]
   ·
    have h3 : a = b := by
     apply XR.1
     have := UInt8.not_lt.1 h1
     have := UInt8.not_lt.1 h2
     exact Nat.le_antisymm (UInt8.le_iff_toNat_le.1 (UInt8.not_lt.1 h2)) (UInt8.le_iff_toNat_le.1 (UInt8.not_lt.1 h1))
    subst h3
    simp [h1]
theorem wK {w : World} {v : Value} {l : List UInt8} (h : IsB w v l) : (Extern.Bytes.bytesOf v).run Tryz.prog w = .ok (bs l) w := by
 obtain ⟨A, c, rfl, h1, h2, hr⟩ := h
 cases A with
 | none =>
  have : l = [] := by
   by_cases hl : bvs l = []
   · simpa [bvs] using hl
   ·
    obtain ⟨b, o, e, _⟩ := hr hl
    cases e
  subst this
  rfl
 | some ad =>
  have := Lib.run_loadBytesX (P := Tryz.prog) (w := w) (l.map fun x => (x.toNat : Int)) ad .empty fun j x hx => by
   rw [Xl] at hx
   obtain ⟨y, hy, rfl⟩ := Option.map_eq_some_iff.1 hx
   obtain ⟨b, o, e, _, hc⟩ := hr (fun e => by have := congrArg List.length e; rw [bJ] at this; simp at this; rw [this] at hy; simp at hy)
   injection e with e
   subst e
   rw [eu]
   exact hc j _ (by simp [bvs, bv, hy])
  rw [WY] at this
  show (Extern.Bytes.loadBytes ad l.length .empty).run Tryz.prog w = _
  rw [this]
  have h2 : Lib.bytesOf (l.map fun x => (x.toNat : Int)) = l := by
   simp only [Lib.bytesOf, XU]
   refine (XL fun x _ => ?_).trans (List.map_id l)
   simp
  rw [h2]
  simp [bs]
theorem EO {w : World} {v u : Value} {l m : List UInt8} (h1 : IsB w v l) (h2 : IsB w u m) : (Extern.BytealgCompare.compare #[v, u]).run Tryz.prog w = .ok (.int .i64 (pF l m)) w := by
 change Sem.run Tryz.prog (do pure (goInt (Extern.BytealgCompare.cmp (← Extern.Bytes.bytesOf v) (← Extern.Bytes.bytesOf u)))) w = _
 simp only [WX, wK h1, wK h2, WV, Xc, Lib.cmp_eq]
 rfl
theorem zO (v u : Value) (l m : List UInt8) (w : World) (h1 : IsB w v l) (h2 : IsB w u m) : Calls Tryz.prog 148 #[v, u] w fun e w' => e = .returned (.int .i64 (pF l m)) ∧ w' = w := by
 have hr := EO h1 h2
 go_enter Tryz.func148, Tryz.ntmps148
 go_wp2_with fail
 rw [run_callFunc_extern Tryz.func178 (by kernel_rfl) (by kernel_rfl) (by kernel_rfl) (e := Extern.BytealgCompare.compare) (by kernel_rfl), hr]
 simp only [Result.andThen]
 rw [Oper.upon_value]
 go_wp2_with fail
 exact bodyPost_ret (results_tmp rfl _ _ _) rfl ⟨rfl, rfl⟩
theorem U3 (a b : List UInt8) : Op.bytesLess a b = decide (a < b) := Go.Proofs.bytesLess_eq a b
theorem xM (a b : List UInt8) : decide (pF a b < 0) = decide (a < b) := by rw [← FK, U3]
end Go.Proofs.YtelbhdobjdnglaaGreat
namespace Go.Proofs.YtelbhdobjdnglaaGreat
set_option linter.unusedVariables false
open Go.RowKit Mono Rlp Go.Sort
namespace E

end E
end Go.Proofs.YtelbhdobjdnglaaGreat
namespace Go.Proofs.YtelbhdobjdnglaaGreat
open Go.Shelf

end Go.Proofs.YtelbhdobjdnglaaGreat
namespace Go.Proofs.YtelbhdobjdnglaaGreat
set_option linter.unusedVariables false
open Go.RowKit Mono Rlp Go.Sort
namespace E
def dPr (x : List UInt8 × List UInt8) : D := .tup [.bs x.1, .bs x.2]
theorem Fn.QW {f : FuncId} {ds : List D} {Φ : R → Prop} (h : Fn f ds Φ) : FnM f ds [] (fun r os' => Φ r ∧ os' = []) := ⟨fun ok w xs hok hown hr => (h.go ok w xs hok hr).mono fun e w' ⟨hg, v, r, he, hΦ, hv⟩ =>
 ⟨v, r, [], he, ⟨hΦ, rfl⟩, ⟨.of hg, .nil, fun o ho => by simp at ho⟩, hv.mono (fun b hb => ⟨hb.1.elim .inl fun h => .inr (.inr h), hb.2, fun o ho => by simp at ho⟩) fun _ _ => rfl⟩⟩
def lg (x : List UInt8 × List UInt8) : Bool := decide (64 < x.1.length) || decide (1048576 < x.2.length)
abbrev Pr := List UInt8 × List UInt8
def sp (x : Pr) : Pr := (split x.1, x.2)
def srt (ps : List Pr) : List Pr := ps.mergeSort fun a b => decide (a.1 ≤ b.1)
theorem lN (ps : List Pr) : (srt ps).Perm ps := Zj _ _
theorem Hw (ps : List Pr) : (srt ps).Pairwise fun a b => a.1 ≤ b.1 := by
 have h := YZ (le := fun a b : Pr => decide (a.1 ≤ b.1)) (fun a b c h1 h2 => by simp only [decide_eq_true_eq] at h1 h2 ⊢; exact List.le_trans h1 h2) (fun a b => by simp only [Y1, decide_eq_true_eq]; exact List.le_total a.1 b.1) ps
 exact h.imp fun h => by simpa using h
def OL (l : List Pr) : R :=
 if 100000 < l.length ∨ l.any lg = true then .tpl [.v (.slice none 0 0), .v (.int .i64 3)]
 else if l.any (·.2.isEmpty) = true then .tpl [.v (.slice none 0 0), .v (.int .i64 1)]
 else if ((l.map sp).map (·.1)).Nodup then .tpl [.sl 2 ((srt (l.map sp)).map dPr), .v (.int .i64 0)]
 else .tpl [.v (.slice none 0 0), .v (.int .i64 1)]
theorem Fz {l : List Pr} (h : l.any lg = false) {x : Pr} (hx : x ∈ l) : x.1.length ≤ 64 ∧ x.2.length ≤ 1048576 := by
 have := List.any_eq_false.1 h x hx
 unfold lg at this
 simp at this
 omega
end E
end Go.Proofs.YtelbhdobjdnglaaGreat
namespace Go.Proofs.YtelbhdobjdnglaaGreat
set_option linter.unusedVariables false
open Go.RowKit Mono Rlp
namespace E
theorem uF : ∀ (at_ : Nat) (a b : List UInt8), a < b → a.take at_ = b.take at_ → a.drop at_ < b.drop at_
 | 0, a, b, h, _ => h
 | n + 1, [], [], h, _ => absurd h (List.lt_irrefl _)
 | n + 1, [], _ :: _, _, e => by simp at e
 | n + 1, _ :: _, [], h, _ => absurd h (List.not_lt_nil _)
 | n + 1, x :: a, y :: b, h, e => by
  simp only [WH, Zn] at e
  obtain ⟨rfl, e⟩ := e
  rcases List.cons_lt_cons_iff.1 h with h | ⟨_, h⟩
  · exact absurd h (by simp)
  · exact uF n a b h e
theorem sandwich : ∀ (n : Nat) (a b c : List UInt8), a ≤ b → b ≤ c → a.take n = c.take n → n ≤ a.length → b.take n = a.take n ∧ n ≤ b.length
 | 0, a, b, c, _, _, _, _ => ⟨rfl, Xo _⟩
 | n + 1, [], b, c, _, _, _, h => by simp at h
 | n + 1, x :: a, [], c, h, _, _, _ => by
  rw [← List.not_lt] at h
  exact absurd (List.nil_lt_cons x a) h
 | n + 1, x :: a, y :: b, [], _, _, e, _ => by simp at e
 | n + 1, x :: a, y :: b, z :: c, h1, h2, e, h => by
  simp only [WH, Zn] at e
  obtain ⟨rfl, e⟩ := e
  rw [List.cons_le_cons_iff] at h1 h2
  have hxy : x = y := by
   rcases h1 with h1 | ⟨h1, _⟩
   ·
    rcases h2 with h2 | ⟨h2, _⟩
    · exact absurd (UInt8.lt_trans h1 h2) (by simp)
    · exact h2.symm
   · exact h1
  subst hxy
  have h1' : a ≤ b := by
   rcases h1 with h1 | ⟨_, h1⟩
   · exact absurd h1 (by simp)
   · exact h1
  have h2' : b ≤ c := by
   rcases h2 with h2 | ⟨_, h2⟩
   · exact absurd h2 (by simp)
   · exact h2
  obtain ⟨g1, g2⟩ := sandwich n a b c h1' h2' e (by simpa using h)
  exact ⟨by rw [WH, WH, g1], by simpa using g2⟩
theorem jg : ∀ (a b : List UInt8), a.take (common a b) = b.take (common a b) ∧ common a b ≤ a.length ∧ common a b ≤ b.length
 | [], b => by simp [common]
 | _ :: _, [] => by simp [common]
 | x :: a, y :: b => by
  unfold common
  split
  ·
   rename_i h
   subst h
   obtain ⟨g1, g2, g3⟩ := jg a b
   refine ⟨by rw [WH, WH, g1], by simpa using g2, by simpa using g3⟩
  · simp
structure nM (at_ : Nat) (l : List Pr) : Prop where
 ord : l.Pairwise fun a b => a.1 < b.1
 len : ∀ x ∈ l, at_ ≤ x.1.length
 pre : ∀ x ∈ l, ∀ y ∈ l, x.1.take at_ = y.1.take at_
 nib : ∀ x ∈ l, ∀ b ∈ x.1, b.toNat < 16
theorem nM.sub {at_ : Nat} {l m : List Pr} (h : nM at_ l) (hs : m.Sublist l) : nM at_ m := ⟨h.ord.sublist hs, fun x hx => h.len x (hs.subset hx), fun x hx y hy => h.pre x (hs.subset hx) y (hs.subset hy), fun x hx => h.nib x (hs.subset hx)⟩
theorem nM.longer {at_ : Nat} {x : Pr} {r : List Pr} (h : nM at_ (x :: r)) {y : Pr} (hy : y ∈ r) : at_ < y.1.length := by
 have h1 := h.len y (WZ _ hy)
 rcases Xx at_ y.1.length with h2 | h2
 · exact h2
 ·
  exfalso
  have h3 := uF at_ x.1 y.1 ((Yc.1 h.ord).1 y hy) (h.pre _ WT _ (WZ _ hy))
  rw [Xt h2] at h3
  exact List.not_lt_nil _ h3
def lW (at_ : Nat) (x : Pr) : UInt8 := x.1.getD at_ 0
theorem FB {at_ : Nat} {x : Pr} (h : at_ < x.1.length) : x.1[at_]? = some (lW at_ x) := by
 unfold lW
 rw [List.getElem?_eq_getElem h, List.getD_eq_getElem?_getD, List.getElem?_eq_getElem h]
 rfl
theorem nM.mono {at_ : Nat} {l : List Pr} (h : nM at_ l) (hl : ∀ x ∈ l, at_ < x.1.length) {i j : Nat} (hi : i < l.length) (hj : j < l.length) (hij : i ≤ j) : (lW at_ l[i]).toNat ≤ (lW at_ l[j]).toNat := by
 rcases Xx i j with h1 | h1
 ·
  have h2 := Yu.1 h.ord i j hi hj h1
  have h3 := uF at_ _ _ h2 (h.pre _ (XH hi) _ (XH hj))
  have e1 := hl _ (XH hi)
  have e2 := hl _ (XH hj)
  rw [Xn e1, Xn e2] at h3
  have e3 : lW at_ l[i] = l[i].1[at_] := by unfold lW; rw [List.getD_eq_getElem?_getD, List.getElem?_eq_getElem e1]; rfl
  have e4 : lW at_ l[j] = l[j].1[at_] := by unfold lW; rw [List.getD_eq_getElem?_getD, List.getElem?_eq_getElem e2]; rfl
  rw [e3, e4]
  rcases List.cons_lt_cons_iff.1 h3 with h4 | ⟨h4, _⟩
  · exact Nat.le_of_lt (Xe.1 h4)
  ·
   rw [h4]
   exact Nat.le_refl _
 ·
  obtain rfl : i = j := by omega
  exact Nat.le_refl _
def bdF : Nat → List Pr → Nat → Tn
 | 0, _, _ => .nil
 | f + 1, l, at_ => match l with
  | [] => .nil
  | [x] => .leaf (x.1.drop at_) x.2
  | x :: y :: r =>
   if common (x.1.drop at_) (((y :: r).getLast (by simp)).1.drop at_) > 0 then
    .ext ((x.1.drop at_).take (common (x.1.drop at_) (((y :: r).getLast (by simp)).1.drop at_))) (bdF f (x :: y :: r) (at_ + common (x.1.drop at_) (((y :: r).getLast (by simp)).1.drop at_)))
   else if (x.1.drop at_).length = 0 then .br (fun d => bdF f ((y :: r).filter fun z => (lW at_ z).toNat == d) (at_ + 1)) x.2
   else .br (fun d => bdF f ((x :: y :: r).filter fun z => (lW at_ z).toNat == d) (at_ + 1)) []
theorem nM.vN {at_ : Nat} {l : List Pr} (h : nM at_ l) {i j : Nat} (hi : i < l.length) (hj : j < l.length) (hij : i ≤ j) : l[i].1.drop at_ ≤ l[j].1.drop at_ := by
 rcases Xx i j with h1 | h1
 · exact List.le_of_lt (uF at_ _ _ (Yu.1 h.ord i j hi hj h1) (h.pre _ (XH hi) _ (XH hj)))
 ·
  obtain rfl : i = j := by omega
  exact List.le_refl _
theorem nM.more {at_ n : Nat} {l : List Pr} (h : nM at_ l) (h0 : 0 < l.length) (hn : n = common (l[0].1.drop at_) (l[l.length - 1].1.drop at_)) : nM (at_ + n) l := by
 obtain ⟨c1, c2, c3⟩ := jg (l[0].1.drop at_) (l[l.length - 1].1.drop at_)
 rw [← hn] at c1 c2 c3
 have key : ∀ x ∈ l, (x.1.drop at_).take n = (l[0].1.drop at_).take n ∧ n ≤ (x.1.drop at_).length := fun x hx => by
  obtain ⟨i, hi, rfl⟩ := List.getElem_of_mem hx
  exact sandwich n _ _ _ (h.vN h0 hi (Xo _)) (h.vN hi (by omega) (by omega)) c1 c2
 refine ⟨h.ord, fun x hx => ?_, fun x hx y hy => ?_, h.nib⟩
 ·
  have h1 := (key x hx).2
  have h2 := h.len x hx
  rw [W9] at h1
  omega
 · rw [List.take_add, List.take_add, h.pre x hx y hy, (key x hx).1, (key y hy).1]
theorem Qr (f at_ : Nat) : bdF f [] at_ = .nil := by cases f <;> rfl
theorem Qq (f at_ : Nat) (x : Pr) : bdF (f + 1) [x] at_ = .leaf (x.1.drop at_) x.2 := rfl
theorem U5 (f at_ : Nat) (l : List Pr) (h : 1 < l.length) (hn : common (l[0].1.drop at_) (l[l.length - 1].1.drop at_) > 0) : bdF (f + 1) l at_ = .ext ((l[0].1.drop at_).take (common (l[0].1.drop at_) (l[l.length - 1].1.drop at_))) (bdF f l (at_ + common (l[0].1.drop at_) (l[l.length - 1].1.drop at_))) := by
 match l, h with
 | x :: y :: r, _ =>
  have e : (y :: r).getLast (by simp) = (x :: y :: r)[(x :: y :: r).length - 1] := by rw [List.getLast_eq_getElem]; simp
  rw [bdF, e]
  exact if_pos hn
theorem U7 (f at_ : Nat) (l : List Pr) (h : 1 < l.length) (hn : ¬ common (l[0].1.drop at_) (l[l.length - 1].1.drop at_) > 0) (h0 : (l[0].1.drop at_).length = 0) : bdF (f + 1) l at_ = .br (fun d => bdF f (l.tail.filter fun z => (lW at_ z).toNat == d) (at_ + 1)) l[0].2 := by
 match l, h with
 | x :: y :: r, _ =>
  have e : (y :: r).getLast (by simp) = (x :: y :: r)[(x :: y :: r).length - 1] := by rw [List.getLast_eq_getElem]; simp
  rw [bdF, e]
  exact (if_neg hn).trans (if_pos h0)
theorem U6 (f at_ : Nat) (l : List Pr) (h : 1 < l.length) (hn : ¬ common (l[0].1.drop at_) (l[l.length - 1].1.drop at_) > 0) (h0 : ¬ (l[0].1.drop at_).length = 0) : bdF (f + 1) l at_ = .br (fun d => bdF f (l.filter fun z => (lW at_ z).toNat == d) (at_ + 1)) [] := by
 match l, h with
 | x :: y :: r, _ =>
  have e : (y :: r).getLast (by simp) = (x :: y :: r)[(x :: y :: r).length - 1] := by rw [List.getLast_eq_getElem]; simp
  rw [bdF, e]
  exact (if_neg hn).trans (if_neg h0)
section
variable {N : Nat} {X : Cx N} {S : St} {ops : Array Oper} {o : Oper} {Q : Exit → Act → World → Prop} {l : List Oper} {TT : St → List Fr → Prop} {EE : List Fr} {rs : List (Tmp × R)} {os : List Obj} {fs : List (Value × D)}
theorem Le.Wp {g : Nat} {t : TypeId} {d d' : D} (h : Refine fs d d') : Le X ⟨rs, .var g t d :: os, fs⟩ ⟨rs, .var g t d' :: os, fs⟩ := fun a w ha => by
 have hok : ∀ b, X.ok (.var g t d :: os) w b ↔ X.ok (.var g t d' :: os) w b := fun b => ⟨fun hb => ⟨hb.1, hb.2.1, fun o ho => by
   rcases Xb.1 ho with rfl | ho
   · exact hb.2.2 (.var g t d) WT
   · exact hb.2.2 o (WZ _ ho)⟩, fun hb => ⟨hb.1, hb.2.1, fun o ho => by
   rcases Xb.1 ho with rfl | ho
   · exact hb.2.2 (.var g t d') WT
   · exact hb.2.2 o (WZ _ ho)⟩⟩
 have hap := Yc.1 ha.mem.apart
 have hf : ∀ f ∈ fs, Reads (X.ok (.var g t d' :: os) w) w f.2 [f.1] := fun f hf => Reads.mono (fun b hb => (hok b).1 hb) (fun _ _ => rfl) _ _ (ha.mem.fact f hf)
 refine ⟨⟨ha.mem.gr, Yc.2 ⟨fun p hp b e => hap.1 p hp b e, hap.2⟩, fun o ho => ?_, hf⟩, fun t' r hr => (ha.regs t' r hr).mono (fun b hb => (hok b).1 hb) fun _ _ => rfl, ha.size, ha.defers⟩
 rcases Xb.1 ho with rfl | ho
 ·
  obtain ⟨h1, cs, h2, h3⟩ := ha.mem.at_ (.var g t d) WT
  exact ⟨h1, cs, h2, (Refine.reads hf _ _ _ h (Reads.mono (fun b hb => (hok b).1 hb) (fun _ _ => rfl) _ _ h3)).1⟩
 · exact (ha.mem.at_ o (WZ _ ho)).move (fun b hb => (hok b).1 hb) (fun _ _ => rfl) fun _ _ => rfl
end
theorem Ew : ∀ (ds : List D) (k : Nat) (d : D), (∀ e ∈ ds, e.size = 1 ∧ e.agg = false ∧ ∀ u, u.size = 1 → u.agg = false → e.upd 0 u = some u) → k < ds.length → d.size = 1 → d.agg = false → D.vg ds k d = some (ds.set k d)
 | [], k, d, _, h, _, _ => by simp at h
 | e :: ds, 0, d, he, h, h1, h2 => by
  obtain ⟨e1, e2, e3⟩ := he e (by simp)
  rw [D.vg, if_pos (by omega), e3 d h1 h2]
  rfl
 | e :: ds, k + 1, d, he, h, h1, h2 => by
  obtain ⟨e1, e2, e3⟩ := he e (by simp)
  rw [D.vg, if_neg (by omega), e1, Y2, Ew ds k d (fun x hx => he x (by simp [hx])) (by simpa using h) h1 h2]
  rfl
theorem Qw {at_ : Nat} {l : List Pr} (h : nM at_ l) (h0 : 0 < l.length) (hf : at_ < (l[0]'h0).1.length) : ∀ z ∈ l, at_ < z.1.length := by
 cases l with
 | nil => simp at h0
 | cons x r =>
  intro z hz
  rcases Xb.1 hz with rfl | hz
  · exact hf
  · exact h.longer hz
end E
end Go.Proofs.YtelbhdobjdnglaaGreat
