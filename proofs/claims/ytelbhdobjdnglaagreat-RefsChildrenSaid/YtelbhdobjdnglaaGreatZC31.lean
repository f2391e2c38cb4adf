/-
 Merged: lemmas of this claim.
 Conditions: none.
-/
import Derived.Test.YtelbhdobjdnglaaGreatZC26
import Derived.Test.YtelbhdobjdnglaaGreatZC19
import Derived.Test.YtelbhdobjdnglaaGreatZC30
import Derived.Test.YtelbhdobjdnglaaGreatZC12
import Derived.Test.YtelbhdobjdnglaaGreatZC7
import Derived.Test.YtelbhdobjdnglaaGreatZC17
import Derived.Test.YtelbhdobjdnglaaGreatZC13
import Derived.Test.YtelbhdobjdnglaaGreatZC0
namespace Go.Proofs.YtelbhdobjdnglaaGreat
set_option linter.unusedVariables false
set_option maxRecDepth 20000
set_option maxHeartbeats 16000000
open Go.RowKit Mono Rlp
namespace E
theorem Ns (b : List UInt8) (hb : b.length = 32) : Fn 164 [.bs b] (· = .val (.arr 32 b)) := by
 refine Fn.walk 8 Tryz.func164 rfl Tryz.ntmps164 (by simp) fun X => ?_
 repeat
  (first
   | (apply Tj xE; iterate 3 rfl) | (apply Jq 0 hb; iterate 8 rfl) | (apply ak; iterate 3 rfl) | (apply aI; rfl; exact I.a; iterate 4 rfl)
   | (apply aT; rfl; rfl; rfl; intro _) | (apply aO; rfl; exact saA; iterate 4 rfl) | apply EL.nil
   | (with_reducible first | apply EK.nc | apply EC.seq | apply EC.r0 | apply EC.ret))
 refine EK.yJ 1 rfl rfl rfl rfl ?_ rfl
 (exact RL.a)
theorem KA (b : List UInt8) (v : Value) (out : List (List UInt8)) (hl : out.length ≤ 1099511627776) : FnM 119 [.bs b, .v v] [wdO v out] (fun r os' => ∃ v', r = .val (.v v') ∧ os' = [wdO v' (out ++ lead b)]) := by
 have hR := Gm b
 have hE := Gn
 have hOm : (out.map (D.arr 32)).length = out.length := WY _
 unfold rbR at hR
 unfold lead
 refine FnM.walk 25 Tryz.func119 rfl Tryz.ntmps119 (by simp) fun X => ?_
 cases hb : bdB b with
 | none =>
  rw [hb] at hR
  rw [XB]
  repeat
   (first
    | (apply aC (hR); rfl; exact aj.refl _ _; exact enA; iterate 2 rfl) | (apply ak; iterate 3 rfl) | (apply ah; iterate 3 rfl)
    | (apply aA; iterate 4 rfl) | (apply aT; rfl; rfl; rfl; intro _)
    | (apply aO; rfl; exact saA; iterate 4 rfl) | apply EL.nil
    | (with_reducible first | apply EK.nc | apply EC.seq | apply EC.r0))
  refine EC.draw 7 (by kernel_rfl) ?_
  simp only [WH, WO, WG, WM]
  repeat
   (first
    | (apply tZ; iterate 2 rfl) | (apply bV; iterate 3 rfl) | (apply jr; iterate 4 rfl) | ((with_reducible apply EH.nil); rfl))
  repeat
   (first
    | (apply ak; iterate 3 rfl) | (apply ah; iterate 3 rfl) | apply EL.nil | (apply EC.f0; rfl)
    | (with_reducible first | apply EK.nc | apply EC.seq | apply EC.r0 | apply EC.k0 | apply EC.ret))
  exact EK.aW [wdO v out] rfl rfl (by (repeat first | exact WI _ | apply List.Sublist.cons_cons | apply List.Sublist.cons)) ⟨v, rfl, rfl⟩
 | some q =>
  obtain ⟨n, w, r, c⟩ := q
  rw [hb] at hR
  dsimp only [dBo] at hR
  unfold dBd at hR
  have hw := (oH r iY).2
  dsimp only
  by_cases hr : r = iY
  ·
   rw [if_pos hr]
   rw [show (r != iY) = false by simp [hr]] at hw
   rw [XB]
   clear hr
   generalize iY = r0 at *
   repeat
    (first
     | (apply aC (hR); rfl; exact aj.refl _ _; exact enA; iterate 2 rfl) | (apply ak; iterate 3 rfl) | (apply ah; iterate 3 rfl)
     | (apply aA; iterate 4 rfl) | (apply aT; rfl; rfl; rfl; intro _)
     | (apply aO; rfl; exact saA; iterate 4 rfl) | apply EL.nil
     | (with_reducible first | apply EK.nc | apply EC.seq | apply EC.r0))
   refine EC.draw 7 (by kernel_rfl) ?_
   simp only [WH, WO, WG, WM]
   repeat
    (first
     | (apply jv (hE); rfl; exact aj.refl _ _; exact enA; iterate 2 rfl) | (apply kV; (iterate 2 rfl); exact hw; iterate 2 rfl) | (apply bV; iterate 3 rfl)
     | (apply dJ; iterate 6 rfl) | (apply jr; iterate 4 rfl) | (apply dP; rfl; exact I.a; iterate 4 rfl) | ((with_reducible apply EH.nil); rfl))
   repeat
    (first
     | (apply ak; iterate 3 rfl) | (apply ah; iterate 3 rfl) | apply EL.nil | (apply EC.f0; rfl)
     | (with_reducible first | apply EK.nc | apply EC.seq | apply EC.r0 | apply EC.k0 | apply EC.ret))
   exact EK.aW [wdO v out] rfl rfl (by (repeat first | exact WI _ | apply List.Sublist.cons_cons | apply List.Sublist.cons)) ⟨v, rfl, rfl⟩
  ·
   rw [if_neg hr]
   rw [show (r != iY) = true by simp [hr]] at hw
   have hom : out.map (D.arr 32) ++ [D.arr 32 r] = (out ++ [r]).map (D.arr 32) := by rw [XK]; rfl
   clear hr
   generalize iY = r0 at *
   repeat
    (first
     | (apply aC (hR); rfl; exact aj.refl _ _; exact enA; iterate 2 rfl) | (apply ak; iterate 3 rfl) | (apply ah; iterate 3 rfl)
     | (apply aA; iterate 4 rfl) | (apply aT; rfl; rfl; rfl; intro _)
     | (apply aO; rfl; exact saA; iterate 4 rfl) | apply EL.nil
     | (with_reducible first | apply EK.nc | apply EC.seq | apply EC.r0))
   refine EC.draw 7 (by kernel_rfl) ?_
   simp only [WH, WO, WG, WM]
   repeat
    (first
     | (apply jv (hE); rfl; exact aj.refl _ _; exact enA; iterate 2 rfl) | (apply kV; (iterate 2 rfl); exact hw; iterate 2 rfl) | (apply bV; iterate 3 rfl)
     | (apply dJ; iterate 6 rfl) | (apply jr; iterate 4 rfl) | (apply dP; rfl; exact I.a; iterate 4 rfl) | ((with_reducible apply EH.nil); rfl))
   repeat
    (first
     | (apply ak; iterate 3 rfl) | (apply ah; iterate 3 rfl) | (apply aH; iterate 6 rfl) | (apply aI; rfl; exact I.a; iterate 4 rfl)
     | (apply mG; iterate 9 rfl)
     | ((apply jB; rfl; exact saA; (iterate 5 rfl); (focus (constructor <;> (first | (simp; done) | (simp; omega))))); intro _)
     | apply EL.nil | (apply EC.t0; rfl) | (with_reducible first | apply EK.nc | apply EC.seq | apply EC.r0 | apply EC.ret | apply EK.aB))
   rename_i v'
   simp only [hom]
   exact EK.aW [wdO v' (out ++ [r])] rfl rfl (by (repeat first | exact WI _ | apply List.Sublist.cons_cons | apply List.Sublist.cons)) ⟨v', rfl, rfl⟩
abbrev ChR (x : Raw) (m : List (List UInt8)) : Prop := ∀ (v : Value) (out : List (List UInt8)), out.length + m.length ≤ 1099511627776 → FnM 68 [aX x, .v v] [wdO v out] (fun r os' => ∃ v', r = .val (.v v') ∧ os' = [wdO v' (out ++ m)])
theorem Qs (x : Raw) (N : Raw → List (List UInt8)) (H : isL x = true → ChR x (N x)) (v : Value) (out : List (List UInt8)) (hl : out.length + (kN N x).length ≤ 1099511627776) : FnM 118 [aX x, .v v] [wdO v out] (fun r os' => ∃ v', r = .val (.v v') ∧ os' = [wdO v' (out ++ kN N x)]) := by
 have hOm : (out.map (D.arr 32)).length = out.length := WY _
 obtain ⟨l, b, xs⟩ := x
 unfold kN at hl ⊢
 rw [show isL (.mk l b xs) = l from rfl, show bts (.mk l b xs) = b from rfl] at *
 cases l with
 | true =>
  rw [if_pos rfl] at hl ⊢
  have hC := H rfl v out hl
  generalize N (.mk true b xs) = m at *
  clear H
  rw [aX] at hC ⊢
  refine FnM.walk 21 Tryz.func118 rfl Tryz.ntmps118 (by simp) fun X => ?_
  repeat
   (first
    | (apply ak; iterate 3 rfl) | (apply ah; iterate 3 rfl) | (apply aH; iterate 6 rfl) | (apply aI; rfl; exact I.a; iterate 4 rfl)
    | (apply cZ; rfl; rfl; rfl; intro _) | apply EL.nil | (apply EC.t0; rfl)
    | (with_reducible first | apply EK.nc | apply EC.seq | apply EC.r0))
  refine EL.le (Le.pick [1, 0] [_, _] rfl (by decide) rfl) ?_
  refine dD (os := [wdO v out]) hC rfl rfl (aj.refl _ _) (by intro _ _; simp [go_sem]) rfl rfl ?_
  rintro _ _ ⟨v', rfl, rfl⟩
  simp only [WL, WJ]
  repeat
   (first
    | (apply ah; iterate 3 rfl) | apply EL.nil | (with_reducible first | apply EK.nc | apply EC.ret | apply EK.aB))
  exact EK.aW [wdO v' (out ++ m)] rfl rfl (by (repeat first | exact WI _ | apply List.Sublist.cons_cons | apply List.Sublist.cons)) ⟨v', rfl, rfl⟩
 | false =>
  rw [if_neg Bool.false_ne_true] at hl ⊢
  clear H
  rw [aX]
  refine FnM.walk 21 Tryz.func118 rfl Tryz.ntmps118 (by simp) fun X => ?_
  by_cases h32 : b.length = 32
  ·
   rw [if_pos h32] at hl ⊢
   have hW := Ns b h32
   rw [List.length_singleton] at hl
   have hom : out.map (D.arr 32) ++ [D.arr 32 b] = (out ++ [b]).map (D.arr 32) := by rw [XK]; rfl
   repeat
    (first
     | (apply aC (hW); rfl; exact aj.refl _ _; exact enA; iterate 2 rfl) | (apply ak; iterate 3 rfl) | (apply ah; iterate 3 rfl)
     | (apply aH; iterate 6 rfl) | (apply aI; rfl; exact I.a; iterate 4 rfl) | (apply aF (b := true); (iterate 2 rfl); exact aQ; iterate 2 rfl)
     | (apply aV; iterate 4 rfl) | (apply mG; iterate 9 rfl) | (apply cZ; rfl; rfl; rfl; intro _)
     | ((apply jB; rfl; exact saA; (iterate 5 rfl); (focus (constructor <;> (first | (simp; done) | (simp; omega))))); intro _)
     | apply EL.nil | (apply EC.t0; rfl) | (apply EC.f0; rfl)
     | (with_reducible first | apply EK.nc | apply EC.seq | apply EC.r0 | apply EC.k0 | apply EC.ret | apply EK.aB))
   rename_i v'
   simp only [hom]
   exact EK.aW [wdO v' (out ++ [b])] rfl rfl (by (repeat first | exact WI _ | apply List.Sublist.cons_cons | apply List.Sublist.cons)) ⟨v', rfl, rfl⟩
  ·
   rw [if_neg h32, XB]
   have hc : gq .eql (b.length : Int) 32 = some false := by
    simp only [gq, Xw, beq_eq_false_iff_ne]
    omega
   repeat
    (first
     | (apply aF (b := false); (iterate 2 rfl); exact hc; iterate 2 rfl) | (apply ak; iterate 3 rfl) | (apply ah; iterate 3 rfl)
     | (apply aH; iterate 6 rfl) | (apply aI; rfl; exact I.a; iterate 4 rfl) | (apply aV; iterate 4 rfl) | (apply cZ; rfl; rfl; rfl; intro _)
     | apply EL.nil | (apply EC.f0; rfl) | (with_reducible first | apply EK.nc | apply EC.seq | apply EC.r0 | apply EC.k0 | apply EC.ret))
   exact EK.aW [wdO v out] rfl rfl (by (repeat first | exact WI _ | apply List.Sublist.cons_cons | apply List.Sublist.cons)) ⟨v, rfl, rfl⟩
theorem PI {α β : Type} (g : α → List β) (l : List α) (i : Nat) : ((l.take i).flatMap g).length ≤ (l.flatMap g).length := by
 have h := congrArg (fun l => (l.flatMap g).length) (XE i l)
 simp only [YW, List.length_append] at h
 omega
theorem Ef (b : List UInt8) (xs : List Raw) (N : Raw → List (List UInt8)) (h17 : xs.length = 17) (H : ∀ y ∈ xs.take 16, isL y = true → ChR y (N y)) : ChR (.mk true b xs) ((xs.take 16).flatMap (kN N) ++ lead (bts (xs.getD 16 jw))) := by
 intro v out hl
 have hml : (bG xs).length = 17 := by rw [gJ, WY, h17]
 have hat : ∀ k, (hk : k < xs.length) → (bG xs)[k]? = some (aX xs[k]) := fun k hk => by rw [gJ, Xl, List.getElem?_eq_getElem hk]; rfl
 have h16 := hat 16 (by omega)
 rw [getD_mem (show 16 < xs.length by omega)] at hl ⊢
 rw [List.length_append] at hl
 have hpre := PI (kN N) (xs.take 16)
 rw [aX]
 generalize hDs : bG xs = Ds at hml hat h16 ⊢
 refine FnM.walk 55 Tryz.func68 rfl Tryz.ntmps68 (by simp) fun X => ?_
 repeat
  (first
   | (apply ah; iterate 3 rfl) | (apply aH; iterate 6 rfl) | (apply aI; rfl; exact I.a; iterate 4 rfl)
   | (apply aF (b := true); (iterate 2 rfl); exact aQ; iterate 2 rfl) | (apply bC; iterate 4 rfl) | (apply cZ; rfl; rfl; rfl; intro _) | apply EL.nil
   | (apply EC.t0; rfl) | (with_reducible first | apply EK.nc | apply EC.seq | apply EC.r0 | apply EC.b0))
 rename_i g
 refine EC.le (Le.pick [1, 0] [_, _] rfl (by decide) rfl) ?_
 refine EC.loop (ι := {x : Nat × Value // x.1 ≤ 16})
  (fun x => ⟨[(5, .val (.v (.int .i64 (x.1.1 : Int)))), (1, .val (.v x.1.2)), (2, .val (.v (.pointer (some ⟨g, 0, none⟩))))], [wdO x.1.2 (out ++ (xs.take x.1.1).flatMap (kN N)), .var g 138 (.tup [.v (.bool true), .bs b, .sl 3 Ds])], []⟩)
  (fun x => 16 - x.1.1) ⟨(0, v), Xo _⟩ ?_ ?_
 ·
  dsimp only
  rw [WO, List.flatMap_nil, XB]
  exact Le.kp
 rintro ⟨⟨k, vk⟩, hk⟩
 dsimp only at hk ⊢
 by_cases hlt : k < 16
 ·
  have hkx : k < xs.length := by omega
  have hd := hat k hkx
  have htk : (xs.take (k + 1)).flatMap (kN N) = (xs.take k).flatMap (kN N) ++ kN N xs[k] := by
   rw [Xa hkx, YW, List.flatMap_cons, List.flatMap_nil, XB]
  have hp := hpre (k + 1)
  rw [List.take_take, Y3 (by omega), htk, List.length_append] at hp
  have hm : xs[k] ∈ xs.take 16 := List.mem_iff_getElem.2 ⟨k, by rw [Xi]; omega, by rw [List.getElem_take]⟩
  have hR := Qs xs[k] N (H _ hm) vk (out ++ (xs.take k).flatMap (kN N)) (by rw [List.length_append]; omega)
  rw [Xp, ← htk] at hR
  generalize xs[k] = y at hd hR
  obtain ⟨yl, yb, yx⟩ := y
  rw [aX] at hd hR
  repeat
   (first
    | (apply bH (d := .tup [.v (.bool yl), .bs yb, .sl 3 (bG yx)]); (iterate 4 rfl); exact ⟨by omega, by rw [Xy]; exact hd⟩; iterate 2 rfl)
    | (apply ak; iterate 3 rfl) | (apply aH; iterate 6 rfl) | (apply aG; iterate 5 rfl) | (apply aI; rfl; exact I.a; iterate 4 rfl)
    | (apply aF (b := true); (iterate 2 rfl); exact aQ; iterate 2 rfl) | apply EL.nil | (apply EC.t0; rfl)
    | (with_reducible first | apply EK.nc | apply EC.seq | apply EC.r0 | apply EC.k0 | apply EC.b0))
  refine dD (os := [wdO vk (out ++ (xs.take k).flatMap (kN N))]) hR rfl rfl (aj.refl _ _) (by intro _ _; simp [go_sem]) rfl rfl ?_
  rintro _ _ ⟨v2, rfl, rfl⟩
  simp only [WL, WJ]
  repeat
   (first
    | (apply ak; iterate 3 rfl) | (apply ah; iterate 3 rfl) | (apply jM; (iterate 3 rfl); (focus omega); (focus omega); iterate 2 rfl) | apply EL.nil
    | (with_reducible first | apply EK.nc | apply EC.r0 | apply EK.n0))
  refine EK.again ⟨(k + 1, v2), hlt⟩ (by dsimp only; omega) ?_
  simp only [XA]
  exact Le.kp
 ·
  obtain rfl : k = 16 := by omega
  have hV := KA (bts xs[16]) vk (out ++ (xs.take 16).flatMap (kN N)) (by rw [List.length_append]; omega)
  rw [Xp] at hV
  generalize xs[16] = y at h16 hV ⊢
  obtain ⟨yl, yb, yx⟩ := y
  rw [show bts (.mk yl yb yx) = yb from rfl] at hV ⊢
  rw [aX] at h16
  repeat
   (first
    | (apply bH (d := .tup [.v (.bool yl), .bs yb, .sl 3 (bG yx)]); (iterate 4 rfl); exact ⟨by decide, h16⟩; iterate 2 rfl) | (apply ak; iterate 3 rfl)
    | (apply aH; iterate 6 rfl) | (apply aP; iterate 7 rfl) | (apply aG; iterate 5 rfl) | (apply aI; rfl; exact I.a; iterate 4 rfl)
    | (apply aF (b := false); (iterate 2 rfl); exact aQ; iterate 2 rfl) | apply EL.nil | (apply EC.f0; rfl)
    | (with_reducible first | apply EK.nc | apply EC.seq | apply EC.r0 | apply EC.x0 | apply EK.s0 | apply EK.aJ))
  refine dD (os := [wdO vk (out ++ (xs.take 16).flatMap (kN N))]) hV rfl rfl (aj.refl _ _) (by intro _ _; simp [go_sem]) rfl rfl ?_
  rintro _ _ ⟨v2, rfl, rfl⟩
  simp only [WL, WJ]
  repeat
   (first
    | (apply ah; iterate 3 rfl) | apply EL.nil | (with_reducible first | apply EK.nc | apply EC.ret | apply EK.aB))
  exact EK.aW [wdO v2 (out ++ ((xs.take 16).flatMap (kN N) ++ lead yb))] rfl rfl (by (repeat first | exact WI _ | apply List.Sublist.cons_cons | apply List.Sublist.cons)) ⟨v2, rfl, rfl⟩
theorem GN (b ab : List UInt8) (ax : List Raw) (c : Raw) (N : Raw → List (List UInt8)) (p : List UInt8) (lf : Bool) (hab : ab.length ≤ 536870912) (hr : rdP ab = some (p, lf)) (H : lf = false → isL c = true → ChR c (N c)) : ChR (.mk true b [.mk false ab ax, c]) (if lf then lead (bts c) else kN N c) := by
 intro v out hl
 have hP := xk ab hab
 unfold rpD at hP
 rw [hr] at hP
 dsimp only at hP
 cases lf with
 | true =>
  rw [if_pos rfl] at hl ⊢
  have hV := KA (bts c) v out (by omega)
  obtain ⟨cl, cb, cx⟩ := c
  rw [show bts (.mk cl cb cx) = cb from rfl] at *
  simp only [aX, bG]
  refine FnM.walk 55 Tryz.func68 rfl Tryz.ntmps68 (by simp) fun X => ?_
  repeat
   (first
    | (apply aC (hP); rfl; exact aj.refl _ _; exact enA; iterate 2 rfl) | (apply ak; iterate 3 rfl) | (apply ah; iterate 3 rfl)
    | (apply aH; iterate 6 rfl) | (apply aP; iterate 7 rfl) | (apply aA; iterate 4 rfl) | (apply aG; iterate 5 rfl)
    | (apply aI; rfl; exact I.a; iterate 4 rfl) | (apply aF (b := false); (iterate 2 rfl); exact aQ; iterate 2 rfl) | (apply bC; iterate 4 rfl)
    | (apply bH; (iterate 4 rfl); exact ixA; iterate 2 rfl)
    | (apply cZ; rfl; rfl; rfl; intro _) | apply EL.nil | (apply EC.t0; rfl) | (apply EC.f0; rfl)
    | (with_reducible first | apply EK.nc | apply EC.seq | apply EC.r0 | apply EC.k0))
  refine EL.le (Le.pick [1, 0] [_, _] rfl (by decide) rfl) ?_
  refine dD (os := [wdO v out]) hV rfl rfl (aj.refl _ _) (by intro _ _; simp [go_sem]) rfl rfl ?_
  rintro _ _ ⟨v2, rfl, rfl⟩
  simp only [WL, WJ]
  repeat
   (first
    | (apply ah; iterate 3 rfl) | apply EL.nil | (with_reducible first | apply EK.nc | apply EC.ret | apply EK.aB))
  exact EK.aW [wdO v2 (out ++ lead cb)] rfl rfl (by (repeat first | exact WI _ | apply List.Sublist.cons_cons | apply List.Sublist.cons)) ⟨v2, rfl, rfl⟩
 | false =>
  rw [if_neg Bool.false_ne_true] at hl ⊢
  have hR := Qs c N (H rfl) v out hl
  generalize kN N c = m at *
  obtain ⟨cl, cb, cx⟩ := c
  simp only [aX, bG] at hR ⊢
  refine FnM.walk 55 Tryz.func68 rfl Tryz.ntmps68 (by simp) fun X => ?_
  repeat
   (first
    | (apply aC (hP); rfl; exact aj.refl _ _; exact enA; iterate 2 rfl) | (apply ak; iterate 3 rfl) | (apply ah; iterate 3 rfl)
    | (apply aH; iterate 6 rfl) | (apply aP; iterate 7 rfl) | (apply aA; iterate 4 rfl) | (apply aG; iterate 5 rfl)
    | (apply aI; rfl; exact I.a; iterate 4 rfl) | (apply aF (b := false); (iterate 2 rfl); exact aQ; iterate 2 rfl) | (apply bC; iterate 4 rfl)
    | (apply bH; (iterate 4 rfl); exact ixA; iterate 2 rfl)
    | (apply cZ; rfl; rfl; rfl; intro _) | apply EL.nil | (apply EC.f0; rfl)
    | (with_reducible first | apply EK.nc | apply EC.seq | apply EC.r0 | apply EC.k0))
  refine EL.le (Le.pick [1, 0] [_, _] rfl (by decide) rfl) ?_
  refine dD (os := [wdO v out]) hR rfl rfl (aj.refl _ _) (by intro _ _; simp [go_sem]) rfl rfl ?_
  rintro _ _ ⟨v2, rfl, rfl⟩
  simp only [WL, WJ]
  repeat
   (first
    | (apply ah; iterate 3 rfl) | apply EL.nil | ((with_reducible apply EK.h0); apply EK.code) | (with_reducible apply EC.ret))
  exact EK.aW [wdO v2 (out ++ m)] rfl rfl (by (repeat first | exact WI _ | apply List.Sublist.cons_cons | apply List.Sublist.cons)) ⟨v2, rfl, rfl⟩
theorem tN : ∀ (f : Nat) (x : Raw), Gd x → isN f x = true → ChR x (chR f x)
 | 0, x, _, h => by rw [isN] at h; cases h
 | _ + 1, .mk false _ _, _, h => by rw [isN] at h; cases h
 | f + 1, .mk true b xs, hx, h => by
  rw [isN] at h
  rw [chR, show its (.mk true b xs) = xs from rfl]
  have hR : ∀ {n : Bool} {y : Raw}, rfB (isN f) n y = true → isL y = true → isN f y = true := fun {n y} h hl => by
   obtain ⟨yl, yb, yx⟩ := y
   obtain rfl : yl = true := hl
   rw [uj] at h
   simp only [XG] at h
   exact h.2
  by_cases h17 : xs.length = 17
  ·
   rw [if_pos h17] at h ⊢
   unfold brB at h
   simp only [XG] at h
   exact Ef b xs (chR f) h17 fun y hy hl => tN f y (hx.kid (Yl hy)) (hR (Xk.1 h.1.1 y hy) hl)
  ·
   rw [if_neg h17] at h ⊢
   by_cases h2 : xs.length = 2
   ·
    rw [if_pos h2] at h
    match xs, h2 with
    | [a, c], _ =>
     have hc := hx.kid (y := c) (WZ _ WT)
     have ha := (hx.kid (y := a) WT).len
     replace h : prB (isN f) a c = true := h
     unfold prB at h
     obtain ⟨al, ab, ax⟩ := a
     rw [show bts (.mk al ab ax) = ab from rfl] at h
     simp only [XG] at h
     obtain ⟨hal, h⟩ := h
     obtain rfl : al = false := by cases al with | false => rfl | true => cases hal
     have hab : ab.length ≤ 536870912 := by
      have h1 : ab.length ≤ (Rlp.E (.mk false ab ax)).length := QL ab
      have h3 : most ≤ 536870912 := by decide
      omega
     show ChR _ (match rdP ab with | some (_, true) => lead (bts c) | _ => kN (chR f) c)
     cases hr : rdP ab with
     | none => rw [hr] at h; cases h
     | some pl =>
      obtain ⟨p, lf⟩ := pl
      rw [hr] at h
      have := GN b ab ax c (chR f) p lf hab hr (fun hlf hl => tN f c hc (by
       subst hlf
       replace h : (decide (0 < p.length) && rfB (isN f) false c && !(isL c && decide ((its c).length = 2))) = true := h
       simp only [XG] at h
       exact hR h.1.2 hl))
      cases lf with
      | true => exact this
      | false => exact this
   ·
    rw [if_neg h2] at h
    cases h
theorem Gp (b : List UInt8) (hb : b.length ≤ 16777216) : Fn 28 [.bs b] (· = .val (.sl 32 ((ldB b).map (D.arr 32)))) := by
 have h1 := CO b
 have hl := xI b
 rw [OZ] at hl ⊢
 have hg := xH b
 have hE : rdE b = 0 → Rlp.E (rdX b) = b := fun h => by
  unfold rdX rdE at *
  cases hr : fU b with
  | ok x => exact (Dw hr).symm
  | error e =>
   rw [hr] at h
   have := rE hr
   dsimp only at h
   omega
 have hN : rdE b = 0 → Fn 67 [aX (rdX b)] (· = .val (.v (.bool (isN 40 (rdX b))))) := fun h => Gs 40 (rdX b) (by have := hg.dep; omega) (by rw [hE h]; omega)
 have hC : isN 40 (rdX b) = true → ChR (rdX b) (chR 40 (rdX b)) := tN 40 (rdX b) hg
 unfold yO at h1
 generalize chR 40 (rdX b) = m at *
 generalize isN 40 (rdX b) = q at *
 generalize rdX b = x at *
 generalize rdE b = e at *
 obtain ⟨xl, xb, xx⟩ := x
 clear hg hE
 simp only [aX] at h1 hN
 refine FnM.toFn ?_
 refine FnM.walk 19 Tryz.func28 rfl Tryz.ntmps28 (by simp) fun X => ?_
 by_cases he : e = 0
 ·
  subst he
  have hN := hN rfl
  cases q with
  | false =>
   rw [if_neg fun h => Bool.false_ne_true h.2]
   repeat
    (first
     | (apply aC (h1); rfl; exact aj.refl _ _; exact enA; iterate 2 rfl) | (apply aC (hN); rfl; exact aj.refl _ _; exact enA; iterate 2 rfl)
     | (apply ak; iterate 3 rfl) | (apply ah; iterate 3 rfl) | (apply aA; iterate 4 rfl) | (apply aK; iterate 4 rfl)
     | (apply bM; iterate 3 rfl) | (apply aI; rfl; exact I.a; iterate 4 rfl) | (apply aF (b := false); (iterate 2 rfl); exact aQ; iterate 2 rfl)
     | (apply aT; rfl; rfl; rfl; intro _) | (apply aO; rfl; exact saA; iterate 4 rfl) | apply EL.nil
     | (apply EC.t0; rfl) | (with_reducible first | apply EK.nc | apply EC.seq | apply EC.r0 | apply EC.ret | apply EK.aB))
   exact EK.iZ [] rfl rfl (RL.cons Rf.sl0 RL.nil) (WI _) ⟨rfl, rfl⟩
  | true =>
   rw [if_pos ⟨rfl, rfl⟩] at hl ⊢
   have hC := hC rfl (.slice none 0 0) [] (by rw [XP]; omega)
   rw [WJ, aX] at hC
   repeat
    (first
     | (apply aC (h1); rfl; exact aj.refl _ _; exact enA; iterate 2 rfl) | (apply aC (hN); rfl; exact aj.refl _ _; exact enA; iterate 2 rfl)
     | (apply ak; iterate 3 rfl) | (apply ah; iterate 3 rfl) | (apply aA; iterate 4 rfl) | (apply aK; iterate 4 rfl)
     | (apply bM; iterate 3 rfl) | (apply aI; rfl; exact I.a; iterate 4 rfl) | (apply aF (b := false); (iterate 2 rfl); exact aQ; iterate 2 rfl)
     | (apply aT; rfl; rfl; rfl; intro _) | (apply aO; rfl; exact saA; iterate 4 rfl) | apply EL.nil
     | (apply EC.f0; rfl) | (with_reducible first | apply EK.nc | apply EC.seq | apply EC.r0 | apply EC.k0))
   refine EL.le (Le.row 29 32) ?_
   refine dD (os := [wdO (.slice none 0 0) []]) hC rfl rfl (aj.refl _ _) (by intro _ _; simp [go_sem]) rfl rfl ?_
   rintro _ _ ⟨v', rfl, rfl⟩
   simp only [WL, WJ]
   refine EL.le (Le.freeze (pre := []) rfl) ?_
   repeat
    (first
     | (apply ah; iterate 3 rfl) | apply EL.nil | ((with_reducible apply EK.h0); apply EK.code) | (with_reducible apply EC.ret))
   exact EK.iZ [] rfl rfl (RL.cons (Rf.fact WT rfl) RL.nil) (WI _) ⟨rfl, rfl⟩
 ·
  rw [if_neg fun h => he h.1]
  have hc : gq .neq (e : Int) 0 = some true := by
   have : (e : Int) ≠ 0 := by omega
   simp only [gq, Xw, bne_iff_ne]
   exact this
  repeat
   (first
    | (apply dO; iterate 2 rfl) | (apply aC (h1); rfl; exact aj.refl _ _; exact enA; iterate 2 rfl)
    | (apply aF (b := true); (iterate 2 rfl); exact hc; iterate 2 rfl) | (apply ak; iterate 3 rfl) | (apply ah; iterate 3 rfl)
    | (apply aA; iterate 4 rfl) | (apply aK; iterate 4 rfl) | (apply aT; rfl; rfl; rfl; intro _)
    | (apply aO; rfl; exact saA; iterate 4 rfl) | apply EL.nil
    | (apply EC.t0; rfl) | (with_reducible first | apply EK.nc | apply EC.seq | apply EC.r0 | apply EC.ret | apply EK.aB))
  exact EK.iZ [] rfl rfl (RL.cons Rf.sl0 RL.nil) (WI _) ⟨rfl, rfl⟩
theorem NJ (l m : List UInt8) : Bin .lss 9 (.v (.string (Go.Proofs.YtelbhdobjdnglaaGreat.bs l))) (.v (.string (Go.Proofs.YtelbhdobjdnglaaGreat.bs m))) (.bool (Op.bytesLess l m)) := by
 refine ⟨rfl, fun ok w p q hp hq => ?_⟩
 obtain rfl := (aY.1 hp).2
 obtain rfl := (aY.1 hq).2
 refine ⟨fun x y => by simp [eqGuard], ?_⟩
 simp [binOp, Op.stringOp, vZ]
theorem PW (l m : List UInt8) : Fn 19 [.arr 32 l, .arr 32 m] (· = .val (.v (.bool (Op.bytesLess l m)))) := by
 have hb := NJ l m
 refine Fn.walk 10 Tryz.func19 rfl Tryz.ntmps19 (by simp) fun X => ?_
 repeat
  (first
   | (apply ah; iterate 3 rfl) | (apply cZ; rfl; rfl; rfl; intro _) | apply EL.nil
   | (with_reducible first | apply EK.nc | apply EC.seq | apply EC.r0))
 refine EC.draw 5 (by kernel_rfl) ?_
 simp only [WH, WO, WG, WM]
 repeat
  (first
   | (apply En; exact xE; iterate 3 rfl) | (apply G5; rfl; exact I0; iterate 4 rfl) | (apply G5; rfl; exact I1; iterate 4 rfl)
   | (apply kV; (iterate 2 rfl); exact hb; iterate 2 rfl) | ((with_reducible apply EH.nil); rfl))
 repeat
  (first
   | (apply ah; iterate 3 rfl) | apply EL.nil | ((with_reducible apply EK.h0); apply EK.code) | (with_reducible apply EC.ret))
 exact EK.Ak rfl rfl rfl
def nH (x : List UInt8 × List UInt8) : List (List UInt8 × List UInt8) → List (List UInt8 × List UInt8)
 | [] => [x]
 | y :: l => if Op.bytesLess y.1 x.1 then y :: nH x l else if (y.1 == x.1) then y :: l else x :: y :: l
theorem yT (x : List UInt8 × List UInt8) : ∀ l, (nH x l).length ≤ l.length + 1
 | [] => by simp [nH]
 | y :: l => by
  have := yT x l
  rw [nH]
  split
  · simp; omega
  · split <;> simp
theorem Ny (ns : List (List UInt8 × List UInt8)) (x : List UInt8 × List UInt8) (hl : ns.length ≤ 1000000000) : Fn 36 [.sl 33 (ns.map dNd), dNd x] (· = .val (.sl 33 ((nH x ns).map dNd))) := by
 have hml : (ns.map dNd).length = ns.length := WY _
 obtain ⟨xh, xb⟩ := x
 unfold dNd
 dsimp only
 refine FnM.toFn ?_
 generalize hres : nH (xh, xb) ns = res
 refine FnM.walk 51 Tryz.func36 rfl Tryz.ntmps36 (by simp) fun X => ?_
 have hfn : (fun x : List UInt8 × List UInt8 => D.tup [.arr 32 x.1, .bs x.2]) = dNd := rfl
 rw [hfn]
 repeat
  (first
   | (apply ah; iterate 3 rfl) | (apply cZ; rfl; rfl; rfl; intro _) | apply EL.nil
   | (with_reducible first | apply EK.nc | apply EC.seq | apply EC.r0 | apply EC.b0))
 rename_i gx
 refine EC.loop (ι := {k : Nat // k ≤ ns.length ∧ res = ns.take k ++ nH (xh, xb) (ns.drop k)})
  (fun k => ⟨[(5, .val (.v (.int .i64 (k.1 : Int)))), (0, .val (.sl 33 (ns.map dNd))), (3, .val (.v (.pointer (some ⟨gx, 0, none⟩))))], [.var gx 40 (.tup [.arr 32 xh, .bs xb])], []⟩)
  (fun k => ns.length - k.1) ⟨0, Xo _, by rw [← hres]; rfl⟩ ?_ ?_
 · exact Le.kp
 rintro ⟨k, hk, hI⟩
 dsimp only at hk ⊢
 have htk : (ns.map dNd).take k = (ns.take k).map dNd := by rw [List.map_take]
 have hdr : (ns.map dNd).drop k = (ns.drop k).map dNd := by rw [List.map_drop]
 have htl : ((ns.take k).map dNd).length = k := by rw [WY, Xi]; omega
 have hdl : ((ns.drop k).map dNd).length = ns.length - k := by rw [WY, W9]
 by_cases hlt : k < ns.length
 ·
  have hd : (ns.map dNd)[k]? = some (.tup [.arr 32 ns[k].1, .bs ns[k].2]) := by rw [Xl, List.getElem?_eq_getElem hlt]; rfl
  have hL := PW ns[k].1 xh
  have he := (oH ns[k].1 xh).1
  rw [Xn hlt, nH] at hI
  cases hb : Op.bytesLess ns[k].1 xh with
  | true =>
   rw [hb] at hL
   rw [if_pos hb] at hI
   have hI2 : res = ns.take (k + 1) ++ nH (xh, xb) (ns.drop (k + 1)) := by
    rw [hI, Xa hlt, Xp]
    rfl
   repeat
    (first
     | (with_reducible apply EC.seq))
   refine EC.draw 14 (by kernel_rfl) ?_
   simp only [WH, WO, WG, WM]
   repeat
    (first
     | (apply jv (hL); rfl; exact aj.refl _ _; exact enA; iterate 2 rfl) | (apply bV; iterate 3 rfl) | (apply dJ; iterate 6 rfl)
     | (apply gG; iterate 7 rfl) | (apply fA; iterate 5 rfl) | (apply jr; iterate 4 rfl) | (apply dP; rfl; exact I.a; iterate 4 rfl)
     | (apply kY (b := true); (iterate 2 rfl); exact aQ; iterate 2 rfl) | (apply pR; iterate 4 rfl)
     | (apply gU; (iterate 4 rfl); exact ixA; iterate 2 rfl)
     | ((with_reducible apply EH.nil); rfl))
   repeat
    (first
     | (apply ak; iterate 3 rfl) | (apply ah; iterate 3 rfl) | (apply jM; (iterate 3 rfl); (focus omega); (focus omega); iterate 2 rfl) | apply EL.nil
     | (apply EC.t0; rfl) | (with_reducible first | apply EK.nc | apply EC.r0 | apply EC.k0 | apply EC.b0 | apply EK.n0))
   refine EK.again ⟨k + 1, hlt, hI2⟩ (by dsimp only; omega) ?_
   simp only [XA]
   exact Le.kp
  | false =>
   rw [hb] at hL
   rw [if_neg (by rw [hb]; decide)] at hI
   cases hq : (ns[k].1 == xh) with
   | true =>
    rw [hq] at he
    rw [if_pos hq, ← Xn hlt, XE] at hI
    repeat
     (first
      | (with_reducible apply EC.seq))
    refine EC.draw 14 (by kernel_rfl) ?_
    simp only [WH, WO, WG, WM]
    repeat
     (first
      | (apply jv (hL); rfl; exact aj.refl _ _; exact enA; iterate 2 rfl) | (apply bV; iterate 3 rfl) | (apply dJ; iterate 6 rfl)
      | (apply gG; iterate 7 rfl) | (apply fA; iterate 5 rfl) | (apply jr; iterate 4 rfl) | (apply dP; rfl; exact I.a; iterate 4 rfl)
      | (apply kY (b := true); (iterate 2 rfl); exact aQ; iterate 2 rfl) | (apply pR; iterate 4 rfl)
      | (apply gU; (iterate 4 rfl); exact ixA; iterate 2 rfl)
      | ((with_reducible apply EH.nil); rfl))
    repeat
     (first
      | apply EL.nil | (apply EC.f0; rfl) | (with_reducible first | apply EK.nc | apply EC.seq | apply EC.x0 | apply EK.s0 | apply EK.aJ))
    refine EC.draw 14 (by kernel_rfl) ?_
    simp only [WH, WO, WG, WM]
    repeat
     (first
      | (apply kV; (iterate 2 rfl); exact he; iterate 2 rfl) | (apply bV; iterate 3 rfl) | (apply dJ; iterate 6 rfl) | (apply gG; iterate 7 rfl)
      | (apply fA; iterate 5 rfl) | (apply jr; iterate 4 rfl) | (apply dP; rfl; exact I.a; iterate 4 rfl)
      | (apply kY (b := true); (iterate 2 rfl); exact aQ; iterate 2 rfl) | (apply pR; iterate 4 rfl)
      | (apply gU; (iterate 4 rfl); exact ixA; iterate 2 rfl)
      | ((with_reducible apply EH.nil); rfl))
    repeat
     (first
      | (apply ak; iterate 3 rfl) | (apply ah; iterate 3 rfl) | apply EL.nil | (apply EC.t0; rfl)
      | (with_reducible first | apply EK.nc | apply EC.seq | apply EC.r0 | apply EC.ret | apply EK.aB))
    rw [hI]
    exact EK.iZ [] rfl rfl (RL.cons Rf.same RL.nil) (WI _) ⟨rfl, rfl⟩
   | false =>
    rw [hq] at he
    rw [if_neg (by rw [hq]; decide), ← Xn hlt] at hI
    have hfin : res.map dNd = [] ++ (ns.take k).map dNd ++ [.tup [.arr 32 xh, .bs xb]] ++ (ns.drop k).map dNd := by
     rw [hI]
     simp [dNd]
    repeat
     (first
      | (with_reducible apply EC.seq))
    refine EC.draw 14 (by kernel_rfl) ?_
    simp only [WH, WO, WG, WM]
    repeat
     (first
      | (apply jv (hL); rfl; exact aj.refl _ _; exact enA; iterate 2 rfl) | (apply bV; iterate 3 rfl) | (apply dJ; iterate 6 rfl)
      | (apply gG; iterate 7 rfl) | (apply fA; iterate 5 rfl) | (apply jr; iterate 4 rfl) | (apply dP; rfl; exact I.a; iterate 4 rfl)
      | (apply kY (b := true); (iterate 2 rfl); exact aQ; iterate 2 rfl) | (apply pR; iterate 4 rfl)
      | (apply gU; (iterate 4 rfl); exact ixA; iterate 2 rfl)
      | ((with_reducible apply EH.nil); rfl))
    repeat
     (first
      | apply EL.nil | (apply EC.f0; rfl) | (with_reducible first | apply EK.nc | apply EC.seq | apply EC.x0 | apply EK.s0 | apply EK.aJ))
    refine EC.draw 14 (by kernel_rfl) ?_
    simp only [WH, WO, WG, WM]
    repeat
     (first
      | (apply kV; (iterate 2 rfl); exact he; iterate 2 rfl) | (apply bV; iterate 3 rfl) | (apply dJ; iterate 6 rfl) | (apply gG; iterate 7 rfl)
      | (apply fA; iterate 5 rfl) | (apply jr; iterate 4 rfl) | (apply dP; rfl; exact I.a; iterate 4 rfl)
      | (apply kY (b := true); (iterate 2 rfl); exact aQ; iterate 2 rfl) | (apply pR; iterate 4 rfl)
      | (apply gU; (iterate 4 rfl); exact ixA; iterate 2 rfl)
      | ((with_reducible apply EH.nil); rfl))
    repeat
     (first
      | (apply ak; iterate 3 rfl) | apply EL.nil | (apply EC.f0; rfl)
      | (with_reducible first | apply EK.nc | apply EC.seq | apply EC.r0 | apply EC.k0))
    refine EL.le (Le.row 40 33) ?_
    repeat
     (first
      | (apply GV; (iterate 3 rfl); exact ⟨by omega, by rw [hml, Xy]; omega⟩; iterate 2 rfl) | (apply ah; iterate 3 rfl)
      | ((apply jB; rfl; exact saA; (iterate 5 rfl); (focus (constructor <;> (first | (simp; done) | (simp; omega))))); intro _)
      | apply EL.nil | ((with_reducible apply EK.h0); apply EK.code) | (with_reducible apply EC.seq))
    refine EC.le (Le.freeze (pre := []) rfl) ?_
    refine EC.le (Le.refine (t := 6) (d' := .sl 33 ((ns.drop k).map dNd)) rfl (Rf.fact (by rw [← hdr]; exact WT) rfl)) ?_
    simp only [WJ]
    refine EC.le (Le.row 40 33) ?_
    refine EC.uO 9 [0, 1, 2, 4, 5, 7] [3, 6, 8] [_] _ (by kernel_rfl) (by kernel_rfl) rfl ?_
    simp only [aZ, WU, WW, WQ, WR]
    repeat
     (first
      | (apply QI; (iterate 3 rfl); exact ⟨by omega, by rw [hml, Xy]; omega⟩; iterate 2 rfl) | (apply bV; iterate 3 rfl)
      | (apply dP; rfl; exact I.a; iterate 4 rfl) | (apply G6; iterate 9 rfl))
    rw [Xy, htk]
    refine EM.nil ?_
    repeat (first | rw [WL] | rw [WJ])
    refine CH.mut (os := [_]) (rest := []) rfl rfl (kS rfl rfl rfl rfl rfl ?_) ?_
    ·
     rw [htl]
     constructor <;> (simp; omega)
    rintro _ _ ⟨v2, rfl, rfl⟩
    try simp only [St.put]
    repeat (first | rw [WL] | rw [WJ])
    refine CH.mut (os := [_]) (rest := []) rfl rfl (kS rfl rfl rfl rfl rfl ?_) ?_
    ·
     rw [htl]
     constructor <;> (simp; omega)
    rintro _ _ ⟨v3, rfl, rfl⟩
    try simp only [St.put]
    repeat (first | rw [WL] | rw [WJ])
    refine CH.mut (os := [_]) (rest := []) rfl rfl (kS rfl rfl rfl rfl rfl ?_) ?_
    ·
     rw [List.length_append, htl, hdl]
     constructor <;> (simp; omega)
    rintro _ _ ⟨v4, rfl, rfl⟩
    try simp only [St.put]
    repeat (first | rw [WL] | rw [WJ])
    refine CH.nil ?_
    try simp only [WG, WM]
    refine EL.le (Le.freeze (pre := []) rfl) ?_
    simp only [WJ]
    repeat
     (first
      | (apply ah; iterate 3 rfl) | apply EL.nil | ((with_reducible apply EK.h0); apply EK.code) | (with_reducible apply EC.ret))
    exact EK.iZ [] rfl rfl (RL.cons (Rf.fact (by rw [hfin]; exact WT) rfl) RL.nil) (WI _) ⟨rfl, rfl⟩
 ·
  have hke : k = ns.length := by omega
  rw [Xt (by omega), nH] at hI
  have hfin : res.map dNd = [] ++ (ns.take k).map dNd ++ [.tup [.arr 32 xh, .bs xb]] ++ (ns.drop k).map dNd := by
   rw [hI, Xt (by omega)]
   simp [dNd]
  repeat
   (first
    | (with_reducible apply EC.seq))
  refine EC.draw 14 (by kernel_rfl) ?_
  simp only [WH, WO, WG, WM]
  repeat
   (first
    | (apply tZ; iterate 2 rfl) | (apply bV; iterate 3 rfl) | (apply jr; iterate 4 rfl)
    | (apply kY (b := false); (iterate 2 rfl); exact aQ; iterate 2 rfl) | (apply pR; iterate 4 rfl) | ((with_reducible apply EH.nil); rfl))
  repeat
   (first
    | apply EL.nil | (apply EC.f0; rfl) | (with_reducible first | apply EK.nc | apply EC.seq | apply EC.x0 | apply EK.s0 | apply EK.aJ))
  refine EC.draw 14 (by kernel_rfl) ?_
  simp only [WH, WO, WG, WM]
  repeat
   (first
    | (apply tZ; iterate 2 rfl) | (apply bV; iterate 3 rfl) | (apply jr; iterate 4 rfl)
    | (apply kY (b := false); (iterate 2 rfl); exact aQ; iterate 2 rfl) | (apply pR; iterate 4 rfl) | ((with_reducible apply EH.nil); rfl))
  repeat
   (first
    | (apply ak; iterate 3 rfl) | apply EL.nil | (apply EC.f0; rfl)
    | (with_reducible first | apply EK.nc | apply EC.seq | apply EC.r0 | apply EC.k0))
  refine EL.le (Le.row 40 33) ?_
  repeat
   (first
    | (apply GV; (iterate 3 rfl); exact ⟨by omega, by rw [hml, Xy]; omega⟩; iterate 2 rfl) | (apply ah; iterate 3 rfl)
    | ((apply jB; rfl; exact saA; (iterate 5 rfl); (focus (constructor <;> (first | (simp; done) | (simp; omega))))); intro _)
    | apply EL.nil | ((with_reducible apply EK.h0); apply EK.code) | (with_reducible apply EC.seq))
  refine EC.le (Le.freeze (pre := []) rfl) ?_
  refine EC.le (Le.refine (t := 6) (d' := .sl 33 ((ns.drop k).map dNd)) rfl (Rf.fact (by rw [← hdr]; exact WT) rfl)) ?_
  simp only [WJ]
  refine EC.le (Le.row 40 33) ?_
  refine EC.uO 9 [0, 1, 2, 4, 5, 7] [3, 6, 8] [_] _ (by kernel_rfl) (by kernel_rfl) rfl ?_
  simp only [aZ, WU, WW, WQ, WR]
  repeat
   (first
    | (apply QI; (iterate 3 rfl); exact ⟨by omega, by rw [hml, Xy]; omega⟩; iterate 2 rfl) | (apply bV; iterate 3 rfl)
    | (apply dP; rfl; exact I.a; iterate 4 rfl) | (apply G6; iterate 9 rfl))
  rw [Xy, htk]
  refine EM.nil ?_
  repeat (first | rw [WL] | rw [WJ])
  refine CH.mut (os := [_]) (rest := []) rfl rfl (kS rfl rfl rfl rfl rfl ?_) ?_
  ·
   rw [htl]
   constructor <;> (simp; omega)
  rintro _ _ ⟨v2, rfl, rfl⟩
  try simp only [St.put]
  repeat (first | rw [WL] | rw [WJ])
  refine CH.mut (os := [_]) (rest := []) rfl rfl (kS rfl rfl rfl rfl rfl ?_) ?_
  ·
   rw [htl]
   constructor <;> (simp; omega)
  rintro _ _ ⟨v3, rfl, rfl⟩
  try simp only [St.put]
  repeat (first | rw [WL] | rw [WJ])
  refine CH.mut (os := [_]) (rest := []) rfl rfl (kS rfl rfl rfl rfl rfl ?_) ?_
  ·
   rw [List.length_append, htl, hdl]
   constructor <;> (simp; omega)
  rintro _ _ ⟨v4, rfl, rfl⟩
  try simp only [St.put]
  repeat (first | rw [WL] | rw [WJ])
  refine CH.nil ?_
  try simp only [WG, WM]
  refine EL.le (Le.freeze (pre := []) rfl) ?_
  simp only [WJ]
  repeat
   (first
    | (apply ah; iterate 3 rfl) | apply EL.nil | ((with_reducible apply EK.h0); apply EK.code) | (with_reducible apply EC.ret))
  exact EK.iZ [] rfl rfl (RL.cons (Rf.fact (by rw [hfin]; exact WT) rfl) RL.nil) (WI _) ⟨rfl, rfl⟩
theorem DI (x : UInt8) : (x >>> 4).toNat = x.toNat / 16 := by rw [UInt8.toNat_shiftRight]; simp [Nat.shiftRight_eq_div_pow]
theorem DF (x : UInt8) : (x &&& 15).toNat = x.toNat % 16 := by rw [UInt8.toNat_and]; exact X9 _ 4
theorem Dj (l : List UInt8) : ∀ x ∈ split l, x.toNat ≤ 15 := by
 intro x hx
 obtain ⟨y, _, hy⟩ := List.mem_flatMap.1 hx
 simp only [Xb, YV, or_false] at hy
 rcases hy with rfl | rfl
 · rw [DI]; have := y.toNat_lt; omega
 · rw [DF]; omega
def qO (l : List Pr) : Nat := if 100000 < l.length ∨ l.any lg = true then 3 else if l.any (·.2.isEmpty) = true then 1 else if ((l.map sp).map (·.1)).Nodup then 0 else 1
def Ey (l : List Pr) : Tn := bdF 200 (srt (l.map sp)) 0
theorem BF {l : List Pr} (h : qO l = 0) : OL l = .tpl [.sl 2 ((srt (l.map sp)).map dPr), .v (.int .i64 0)] ∧ l.any lg = false ∧ ((l.map sp).map (·.1)).Nodup := by
 unfold qO at h
 unfold OL
 split at h
 · cases h
 ·
  rename_i h1
  rw [if_neg h1]
  split at h
  · cases h
  ·
   rename_i h2
   rw [if_neg h2]
   split at h
   ·
    rename_i h3
    rw [if_pos h3]
    exact ⟨rfl, by simpa using fun e => h1 (.inr e), h3⟩
   · cases h
theorem Ov {l : List Pr} (hn : ((l.map sp).map (·.1)).Nodup) : nM 0 (srt (l.map sp)) := by
 refine ⟨?_, fun x _ => Xo _, fun x _ y _ => rfl, fun x hx b hb => ?_⟩
 ·
  have h1 := Hw (l.map sp)
  have h2 : ((srt (l.map sp)).map (·.1)).Nodup := ((lN (l.map sp)).map (·.1)).nodup_iff.2 hn
  unfold List.Nodup at h2
  rw [YR] at h2
  refine (h1.and h2).imp fun h => ?_
  exact Zm fun hn => h.2 (List.le_antisymm h.1 (List.not_lt.1 hn))
 ·
  obtain ⟨y, _, rfl⟩ := Xg.1 ((lN (l.map sp)).mem_iff.1 hx)
  have := Dj y.1 b hb
  omega
def JC (l : List Pr) : List UInt8 := if qO l = 0 then sumT (Ey l) else zero32
theorem BU (ks : Nat → Tn) (v : List UInt8) : sJ (.br ks v) = .mk true [] ((List.range 16).map (fun i => Lj (ks i)) ++ [.mk false v []]) := rfl
def qy (n : Nat) (l : List Pr) : List Pr := l.map fun x => (x.1.drop n, x.2)
theorem JI (x : Raw) : (pkB x).length ≤ 1099511627776 := by
 have h : ∀ b, packed x = some b → b.length ≤ most := fun b h => by
  rw [tu] at h
  split at h
  · cases h
  ·
   split at h
   ·
    split at h
    · cases h
    ·
     cases h
     omega
   · cases h
 unfold pkB
 cases hp : packed x with
 | none => exact Xo _
 | some b =>
  have := h b hp
  simp only [most] at this
  show b.length ≤ _
  omega
def Vw (l : List Pr) (U : List (List UInt8)) (x : Raw) : List (List UInt8) := if l.isEmpty then [] else U ++ (if (pkB x).length < 32 then [] else [pkB x])
def Lm (l : List Pr) (x : Raw) : Raw := if l.isEmpty then .mk false [] [] else Ll x
structure Bld (g : Nat) where
 σ : Type
 os : σ → List Obj
 sz : σ → Nat
 Rl : List (List UInt8) → Nat → σ → σ → Prop
 none : ∀ s, Rl [] 0 s s
 app : ∀ {U V : List (List UInt8)} {C E : Nat} {s t u : σ}, Rl U C s t → Rl V E t u → Rl (U ++ V) (C + E) s u
 more : ∀ {U : List (List UInt8)} {C E : Nat} {s t : σ}, Rl U C s t → C ≤ E → Rl U E s t
 size : ∀ {U : List (List UInt8)} {C : Nat} {s t : σ}, Rl U C s t → sz t ≤ sz s + C
 put : ∀ (s : σ) (x : List UInt8), sz s ≤ 1000000000 → x.length ≤ 1099511627776 → FnM 72 [.v (ptr g), .bs x] (os s) (fun r os' => ∃ t, Rl [x] 1 s t ∧ r = .val (.arr 32 (hash x)) ∧ os' = os t)
theorem yS (x : Pr) : ∀ (S : List Pr) (y : Pr), y ∈ nH x S → y = x ∨ y ∈ S
 | [], y, h => .inl (by simpa [nH] using h)
 | z :: S, y, h => by
  rw [nH] at h
  split at h
  ·
   rcases Xb.1 h with rfl | h
   · exact .inr WT
   ·
    rcases yS x S y h with h | h
    · exact .inl h
    · exact .inr (WZ _ h)
  ·
   split at h
   · exact .inr h
   ·
    rcases Xb.1 h with rfl | h
    · exact .inl rfl
    · exact .inr h
theorem yR (x : Pr) : ∀ (S : List Pr) (y : Pr), y ∈ S → y ∈ nH x S
 | [], y, h => by cases h
 | z :: S, y, h => by
  rw [nH]
  split
  ·
   rcases Xb.1 h with rfl | h
   · exact WT
   · exact WZ _ (yR x S y h)
  ·
   split
   · exact h
   · exact WZ _ h

def kX (p : List UInt8) (l : List Pr) : Nat := l.foldl (fun n x => if common p x.1 < n then common p x.1 else n) p.length
theorem NI (a b : List UInt8) : common a b ≤ a.length ∧ common a b ≤ b.length := ⟨(jg a b).2.1, (jg a b).2.2⟩
theorem zM (p : List UInt8) : ∀ (l : List Pr) (m : Nat), m ≤ p.length → (l.foldl (fun n x => if common p x.1 < n then common p x.1 else n) m) ≤ m ∧ ∀ x ∈ l, (l.foldl (fun n x => if common p x.1 < n then common p x.1 else n) m) ≤ common p x.1
 | [], m, h => ⟨Nat.le_refl _, fun x hx => by cases hx⟩
 | y :: l, m, h => by
  rw [XJ]
  split
  ·
   rename_i hlt
   obtain ⟨h1, h2⟩ := zM p l (common p y.1) (NI p y.1).1
   refine ⟨by omega, fun x hx => ?_⟩
   rcases Xb.1 hx with rfl | hx
   · exact h1
   · exact h2 x hx
  ·
   rename_i hge
   obtain ⟨h1, h2⟩ := zM p l m h
   refine ⟨h1, fun x hx => ?_⟩
   rcases Xb.1 hx with rfl | hx
   · omega
   · exact h2 x hx
def headD (d : Nat) (x : Pr) : Bool := match x.1 with
 | [] => false
 | c :: _ => c.toNat == d
def Am (d : Nat) (l : List Pr) : List Pr := qy 1 (l.filter (headD d))
def TU (l : List Pr) : List UInt8 := l.foldl (fun v x => if x.1.isEmpty then x.2 else v) []
def iH : Nat → List Pr → Raw
 | 0, _ => .mk false [] []
 | f + 1, l => match l with
  | [] => .mk true [] []
  | [x] => .mk true [] [.mk false (ppk x.1 true) [], .mk false x.2 []]
  | x :: y :: r =>
   if 0 < kX x.1 (y :: r) then .mk true [] [.mk false (ppk (x.1.take (kX x.1 (y :: r))) false) [], Lm (qy (kX x.1 (y :: r)) (x :: y :: r)) (iH f (qy (kX x.1 (y :: r)) (x :: y :: r)))]
   else .mk true [] ((List.range 16).map (fun d => Lm (Am d (x :: y :: r)) (iH f (Am d (x :: y :: r)))) ++ [.mk false (TU (x :: y :: r)) []])
def ug : Nat → List Pr → List (List UInt8)
 | 0, _ => []
 | f + 1, l => match l with
  | [] => []
  | [_] => []
  | x :: y :: r =>
   if 0 < kX x.1 (y :: r) then Vw (qy (kX x.1 (y :: r)) (x :: y :: r)) (ug f (qy (kX x.1 (y :: r)) (x :: y :: r))) (iH f (qy (kX x.1 (y :: r)) (x :: y :: r)))
   else ((List.range 16).map fun d => Vw (Am d (x :: y :: r)) (ug f (Am d (x :: y :: r))) (iH f (Am d (x :: y :: r)))).flatten
theorem OU {g : Nat} (B : Bld g) (f : Nat) (x : Pr) (s : B.σ) (hx : x.1.length ≤ 536870912) : FnM 71 [.v (ptr g), .sl 2 ([x].map dPr)] (B.os s) (fun r os' => ∃ t, B.Rl (ug (f + 1) [x]) ((f + 1) * [x].length) s t ∧ r = .val (aX (iH (f + 1) [x])) ∧ os' = B.os t) := by
 have h1 := PV x.1 true hx
 have h2 := Gq (ppk x.1 true)
 have h3 := Gq x.2
 have h4 := SB [.mk false (ppk x.1 true) [], .mk false x.2 []]
 rw [iH, ug]
 generalize (joinL (hdr x.1 true ++ x.1)).isSome = bo at h1
 generalize ppk x.1 true = pp at h1 h2 h4 ⊢
 have hd : ([x].map dPr)[0]? = some (.tup [.bs x.1, .bs x.2]) := rfl
 refine FnM.walk 151 Tryz.func71 rfl Tryz.ntmps71 (by simp) fun X => ?_
 repeat
  (first
   | (apply aC (h1); rfl; exact aj.refl _ _; exact enA; iterate 2 rfl)
   | (apply bH (d := .tup [.bs x.1, .bs x.2]); (iterate 4 rfl); exact ⟨by decide, rfl⟩; iterate 2 rfl) | (apply ak; iterate 3 rfl) | (apply ah; iterate 3 rfl)
   | (apply aP; iterate 7 rfl) | (apply aA; iterate 4 rfl) | (apply aG; iterate 5 rfl)
   | (apply aF (b := true); (iterate 2 rfl); exact aQ; iterate 2 rfl) | (apply bC; iterate 4 rfl) | (apply aT; rfl; rfl; rfl; intro _) | apply EL.nil
   | (apply EC.t0; rfl) | (with_reducible first | apply EK.nc | apply EC.seq | apply EC.r0))
 refine EC.uO 10 [0, 1, 2, 3, 4, 5, 6, 7, 8] [9] [_] _ (by kernel_rfl) (by kernel_rfl) rfl ?_
 simp only [aZ, WU, WW, WQ, WR]
 repeat
  (first
   | (apply jv (h2); rfl; exact aj.refl _ _; exact enA; iterate 2 rfl) | (apply jv (h3); rfl; exact aj.refl _ _; exact enA; iterate 2 rfl)
   | (apply jv (h4); rfl; exact aj.refl _ _; exact enA; iterate 2 rfl)
   | (apply gU (d := .tup [.bs x.1, .bs x.2]); (iterate 4 rfl); exact ⟨by decide, rfl⟩; iterate 2 rfl) | (apply bV; iterate 3 rfl) | (apply gG; iterate 7 rfl)
   | (apply fA; iterate 5 rfl) | (apply G6; iterate 9 rfl))
 refine EM.nil ?_
 repeat (first | rw [WL] | rw [WJ])
 refine CH.mut (os := [_]) (rest := []) rfl rfl (kR (rF rfl rfl rfl rfl rfl)) ?_
 rintro _ _ ⟨rfl, rfl⟩
 try simp only [St.put]
 repeat (first | rw [WL] | rw [WJ])
 refine CH.nil ?_
 try simp only [WG, WM]
 repeat
  (first
   | apply EL.nil | (with_reducible first | apply EK.nc | apply EC.ret | apply EK.aB))
 refine EK.JD 0 (B.os s) rfl rfl rfl rfl ?_ (by (repeat first | exact Yn _ | apply List.Sublist.cons_cons | apply List.Sublist.cons)) ⟨s, B.more (B.none s) (Xo _), rfl, rfl⟩
 (exact RL.a)
end E
end Go.Proofs.YtelbhdobjdnglaaGreat
