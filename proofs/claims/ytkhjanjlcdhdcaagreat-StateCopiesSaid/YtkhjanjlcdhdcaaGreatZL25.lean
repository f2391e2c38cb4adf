/-
 Merged: lemmas of this claim.
 Conditions: none.
-/
import Derived.Test.YtkhjanjlcdhdcaaGreatZL24
import Derived.Test.YtkhjanjlcdhdcaaGreatZL13
import Derived.Test.YtkhjanjlcdhdcaaGreatZL19
import Derived.Test.YtkhjanjlcdhdcaaGreatZL20
import Derived.Test.YtkhjanjlcdhdcaaGreatZL0
namespace Go.Proofs.YtkhjanjlcdhdcaaGreat
set_option linter.unusedVariables false
set_option maxRecDepth 20000
set_option maxHeartbeats 16000000
open Go.RowKit Mono Rlp Wd
namespace E
theorem DJ (a b : BitVec 8) : bits .xor .u8 (a.toNat : Int) (b.toNat : Int) = ((a ^^^ b).toNat : Int) := by
 rw [u8_xor_nat _ _ a.isLt b.isLt, BitVec.toNat_xor]
theorem FU (a b : UInt8) : Bin .xor 5 (.v (bv a)) (.v (bv b)) (bv (a ^^^ b)) := jk rfl fun w => by
 show Result.ok (Value.int .u8 (bits .xor .u8 (a.toBitVec.toNat : Int) (b.toBitVec.toNat : Int))) w = _
 rw [DJ]
 rfl
structure AtL where
 way : Int
 n : Int
 a : List UInt8
 b : List UInt8
 k : List UInt8
 w : List UInt8
 cd : List UInt8
def mQ (x : AtL) : D := .tup [.v (.int .i64 x.way), .v (.int .i64 x.n), .arr 20 x.a, .arr 20 x.b, .arr 32 x.k, .arr 32 x.w, .bs x.cd]
def AtL.of (x : AtL) (A : As) : As :=
 if x.way = 0 then A.upd x.a {A x.a with n := if x.n > 0 then x.n else 0}
 else if x.way = 1 then A.upd x.a {A x.a with w := x.w}
 else if x.way = 2 then A.upd x.a {A x.a with cd := x.cd}
 else if x.way = 3 then A.upd x.a ((A x.a).slot x.k x.w)
 else if x.way = 4 then mvA A x.a x.b x.w
 else if x.way = 5 then A.upd x.a Ac.zero
 else A
section
variable {g g2 N M : Nat} {A : As} {os os2 : List Obj}
theorem FB (x : AtL) (h : GSt g A N os) (k : RSt g2 A M os2) (hN : N + 2 < 1099511627776) (hM : M + 2 ≤ 1000000) (hx : (A x.a).w.length = 32) (hy : (A x.b).w.length = 32) (hw : x.w.length = 32) (hc : x.cd.length ≤ 140737488355328) (h6 : x.way < 6) : FnM 9 [.v (ptr g), .v (ptr g2), mQ x, .v dF] (os ++ os2) (fun r os' => ∃ os1' os2', GSt g (x.of A) (N + 2) os1' ∧ RSt g2 (x.of A) (M + 2) os2' ∧ os' = os1' ++ os2') := by
 obtain ⟨way, n, a, b, q, w, cd⟩ := x
 unfold mQ AtL.of
 dsimp only at hx hy hw hc h6 ⊢
 refine FnM.walk 177 Tryz.func9 rfl Tryz.ntmps9 (by simp) fun X => ?_
 by_cases h0 : way = 0
 ·
  subst h0
  rw [if_pos rfl]
  repeat
   (first
    | (apply aB; iterate 3 rfl) | (apply ak; iterate 3 rfl) | (apply aH; iterate 6 rfl) | (apply aF; rfl; exact I.a; iterate 4 rfl)
    | (apply aC (b := true); (iterate 2 rfl); exact aN; iterate 2 rfl) | (apply aV; rfl; rfl; rfl; intro _) | apply EL.nil
    | (apply EC.t0; rfl) | (with_reducible first | apply EK.nc | apply EC.seq | apply EC.r0 | apply EC.b0))
  refine bD (AP (a := a) h (by omega) n) [_] os2 rfl rfl (au.refl _ _) (by intro _ _; simp [go_sem]) rfl rfl ?_
  rintro _ os3 ⟨rfl, hP⟩
  simp only [Kr, Kt]
  repeat
   (first
    | (apply aB; iterate 3 rfl) | (apply aH; iterate 6 rfl) | (apply aF; rfl; exact I.a; iterate 4 rfl) | apply EL.nil
    | ((with_reducible apply EK.h0); apply EK.code) | (with_reducible apply EC.r0))
  refine bD (qO (a := a) k (by omega) n) (_ :: os3) [] (by rw [KU]; rfl) rfl (au.refl _ _) (by intro _ _; simp [go_sem]) rfl rfl ?_
  rintro _ os4 ⟨rfl, hR⟩
  rw [KU]
  simp only [Kr]
  repeat
   (first
    | (apply aB; iterate 3 rfl) | (apply ak; iterate 3 rfl) | apply EL.nil
    | (with_reducible first | apply EK.nc | apply EC.seq | apply EC.r0 | apply EC.ret | apply EK.n0))
  exact EK.jM (os3 ++ os4) rfl rfl rfl (au.refl _ _) (by (repeat first | exact KQ _ | apply List.Sublist.cons_cons | apply List.Sublist.cons)) ⟨os3, os4, hP.mono (by omega), hR.mono (by omega), rfl⟩
 rw [if_neg h0]
 by_cases h1 : way = 1
 ·
  subst h1
  rw [if_pos rfl]
  repeat
   (first
    | (apply aB; iterate 3 rfl) | (apply ak; iterate 3 rfl) | (apply aH; iterate 6 rfl) | (apply aF; rfl; exact I.a; iterate 4 rfl)
    | (apply aC (b := true); (iterate 2 rfl); exact aN; iterate 2 rfl) | (apply aC (b := false); (iterate 2 rfl); exact aN; iterate 2 rfl)
    | (apply aV; rfl; rfl; rfl; intro _) | apply EL.nil | (apply EC.t0; rfl) | (apply EC.f0; rfl)
    | (with_reducible first | apply EK.nc | apply EC.seq | apply EC.r0 | apply EC.b0))
  refine bD (kW (a := a) h (by omega) w) [_] os2 rfl rfl (au.refl _ _) (by intro _ _; simp [go_sem]) rfl rfl ?_
  rintro _ os3 ⟨rfl, hP⟩
  simp only [Kr, Kt]
  repeat
   (first
    | (apply aB; iterate 3 rfl) | (apply aH; iterate 6 rfl) | (apply aF; rfl; exact I.a; iterate 4 rfl) | apply EL.nil
    | ((with_reducible apply EK.h0); apply EK.code) | (with_reducible apply EC.r0))
  refine bD (iT (a := a) k (by omega) w) (_ :: os3) [] (by rw [KU]; rfl) rfl (au.refl _ _) (by intro _ _; simp [go_sem]) rfl rfl ?_
  rintro _ os4 ⟨rfl, hR⟩
  rw [KU]
  simp only [Kr]
  repeat
   (first
    | (apply aB; iterate 3 rfl) | (apply ak; iterate 3 rfl) | apply EL.nil
    | (with_reducible first | apply EK.nc | apply EC.seq | apply EC.r0 | apply EC.ret | apply EK.n0))
  exact EK.jM (os3 ++ os4) rfl rfl rfl (au.refl _ _) (by (repeat first | exact KQ _ | apply List.Sublist.cons_cons | apply List.Sublist.cons)) ⟨os3, os4, hP.mono (by omega), hR.mono (by omega), rfl⟩
 rw [if_neg h1]
 by_cases h2 : way = 2
 ·
  subst h2
  rw [if_pos rfl]
  repeat
   (first
    | (apply ak; iterate 3 rfl) | (apply aH; iterate 6 rfl) | (apply aF; rfl; exact I.a; iterate 4 rfl)
    | (apply aC (b := true); (iterate 2 rfl); exact aN; iterate 2 rfl) | (apply aC (b := false); (iterate 2 rfl); exact aN; iterate 2 rfl)
    | (apply aV; rfl; rfl; rfl; intro _) | apply EL.nil | (apply EC.t0; rfl) | (apply EC.f0; rfl)
    | (with_reducible first | apply EK.nc | apply EC.seq | apply EC.r0 | apply EC.b0))
  refine EL.le (Le.row 5 1) ?_
  repeat
   (first
    | (apply DV; rfl; exact .z; (iterate 4 rfl); (constructor <;> (simp; omega)); intro u) | (apply aB; iterate 3 rfl) | (apply ak; iterate 3 rfl)
    | (apply aH; iterate 6 rfl) | (apply aF; rfl; exact I.a; iterate 4 rfl) | apply EL.nil
    | (with_reducible first | apply EK.nc | apply EC.seq | apply EC.r0))
  simp only [Kt]
  have hcl : (bvD cd).length = cd.length := KG _
  refine EL.le (Le.perm (.swap _ _ _)) ?_
  refine bD (Dq (a := a) h (by omega) u cd hc) [_] os2 rfl rfl (au.refl _ _) (by intro _ _; simp [go_sem]) rfl rfl ?_
  rintro _ _ ⟨rfl, os3, hP, rfl⟩
  simp only [Kr, Kt]
  repeat
   (first
    | (apply ak; iterate 3 rfl) | apply EL.nil | (with_reducible first | apply EK.nc | apply EC.seq | apply EC.r0 | apply EC.b0))
  rename_i gx
  refine EC.loop (ι := {s : Nat × List UInt8 // s.1 ≤ cd.length ∧ s.2.length = cd.length})
   (fun s => ⟨[(11, .val (.v (.int .i64 (s.1.1 : Int)))), (10, .val (.v u)), (16, .val (.v (.int .i64 2))), (6, .val (.v (ptr gx))), (3, .val (.v dF)), (1, .val (.v (ptr g2)))], .var gx 37 (.tup [.v (.int .i64 2), .v (.int .i64 n), .arr 20 a, .arr 20 b, .arr 32 q, .arr 32 w, .bs cd]) :: rwO u s.1.2 :: (os3 ++ os2), []⟩)
   (fun s => cd.length - s.1.1) ⟨(0, cd), Lj _, rfl⟩ ?_ ?_
  · exact (Le.keep (by repeat first | exact trivial | refine ⟨rfl, ?_⟩) (by repeat first | exact KQ _ | apply List.Sublist.cons_cons | apply List.Sublist.cons) (by simp))
  rintro ⟨⟨j, c⟩, hj, hc2⟩
  dsimp only at hj hc2 ⊢
  have hbl : (bvD c).length = cd.length := by rw [bvD, KG, hc2]
  by_cases hlt : j < cd.length
  ·
   have hbj : (bvD c)[j]? = some (.v (bv (c[j]'(by omega)))) := by rw [bvD, List.getElem?_map, KA (by omega)]; rfl
   generalize (c[j]'(by omega)) = z at hbj
   have hx8 : Bin .xor 5 (.v (bv z)) (.v (.int .u8 255)) (bv (z ^^^ 255)) := FU z 255
   repeat
    (first
     | (apply dO; (iterate 2 rfl); exact hx8; iterate 2 rfl) | (apply bY; rfl; exact I1; (iterate 2 rfl); exact ⟨by omega, by omega⟩; iterate 2 rfl)
     | (apply bQ (k := j) (off := 0) (d := .v (bv z)); rfl; exact I1; exact ⟨by omega, hbj⟩; iterate 4 rfl)
     | (apply dw (k := j) (off := 0) (d := .v (bv z)) (d'' := .v (bv (z ^^^ 255))); rfl; exact .s .z; exact ⟨by omega, hbj⟩; iterate 4 rfl) | (apply aB; iterate 3 rfl)
     | (apply ak; iterate 3 rfl) | (apply aC (b := true); (iterate 2 rfl); exact aN; iterate 2 rfl)
     | (apply dQ; (iterate 3 rfl); (focus omega); (focus omega); iterate 2 rfl) | (apply bU; rfl; exact I.a; iterate 3 rfl) | apply EL.nil
     | (apply EC.t0; rfl) | (with_reducible first | apply EK.nc | apply EC.seq | apply EC.r0 | apply EC.k0 | apply EC.b0 | apply EK.n0))
   rw [show (bvD c).set j (.v (bv (z ^^^ 255))) = bvD (c.set j (z ^^^ 255)) from (List.map_set ..).symm]
   refine EK.again ⟨(j + 1, c.set j (z ^^^ 255)), hlt, by rw [NV]; exact hc2⟩ (by dsimp only; omega) ?_
   simp only [Ls]
   exact (Le.keep (by repeat first | exact trivial | refine ⟨rfl, ?_⟩) (by repeat first | exact KQ _ | apply List.Sublist.cons_cons | apply List.Sublist.cons) (by simp))
  ·
   obtain rfl : j = cd.length := by omega
   repeat
    (first
     | (apply aB; iterate 3 rfl) | (apply aH; iterate 6 rfl) | (apply aF; rfl; exact I.a; iterate 4 rfl)
     | (apply aC (b := false); (iterate 2 rfl); exact aN; iterate 2 rfl) | (apply bU; rfl; exact I.a; iterate 3 rfl) | apply EL.nil
     | (apply EC.f0; rfl)
     | (with_reducible first | apply EK.nc | apply EC.seq | apply EC.r0 | apply EC.x0 | apply EK.s0 | apply EK.ah))
   refine bD (sN (a := a) k (by omega) cd hc) (_ :: _ :: os3) [] (by rw [KU]; rfl) rfl (au.refl _ _) (by intro _ _; simp [go_sem]) rfl rfl ?_
   rintro _ os4 ⟨rfl, hR⟩
   rw [KU]
   simp only [Kr]
   repeat
    (first
     | (apply aB; iterate 3 rfl) | (apply ak; iterate 3 rfl) | apply EL.nil
     | (with_reducible first | apply EK.nc | apply EC.seq | apply EC.r0 | apply EC.ret | apply EK.n0))
   exact EK.jM (os3 ++ os4) rfl rfl rfl (au.refl _ _) (by (repeat first | exact KQ _ | apply List.Sublist.cons_cons | apply List.Sublist.cons)) ⟨os3, os4, hP.mono (by omega), hR.mono (by omega), rfl⟩
 rw [if_neg h2]
 by_cases h3 : way = 3
 ·
  subst h3
  rw [if_pos rfl]
  repeat
   (first
    | (apply aB; iterate 3 rfl) | (apply ak; iterate 3 rfl) | (apply aH; iterate 6 rfl) | (apply aF; rfl; exact I.a; iterate 4 rfl)
    | (apply aC (b := true); (iterate 2 rfl); exact aN; iterate 2 rfl) | (apply aC (b := false); (iterate 2 rfl); exact aN; iterate 2 rfl)
    | (apply aV; rfl; rfl; rfl; intro _) | apply EL.nil | (apply EC.t0; rfl) | (apply EC.f0; rfl)
    | (with_reducible first | apply EK.nc | apply EC.seq | apply EC.r0 | apply EC.b0))
  refine bD (Dp (a := a) h (by omega) q w) [_] os2 rfl rfl (au.refl _ _) (by intro _ _; simp [go_sem]) rfl rfl ?_
  rintro _ os3 ⟨rfl, hP⟩
  simp only [Kr, Kt]
  repeat
   (first
    | (apply aB; iterate 3 rfl) | (apply aH; iterate 6 rfl) | (apply aF; rfl; exact I.a; iterate 4 rfl) | apply EL.nil
    | ((with_reducible apply EK.h0); apply EK.code) | (with_reducible apply EC.r0))
  refine bD (sK (a := a) k (by omega) q w) (_ :: os3) [] (by rw [KU]; rfl) rfl (au.refl _ _) (by intro _ _; simp [go_sem]) rfl rfl ?_
  rintro _ os4 ⟨rfl, hR⟩
  rw [KU]
  simp only [Kr]
  repeat
   (first
    | (apply aB; iterate 3 rfl) | (apply ak; iterate 3 rfl) | apply EL.nil
    | (with_reducible first | apply EK.nc | apply EC.seq | apply EC.r0 | apply EC.ret | apply EK.n0))
  exact EK.jM (os3 ++ os4) rfl rfl rfl (au.refl _ _) (by (repeat first | exact KQ _ | apply List.Sublist.cons_cons | apply List.Sublist.cons)) ⟨os3, os4, hP.mono (by omega), hR.mono (by omega), rfl⟩
 rw [if_neg h3]
 by_cases h4 : way = 4
 ·
  subst h4
  rw [if_pos rfl]
  have hP := (Ko h hN hx hy hw).frame os2
  have hR := fun os1 : List Obj => ((JH k hM hx hy hw).frame os1).perm (os2 := os1 ++ os2) KY
  have hq := (FW (jK A a b w) (jK A a b w)).1
  rw [beq_self_eq_true] at hq
  generalize jK A a b w = ok at hP hR hq
  generalize hoo : os ++ os2 = oo at hP ⊢
  repeat
   (first
    | (apply ak; iterate 3 rfl) | (apply aH; iterate 6 rfl) | (apply aF; rfl; exact I.a; iterate 4 rfl)
    | (apply aC (b := true); (iterate 2 rfl); exact aN; iterate 2 rfl) | (apply aC (b := false); (iterate 2 rfl); exact aN; iterate 2 rfl)
    | (apply aV; rfl; rfl; rfl; intro _) | apply EL.nil | (apply EC.t0; rfl) | (apply EC.f0; rfl)
    | (with_reducible first | apply EK.nc | apply EC.seq | apply EC.r0 | apply EC.b0))
  refine EC.le (Le.perm (KY (l₁ := [_]))) ?_
  refine EC.JX 19 [0, 1, 2, 3, 4, 5, 6, 7, 9, 10, 11, 12, 13, 14, 15] [8, 16, 17, 18] oo _ (by kernel_rfl) (by kernel_rfl) rfl ?_
  simp only [aQ, KJ, KN, KD, KF]
  repeat
   (first
    | (apply aJ; iterate 3 rfl) | (apply aW; iterate 6 rfl) | (apply aG; rfl; exact I.a; iterate 4 rfl))
  refine EM.nil ?_
  repeat (first | rw [Kr] | rw [Kt])
  refine CT.pick [8] (by kernel_rfl) fun k hk => ?_
  obtain rfl : k = 8 := (by simpa using hk)
  clear hk
  simp only [aQ, KJ, KN, KD, KF]
  refine CH.dS (os := oo) (rest := []) hP rfl rfl (au.refl _ _) (by intro _ _; simp [go_sem]) rfl rfl ?_
  rintro _ _ ⟨os3, ⟨rfl, hP⟩, rfl⟩
  try simp only [St.put]
  refine CH.nil ?_
  refine CT.pick [16] (by kernel_rfl) fun k hk => ?_
  obtain rfl : k = 16 := (by simpa using hk)
  clear hk
  simp only [aQ, KJ, KN, KD, KF]
  refine CH.dS (os := os3 ++ os2) (rest := []) (hR os3) rfl rfl (au.refl _ _) (by intro _ _; simp [go_sem]) rfl rfl ?_
  rintro _ _ ⟨os4, ⟨rfl, hR⟩, rfl⟩
  try simp only [St.put]
  refine CH.nil ?_
  refine CT.pick [17, 18] (by kernel_rfl) fun k hk => ?_
  rcases (show k = 17 ∨ k = 18 by simpa using hk) with rfl | rfl
  all_goals clear hk
  ·
   skip
   simp only [aQ, KJ, KN, KD, KF]
   refine CH.cut 1 ?_
   simp only [Kv, Kz, Ku, Kw]
   repeat
    (first
     | (apply fQ; (iterate 2 rfl); exact hq; iterate 2 rfl))
   refine EM.nil ?_
   repeat (first | rw [Kr] | rw [Kt])
   refine CH.nil ?_
   refine CT.pick [18] (by kernel_rfl) fun k hk => ?_
   obtain rfl : k = 18 := (by simpa using hk)
   clear hk
   simp only [aQ, KJ, KN, KD, KF]
   refine CH.cut 1 ?_
   simp only [Kv, Kz, Ku, Kw]
   repeat
    (first
     | (apply jJ; iterate 3 rfl))
   refine EM.nil ?_
   repeat (first | rw [Kr] | rw [Kt])
   refine CH.nil ?_
   refine CT.nil ?_
   repeat
    (first
     | (apply ak; iterate 3 rfl) | apply EL.nil | (with_reducible first | apply EK.nc | apply EC.ret | apply EK.aA | apply EK.aj))
   refine EK.le (Le.perm (KY (l₂ := [_]))) ?_
   simp only [Kr, Kt]
   refine EK.le (Le.perm (List.Perm.cons _ KY)) ?_
   exact EK.jM (os3 ++ os4) rfl rfl rfl (au.refl _ _) (by (repeat first | exact KQ _ | apply List.Sublist.cons_cons | apply List.Sublist.cons)) ⟨os3, os4, hP, hR, rfl⟩
  ·
   skip
   simp only [aQ, KJ, KN, KD, KF]
   refine CH.cut 1 ?_
   simp only [Kv, Kz, Ku, Kw]
   repeat
    (first
     | (apply jJ; iterate 3 rfl))
   refine EM.nil ?_
   repeat (first | rw [Kr] | rw [Kt])
   refine CH.nil ?_
   refine CT.pick [17] (by kernel_rfl) fun k hk => ?_
   obtain rfl : k = 17 := (by simpa using hk)
   clear hk
   simp only [aQ, KJ, KN, KD, KF]
   refine CH.cut 1 ?_
   simp only [Kv, Kz, Ku, Kw]
   repeat
    (first
     | (apply fQ; (iterate 2 rfl); exact hq; iterate 2 rfl))
   refine EM.nil ?_
   repeat (first | rw [Kr] | rw [Kt])
   refine CH.nil ?_
   refine CT.nil ?_
   repeat
    (first
     | (apply ak; iterate 3 rfl) | apply EL.nil | (with_reducible first | apply EK.nc | apply EC.ret | apply EK.aA | apply EK.aj))
   refine EK.le (Le.perm (KY (l₂ := [_]))) ?_
   simp only [Kr, Kt]
   refine EK.le (Le.perm (List.Perm.cons _ KY)) ?_
   exact EK.jM (os3 ++ os4) rfl rfl rfl (au.refl _ _) (by (repeat first | exact KQ _ | apply List.Sublist.cons_cons | apply List.Sublist.cons)) ⟨os3, os4, hP, hR, rfl⟩
 rw [if_neg h4]
 by_cases h5 : way = 5
 ·
  subst h5
  rw [if_pos rfl]
  repeat
   (first
    | (apply aB; iterate 3 rfl) | (apply ak; iterate 3 rfl) | (apply aH; iterate 6 rfl) | (apply aF; rfl; exact I.a; iterate 4 rfl)
    | (apply aC (b := true); (iterate 2 rfl); exact aN; iterate 2 rfl) | (apply aC (b := false); (iterate 2 rfl); exact aN; iterate 2 rfl)
    | (apply aV; rfl; rfl; rfl; intro _) | apply EL.nil | (apply EC.t0; rfl) | (apply EC.f0; rfl)
    | (with_reducible first | apply EK.nc | apply EC.seq | apply EC.r0 | apply EC.b0))
  refine bD (Jk (a := a) h (by omega)) [_] os2 rfl rfl (au.refl _ _) (by intro _ _; simp [go_sem]) rfl rfl ?_
  rintro _ os3 ⟨rfl, hP⟩
  simp only [Kr, Kt]
  repeat
   (first
    | (apply aB; iterate 3 rfl) | (apply aH; iterate 6 rfl) | (apply aF; rfl; exact I.a; iterate 4 rfl) | apply EL.nil
    | ((with_reducible apply EK.h0); apply EK.code) | (with_reducible apply EC.r0))
  refine bD (BA (a := a) k (by omega)) (_ :: os3) [] (by rw [KU]; rfl) rfl (au.refl _ _) (by intro _ _; simp [go_sem]) rfl rfl ?_
  rintro _ os4 ⟨rfl, hR⟩
  rw [KU]
  simp only [Kr]
  repeat
   (first
    | (apply aB; iterate 3 rfl) | (apply ak; iterate 3 rfl) | apply EL.nil
    | (with_reducible first | apply EK.nc | apply EC.seq | apply EC.r0 | apply EC.ret | apply EK.n0))
  exact EK.jM (os3 ++ os4) rfl rfl rfl (au.refl _ _) (by (repeat first | exact KQ _ | apply List.Sublist.cons_cons | apply List.Sublist.cons)) ⟨os3, os4, hP.mono (by omega), hR.mono (by omega), rfl⟩
 rw [if_neg h5]
 repeat
  (first
   | (apply aB; iterate 3 rfl) | (apply ak; iterate 3 rfl) | (apply aH; iterate 6 rfl) | (apply aF; rfl; exact I.a; iterate 4 rfl)
   | (apply aC (b := false); (iterate 2 rfl); exact aN; iterate 2 rfl) | (apply aV; rfl; rfl; rfl; intro _) | apply EL.nil
   | (apply EC.f0; rfl)
   | (with_reducible first | apply EK.nc | apply EC.seq | apply EC.r0 | apply EC.k0 | apply EC.b0 | apply EC.ret | apply EK.n0))
 exact EK.jM (os ++ os2) rfl rfl rfl (au.refl _ _) (by (repeat first | exact KQ _ | apply List.Sublist.cons_cons | apply List.Sublist.cons)) ⟨os, os2, h.mono (by omega), k.mono (by omega), rfl⟩
end
theorem GL : FnM 6 [.v dF] [] (fun r os' => ∃ g m, r = .val (.v (ptr g)) ∧ os' = [stO g m dF dF 0, smO m 0 [], unO dF [], mkO dF []]) := by
 refine FnM.walk 52 Tryz.func6 rfl Tryz.ntmps6 (by simp) fun X => ?_
 repeat
  (first
   | (apply aB; iterate 3 rfl) | (apply ak; iterate 3 rfl) | (apply oU; iterate 4 rfl) | (apply jo; iterate 7 rfl)
   | (apply vZ; rfl; rfl; rfl; intro _) | (apply aV; rfl; rfl; rfl; intro _) | apply EL.nil
   | (with_reducible first | apply EK.nc | apply EC.seq | apply EC.r0 | apply EC.k0 | apply EC.label | apply EC.b0 | apply EC.x0 | apply EC.ret | apply EK.n0 | apply EK.s0 | apply EK.aA | apply EK.aj | apply EK.ah))
 refine EC.yY 1 (EK.round ?_)
 repeat
  (first
   | (apply aB; iterate 3 rfl) | (apply ak; iterate 3 rfl) | (apply aC (b := false); (iterate 2 rfl); exact aN; iterate 2 rfl) | apply EL.nil
   | (apply EC.f0; rfl)
   | (with_reducible first | apply EK.nc | apply EC.seq | apply EC.r0 | apply EC.k0 | apply EC.label | apply EC.b0 | apply EC.x0 | apply EC.ret | apply EK.n0 | apply EK.s0 | apply EK.aA | apply EK.aj | apply EK.ah))
 rename_i m g
 refine EK.le (Le.row 73 2) ?_
 refine EK.le (Le.row 80 1) ?_
 refine EK.le (Le.pick [2, 3, 0, 1] [_, _, _, _] rfl (by decide) rfl) ?_
 exact EK.bn [stO g m dF dF 0, smO m 0 [], unO dF [], mkO dF []] rfl rfl (by (repeat first | exact KE _ | apply List.Sublist.cons_cons | apply List.Sublist.cons)) ⟨g, m, rfl, rfl⟩
theorem xP : FnM 4 [] [] (fun r os' => r = .val (.v (.bool true)) ∧ os' = []) := by
 have h1 := GL
 refine FnM.walk 30 Tryz.func4 rfl Tryz.ntmps4 (by simp) fun X => ?_
 repeat
  (first
   | (apply dM (os := []) h1; (iterate 2 rfl); exact au.refl _ _; (focus (intro _ _; simp [go_sem]; done)); (iterate 2 rfl); rintro _ _ ⟨g, m, rfl, rfl⟩)
   | (apply aB; iterate 3 rfl) | (apply ak; iterate 3 rfl) | apply EL.nil
   | (with_reducible first | apply EK.nc | apply EC.seq | apply EC.r0 | apply EC.k0 | apply EC.label | apply EC.b0 | apply EC.x0 | apply EC.ret | apply EK.n0 | apply EK.s0 | apply EK.aA | apply EK.aj | apply EK.ah))
 repeat
  (first
   | (apply dO; (iterate 2 rfl); exact (nV (T := 26) rfl (some ⟨g, 0, none⟩)).1; iterate 2 rfl) | (apply aB; iterate 3 rfl) | apply EL.nil
   | (apply EC.f0; rfl)
   | (with_reducible first | apply EK.nc | apply EC.seq | apply EC.r0 | apply EC.k0 | apply EC.label | apply EC.b0 | apply EC.x0 | apply EC.ret | apply EK.n0 | apply EK.s0 | apply EK.aA | apply EK.aj | apply EK.ah))
 refine EL.le (Le.pick [0, 2, 3, 1] [_, _, _, _] rfl (by decide) rfl) ?_
 repeat
  (first
   | (apply dM (Il (g := g) (m := m) (u := dF) (k := dF) (n := 0) (us := []) (ks := []) (by decide) (by decide) (by decide)); (iterate 2 rfl); exact au.refl _ _; (focus (intro _ _; simp [go_sem]; done)); (iterate 2 rfl); rintro _ _ ⟨rfl, k1, rfl⟩)
   | (apply aB; iterate 3 rfl) | (apply ak; iterate 3 rfl) | (apply dI; iterate 5 rfl) | apply EL.nil
   | (with_reducible first | apply EK.nc | apply EC.seq | apply EC.r0 | apply EC.k0 | apply EC.label | apply EC.b0 | apply EC.x0 | apply EC.ret | apply EK.n0 | apply EK.s0 | apply EK.aA | apply EK.aj | apply EK.ah))
 refine EL.le (Le.pick [0, 3, 1, 2] [_, _, _, _] rfl (by decide) rfl) ?_
 repeat
  (first
   | (apply dM (o7 (g := g) (m := m) (c := 0) (u := dF) (k := k1) (n := 0 + 1) (es := []) (a := List.replicate 20 0) (us := []) (ks := [mkD (0 + 1, 0)]) (n' := 5) rfl (by decide)); (iterate 2 rfl); exact au.refl _ _; (focus (intro _ _; simp [go_sem]; done)); (iterate 2 rfl); rintro _ _ ⟨rfl, u1, ga, gs, rfl⟩)
   | (apply aB; iterate 3 rfl) | (apply dI; iterate 5 rfl) | apply EL.nil
   | (with_reducible first | apply EK.nc | apply EC.seq | apply EC.r0 | apply EC.k0 | apply EC.label | apply EC.b0 | apply EC.x0 | apply EC.ret | apply EK.n0 | apply EK.s0 | apply EK.aA | apply EK.aj | apply EK.ah))
 have hin : bC (dN 0 [] (List.replicate 20 0) (.v (ptr ga))) (List.replicate 20 0) = some (.v (ptr ga)) := by rw [gJ, if_pos rfl]
 refine EL.le (Le.pick [0, 1, 4, 2, 3, 5] [_, _, _, _, _, _] rfl (by decide) rfl) ?_
 repeat
  (first
   | (apply dM (sZ (g := g) (m := m) (u := u1) (k := k1) (n := 0 + 1) (b := 5) (w := zero32) (cd := []) (sv := .map (some gs)) hin); (iterate 2 rfl); exact au.refl _ _; (focus (intro _ _; simp [go_sem]; done)); (iterate 2 rfl); rintro _ _ ⟨rfl, rfl⟩)
   | (apply aB; iterate 3 rfl) | (apply ak; iterate 3 rfl) | apply EL.nil
   | (with_reducible first | apply EK.nc | apply EC.seq | apply EC.r0 | apply EC.k0 | apply EC.label | apply EC.b0 | apply EC.x0 | apply EC.ret | apply EK.n0 | apply EK.s0 | apply EK.aA | apply EK.aj | apply EK.ah))
 refine EL.le (Le.pick [0, 1, 3, 4, 2, 5] [_, _, _, _, _, _] rfl (by decide) rfl) ?_
 repeat
  (first
   | (apply dM (FY (g := g) (m := m) (u := u1) (k := k1) (n := 0 + 1) (b := 5) (b0 := 0) (n0 := 0 + 1) (w := zero32) (cd := []) (sv := .map (some gs)) hin); (iterate 2 rfl); exact au.refl _ _; (focus (intro _ _; simp [go_sem]; done)); (iterate 2 rfl); rintro _ _ ⟨rfl, u2, k2, rfl⟩)
   | (apply aB; iterate 3 rfl) | (apply ak; iterate 3 rfl) | (apply dH; iterate 4 rfl)
   | (apply aC (b := true); (iterate 2 rfl); exact aN; iterate 2 rfl) | (apply dI; iterate 5 rfl) | apply EL.nil
   | (with_reducible first | apply EK.nc | apply EC.seq | apply EC.r0 | apply EC.k0 | apply EC.label | apply EC.b0 | apply EC.x0 | apply EC.ret | apply EK.n0 | apply EK.s0 | apply EK.aA | apply EK.aj | apply EK.ah))
 refine EL.le (Le.pick [0, 1, 4, 2, 3, 5] [_, _, _, _, _, _] rfl (by decide) rfl) ?_
 repeat
  (first
   | (apply dM (sZ (g := g) (m := m) (u := u2) (k := k2) (n := 0 + 1) (b := 0) (w := zero32) (cd := []) (sv := .map (some gs)) hin); (iterate 2 rfl); exact au.refl _ _; (focus (intro _ _; simp [go_sem]; done)); (iterate 2 rfl); rintro _ _ ⟨rfl, rfl⟩)
   | (apply ak; iterate 3 rfl) | (apply dH; iterate 4 rfl) | (apply aC (b := true); (iterate 2 rfl); exact aN; iterate 2 rfl) | apply EL.nil
   | (with_reducible first | apply EK.nc | apply EC.seq | apply EC.r0 | apply EC.k0 | apply EC.label | apply EC.b0 | apply EC.x0 | apply EC.ret | apply EK.n0 | apply EK.s0 | apply EK.aA | apply EK.aj | apply EK.ah))
 exact EK.bn [] rfl rfl (KE _) ⟨rfl, rfl⟩
end E
end Go.Proofs.YtkhjanjlcdhdcaaGreat
namespace Go.Proofs.YtkhjanjlcdhdcaaGreat
set_option linter.unusedVariables false
set_option maxRecDepth 20000
set_option maxHeartbeats 8000000
open Go.RowKit Mono Rlp Wd Go.Sort
namespace E
def FX (l : List AcL) : Bool := decide (20 < l.length) || l.any fun x => decide (300 < x.cd.length) || decide (20 < x.sl.length)
theorem JB {α : Type} {p : α → Bool} {l : List α} {i : Nat} (h : i < l.length) (hp : p l[i] = true) : l.any p = true := List.any_eq_true.2 ⟨l[i], LH h, hp⟩
theorem Jt (l : List AcL) : Fn 5 [.sl 55 (l.map aI)] (· = .val (.v (.bool (FX l)))) := by
 have hml : (l.map aI).length = l.length := KG _
 refine Fn.walk 29 Tryz.func5 rfl Tryz.ntmps5 (by simp) fun X => ?_
 unfold FX
 by_cases h20 : 20 < l.length
 ·
  rw [show decide (20 < l.length) = true by simp [h20], Bool.true_or]
  repeat
   (first
    | (apply gV; iterate 2 rfl) | (apply aB; iterate 3 rfl) | (apply ak; iterate 3 rfl) | (apply aH; iterate 6 rfl)
    | (apply dX; iterate 7 rfl) | (apply bP; iterate 5 rfl) | (apply dH; iterate 4 rfl) | (apply aF; rfl; exact I.a; iterate 4 rfl)
    | (apply aC (b := true); (iterate 2 rfl); exact aN; iterate 2 rfl) | (apply aC (b := false); (iterate 2 rfl); exact aN; iterate 2 rfl)
    | (apply aC; iterate 5 rfl) | (apply dQ; (iterate 3 rfl); (focus omega); (focus omega); iterate 2 rfl) | (apply gZ; iterate 4 rfl)
    | (apply aU; iterate 4 rfl) | (apply bU; rfl; exact I.a; iterate 3 rfl) | (apply oU; iterate 4 rfl)
    | (apply dh; (iterate 4 rfl); exact ixA; iterate 2 rfl)
    | (apply jA; (iterate 3 rfl); exact ixA; iterate 2 rfl)
    | (apply jf; rfl; exact I.a; iterate 3 rfl) | (apply bI; rfl; exact I.a; (focus (first | omega | (simp; done) | (simp; omega))); iterate 5 rfl)
    | (apply bY; rfl; exact I.a; (iterate 2 rfl); (focus (first | assumption | omega | (constructor <;> (first | (simp; done) | (simp; omega))))); iterate 2 rfl)
    | ((with_reducible apply EK.h0); apply EK.round) | apply EL.nil | (apply EC.t0; rfl) | (apply EC.f0; rfl)
    | ((with_reducible apply EK.kG); rfl)
    | (with_reducible first | apply EK.nc | apply EC.seq | apply EC.r0 | apply EC.k0 | apply EC.label | apply EC.b0 | apply EC.x0 | apply EC.ret | apply EK.n0 | apply EK.s0 | apply EK.aA | apply EK.aj | apply EK.ah))
  exact EK.kC rfl rfl rfl
 ·
  rw [show decide (20 < l.length) = false by simp [h20], Bool.false_or]
  repeat
   (first
    | (apply gV; iterate 2 rfl) | (apply aB; iterate 3 rfl) | (apply ak; iterate 3 rfl) | (apply aH; iterate 6 rfl)
    | (apply dX; iterate 7 rfl) | (apply bP; iterate 5 rfl) | (apply dH; iterate 4 rfl) | (apply aF; rfl; exact I.a; iterate 4 rfl)
    | (apply aC (b := true); (iterate 2 rfl); exact aN; iterate 2 rfl) | (apply aC (b := false); (iterate 2 rfl); exact aN; iterate 2 rfl)
    | (apply aC; iterate 5 rfl) | (apply dQ; (iterate 3 rfl); (focus omega); (focus omega); iterate 2 rfl) | (apply gZ; iterate 4 rfl)
    | (apply aU; iterate 4 rfl) | (apply bU; rfl; exact I.a; iterate 3 rfl) | (apply oU; iterate 4 rfl)
    | (apply dh; (iterate 4 rfl); exact ixA; iterate 2 rfl)
    | (apply jA; (iterate 3 rfl); exact ixA; iterate 2 rfl)
    | (apply jf; rfl; exact I.a; iterate 3 rfl) | (apply bI; rfl; exact I.a; (focus (first | omega | (simp; done) | (simp; omega))); iterate 5 rfl)
    | (apply bY; rfl; exact I.a; (iterate 2 rfl); (focus (first | assumption | omega | (constructor <;> (first | (simp; done) | (simp; omega))))); iterate 2 rfl)
    | ((with_reducible apply EK.h0); apply EK.round) | apply EL.nil | (apply EC.t0; rfl) | (apply EC.f0; rfl)
    | ((with_reducible apply EK.kG); rfl)
    | (with_reducible first | apply EK.nc | apply EC.seq | apply EC.r0 | apply EC.k0 | apply EC.label | apply EC.b0 | apply EC.x0 | apply EC.ret | apply EK.n0 | apply EK.s0 | apply EK.aA | apply EK.aj | apply EK.ah))
  refine EC.loop (ι := {i : Nat // i ≤ l.length ∧ (l.take i).any (fun x => decide (300 < x.cd.length) || decide (20 < x.sl.length)) = false})
   (fun i => ⟨[(3, .val (.v (.int .i64 (i.1 : Int)))), (0, .val (.sl 55 (l.map aI)))], [], []⟩)
   (fun i => l.length - i.1) ⟨0, Lj _, rfl⟩ ?_ ?_
  · exact Le.kp
  rintro ⟨i, hi, hno⟩
  dsimp only at hi ⊢
  by_cases hlt : i < l.length
  ·
   have hd : (l.map aI)[i]? = some (aI l[i]) := by rw [List.getElem?_map, KA hlt]; rfl
   have htk : l.take (i + 1) = l.take i ++ [l[i]] := LG hlt
   have hat := JB (p := fun x : AcL => decide (300 < x.cd.length) || decide (20 < x.sl.length)) hlt
   generalize l[i] = x at hd htk hat
   have hsl : (x.sl.map aZ).length = x.sl.length := KG _
   unfold aI at hd
   by_cases hc : 300 < x.cd.length
   ·
    rw [hat (by simp [hc])]
    repeat
     (first
      | (apply gV; iterate 2 rfl) | (apply aB; iterate 3 rfl) | (apply ak; iterate 3 rfl) | (apply aH; iterate 6 rfl)
      | (apply dX; iterate 7 rfl) | (apply bP; iterate 5 rfl) | (apply dH; iterate 4 rfl) | (apply aF; rfl; exact I.a; iterate 4 rfl)
      | (apply aC (b := true); (iterate 2 rfl); exact aN; iterate 2 rfl) | (apply aC (b := false); (iterate 2 rfl); exact aN; iterate 2 rfl)
      | (apply aC; iterate 5 rfl) | (apply dQ; (iterate 3 rfl); (focus omega); (focus omega); iterate 2 rfl) | (apply gZ; iterate 4 rfl)
      | (apply aU; iterate 4 rfl) | (apply bU; rfl; exact I.a; iterate 3 rfl) | (apply oU; iterate 4 rfl)
      | (apply dh; (iterate 4 rfl); exact ixA; iterate 2 rfl)
      | (apply jA; (iterate 3 rfl); exact ixA; iterate 2 rfl)
      | (apply jf; rfl; exact I.a; iterate 3 rfl) | (apply bI; rfl; exact I.a; (focus (first | omega | (simp; done) | (simp; omega))); iterate 5 rfl)
      | (apply bY; rfl; exact I.a; (iterate 2 rfl); (focus (first | assumption | omega | (constructor <;> (first | (simp; done) | (simp; omega))))); iterate 2 rfl)
      | ((with_reducible apply EK.h0); apply EK.round) | apply EL.nil | (apply EC.t0; rfl) | (apply EC.f0; rfl)
      | ((with_reducible apply EK.kG); rfl)
      | (with_reducible first | apply EK.nc | apply EC.seq | apply EC.r0 | apply EC.k0 | apply EC.label | apply EC.b0 | apply EC.x0 | apply EC.ret | apply EK.n0 | apply EK.s0 | apply EK.aA | apply EK.aj | apply EK.ah))
    exact EK.kC rfl rfl rfl
   ·
    by_cases hs : 20 < x.sl.length
    ·
     rw [hat (by simp [hs])]
     repeat
      (first
       | (apply gV; iterate 2 rfl) | (apply aB; iterate 3 rfl) | (apply ak; iterate 3 rfl) | (apply aH; iterate 6 rfl)
       | (apply dX; iterate 7 rfl) | (apply bP; iterate 5 rfl) | (apply dH; iterate 4 rfl) | (apply aF; rfl; exact I.a; iterate 4 rfl)
       | (apply aC (b := true); (iterate 2 rfl); exact aN; iterate 2 rfl) | (apply aC (b := false); (iterate 2 rfl); exact aN; iterate 2 rfl)
       | (apply aC; iterate 5 rfl) | (apply dQ; (iterate 3 rfl); (focus omega); (focus omega); iterate 2 rfl) | (apply gZ; iterate 4 rfl)
       | (apply aU; iterate 4 rfl) | (apply bU; rfl; exact I.a; iterate 3 rfl) | (apply oU; iterate 4 rfl)
       | (apply dh; (iterate 4 rfl); exact ixA; iterate 2 rfl)
       | (apply jA; (iterate 3 rfl); exact ixA; iterate 2 rfl)
       | (apply jf; rfl; exact I.a; iterate 3 rfl) | (apply bI; rfl; exact I.a; (focus (first | omega | (simp; done) | (simp; omega))); iterate 5 rfl)
       | (apply bY; rfl; exact I.a; (iterate 2 rfl); (focus (first | assumption | omega | (constructor <;> (first | (simp; done) | (simp; omega))))); iterate 2 rfl)
       | ((with_reducible apply EK.h0); apply EK.round) | apply EL.nil | (apply EC.t0; rfl) | (apply EC.f0; rfl)
       | ((with_reducible apply EK.kG); rfl)
       | (with_reducible first | apply EK.nc | apply EC.seq | apply EC.r0 | apply EC.k0 | apply EC.label | apply EC.b0 | apply EC.x0 | apply EC.ret | apply EK.n0 | apply EK.s0 | apply EK.aA | apply EK.aj | apply EK.ah))
     exact EK.kC rfl rfl rfl
    ·
     skip
     repeat
      (first
       | (apply gV; iterate 2 rfl) | (apply aB; iterate 3 rfl) | (apply ak; iterate 3 rfl) | (apply aH; iterate 6 rfl)
       | (apply dX; iterate 7 rfl) | (apply bP; iterate 5 rfl) | (apply dH; iterate 4 rfl) | (apply aF; rfl; exact I.a; iterate 4 rfl)
       | (apply aC (b := true); (iterate 2 rfl); exact aN; iterate 2 rfl) | (apply aC (b := false); (iterate 2 rfl); exact aN; iterate 2 rfl)
       | (apply aC; iterate 5 rfl) | (apply dQ; (iterate 3 rfl); (focus omega); (focus omega); iterate 2 rfl) | (apply gZ; iterate 4 rfl)
       | (apply aU; iterate 4 rfl) | (apply bU; rfl; exact I.a; iterate 3 rfl) | (apply oU; iterate 4 rfl)
       | (apply dh; (iterate 4 rfl); exact ixA; iterate 2 rfl)
       | (apply jA; (iterate 3 rfl); exact ixA; iterate 2 rfl)
       | (apply jf; rfl; exact I.a; iterate 3 rfl) | (apply bI; rfl; exact I.a; (focus (first | omega | (simp; done) | (simp; omega))); iterate 5 rfl)
       | (apply bY; rfl; exact I.a; (iterate 2 rfl); (focus (first | assumption | omega | (constructor <;> (first | (simp; done) | (simp; omega))))); iterate 2 rfl)
       | ((with_reducible apply EK.h0); apply EK.round) | apply EL.nil | (apply EC.t0; rfl) | (apply EC.f0; rfl)
       | ((with_reducible apply EK.kG); rfl)
       | (with_reducible first | apply EK.nc | apply EC.seq | apply EC.r0 | apply EC.k0 | apply EC.label | apply EC.b0 | apply EC.x0 | apply EC.ret | apply EK.n0 | apply EK.s0 | apply EK.aA | apply EK.aj | apply EK.ah))
     refine EK.again ⟨i + 1, hlt, ?_⟩ (by dsimp only; omega) ?_
     ·
      rw [htk, List.any_append, hno]
      simp [hc, hs]
     ·
      simp only [Ls]
      exact Le.kp
  ·
   have hiE : i = l.length := by omega
   subst hiE
   rw [MS] at hno
   rw [hno]
   repeat
    (first
     | (apply gV; iterate 2 rfl) | (apply aB; iterate 3 rfl) | (apply ak; iterate 3 rfl) | (apply aH; iterate 6 rfl)
     | (apply dX; iterate 7 rfl) | (apply bP; iterate 5 rfl) | (apply dH; iterate 4 rfl) | (apply aF; rfl; exact I.a; iterate 4 rfl)
     | (apply aC (b := true); (iterate 2 rfl); exact aN; iterate 2 rfl) | (apply aC (b := false); (iterate 2 rfl); exact aN; iterate 2 rfl)
     | (apply aC; iterate 5 rfl) | (apply dQ; (iterate 3 rfl); (focus omega); (focus omega); iterate 2 rfl) | (apply gZ; iterate 4 rfl)
     | (apply aU; iterate 4 rfl) | (apply bU; rfl; exact I.a; iterate 3 rfl) | (apply oU; iterate 4 rfl)
     | (apply dh; (iterate 4 rfl); exact ixA; iterate 2 rfl)
     | (apply jA; (iterate 3 rfl); exact ixA; iterate 2 rfl)
     | (apply jf; rfl; exact I.a; iterate 3 rfl) | (apply bI; rfl; exact I.a; (focus (first | omega | (simp; done) | (simp; omega))); iterate 5 rfl)
     | (apply bY; rfl; exact I.a; (iterate 2 rfl); (focus (first | assumption | omega | (constructor <;> (first | (simp; done) | (simp; omega))))); iterate 2 rfl)
     | ((with_reducible apply EK.h0); apply EK.round) | apply EL.nil | (apply EC.t0; rfl) | (apply EC.f0; rfl)
     | ((with_reducible apply EK.kG); rfl)
     | (with_reducible first | apply EK.nc | apply EC.seq | apply EC.r0 | apply EC.k0 | apply EC.label | apply EC.b0 | apply EC.x0 | apply EC.ret | apply EK.n0 | apply EK.s0 | apply EK.aA | apply EK.aj | apply EK.ah))
   exact EK.kC rfl rfl rfl
theorem Gl {l : List AcL} (h : FX l = false) : l.length ≤ 20 ∧ ∀ x ∈ l, x.cd.length ≤ 300 ∧ x.sl.length ≤ 20 := by
 unfold FX at h
 rw [Bool.or_eq_false_iff, decide_eq_false_iff_not, List.any_eq_false] at h
 refine ⟨by omega, fun x hx => ?_⟩
 have := h.2 x hx
 simp only [NU, decide_eq_true_eq, not_or] at this
 omega
end E
end Go.Proofs.YtkhjanjlcdhdcaaGreat
