/-
 Merged: lemmas of this claim.
 Conditions: none.
-/
import Derived.Test.YtkhjanjlcdhdcaaGreatZQ11
import Derived.Test.YtkhjanjlcdhdcaaGreatZQ21
import Derived.Test.YtkhjanjlcdhdcaaGreatZQ13
import Derived.Test.YtkhjanjlcdhdcaaGreatZQ18
import Derived.Test.YtkhjanjlcdhdcaaGreatZQ2
import Derived.OpenShut
import Derived.Deep.Slices
import Derived.ChangeSame
import Derived.SizedLaws
import Derived.Test.YtkhjanjlcdhdcaaGreatZQ0
namespace Go.Proofs.YtkhjanjlcdhdcaaGreat
set_option linter.unusedVariables false
set_option maxRecDepth 20000
set_option maxHeartbeats 16000000
open Go.RowKit Mono Rlp Wd
namespace E
theorem BM (a b : BitVec 8) : bits .xor .u8 (a.toNat : Int) (b.toNat : Int) = ((a ^^^ b).toNat : Int) := by
 rw [u8_xor_nat _ _ a.isLt b.isLt, BitVec.toNat_xor]
theorem ED (a b : UInt8) : Bin .xor 5 (.v (bv a)) (.v (bv b)) (bv (a ^^^ b)) := gB rfl fun w => by
 show Result.ok (Value.int .u8 (bits .xor .u8 (a.toBitVec.toNat : Int) (b.toBitVec.toNat : Int))) w = _
 rw [BM]
 rfl
structure AtL where
 way : Int
 n : Int
 a : List UInt8
 b : List UInt8
 k : List UInt8
 w : List UInt8
 cd : List UInt8
def kE (x : AtL) : D := .tup [.v (.int .i64 x.way), .v (.int .i64 x.n), .arr 20 x.a, .arr 20 x.b, .arr 32 x.k, .arr 32 x.w, .bs x.cd]
def AtL.of (x : AtL) (A : As) : As :=
 if x.way = 0 then A.upd x.a {A x.a with n := if x.n > 0 then x.n else 0}
 else if x.way = 1 then A.upd x.a {A x.a with w := x.w}
 else if x.way = 2 then A.upd x.a {A x.a with cd := x.cd}
 else if x.way = 3 then A.upd x.a ((A x.a).slot x.k x.w)
 else if x.way = 4 then mvA A x.a x.b x.w
 else if x.way = 5 then A.upd x.a Ac.zero
 else A
section
variable {g g2 N M : Nat} {A : As} {os os2 : List Obj}
theorem Ej (x : AtL) (h : GSt g A N os) (k : RSt g2 A M os2) (hN : N + 2 < 1099511627776) (hM : M + 2 ≤ 1000000) (hx : (A x.a).w.length = 32) (hy : (A x.b).w.length = 32) (hw : x.w.length = 32) (hc : x.cd.length ≤ 140737488355328) (h6 : x.way < 6) : FnM 9 [.v (ptr g), .v (ptr g2), kE x, .v bF] (os ++ os2) (fun r os' => ∃ os1' os2', GSt g (x.of A) (N + 2) os1' ∧ RSt g2 (x.of A) (M + 2) os2' ∧ os' = os1' ++ os2') := by
 obtain ⟨way, n, a, b, q, w, cd⟩ := x
 unfold kE AtL.of
 dsimp only at hx hy hw hc h6 ⊢
 refine FnM.walk 177 Tryz.func9 rfl Tryz.ntmps9 (by simp) fun X => ?_
 by_cases h0 : way = 0
 ·
  subst h0
  rw [if_pos rfl]
  repeat (refine stp ?_; intros)
  refine aK (zh (a := a) h (by omega) n) [_] os2 rfl rfl (aj.refl _ _) (by intro _ _; simp [go_sem]) rfl rfl ?_
  rintro _ os3 ⟨rfl, hP⟩
  simp only [KD, KE]
  repeat (refine stp ?_; intros)
  refine aK (oL (a := a) k (by omega) n) (_ :: os3) [] (by rw [Lh]; rfl) rfl (aj.refl _ _) (by intro _ _; simp [go_sem]) rfl rfl ?_
  rintro _ os4 ⟨rfl, hR⟩
  rw [Lh]
  simp only [KD]
  repeat (refine stp ?_; intros)
  exact EK.iD (os3 ++ os4) rfl rfl rfl (aj.refl _ _) (by (repeat first | exact La _ | apply List.Sublist.cons_cons | apply List.Sublist.cons)) ⟨os3, os4, hP.mono (by omega), hR.mono (by omega), rfl⟩
 rw [if_neg h0]
 by_cases h1 : way = 1
 ·
  subst h1
  rw [if_pos rfl]
  repeat (refine stp ?_; intros)
  refine aK (jl (a := a) h (by omega) w) [_] os2 rfl rfl (aj.refl _ _) (by intro _ _; simp [go_sem]) rfl rfl ?_
  rintro _ os3 ⟨rfl, hP⟩
  simp only [KD, KE]
  repeat (refine stp ?_; intros)
  refine aK (fK (a := a) k (by omega) w) (_ :: os3) [] (by rw [Lh]; rfl) rfl (aj.refl _ _) (by intro _ _; simp [go_sem]) rfl rfl ?_
  rintro _ os4 ⟨rfl, hR⟩
  rw [Lh]
  simp only [KD]
  repeat (refine stp ?_; intros)
  exact EK.iD (os3 ++ os4) rfl rfl rfl (aj.refl _ _) (by (repeat first | exact La _ | apply List.Sublist.cons_cons | apply List.Sublist.cons)) ⟨os3, os4, hP.mono (by omega), hR.mono (by omega), rfl⟩
 rw [if_neg h1]
 by_cases h2 : way = 2
 ·
  subst h2
  rw [if_pos rfl]
  repeat (refine stp ?_; intros)
  refine EL.le (Le.row 5 1) ?_
  repeat
   (first
    | (apply Cc; rfl; exact .z; (iterate 4 rfl); (constructor <;> (simp; omega)); intro u) | (refine stp ?_; intros))
  simp only [KE]
  have hcl : (bvD cd).length = cd.length := KR _
  refine EL.le (Le.perm (.swap _ _ _)) ?_
  refine aK (Bv (a := a) h (by omega) u cd hc) [_] os2 rfl rfl (aj.refl _ _) (by intro _ _; simp [go_sem]) rfl rfl ?_
  rintro _ _ ⟨rfl, os3, hP, rfl⟩
  simp only [KD, KE]
  repeat (refine stp ?_; intros)
  rename_i gx
  refine EC.loop (ι := {s : Nat × List UInt8 // s.1 ≤ cd.length ∧ s.2.length = cd.length})
   (fun s => ⟨[(11, .val (.v (.int .i64 (s.1.1 : Int)))), (10, .val (.v u)), (16, .val (.v (.int .i64 2))), (6, .val (.v (ptr gx))), (3, .val (.v bF)), (1, .val (.v (ptr g2)))], .var gx 37 (.tup [.v (.int .i64 2), .v (.int .i64 n), .arr 20 a, .arr 20 b, .arr 32 q, .arr 32 w, .bs cd]) :: rwO u s.1.2 :: (os3 ++ os2), []⟩)
   (fun s => cd.length - s.1.1) ⟨(0, cd), Lr _, rfl⟩ ?_ ?_
  · exact (Le.keep (by repeat first | exact trivial | refine ⟨rfl, ?_⟩) (by repeat first | exact La _ | apply List.Sublist.cons_cons | apply List.Sublist.cons) (by simp))
  rintro ⟨⟨j, c⟩, hj, hc2⟩
  dsimp only at hj hc2 ⊢
  have hbl : (bvD c).length = cd.length := by rw [bvD, KR, hc2]
  by_cases hlt : j < cd.length
  ·
   have hbj : (bvD c)[j]? = some (.v (bv (c[j]'(by omega)))) := by rw [bvD, List.getElem?_map, KJ (by omega)]; rfl
   generalize (c[j]'(by omega)) = z at hbj
   have hx8 : Bin .xor 5 (.v (bv z)) (.v (.int .u8 255)) (bv (z ^^^ 255)) := ED z 255
   repeat
    (first
     | (refine bM (hrun := hx8) (kk := ?_)) | (apply kM; rfl; exact I1; (iterate 2 rfl); exact ⟨by omega, by omega⟩; iterate 2 rfl)
     | (apply aU (k := j) (off := 0) (d := .v (bv z)); rfl; exact I1; exact ⟨by omega, hbj⟩; iterate 4 rfl)
     | (apply bn (k := j) (off := 0) (d := .v (bv z)) (d'' := .v (bv (z ^^^ 255))); rfl; exact .s .z; exact ⟨by omega, hbj⟩; iterate 4 rfl) | (refine stp ?_; intros))
   rw [show (bvD c).set j (.v (bv (z ^^^ 255))) = bvD (c.set j (z ^^^ 255)) from (List.map_set ..).symm]
   refine EK.again ⟨(j + 1, c.set j (z ^^^ 255)), hlt, by rw [Oc]; exact hc2⟩ (by dsimp only; omega) ?_
   simp only [LM]
   exact (Le.keep (by repeat first | exact trivial | refine ⟨rfl, ?_⟩) (by repeat first | exact La _ | apply List.Sublist.cons_cons | apply List.Sublist.cons) (by simp))
  ·
   obtain rfl : j = cd.length := by omega
   repeat (refine stp ?_; intros)
   refine aK (qp (a := a) k (by omega) cd hc) (_ :: _ :: os3) [] (by rw [Lh]; rfl) rfl (aj.refl _ _) (by intro _ _; simp [go_sem]) rfl rfl ?_
   rintro _ os4 ⟨rfl, hR⟩
   rw [Lh]
   simp only [KD]
   repeat (refine stp ?_; intros)
   exact EK.iD (os3 ++ os4) rfl rfl rfl (aj.refl _ _) (by (repeat first | exact La _ | apply List.Sublist.cons_cons | apply List.Sublist.cons)) ⟨os3, os4, hP.mono (by omega), hR.mono (by omega), rfl⟩
 rw [if_neg h2]
 by_cases h3 : way = 3
 ·
  subst h3
  rw [if_pos rfl]
  repeat (refine stp ?_; intros)
  refine aK (Bq (a := a) h (by omega) q w) [_] os2 rfl rfl (aj.refl _ _) (by intro _ _; simp [go_sem]) rfl rfl ?_
  rintro _ os3 ⟨rfl, hP⟩
  simp only [KD, KE]
  repeat (refine stp ?_; intros)
  refine aK (qo (a := a) k (by omega) q w) (_ :: os3) [] (by rw [Lh]; rfl) rfl (aj.refl _ _) (by intro _ _; simp [go_sem]) rfl rfl ?_
  rintro _ os4 ⟨rfl, hR⟩
  rw [Lh]
  simp only [KD]
  repeat (refine stp ?_; intros)
  exact EK.iD (os3 ++ os4) rfl rfl rfl (aj.refl _ _) (by (repeat first | exact La _ | apply List.Sublist.cons_cons | apply List.Sublist.cons)) ⟨os3, os4, hP.mono (by omega), hR.mono (by omega), rfl⟩
 rw [if_neg h3]
 by_cases h4 : way = 4
 ·
  subst h4
  rw [if_pos rfl]
  have hP := (Kw h hN hx hy hw).frame os2
  have hR := fun os1 : List Obj => ((JI k hM hx hy hw).frame os1).perm (os2 := os1 ++ os2) Lm
  have hq := (EG (iy A a b w) (iy A a b w)).1
  rw [beq_self_eq_true] at hq
  generalize iy A a b w = ok at hP hR hq
  generalize hoo : os ++ os2 = oo at hP ⊢
  repeat (refine stp ?_; intros)
  refine EC.le (Le.perm (Lm (l₁ := [_]))) ?_
  refine EC.JZ 19 [0, 1, 2, 3, 4, 5, 6, 7, 9, 10, 11, 12, 13, 14, 15] [8, 16, 17, 18] oo _ (by kernel_rfl) (by kernel_rfl) rfl ?_
  simp only [aA, KU, KY, KN, KP]
  repeat (refine sth ?_; intros)
  refine EM.nil ?_
  repeat (first | rw [KD] | rw [KE])
  refine CT.pick [8] (by kernel_rfl) fun k hk => ?_
  obtain rfl : k = 8 := (by simpa using hk)
  clear hk
  simp only [aA, KU, KY, KN, KP]
  refine CH.bP (os := oo) (rest := []) hP (k := ?_)
  rintro _ _ ⟨os3, ⟨rfl, hP⟩, rfl⟩
  try simp only [St.put]
  refine CH.nil ?_
  refine CT.pick [16] (by kernel_rfl) fun k hk => ?_
  obtain rfl : k = 16 := (by simpa using hk)
  clear hk
  simp only [aA, KU, KY, KN, KP]
  refine CH.bP (os := os3 ++ os2) (rest := []) (hR os3) (k := ?_)
  rintro _ _ ⟨os4, ⟨rfl, hR⟩, rfl⟩
  try simp only [St.put]
  refine CH.nil ?_
  refine CT.pick [17, 18] (by kernel_rfl) fun k hk => ?_
  rcases (show k = 17 ∨ k = 18 by simpa using hk) with rfl | rfl
  all_goals clear hk
  ·
   skip
   simp only [aA, KU, KY, KN, KP]
   refine CH.cut 1 ?_
   simp only [KG, KI, KF, KH]
   repeat
    (first
     | (refine dP (hrun := hq) (kk := ?_)))
   refine EM.nil ?_
   repeat (first | rw [KD] | rw [KE])
   refine CH.nil ?_
   refine CT.pick [18] (by kernel_rfl) fun k hk => ?_
   obtain rfl : k = 18 := (by simpa using hk)
   clear hk
   simp only [aA, KU, KY, KN, KP]
   refine CH.cut 1 ?_
   simp only [KG, KI, KF, KH]
   repeat (refine sth ?_; intros)
   refine EM.nil ?_
   repeat (first | rw [KD] | rw [KE])
   refine CH.nil ?_
   refine CT.nil ?_
   repeat (refine stp ?_; intros)
   refine EK.le (Le.perm (Lm (l₂ := [_]))) ?_
   simp only [KD, KE]
   refine EK.le (Le.perm (List.Perm.cons _ Lm)) ?_
   exact EK.iD (os3 ++ os4) rfl rfl rfl (aj.refl _ _) (by (repeat first | exact La _ | apply List.Sublist.cons_cons | apply List.Sublist.cons)) ⟨os3, os4, hP, hR, rfl⟩
  ·
   skip
   simp only [aA, KU, KY, KN, KP]
   refine CH.cut 1 ?_
   simp only [KG, KI, KF, KH]
   repeat (refine sth ?_; intros)
   refine EM.nil ?_
   repeat (first | rw [KD] | rw [KE])
   refine CH.nil ?_
   refine CT.pick [17] (by kernel_rfl) fun k hk => ?_
   obtain rfl : k = 17 := (by simpa using hk)
   clear hk
   simp only [aA, KU, KY, KN, KP]
   refine CH.cut 1 ?_
   simp only [KG, KI, KF, KH]
   repeat
    (first
     | (refine dP (hrun := hq) (kk := ?_)))
   refine EM.nil ?_
   repeat (first | rw [KD] | rw [KE])
   refine CH.nil ?_
   refine CT.nil ?_
   repeat (refine stp ?_; intros)
   refine EK.le (Le.perm (Lm (l₂ := [_]))) ?_
   simp only [KD, KE]
   refine EK.le (Le.perm (List.Perm.cons _ Lm)) ?_
   exact EK.iD (os3 ++ os4) rfl rfl rfl (aj.refl _ _) (by (repeat first | exact La _ | apply List.Sublist.cons_cons | apply List.Sublist.cons)) ⟨os3, os4, hP, hR, rfl⟩
 rw [if_neg h4]
 by_cases h5 : way = 5
 ·
  subst h5
  rw [if_pos rfl]
  repeat (refine stp ?_; intros)
  refine aK (Jc (a := a) h (by omega)) [_] os2 rfl rfl (aj.refl _ _) (by intro _ _; simp [go_sem]) rfl rfl ?_
  rintro _ os3 ⟨rfl, hP⟩
  simp only [KD, KE]
  repeat (refine stp ?_; intros)
  refine aK (zO (a := a) k (by omega)) (_ :: os3) [] (by rw [Lh]; rfl) rfl (aj.refl _ _) (by intro _ _; simp [go_sem]) rfl rfl ?_
  rintro _ os4 ⟨rfl, hR⟩
  rw [Lh]
  simp only [KD]
  repeat (refine stp ?_; intros)
  exact EK.iD (os3 ++ os4) rfl rfl rfl (aj.refl _ _) (by (repeat first | exact La _ | apply List.Sublist.cons_cons | apply List.Sublist.cons)) ⟨os3, os4, hP.mono (by omega), hR.mono (by omega), rfl⟩
 rw [if_neg h5]
 repeat (refine stp ?_; intros)
 exact EK.iD (os ++ os2) rfl rfl rfl (aj.refl _ _) (by (repeat first | exact La _ | apply List.Sublist.cons_cons | apply List.Sublist.cons)) ⟨os, os2, h.mono (by omega), k.mono (by omega), rfl⟩
end
theorem F8 : FnM 6 [.v bF] [] (fun r os' => ∃ g m, r = .val (.v (ptr g)) ∧ os' = [stO g m bF bF 0, smO m 0 [], unO bF [], mkO bF []]) := by
 refine FnM.walk 52 Tryz.func6 rfl Tryz.ntmps6 (by simp) fun X => ?_
 repeat (refine stp ?_; intros)
 refine EC.xq 1 (EK.round ?_)
 repeat (refine stp ?_; intros)
 rename_i m g
 refine EK.le (Le.row 73 2) ?_
 refine EK.le (Le.row 80 1) ?_
 refine EK.le (Le.pick [2, 3, 0, 1] [_, _, _, _] rfl (by decide) rfl) ?_
 exact EK.aI [stO g m bF bF 0, smO m 0 [], unO bF [], mkO bF []] rfl rfl (by (repeat first | exact KO _ | apply List.Sublist.cons_cons | apply List.Sublist.cons)) ⟨g, m, rfl, rfl⟩
theorem vK : FnM 4 [] [] (fun r os' => r = .val (.v (.bool true)) ∧ os' = []) := by
 have h1 := F8
 refine FnM.walk 30 Tryz.func4 rfl Tryz.ntmps4 (by simp) fun X => ?_
 repeat
  (first
   | (refine bJ (os := []) h1 (kk := ?_); rintro _ _ ⟨g, m, rfl, rfl⟩) | (refine stp ?_; intros))
 repeat
  (first
   | (apply bM; (iterate 2 rfl); exact (lG (T := 26) rfl (some ⟨g, 0, none⟩)).1; iterate 2 rfl) | (refine stp ?_; intros))
 refine EL.le (Le.pick [0, 2, 3, 1] [_, _, _, _] rfl (by decide) rfl) ?_
 repeat
  (first
   | (refine bJ (Ib (g := g) (m := m) (u := bF) (k := bF) (n := 0) (us := []) (ks := []) (by decide) (by decide) (by decide)) (kk := ?_); rintro _ _ ⟨rfl, k1, rfl⟩)
   | (refine stp ?_; intros))
 refine EL.le (Le.pick [0, 3, 1, 2] [_, _, _, _] rfl (by decide) rfl) ?_
 repeat
  (first
   | (refine bJ (mP (g := g) (m := m) (c := 0) (u := bF) (k := k1) (n := 0 + 1) (es := []) (a := List.replicate 20 0) (us := []) (ks := [mkD (0 + 1, 0)]) (n' := 5) rfl (by decide)) (kk := ?_); rintro _ _ ⟨rfl, u1, ga, gs, rfl⟩)
   | (refine stp ?_; intros))
 have hin : aJ (bK 0 [] (List.replicate 20 0) (.v (ptr ga))) (List.replicate 20 0) = some (.v (ptr ga)) := by rw [dX, if_pos rfl]
 refine EL.le (Le.pick [0, 1, 4, 2, 3, 5] [_, _, _, _, _, _] rfl (by decide) rfl) ?_
 repeat
  (first
   | (refine bJ (qE (g := g) (m := m) (u := u1) (k := k1) (n := 0 + 1) (b := 5) (w := zero32) (cd := []) (sv := .map (some gs)) hin) (kk := ?_); rintro _ _ ⟨rfl, rfl⟩)
   | (refine stp ?_; intros))
 refine EL.le (Le.pick [0, 1, 3, 4, 2, 5] [_, _, _, _, _, _] rfl (by decide) rfl) ?_
 repeat
  (first
   | (refine bJ (EJ (g := g) (m := m) (u := u1) (k := k1) (n := 0 + 1) (b := 5) (b0 := 0) (n0 := 0 + 1) (w := zero32) (cd := []) (sv := .map (some gs)) hin) (kk := ?_); rintro _ _ ⟨rfl, u2, k2, rfl⟩)
   | (refine stp ?_; intros))
 refine EL.le (Le.pick [0, 1, 4, 2, 3, 5] [_, _, _, _, _, _] rfl (by decide) rfl) ?_
 repeat
  (first
   | (refine bJ (qE (g := g) (m := m) (u := u2) (k := k2) (n := 0 + 1) (b := 0) (w := zero32) (cd := []) (sv := .map (some gs)) hin) (kk := ?_); rintro _ _ ⟨rfl, rfl⟩)
   | (refine stp ?_; intros))
 exact EK.aI [] rfl rfl (KO _) ⟨rfl, rfl⟩
end E
end Go.Proofs.YtkhjanjlcdhdcaaGreat
namespace Go.Proofs.YtkhjanjlcdhdcaaGreat
set_option linter.unusedVariables false
set_option maxRecDepth 20000
set_option maxHeartbeats 8000000
open Go.RowKit Mono Rlp Wd Go.Sort
namespace E
def EI (l : List AcL) : Bool := decide (20 < l.length) || l.any fun x => decide (300 < x.cd.length) || decide (20 < x.sl.length)
theorem Jt {α : Type} {p : α → Bool} {l : List α} {i : Nat} (h : i < l.length) (hp : p l[i] = true) : l.any p = true := List.any_eq_true.2 ⟨l[i], LW h, hp⟩
theorem Jl (l : List AcL) : Fn 5 [.sl 55 (l.map ak)] (· = .val (.v (.bool (EI l)))) := by
 have hml : (l.map ak).length = l.length := KR _
 refine Fn.walk 29 Tryz.func5 rfl Tryz.ntmps5 (by simp) fun X => ?_
 unfold EI
 by_cases h20 : 20 < l.length
 ·
  rw [show decide (20 < l.length) = true by simp [h20], Bool.true_or]
  repeat (refine stp ?_; intros)
  exact EK.iU rfl rfl rfl
 ·
  rw [show decide (20 < l.length) = false by simp [h20], Bool.false_or]
  repeat (refine stp ?_; intros)
  refine EC.loop (ι := {i : Nat // i ≤ l.length ∧ (l.take i).any (fun x => decide (300 < x.cd.length) || decide (20 < x.sl.length)) = false})
   (fun i => ⟨[(3, .val (.v (.int .i64 (i.1 : Int)))), (0, .val (.sl 55 (l.map ak)))], [], []⟩)
   (fun i => l.length - i.1) ⟨0, Lr _, rfl⟩ ?_ ?_
  · exact Le.kp
  rintro ⟨i, hi, hno⟩
  dsimp only at hi ⊢
  by_cases hlt : i < l.length
  ·
   have hd : (l.map ak)[i]? = some (ak l[i]) := by rw [List.getElem?_map, KJ hlt]; rfl
   have htk : l.take (i + 1) = l.take i ++ [l[i]] := LU hlt
   have hat := Jt (p := fun x : AcL => decide (300 < x.cd.length) || decide (20 < x.sl.length)) hlt
   generalize l[i] = x at hd htk hat
   have hsl : (x.sl.map aG).length = x.sl.length := KR _
   unfold ak at hd
   by_cases hc : 300 < x.cd.length
   ·
    rw [hat (by simp [hc])]
    repeat (refine stp ?_; intros)
    exact EK.iU rfl rfl rfl
   ·
    by_cases hs : 20 < x.sl.length
    ·
     rw [hat (by simp [hs])]
     repeat (refine stp ?_; intros)
     exact EK.iU rfl rfl rfl
    ·
     skip
     repeat (refine stp ?_; intros)
     refine EK.again ⟨i + 1, hlt, ?_⟩ (by dsimp only; omega) ?_
     ·
      rw [htk, List.any_append, hno]
      simp [hc, hs]
     ·
      simp only [LM]
      exact Le.kp
  ·
   have hiE : i = l.length := by omega
   subst hiE
   rw [Nh] at hno
   rw [hno]
   repeat (refine stp ?_; intros)
   exact EK.iU rfl rfl rfl
theorem FI {l : List AcL} (h : EI l = false) : l.length ≤ 20 ∧ ∀ x ∈ l, x.cd.length ≤ 300 ∧ x.sl.length ≤ 20 := by
 unfold EI at h
 rw [Bool.or_eq_false_iff, decide_eq_false_iff_not, List.any_eq_false] at h
 refine ⟨by omega, fun x hx => ?_⟩
 have := h.2 x hx
 simp only [Oa, decide_eq_true_eq, not_or] at this
 omega
end E
end Go.Proofs.YtkhjanjlcdhdcaaGreat
namespace Go.Proofs.YtkhjanjlcdhdcaaGreat
set_option linter.unusedVariables false
set_option maxRecDepth 20000
set_option maxHeartbeats 16000000
open Go.RowKit Mono Rlp Wd
namespace E
def WnA (A : As) : Prop := ∀ a, (A a).w.length = 32 ∧ 0 ≤ (A a).n
theorem WnA.upd {A : As} (h : WnA A) (a : List UInt8) {x : Ac} (hx : x.w.length = 32 ∧ 0 ≤ x.n) : WnA (A.upd a x) := fun b => by
 unfold As.upd
 split
 · exact hx
 · exact h b
theorem zI : Ac.zero.w.length = 32 ∧ 0 ≤ Ac.zero.n := ⟨by decide, by decide⟩
theorem F9 (l : List AcL) (hl : ∀ x ∈ l, x.w.length = 32) : WnA (iJ l) := by
 have h : ∀ (l : List AcL), (∀ x ∈ l, x.w.length = 32) → ∀ (A : As), WnA A → WnA (l.foldl (fun A x => A.upd x.a x.take) A) := fun l => by
  induction l with
  | nil => exact fun _ A h => h
  | cons x l ih =>
   intro hb A h
   refine ih (fun y hy => hb y (Ld _ hy)) _ (h.upd x.a ⟨hb x KQ, ?_⟩)
   unfold AcL.take
   dsimp only
   split <;> omega
 exact h l hl _ fun a => zI
theorem AtL.H9 {A : As} (h : WnA A) {x : AtL} (hw : x.w.length = 32) : WnA (x.of A) := by
 unfold AtL.of
 split
 ·
  refine h.upd _ ⟨(h _).1, ?_⟩
  dsimp only
  split <;> omega
 split
 · exact h.upd _ ⟨hw, (h _).2⟩
 split
 · exact h.upd _ ⟨(h _).1, (h _).2⟩
 split
 · exact h.upd _ ⟨(h _).1, (h _).2⟩
 split
 ·
  unfold mvA
  split
  ·
   refine WnA.upd (WnA.upd h _ ?_) _ ?_
   · exact ⟨aY _, (h _).2⟩
   · exact ⟨aY _, (h _).2⟩
  · exact h
 split
 · exact h.upd _ zI
 · exact h
theorem pm4 {α : Type} (a b c d : List α) : (a ++ (b ++ (c ++ d))).Perm ((b ++ d) ++ (a ++ c)) := by
 have h1 : ((a ++ b) ++ (c ++ d)).Perm ((b ++ a) ++ (d ++ c)) := Lm.append Lm
 have h2 : (b ++ ((a ++ d) ++ c)).Perm (b ++ ((d ++ a) ++ c)) := (Lm.append_right c).append_left b
 simp only [Lc] at h1 h2 ⊢
 exact h1.trans h2
theorem yZ (l : List AcL) (u v : List AtL) (hlw : ∀ x ∈ l, x.w.length = 32) (hu : ∀ x ∈ u, x.w.length = 32 ∧ x.cd.length ≤ 140737488355328) (hv : ∀ x ∈ v, x.w.length = 32 ∧ x.cd.length ≤ 140737488355328) : FnM 3 [.sl 55 (l.map ak), .sl 107 (u.map kE), .sl 107 (v.map kE)] [] (fun r os' => r = .val (.v (.bool true)) ∧ os' = []) := by
 have hA := Jl l
 have hul : (u.map kE).length = u.length := KR _
 have hvl : (v.map kE).length = v.length := KR _
 refine FnM.walk 102 Tryz.func3 rfl Tryz.ntmps3 (by simp) fun X => ?_
 cases hba : EI l with
 | true =>
  rw [hba] at hA
  repeat
   (first
    | (refine gq (vK) (kk := ?_)) | (refine dJ (hA) (kk := ?_))
    | (refine stp ?_; intros))
  exact EK.aI [] rfl rfl (KO _) ⟨rfl, rfl⟩
 | false =>
 rw [hba] at hA
 by_cases c1 : 40 < u.length
 ·
  skip
  repeat
   (first
    | (refine gq (vK) (kk := ?_)) | (refine dJ (hA) (kk := ?_))
    | (refine stp ?_; intros))
  exact EK.aI [] rfl rfl (KO _) ⟨rfl, rfl⟩
 by_cases c2 : 40 < v.length
 ·
  skip
  repeat
   (first
    | (refine gq (vK) (kk := ?_)) | (refine dJ (hA) (kk := ?_))
    | (refine stp ?_; intros))
  exact EK.aI [] rfl rfl (KO _) ⟨rfl, rfl⟩
 obtain ⟨hl1, hl2⟩ := FI hba
 have hl4 : ∀ x ∈ l, x.sl.length ≤ 20 ∧ x.cd.length ≤ 140737488355328 := fun x hx => by have := hl2 x hx; omega
 have b1 := Ia l 20 (by omega) hl4 (by omega)
 have b2 := Kt l (by omega) fun x hx => by have := hl2 x hx; omega
 repeat
  (first
   | (refine gq (vK) (kk := ?_)) | (refine dJ (hA) (kk := ?_))
   | (refine stp ?_; intros))
 refine lH (os := []) b1 [] rfl rfl (aj.refl _ _) (by intro _ _; simp [go_sem]) rfl rfl ?_
 rintro _ _ ⟨g, mm, c, es, ps, rfl, rfl, hp⟩
 have hS : MSt g 0 [] (iJ l) [] 40 (psO g mm c es bF bF 0 [] ps) := ⟨mm, c, es, bF, bF, ps, by simp [psO], hp.rV (by omega), trivial, fun h hh => (by cases hh), Lr _⟩
 simp only [KE]
 generalize psO g mm c es bF bF 0 [] ps = os1 at hS ⊢
 clear hp hA
 repeat (refine stp ?_; intros)
 refine aK (os := []) b2 os1 [] (by simp) rfl (aj.refl _ _) (by intro _ _; simp [go_sem]) rfl rfl ?_
 rintro _ os2 ⟨g2, rfl, hR⟩
 rw [Lh]
 repeat (refine stp ?_; intros)
 refine aK (IY hS (by omega) (by omega) (by omega) (by simp)) [] os2 rfl rfl (aj.refl _ _) (by intro _ _; simp [go_sem]) rfl rfl ?_
 rintro _ os1 ⟨rfl, hS⟩
 have hP := hS.gen
 have hR := hR.mono (show l.length * 1005 ≤ 20100 by omega)
 have hW := F9 l hlw
 simp only [KE]
 clear hS b1 b2
 generalize iJ l = A at hP hR hW
 repeat (refine stp ?_; intros)
 refine EC.loop (ι := {s : Nat × As × List Obj × List Obj // s.1 ≤ u.length ∧ GSt g s.2.1 (40 + 2 * s.1) s.2.2.1 ∧ RSt g2 s.2.1 (20100 + 2 * s.1) s.2.2.2 ∧ WnA s.2.1})
  (fun s => ⟨[(12, .val (.v (.int .i64 (s.1.1 : Int)))), (11, .val (.v (.int .i64 1))), (10, .val (.v (ptr g2))), (9, .val (.v (ptr g))), (2, .val (.sl 107 (v.map kE))), (1, .val (.sl 107 (u.map kE)))], s.1.2.2.1 ++ s.1.2.2.2, []⟩)
  (fun s => u.length - s.1.1) ⟨(0, A, os1, os2), Lr _, hP, hR, hW⟩ ?_ ?_
 · exact (Le.keep (by repeat first | exact trivial | refine ⟨rfl, ?_⟩) (by repeat first | exact La _ | apply List.Sublist.cons_cons | apply List.Sublist.cons) (by simp))
 clear hP hR hW
 rintro ⟨⟨i, A, os1, os2⟩, hi, hP, hR, hW⟩
 dsimp only at hi hP hR hW ⊢
 by_cases hlt : i < u.length
 ·
  have hd : (u.map kE)[i]? = some (kE u[i]) := by rw [List.getElem?_map, KJ hlt]; rfl
  have hui := hu u[i] (LW hlt)
  generalize u[i] = x at hd hui
  have hst := fun h6 : x.way < 6 => Ej x hP hR (by omega) (by omega) (hW _).1 (hW _).1 hui.1 hui.2 h6
  have hW2 := AtL.H9 hW hui.1
  generalize x.of A = B at hst hW2
  obtain ⟨way, n, a, b, q, w, cd⟩ := x
  unfold kE at hd hst
  dsimp only at hd hst
  by_cases h6 : way < 6
  ·
   skip
   repeat (refine stp ?_; intros)
   refine aK (hst h6) [] [] (Lh _).symm rfl (aj.refl _ _) (by intro _ _; simp [go_sem]) rfl rfl ?_
   rintro _ _ ⟨os3, os4, hP2, hR2, rfl⟩
   rw [Lh]
   simp only [KE]
   repeat (refine stp ?_; intros)
   refine EK.again ⟨(i + 1, B, os3, os4), hlt, hP2, hR2, hW2⟩ (by dsimp only; omega) ?_
   simp only [LM]
   exact (Le.keep (by repeat first | exact trivial | refine ⟨rfl, ?_⟩) (by repeat first | exact La _ | apply List.Sublist.cons_cons | apply List.Sublist.cons) (by simp))
  ·
   skip
   repeat (refine stp ?_; intros)
   refine EK.again ⟨(i + 1, A, os1, os2), hlt, hP.mono (by omega), hR.mono (by omega), hW⟩ (by dsimp only; omega) ?_
   simp only [LM]
   exact (Le.keep (by repeat first | exact trivial | refine ⟨rfl, ?_⟩) (by repeat first | exact La _ | apply List.Sublist.cons_cons | apply List.Sublist.cons) (by simp))
 obtain rfl : i = u.length := by omega
 have k1 := Jd hP (by omega) fun a => (hW a).2
 have k2 := FU hR (by omega)
 repeat (refine stp ?_; intros)
 refine aK k1 [] os2 rfl rfl (aj.refl _ _) (by intro _ _; simp [go_sem]) rfl rfl ?_
 rintro _ _ ⟨g3, os3, rfl, hS3, rfl⟩
 simp only [KE]
 repeat (refine stp ?_; intros)
 refine aK k2 (os1 ++ os3) [] (by rw [Lh]) rfl (aj.refl _ _) (by intro _ _; simp [go_sem]) rfl rfl ?_
 rintro _ _ ⟨g4, os4, rfl, hR4, rfl⟩
 rw [Lh]
 have hn := (lG (T := 26) rfl (some ⟨g3, 0, none⟩)).1
 have k3 := Bh hS3 (by simp) (n0 := 1) (fun x hx => by cases hx)
 repeat
  (first
   | (refine bM (hrun := hn) (kk := ?_)) | (refine stp ?_; intros))
 refine aK k3 os1 (os2 ++ os4) (Lc _ _ _) rfl (aj.refl _ _) (by intro _ _; simp [go_sem]) rfl rfl ?_
 rintro _ _ ⟨rfl, ho⟩
 rw [ho]
 clear ho
 have hP3 := hS3.gen
 refine EL.le (Le.perm (pm4 os1 os3 os2 os4)) ?_
 repeat (refine stp ?_; intros)
 have hWA := hW
 clear hn k1 k2 k3 hS3
 refine EC.loop (ι := {s : Nat × As × List Obj × List Obj // s.1 ≤ v.length ∧ GSt g3 s.2.1 (240 + 2 * s.1) s.2.2.1 ∧ RSt g4 s.2.1 (20200 + 2 * s.1) s.2.2.2 ∧ WnA s.2.1})
  (fun s => ⟨[(15, .val (.v (.int .i64 (s.1.1 : Int)))), (14, .val (.v (ptr g4))), (13, .val (.v (ptr g3))), (10, .val (.v (ptr g2))), (9, .val (.v (ptr g))), (2, .val (.sl 107 (v.map kE)))], (s.1.2.2.1 ++ s.1.2.2.2) ++ (os1 ++ os2), []⟩)
  (fun s => v.length - s.1.1) ⟨(0, A, os3, os4), Lr _, hP3.mono (by omega), hR4.mono (by omega), hW⟩ ?_ ?_
 · exact (Le.keep (by repeat first | exact trivial | refine ⟨rfl, ?_⟩) (by repeat first | exact La _ | apply List.Sublist.cons_cons | apply List.Sublist.cons) (by simp))
 clear hP3 hR4 hW
 rintro ⟨⟨i, B, os3, os4⟩, hi, hP3, hR4, hW⟩
 dsimp only at hi hP3 hR4 hW ⊢
 by_cases hlt : i < v.length
 ·
  have hd : (v.map kE)[i]? = some (kE v[i]) := by rw [List.getElem?_map, KJ hlt]; rfl
  have hui := hv v[i] (LW hlt)
  generalize v[i] = x at hd hui
  have hst := fun h6 : x.way < 6 => Ej x hP3 hR4 (by omega) (by omega) (hW _).1 (hW _).1 hui.1 hui.2 h6
  have hW2 := AtL.H9 hW hui.1
  generalize x.of B = B2 at hst hW2
  obtain ⟨way, n, a, b, q, w, cd⟩ := x
  unfold kE at hd hst
  dsimp only at hd hst
  by_cases h6 : way < 6
  ·
   skip
   repeat (refine stp ?_; intros)
   refine aK (hst h6) [] (os1 ++ os2) rfl rfl (aj.refl _ _) (by intro _ _; simp [go_sem]) rfl rfl ?_
   rintro _ _ ⟨os5, os6, hP5, hR6, rfl⟩
   simp only [KE]
   repeat (refine stp ?_; intros)
   refine EK.again ⟨(i + 1, B2, os5, os6), hlt, hP5, hR6, hW2⟩ (by dsimp only; omega) ?_
   simp only [LM]
   exact (Le.keep (by repeat first | exact trivial | refine ⟨rfl, ?_⟩) (by repeat first | exact La _ | apply List.Sublist.cons_cons | apply List.Sublist.cons) (by simp))
  ·
   skip
   repeat (refine stp ?_; intros)
   refine EK.again ⟨(i + 1, B, os3, os4), hlt, hP3.mono (by omega), hR4.mono (by omega), hW⟩ (by dsimp only; omega) ?_
   simp only [LM]
   exact (Le.keep (by repeat first | exact trivial | refine ⟨rfl, ?_⟩) (by repeat first | exact La _ | apply List.Sublist.cons_cons | apply List.Sublist.cons) (by simp))
 obtain rfl : i = v.length := by omega
 repeat (refine stp ?_; intros)
 refine aK (lZ hP (by omega)) (os3 ++ os4) os2 rfl rfl (aj.refl _ _) (by intro _ _; simp [go_sem]) rfl rfl ?_
 rintro _ _ ⟨⟨L, hL, hLl, hLs, rfl⟩, ho⟩
 rw [ho]
 clear ho
 have hsame := kC L (by omega) fun x hx => by have := hLs x hx; omega
 repeat (refine stp ?_; intros)
 refine aK (oM hR (by omega)) ((os3 ++ os4) ++ os1) [] (by rw [Lh, Lc _ os1]) rfl (aj.refl _ _) (by intro _ _; simp [go_sem]) rfl rfl ?_
 rintro _ _ ⟨⟨L2, hL2, _, rfl⟩, ho⟩
 rw [ho]
 clear ho
 obtain rfl := hL2.eq hL
 repeat
  (first
   | (refine dJ (hsame) (kk := ?_)) | (refine stp ?_; intros))
 refine aK (lZ hP3 (by omega)) [] (os4 ++ (os1 ++ os2)) (by simp only [Lc, KE, Lh]) rfl (aj.refl _ _) (by intro _ _; simp [go_sem]) rfl rfl ?_
 rintro _ _ ⟨⟨L3, hL3, hL3l, hL3s, rfl⟩, ho⟩
 rw [ho]
 clear ho
 have hsame3 := kC L3 (by omega) fun x hx => by have := hL3s x hx; omega
 simp only [KE]
 repeat (refine stp ?_; intros)
 refine aK (oM hR4 (by omega)) os3 (os1 ++ os2) rfl rfl (aj.refl _ _) (by intro _ _; simp [go_sem]) rfl rfl ?_
 rintro _ _ ⟨⟨L4, hL4, _, rfl⟩, ho⟩
 rw [ho]
 clear ho
 obtain rfl := hL4.eq hL3
 repeat
  (first
   | (refine dJ (hsame3) (kk := ?_)) | (refine stp ?_; intros))
 exact EK.aI [] rfl rfl (KO _) ⟨rfl, rfl⟩
end E
end Go.Proofs.YtkhjanjlcdhdcaaGreat
namespace Go.Proofs.YtkhjanjlcdhdcaaGreat
open Go.RowKit Mono

end Go.Proofs.YtkhjanjlcdhdcaaGreat
namespace Go.Proofs.YtkhjanjlcdhdcaaGreat
set_option linter.unusedVariables false
set_option maxRecDepth 100000
open Go.RowKit Mono Go.ChangeShapes Go.WideShapes Go.Deep
theorem cell_spot {w : World} {p : Addr} {v : Value} (h : w.cell? p = some v) : p.block < w.heap.size ∧ ∃ b o, p = ⟨b, o, none⟩ := by
 obtain ⟨blk, off, spot⟩ := p
 have hspot : spot = none := by
  simp only [World.cell?] at h
  cases spot with
  | none => rfl
  | some s =>
   simp at h
   split at h <;> simp at h
 subst hspot
 refine ⟨?_, blk, off, rfl⟩
 rcases Me blk w.heap.size with hlt | hge
 · exact hlt
 · simp [World.cell?, Array.getElem?_eq_none hge] at h
theorem flat_get {n : Nat} {u : Value} : ∀ (rows : List (List Value)) (j : Nat), (∀ r ∈ rows, r.length = n) → rows.flatten[j]? = some u → ∃ i r row, j = i * n + r ∧ r < n ∧ rows[i]? = some row ∧ row[r]? = some u
 | [], j, _, h => by simp at h
 | row :: rows, j, hn, h => by
  have hr : row.length = n := hn row (by simp)
  rw [Md] at h
  by_cases hj : j < n
  ·
   rw [MG (by omega)] at h
   exact ⟨0, j, row, by simp, hj, rfl, h⟩
  ·
   rw [MQ (by omega), hr] at h
   obtain ⟨i, r, row', h1, h2, h3, h4⟩ := flat_get rows (j - n) (fun r hr => hn r (by simp [hr])) h
   exact ⟨i + 1, r, row', by rw [Nb]; omega, h2, by simpa using h3, h4⟩
section
variable {H : Type} {enc : TypeId × Value → H} {w : World} {spare : Nat → Bool} {held : Bool}
theorem int_of_trod {t : TypeId} {k : IntKind} {fuel : Nat} {cs : List Value} {x : DataW H × List MemPlace} (ht : Tryz.prog.underlying t = some (.int k)) (h : DataW.trod enc Tryz.prog w 0 spare held fuel t cs = some x) : ∃ n, cs = [.int k n] ∧ (Lit.int k n).wf = true := by
 obtain ⟨n, h1, _, h2⟩ := DataW.trod_int ht h
 exact ⟨n, h1, h2⟩
theorem pX {fuel : Nat} {cs : List Value} {x : DataW H × List MemPlace} (h : DataW.trod enc Tryz.prog w 0 spare held fuel 5 cs = some x) : ∃ b : UInt8, cs = [bv b] := by
 obtain ⟨n, rfl, hw⟩ := int_of_trod Tryz.underlying5 h
 have hb := bounds_u8 hw
 refine ⟨UInt8.ofNat n.toNat, ?_⟩
 unfold bv
 rw [UInt8.toNat_ofNat']
 have : ((n.toNat % 2 ^ 8 : Nat) : Int) = n := by omega
 rw [this]
theorem rP {rows : List (List Value)} (h : ∀ r ∈ rows, ∃ b : UInt8, r = [bv b]) : ∃ l : List UInt8, l.length = rows.length ∧ rows.flatten = bvs l := by
 induction rows with
 | nil => exact ⟨[], rfl, rfl⟩
 | cons r rows ih =>
  obtain ⟨l, h1, h2⟩ := ih fun r hr => h r (by simp [hr])
  obtain ⟨b, rfl⟩ := h r (by simp)
  exact ⟨b :: l, by simp [h1], by simp [h2, bvs]⟩
set_option maxRecDepth 100000
variable {r : Reach} {b0 : Nat} {v : Value} {d : DataW H} {ps : List MemPlace}
end
section
variable {H : Type} {enc : TypeId × Value → H} {w : World} {spare : Nat → Bool} {held : Bool}
theorem Jp (cs : List Value) (h : ∀ u ∈ cs, ∃ b : UInt8, u = bv b) : ∃ l : List UInt8, cs = bvs l := by
 induction cs with
 | nil => exact ⟨[], rfl⟩
 | cons u cs ih =>
  obtain ⟨l, hl⟩ := ih fun u hu => h u (by simp [hu])
  obtain ⟨b, rfl⟩ := h u (by simp)
  exact ⟨b :: l, by rw [hl]; rfl⟩
theorem yx {t : TypeId} {n fuel : Nat} {cs : List Value} {x : DataW H × List MemPlace} (ht : Tryz.prog.underlying t = some (.array n 5)) (hc : Tryz.prog.cellsOf t = n) (h : DataW.trod enc Tryz.prog w 0 spare held fuel t cs = some x) :
  ∃ l : List UInt8, l.length = n ∧ cs = bvs l := by
 obtain ⟨xs, m, _, _, hl, hxl, hg⟩ := DataW.trod_array ht h
 rw [hc] at hl
 obtain ⟨l, rfl⟩ := Jp cs fun u hu => by
  obtain ⟨i, hi, rfl⟩ := OG hu
  have h1 := hg i (by omega)
  rw [(by kernel_rfl : Tryz.prog.cellsOf 5 = 1), Nat.mul_one, Mc hi, KG, KI, KJ (by omega)] at h1
  obtain ⟨b, hb⟩ := pX h1
  exact ⟨b, by simpa using hb⟩
 exact ⟨l, by rw [← hl, aS], rfl⟩
variable {r : Reach} {b0 : Nat} {v : Value} {d : DataW H} {ps : List MemPlace}
end
section
variable {H : Type} {enc : TypeId × Value → H} {w : World} {spare : Nat → Bool} {held : Bool}
theorem oG {P : Program} {e : TypeId} {d : DataW H} {k : Nat} : ∀ {ds : List (DataW H)}, d ∈ ds → k ∈ d.weights P e → k ∈ DataW.weightsAll P e ds
 | [], h, _ => by cases h
 | x :: xs, h, hk => by
  rw [DataW.weightsAll]
  rcases KT.1 h with rfl | h
  · exact Ll _ hk
  · exact Lp _ (oG h hk)
theorem oI {t e n : TypeId} {fuel : Nat} {v : Value} {x : DataW H × List MemPlace} (ht : Tryz.prog.underlying t = some (.slice e)) (hn : Tryz.prog.cellsOf e = n) (h : DataW.trod enc Tryz.prog w 0 spare held fuel t [v] = some x) :
  ∃ (A : Option Addr) (c f : Nat) (rows : List (List Value)), v = .slice A rows.length c ∧ rows.length ≤ c ∧ c ≤ maxLen ∧ Rd w w.heap.size A rows.flatten ∧ (∀ r ∈ rows, r.length = n) ∧ (A = none → rows = [] ∧ c = 0) ∧ (rows ≠ [] → f < fuel) ∧ (∀ r ∈ rows, ∃ y, DataW.trod enc Tryz.prog w 0 spare held f e r = some y ∧ ∀ k ∈ y.1.weights Tryz.prog e, k ∈ x.1.weights Tryz.prog t) ∧ (rows ≠ [] → ∃ k ∈ x.1.weights Tryz.prog t, rows.length * Tryz.prog.bytesOf e ≤ k) := by
 rcases DataW.trod_slice ht h with ⟨hcs, hx⟩ | ⟨a, len, cap, elems, rest, f, hfu, hcs, hx, _, hl, hm, hel, hi, _⟩
 ·
  simp at hcs
  subst hcs
  exact ⟨none, 0, 0, [], rfl, Lj _, by simp [maxLen], Rd.nil, by simp, fun _ => ⟨rfl, rfl⟩, fun hne => absurd rfl hne, by simp, fun hne => absurd rfl hne⟩
 ·
  simp at hcs
  subst hcs
  rw [hn] at hi
  let row : Nat → List Value := fun i => (w.cells? 0 (a.add (i * n)) n).getD []
  have hrow : ∀ i, i < len → w.cells? 0 (a.add (i * n)) n = some (row i) ∧ ∃ y, DataW.trod enc Tryz.prog w 0 spare held f e (row i) = some y ∧ ∀ k ∈ y.1.weights Tryz.prog e, k ∈ x.1.weights Tryz.prog t := fun i hil => by
   have h1 := hi i hil
   rw [KJ (by omega)] at h1
   cases hc : w.cells? 0 (a.add (i * n)) n with
   | none => rw [hc] at h1; cases h1
   | some cs' =>
    rw [hc] at h1
    have : row i = cs' := by simp only [row]; rw [hc]; rfl
    rw [this]
    refine ⟨rfl, _, h1, fun k hk => ?_⟩
    rw [hx, DataW.weights, ht]
    exact Ld _ (Ll _ (oG (List.mem_map_of_mem (LW (by omega))) hk))
  have hmem : ∀ r ∈ (List.range len).map row, ∃ i, i < len ∧ r = row i := fun r hr => by
   obtain ⟨i, h1, h2⟩ := LD.1 hr
   exact ⟨i, NQ.1 h1, h2.symm⟩
  have hlen : ∀ r ∈ (List.range len).map row, r.length = n := fun r hr => by
   obtain ⟨i, h1, rfl⟩ := hmem r hr
   exact (World.cells?_some (hrow i h1).1).2.1
  refine ⟨some a, cap, f, (List.range len).map row, by simp, by simpa using hl, hm, ?_, hlen, (fun e => by cases e), fun _ => by omega, fun r hr => ?_, fun _ => ⟨(elems.length + rest.length) * Tryz.prog.bytesOf e, ?_, ?_⟩⟩
  ·
   have hcell : ∀ j u, ((List.range len).map row).flatten[j]? = some u → w.cell? (a.add j) = some u := fun j u hu => by
    obtain ⟨i, r, row', rfl, h2, h3, h4⟩ := flat_get _ j hlen hu
    have hil : i < len := by
     have := (KZ.1 h3).1
     simpa using this
    have h5 : row' = row i := by
     rw [List.getElem?_map, List.getElem?_range hil] at h3
     exact (MJ h3).symm
    subst h5
    have h6 := (World.cells?_some (hrow i hil).1).2.2 r h2
    rw [h4, Go.Deep.add_add] at h6
    exact h6
   intro hne
   obtain ⟨u0, rest, he⟩ := List.exists_cons_of_ne_nil hne
   have h0 := hcell 0 u0 (by rw [he]; rfl)
   rw [show a.add 0 = a from if_pos rfl] at h0
   obtain ⟨h1, b, o, rfl⟩ := cell_spot h0
   refine ⟨b, o, rfl, h1, fun j u hu => ?_⟩
   have := hcell j u hu
   rw [bQ] at this
   exact this
  ·
   obtain ⟨i, h1, rfl⟩ := hmem r hr
   exact (hrow i h1).2
  ·
   rw [hx, DataW.weights, ht]
   simp
  ·
   rw [KR, List.length_range]
   exact Nj _ (by omega)
end
end Go.Proofs.YtkhjanjlcdhdcaaGreat
namespace Go.Proofs.YtkhjanjlcdhdcaaGreat
set_option linter.unusedVariables false
set_option maxRecDepth 100000
open Go.RowKit Mono Go.ChangeShapes Go.WideShapes Go.Deep
namespace E
inductive Sh where
 | bool
 | int (k : IntKind)
 | arr (n : Nat)
 | bytes
 | slice (b : Nat) (s : Sh)
 | struct (ss : List Sh)
mutual
def Sh.size : Sh → Nat
 | .arr n => n
 | .struct ss => Sh.sizes ss
 | _ => 1
def Sh.sizes : List Sh → Nat
 | [] => 0
 | s :: ss => s.size + Sh.sizes ss
end
def Sh.agg : Sh → Bool
 | .arr _ => true
 | .struct _ => true
 | _ => false
mutual
def Sh.Is : Sh → TypeId → Prop
 | .bool, t => Tryz.prog.underlying t = some .bool ∧ Tryz.prog.cellsOf t = 1
 | .int k, t => Tryz.prog.underlying t = some (.int k) ∧ Tryz.prog.cellsOf t = 1
 | .arr n, t => Tryz.prog.underlying t = some (.array n 5) ∧ Tryz.prog.cellsOf t = n
 | .bytes, t => Tryz.prog.underlying t = some (.slice 5) ∧ Tryz.prog.cellsOf t = 1
 | .slice b s, t => Tryz.prog.cellsOf t = 1 ∧ ∃ e, Tryz.prog.underlying t = some (.slice e) ∧ Tryz.prog.bytesOf e = b ∧ s.Is e
 | .struct ss, t => ∃ fs : Array Field, Tryz.prog.underlying t = some (.struct fs) ∧ Tryz.prog.cellsOf t = Sh.sizes ss ∧ Sh.IsF ss 0 fs.toList
def Sh.IsF : List Sh → Nat → List Field → Prop
 | [], _, fs => fs = []
 | s :: ss, o, fs => ∃ f rest, fs = f :: rest ∧ f.offset = o ∧ s.Is f.type ∧ Sh.IsF ss (o + s.size) rest
end
mutual
def Sh.Of (N : Nat) : Sh → D → Prop
 | .bool, d => ∃ b, d = .v (.bool b)
 | .int k, d => ∃ n, d = .v (.int k n) ∧ (Lit.int k n).wf = true
 | .arr n, d => ∃ l : List UInt8, l.length = n ∧ d = .arr n l
 | .bytes, d => ∃ l : List UInt8, l.length ≤ N ∧ d = .bs l
 | .slice b s, d => ∃ ds : List D, ds.length * b ≤ N ∧ d = .sl s.size ds ∧ ∀ x ∈ ds, s.Of N x
 | .struct ss, d => ∃ ds, d = .tup ds ∧ Sh.OfL N ss ds
def Sh.OfL (N : Nat) : List Sh → List D → Prop
 | [], ds => ds = []
 | s :: ss, ds => ∃ d rest, ds = d :: rest ∧ s.Of N d ∧ Sh.OfL N ss rest
end
theorem Sh.Is.cells : ∀ {s : Sh} {t : TypeId}, s.Is t → Tryz.prog.cellsOf t = s.size
 | .bool, t, h => by rw [Sh.Is] at h; exact h.2
 | .int k, t, h => by rw [Sh.Is] at h; exact h.2
 | .arr n, t, h => by rw [Sh.Is] at h; exact h.2
 | .bytes, t, h => by rw [Sh.Is] at h; exact h.2
 | .slice b s, t, h => by rw [Sh.Is] at h; exact h.1
 | .struct ss, t, h => by
  rw [Sh.Is] at h
  obtain ⟨fs, _, h2, _⟩ := h
  exact h2
theorem zQ {ok : Nat → Prop} {w : World} {z : Nat} {Q : D → Prop} : ∀ {rows : List (List Value)}, (∀ r ∈ rows, r.length = z ∧ ∃ d, Q d ∧ Reads ok w d r) → ∃ ds, ds.length = rows.length ∧ (∀ x ∈ ds, Q x) ∧ ah ok w z ds rows
 | [], _ => ⟨[], rfl, by simp, by rw [ah]⟩
 | r :: rows, h => by
  obtain ⟨ds, h1, h2, h3⟩ := zQ (rows := rows) fun r hr => h r (by simp [hr])
  obtain ⟨hz, d, hd, hr⟩ := h r (by simp)
  refine ⟨d :: ds, by simp [h1], fun x hx => ?_, by rw [ah]; exact ⟨r, rows, rfl, hz, hr, h3⟩⟩
  rcases KT.1 hx with rfl | hx
  · exact hd
  · exact h2 x hx
section
variable {H : Type} {enc : TypeId × Value → H} {w : World} {spare : Nat → Bool} {held : Bool} {N : Nat}
mutual
theorem uz : ∀ (s : Sh) (t : TypeId) (fuel : Nat) (cs : List Value) (x : DataW H × List MemPlace), s.Is t → DataW.trod enc Tryz.prog w 0 spare held fuel t cs = some x → (∀ k ∈ x.1.weights Tryz.prog t, k ≤ N) → ∃ d, s.Of N d ∧ Reads (fun b => b < w.heap.size) w d cs
 | .bool, t, fuel, cs, x, hs, h, hN => by
  rw [Sh.Is] at hs
  obtain ⟨b, rfl, _⟩ := DataW.trod_bool hs.1 h
  exact ⟨.v (.bool b), by rw [Sh.Of]; exact ⟨b, rfl⟩, by rw [Reads]; exact ⟨rfl, rfl⟩⟩
 | .int k, t, fuel, cs, x, hs, h, hN => by
  rw [Sh.Is] at hs
  obtain ⟨n, rfl, _, hw⟩ := DataW.trod_int hs.1 h
  exact ⟨.v (.int k n), by rw [Sh.Of]; exact ⟨n, rfl, hw⟩, by rw [Reads]; exact ⟨rfl, rfl⟩⟩
 | .arr n, t, fuel, cs, x, hs, h, hN => by
  rw [Sh.Is] at hs
  obtain ⟨l, hl, rfl⟩ := yx hs.1 hs.2 h
  exact ⟨.arr n l, by rw [Sh.Of]; exact ⟨l, hl, rfl⟩, by rw [Reads]; exact ⟨hl, rfl⟩⟩
 | .bytes, t, fuel, cs, x, hs, h, hN => by
  rw [Sh.Is] at hs
  have hl : ∃ v, cs = [v] := by
   rcases DataW.trod_slice hs.1 h with ⟨hcs, _⟩ | ⟨a, len, cap, elems, rest, f, hfu, hcs, _⟩
   · exact ⟨_, hcs⟩
   · exact ⟨_, hcs⟩
  obtain ⟨v, rfl⟩ := hl
  obtain ⟨A, c, f, rows, rfl, h1, h2, h3, _, _, _, h5, h8⟩ := oI hs.1 (by kernel_rfl : Tryz.prog.cellsOf 5 = 1) h
  obtain ⟨l, h6, h7⟩ := rP fun r hr => by
   obtain ⟨y, hy, _⟩ := h5 r hr
   exact pX hy
  rw [h7] at h3
  have hl : l.length ≤ N := by
   rw [h6]
   by_cases hr : rows = []
   · rw [hr]; simp
   ·
    obtain ⟨k, hk, hk2⟩ := h8 hr
    rw [(by kernel_rfl : Tryz.prog.bytesOf 5 = 1), Nat.mul_one] at hk2
    exact LG hk2 (hN k hk)
  exact ⟨.bs l, by rw [Sh.Of]; exact ⟨l, hl, rfl⟩, by rw [Reads]; exact ⟨_, rfl, A, c, by rw [h6], by rw [h6]; exact h1, h2, h3⟩⟩
 | .slice b s, t, fuel, cs, x, hs, h, hN => by
  rw [Sh.Is] at hs
  obtain ⟨_, e, hu, hb, he⟩ := hs
  have hl : ∃ v, cs = [v] := by
   rcases DataW.trod_slice hu h with ⟨hcs, _⟩ | ⟨a, len, cap, elems, rest, f, hfu, hcs, _⟩
   · exact ⟨_, hcs⟩
   · exact ⟨_, hcs⟩
  obtain ⟨v, rfl⟩ := hl
  obtain ⟨A, c, f, rows, rfl, h1, h2, h3, h4, h5, _, h6, h8⟩ := oI hu he.cells h
  obtain ⟨ds, g1, g2, g3⟩ := zQ (ok := fun b => b < w.heap.size) (w := w) (z := s.size) (Q := s.Of N) fun r hr => by
   obtain ⟨y, hy, hk⟩ := h6 r hr
   exact ⟨h4 r hr, uz s e f r y he hy fun k hk' => hN k (hk k hk')⟩
  have hl : ds.length * b ≤ N := by
   rw [g1, ← hb]
   by_cases hr : rows = []
   · rw [hr]; simp
   ·
    obtain ⟨k, hk, hk2⟩ := h8 hr
    exact LG hk2 (hN k hk)
  refine ⟨.sl s.size ds, by rw [Sh.Of]; exact ⟨ds, hl, rfl, g2⟩, ?_⟩
  rw [Reads]
  exact ⟨A, c, rows, by rw [g1], by rw [g1]; exact h1, h2, fun e => by rw [g1, (h5 e).1]; exact ⟨rfl, (h5 e).2⟩, h3, g3⟩
 | .struct ss, t, fuel, cs, x, hs, h, hN => by
  rw [Sh.Is] at hs
  obtain ⟨fs, hu, hc, hf⟩ := hs
  obtain ⟨xs, n, _, hx, hl, hxl, hg⟩ := DataW.trod_struct hu h
  obtain ⟨ds, h1, h2⟩ := wG ss 0 n cs fs.toList hf (by rw [hl, hc, L8]) fun f hm => by
   obtain ⟨i, hi, rfl⟩ := OG hm
   have hi' : i < fs.size := by simpa using hi
   have := hg i fs[i] (by rw [NH hi'])
   rw [KJ (by omega)] at this
   refine ⟨_, this, fun k hk => hN k ?_⟩
   rw [hx]
   simp only [DataW.weights, hu]
   exact DataW.weights_mem_each (j := i) (t := fs[i].type) (d := xs[i].1) (by simp [Array.getElem?_eq_getElem hi']) (by rw [List.getElem?_map, KJ (by omega)]; rfl) k hk
  exact ⟨.tup ds, by rw [Sh.Of]; exact ⟨ds, rfl, h1⟩, by rw [Reads]; simpa using h2⟩
theorem wG : ∀ (ss : List Sh) (o n : Nat) (cs : List Value) (fs : List Field), Sh.IsF ss o fs → cs.length = o + Sh.sizes ss → (∀ f ∈ fs, ∃ y, DataW.trod enc Tryz.prog w 0 spare held n f.type ((cs.drop f.offset).take (Tryz.prog.cellsOf f.type)) = some y ∧ ∀ k ∈ y.1.weights Tryz.prog f.type, k ≤ N) →
  ∃ ds, Sh.OfL N ss ds ∧ aP (fun b => b < w.heap.size) w ds (cs.drop o)
 | [], o, n, cs, fs, hf, hl, h => ⟨[], by rw [Sh.OfL], by
  rw [aP]
  rw [Sh.sizes] at hl
  exact MC (by omega)⟩
 | s :: ss, o, n, cs, fs, hf, hl, h => by
  rw [Sh.IsF] at hf
  obtain ⟨f, rest, rfl, rfl, hs, hf⟩ := hf
  rw [Sh.sizes] at hl
  obtain ⟨y, hy, hk⟩ := h f (by simp)
  rw [hs.cells] at hy
  obtain ⟨d, h1, h2⟩ := uz s f.type n _ y hs hy hk
  obtain ⟨ds, h3, h4⟩ := wG ss (f.offset + s.size) n cs rest hf (by omega) fun g hg => h g (by simp [hg])
  refine ⟨d :: ds, by rw [Sh.OfL]; exact ⟨d, ds, rfl, h1, h3⟩, ?_⟩
  rw [aP]
  refine ⟨_, _, ?_, h2, h4⟩
  rw [← List.drop_drop, MF]
end
theorem Iw {s : Sh} {d : D} (h : s.Of N d) : d.agg = s.agg := by
 cases s <;> rw [Sh.Of] at h
 ·
  obtain ⟨_, rfl⟩ := h
  rfl
 ·
  obtain ⟨_, rfl, _⟩ := h
  rfl
 ·
  obtain ⟨_, _, rfl⟩ := h
  rfl
 ·
  obtain ⟨_, _, rfl⟩ := h
  rfl
 ·
  obtain ⟨_, _, rfl, _⟩ := h
  rfl
 ·
  obtain ⟨_, rfl, _⟩ := h
  rfl
variable {r : Reach} {b0 : Nat} {v : Value} {d : DataW H} {ps : List MemPlace}
theorem C9 {s : Sh} {t : TypeId} (hs : s.Is t) (hv : Value.okWide Tryz.prog w r b0 t v) (h : DataW.Trod enc Tryz.prog w 0 spare held t v d ps) : v = if s.agg then .agg v.cells else v.cells.toList.headD undef := by
 cases s <;> rw [Sh.Is] at hs
 ·
  obtain ⟨b, rfl, _⟩ := open_bool hs.1 hv h
  rfl
 ·
  obtain ⟨n, rfl, _⟩ := open_int hs.1 hv h
  rfl
 ·
  simp only [Value.okWide, hs.1] at hv
  obtain ⟨cs, rfl, _⟩ := hv
  rfl
 ·
  obtain ⟨a, n, c, rfl⟩ := okWide_slice hs.1 hv
  rfl
 ·
  obtain ⟨_, e, hu, _, _⟩ := hs
  obtain ⟨a, n, c, rfl⟩ := okWide_slice hu hv
  rfl
 ·
  obtain ⟨fs, hu, _⟩ := hs
  simp only [Value.okWide, hu] at hv
  obtain ⟨cs, rfl, _⟩ := hv
  rfl
theorem JO {s : Sh} {t : TypeId} (hs : s.Is t) (hv : Value.okWide Tryz.prog w r b0 t v) (h : DataW.Trod enc Tryz.prog w 0 spare held t v d ps) (hN : ∀ k ∈ d.weights Tryz.prog t, k ≤ N) : ∃ D, s.Of N D ∧ bf (fun b => b < w.heap.size) w D v := by
 have h3 := C9 hs hv h
 obtain ⟨fuel, hf⟩ := h
 obtain ⟨D, h1, h2⟩ := uz s t fuel _ _ hs hf hN
 refine ⟨D, h1, _, h2, ?_⟩
 unfold form
 rw [Iw h1]
 simpa using h3
end
def Dc : Sh := .struct [.arr 32, .arr 32]
def Dh : Sh := .struct [.arr 20, .int .i64, .arr 32, .bytes, .slice 64 Dc]
theorem Gm : Dc.Is 63 := by
 unfold Dc
 rw [Sh.Is]
 refine ⟨_, Tryz.underlying63, by kernel_rfl, ?_⟩
 simp only [Sh.IsF, Sh.Is]
 exact ⟨_, _, rfl, rfl, ⟨Tryz.underlying34, by kernel_rfl⟩, _, _, rfl, rfl, ⟨Tryz.underlying34, by kernel_rfl⟩, rfl⟩
theorem y8 : Dh.Is 51 := by
 unfold Dh
 rw [Sh.Is]
 refine ⟨_, Tryz.underlying51, by kernel_rfl, ?_⟩
 simp only [Sh.IsF, Sh.Is]
 exact ⟨_, _, rfl, rfl, ⟨Tryz.underlying32, by kernel_rfl⟩, _, _, rfl, rfl, ⟨Tryz.underlying2, by kernel_rfl⟩, _, _, rfl, rfl, ⟨Tryz.underlying34, by kernel_rfl⟩, _, _, rfl, rfl, ⟨Tryz.underlying35, by kernel_rfl⟩, _, _, rfl, rfl, ⟨by kernel_rfl, _, Tryz.underlying49, by kernel_rfl, Gm⟩, rfl⟩
theorem xE : (Sh.slice 112 Dh).Is 22 := by
 rw [Sh.Is]
 exact ⟨by kernel_rfl, _, Tryz.underlying22, by kernel_rfl, y8⟩
theorem Aa {α : Type} {Q : D → Prop} {f : α → D} (h : ∀ d, Q d → ∃ a, d = f a) : ∀ {ds : List D}, (∀ x ∈ ds, Q x) → ∃ rs : List α, ds = rs.map f
 | [], _ => ⟨[], rfl⟩
 | d :: ds, hd => by
  obtain ⟨a, rfl⟩ := h d (hd d (by simp))
  obtain ⟨rs, rfl⟩ := Aa h fun x hx => hd x (Ld _ hx)
  exact ⟨a :: rs, rfl⟩
variable {N : Nat}
theorem F6 {d : D} (h : Dc.Of N d) : ∃ s, d = aG s := by
 unfold Dc at h
 simp only [Sh.Of, Sh.OfL] at h
 obtain ⟨_, rfl, _, _, rfl, ⟨k, h1, rfl⟩, _, _, rfl, ⟨v, h2, rfl⟩, rfl⟩ := h
 exact ⟨(k, v), rfl⟩
theorem I7 (l : List Nat) : ∀ k ∈ l, k ≤ l.sum := by
 induction l with
 | nil => intro k hk; cases hk
 | cons a l ih =>
  intro k hk
  rw [List.sum_cons]
  rcases KT.1 hk with rfl | hk
  · omega
  ·
   have := ih k hk
   omega
end E
end Go.Proofs.YtkhjanjlcdhdcaaGreat
namespace Go.Proofs.YtkhjanjlcdhdcaaGreat
set_option linter.unusedVariables false
set_option maxRecDepth 100000
open Go.RowKit Mono Go.ChangeShapes Go.WideShapes Go.Deep
namespace E
def Df : Sh := .struct [.int .i64, .int .i64, .arr 20, .arr 20, .arr 32, .arr 32, .bytes]
theorem I8 : Df.Is 37 := by
 unfold Df
 rw [Sh.Is]
 refine ⟨_, Tryz.underlying37, by kernel_rfl, ?_⟩
 simp only [Sh.IsF, Sh.Is]
 exact ⟨_, _, rfl, rfl, ⟨Tryz.underlying3, by kernel_rfl⟩, _, _, rfl, rfl, ⟨Tryz.underlying3, by kernel_rfl⟩, _, _, rfl, rfl, ⟨Tryz.underlying32, by kernel_rfl⟩, _, _, rfl, rfl, ⟨Tryz.underlying32, by kernel_rfl⟩, _, _, rfl, rfl, ⟨Tryz.underlying34, by kernel_rfl⟩, _, _, rfl, rfl, ⟨Tryz.underlying34, by kernel_rfl⟩, _, _, rfl, rfl, ⟨Tryz.underlying35, by kernel_rfl⟩, rfl⟩
theorem Gn : (Sh.slice 144 Df).Is 23 := by
 rw [Sh.Is]
 exact ⟨by kernel_rfl, _, Tryz.underlying23, by kernel_rfl, I8⟩
theorem qG {α : Type} {Q : D → Prop} {P : α → Prop} {f : α → D} (h : ∀ d, Q d → ∃ a, P a ∧ d = f a) : ∀ {ds : List D}, (∀ x ∈ ds, Q x) → ∃ rs : List α, (∀ a ∈ rs, P a) ∧ ds = rs.map f
 | [], _ => ⟨[], by simp, rfl⟩
 | d :: ds, hd => by
  obtain ⟨a, h1, rfl⟩ := h d (hd d (by simp))
  obtain ⟨rs, h2, rfl⟩ := qG h fun x hx => hd x (Ld _ hx)
  refine ⟨a :: rs, fun b hb => ?_, rfl⟩
  rcases KT.1 hb with rfl | hb
  · exact h1
  · exact h2 b hb
variable {N : Nat}
theorem IU {d : D} (h : Df.Of N d) : ∃ x : AtL, (x.w.length = 32 ∧ x.cd.length ≤ N) ∧ d = kE x := by
 unfold Df at h
 simp only [Sh.Of, Sh.OfL] at h
 obtain ⟨_, rfl, _, _, rfl, ⟨y, rfl, hy⟩, _, _, rfl, ⟨n, rfl, hn⟩, _, _, rfl, ⟨a, h1, rfl⟩, _, _, rfl, ⟨b, h2, rfl⟩, _, _, rfl, ⟨k, h3, rfl⟩, _, _, rfl, ⟨w, h4, rfl⟩, _, _, rfl, ⟨c, hc, rfl⟩, rfl⟩ := h
 exact ⟨⟨y, n, a, b, k, w, c⟩, ⟨h4, hc⟩, rfl⟩
theorem wS {d : D} (h : Dh.Of N d) : ∃ c : AcL, c.w.length = 32 ∧ d = ak c := by
 unfold Dh at h
 simp only [Sh.Of, Sh.OfL] at h
 obtain ⟨_, rfl, _, _, rfl, ⟨a, h1, rfl⟩, _, _, rfl, ⟨n, rfl, hn⟩, _, _, rfl, ⟨b, h2, rfl⟩, _, _, rfl, ⟨c, hc, rfl⟩, _, _, rfl, ⟨ss, hl, rfl, hs⟩, rfl⟩ := h
 obtain ⟨ss, rfl⟩ := Aa (fun _ => F6) hs
 exact ⟨⟨a, n, b, c, ss⟩, h2, rfl⟩
end E
def mX (w : World) (v : Value) : Prop := ∃ l : List E.AcL, (∀ x ∈ l, x.w.length = 32) ∧ E.bf (fun b => b < w.heap.size) w (.sl 55 (l.map E.ak)) v
def jh (w : World) (v : Value) : Prop := ∃ l : List E.AtL, (∀ x ∈ l, x.w.length = 32 ∧ x.cd.length ≤ 140737488355328) ∧ E.bf (fun b => b < w.heap.size) w (.sl 107 (l.map E.kE)) v
section
variable {H : Type} {enc : TypeId × Value → H} {w : World} {spare : Nat → Bool} {held : Bool} {r : Reach} {b0 : Nat} {v : Value} {d : DataW H} {ps : List MemPlace}
theorem F7 (hv : Value.okWide Tryz.prog w r b0 22 v) (h : DataW.Trod enc Tryz.prog w 0 spare held 22 v d ps) : mX w v := by
 obtain ⟨D, h1, h2⟩ := E.JO E.xE hv h (E.I7 _)
 rw [E.Sh.Of] at h1
 obtain ⟨ds, _, rfl, h3⟩ := h1
 obtain ⟨l, h4, rfl⟩ := E.qG (fun _ => E.wS) h3
 exact ⟨l, h4, h2⟩
theorem zW (hv : Value.okWide Tryz.prog w r b0 23 v) (h : DataW.Trod enc Tryz.prog w 0 spare held 23 v d ps) (hN : ∀ k ∈ d.weights Tryz.prog 23, k ≤ reachBytes) : jh w v := by
 obtain ⟨D, h1, h2⟩ := E.JO E.Gn hv h hN
 rw [E.Sh.Of] at h1
 obtain ⟨ds, _, rfl, h3⟩ := h1
 obtain ⟨l, h4, rfl⟩ := E.qG (fun _ => E.IU) h3
 refine ⟨l, fun x hx => ⟨(h4 x hx).1, LG (h4 x hx).2 (by decide)⟩, h2⟩
end
end Go.Proofs.YtkhjanjlcdhdcaaGreat
