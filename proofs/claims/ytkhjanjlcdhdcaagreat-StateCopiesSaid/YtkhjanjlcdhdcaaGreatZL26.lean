/-
 Merged: lemmas of this claim.
 Conditions: none.
-/
import Derived.Test.YtkhjanjlcdhdcaaGreatZL25
import Derived.Test.YtkhjanjlcdhdcaaGreatZL2
import Derived.OpenShut
import Derived.Deep.Slices
import Derived.ChangeSame
import Derived.SizedLaws
import Derived.Test.YtkhjanjlcdhdcaaGreatZL20
import Derived.Test.YtkhjanjlcdhdcaaGreatZL12
import Derived.Below
import Derived.Test.YtkhjanjlcdhdcaaGreatZL0
namespace Go.Proofs.YtkhjanjlcdhdcaaGreat
set_option linter.unusedVariables false
set_option maxRecDepth 20000
set_option maxHeartbeats 16000000
open Go.RowKit Mono Rlp Wd
namespace E
def WnA (A : As) : Prop := ∀ a, (A a).w.length = 32 ∧ 0 ≤ (A a).n
theorem WnA.upd {A : As} (h : WnA A) (a : List UInt8) {x : Ac} (hx : x.w.length = 32 ∧ 0 ≤ x.n) : WnA (A.upd a x) := fun b => by
 unfold As.upd
 split
 · exact hx
 · exact h b
theorem Bl : Ac.zero.w.length = 32 ∧ 0 ≤ Ac.zero.n := ⟨by decide, by decide⟩
theorem GN (l : List AcL) (hl : ∀ x ∈ l, x.w.length = 32) : WnA (kT l) := by
 have h : ∀ (l : List AcL), (∀ x ∈ l, x.w.length = 32) → ∀ (A : As), WnA A → WnA (l.foldl (fun A x => A.upd x.a x.take) A) := fun l => by
  induction l with
  | nil => exact fun _ A h => h
  | cons x l ih =>
   intro hb A h
   refine ih (fun y hy => hb y (KT _ hy)) _ (h.upd x.a ⟨hb x KH, ?_⟩)
   unfold AcL.take
   dsimp only
   split <;> omega
 exact h l hl _ fun a => Bl
theorem AtL.Ij {A : As} (h : WnA A) {x : AtL} (hw : x.w.length = 32) : WnA (x.of A) := by
 unfold AtL.of
 split
 ·
  refine h.upd _ ⟨(h _).1, ?_⟩
  dsimp only
  split <;> omega
 split
 · exact h.upd _ ⟨hw, (h _).2⟩
 split
 · exact h.upd _ ⟨(h _).1, (h _).2⟩
 split
 · exact h.upd _ ⟨(h _).1, (h _).2⟩
 split
 ·
  unfold mvA
  split
  ·
   refine WnA.upd (WnA.upd h _ ?_) _ ?_
   · exact ⟨cu _, (h _).2⟩
   · exact ⟨cu _, (h _).2⟩
  · exact h
 split
 · exact h.upd _ Bl
 · exact h
theorem pm4 {α : Type} (a b c d : List α) : (a ++ (b ++ (c ++ d))).Perm ((b ++ d) ++ (a ++ c)) := by
 have h1 : ((a ++ b) ++ (c ++ d)).Perm ((b ++ a) ++ (d ++ c)) := KY.append KY
 have h2 : (b ++ ((a ++ d) ++ c)).Perm (b ++ ((d ++ a) ++ c)) := (KY.append_right c).append_left b
 simp only [KR] at h1 h2 ⊢
 exact h1.trans h2
theorem Aw (l : List AcL) (u v : List AtL) (hlw : ∀ x ∈ l, x.w.length = 32) (hu : ∀ x ∈ u, x.w.length = 32 ∧ x.cd.length ≤ 140737488355328) (hv : ∀ x ∈ v, x.w.length = 32 ∧ x.cd.length ≤ 140737488355328) : FnM 3 [.sl 55 (l.map aI), .sl 107 (u.map mQ), .sl 107 (v.map mQ)] [] (fun r os' => r = .val (.v (.bool true)) ∧ os' = []) := by
 have hA := Jt l
 have hul : (u.map mQ).length = u.length := KG _
 have hvl : (v.map mQ).length = v.length := KG _
 refine FnM.walk 102 Tryz.func3 rfl Tryz.ntmps3 (by simp) fun X => ?_
 cases hba : FX l with
 | true =>
  rw [hba] at hA
  repeat
   (first
    | (apply gV; iterate 2 rfl) | ((apply jg (xP); (iterate 2 rfl); exact RL.a; exact enA; iterate 2 rfl))
    | (apply fJ (hA); rfl; exact au.refl _ _; exact enA; iterate 2 rfl) | (apply aB; iterate 3 rfl) | (apply ak; iterate 3 rfl)
    | (apply dH; iterate 4 rfl) | (apply vY; iterate 3 rfl) | apply EL.nil | (apply EC.t0; rfl)
    | (with_reducible first | apply EK.nc | apply EC.seq | apply EC.r0 | apply EC.ret | apply EK.aj))
  exact EK.bn [] rfl rfl (KE _) ⟨rfl, rfl⟩
 | false =>
 rw [hba] at hA
 by_cases c1 : 40 < u.length
 ·
  skip
  repeat
   (first
    | (apply gV; iterate 2 rfl) | ((apply jg (xP); (iterate 2 rfl); exact RL.a; exact enA; iterate 2 rfl))
    | (apply fJ (hA); rfl; exact au.refl _ _; exact enA; iterate 2 rfl) | (apply aB; iterate 3 rfl) | (apply ak; iterate 3 rfl)
    | (apply dH; iterate 4 rfl) | (apply vY; iterate 3 rfl) | (apply aC (b := true); (iterate 2 rfl); exact aN; iterate 2 rfl)
    | (apply aU; iterate 4 rfl) | apply EL.nil | (apply EC.t0; rfl)
    | (with_reducible first | apply EK.nc | apply EC.seq | apply EC.r0 | apply EC.ret | apply EK.aj))
  exact EK.bn [] rfl rfl (KE _) ⟨rfl, rfl⟩
 by_cases c2 : 40 < v.length
 ·
  skip
  repeat
   (first
    | ((apply jg (xP); (iterate 2 rfl); exact RL.a; exact enA; iterate 2 rfl)) | (apply fJ (hA); rfl; exact au.refl _ _; exact enA; iterate 2 rfl)
    | (apply aB; iterate 3 rfl) | (apply ak; iterate 3 rfl) | (apply dH; iterate 4 rfl) | (apply vY; iterate 3 rfl)
    | (apply aC (b := true); (iterate 2 rfl); exact aN; iterate 2 rfl) | (apply aC (b := false); (iterate 2 rfl); exact aN; iterate 2 rfl)
    | (apply aU; iterate 4 rfl) | apply EL.nil | (apply EC.t0; rfl)
    | (with_reducible first | apply EK.nc | apply EC.seq | apply EC.r0 | apply EC.ret | apply EK.aj))
  exact EK.bn [] rfl rfl (KE _) ⟨rfl, rfl⟩
 obtain ⟨hl1, hl2⟩ := Gl hba
 have hl4 : ∀ x ∈ l, x.sl.length ≤ 20 ∧ x.cd.length ≤ 140737488355328 := fun x hx => by have := hl2 x hx; omega
 have b1 := Ik l 20 (by omega) hl4 (by omega)
 have b2 := J7 l (by omega) fun x hx => by have := hl2 x hx; omega
 repeat
  (first
   | ((apply jg (xP); (iterate 2 rfl); exact RL.a; exact enA; iterate 2 rfl)) | (apply fJ (hA); rfl; exact au.refl _ _; exact enA; iterate 2 rfl)
   | (apply aB; iterate 3 rfl) | (apply ak; iterate 3 rfl) | (apply dH; iterate 4 rfl) | (apply vY; iterate 3 rfl)
   | (apply aC (b := false); (iterate 2 rfl); exact aN; iterate 2 rfl) | (apply aU; iterate 4 rfl) | apply EL.nil
   | (apply EC.f0; rfl) | (with_reducible first | apply EK.nc | apply EC.seq | apply EC.r0 | apply EC.k0))
 refine nX (os := []) b1 [] rfl rfl (au.refl _ _) (by intro _ _; simp [go_sem]) rfl rfl ?_
 rintro _ _ ⟨g, mm, c, es, ps, rfl, rfl, hp⟩
 have hS : MSt g 0 [] (kT l) [] 40 (psO g mm c es dF dF 0 [] ps) := ⟨mm, c, es, dF, dF, ps, by simp [psO], hp.uP (by omega), trivial, fun h hh => (by cases hh), Lj _⟩
 simp only [Kt]
 generalize psO g mm c es dF dF 0 [] ps = os1 at hS ⊢
 clear hp hA
 repeat
  (first
   | (apply aB; iterate 3 rfl) | (apply ak; iterate 3 rfl) | apply EL.nil
   | (with_reducible first | apply EK.nc | apply EC.seq | apply EC.r0))
 refine bD (os := []) b2 os1 [] (by simp) rfl (au.refl _ _) (by intro _ _; simp [go_sem]) rfl rfl ?_
 rintro _ os2 ⟨g2, rfl, hR⟩
 rw [KU]
 repeat
  (first
   | (apply aB; iterate 3 rfl) | (apply ak; iterate 3 rfl) | apply EL.nil
   | (with_reducible first | apply EK.nc | apply EC.seq | apply EC.r0))
 refine bD (Jd hS (by omega) (by omega) (by omega) (by simp)) [] os2 rfl rfl (au.refl _ _) (by intro _ _; simp [go_sem]) rfl rfl ?_
 rintro _ os1 ⟨rfl, hS⟩
 have hP := hS.gen
 have hR := hR.mono (show l.length * 1005 ≤ 20100 by omega)
 have hW := GN l hlw
 simp only [Kt]
 clear hS b1 b2
 generalize kT l = A at hP hR hW
 repeat
  (first
   | (apply ak; iterate 3 rfl) | apply EL.nil | (with_reducible first | apply EK.nc | apply EC.seq | apply EC.r0 | apply EC.b0))
 refine EC.loop (ι := {s : Nat × As × List Obj × List Obj // s.1 ≤ u.length ∧ GSt g s.2.1 (40 + 2 * s.1) s.2.2.1 ∧ RSt g2 s.2.1 (20100 + 2 * s.1) s.2.2.2 ∧ WnA s.2.1})
  (fun s => ⟨[(12, .val (.v (.int .i64 (s.1.1 : Int)))), (11, .val (.v (.int .i64 1))), (10, .val (.v (ptr g2))), (9, .val (.v (ptr g))), (2, .val (.sl 107 (v.map mQ))), (1, .val (.sl 107 (u.map mQ)))], s.1.2.2.1 ++ s.1.2.2.2, []⟩)
  (fun s => u.length - s.1.1) ⟨(0, A, os1, os2), Lj _, hP, hR, hW⟩ ?_ ?_
 · exact (Le.keep (by repeat first | exact trivial | refine ⟨rfl, ?_⟩) (by repeat first | exact KQ _ | apply List.Sublist.cons_cons | apply List.Sublist.cons) (by simp))
 clear hP hR hW
 rintro ⟨⟨i, A, os1, os2⟩, hi, hP, hR, hW⟩
 dsimp only at hi hP hR hW ⊢
 by_cases hlt : i < u.length
 ·
  have hd : (u.map mQ)[i]? = some (mQ u[i]) := by rw [List.getElem?_map, KA hlt]; rfl
  have hui := hu u[i] (LH hlt)
  generalize u[i] = x at hd hui
  have hst := fun h6 : x.way < 6 => FB x hP hR (by omega) (by omega) (hW _).1 (hW _).1 hui.1 hui.2 h6
  have hW2 := AtL.Ij hW hui.1
  generalize x.of A = B at hst hW2
  obtain ⟨way, n, a, b, q, w, cd⟩ := x
  unfold mQ at hd hst
  dsimp only at hd hst
  by_cases h6 : way < 6
  ·
   skip
   repeat
    (first
     | (apply aB; iterate 3 rfl) | (apply dX; iterate 7 rfl) | (apply bP; iterate 5 rfl)
     | (apply aC (b := true); (iterate 2 rfl); exact aN; iterate 2 rfl) | (apply aU; iterate 4 rfl)
     | (apply dh; (iterate 4 rfl); exact ixA; iterate 2 rfl) | apply EL.nil
     | (apply EC.t0; rfl) | (with_reducible first | apply EK.nc | apply EC.seq | apply EC.r0 | apply EC.k0 | apply EC.b0))
   refine bD (hst h6) [] [] (KU _).symm rfl (au.refl _ _) (by intro _ _; simp [go_sem]) rfl rfl ?_
   rintro _ _ ⟨os3, os4, hP2, hR2, rfl⟩
   rw [KU]
   simp only [Kt]
   repeat
    (first
     | (apply aB; iterate 3 rfl) | (apply ak; iterate 3 rfl) | (apply dQ; (iterate 3 rfl); (focus omega); (focus omega); iterate 2 rfl) | apply EL.nil
     | (with_reducible first | apply EK.nc | apply EC.r0 | apply EK.n0))
   refine EK.again ⟨(i + 1, B, os3, os4), hlt, hP2, hR2, hW2⟩ (by dsimp only; omega) ?_
   simp only [Ls]
   exact (Le.keep (by repeat first | exact trivial | refine ⟨rfl, ?_⟩) (by repeat first | exact KQ _ | apply List.Sublist.cons_cons | apply List.Sublist.cons) (by simp))
  ·
   skip
   repeat
    (first
     | (apply aB; iterate 3 rfl) | (apply ak; iterate 3 rfl) | (apply dX; iterate 7 rfl) | (apply bP; iterate 5 rfl)
     | (apply aC (b := true); (iterate 2 rfl); exact aN; iterate 2 rfl) | (apply aC (b := false); (iterate 2 rfl); exact aN; iterate 2 rfl)
     | (apply dQ; (iterate 3 rfl); (focus omega); (focus omega); iterate 2 rfl) | (apply aU; iterate 4 rfl)
     | (apply dh; (iterate 4 rfl); exact ixA; iterate 2 rfl) | apply EL.nil
     | (apply EC.t0; rfl) | (apply EC.f0; rfl)
     | (with_reducible first | apply EK.nc | apply EC.seq | apply EC.r0 | apply EC.k0 | apply EC.b0 | apply EK.n0))
   refine EK.again ⟨(i + 1, A, os1, os2), hlt, hP.mono (by omega), hR.mono (by omega), hW⟩ (by dsimp only; omega) ?_
   simp only [Ls]
   exact (Le.keep (by repeat first | exact trivial | refine ⟨rfl, ?_⟩) (by repeat first | exact KQ _ | apply List.Sublist.cons_cons | apply List.Sublist.cons) (by simp))
 obtain rfl : i = u.length := by omega
 have k1 := Jl hP (by omega) fun a => (hW a).2
 have k2 := Gu hR (by omega)
 repeat
  (first
   | (apply aB; iterate 3 rfl) | (apply aC (b := false); (iterate 2 rfl); exact aN; iterate 2 rfl) | (apply aU; iterate 4 rfl) | apply EL.nil
   | (apply EC.f0; rfl)
   | (with_reducible first | apply EK.nc | apply EC.seq | apply EC.r0 | apply EC.x0 | apply EK.s0 | apply EK.ah))
 refine bD k1 [] os2 rfl rfl (au.refl _ _) (by intro _ _; simp [go_sem]) rfl rfl ?_
 rintro _ _ ⟨g3, os3, rfl, hS3, rfl⟩
 simp only [Kt]
 repeat
  (first
   | (apply aB; iterate 3 rfl) | (apply ak; iterate 3 rfl) | apply EL.nil
   | (with_reducible first | apply EK.nc | apply EC.seq | apply EC.r0))
 refine bD k2 (os1 ++ os3) [] (by rw [KU]) rfl (au.refl _ _) (by intro _ _; simp [go_sem]) rfl rfl ?_
 rintro _ _ ⟨g4, os4, rfl, hR4, rfl⟩
 rw [KU]
 have hn := (nV (T := 26) rfl (some ⟨g3, 0, none⟩)).1
 have k3 := Dj hS3 (by simp) (n0 := 1) (fun x hx => by cases hx)
 repeat
  (first
   | (apply dO; (iterate 2 rfl); exact hn; iterate 2 rfl) | (apply aB; iterate 3 rfl) | (apply ak; iterate 3 rfl) | apply EL.nil
   | (with_reducible first | apply EK.nc | apply EC.seq | apply EC.r0))
 refine bD k3 os1 (os2 ++ os4) (KR _ _ _) rfl (au.refl _ _) (by intro _ _; simp [go_sem]) rfl rfl ?_
 rintro _ _ ⟨rfl, ho⟩
 rw [ho]
 clear ho
 have hP3 := hS3.gen
 refine EL.le (Le.perm (pm4 os1 os3 os2 os4)) ?_
 repeat
  (first
   | (apply ak; iterate 3 rfl) | (apply dH; iterate 4 rfl) | apply EL.nil | (apply EC.f0; rfl)
   | (with_reducible first | apply EK.nc | apply EC.seq | apply EC.r0 | apply EC.k0 | apply EC.b0))
 have hWA := hW
 clear hn k1 k2 k3 hS3
 refine EC.loop (ι := {s : Nat × As × List Obj × List Obj // s.1 ≤ v.length ∧ GSt g3 s.2.1 (240 + 2 * s.1) s.2.2.1 ∧ RSt g4 s.2.1 (20200 + 2 * s.1) s.2.2.2 ∧ WnA s.2.1})
  (fun s => ⟨[(15, .val (.v (.int .i64 (s.1.1 : Int)))), (14, .val (.v (ptr g4))), (13, .val (.v (ptr g3))), (10, .val (.v (ptr g2))), (9, .val (.v (ptr g))), (2, .val (.sl 107 (v.map mQ)))], (s.1.2.2.1 ++ s.1.2.2.2) ++ (os1 ++ os2), []⟩)
  (fun s => v.length - s.1.1) ⟨(0, A, os3, os4), Lj _, hP3.mono (by omega), hR4.mono (by omega), hW⟩ ?_ ?_
 · exact (Le.keep (by repeat first | exact trivial | refine ⟨rfl, ?_⟩) (by repeat first | exact KQ _ | apply List.Sublist.cons_cons | apply List.Sublist.cons) (by simp))
 clear hP3 hR4 hW
 rintro ⟨⟨i, B, os3, os4⟩, hi, hP3, hR4, hW⟩
 dsimp only at hi hP3 hR4 hW ⊢
 by_cases hlt : i < v.length
 ·
  have hd : (v.map mQ)[i]? = some (mQ v[i]) := by rw [List.getElem?_map, KA hlt]; rfl
  have hui := hv v[i] (LH hlt)
  generalize v[i] = x at hd hui
  have hst := fun h6 : x.way < 6 => FB x hP3 hR4 (by omega) (by omega) (hW _).1 (hW _).1 hui.1 hui.2 h6
  have hW2 := AtL.Ij hW hui.1
  generalize x.of B = B2 at hst hW2
  obtain ⟨way, n, a, b, q, w, cd⟩ := x
  unfold mQ at hd hst
  dsimp only at hd hst
  by_cases h6 : way < 6
  ·
   skip
   repeat
    (first
     | (apply aB; iterate 3 rfl) | (apply dX; iterate 7 rfl) | (apply bP; iterate 5 rfl)
     | (apply aC (b := true); (iterate 2 rfl); exact aN; iterate 2 rfl) | (apply aU; iterate 4 rfl)
     | (apply dh; (iterate 4 rfl); exact ixA; iterate 2 rfl) | apply EL.nil
     | (apply EC.t0; rfl) | (with_reducible first | apply EK.nc | apply EC.seq | apply EC.r0 | apply EC.k0 | apply EC.b0))
   refine bD (hst h6) [] (os1 ++ os2) rfl rfl (au.refl _ _) (by intro _ _; simp [go_sem]) rfl rfl ?_
   rintro _ _ ⟨os5, os6, hP5, hR6, rfl⟩
   simp only [Kt]
   repeat
    (first
     | (apply aB; iterate 3 rfl) | (apply ak; iterate 3 rfl) | (apply dQ; (iterate 3 rfl); (focus omega); (focus omega); iterate 2 rfl) | apply EL.nil
     | (with_reducible first | apply EK.nc | apply EC.r0 | apply EK.n0))
   refine EK.again ⟨(i + 1, B2, os5, os6), hlt, hP5, hR6, hW2⟩ (by dsimp only; omega) ?_
   simp only [Ls]
   exact (Le.keep (by repeat first | exact trivial | refine ⟨rfl, ?_⟩) (by repeat first | exact KQ _ | apply List.Sublist.cons_cons | apply List.Sublist.cons) (by simp))
  ·
   skip
   repeat
    (first
     | (apply aB; iterate 3 rfl) | (apply ak; iterate 3 rfl) | (apply dX; iterate 7 rfl) | (apply bP; iterate 5 rfl)
     | (apply aC (b := true); (iterate 2 rfl); exact aN; iterate 2 rfl) | (apply aC (b := false); (iterate 2 rfl); exact aN; iterate 2 rfl)
     | (apply dQ; (iterate 3 rfl); (focus omega); (focus omega); iterate 2 rfl) | (apply aU; iterate 4 rfl)
     | (apply dh; (iterate 4 rfl); exact ixA; iterate 2 rfl) | apply EL.nil
     | (apply EC.t0; rfl) | (apply EC.f0; rfl)
     | (with_reducible first | apply EK.nc | apply EC.seq | apply EC.r0 | apply EC.k0 | apply EC.b0 | apply EK.n0))
   refine EK.again ⟨(i + 1, B, os3, os4), hlt, hP3.mono (by omega), hR4.mono (by omega), hW⟩ (by dsimp only; omega) ?_
   simp only [Ls]
   exact (Le.keep (by repeat first | exact trivial | refine ⟨rfl, ?_⟩) (by repeat first | exact KQ _ | apply List.Sublist.cons_cons | apply List.Sublist.cons) (by simp))
 obtain rfl : i = v.length := by omega
 repeat
  (first
   | (apply aB; iterate 3 rfl) | (apply aC (b := false); (iterate 2 rfl); exact aN; iterate 2 rfl) | (apply aU; iterate 4 rfl) | apply EL.nil
   | (apply EC.f0; rfl)
   | (with_reducible first | apply EK.nc | apply EC.seq | apply EC.r0 | apply EC.x0 | apply EK.s0 | apply EK.ah))
 refine bD (oL hP (by omega)) (os3 ++ os4) os2 rfl rfl (au.refl _ _) (by intro _ _; simp [go_sem]) rfl rfl ?_
 rintro _ _ ⟨⟨L, hL, hLl, hLs, rfl⟩, ho⟩
 rw [ho]
 clear ho
 have hsame := mO L (by omega) fun x hx => by have := hLs x hx; omega
 repeat
  (first
   | (apply aB; iterate 3 rfl))
 refine bD (qP hR (by omega)) ((os3 ++ os4) ++ os1) [] (by rw [KU, KR _ os1]) rfl (au.refl _ _) (by intro _ _; simp [go_sem]) rfl rfl ?_
 rintro _ _ ⟨⟨L2, hL2, _, rfl⟩, ho⟩
 rw [ho]
 clear ho
 obtain rfl := hL2.eq hL
 repeat
  (first
   | (apply fJ (hsame); rfl; exact au.refl _ _; exact enA; iterate 2 rfl) | (apply aB; iterate 3 rfl))
 refine bD (oL hP3 (by omega)) [] (os4 ++ (os1 ++ os2)) (by simp only [KR, Kt, KU]) rfl (au.refl _ _) (by intro _ _; simp [go_sem]) rfl rfl ?_
 rintro _ _ ⟨⟨L3, hL3, hL3l, hL3s, rfl⟩, ho⟩
 rw [ho]
 clear ho
 have hsame3 := mO L3 (by omega) fun x hx => by have := hL3s x hx; omega
 simp only [Kt]
 repeat
  (first
   | (apply aB; iterate 3 rfl))
 refine bD (qP hR4 (by omega)) os3 (os1 ++ os2) rfl rfl (au.refl _ _) (by intro _ _; simp [go_sem]) rfl rfl ?_
 rintro _ _ ⟨⟨L4, hL4, _, rfl⟩, ho⟩
 rw [ho]
 clear ho
 obtain rfl := hL4.eq hL3
 repeat
  (first
   | (apply fJ (hsame3); rfl; exact au.refl _ _; exact enA; iterate 2 rfl) | (apply ak; iterate 3 rfl) | (apply dH; iterate 4 rfl) | apply EL.nil
   | ((with_reducible apply EK.h0); apply EK.code) | (with_reducible apply EC.ret))
 exact EK.bn [] rfl rfl (KE _) ⟨rfl, rfl⟩
end E
end Go.Proofs.YtkhjanjlcdhdcaaGreat
namespace Go.Proofs.YtkhjanjlcdhdcaaGreat
open Go.RowKit Mono

end Go.Proofs.YtkhjanjlcdhdcaaGreat
namespace Go.Proofs.YtkhjanjlcdhdcaaGreat
set_option linter.unusedVariables false
set_option maxRecDepth 100000
open Go.RowKit Mono Go.ChangeShapes Go.WideShapes Go.Deep
theorem cell_spot {w : World} {p : Addr} {v : Value} (h : w.cell? p = some v) : p.block < w.heap.size ∧ ∃ b o, p = ⟨b, o, none⟩ := by
 obtain ⟨blk, off, spot⟩ := p
 have hspot : spot = none := by
  simp only [World.cell?] at h
  cases spot with
  | none => rfl
  | some s =>
   simp at h
   split at h <;> simp at h
 subst hspot
 refine ⟨?_, blk, off, rfl⟩
 rcases LX blk w.heap.size with hlt | hge
 · exact hlt
 · simp [World.cell?, Array.getElem?_eq_none hge] at h
theorem flat_get {n : Nat} {u : Value} : ∀ (rows : List (List Value)) (j : Nat), (∀ r ∈ rows, r.length = n) → rows.flatten[j]? = some u → ∃ i r row, j = i * n + r ∧ r < n ∧ rows[i]? = some row ∧ row[r]? = some u
 | [], j, _, h => by simp at h
 | row :: rows, j, hn, h => by
  have hr : row.length = n := hn row (by simp)
  rw [LW] at h
  by_cases hj : j < n
  ·
   rw [L6 (by omega)] at h
   exact ⟨0, j, row, by simp, hj, rfl, h⟩
  ·
   rw [MH (by omega), hr] at h
   obtain ⟨i, r, row', h1, h2, h3, h4⟩ := flat_get rows (j - n) (fun r hr => hn r (by simp [hr])) h
   exact ⟨i + 1, r, row', by rw [MQ]; omega, h2, by simpa using h3, h4⟩
section
variable {H : Type} {enc : TypeId × Value → H} {w : World} {spare : Nat → Bool} {held : Bool}
theorem int_of_trod {t : TypeId} {k : IntKind} {fuel : Nat} {cs : List Value} {x : DataW H × List MemPlace} (ht : Tryz.prog.underlying t = some (.int k)) (h : DataW.trod enc Tryz.prog w 0 spare held fuel t cs = some x) : ∃ n, cs = [.int k n] ∧ (Lit.int k n).wf = true := by
 obtain ⟨n, h1, _, h2⟩ := DataW.trod_int ht h
 exact ⟨n, h1, h2⟩
theorem rY {fuel : Nat} {cs : List Value} {x : DataW H × List MemPlace} (h : DataW.trod enc Tryz.prog w 0 spare held fuel 5 cs = some x) : ∃ b : UInt8, cs = [bv b] := by
 obtain ⟨n, rfl, hw⟩ := int_of_trod Tryz.underlying5 h
 have hb := bounds_u8 hw
 refine ⟨UInt8.ofNat n.toNat, ?_⟩
 unfold bv
 rw [UInt8.toNat_ofNat']
 have : ((n.toNat % 2 ^ 8 : Nat) : Int) = n := by omega
 rw [this]
theorem uM {rows : List (List Value)} (h : ∀ r ∈ rows, ∃ b : UInt8, r = [bv b]) : ∃ l : List UInt8, l.length = rows.length ∧ rows.flatten = bvs l := by
 induction rows with
 | nil => exact ⟨[], rfl, rfl⟩
 | cons r rows ih =>
  obtain ⟨l, h1, h2⟩ := ih fun r hr => h r (by simp [hr])
  obtain ⟨b, rfl⟩ := h r (by simp)
  exact ⟨b :: l, by simp [h1], by simp [h2, bvs]⟩
set_option maxRecDepth 100000
variable {r : Reach} {b0 : Nat} {v : Value} {d : DataW H} {ps : List MemPlace}
end
section
variable {H : Type} {enc : TypeId × Value → H} {w : World} {spare : Nat → Bool} {held : Bool}
theorem Jw (cs : List Value) (h : ∀ u ∈ cs, ∃ b : UInt8, u = bv b) : ∃ l : List UInt8, cs = bvs l := by
 induction cs with
 | nil => exact ⟨[], rfl⟩
 | cons u cs ih =>
  obtain ⟨l, hl⟩ := ih fun u hu => h u (by simp [hu])
  obtain ⟨b, rfl⟩ := h u (by simp)
  exact ⟨b :: l, by rw [hl]; rfl⟩
theorem zN {t : TypeId} {n fuel : Nat} {cs : List Value} {x : DataW H × List MemPlace} (ht : Tryz.prog.underlying t = some (.array n 5)) (hc : Tryz.prog.cellsOf t = n) (h : DataW.trod enc Tryz.prog w 0 spare held fuel t cs = some x) :
  ∃ l : List UInt8, l.length = n ∧ cs = bvs l := by
 obtain ⟨xs, m, _, _, hl, hxl, hg⟩ := DataW.trod_array ht h
 rw [hc] at hl
 obtain ⟨l, rfl⟩ := Jw cs fun u hu => by
  obtain ⟨i, hi, rfl⟩ := Ox hu
  have h1 := hg i (by omega)
  rw [(by kernel_rfl : Tryz.prog.cellsOf 5 = 1), Nat.mul_one, LV hi, Kv, Kz, KA (by omega)] at h1
  obtain ⟨b, hb⟩ := rY h1
  exact ⟨b, by simpa using hb⟩
 exact ⟨l, by rw [← hl, bK], rfl⟩
variable {r : Reach} {b0 : Nat} {v : Value} {d : DataW H} {ps : List MemPlace}
end
section
variable {H : Type} {enc : TypeId × Value → H} {w : World} {spare : Nat → Bool} {held : Bool}
theorem qJ {P : Program} {e : TypeId} {d : DataW H} {k : Nat} : ∀ {ds : List (DataW H)}, d ∈ ds → k ∈ d.weights P e → k ∈ DataW.weightsAll P e ds
 | [], h, _ => by cases h
 | x :: xs, h, hk => by
  rw [DataW.weightsAll]
  rcases KI.1 h with rfl | h
  · exact KX _ hk
  · exact KZ _ (qJ h hk)
theorem qL {t e n : TypeId} {fuel : Nat} {v : Value} {x : DataW H × List MemPlace} (ht : Tryz.prog.underlying t = some (.slice e)) (hn : Tryz.prog.cellsOf e = n) (h : DataW.trod enc Tryz.prog w 0 spare held fuel t [v] = some x) :
  ∃ (A : Option Addr) (c f : Nat) (rows : List (List Value)), v = .slice A rows.length c ∧ rows.length ≤ c ∧ c ≤ maxLen ∧ Rd w w.heap.size A rows.flatten ∧ (∀ r ∈ rows, r.length = n) ∧ (A = none → rows = [] ∧ c = 0) ∧ (rows ≠ [] → f < fuel) ∧ (∀ r ∈ rows, ∃ y, DataW.trod enc Tryz.prog w 0 spare held f e r = some y ∧ ∀ k ∈ y.1.weights Tryz.prog e, k ∈ x.1.weights Tryz.prog t) ∧ (rows ≠ [] → ∃ k ∈ x.1.weights Tryz.prog t, rows.length * Tryz.prog.bytesOf e ≤ k) := by
 rcases DataW.trod_slice ht h with ⟨hcs, hx⟩ | ⟨a, len, cap, elems, rest, f, hfu, hcs, hx, _, hl, hm, hel, hi, _⟩
 ·
  simp at hcs
  subst hcs
  exact ⟨none, 0, 0, [], rfl, KW _, by simp [maxLen], Rd.nil, by simp, fun _ => ⟨rfl, rfl⟩, fun hne => absurd rfl hne, by simp, fun hne => absurd rfl hne⟩
 ·
  simp at hcs
  subst hcs
  rw [hn] at hi
  let row : Nat → List Value := fun i => (w.cells? 0 (a.add (i * n)) n).getD []
  have hrow : ∀ i, i < len → w.cells? 0 (a.add (i * n)) n = some (row i) ∧ ∃ y, DataW.trod enc Tryz.prog w 0 spare held f e (row i) = some y ∧ ∀ k ∈ y.1.weights Tryz.prog e, k ∈ x.1.weights Tryz.prog t := fun i hil => by
   have h1 := hi i hil
   rw [KA (by omega)] at h1
   cases hc : w.cells? 0 (a.add (i * n)) n with
   | none => rw [hc] at h1; cases h1
   | some cs' =>
    rw [hc] at h1
    have : row i = cs' := by simp only [row]; rw [hc]; rfl
    rw [this]
    refine ⟨rfl, _, h1, fun k hk => ?_⟩
    rw [hx, DataW.weights, ht]
    exact KT _ (KX _ (qJ (List.mem_map_of_mem (LH (by omega))) hk))
  have hmem : ∀ r ∈ (List.range len).map row, ∃ i, i < len ∧ r = row i := fun r hr => by
   obtain ⟨i, h1, h2⟩ := Lh.1 hr
   exact ⟨i, ND.1 h1, h2.symm⟩
  have hlen : ∀ r ∈ (List.range len).map row, r.length = n := fun r hr => by
   obtain ⟨i, h1, rfl⟩ := hmem r hr
   exact (World.cells?_some (hrow i h1).1).2.1
  refine ⟨some a, cap, f, (List.range len).map row, by simp, by simpa using hl, hm, ?_, hlen, (fun e => by cases e), fun _ => by omega, fun r hr => ?_, fun _ => ⟨(elems.length + rest.length) * Tryz.prog.bytesOf e, ?_, ?_⟩⟩
  ·
   have hcell : ∀ j u, ((List.range len).map row).flatten[j]? = some u → w.cell? (a.add j) = some u := fun j u hu => by
    obtain ⟨i, r, row', rfl, h2, h3, h4⟩ := flat_get _ j hlen hu
    have hil : i < len := by
     have := (KP.1 h3).1
     simpa using this
    have h5 : row' = row i := by
     rw [List.getElem?_map, List.getElem?_range hil] at h3
     exact (Md h3).symm
    subst h5
    have h6 := (World.cells?_some (hrow i hil).1).2.2 r h2
    rw [h4, Go.Deep.add_add] at h6
    exact h6
   intro hne
   obtain ⟨u0, rest, he⟩ := List.exists_cons_of_ne_nil hne
   have h0 := hcell 0 u0 (by rw [he]; rfl)
   rw [show a.add 0 = a from if_pos rfl] at h0
   obtain ⟨h1, b, o, rfl⟩ := cell_spot h0
   refine ⟨b, o, rfl, h1, fun j u hu => ?_⟩
   have := hcell j u hu
   rw [dU] at this
   exact this
  ·
   obtain ⟨i, h1, rfl⟩ := hmem r hr
   exact (hrow i h1).2
  ·
   rw [hx, DataW.weights, ht]
   simp
  ·
   rw [KG, List.length_range]
   exact MV _ (by omega)
end
end Go.Proofs.YtkhjanjlcdhdcaaGreat
namespace Go.Proofs.YtkhjanjlcdhdcaaGreat
set_option linter.unusedVariables false
set_option maxRecDepth 100000
open Go.RowKit Mono Go.ChangeShapes Go.WideShapes Go.Deep
namespace E
inductive Sh where
 | bool
 | int (k : IntKind)
 | arr (n : Nat)
 | bytes
 | slice (b : Nat) (s : Sh)
 | struct (ss : List Sh)
mutual
def Sh.size : Sh → Nat
 | .arr n => n
 | .struct ss => Sh.sizes ss
 | _ => 1
def Sh.sizes : List Sh → Nat
 | [] => 0
 | s :: ss => s.size + Sh.sizes ss
end
def Sh.agg : Sh → Bool
 | .arr _ => true
 | .struct _ => true
 | _ => false
mutual
def Sh.Is : Sh → TypeId → Prop
 | .bool, t => Tryz.prog.underlying t = some .bool ∧ Tryz.prog.cellsOf t = 1
 | .int k, t => Tryz.prog.underlying t = some (.int k) ∧ Tryz.prog.cellsOf t = 1
 | .arr n, t => Tryz.prog.underlying t = some (.array n 5) ∧ Tryz.prog.cellsOf t = n
 | .bytes, t => Tryz.prog.underlying t = some (.slice 5) ∧ Tryz.prog.cellsOf t = 1
 | .slice b s, t => Tryz.prog.cellsOf t = 1 ∧ ∃ e, Tryz.prog.underlying t = some (.slice e) ∧ Tryz.prog.bytesOf e = b ∧ s.Is e
 | .struct ss, t => ∃ fs : Array Field, Tryz.prog.underlying t = some (.struct fs) ∧ Tryz.prog.cellsOf t = Sh.sizes ss ∧ Sh.IsF ss 0 fs.toList
def Sh.IsF : List Sh → Nat → List Field → Prop
 | [], _, fs => fs = []
 | s :: ss, o, fs => ∃ f rest, fs = f :: rest ∧ f.offset = o ∧ s.Is f.type ∧ Sh.IsF ss (o + s.size) rest
end
mutual
def Sh.Of (N : Nat) : Sh → D → Prop
 | .bool, d => ∃ b, d = .v (.bool b)
 | .int k, d => ∃ n, d = .v (.int k n) ∧ (Lit.int k n).wf = true
 | .arr n, d => ∃ l : List UInt8, l.length = n ∧ d = .arr n l
 | .bytes, d => ∃ l : List UInt8, l.length ≤ N ∧ d = .bs l
 | .slice b s, d => ∃ ds : List D, ds.length * b ≤ N ∧ d = .sl s.size ds ∧ ∀ x ∈ ds, s.Of N x
 | .struct ss, d => ∃ ds, d = .tup ds ∧ Sh.OfL N ss ds
def Sh.OfL (N : Nat) : List Sh → List D → Prop
 | [], ds => ds = []
 | s :: ss, ds => ∃ d rest, ds = d :: rest ∧ s.Of N d ∧ Sh.OfL N ss rest
end
theorem Sh.Is.cells : ∀ {s : Sh} {t : TypeId}, s.Is t → Tryz.prog.cellsOf t = s.size
 | .bool, t, h => by rw [Sh.Is] at h; exact h.2
 | .int k, t, h => by rw [Sh.Is] at h; exact h.2
 | .arr n, t, h => by rw [Sh.Is] at h; exact h.2
 | .bytes, t, h => by rw [Sh.Is] at h; exact h.2
 | .slice b s, t, h => by rw [Sh.Is] at h; exact h.1
 | .struct ss, t, h => by
  rw [Sh.Is] at h
  obtain ⟨fs, _, h2, _⟩ := h
  exact h2
theorem BD {ok : Nat → Prop} {w : World} {z : Nat} {Q : D → Prop} : ∀ {rows : List (List Value)}, (∀ r ∈ rows, r.length = z ∧ ∃ d, Q d ∧ Reads ok w d r) → ∃ ds, ds.length = rows.length ∧ (∀ x ∈ ds, Q x) ∧ ay ok w z ds rows
 | [], _ => ⟨[], rfl, by simp, by rw [ay]⟩
 | r :: rows, h => by
  obtain ⟨ds, h1, h2, h3⟩ := BD (rows := rows) fun r hr => h r (by simp [hr])
  obtain ⟨hz, d, hd, hr⟩ := h r (by simp)
  refine ⟨d :: ds, by simp [h1], fun x hx => ?_, by rw [ay]; exact ⟨r, rows, rfl, hz, hr, h3⟩⟩
  rcases KI.1 hx with rfl | hx
  · exact hd
  · exact h2 x hx
section
variable {H : Type} {enc : TypeId × Value → H} {w : World} {spare : Nat → Bool} {held : Bool} {N : Nat}
mutual
theorem wK : ∀ (s : Sh) (t : TypeId) (fuel : Nat) (cs : List Value) (x : DataW H × List MemPlace), s.Is t → DataW.trod enc Tryz.prog w 0 spare held fuel t cs = some x → (∀ k ∈ x.1.weights Tryz.prog t, k ≤ N) → ∃ d, s.Of N d ∧ Reads (fun b => b < w.heap.size) w d cs
 | .bool, t, fuel, cs, x, hs, h, hN => by
  rw [Sh.Is] at hs
  obtain ⟨b, rfl, _⟩ := DataW.trod_bool hs.1 h
  exact ⟨.v (.bool b), by rw [Sh.Of]; exact ⟨b, rfl⟩, by rw [Reads]; exact ⟨rfl, rfl⟩⟩
 | .int k, t, fuel, cs, x, hs, h, hN => by
  rw [Sh.Is] at hs
  obtain ⟨n, rfl, _, hw⟩ := DataW.trod_int hs.1 h
  exact ⟨.v (.int k n), by rw [Sh.Of]; exact ⟨n, rfl, hw⟩, by rw [Reads]; exact ⟨rfl, rfl⟩⟩
 | .arr n, t, fuel, cs, x, hs, h, hN => by
  rw [Sh.Is] at hs
  obtain ⟨l, hl, rfl⟩ := zN hs.1 hs.2 h
  exact ⟨.arr n l, by rw [Sh.Of]; exact ⟨l, hl, rfl⟩, by rw [Reads]; exact ⟨hl, rfl⟩⟩
 | .bytes, t, fuel, cs, x, hs, h, hN => by
  rw [Sh.Is] at hs
  have hl : ∃ v, cs = [v] := by
   rcases DataW.trod_slice hs.1 h with ⟨hcs, _⟩ | ⟨a, len, cap, elems, rest, f, hfu, hcs, _⟩
   · exact ⟨_, hcs⟩
   · exact ⟨_, hcs⟩
  obtain ⟨v, rfl⟩ := hl
  obtain ⟨A, c, f, rows, rfl, h1, h2, h3, _, _, _, h5, h8⟩ := qL hs.1 (by kernel_rfl : Tryz.prog.cellsOf 5 = 1) h
  obtain ⟨l, h6, h7⟩ := uM fun r hr => by
   obtain ⟨y, hy, _⟩ := h5 r hr
   exact rY hy
  rw [h7] at h3
  have hl : l.length ≤ N := by
   rw [h6]
   by_cases hr : rows = []
   · rw [hr]; simp
   ·
    obtain ⟨k, hk, hk2⟩ := h8 hr
    rw [(by kernel_rfl : Tryz.prog.bytesOf 5 = 1), Nat.mul_one] at hk2
    exact Ll hk2 (hN k hk)
  exact ⟨.bs l, by rw [Sh.Of]; exact ⟨l, hl, rfl⟩, by rw [Reads]; exact ⟨_, rfl, A, c, by rw [h6], by rw [h6]; exact h1, h2, h3⟩⟩
 | .slice b s, t, fuel, cs, x, hs, h, hN => by
  rw [Sh.Is] at hs
  obtain ⟨_, e, hu, hb, he⟩ := hs
  have hl : ∃ v, cs = [v] := by
   rcases DataW.trod_slice hu h with ⟨hcs, _⟩ | ⟨a, len, cap, elems, rest, f, hfu, hcs, _⟩
   · exact ⟨_, hcs⟩
   · exact ⟨_, hcs⟩
  obtain ⟨v, rfl⟩ := hl
  obtain ⟨A, c, f, rows, rfl, h1, h2, h3, h4, h5, _, h6, h8⟩ := qL hu he.cells h
  obtain ⟨ds, g1, g2, g3⟩ := BD (ok := fun b => b < w.heap.size) (w := w) (z := s.size) (Q := s.Of N) fun r hr => by
   obtain ⟨y, hy, hk⟩ := h6 r hr
   exact ⟨h4 r hr, wK s e f r y he hy fun k hk' => hN k (hk k hk')⟩
  have hl : ds.length * b ≤ N := by
   rw [g1, ← hb]
   by_cases hr : rows = []
   · rw [hr]; simp
   ·
    obtain ⟨k, hk, hk2⟩ := h8 hr
    exact Ll hk2 (hN k hk)
  refine ⟨.sl s.size ds, by rw [Sh.Of]; exact ⟨ds, hl, rfl, g2⟩, ?_⟩
  rw [Reads]
  exact ⟨A, c, rows, by rw [g1], by rw [g1]; exact h1, h2, fun e => by rw [g1, (h5 e).1]; exact ⟨rfl, (h5 e).2⟩, h3, g3⟩
 | .struct ss, t, fuel, cs, x, hs, h, hN => by
  rw [Sh.Is] at hs
  obtain ⟨fs, hu, hc, hf⟩ := hs
  obtain ⟨xs, n, _, hx, hl, hxl, hg⟩ := DataW.trod_struct hu h
  obtain ⟨ds, h1, h2⟩ := yD ss 0 n cs fs.toList hf (by rw [hl, hc, LQ]) fun f hm => by
   obtain ⟨i, hi, rfl⟩ := Ox hm
   have hi' : i < fs.size := by simpa using hi
   have := hg i fs[i] (by rw [Ns hi'])
   rw [KA (by omega)] at this
   refine ⟨_, this, fun k hk => hN k ?_⟩
   rw [hx]
   simp only [DataW.weights, hu]
   exact DataW.weights_mem_each (j := i) (t := fs[i].type) (d := xs[i].1) (by simp [Array.getElem?_eq_getElem hi']) (by rw [List.getElem?_map, KA (by omega)]; rfl) k hk
  exact ⟨.tup ds, by rw [Sh.Of]; exact ⟨ds, rfl, h1⟩, by rw [Reads]; simpa using h2⟩
theorem yD : ∀ (ss : List Sh) (o n : Nat) (cs : List Value) (fs : List Field), Sh.IsF ss o fs → cs.length = o + Sh.sizes ss → (∀ f ∈ fs, ∃ y, DataW.trod enc Tryz.prog w 0 spare held n f.type ((cs.drop f.offset).take (Tryz.prog.cellsOf f.type)) = some y ∧ ∀ k ∈ y.1.weights Tryz.prog f.type, k ≤ N) →
  ∃ ds, Sh.OfL N ss ds ∧ bH (fun b => b < w.heap.size) w ds (cs.drop o)
 | [], o, n, cs, fs, hf, hl, h => ⟨[], by rw [Sh.OfL], by
  rw [bH]
  rw [Sh.sizes] at hl
  exact LZ (by omega)⟩
 | s :: ss, o, n, cs, fs, hf, hl, h => by
  rw [Sh.IsF] at hf
  obtain ⟨f, rest, rfl, rfl, hs, hf⟩ := hf
  rw [Sh.sizes] at hl
  obtain ⟨y, hy, hk⟩ := h f (by simp)
  rw [hs.cells] at hy
  obtain ⟨d, h1, h2⟩ := wK s f.type n _ y hs hy hk
  obtain ⟨ds, h3, h4⟩ := yD ss (f.offset + s.size) n cs rest hf (by omega) fun g hg => h g (by simp [hg])
  refine ⟨d :: ds, by rw [Sh.OfL]; exact ⟨d, ds, rfl, h1, h3⟩, ?_⟩
  rw [bH]
  refine ⟨_, _, ?_, h2, h4⟩
  rw [← List.drop_drop, Mc]
end
theorem IJ {s : Sh} {d : D} (h : s.Of N d) : d.agg = s.agg := by
 cases s <;> rw [Sh.Of] at h
 ·
  obtain ⟨_, rfl⟩ := h
  rfl
 ·
  obtain ⟨_, rfl, _⟩ := h
  rfl
 ·
  obtain ⟨_, _, rfl⟩ := h
  rfl
 ·
  obtain ⟨_, _, rfl⟩ := h
  rfl
 ·
  obtain ⟨_, _, rfl, _⟩ := h
  rfl
 ·
  obtain ⟨_, rfl, _⟩ := h
  rfl
variable {r : Reach} {b0 : Nat} {v : Value} {d : DataW H} {ps : List MemPlace}
theorem Ec {s : Sh} {t : TypeId} (hs : s.Is t) (hv : Value.okWide Tryz.prog w r b0 t v) (h : DataW.Trod enc Tryz.prog w 0 spare held t v d ps) : v = if s.agg then .agg v.cells else v.cells.toList.headD undef := by
 cases s <;> rw [Sh.Is] at hs
 ·
  obtain ⟨b, rfl, _⟩ := open_bool hs.1 hv h
  rfl
 ·
  obtain ⟨n, rfl, _⟩ := open_int hs.1 hv h
  rfl
 ·
  simp only [Value.okWide, hs.1] at hv
  obtain ⟨cs, rfl, _⟩ := hv
  rfl
 ·
  obtain ⟨a, n, c, rfl⟩ := okWide_slice hs.1 hv
  rfl
 ·
  obtain ⟨_, e, hu, _, _⟩ := hs
  obtain ⟨a, n, c, rfl⟩ := okWide_slice hu hv
  rfl
 ·
  obtain ⟨fs, hu, _⟩ := hs
  simp only [Value.okWide, hu] at hv
  obtain ⟨cs, rfl, _⟩ := hv
  rfl
theorem JL {s : Sh} {t : TypeId} (hs : s.Is t) (hv : Value.okWide Tryz.prog w r b0 t v) (h : DataW.Trod enc Tryz.prog w 0 spare held t v d ps) (hN : ∀ k ∈ d.weights Tryz.prog t, k ≤ N) : ∃ D, s.Of N D ∧ cZ (fun b => b < w.heap.size) w D v := by
 have h3 := Ec hs hv h
 obtain ⟨fuel, hf⟩ := h
 obtain ⟨D, h1, h2⟩ := wK s t fuel _ _ hs hf hN
 refine ⟨D, h1, _, h2, ?_⟩
 unfold form
 rw [IJ h1]
 simpa using h3
end
def Ed : Sh := .struct [.arr 32, .arr 32]
def Ef : Sh := .struct [.arr 20, .int .i64, .arr 32, .bytes, .slice 64 Ed]
theorem G5 : Ed.Is 63 := by
 unfold Ed
 rw [Sh.Is]
 refine ⟨_, Tryz.underlying63, by kernel_rfl, ?_⟩
 simp only [Sh.IsF, Sh.Is]
 exact ⟨_, _, rfl, rfl, ⟨Tryz.underlying34, by kernel_rfl⟩, _, _, rfl, rfl, ⟨Tryz.underlying34, by kernel_rfl⟩, rfl⟩
theorem AB : Ef.Is 51 := by
 unfold Ef
 rw [Sh.Is]
 refine ⟨_, Tryz.underlying51, by kernel_rfl, ?_⟩
 simp only [Sh.IsF, Sh.Is]
 exact ⟨_, _, rfl, rfl, ⟨Tryz.underlying32, by kernel_rfl⟩, _, _, rfl, rfl, ⟨Tryz.underlying2, by kernel_rfl⟩, _, _, rfl, rfl, ⟨Tryz.underlying34, by kernel_rfl⟩, _, _, rfl, rfl, ⟨Tryz.underlying35, by kernel_rfl⟩, _, _, rfl, rfl, ⟨by kernel_rfl, _, Tryz.underlying49, by kernel_rfl, G5⟩, rfl⟩
theorem y9 : (Sh.slice 112 Ef).Is 22 := by
 rw [Sh.Is]
 exact ⟨by kernel_rfl, _, Tryz.underlying22, by kernel_rfl, AB⟩
theorem BN {α : Type} {Q : D → Prop} {f : α → D} (h : ∀ d, Q d → ∃ a, d = f a) : ∀ {ds : List D}, (∀ x ∈ ds, Q x) → ∃ rs : List α, ds = rs.map f
 | [], _ => ⟨[], rfl⟩
 | d :: ds, hd => by
  obtain ⟨a, rfl⟩ := h d (hd d (by simp))
  obtain ⟨rs, rfl⟩ := BN h fun x hx => hd x (KT _ hx)
  exact ⟨a :: rs, rfl⟩
variable {N : Nat}
theorem GI {d : D} (h : Ed.Of N d) : ∃ s, d = aZ s := by
 unfold Ed at h
 simp only [Sh.Of, Sh.OfL] at h
 obtain ⟨_, rfl, _, _, rfl, ⟨k, h1, rfl⟩, _, _, rfl, ⟨v, h2, rfl⟩, rfl⟩ := h
 exact ⟨(k, v), rfl⟩
theorem Jf (l : List Nat) : ∀ k ∈ l, k ≤ l.sum := by
 induction l with
 | nil => intro k hk; cases hk
 | cons a l ih =>
  intro k hk
  rw [List.sum_cons]
  rcases KI.1 hk with rfl | hk
  · omega
  ·
   have := ih k hk
   omega
end E
end Go.Proofs.YtkhjanjlcdhdcaaGreat
namespace Go.Proofs.YtkhjanjlcdhdcaaGreat
set_option linter.unusedVariables false
set_option maxRecDepth 100000
open Go.RowKit Mono Go.ChangeShapes Go.WideShapes Go.Deep
namespace E
def Ee : Sh := .struct [.int .i64, .int .i64, .arr 20, .arr 20, .arr 32, .arr 32, .bytes]
theorem Jg : Ee.Is 37 := by
 unfold Ee
 rw [Sh.Is]
 refine ⟨_, Tryz.underlying37, by kernel_rfl, ?_⟩
 simp only [Sh.IsF, Sh.Is]
 exact ⟨_, _, rfl, rfl, ⟨Tryz.underlying3, by kernel_rfl⟩, _, _, rfl, rfl, ⟨Tryz.underlying3, by kernel_rfl⟩, _, _, rfl, rfl, ⟨Tryz.underlying32, by kernel_rfl⟩, _, _, rfl, rfl, ⟨Tryz.underlying32, by kernel_rfl⟩, _, _, rfl, rfl, ⟨Tryz.underlying34, by kernel_rfl⟩, _, _, rfl, rfl, ⟨Tryz.underlying34, by kernel_rfl⟩, _, _, rfl, rfl, ⟨Tryz.underlying35, by kernel_rfl⟩, rfl⟩
theorem G6 : (Sh.slice 144 Ee).Is 23 := by
 rw [Sh.Is]
 exact ⟨by kernel_rfl, _, Tryz.underlying23, by kernel_rfl, Jg⟩
theorem tu {α : Type} {Q : D → Prop} {P : α → Prop} {f : α → D} (h : ∀ d, Q d → ∃ a, P a ∧ d = f a) : ∀ {ds : List D}, (∀ x ∈ ds, Q x) → ∃ rs : List α, (∀ a ∈ rs, P a) ∧ ds = rs.map f
 | [], _ => ⟨[], by simp, rfl⟩
 | d :: ds, hd => by
  obtain ⟨a, h1, rfl⟩ := h d (hd d (by simp))
  obtain ⟨rs, h2, rfl⟩ := tu h fun x hx => hd x (KT _ hx)
  refine ⟨a :: rs, fun b hb => ?_, rfl⟩
  rcases KI.1 hb with rfl | hb
  · exact h1
  · exact h2 b hb
variable {N : Nat}
theorem I9 {d : D} (h : Ee.Of N d) : ∃ x : AtL, (x.w.length = 32 ∧ x.cd.length ≤ N) ∧ d = mQ x := by
 unfold Ee at h
 simp only [Sh.Of, Sh.OfL] at h
 obtain ⟨_, rfl, _, _, rfl, ⟨y, rfl, hy⟩, _, _, rfl, ⟨n, rfl, hn⟩, _, _, rfl, ⟨a, h1, rfl⟩, _, _, rfl, ⟨b, h2, rfl⟩, _, _, rfl, ⟨k, h3, rfl⟩, _, _, rfl, ⟨w, h4, rfl⟩, _, _, rfl, ⟨c, hc, rfl⟩, rfl⟩ := h
 exact ⟨⟨y, n, a, b, k, w, c⟩, ⟨h4, hc⟩, rfl⟩
theorem yO {d : D} (h : Ef.Of N d) : ∃ c : AcL, c.w.length = 32 ∧ d = aI c := by
 unfold Ef at h
 simp only [Sh.Of, Sh.OfL] at h
 obtain ⟨_, rfl, _, _, rfl, ⟨a, h1, rfl⟩, _, _, rfl, ⟨n, rfl, hn⟩, _, _, rfl, ⟨b, h2, rfl⟩, _, _, rfl, ⟨c, hc, rfl⟩, _, _, rfl, ⟨ss, hl, rfl, hs⟩, rfl⟩ := h
 obtain ⟨ss, rfl⟩ := BN (fun _ => GI) hs
 exact ⟨⟨a, n, b, c, ss⟩, h2, rfl⟩
end E
def pz (w : World) (v : Value) : Prop := ∃ l : List E.AcL, (∀ x ∈ l, x.w.length = 32) ∧ E.cZ (fun b => b < w.heap.size) w (.sl 55 (l.map E.aI)) v
def kS (w : World) (v : Value) : Prop := ∃ l : List E.AtL, (∀ x ∈ l, x.w.length = 32 ∧ x.cd.length ≤ 140737488355328) ∧ E.cZ (fun b => b < w.heap.size) w (.sl 107 (l.map E.mQ)) v
section
variable {H : Type} {enc : TypeId × Value → H} {w : World} {spare : Nat → Bool} {held : Bool} {r : Reach} {b0 : Nat} {v : Value} {d : DataW H} {ps : List MemPlace}
theorem GK (hv : Value.okWide Tryz.prog w r b0 22 v) (h : DataW.Trod enc Tryz.prog w 0 spare held 22 v d ps) : pz w v := by
 obtain ⟨D, h1, h2⟩ := E.JL E.y9 hv h (E.Jf _)
 rw [E.Sh.Of] at h1
 obtain ⟨ds, _, rfl, h3⟩ := h1
 obtain ⟨l, h4, rfl⟩ := E.tu (fun _ => E.yO) h3
 exact ⟨l, h4, h2⟩
theorem BJ (hv : Value.okWide Tryz.prog w r b0 23 v) (h : DataW.Trod enc Tryz.prog w 0 spare held 23 v d ps) (hN : ∀ k ∈ d.weights Tryz.prog 23, k ≤ reachBytes) : kS w v := by
 obtain ⟨D, h1, h2⟩ := E.JL E.G6 hv h hN
 rw [E.Sh.Of] at h1
 obtain ⟨ds, _, rfl, h3⟩ := h1
 obtain ⟨l, h4, rfl⟩ := E.tu (fun _ => E.I9) h3
 refine ⟨l, fun x hx => ⟨(h4 x hx).1, Ll (h4 x hx).2 (by decide)⟩, h2⟩
end
end Go.Proofs.YtkhjanjlcdhdcaaGreat
namespace Go.Proofs.YtkhjanjlcdhdcaaGreat
set_option linter.unusedVariables false
open Go.RowKit Mono
namespace E
theorem Dk {f : FuncId} {ds : List D} {xs : List Value} {w : World} (h : FnM f ds [] (fun r os' => r = .val (.v (.bool true)) ∧ os' = [])) (hr : dV (fun b => b < w.heap.size) w ds xs) : Calls Tryz.prog f xs.toArray w fun e w' => e = .returned (.bool true) ∧ Below w.heap.size w w' :=
 (h.go _ w xs (fun b hb => hb) ⟨fun o ho => by simp at ho, .nil, fun b ⟨o, ho, _⟩ => by simp at ho⟩ hr).mono fun e w' ⟨v, r, os', he, ⟨h1, h2⟩, ht, hv⟩ => by
  subst he h1
  have hg := ht.gr.gr fun b ⟨o, ho, _⟩ => by simp at ho
  exact ⟨by rw [(aP.1 hv).2], hg⟩
end E
end Go.Proofs.YtkhjanjlcdhdcaaGreat
