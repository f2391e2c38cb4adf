/-
 Merged: lemmas of this claim.
 Conditions: none.
-/
import Derived.Test.YtkhjanjlcdhdcaaZK17
import Derived.Test.YtkhjanjlcdhdcaaZK18
import Derived.Test.YtkhjanjlcdhdcaaZK2
import Derived.OpenShut
import Derived.Deep.Slices
import Derived.ChangeSame
import Derived.SizedLaws
import Derived.Test.YtkhjanjlcdhdcaaZK11
import Derived.Below
import Derived.Test.YtkhjanjlcdhdcaaZK0
namespace Go.Proofs.Ytkhjanjlcdhdcaa
set_option linter.unusedVariables false
set_option maxRecDepth 20000
set_option maxHeartbeats 16000000
open Go.RowKit Mono Rlp Wd
namespace E
theorem xI (H : List Hy) (A : As) (a b : Nat) : undo ((H.drop a).take b) (undo (H.take a) A) = undo (H.take (a + b)) A := by
 unfold undo
 rw [List.take_add, List.foldl_append]
def kM (n : Nat) : List (Int × Int) := (List.range n).map fun j : Nat => ((j : Int) + 1, ((3 * j : Nat) : Int))
def dM (n : Nat) : List D := (List.range n).map fun j : Nat => D.v (.int .i64 ((j : Int) + 1))
theorem wP (n : Nat) : kM (n + 1) = kM n ++ [((n : Int) + 1, ((3 * n : Nat) : Int))] := by
 unfold kM
 rw [List.range_succ, FI]
 rfl
theorem Bo (n : Nat) : dM (n + 1) = dM n ++ [D.v (.int .i64 ((n : Int) + 1))] := by
 unfold dM
 rw [List.range_succ, FI]
 rfl
theorem gY (n : Nat) : (kM n).length = n := by simp [kM]
theorem zO (n : Nat) : (dM n).length = n := by simp [dM]
theorem zl (n i : Nat) (h : i < (kM n).length) : (kM n)[i] = ((i : Int) + 1, ((3 * i : Nat) : Int)) := by simp [kM]
theorem zQ (n i : Nat) (h : i < n) : (dM n)[i]? = some (D.v (.int .i64 ((i : Int) + 1))) := by simp [dM, h]
theorem wO (n i : Nat) (h : i ≤ n) : (kM n).take i = kM i := by
 unfold kM
 rw [← List.map_take, List.take_range, He h]
theorem zk (n : Nat) (x : Int) (h : x < 1 ∨ (n : Int) < x) : ∀ y ∈ kM n, y.1 ≠ x := by
 intro y hy e
 obtain ⟨j, hj, rfl⟩ := EW.1 hy
 have := GL.1 hj
 dsimp only at e
 omega
theorem BL (n i : Nat) (hi : i < (kM n).length) : ∀ j (hj : j < i), ((kM n)[j]'(by omega)).1 ≠ (i : Int) + 1 := fun j hj e => by
 rw [zl] at e
 dsimp only at e
 omega
structure Gd (c : Nat) (H : List Hy) (A : As) (W : List (List AcL)) : Prop where
 len : H.length = 3 * c
 was : ∀ j L, j < c → W[j]? = some L → Canon (undo (H.take (3 * (c - j))) A) L
theorem Gd.step {c : Nat} {H : List Hy} {A A1 A2 A3 : As} {W : List (List AcL)} {L : List AcL} {h1 h2 h3 : Hy} (h : Gd c H A W) (hW : W.length = c) (hL : Canon A L) (e1 : h1.back A1 = A) (e2 : h2.back A2 = A1) (e3 : h3.back A3 = A2) : Gd (c + 1) (h3 :: h2 :: h1 :: H) A3 (W ++ [L]) := by
 have hu : ∀ k, undo ((h3 :: h2 :: h1 :: H).take (3 + k)) A3 = undo (H.take k) A := fun k => by
  rw [show 3 + k = k + 1 + 1 + 1 by omega, Eh, Eh, Eh]
  show undo (H.take k) (h1.back (h2.back (h3.back A3))) = _
  rw [e3, e2, e1]
 refine ⟨by simp only [E8, h.len]; omega, fun j M hj hM => ?_⟩
 rw [show 3 * (c + 1 - j) = 3 + 3 * (c - j) by omega, hu]
 by_cases e : j = c
 ·
  subst e
  rw [FH (by omega), hW, Nat.sub_self] at hM
  obtain rfl : L = M := by simpa using hM
  rw [Nat.sub_self, Nat.mul_zero, Ep]
  exact hL
 ·
  rw [FU (by omega)] at hM
  exact h.was j M (by omega) hM
theorem Gd.back {c b : Nat} {H : List Hy} {A : As} {W : List (List AcL)} (h : Gd c H A W) (hb : b < c) : Gd b (H.drop (H.length - 3 * b)) (undo (H.take (H.length - 3 * b)) A) W := by
 refine ⟨by rw [GX, h.len]; omega, fun j M hj hM => ?_⟩
 rw [xI, h.len, show 3 * c - 3 * b + 3 * (b - j) = 3 * (c - j) by omega]
 exact h.was j M (by omega) hM
theorem Gd.at_ {c b : Nat} {H : List Hy} {A : As} {W : List (List AcL)} {L : List AcL} (h : Gd c H A W) (hb : b < c) (hL : W[b]? = some L) : Canon (undo (H.take (H.length - 3 * b)) A) L := by
 rw [h.len, show 3 * c - 3 * b = 3 * (c - b) by omega]
 exact h.was b L hb hL
section
variable {g N : Nat} {nx : Int} {H : List Hy} {A : As} {ks : List (Int × Int)} {os : List Obj} {L : List AcL}
theorem wL (h : MSt g nx H A ks N os) (hN : N ≤ 1000000) (hL : Canon A L) : FnM 8 [.v (ptr g)] os (fun r os' => r = .val (.sl 55 (L.map dX)) ∧ os' = os) :=
 (oL h hN).mono fun r os' ⟨⟨L', hL', _, _, hr⟩, ho⟩ => ⟨by rw [hr, hL'.eq hL], ho⟩
end
def D7 : List UInt8 := 1 :: List.replicate 19 0
abbrev dAs (l : List AcL) : D := .sl 55 (l.map dX)
theorem xW (l : List AcL) (n b : Int) : FnM 3 [.sl 55 (l.map dX), .v (.int .i64 n), .v (.int .i64 b)] [] (fun r os' => r = .val (.v (.bool true)) ∧ os' = []) := by
 have hA := Dj l
 refine FnM.walk 137 Try.func3 rfl Try.ntmps3 (by simp) fun X => ?_
 cases hba : zX l with
 | true =>
  rw [hba] at hA
  repeat
   (first
    | (apply gQ; iterate 2 rfl) | ((apply fJ (mQ); (iterate 2 rfl); exact RL.a; exact enA; iterate 2 rfl))
    | (apply kD (hA); rfl; exact ak.refl _ _; exact enA; iterate 2 rfl) | (apply aA; iterate 3 rfl) | (apply ay; iterate 3 rfl)
    | (apply dQ; iterate 4 rfl) | (apply nK; iterate 3 rfl) | apply EL.nil | (apply EC.t0; rfl)
    | (with_reducible first | apply EK.nc | apply EC.seq | apply EC.r0 | apply EC.ret | apply EK.au))
  exact EK.bH [] rfl rfl (Em _) ⟨rfl, rfl⟩
 | false =>
 rw [hba] at hA
 by_cases c1 : n < 1
 ·
  skip
  repeat
   (first
    | (apply gQ; iterate 2 rfl) | ((apply fJ (mQ); (iterate 2 rfl); exact RL.a; exact enA; iterate 2 rfl))
    | (apply kD (hA); rfl; exact ak.refl _ _; exact enA; iterate 2 rfl) | (apply aA; iterate 3 rfl) | (apply ay; iterate 3 rfl)
    | (apply dQ; iterate 4 rfl) | (apply nK; iterate 3 rfl) | (apply aG (b := true); (iterate 2 rfl); exact bg; iterate 2 rfl) | apply EL.nil
    | (apply EC.t0; rfl) | (with_reducible first | apply EK.nc | apply EC.seq | apply EC.r0 | apply EC.ret | apply EK.au))
  exact EK.bH [] rfl rfl (Em _) ⟨rfl, rfl⟩
 by_cases c2 : 12 < n
 ·
  skip
  repeat
   (first
    | (apply gQ; iterate 2 rfl) | ((apply fJ (mQ); (iterate 2 rfl); exact RL.a; exact enA; iterate 2 rfl))
    | (apply kD (hA); rfl; exact ak.refl _ _; exact enA; iterate 2 rfl) | (apply aA; iterate 3 rfl) | (apply ay; iterate 3 rfl)
    | (apply dQ; iterate 4 rfl) | (apply nK; iterate 3 rfl) | (apply aG (b := true); (iterate 2 rfl); exact bg; iterate 2 rfl)
    | (apply aG (b := false); (iterate 2 rfl); exact bg; iterate 2 rfl) | apply EL.nil | (apply EC.t0; rfl)
    | (with_reducible first | apply EK.nc | apply EC.seq | apply EC.r0 | apply EC.ret | apply EK.au))
  exact EK.bH [] rfl rfl (Em _) ⟨rfl, rfl⟩
 by_cases c3 : b < 0
 ·
  skip
  repeat
   (first
    | (apply gQ; iterate 2 rfl) | ((apply fJ (mQ); (iterate 2 rfl); exact RL.a; exact enA; iterate 2 rfl))
    | (apply kD (hA); rfl; exact ak.refl _ _; exact enA; iterate 2 rfl) | (apply aA; iterate 3 rfl) | (apply ay; iterate 3 rfl)
    | (apply dQ; iterate 4 rfl) | (apply nK; iterate 3 rfl) | (apply aG (b := true); (iterate 2 rfl); exact bg; iterate 2 rfl)
    | (apply aG (b := false); (iterate 2 rfl); exact bg; iterate 2 rfl) | apply EL.nil | (apply EC.t0; rfl)
    | (with_reducible first | apply EK.nc | apply EC.seq | apply EC.r0 | apply EC.ret | apply EK.au))
  exact EK.bH [] rfl rfl (Em _) ⟨rfl, rfl⟩
 by_cases c4 : n ≤ b
 ·
  skip
  repeat
   (first
    | ((apply fJ (mQ); (iterate 2 rfl); exact RL.a; exact enA; iterate 2 rfl)) | (apply kD (hA); rfl; exact ak.refl _ _; exact enA; iterate 2 rfl)
    | (apply aA; iterate 3 rfl) | (apply ay; iterate 3 rfl) | (apply dQ; iterate 4 rfl) | (apply nK; iterate 3 rfl)
    | (apply aG (b := true); (iterate 2 rfl); exact bg; iterate 2 rfl) | (apply aG (b := false); (iterate 2 rfl); exact bg; iterate 2 rfl) | apply EL.nil
    | (apply EC.t0; rfl) | (with_reducible first | apply EK.nc | apply EC.seq | apply EC.r0 | apply EC.ret | apply EK.au))
  exact EK.bH [] rfl rfl (Em _) ⟨rfl, rfl⟩
 obtain ⟨m, rfl⟩ : ∃ m : Nat, n = (m : Int) := ⟨n.toNat, by omega⟩
 obtain ⟨b, rfl⟩ : ∃ k : Nat, b = (k : Int) := ⟨b.toNat, by omega⟩
 have hbm : b < m := by omega
 have hm12 : m ≤ 12 := by omega
 obtain ⟨hl1, hl2⟩ := Aq hba
 have hl4 : ∀ x ∈ l, x.sl.length ≤ 20 ∧ x.cd.length ≤ 140737488355328 := fun x hx => by have := hl2 x hx; omega
 have b1 := DR l 20 (by omega) hl4 (by omega)
 repeat
  (first
   | ((apply fJ (mQ); (iterate 2 rfl); exact RL.a; exact enA; iterate 2 rfl)) | (apply kD (hA); rfl; exact ak.refl _ _; exact enA; iterate 2 rfl)
   | (apply aA; iterate 3 rfl) | (apply ay; iterate 3 rfl) | (apply dQ; iterate 4 rfl) | (apply nK; iterate 3 rfl)
   | (apply aG (b := false); (iterate 2 rfl); exact bg; iterate 2 rfl) | apply EL.nil | (apply EC.f0; rfl)
   | (with_reducible first | apply EK.nc | apply EC.seq | apply EC.r0 | apply EC.k0))
 refine Bz (os := []) b1 [] rfl rfl (ak.refl _ _) (by intro _ _; simp [go_sem]) rfl rfl ?_
 rintro _ _ ⟨g, mm, c, es, ps, rfl, rfl, hp⟩
 have hS : MSt g 0 [] (vK l) (kM 0) 40 (psO g mm c es fH fH 0 [] ps) := ⟨mm, c, es, fH, fH, ps, by simp [psO, kM], hp.og (by omega), trivial, fun h hh => (by cases hh), Fa _⟩
 simp only [Ee]
 generalize psO g mm c es fH fH 0 [] ps = os at hS ⊢
 clear c3 c4 hp hA
 repeat
  (first
   | (apply ay; iterate 3 rfl) | apply EL.nil | (with_reducible first | apply EK.nc | apply EC.seq | apply EC.r0 | apply EC.b0))
 refine EC.le (Le.row 22 1) ?_
 refine EC.le (Le.row 3 1) ?_
 refine EC.loop (ι := {s : Nat × Value × Value × List Hy × As × List (List AcL) × List Obj // s.1 ≤ m ∧ MSt g (s.1 : Int) s.2.2.2.1 s.2.2.2.2.1 (kM s.1) (40 + 3 * s.1) s.2.2.2.2.2.2 ∧ Gd s.1 s.2.2.2.1 s.2.2.2.2.1 s.2.2.2.2.2.1 ∧ s.2.2.2.2.2.1.length = s.1 ∧ ∀ L ∈ s.2.2.2.2.2.1, L.length ≤ 1000 ∧ ∀ x ∈ L, x.sl.length ≤ 1000})
  (fun s => ⟨[(12, .val (.v (.int .i64 (s.1.1 : Int)))), (11, .val (.v s.1.2.2.1)), (10, .val (.v s.1.2.1)), (9, .val (.v (ptr g))), (2, .val (.v (.int .i64 (b : Int)))), (1, .val (.v (.int .i64 (m : Int))))], .row s.1.2.1 3 1 (dM s.1.1) :: .row s.1.2.2.1 22 1 (s.1.2.2.2.2.2.1.map dAs) :: s.1.2.2.2.2.2.2, []⟩)
  (fun s => m - s.1.1) ⟨(0, fH, fH, [], vK l, [], os), Fa _, hS, ⟨rfl, fun j L h => absurd h (Nat.not_lt_zero _)⟩, rfl, fun L h => (by cases h)⟩ ?_ ?_
 · exact (Le.keep (by repeat first | exact trivial | refine ⟨rfl, ?_⟩) (by repeat first | exact ER _ | apply List.Sublist.cons_cons | apply List.Sublist.cons) (by simp))
 clear hS
 rintro ⟨⟨i, mv, wv, H, A, W, os⟩, hi, hS, hG, hW, hB⟩
 dsimp only at hi hS hG hW hB ⊢
 by_cases hlt : i < m
 ·
  have k1 := CY hS (by omega) (by omega) (by omega) (by rw [gY]; omega)
  rw [hG.len, ← wP] at k1
  have hdl : (dM i).length = i := zO i
  have hwl : (W.map dAs).length = i := by rw [Eo, hW]
  have o1 := DX i (by omega)
  have o2 := DX (i + 1) (by omega)
  repeat
   (first
    | (apply aA; iterate 3 rfl) | (apply aG (b := true); (iterate 2 rfl); exact bg; iterate 2 rfl) | apply EL.nil
    | (apply EC.t0; rfl) | (with_reducible first | apply EK.nc | apply EC.seq | apply EC.r0 | apply EC.k0 | apply EC.b0))
  refine dH k1 [_, _] [] (ET _).symm rfl (ak.refl _ _) (by intro _ _; simp [go_sem]) rfl rfl ?_
  rintro _ os1 ⟨rfl, hS1⟩
  rw [ET]
  simp only [Ed, Ee]
  repeat
   (first
    | (apply aA; iterate 3 rfl) | (apply ay; iterate 3 rfl) | (apply pq; iterate 9 rfl)
    | ((apply iM; rfl; exact saA; (iterate 5 rfl); (focus (constructor <;> (first | (simp; done) | (simp; omega))))); intro _)
    | apply EL.nil | (with_reducible first | apply EK.nc | apply EC.seq | apply EC.r0))
  rename_i mv2
  refine dH (oL hS1 (by omega)) [_, _] [] (ET _).symm rfl (ak.refl _ _) (by intro _ _; simp [go_sem]) rfl rfl ?_
  rintro _ _ ⟨⟨L, hL, hLl, hLs, rfl⟩, rfl⟩
  rw [ET]
  simp only [Ed, Ee]
  have hk : kM (i + 1) ≠ [] := by rw [wP]; simp
  rw [FC] at o2
  repeat
   (first
    | (apply kD (o1); rfl; exact ak.refl _ _; exact enA; iterate 2 rfl) | (apply kD (o2); rfl; exact ak.refl _ _; exact enA; iterate 2 rfl)
    | (apply aA; iterate 3 rfl) | (apply ay; iterate 3 rfl) | (apply gq; (iterate 3 rfl); (focus omega); (focus omega); iterate 2 rfl)
    | (apply aW; iterate 5 rfl) | (apply pq; iterate 9 rfl)
    | ((apply iM; rfl; exact saA; (iterate 5 rfl); (focus (constructor <;> (first | (simp; done) | (simp; omega))))); intro _)
    | apply EL.nil | (with_reducible first | apply EK.nc | apply EC.seq | apply EC.r0))
  rename_i wv2
  refine dH (xU hS1 (by omega) hk _ _) [_, _] [] (ET _).symm rfl (ak.refl _ _) (by intro _ _; simp [go_sem]) rfl rfl ?_
  rintro _ os2 ⟨rfl, hS2⟩
  rw [ET]
  simp only [Ed, Ee]
  repeat
   (first
    | (apply aA; iterate 3 rfl) | (apply aW; iterate 5 rfl) | apply EL.nil
    | (with_reducible first | apply EK.nc | apply EC.seq | apply EC.r0))
  refine dH (vM hS2 (by omega) hk _) [_, _] [] (ET _).symm rfl (ak.refl _ _) (by intro _ _; simp [go_sem]) rfl rfl ?_
  rintro _ os3 ⟨rfl, hS3⟩
  rw [ET]
  simp only [Ed, Ee]
  repeat
   (first
    | (apply Aj [(0, .int .u8 1)] D7; rfl; kernel_rfl; iterate 3 rfl) | (apply aA; iterate 3 rfl) | apply EL.nil | ((with_reducible apply EK.h0); apply EK.code)
    | (with_reducible apply EC.r0))
  refine dH (CZ hS3 (by omega) hk) [_, _] [] (ET _).symm rfl (ak.refl _ _) (by intro _ _; simp [go_sem]) rfl rfl ?_
  rintro _ os4 ⟨rfl, hy, hhy, hS4⟩
  rw [ET]
  simp only [Ed, Ee]
  repeat
   (first
    | (apply aA; iterate 3 rfl) | (apply ay; iterate 3 rfl) | (apply gq; (iterate 3 rfl); (focus omega); (focus omega); iterate 2 rfl) | apply EL.nil
    | (with_reducible first | apply EK.nc | apply EC.r0 | apply EK.n0))
  refine EK.again ⟨(i + 1, mv2, wv2, _, _, W ++ [L], os4), hlt, hS4, hG.step hW hL (yB _ _ _ _) (wz _ _ _) hhy, by simp [hW], fun M hM => ?_⟩ (by dsimp only; omega) ?_
  ·
   rcases EZ.1 hM with hM | hM
   · exact hB M hM
   ·
    obtain rfl : M = L := by simpa using hM
    exact ⟨by omega, fun x hx => by have := hLs x hx; omega⟩
  ·
   simp only [Bo, FI, EX, FW, FC]
   exact (Le.keep (by repeat first | exact trivial | refine ⟨rfl, ?_⟩) (by repeat first | exact ER _ | apply List.Sublist.cons_cons | apply List.Sublist.cons) (by simp))
 ·
  obtain rfl : i = m := by omega
  have hdm : (dM i).length = i := zO i
  have hwl : (W.map dAs).length = i := by rw [Eo, hW]
  have hmb := zQ i b hbm
  have k1 := zf hS (by omega) (by rw [gY]; omega) (i := b) (q := 3 * b) (n0 := (b : Int) + 1) (by rw [gY]; exact hbm) (zl i b (by rw [gY]; exact hbm)) (by rw [hG.len]; omega) (BL i b (by rw [gY]; exact hbm))
  rw [wO i b (by omega)] at k1
  repeat
   (first
    | (apply dF; rfl; (first | exact I0 | exact I1); (iterate 2 rfl); exact ⟨by omega, by omega⟩; iterate 2 rfl)
    | (apply eP (k := b) (off := 0) (d := D.v (.int .i64 ((b : Int) + 1))); rfl; (first | exact I0 | exact I1); exact ⟨by simp, hmb⟩; iterate 4 rfl)
    | (apply aA; iterate 3 rfl) | (apply aG (b := false); (iterate 2 rfl); exact bg; iterate 2 rfl) | apply EL.nil
    | (apply EC.f0; rfl) | (with_reducible first | apply EK.nc | apply EC.seq | apply EC.r0 | apply EC.x0 | apply EK.s0 | apply EK.ah))
  refine dH k1 [_, _] [] (ET _).symm rfl (ak.refl _ _) (by intro _ _; simp [go_sem]) rfl rfl ?_
  rintro _ os1 ⟨rfl, hS1⟩
  rw [ET]
  simp only [Ed, Ee]
  repeat
   (first
    | (apply ay; iterate 3 rfl) | apply EL.nil | ((with_reducible apply EK.h0); apply EK.code) | (with_reducible apply EC.seq))
  have hbw : b < W.length := by omega
  have hLb : W[b]? = some W[b] := Ez hbw
  have hdb : (W.map dAs)[b]? = some (dAs W[b]) := by rw [Fp, hLb]; rfl
  have hC := hG.at_ hbm hLb
  have hG1 := hG.back hbm
  have hBb := hB W[b] (FV hbw)
  have hacc := wL hS1 (by have := hG.len; omega) hC
  have hsame := jV W[b] (by omega) fun x hx => by have := hBb.2 x hx; omega
  refine EC.BQ 12 (by kernel_rfl) ?_
  simp only [Eh, Ep, Ef, Ej]
  refine EV.cut 4 ?_
  simp only [Eh, Ep, Ef, Ej]
  repeat
   (first
    | (apply aS; iterate 3 rfl) | (apply uU; iterate 3 rfl))
  refine EM.nil ?_
  refine EV.visit os1 [_, _] rfl rfl (Fj (l₁ := [_, _])) (qW hacc rfl rfl (ak.refl _ _) (by intro _ _; simp [go_sem])) ?_
  try simp only [St.put]
  refine EV.cut 7 ?_
  simp only [Eh, Ep, Ef, Ej]
  repeat
   (first
    | (apply pG (hsame); rfl; exact ak.refl _ _; exact enA; iterate 2 rfl)
    | (apply uT; rfl; (first | exact I0 | exact I1); (iterate 2 rfl); exact ⟨by omega, by omega⟩; iterate 2 rfl)
    | (apply qC (k := b) (off := 0) (d := dAs W[b]); rfl; (first | exact I0 | exact I1); exact ⟨by simp, hdb⟩; iterate 4 rfl) | (apply aS; iterate 3 rfl)
    | (apply Ak; iterate 4 rfl) | (apply uU; iterate 3 rfl))
  refine EM.nil ?_
  refine EV.nil0 ?_
  repeat
   (first
    | (apply aA; iterate 3 rfl) | (apply ay; iterate 3 rfl) | apply EL.nil | (apply EC.f0; rfl)
    | (with_reducible first | apply EK.nc | apply EC.seq | apply EC.r0 | apply EC.k0 | apply EC.b0))
  clear k1 hS hmb hLb hdb hacc hsame hC hBb
  refine EC.loop (ι := {j : Nat // b ≤ j ∧ j ≤ i})
   (fun s => ⟨[(14, .val (.v (.int .i64 (s.1 : Int)))), (11, .val (.v wv)), (10, .val (.v mv)), (9, .val (.v (ptr g))), (2, .val (.v (.int .i64 (b : Int)))), (1, .val (.v (.int .i64 (i : Int))))], .row mv 3 1 (dM i) :: .row wv 22 1 (W.map dAs) :: os1, []⟩)
   (fun s => i - s.1) ⟨b, ED _, by omega⟩ ?_ ?_
  · exact (Le.keep (by repeat first | exact trivial | refine ⟨rfl, ?_⟩) (by repeat first | exact ER _ | apply List.Sublist.cons_cons | apply List.Sublist.cons) (by simp))
  rintro ⟨j, hbj, hji⟩
  dsimp only at hbj hji ⊢
  by_cases hlj : j < i
  ·
   have hmj := zQ i j hlj
   have k2 := mG hS1 (by rw [gY]; omega) (n0 := (j : Int) + 1) (zk b _ (.inr (by omega)))
   repeat
    (first
     | (apply dF; rfl; (first | exact I0 | exact I1); (iterate 2 rfl); exact ⟨by omega, by omega⟩; iterate 2 rfl)
     | (apply eP (k := j) (off := 0) (d := D.v (.int .i64 ((j : Int) + 1))); rfl; (first | exact I0 | exact I1); exact ⟨by simp, hmj⟩; iterate 4 rfl)
     | (apply aA; iterate 3 rfl) | (apply aG (b := true); (iterate 2 rfl); exact bg; iterate 2 rfl) | apply EL.nil
     | (apply EC.t0; rfl) | (with_reducible first | apply EK.nc | apply EC.seq | apply EC.r0 | apply EC.k0 | apply EC.b0))
   refine dH k2 [_, _] [] (ET _).symm rfl (ak.refl _ _) (by intro _ _; simp [go_sem]) rfl rfl ?_
   rintro _ _ ⟨rfl, rfl⟩
   rw [ET]
   simp only [Ed, Ee]
   repeat
    (first
     | (apply aA; iterate 3 rfl) | (apply ay; iterate 3 rfl) | (apply gq; (iterate 3 rfl); (focus omega); (focus omega); iterate 2 rfl) | apply EL.nil
     | (apply EC.f0; rfl) | (with_reducible first | apply EK.nc | apply EC.r0 | apply EC.k0 | apply EK.n0))
   refine EK.again ⟨j + 1, by omega, hlj⟩ (by dsimp only; omega) ?_
   simp only [FC]
   exact (Le.keep (by repeat first | exact trivial | refine ⟨rfl, ?_⟩) (by repeat first | exact ER _ | apply List.Sublist.cons_cons | apply List.Sublist.cons) (by simp))
  ·
   obtain rfl : j = i := by omega
   repeat
    (first
     | (apply aA; iterate 3 rfl) | (apply ay; iterate 3 rfl) | (apply aG (b := false); (iterate 2 rfl); exact bg; iterate 2 rfl)
     | (apply gq; (iterate 3 rfl); (focus omega); (focus omega); iterate 2 rfl) | apply EL.nil | (apply EC.f0; rfl)
     | (with_reducible first | apply EK.nc | apply EC.seq | apply EC.r0 | apply EC.b0 | apply EC.x0 | apply EK.s0 | apply EK.ah))
   refine EC.loop (ι := {s : Nat × Nat × List Hy × As × List Obj // s.1 ≤ b ∧ MSt g (j : Int) s.2.2.1 s.2.2.2.1 (kM s.1) s.2.1 s.2.2.2.2 ∧ Gd s.1 s.2.2.1 s.2.2.2.1 W ∧ s.2.1 + 36 * s.1 ≤ 1000})
    (fun s => ⟨[(15, .val (.v (.int .i64 ((s.1.1 : Int) - 1)))), (11, .val (.v wv)), (10, .val (.v mv)), (9, .val (.v (ptr g)))], .row mv 3 1 (dM j) :: .row wv 22 1 (W.map dAs) :: s.1.2.2.2.2, []⟩)
    (fun s => s.1.1) ⟨(b, _, _, _, os1), ED _, hS1, hG1, by have := hG.len; dsimp only; omega⟩ ?_ ?_
   · exact (Le.keep (by repeat first | exact trivial | refine ⟨rfl, ?_⟩) (by repeat first | exact ER _ | apply List.Sublist.cons_cons | apply List.Sublist.cons) (by simp))
   clear hS1 hG1 hG
   rintro ⟨⟨c, N, H, A, os⟩, hcb, hS, hG, hN⟩
   dsimp only at hcb hS hG hN ⊢
   by_cases hc : c = 0
   ·
    subst hc
    have e1 := mG hS (by rw [gY]; omega) (n0 := 0) (zk 0 _ (.inl (by omega)))
    have e2 := mG hS (by rw [gY]; omega) (n0 := -1) (zk 0 _ (.inl (by omega)))
    repeat
     (first
      | (apply aA; iterate 3 rfl) | (apply aG (b := false); (iterate 2 rfl); exact bg; iterate 2 rfl) | apply EL.nil
      | (apply EC.f0; rfl) | (with_reducible first | apply EK.nc | apply EC.seq | apply EC.r0 | apply EC.x0 | apply EK.s0 | apply EK.ah))
    refine dH e1 [_, _] [] (ET _).symm rfl (ak.refl _ _) (by intro _ _; simp [go_sem]) rfl rfl ?_
    rintro _ _ ⟨rfl, rfl⟩
    rw [ET]
    simp only [Ed, Ee]
    repeat
     (first
      | (apply aA; iterate 3 rfl) | (apply nK; iterate 3 rfl))
    refine dH e2 [_, _] [] (ET _).symm rfl (ak.refl _ _) (by intro _ _; simp [go_sem]) rfl rfl ?_
    rintro _ _ ⟨rfl, rfl⟩
    rw [ET]
    simp only [Ed, Ee]
    repeat
     (first
      | (apply ay; iterate 3 rfl) | (apply dQ; iterate 4 rfl) | (apply nK; iterate 3 rfl) | apply EL.nil | ((with_reducible apply EK.h0); apply EK.code)
      | (with_reducible apply EC.ret))
    exact EK.bH [] rfl rfl (Em _) ⟨rfl, rfl⟩
   ·
    obtain ⟨e, rfl⟩ : ∃ e, c = e + 1 := ⟨c - 1, by omega⟩
    rw [show (((e + 1 : Nat) : Int) - 1) = (e : Int) by omega]
    have hme := zQ j e (by omega)
    have hHl := hG.len
    have k1 := zf hS (by omega) (by rw [gY]; omega) (i := e) (q := 3 * e) (n0 := (e : Int) + 1) (by rw [gY]; omega) (zl (e + 1) e (by rw [gY]; omega)) (by omega) (BL (e + 1) e (by rw [gY]; omega))
    rw [wO (e + 1) e (by omega)] at k1
    have hew : e < W.length := by omega
    have hLe : W[e]? = some W[e] := Ez hew
    have hde : (W.map dAs)[e]? = some (dAs W[e]) := by rw [Fp, hLe]; rfl
    have hC := hG.at_ (Nat.lt_succ_self e) hLe
    have hG1 := hG.back (Nat.lt_succ_self e)
    have hBe := hB W[e] (FV hew)
    have hsame := jV W[e] (by omega) fun x hx => by have := hBe.2 x hx; omega
    repeat
     (first
      | (apply dF; rfl; (first | exact I0 | exact I1); (iterate 2 rfl); exact ⟨by omega, by omega⟩; iterate 2 rfl)
      | (apply eP (k := e) (off := 0) (d := D.v (.int .i64 ((e : Int) + 1))); rfl; (first | exact I0 | exact I1); exact ⟨by simp, hme⟩; iterate 4 rfl)
      | (apply aA; iterate 3 rfl) | (apply aG (b := true); (iterate 2 rfl); exact bg; iterate 2 rfl) | apply EL.nil
      | (apply EC.t0; rfl) | (with_reducible first | apply EK.nc | apply EC.seq | apply EC.r0 | apply EC.k0 | apply EC.b0))
    refine dH k1 [_, _] [] (ET _).symm rfl (ak.refl _ _) (by intro _ _; simp [go_sem]) rfl rfl ?_
    rintro _ os2 ⟨rfl, hS2⟩
    rw [ET]
    simp only [Ed, Ee]
    have hacc := wL hS2 (by omega) hC
    repeat
     (first
      | (apply ay; iterate 3 rfl) | apply EL.nil | ((with_reducible apply EK.h0); apply EK.code) | (with_reducible apply EC.seq))
    refine EC.BQ 12 (by kernel_rfl) ?_
    simp only [Eh, Ep, Ef, Ej]
    refine EV.cut 4 ?_
    simp only [Eh, Ep, Ef, Ej]
    repeat
     (first
      | (apply aS; iterate 3 rfl) | (apply uU; iterate 3 rfl))
    refine EM.nil ?_
    refine EV.visit os2 [_, _] rfl rfl (Fj (l₁ := [_, _])) (qW hacc rfl rfl (ak.refl _ _) (by intro _ _; simp [go_sem])) ?_
    try simp only [St.put]
    refine EV.cut 7 ?_
    simp only [Eh, Ep, Ef, Ej]
    repeat
     (first
      | (apply pG (hsame); rfl; exact ak.refl _ _; exact enA; iterate 2 rfl)
      | (apply uT; rfl; (first | exact I0 | exact I1); (iterate 2 rfl); exact ⟨by omega, by omega⟩; iterate 2 rfl)
      | (apply qC (k := e) (off := 0) (d := dAs W[e]); rfl; (first | exact I0 | exact I1); exact ⟨by simp, hde⟩; iterate 4 rfl) | (apply aS; iterate 3 rfl)
      | (apply Ak; iterate 4 rfl) | (apply uU; iterate 3 rfl))
    refine EM.nil ?_
    refine EV.nil0 ?_
    repeat
     (first
      | (apply aA; iterate 3 rfl) | (apply ay; iterate 3 rfl) | (apply gq; (iterate 3 rfl); (focus omega); (focus omega); iterate 2 rfl) | apply EL.nil
      | (apply EC.f0; rfl) | (with_reducible first | apply EK.nc | apply EC.r0 | apply EC.k0 | apply EK.n0))
    refine EK.again ⟨(e, _, _, _, os2), by omega, hS2, hG1, by dsimp only; omega⟩ (by dsimp only; omega) ?_
    exact (Le.keep (by repeat first | exact trivial | refine ⟨rfl, ?_⟩) (by repeat first | exact ER _ | apply List.Sublist.cons_cons | apply List.Sublist.cons) (by simp))
end E
end Go.Proofs.Ytkhjanjlcdhdcaa
namespace Go.Proofs.Ytkhjanjlcdhdcaa
open Go.RowKit Mono

end Go.Proofs.Ytkhjanjlcdhdcaa
namespace Go.Proofs.Ytkhjanjlcdhdcaa
set_option linter.unusedVariables false
set_option maxRecDepth 100000
open Go.RowKit Mono Go.ChangeShapes Go.WideShapes Go.Deep
theorem cell_spot {w : World} {p : Addr} {v : Value} (h : w.cell? p = some v) : p.block < w.heap.size ∧ ∃ b o, p = ⟨b, o, none⟩ := by
 obtain ⟨blk, off, spot⟩ := p
 have hspot : spot = none := by
  simp only [World.cell?] at h
  cases spot with
  | none => rfl
  | some s =>
   simp at h
   split at h <;> simp at h
 subst hspot
 refine ⟨?_, blk, off, rfl⟩
 rcases Fv blk w.heap.size with hlt | hge
 · exact hlt
 · simp [World.cell?, Array.getElem?_eq_none hge] at h
theorem flat_get {n : Nat} {u : Value} : ∀ (rows : List (List Value)) (j : Nat), (∀ r ∈ rows, r.length = n) → rows.flatten[j]? = some u → ∃ i r row, j = i * n + r ∧ r < n ∧ rows[i]? = some row ∧ row[r]? = some u
 | [], j, _, h => by simp at h
 | row :: rows, j, hn, h => by
  have hr : row.length = n := hn row (by simp)
  rw [Fz] at h
  by_cases hj : j < n
  ·
   rw [FU (by omega)] at h
   exact ⟨0, j, row, by simp, hj, rfl, h⟩
  ·
   rw [FH (by omega), hr] at h
   obtain ⟨i, r, row', h1, h2, h3, h4⟩ := flat_get rows (j - n) (fun r hr => hn r (by simp [hr])) h
   exact ⟨i + 1, r, row', by rw [FY]; omega, h2, by simpa using h3, h4⟩
section
variable {H : Type} {enc : TypeId × Value → H} {w : World} {spare : Nat → Bool} {held : Bool}
theorem int_of_trod {t : TypeId} {k : IntKind} {fuel : Nat} {cs : List Value} {x : DataW H × List MemPlace} (ht : Try.prog.underlying t = some (.int k)) (h : DataW.trod enc Try.prog w 0 spare held fuel t cs = some x) : ∃ n, cs = [.int k n] ∧ (Lit.int k n).wf = true := by
 obtain ⟨n, h1, _, h2⟩ := DataW.trod_int ht h
 exact ⟨n, h1, h2⟩
theorem oh {fuel : Nat} {cs : List Value} {x : DataW H × List MemPlace} (h : DataW.trod enc Try.prog w 0 spare held fuel 5 cs = some x) : ∃ b : UInt8, cs = [bv b] := by
 obtain ⟨n, rfl, hw⟩ := int_of_trod Try.underlying5 h
 have hb := bounds_u8 hw
 refine ⟨UInt8.ofNat n.toNat, ?_⟩
 unfold bv
 rw [UInt8.toNat_ofNat']
 have : ((n.toNat % 2 ^ 8 : Nat) : Int) = n := by omega
 rw [this]
theorem pR {rows : List (List Value)} (h : ∀ r ∈ rows, ∃ b : UInt8, r = [bv b]) : ∃ l : List UInt8, l.length = rows.length ∧ rows.flatten = bvs l := by
 induction rows with
 | nil => exact ⟨[], rfl, rfl⟩
 | cons r rows ih =>
  obtain ⟨l, h1, h2⟩ := ih fun r hr => h r (by simp [hr])
  obtain ⟨b, rfl⟩ := h r (by simp)
  exact ⟨b :: l, by simp [h1], by simp [h2, bvs]⟩
set_option maxRecDepth 100000
variable {r : Reach} {b0 : Nat} {v : Value} {d : DataW H} {ps : List MemPlace}
theorem BI (hv : Value.okWide Try.prog w r b0 3 v) (h : DataW.Trod enc Try.prog w 0 spare held 3 v d ps) : ∃ n : Int, v = .int .i64 n ∧ -9223372036854775808 ≤ n ∧ n ≤ 9223372036854775807 := by
 obtain ⟨n, rfl, _, _, hw⟩ := open_int Try.underlying3 hv h
 exact ⟨n, rfl, bounds_i64 hw⟩
end
section
variable {H : Type} {enc : TypeId × Value → H} {w : World} {spare : Nat → Bool} {held : Bool}
theorem Dp (cs : List Value) (h : ∀ u ∈ cs, ∃ b : UInt8, u = bv b) : ∃ l : List UInt8, cs = bvs l := by
 induction cs with
 | nil => exact ⟨[], rfl⟩
 | cons u cs ih =>
  obtain ⟨l, hl⟩ := ih fun u hu => h u (by simp [hu])
  obtain ⟨b, rfl⟩ := h u (by simp)
  exact ⟨b :: l, by rw [hl]; rfl⟩
theorem uJ {t : TypeId} {n fuel : Nat} {cs : List Value} {x : DataW H × List MemPlace} (ht : Try.prog.underlying t = some (.array n 5)) (hc : Try.prog.cellsOf t = n) (h : DataW.trod enc Try.prog w 0 spare held fuel t cs = some x) :
  ∃ l : List UInt8, l.length = n ∧ cs = bvs l := by
 obtain ⟨xs, m, _, _, hl, hxl, hg⟩ := DataW.trod_array ht h
 rw [hc] at hl
 obtain ⟨l, rfl⟩ := Dp cs fun u hu => by
  obtain ⟨i, hi, rfl⟩ := List.getElem_of_mem hu
  have h1 := hg i (by omega)
  rw [(by kernel_rfl : Try.prog.cellsOf 5 = 1), Nat.mul_one, F8 hi, Eh, Ep, Ez (by omega)] at h1
  obtain ⟨b, hb⟩ := oh h1
  exact ⟨b, by simpa using hb⟩
 exact ⟨l, by rw [← hl, bK], rfl⟩
variable {r : Reach} {b0 : Nat} {v : Value} {d : DataW H} {ps : List MemPlace}
end
section
variable {H : Type} {enc : TypeId × Value → H} {w : World} {spare : Nat → Bool} {held : Bool}
theorem mW {P : Program} {e : TypeId} {d : DataW H} {k : Nat} : ∀ {ds : List (DataW H)}, d ∈ ds → k ∈ d.weights P e → k ∈ DataW.weightsAll P e ds
 | [], h, _ => by cases h
 | x :: xs, h, hk => by
  rw [DataW.weightsAll]
  rcases Es.1 h with rfl | h
  · exact EF _ hk
  · exact EN _ (mW h hk)
theorem mY {t e n : TypeId} {fuel : Nat} {v : Value} {x : DataW H × List MemPlace} (ht : Try.prog.underlying t = some (.slice e)) (hn : Try.prog.cellsOf e = n) (h : DataW.trod enc Try.prog w 0 spare held fuel t [v] = some x) :
  ∃ (A : Option Addr) (c f : Nat) (rows : List (List Value)), v = .slice A rows.length c ∧ rows.length ≤ c ∧ c ≤ maxLen ∧ Rd w w.heap.size A rows.flatten ∧ (∀ r ∈ rows, r.length = n) ∧ (A = none → rows = [] ∧ c = 0) ∧ (rows ≠ [] → f < fuel) ∧ (∀ r ∈ rows, ∃ y, DataW.trod enc Try.prog w 0 spare held f e r = some y ∧ ∀ k ∈ y.1.weights Try.prog e, k ∈ x.1.weights Try.prog t) ∧ (rows ≠ [] → ∃ k ∈ x.1.weights Try.prog t, rows.length * Try.prog.bytesOf e ≤ k) := by
 rcases DataW.trod_slice ht h with ⟨hcs, hx⟩ | ⟨a, len, cap, elems, rest, f, hfu, hcs, hx, _, hl, hm, hel, hi, _⟩
 ·
  simp at hcs
  subst hcs
  exact ⟨none, 0, 0, [], rfl, ED _, by simp [maxLen], Rd.nil, by simp, fun _ => ⟨rfl, rfl⟩, fun hne => absurd rfl hne, by simp, fun hne => absurd rfl hne⟩
 ·
  simp at hcs
  subst hcs
  rw [hn] at hi
  let row : Nat → List Value := fun i => (w.cells? 0 (a.add (i * n)) n).getD []
  have hrow : ∀ i, i < len → w.cells? 0 (a.add (i * n)) n = some (row i) ∧ ∃ y, DataW.trod enc Try.prog w 0 spare held f e (row i) = some y ∧ ∀ k ∈ y.1.weights Try.prog e, k ∈ x.1.weights Try.prog t := fun i hil => by
   have h1 := hi i hil
   rw [Ez (by omega)] at h1
   cases hc : w.cells? 0 (a.add (i * n)) n with
   | none => rw [hc] at h1; cases h1
   | some cs' =>
    rw [hc] at h1
    have : row i = cs' := by simp only [row]; rw [hc]; rfl
    rw [this]
    refine ⟨rfl, _, h1, fun k hk => ?_⟩
    rw [hx, DataW.weights, ht]
    exact List.mem_cons_of_mem _ (EF _ (mW (List.mem_map_of_mem (FV (by omega))) hk))
  have hmem : ∀ r ∈ (List.range len).map row, ∃ i, i < len ∧ r = row i := fun r hr => by
   obtain ⟨i, h1, h2⟩ := EW.1 hr
   exact ⟨i, GL.1 h1, h2.symm⟩
  have hlen : ∀ r ∈ (List.range len).map row, r.length = n := fun r hr => by
   obtain ⟨i, h1, rfl⟩ := hmem r hr
   exact (World.cells?_some (hrow i h1).1).2.1
  refine ⟨some a, cap, f, (List.range len).map row, by simp, by simpa using hl, hm, ?_, hlen, (fun e => by cases e), fun _ => by omega, fun r hr => ?_, fun _ => ⟨(elems.length + rest.length) * Try.prog.bytesOf e, ?_, ?_⟩⟩
  ·
   have hcell : ∀ j u, ((List.range len).map row).flatten[j]? = some u → w.cell? (a.add j) = some u := fun j u hu => by
    obtain ⟨i, r, row', rfl, h2, h3, h4⟩ := flat_get _ j hlen hu
    have hil : i < len := by
     have := (Ew.1 h3).1
     simpa using this
    have h5 : row' = row i := by
     rw [Fp, List.getElem?_range hil] at h3
     exact (FM h3).symm
    subst h5
    have h6 := (World.cells?_some (hrow i hil).1).2.2 r h2
    rw [h4, Go.Deep.add_add] at h6
    exact h6
   intro hne
   obtain ⟨u0, rest, he⟩ := List.exists_cons_of_ne_nil hne
   have h0 := hcell 0 u0 (by rw [he]; rfl)
   rw [show a.add 0 = a from if_pos rfl] at h0
   obtain ⟨h1, b, o, rfl⟩ := cell_spot h0
   refine ⟨b, o, rfl, h1, fun j u hu => ?_⟩
   have := hcell j u hu
   rw [dW] at this
   exact this
  ·
   obtain ⟨i, h1, rfl⟩ := hmem r hr
   exact (hrow i h1).2
  ·
   rw [hx, DataW.weights, ht]
   simp
  ·
   rw [Eo, List.length_range]
   exact F9 _ (by omega)
end
end Go.Proofs.Ytkhjanjlcdhdcaa
namespace Go.Proofs.Ytkhjanjlcdhdcaa
set_option linter.unusedVariables false
set_option maxRecDepth 100000
open Go.RowKit Mono Go.ChangeShapes Go.WideShapes Go.Deep
namespace E
inductive Sh where
 | bool
 | int (k : IntKind)
 | arr (n : Nat)
 | bytes
 | slice (b : Nat) (s : Sh)
 | struct (ss : List Sh)
mutual
def Sh.size : Sh → Nat
 | .arr n => n
 | .struct ss => Sh.sizes ss
 | _ => 1
def Sh.sizes : List Sh → Nat
 | [] => 0
 | s :: ss => s.size + Sh.sizes ss
end
def Sh.agg : Sh → Bool
 | .arr _ => true
 | .struct _ => true
 | _ => false
mutual
def Sh.Is : Sh → TypeId → Prop
 | .bool, t => Try.prog.underlying t = some .bool ∧ Try.prog.cellsOf t = 1
 | .int k, t => Try.prog.underlying t = some (.int k) ∧ Try.prog.cellsOf t = 1
 | .arr n, t => Try.prog.underlying t = some (.array n 5) ∧ Try.prog.cellsOf t = n
 | .bytes, t => Try.prog.underlying t = some (.slice 5) ∧ Try.prog.cellsOf t = 1
 | .slice b s, t => Try.prog.cellsOf t = 1 ∧ ∃ e, Try.prog.underlying t = some (.slice e) ∧ Try.prog.bytesOf e = b ∧ s.Is e
 | .struct ss, t => ∃ fs : Array Field, Try.prog.underlying t = some (.struct fs) ∧ Try.prog.cellsOf t = Sh.sizes ss ∧ Sh.IsF ss 0 fs.toList
def Sh.IsF : List Sh → Nat → List Field → Prop
 | [], _, fs => fs = []
 | s :: ss, o, fs => ∃ f rest, fs = f :: rest ∧ f.offset = o ∧ s.Is f.type ∧ Sh.IsF ss (o + s.size) rest
end
mutual
def Sh.Of (N : Nat) : Sh → D → Prop
 | .bool, d => ∃ b, d = .v (.bool b)
 | .int k, d => ∃ n, d = .v (.int k n) ∧ (Lit.int k n).wf = true
 | .arr n, d => ∃ l : List UInt8, l.length = n ∧ d = .arr n l
 | .bytes, d => ∃ l : List UInt8, l.length ≤ N ∧ d = .bs l
 | .slice b s, d => ∃ ds : List D, ds.length * b ≤ N ∧ d = .sl s.size ds ∧ ∀ x ∈ ds, s.Of N x
 | .struct ss, d => ∃ ds, d = .tup ds ∧ Sh.OfL N ss ds
def Sh.OfL (N : Nat) : List Sh → List D → Prop
 | [], ds => ds = []
 | s :: ss, ds => ∃ d rest, ds = d :: rest ∧ s.Of N d ∧ Sh.OfL N ss rest
end
theorem Sh.Is.cells : ∀ {s : Sh} {t : TypeId}, s.Is t → Try.prog.cellsOf t = s.size
 | .bool, t, h => by rw [Sh.Is] at h; exact h.2
 | .int k, t, h => by rw [Sh.Is] at h; exact h.2
 | .arr n, t, h => by rw [Sh.Is] at h; exact h.2
 | .bytes, t, h => by rw [Sh.Is] at h; exact h.2
 | .slice b s, t, h => by rw [Sh.Is] at h; exact h.1
 | .struct ss, t, h => by
  rw [Sh.Is] at h
  obtain ⟨fs, _, h2, _⟩ := h
  exact h2
theorem wF {ok : Nat → Prop} {w : World} {z : Nat} {Q : D → Prop} : ∀ {rows : List (List Value)}, (∀ r ∈ rows, r.length = z ∧ ∃ d, Q d ∧ Reads ok w d r) → ∃ ds, ds.length = rows.length ∧ (∀ x ∈ ds, Q x) ∧ aj ok w z ds rows
 | [], _ => ⟨[], rfl, by simp, by rw [aj]⟩
 | r :: rows, h => by
  obtain ⟨ds, h1, h2, h3⟩ := wF (rows := rows) fun r hr => h r (by simp [hr])
  obtain ⟨hz, d, hd, hr⟩ := h r (by simp)
  refine ⟨d :: ds, by simp [h1], fun x hx => ?_, by rw [aj]; exact ⟨r, rows, rfl, hz, hr, h3⟩⟩
  rcases Es.1 hx with rfl | hx
  · exact hd
  · exact h2 x hx
section
variable {H : Type} {enc : TypeId × Value → H} {w : World} {spare : Nat → Bool} {held : Bool} {N : Nat}
mutual
theorem qN : ∀ (s : Sh) (t : TypeId) (fuel : Nat) (cs : List Value) (x : DataW H × List MemPlace), s.Is t → DataW.trod enc Try.prog w 0 spare held fuel t cs = some x → (∀ k ∈ x.1.weights Try.prog t, k ≤ N) → ∃ d, s.Of N d ∧ Reads (fun b => b < w.heap.size) w d cs
 | .bool, t, fuel, cs, x, hs, h, hN => by
  rw [Sh.Is] at hs
  obtain ⟨b, rfl, _⟩ := DataW.trod_bool hs.1 h
  exact ⟨.v (.bool b), by rw [Sh.Of]; exact ⟨b, rfl⟩, by rw [Reads]; exact ⟨rfl, rfl⟩⟩
 | .int k, t, fuel, cs, x, hs, h, hN => by
  rw [Sh.Is] at hs
  obtain ⟨n, rfl, _, hw⟩ := DataW.trod_int hs.1 h
  exact ⟨.v (.int k n), by rw [Sh.Of]; exact ⟨n, rfl, hw⟩, by rw [Reads]; exact ⟨rfl, rfl⟩⟩
 | .arr n, t, fuel, cs, x, hs, h, hN => by
  rw [Sh.Is] at hs
  obtain ⟨l, hl, rfl⟩ := uJ hs.1 hs.2 h
  exact ⟨.arr n l, by rw [Sh.Of]; exact ⟨l, hl, rfl⟩, by rw [Reads]; exact ⟨hl, rfl⟩⟩
 | .bytes, t, fuel, cs, x, hs, h, hN => by
  rw [Sh.Is] at hs
  have hl : ∃ v, cs = [v] := by
   rcases DataW.trod_slice hs.1 h with ⟨hcs, _⟩ | ⟨a, len, cap, elems, rest, f, hfu, hcs, _⟩
   · exact ⟨_, hcs⟩
   · exact ⟨_, hcs⟩
  obtain ⟨v, rfl⟩ := hl
  obtain ⟨A, c, f, rows, rfl, h1, h2, h3, _, _, _, h5, h8⟩ := mY hs.1 (by kernel_rfl : Try.prog.cellsOf 5 = 1) h
  obtain ⟨l, h6, h7⟩ := pR fun r hr => by
   obtain ⟨y, hy, _⟩ := h5 r hr
   exact oh hy
  rw [h7] at h3
  have hl : l.length ≤ N := by
   rw [h6]
   by_cases hr : rows = []
   · rw [hr]; simp
   ·
    obtain ⟨k, hk, hk2⟩ := h8 hr
    rw [(by kernel_rfl : Try.prog.bytesOf 5 = 1), Nat.mul_one] at hk2
    exact EO hk2 (hN k hk)
  exact ⟨.bs l, by rw [Sh.Of]; exact ⟨l, hl, rfl⟩, by rw [Reads]; exact ⟨_, rfl, A, c, by rw [h6], by rw [h6]; exact h1, h2, h3⟩⟩
 | .slice b s, t, fuel, cs, x, hs, h, hN => by
  rw [Sh.Is] at hs
  obtain ⟨_, e, hu, hb, he⟩ := hs
  have hl : ∃ v, cs = [v] := by
   rcases DataW.trod_slice hu h with ⟨hcs, _⟩ | ⟨a, len, cap, elems, rest, f, hfu, hcs, _⟩
   · exact ⟨_, hcs⟩
   · exact ⟨_, hcs⟩
  obtain ⟨v, rfl⟩ := hl
  obtain ⟨A, c, f, rows, rfl, h1, h2, h3, h4, h5, _, h6, h8⟩ := mY hu he.cells h
  obtain ⟨ds, g1, g2, g3⟩ := wF (ok := fun b => b < w.heap.size) (w := w) (z := s.size) (Q := s.Of N) fun r hr => by
   obtain ⟨y, hy, hk⟩ := h6 r hr
   exact ⟨h4 r hr, qN s e f r y he hy fun k hk' => hN k (hk k hk')⟩
  have hl : ds.length * b ≤ N := by
   rw [g1, ← hb]
   by_cases hr : rows = []
   · rw [hr]; simp
   ·
    obtain ⟨k, hk, hk2⟩ := h8 hr
    exact EO hk2 (hN k hk)
  refine ⟨.sl s.size ds, by rw [Sh.Of]; exact ⟨ds, hl, rfl, g2⟩, ?_⟩
  rw [Reads]
  exact ⟨A, c, rows, by rw [g1], by rw [g1]; exact h1, h2, fun e => by rw [g1, (h5 e).1]; exact ⟨rfl, (h5 e).2⟩, h3, g3⟩
 | .struct ss, t, fuel, cs, x, hs, h, hN => by
  rw [Sh.Is] at hs
  obtain ⟨fs, hu, hc, hf⟩ := hs
  obtain ⟨xs, n, _, hx, hl, hxl, hg⟩ := DataW.trod_struct hu h
  obtain ⟨ds, h1, h2⟩ := sF ss 0 n cs fs.toList hf (by rw [hl, hc, Fe]) fun f hm => by
   obtain ⟨i, hi, rfl⟩ := List.getElem_of_mem hm
   have hi' : i < fs.size := by simpa using hi
   have := hg i fs[i] (by rw [F7 hi'])
   rw [Ez (by omega)] at this
   refine ⟨_, this, fun k hk => hN k ?_⟩
   rw [hx]
   simp only [DataW.weights, hu]
   exact DataW.weights_mem_each (j := i) (t := fs[i].type) (d := xs[i].1) (by simp [Array.getElem?_eq_getElem hi']) (by rw [Fp, Ez (by omega)]; rfl) k hk
  exact ⟨.tup ds, by rw [Sh.Of]; exact ⟨ds, rfl, h1⟩, by rw [Reads]; simpa using h2⟩
theorem sF : ∀ (ss : List Sh) (o n : Nat) (cs : List Value) (fs : List Field), Sh.IsF ss o fs → cs.length = o + Sh.sizes ss → (∀ f ∈ fs, ∃ y, DataW.trod enc Try.prog w 0 spare held n f.type ((cs.drop f.offset).take (Try.prog.cellsOf f.type)) = some y ∧ ∀ k ∈ y.1.weights Try.prog f.type, k ≤ N) →
  ∃ ds, Sh.OfL N ss ds ∧ aX (fun b => b < w.heap.size) w ds (cs.drop o)
 | [], o, n, cs, fs, hf, hl, h => ⟨[], by rw [Sh.OfL], by
  rw [aX]
  rw [Sh.sizes] at hl
  exact Gh (by omega)⟩
 | s :: ss, o, n, cs, fs, hf, hl, h => by
  rw [Sh.IsF] at hf
  obtain ⟨f, rest, rfl, rfl, hs, hf⟩ := hf
  rw [Sh.sizes] at hl
  obtain ⟨y, hy, hk⟩ := h f (by simp)
  rw [hs.cells] at hy
  obtain ⟨d, h1, h2⟩ := qN s f.type n _ y hs hy hk
  obtain ⟨ds, h3, h4⟩ := sF ss (f.offset + s.size) n cs rest hf (by omega) fun g hg => h g (by simp [hg])
  refine ⟨d :: ds, by rw [Sh.OfL]; exact ⟨d, ds, rfl, h1, h3⟩, ?_⟩
  rw [aX]
  refine ⟨_, _, ?_, h2, h4⟩
  rw [← List.drop_drop, FT]
end
theorem Cj {s : Sh} {d : D} (h : s.Of N d) : d.agg = s.agg := by
 cases s <;> rw [Sh.Of] at h
 ·
  obtain ⟨_, rfl⟩ := h
  rfl
 ·
  obtain ⟨_, rfl, _⟩ := h
  rfl
 ·
  obtain ⟨_, _, rfl⟩ := h
  rfl
 ·
  obtain ⟨_, _, rfl⟩ := h
  rfl
 ·
  obtain ⟨_, _, rfl, _⟩ := h
  rfl
 ·
  obtain ⟨_, rfl, _⟩ := h
  rfl
variable {r : Reach} {b0 : Nat} {v : Value} {d : DataW H} {ps : List MemPlace}
theorem yS {s : Sh} {t : TypeId} (hs : s.Is t) (hv : Value.okWide Try.prog w r b0 t v) (h : DataW.Trod enc Try.prog w 0 spare held t v d ps) : v = if s.agg then .agg v.cells else v.cells.toList.headD undef := by
 cases s <;> rw [Sh.Is] at hs
 ·
  obtain ⟨b, rfl, _⟩ := open_bool hs.1 hv h
  rfl
 ·
  obtain ⟨n, rfl, _⟩ := open_int hs.1 hv h
  rfl
 ·
  simp only [Value.okWide, hs.1] at hv
  obtain ⟨cs, rfl, _⟩ := hv
  rfl
 ·
  obtain ⟨a, n, c, rfl⟩ := okWide_slice hs.1 hv
  rfl
 ·
  obtain ⟨_, e, hu, _, _⟩ := hs
  obtain ⟨a, n, c, rfl⟩ := okWide_slice hu hv
  rfl
 ·
  obtain ⟨fs, hu, _⟩ := hs
  simp only [Value.okWide, hu] at hv
  obtain ⟨cs, rfl, _⟩ := hv
  rfl
theorem Ec {s : Sh} {t : TypeId} (hs : s.Is t) (hv : Value.okWide Try.prog w r b0 t v) (h : DataW.Trod enc Try.prog w 0 spare held t v d ps) (hN : ∀ k ∈ d.weights Try.prog t, k ≤ N) : ∃ D, s.Of N D ∧ bZ (fun b => b < w.heap.size) w D v := by
 have h3 := yS hs hv h
 obtain ⟨fuel, hf⟩ := h
 obtain ⟨D, h1, h2⟩ := qN s t fuel _ _ hs hf hN
 refine ⟨D, h1, _, h2, ?_⟩
 unfold form
 rw [Cj h1]
 simpa using h3
end
end E
end Go.Proofs.Ytkhjanjlcdhdcaa
namespace Go.Proofs.Ytkhjanjlcdhdcaa
set_option linter.unusedVariables false
set_option maxRecDepth 100000
open Go.RowKit Mono Go.ChangeShapes Go.WideShapes Go.Deep
namespace E
def yT : Sh := .struct [.arr 32, .arr 32]
def yU : Sh := .struct [.arr 20, .int .i64, .arr 32, .bytes, .slice 64 yT]
theorem A8 : yT.Is 58 := by
 unfold yT
 rw [Sh.Is]
 refine ⟨_, Try.underlying58, by kernel_rfl, ?_⟩
 simp only [Sh.IsF, Sh.Is]
 exact ⟨_, _, rfl, rfl, ⟨Try.underlying35, by kernel_rfl⟩, _, _, rfl, rfl, ⟨Try.underlying35, by kernel_rfl⟩, rfl⟩
theorem vP : yU.Is 46 := by
 unfold yU
 rw [Sh.Is]
 refine ⟨_, Try.underlying46, by kernel_rfl, ?_⟩
 simp only [Sh.IsF, Sh.Is]
 exact ⟨_, _, rfl, rfl, ⟨Try.underlying33, by kernel_rfl⟩, _, _, rfl, rfl, ⟨Try.underlying2, by kernel_rfl⟩, _, _, rfl, rfl, ⟨Try.underlying35, by kernel_rfl⟩, _, _, rfl, rfl, ⟨Try.underlying43, by kernel_rfl⟩, _, _, rfl, rfl, ⟨by kernel_rfl, _, Try.underlying44, by kernel_rfl, A8⟩, rfl⟩
theorem tJ : (Sh.slice 112 yU).Is 22 := by
 rw [Sh.Is]
 exact ⟨by kernel_rfl, _, Try.underlying22, by kernel_rfl, vP⟩
theorem qV {α : Type} {Q : D → Prop} {f : α → D} (h : ∀ d, Q d → ∃ a, d = f a) : ∀ {ds : List D}, (∀ x ∈ ds, Q x) → ∃ rs : List α, ds = rs.map f
 | [], _ => ⟨[], rfl⟩
 | d :: ds, hd => by
  obtain ⟨a, rfl⟩ := h d (hd d (by simp))
  obtain ⟨rs, rfl⟩ := qV h fun x hx => hd x (List.mem_cons_of_mem _ hx)
  exact ⟨a :: rs, rfl⟩
variable {N : Nat}
theorem AP {d : D} (h : yT.Of N d) : ∃ s, d = fZ s := by
 unfold yT at h
 simp only [Sh.Of, Sh.OfL] at h
 obtain ⟨_, rfl, _, _, rfl, ⟨k, h1, rfl⟩, _, _, rfl, ⟨v, h2, rfl⟩, rfl⟩ := h
 exact ⟨(k, v), rfl⟩
theorem vJ {d : D} (h : yU.Of N d) : ∃ c : AcL, d = dX c := by
 unfold yU at h
 simp only [Sh.Of, Sh.OfL] at h
 obtain ⟨_, rfl, _, _, rfl, ⟨a, h1, rfl⟩, _, _, rfl, ⟨n, rfl, hn⟩, _, _, rfl, ⟨b, h2, rfl⟩, _, _, rfl, ⟨c, hc, rfl⟩, _, _, rfl, ⟨ss, hl, rfl, hs⟩, rfl⟩ := h
 obtain ⟨ss, rfl⟩ := qV (fun _ => AP) hs
 exact ⟨⟨a, n, b, c, ss⟩, rfl⟩
theorem C9 (l : List Nat) : ∀ k ∈ l, k ≤ l.sum := by
 induction l with
 | nil => intro k hk; cases hk
 | cons a l ih =>
  intro k hk
  rw [List.sum_cons]
  rcases Es.1 hk with rfl | hk
  · omega
  ·
   have := ih k hk
   omega
end E
def nD (w : World) (v : Value) : Prop := ∃ l : List E.AcL, E.bZ (fun b => b < w.heap.size) w (.sl 55 (l.map E.dX)) v
section
variable {H : Type} {enc : TypeId × Value → H} {w : World} {spare : Nat → Bool} {held : Bool} {r : Reach} {b0 : Nat} {v : Value} {d : DataW H} {ps : List MemPlace}
theorem CV (hv : Value.okWide Try.prog w r b0 22 v) (h : DataW.Trod enc Try.prog w 0 spare held 22 v d ps) : nD w v := by
 obtain ⟨D, h1, h2⟩ := E.Ec E.tJ hv h (E.C9 _)
 rw [E.Sh.Of] at h1
 obtain ⟨ds, _, rfl, h3⟩ := h1
 obtain ⟨l, rfl⟩ := E.qV (fun _ => E.vJ) h3
 exact ⟨l, h2⟩
end
end Go.Proofs.Ytkhjanjlcdhdcaa
namespace Go.Proofs.Ytkhjanjlcdhdcaa
set_option linter.unusedVariables false
open Go.RowKit Mono
namespace E
theorem xX {f : FuncId} {ds : List D} {xs : List Value} {w : World} (h : FnM f ds [] (fun r os' => r = .val (.v (.bool true)) ∧ os' = [])) (hr : dh (fun b => b < w.heap.size) w ds xs) : Calls Try.prog f xs.toArray w fun e w' => e = .returned (.bool true) ∧ Below w.heap.size w w' :=
 (h.go _ w xs (fun b hb => hb) ⟨fun o ho => by simp at ho, .nil, fun b ⟨o, ho, _⟩ => by simp at ho⟩ hr).mono fun e w' ⟨v, r, os', he, ⟨h1, h2⟩, ht, hv⟩ => by
  subst he h1
  have hg := ht.gr.gr fun b ⟨o, ho, _⟩ => by simp at ho
  exact ⟨by rw [(aI.1 hv).2], hg⟩
end E
end Go.Proofs.Ytkhjanjlcdhdcaa
