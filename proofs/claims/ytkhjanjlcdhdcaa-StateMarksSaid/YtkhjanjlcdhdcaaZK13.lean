/-
 Merged: lemmas of this claim.
 Conditions: none.
-/
import Derived.Test.YtkhjanjlcdhdcaaZK12
import Derived.Test.YtkhjanjlcdhdcaaZK0
namespace Go.Proofs.Ytkhjanjlcdhdcaa
set_option linter.unusedVariables false
set_option maxRecDepth 20000
set_option maxHeartbeats 4000000
open Go.RowKit Mono Rlp Wd
namespace E
abbrev rO (a q v : List UInt8) : D := .ifc 78 (.tup [.arr 20 a, .arr 32 q, .arr 32 v])
abbrev l9 (a : List UInt8) (p : Value) : D := .ifc 83 (.tup [.arr 20 a, .v p])
section
variable {g m c ga gs sc T : Nat} {u k : Value} {n : Int} {es ss : List Ent} {a w cd q v : List UInt8} {us ks : List D} {b : Int} {d : D}
theorem vY (h : aN es a = some (.v (ptr ga))) (hu : us.length < 1099511627776) : FnM 26 [.v (ptr g), .arr 20 a, .ifc T d] [stO g m u k n, smO m c es, acO ga b w cd (.map (some gs)), .map gs 32 sc ss, unO u us, mkO k ks] (fun r os' => ∃ u', r = .val (.v (ptr ga)) ∧ os' = [stO g m u' k n, smO m c es, unO u' (fG ks us (.ifc T d)), mkO k ks, acO ga b w cd (.map (some gs)), .map gs 32 sc ss]) := by
 have h1 := ((mP (g := g) (m := m) (c := c) (u := u) (k := k) (n := n) (ks := ks) (T := T) (d := d) h hu).frame [acO ga b w cd (.map (some gs)), .map gs 32 sc ss]).pick [0, 1, 4, 5, 2, 3] rfl (by decide)
 refine FnM.mono h1 ?_
 rintro r _ ⟨_, ⟨u', rfl, rfl⟩, rfl⟩
 exact ⟨u', rfl, rfl⟩
theorem Cm {ss' : List Ent} {sc' : Nat} {o1 o2 o3 o4 : Obj} (h : FnM 17 [.v (ptr ga), .arr 32 q, .arr 32 v] [acO ga b w cd (.map (some gs)), .map gs 32 sc ss] (fun r os' => r = .tpl [] ∧ os' = [acO ga b w cd (.map (some gs)), .map gs 32 sc' ss'])) : FnM 17 [.v (ptr ga), .arr 32 q, .arr 32 v] [o1, o2, o3, o4, acO ga b w cd (.map (some gs)), .map gs 32 sc ss] (fun r os' => r = .tpl [] ∧ os' = [o1, o2, o3, o4, acO ga b w cd (.map (some gs)), .map gs 32 sc' ss']) := by
 refine FnM.out ((h.frame [o1, o2, o3, o4]).pick [2, 3, 4, 5, 0, 1] rfl (by decide)) ?_
 rintro r _ ⟨_, ⟨rfl, rfl⟩, rfl⟩
 exact ⟨_, iD (os := [acO ga b w cd (.map (some gs)), .map gs 32 sc' ss', o1, o2, o3, o4]) [2, 3, 4, 5, 0, 1] rfl (by decide), rfl, rfl⟩
theorem Au {ss' : List Ent} {sc' : Nat} {o1 o2 o3 o4 : Obj} (h : FnM 17 [.v (ptr ga), .arr 32 q, .arr 32 v] [acO ga b w cd (.map (some gs)), .map gs 32 sc ss] (fun r os' => r = .tpl [] ∧ os' = [acO ga b w cd (.map (some gs)), .map gs 32 sc' ss'])) : FnM 17 [.v (ptr ga), .arr 32 q, .arr 32 v] [acO ga b w cd (.map (some gs)), .map gs 32 sc ss, o1, o2, o3, o4] (fun r os' => r = .tpl [] ∧ os' = [acO ga b w cd (.map (some gs)), .map gs 32 sc' ss', o1, o2, o3, o4]) := by
 refine FnM.mono (h.frame [o1, o2, o3, o4]) ?_
 rintro r _ ⟨_, ⟨rfl, rfl⟩, rfl⟩
 exact ⟨rfl, rfl⟩
theorem ou {x : List UInt8} {ss' : List Ent} {sc' : Nat} (h : aN es a = some (.v (ptr ga))) (hv : slE ss q = .arr 32 x) (hu : us.length < 1099511627776) (hs : FnM 17 [.v (ptr ga), .arr 32 q, .arr 32 v] [acO ga b w cd (.map (some gs)), .map gs 32 sc ss] (fun r os' => r = .tpl [] ∧ os' = [acO ga b w cd (.map (some gs)), .map gs 32 sc' ss'])) : FnM 9 [.v (ptr g), .arr 20 a, .arr 32 q, .arr 32 v] [stO g m u k n, smO m c es, unO u us, mkO k ks, acO ga b w cd (.map (some gs)), .map gs 32 sc ss] (fun r os' => r = .tpl [] ∧ ∃ u', os' = [stO g m u' k n, smO m c es, unO u' (fG ks us (rO a q x)), mkO k ks, acO ga b w cd (.map (some gs)), .map gs 32 sc' ss']) := by
 have h1 := Ar (g := g) (m := m) (c := c) (u := u) (k := k) (n := n) (b := b) (w := w) (cd := cd) (gs := gs) (sc := sc) h hv
 have h2 := vY (g := g) (m := m) (c := c) (u := u) (k := k) (n := n) (ks := ks) (T := 78) (d := .tup [.arr 20 a, .arr 32 q, .arr 32 x]) (b := b) (w := w) (cd := cd) (gs := gs) (sc := sc) (ss := ss) h hu
 refine FnM.walk 22 Try.func9 rfl Try.ntmps9 (by simp) fun X => ?_
 repeat
  (first
   | (apply aA; iterate 3 rfl) | (apply aQ; iterate 5 rfl) | (apply aH; rfl; exact I.a; iterate 4 rfl) | (apply dA; iterate 7 rfl)
   | (apply aW; iterate 5 rfl) | (apply eU; iterate 4 rfl) | (apply bW; rfl; rfl; rfl; intro _) | ((with_reducible apply EK.h0); apply EK.round)
   | apply EL.nil | ((with_reducible apply EK.aZ); rfl)
   | (with_reducible first | apply EK.nc | apply EC.seq | apply EC.r0 | apply EC.k0 | apply EC.label | apply EC.b0 | apply EC.x0 | apply EC.ret | apply EK.n0 | apply EK.s0 | apply EK.aB | apply EK.au | apply EK.ah))
 refine EC.le (Le.pick [3, 4, 7, 8, 5, 6, 0, 1, 2] [_, _, _, _, _, _, _, _, _] rfl (by decide) rfl) ?_
 refine EC.iL 14 [0, 1, 2, 3, 4, 5, 6, 11, 12] [7, 8, 9, 10, 13] [_, _, _, _, _, _] _ (by kernel_rfl) (by kernel_rfl) rfl ?_
 simp only [bP, EY, Fb, EP, EU]
 repeat
  (first
   | (apply aS; iterate 3 rfl) | (apply bT; iterate 5 rfl) | (apply aU; rfl; exact I.a; iterate 4 rfl) | (apply bU; iterate 7 rfl)
   | (apply cO; iterate 5 rfl) | (apply dS; iterate 4 rfl) | (apply gB; iterate 3 rfl) | ((with_reducible apply EH.nil); rfl)
   | ((with_reducible apply EH.jf); rfl; intro _) | ((with_reducible apply EH.jF); rfl; intro _ _))
 refine EM.nil ?_
 repeat (first | rw [Ed] | rw [Ee])
 refine CH.iT (rest := [_, _]) h1 rfl rfl (ak.refl _ _) (by intro _ _; simp [go_sem]) rfl rfl ?_
 rintro _ _ ⟨rfl, rfl⟩
 try simp only [St.put]
 repeat (first | rw [Ed] | rw [Ee])
 refine CH.cut 2 ?_
 simp only [Eh, Ep, Ef, Ej]
 repeat
  (first
   | (apply aS; iterate 3 rfl) | (apply bT; iterate 5 rfl) | (apply aU; rfl; exact I.a; iterate 4 rfl) | (apply bU; iterate 7 rfl)
   | (apply cO; iterate 5 rfl) | (apply dS; iterate 4 rfl) | (apply gB; iterate 3 rfl) | ((with_reducible apply EH.nil); rfl)
   | ((with_reducible apply EH.jf); rfl; intro _) | ((with_reducible apply EH.jF); rfl; intro _ _))
 refine EM.nil ?_
 repeat (first | rw [Ed] | rw [Ee])
 refine CH.iT (rest := []) h2 rfl rfl (ak.refl _ _) (by intro _ _; simp [go_sem]) rfl rfl ?_
 rintro _ _ ⟨u', rfl, rfl⟩
 try simp only [St.put]
 repeat (first | rw [Ed] | rw [Ee])
 refine CH.iT (rest := []) (Cm hs) rfl rfl (ak.refl _ _) (by intro _ _; simp [go_sem]) rfl rfl ?_
 rintro _ _ ⟨rfl, rfl⟩
 try simp only [St.put]
 repeat (first | rw [Ed] | rw [Ee])
 refine CH.nil ?_
 try simp only [Ef, Ej]
 repeat
  (first
   | (apply aA; iterate 3 rfl) | (apply aQ; iterate 5 rfl) | (apply aH; rfl; exact I.a; iterate 4 rfl) | (apply dA; iterate 7 rfl)
   | (apply aW; iterate 5 rfl) | (apply eU; iterate 4 rfl) | (apply bW; rfl; rfl; rfl; intro _) | ((with_reducible apply EK.h0); apply EK.round)
   | apply EL.nil | ((with_reducible apply EK.aZ); rfl)
   | (with_reducible first | apply EK.nc | apply EC.seq | apply EC.r0 | apply EC.k0 | apply EC.label | apply EC.b0 | apply EC.x0 | apply EC.ret | apply EK.n0 | apply EK.s0 | apply EK.aB | apply EK.au | apply EK.ah))
 exact EK.iI [stO g m u' k n, smO m c es, unO u' (fG ks us (rO a q x)), mkO k ks, acO ga b w cd (.map (some gs)), .map gs 32 sc' ss'] rfl (by (repeat first | exact Em _ | apply List.Sublist.cons_cons | apply List.Sublist.cons)) ⟨rfl, u', rfl⟩
theorem ng {ss' : Nat → List Ent} {sc' : Nat} (h : aN es a = none) (hu : us.length < 1099511627776) (hs : ∀ ga gs, FnM 17 [.v (ptr ga), .arr 32 q, .arr 32 v] [acO ga 0 zero32 [] (.map (some gs)), .map gs 32 0 []] (fun r os' => r = .tpl [] ∧ os' = [acO ga 0 zero32 [] (.map (some gs)), .map gs 32 sc' (ss' 0)])) : FnM 9 [.v (ptr g), .arr 20 a, .arr 32 q, .arr 32 v] [stO g m u k n, smO m c es, unO u us, mkO k ks] (fun r os' => r = .tpl [] ∧ ∃ u' ga gs, os' = [stO g m u' k n, smO m (bn c es a) (bG c es a (.v (ptr ga))), unO u' (fG ks us (rO a q zero32)), mkO k ks, acO ga 0 zero32 [] (.map (some gs)), .map gs 32 sc' (ss' 0)]) := by
 have h1 := yO (g := g) (m := m) (c := c) (u := u) (k := k) (n := n) (q := q) h
 have h2 := lC (g := g) (m := m) (c := c) (u := u) (k := k) (n := n) (ks := ks) (T := 78) (d := .tup [.arr 20 a, .arr 32 q, .arr 32 zero32]) h hu
 refine FnM.walk 22 Try.func9 rfl Try.ntmps9 (by simp) fun X => ?_
 repeat
  (first
   | (apply aA; iterate 3 rfl) | (apply aQ; iterate 5 rfl) | (apply aH; rfl; exact I.a; iterate 4 rfl) | (apply dA; iterate 7 rfl)
   | (apply aW; iterate 5 rfl) | (apply eU; iterate 4 rfl) | (apply bW; rfl; rfl; rfl; intro _) | ((with_reducible apply EK.h0); apply EK.round)
   | apply EL.nil | ((with_reducible apply EK.aZ); rfl)
   | (with_reducible first | apply EK.nc | apply EC.seq | apply EC.r0 | apply EC.k0 | apply EC.label | apply EC.b0 | apply EC.x0 | apply EC.ret | apply EK.n0 | apply EK.s0 | apply EK.aB | apply EK.au | apply EK.ah))
 refine EC.le (Le.pick [3, 4, 5, 6, 0, 1, 2] [_, _, _, _, _, _, _] rfl (by decide) rfl) ?_
 refine EC.iL 14 [0, 1, 2, 3, 4, 5, 6, 11, 12] [7, 8, 9, 10, 13] [_, _, _, _] _ (by kernel_rfl) (by kernel_rfl) rfl ?_
 simp only [bP, EY, Fb, EP, EU]
 repeat
  (first
   | (apply aS; iterate 3 rfl) | (apply bT; iterate 5 rfl) | (apply aU; rfl; exact I.a; iterate 4 rfl) | (apply bU; iterate 7 rfl)
   | (apply cO; iterate 5 rfl) | (apply dS; iterate 4 rfl) | (apply gB; iterate 3 rfl) | ((with_reducible apply EH.nil); rfl)
   | ((with_reducible apply EH.jf); rfl; intro _) | ((with_reducible apply EH.jF); rfl; intro _ _))
 refine EM.nil ?_
 repeat (first | rw [Ed] | rw [Ee])
 refine CH.iT (rest := [_, _]) h1 rfl rfl (ak.refl _ _) (by intro _ _; simp [go_sem]) rfl rfl ?_
 rintro _ _ ⟨rfl, rfl⟩
 try simp only [St.put]
 repeat (first | rw [Ed] | rw [Ee])
 refine CH.cut 2 ?_
 simp only [Eh, Ep, Ef, Ej]
 repeat
  (first
   | (apply aS; iterate 3 rfl) | (apply bT; iterate 5 rfl) | (apply aU; rfl; exact I.a; iterate 4 rfl) | (apply bU; iterate 7 rfl)
   | (apply cO; iterate 5 rfl) | (apply dS; iterate 4 rfl) | (apply gB; iterate 3 rfl) | ((with_reducible apply EH.nil); rfl)
   | ((with_reducible apply EH.jf); rfl; intro _) | ((with_reducible apply EH.jF); rfl; intro _ _))
 refine EM.nil ?_
 repeat (first | rw [Ed] | rw [Ee])
 refine CH.iT (rest := []) h2 rfl rfl (ak.refl _ _) (by intro _ _; simp [go_sem]) rfl rfl ?_
 rintro _ _ ⟨u', ga, gs, rfl, rfl⟩
 try simp only [St.put]
 repeat (first | rw [Ed] | rw [Ee])
 refine CH.iT (rest := []) (Au (hs ga gs)) rfl rfl (ak.refl _ _) (by intro _ _; simp [go_sem]) rfl rfl ?_
 rintro _ _ ⟨rfl, rfl⟩
 try simp only [St.put]
 repeat (first | rw [Ed] | rw [Ee])
 refine CH.nil ?_
 try simp only [Ef, Ej]
 repeat
  (first
   | (apply aA; iterate 3 rfl) | (apply aQ; iterate 5 rfl) | (apply aH; rfl; exact I.a; iterate 4 rfl) | (apply dA; iterate 7 rfl)
   | (apply aW; iterate 5 rfl) | (apply eU; iterate 4 rfl) | (apply bW; rfl; rfl; rfl; intro _) | ((with_reducible apply EK.h0); apply EK.round)
   | apply EL.nil | ((with_reducible apply EK.aZ); rfl)
   | (with_reducible first | apply EK.nc | apply EC.seq | apply EC.r0 | apply EC.k0 | apply EC.label | apply EC.b0 | apply EC.x0 | apply EC.ret | apply EK.n0 | apply EK.s0 | apply EK.aB | apply EK.au | apply EK.ah))
 refine EK.le (Le.pick [2, 3, 4, 5, 0, 1, 6, 7, 8] [_, _, _, _, _, _, _, _, _] rfl (by decide) rfl) ?_
 exact EK.iI [stO g m u' k n, smO m (bn c es a) (bG c es a (.v (ptr ga))), unO u' (fG ks us (rO a q zero32)), mkO k ks, acO ga 0 zero32 [] (.map (some gs)), .map gs 32 sc' (ss' 0)] rfl (by (repeat first | exact Em _ | apply List.Sublist.cons_cons | apply List.Sublist.cons)) ⟨rfl, u', ga, gs, rfl⟩
theorem AZ (h : aN es a = some (.v (ptr ga))) (hu : us.length < 1099511627776) : FnM 12 [.v (ptr g), .arr 20 a] [stO g m u k n, smO m c es, unO u us, mkO k ks] (fun r os' => r = .tpl [] ∧ ∃ u' ga' gs', os' = [stO g m u' k n, smO m (bn c es a) (bG c es a (.v (ptr ga'))), unO u' (fG ks us (l9 a (ptr ga))), mkO k ks, acO ga' 0 zero32 [] (.map (some gs')), .map gs' 32 0 []]) := by
 have hg : (aN es a).getD (.v (.pointer none)) = .v (ptr ga) := by rw [h]; rfl
 have h2 := mP (g := g) (m := m) (c := c) (u := u) (k := k) (n := n) (ks := ks) (T := 83) (d := .tup [.arr 20 a, .v (ptr ga)]) h hu
 refine FnM.walk 24 Try.func12 rfl Try.ntmps12 (by simp) fun X => ?_
 repeat
  (first
   | (apply aA; iterate 3 rfl) | (apply aC; iterate 6 rfl) | (apply aY; iterate 7 rfl) | (apply aQ; iterate 5 rfl)
   | (apply aH; rfl; exact I.a; iterate 4 rfl) | (apply dA; iterate 7 rfl) | (apply aW; iterate 5 rfl) | (apply aK; iterate 3 rfl)
   | (apply bM; iterate 3 rfl) | (apply eU; iterate 4 rfl)
   | (apply cu; rfl; exact I.a; (focus (first | omega | (simp; done) | (simp; omega))); iterate 2 rfl)
   | (apply aJ; rfl; exact I.a; (focus (first | omega | (simp; done) | (simp; omega))); iterate 5 rfl)
   | (apply eH; rfl; exact saA; iterate 4 rfl) | (apply fO; rfl; rfl; rfl; intro _)
   | (apply bW; rfl; rfl; rfl; intro _) | ((with_reducible apply EK.h0); apply EK.round) | apply EL.nil
   | ((with_reducible apply EK.aZ); rfl)
   | (with_reducible first | apply EK.nc | apply EC.seq | apply EC.r0 | apply EC.k0 | apply EC.label | apply EC.b0 | apply EC.x0 | apply EC.ret | apply EK.n0 | apply EK.s0 | apply EK.aB | apply EK.au | apply EK.ah))
 refine EC.le (Le.pick [1, 2, 3, 4, 0] [_, _, _, _, _] rfl (by decide) rfl) ?_
 refine EC.iL 12 [0, 1, 2, 3, 4, 5, 7] [6, 8, 9, 10, 11] [_, _, _, _] _ (by kernel_rfl) (by kernel_rfl) rfl ?_
 simp only [bP, EY, Fb, EP, EU]
 repeat
  (first
   | (apply aS; iterate 3 rfl) | (apply aO; iterate 6 rfl) | (apply dD; iterate 7 rfl) | (apply bT; iterate 5 rfl)
   | (apply aU; rfl; exact I.a; iterate 4 rfl) | (apply bU; iterate 7 rfl) | (apply cO; iterate 5 rfl) | (apply aT; iterate 3 rfl)
   | (apply dB; iterate 3 rfl) | (apply dS; iterate 4 rfl)
   | (apply dP; rfl; exact I.a; (focus (first | omega | (simp; done) | (simp; omega))); iterate 2 rfl)
   | (apply bY; rfl; exact I.a; (focus (first | omega | (simp; done) | (simp; omega))); iterate 5 rfl) | (apply gB; iterate 3 rfl)
   | ((with_reducible apply EH.nil); rfl) | ((with_reducible apply EH.jf); rfl; intro _) | ((with_reducible apply EH.jF); rfl; intro _ _))
 refine EM.nil ?_
 repeat (first | rw [Ed] | rw [Ee])
 refine CH.cut 4 ?_
 simp only [Eh, Ep, Ef, Ej]
 repeat
  (first
   | (apply dn; exact hg; rfl; (first | exact I0 | exact I1 | exact I2 | exact I3); iterate 5 rfl) | (apply aS; iterate 3 rfl) | (apply aO; iterate 6 rfl)
   | (apply dD; iterate 7 rfl) | (apply bT; iterate 5 rfl) | (apply aU; rfl; exact I.a; iterate 4 rfl) | (apply bU; iterate 7 rfl)
   | (apply cO; iterate 5 rfl) | (apply aT; iterate 3 rfl) | (apply dB; iterate 3 rfl) | (apply dS; iterate 4 rfl)
   | (apply dP; rfl; exact I.a; (focus (first | omega | (simp; done) | (simp; omega))); iterate 2 rfl)
   | (apply bY; rfl; exact I.a; (focus (first | omega | (simp; done) | (simp; omega))); iterate 5 rfl) | (apply gB; iterate 3 rfl)
   | ((with_reducible apply EH.nil); rfl) | ((with_reducible apply EH.jf); rfl; intro _) | ((with_reducible apply EH.jF); rfl; intro _ _))
 refine EM.nil ?_
 repeat (first | rw [Ed] | rw [Ee])
 refine CH.iT (rest := []) h2 rfl rfl (ak.refl _ _) (by intro _ _; simp [go_sem]) rfl rfl ?_
 rintro _ _ ⟨u', rfl, rfl⟩
 try simp only [St.put]
 repeat (first | rw [Ed] | rw [Ee])
 refine CH.nil ?_
 try simp only [Ef, Ej]
 repeat
  (first
   | (apply aA; iterate 3 rfl) | (apply aC; iterate 6 rfl) | (apply aY; iterate 7 rfl) | (apply aQ; iterate 5 rfl)
   | (apply aH; rfl; exact I.a; iterate 4 rfl) | (apply dA; iterate 7 rfl) | (apply aW; iterate 5 rfl) | (apply aK; iterate 3 rfl)
   | (apply bM; iterate 3 rfl) | (apply eU; iterate 4 rfl)
   | (apply cu; rfl; exact I.a; (focus (first | omega | (simp; done) | (simp; omega))); iterate 2 rfl)
   | (apply aJ; rfl; exact I.a; (focus (first | omega | (simp; done) | (simp; omega))); iterate 5 rfl)
   | (apply eH; rfl; exact saA; iterate 4 rfl) | (apply fO; rfl; rfl; rfl; intro _)
   | (apply bW; rfl; rfl; rfl; intro _) | ((with_reducible apply EK.h0); apply EK.round) | apply EL.nil
   | ((with_reducible apply EK.aZ); rfl)
   | (with_reducible first | apply EK.nc | apply EC.seq | apply EC.r0 | apply EC.k0 | apply EC.label | apply EC.b0 | apply EC.x0 | apply EC.ret | apply EK.n0 | apply EK.s0 | apply EK.aB | apply EK.au | apply EK.ah))
 refine EC.iL 8 [0, 1, 2, 3, 4] [5, 6, 7] [] _ (by kernel_rfl) (by kernel_rfl) rfl ?_
 simp only [bP, EY, Fb, EP, EU]
 repeat
  (first
   | (apply aS; iterate 3 rfl) | (apply aO; iterate 6 rfl) | (apply dD; iterate 7 rfl) | (apply bT; iterate 5 rfl)
   | (apply aU; rfl; exact I.a; iterate 4 rfl) | (apply bU; iterate 7 rfl) | (apply cO; iterate 5 rfl) | (apply aT; iterate 3 rfl)
   | (apply dB; iterate 3 rfl) | (apply dS; iterate 4 rfl)
   | (apply dP; rfl; exact I.a; (focus (first | omega | (simp; done) | (simp; omega))); iterate 2 rfl)
   | (apply bY; rfl; exact I.a; (focus (first | omega | (simp; done) | (simp; omega))); iterate 5 rfl) | (apply gB; iterate 3 rfl)
   | ((with_reducible apply EH.nil); rfl) | ((with_reducible apply EH.jf); rfl; intro _) | ((with_reducible apply EH.jF); rfl; intro _ _))
 refine EM.nil ?_
 repeat (first | rw [Ed] | rw [Ee])
 refine CH.mut (os := []) (rest := []) rfl rfl (iE rfl rfl) ?_
 rintro _ _ ⟨gs', rfl, rfl⟩
 try simp only [St.put]
 repeat (first | rw [Ed] | rw [Ee])
 refine CH.cut 1 ?_
 simp only [Eh, Ep, Ef, Ej]
 repeat
  (first
   | (apply aS; iterate 3 rfl) | (apply aO; iterate 6 rfl) | (apply dD; iterate 7 rfl) | (apply bT; iterate 5 rfl)
   | (apply aU; rfl; exact I.a; iterate 4 rfl) | (apply bU; iterate 7 rfl) | (apply cO; iterate 5 rfl) | (apply aT; iterate 3 rfl)
   | (apply dB; iterate 3 rfl) | (apply dS; iterate 4 rfl)
   | (apply dP; rfl; exact I.a; (focus (first | omega | (simp; done) | (simp; omega))); iterate 2 rfl)
   | (apply bY; rfl; exact I.a; (focus (first | omega | (simp; done) | (simp; omega))); iterate 5 rfl) | (apply gB; iterate 3 rfl)
   | ((with_reducible apply EH.nil); rfl) | ((with_reducible apply EH.jf); rfl; intro _) | ((with_reducible apply EH.jF); rfl; intro _ _))
 refine EM.nil ?_
 repeat (first | rw [Ed] | rw [Ee])
 refine CH.mut (os := []) (rest := [_]) rfl rfl (sW rfl rfl) ?_
 rintro _ _ ⟨ga', rfl, rfl⟩
 try simp only [St.put]
 repeat (first | rw [Ed] | rw [Ee])
 refine CH.nil ?_
 try simp only [Ef, Ej]
 repeat
  (first
   | (apply aA; iterate 3 rfl) | (apply aC; iterate 6 rfl) | (apply aY; iterate 7 rfl) | (apply aQ; iterate 5 rfl)
   | (apply aH; rfl; exact I.a; iterate 4 rfl) | (apply dA; iterate 7 rfl) | (apply aW; iterate 5 rfl) | (apply aK; iterate 3 rfl)
   | (apply bM; iterate 3 rfl) | (apply eU; iterate 4 rfl)
   | (apply cu; rfl; exact I.a; (focus (first | omega | (simp; done) | (simp; omega))); iterate 2 rfl)
   | (apply aJ; rfl; exact I.a; (focus (first | omega | (simp; done) | (simp; omega))); iterate 5 rfl)
   | (apply eH; rfl; exact saA; iterate 4 rfl) | (apply fO; rfl; rfl; rfl; intro _)
   | (apply bW; rfl; rfl; rfl; intro _) | ((with_reducible apply EK.h0); apply EK.round) | apply EL.nil
   | ((with_reducible apply EK.aZ); rfl)
   | (with_reducible first | apply EK.nc | apply EC.seq | apply EC.r0 | apply EC.k0 | apply EC.label | apply EC.b0 | apply EC.x0 | apply EC.ret | apply EK.n0 | apply EK.s0 | apply EK.aB | apply EK.au | apply EK.ah))
 refine EK.le (Le.yJ (d' := .tup [.v (.int .i64 0), .arr 32 zero32, .bs [], .v (.map (some gs'))]) ?_) ?_
 · exact Rf.tup (RL.cons Rf.same (RL.cons Rf.same (RL.cons Rf.bs0 (RL.cons Rf.same RL.nil))))
 refine EK.le (Le.pick [2, 3, 4, 5, 0, 1, 6] [_, _, _, _, _, _, _] rfl (by decide) rfl) ?_
 exact EK.iI [stO g m u' k n, smO m (bn c es a) (bG c es a (.v (ptr ga'))), unO u' (fG ks us (l9 a (ptr ga))), mkO k ks, acO ga' 0 zero32 [] (.map (some gs')), .map gs' 32 0 []] rfl (by (repeat first | exact Em _ | apply List.Sublist.cons_cons | apply List.Sublist.cons)) ⟨rfl, u', ga', gs', rfl⟩
theorem zi (h : aN es a = none) (hu : us.length < 1099511627776) : FnM 12 [.v (ptr g), .arr 20 a] [stO g m u k n, smO m c es, unO u us, mkO k ks] (fun r os' => r = .tpl [] ∧ ∃ u' ga ga' gs', os' = [stO g m u' k n, smO m (bn (bn c es a) (bG c es a (.v (ptr ga))) a) (bG (bn c es a) (bG c es a (.v (ptr ga))) a (.v (ptr ga'))), unO u' (fG ks us (l9 a (.pointer none))), mkO k ks, acO ga' 0 zero32 [] (.map (some gs')), .map gs' 32 0 []]) := by
 have hg : (aN es a).getD (.v (.pointer none)) = .v (.pointer none) := by rw [h]; rfl
 have h2 := lC (g := g) (m := m) (c := c) (u := u) (k := k) (n := n) (ks := ks) (T := 83) (d := .tup [.arr 20 a, .v (.pointer none)]) h hu
 refine FnM.walk 24 Try.func12 rfl Try.ntmps12 (by simp) fun X => ?_
 repeat
  (first
   | (apply aA; iterate 3 rfl) | (apply aC; iterate 6 rfl) | (apply aY; iterate 7 rfl) | (apply aQ; iterate 5 rfl)
   | (apply aH; rfl; exact I.a; iterate 4 rfl) | (apply dA; iterate 7 rfl) | (apply aW; iterate 5 rfl) | (apply aK; iterate 3 rfl)
   | (apply bM; iterate 3 rfl) | (apply eU; iterate 4 rfl)
   | (apply cu; rfl; exact I.a; (focus (first | omega | (simp; done) | (simp; omega))); iterate 2 rfl)
   | (apply aJ; rfl; exact I.a; (focus (first | omega | (simp; done) | (simp; omega))); iterate 5 rfl)
   | (apply eH; rfl; exact saA; iterate 4 rfl) | (apply fO; rfl; rfl; rfl; intro _)
   | (apply bW; rfl; rfl; rfl; intro _) | ((with_reducible apply EK.h0); apply EK.round) | apply EL.nil
   | ((with_reducible apply EK.aZ); rfl)
   | (with_reducible first | apply EK.nc | apply EC.seq | apply EC.r0 | apply EC.k0 | apply EC.label | apply EC.b0 | apply EC.x0 | apply EC.ret | apply EK.n0 | apply EK.s0 | apply EK.aB | apply EK.au | apply EK.ah))
 refine EC.le (Le.pick [1, 2, 3, 4, 0] [_, _, _, _, _] rfl (by decide) rfl) ?_
 refine EC.iL 12 [0, 1, 2, 3, 4, 5, 7] [6, 8, 9, 10, 11] [_, _, _, _] _ (by kernel_rfl) (by kernel_rfl) rfl ?_
 simp only [bP, EY, Fb, EP, EU]
 repeat
  (first
   | (apply aS; iterate 3 rfl) | (apply aO; iterate 6 rfl) | (apply dD; iterate 7 rfl) | (apply bT; iterate 5 rfl)
   | (apply aU; rfl; exact I.a; iterate 4 rfl) | (apply bU; iterate 7 rfl) | (apply cO; iterate 5 rfl) | (apply aT; iterate 3 rfl)
   | (apply dB; iterate 3 rfl) | (apply dS; iterate 4 rfl)
   | (apply dP; rfl; exact I.a; (focus (first | omega | (simp; done) | (simp; omega))); iterate 2 rfl)
   | (apply bY; rfl; exact I.a; (focus (first | omega | (simp; done) | (simp; omega))); iterate 5 rfl) | (apply gB; iterate 3 rfl)
   | ((with_reducible apply EH.nil); rfl) | ((with_reducible apply EH.jf); rfl; intro _) | ((with_reducible apply EH.jF); rfl; intro _ _))
 refine EM.nil ?_
 repeat (first | rw [Ed] | rw [Ee])
 refine CH.cut 4 ?_
 simp only [Eh, Ep, Ef, Ej]
 repeat
  (first
   | (apply dn; exact hg; rfl; (first | exact I0 | exact I1 | exact I2 | exact I3); iterate 5 rfl) | (apply aS; iterate 3 rfl) | (apply aO; iterate 6 rfl)
   | (apply dD; iterate 7 rfl) | (apply bT; iterate 5 rfl) | (apply aU; rfl; exact I.a; iterate 4 rfl) | (apply bU; iterate 7 rfl)
   | (apply cO; iterate 5 rfl) | (apply aT; iterate 3 rfl) | (apply dB; iterate 3 rfl) | (apply dS; iterate 4 rfl)
   | (apply dP; rfl; exact I.a; (focus (first | omega | (simp; done) | (simp; omega))); iterate 2 rfl)
   | (apply bY; rfl; exact I.a; (focus (first | omega | (simp; done) | (simp; omega))); iterate 5 rfl) | (apply gB; iterate 3 rfl)
   | ((with_reducible apply EH.nil); rfl) | ((with_reducible apply EH.jf); rfl; intro _) | ((with_reducible apply EH.jF); rfl; intro _ _))
 refine EM.nil ?_
 repeat (first | rw [Ed] | rw [Ee])
 refine CH.iT (rest := []) h2 rfl rfl (ak.refl _ _) (by intro _ _; simp [go_sem]) rfl rfl ?_
 rintro _ _ ⟨u', ga, gs, rfl, rfl⟩
 try simp only [St.put]
 repeat (first | rw [Ed] | rw [Ee])
 refine CH.nil ?_
 try simp only [Ef, Ej]
 repeat
  (first
   | (apply aA; iterate 3 rfl) | (apply aC; iterate 6 rfl) | (apply aY; iterate 7 rfl) | (apply aQ; iterate 5 rfl)
   | (apply aH; rfl; exact I.a; iterate 4 rfl) | (apply dA; iterate 7 rfl) | (apply aW; iterate 5 rfl) | (apply aK; iterate 3 rfl)
   | (apply bM; iterate 3 rfl) | (apply eU; iterate 4 rfl)
   | (apply cu; rfl; exact I.a; (focus (first | omega | (simp; done) | (simp; omega))); iterate 2 rfl)
   | (apply aJ; rfl; exact I.a; (focus (first | omega | (simp; done) | (simp; omega))); iterate 5 rfl)
   | (apply eH; rfl; exact saA; iterate 4 rfl) | (apply fO; rfl; rfl; rfl; intro _)
   | (apply bW; rfl; rfl; rfl; intro _) | ((with_reducible apply EK.h0); apply EK.round) | apply EL.nil
   | ((with_reducible apply EK.aZ); rfl)
   | (with_reducible first | apply EK.nc | apply EC.seq | apply EC.r0 | apply EC.k0 | apply EC.label | apply EC.b0 | apply EC.x0 | apply EC.ret | apply EK.n0 | apply EK.s0 | apply EK.aB | apply EK.au | apply EK.ah))
 refine EC.le (Le.pick [2, 3, 4, 5, 6, 0, 1] [_, _, _, _, _, _, _] rfl (by decide) rfl) ?_
 refine EC.iL 8 [0, 1, 2, 3, 4] [5, 6, 7] [] _ (by kernel_rfl) (by kernel_rfl) rfl ?_
 simp only [bP, EY, Fb, EP, EU]
 repeat
  (first
   | (apply aS; iterate 3 rfl) | (apply aO; iterate 6 rfl) | (apply dD; iterate 7 rfl) | (apply bT; iterate 5 rfl)
   | (apply aU; rfl; exact I.a; iterate 4 rfl) | (apply bU; iterate 7 rfl) | (apply cO; iterate 5 rfl) | (apply aT; iterate 3 rfl)
   | (apply dB; iterate 3 rfl) | (apply dS; iterate 4 rfl)
   | (apply dP; rfl; exact I.a; (focus (first | omega | (simp; done) | (simp; omega))); iterate 2 rfl)
   | (apply bY; rfl; exact I.a; (focus (first | omega | (simp; done) | (simp; omega))); iterate 5 rfl) | (apply gB; iterate 3 rfl)
   | ((with_reducible apply EH.nil); rfl) | ((with_reducible apply EH.jf); rfl; intro _) | ((with_reducible apply EH.jF); rfl; intro _ _))
 refine EM.nil ?_
 repeat (first | rw [Ed] | rw [Ee])
 refine CH.mut (os := []) (rest := []) rfl rfl (iE rfl rfl) ?_
 rintro _ _ ⟨gs', rfl, rfl⟩
 try simp only [St.put]
 repeat (first | rw [Ed] | rw [Ee])
 refine CH.cut 1 ?_
 simp only [Eh, Ep, Ef, Ej]
 repeat
  (first
   | (apply aS; iterate 3 rfl) | (apply aO; iterate 6 rfl) | (apply dD; iterate 7 rfl) | (apply bT; iterate 5 rfl)
   | (apply aU; rfl; exact I.a; iterate 4 rfl) | (apply bU; iterate 7 rfl) | (apply cO; iterate 5 rfl) | (apply aT; iterate 3 rfl)
   | (apply dB; iterate 3 rfl) | (apply dS; iterate 4 rfl)
   | (apply dP; rfl; exact I.a; (focus (first | omega | (simp; done) | (simp; omega))); iterate 2 rfl)
   | (apply bY; rfl; exact I.a; (focus (first | omega | (simp; done) | (simp; omega))); iterate 5 rfl) | (apply gB; iterate 3 rfl)
   | ((with_reducible apply EH.nil); rfl) | ((with_reducible apply EH.jf); rfl; intro _) | ((with_reducible apply EH.jF); rfl; intro _ _))
 refine EM.nil ?_
 repeat (first | rw [Ed] | rw [Ee])
 refine CH.mut (os := []) (rest := [_]) rfl rfl (sW rfl rfl) ?_
 rintro _ _ ⟨ga', rfl, rfl⟩
 try simp only [St.put]
 repeat (first | rw [Ed] | rw [Ee])
 refine CH.nil ?_
 try simp only [Ef, Ej]
 repeat
  (first
   | (apply aA; iterate 3 rfl) | (apply aC; iterate 6 rfl) | (apply aY; iterate 7 rfl) | (apply aQ; iterate 5 rfl)
   | (apply aH; rfl; exact I.a; iterate 4 rfl) | (apply dA; iterate 7 rfl) | (apply aW; iterate 5 rfl) | (apply aK; iterate 3 rfl)
   | (apply bM; iterate 3 rfl) | (apply eU; iterate 4 rfl)
   | (apply cu; rfl; exact I.a; (focus (first | omega | (simp; done) | (simp; omega))); iterate 2 rfl)
   | (apply aJ; rfl; exact I.a; (focus (first | omega | (simp; done) | (simp; omega))); iterate 5 rfl)
   | (apply eH; rfl; exact saA; iterate 4 rfl) | (apply fO; rfl; rfl; rfl; intro _)
   | (apply bW; rfl; rfl; rfl; intro _) | ((with_reducible apply EK.h0); apply EK.round) | apply EL.nil
   | ((with_reducible apply EK.aZ); rfl)
   | (with_reducible first | apply EK.nc | apply EC.seq | apply EC.r0 | apply EC.k0 | apply EC.label | apply EC.b0 | apply EC.x0 | apply EC.ret | apply EK.n0 | apply EK.s0 | apply EK.aB | apply EK.au | apply EK.ah))
 refine EK.le (Le.yJ (d' := .tup [.v (.int .i64 0), .arr 32 zero32, .bs [], .v (.map (some gs'))]) ?_) ?_
 · exact Rf.tup (RL.cons Rf.same (RL.cons Rf.same (RL.cons Rf.bs0 (RL.cons Rf.same RL.nil))))
 refine EK.le (Le.pick [2, 3, 4, 5, 0, 1, 6, 7, 8] [_, _, _, _, _, _, _, _, _] rfl (by decide) rfl) ?_
 exact EK.iI [stO g m u' k n, smO m (bn (bn c es a) (bG c es a (.v (ptr ga))) a) (bG (bn c es a) (bG c es a (.v (ptr ga))) a (.v (ptr ga'))), unO u' (fG ks us (l9 a (.pointer none))), mkO k ks, acO ga' 0 zero32 [] (.map (some gs')), .map gs' 32 0 []] rfl (by (repeat first | exact Em _ | apply List.Sublist.cons_cons | apply List.Sublist.cons)) ⟨rfl, u', ga, ga', gs', rfl⟩
end
structure Ac where
 n : Int
 w : List UInt8
 cd : List UInt8
 sl : List UInt8 → List UInt8
def Ac.zero : Ac := ⟨0, zero32, [], fun _ => zero32⟩
abbrev As := List UInt8 → Ac
def As.upd (A : As) (a : List UInt8) (x : Ac) : As := fun b => if a = b then x else A b
structure PA where
 g : Nat
 n : Int
 w : List UInt8
 cd : List UInt8
 gs : Nat
 sc : Nat
 ss : List Ent
def PA.os (p : PA) : List Obj := [acO p.g p.n p.w p.cd (.map (some p.gs)), .map p.gs 32 p.sc p.ss]
structure PA.Is (p : PA) (x : Ac) (N : Nat) : Prop where
 n : p.n = x.n
 w : p.w = x.w
 cd : p.cd = x.cd
 sl : ∀ k, slE p.ss k = .arr 32 (x.sl k)
 ent : ∀ e ∈ p.ss, ∃ v, e.2.2 = .arr 32 v ∧ v ≠ zero32
 nod : (p.ss.map (·.2.1)).Nodup
 len : p.ss.length ≤ N
 cl : p.cd.length ≤ 140737488355328
structure gZ (es : List Ent) (ps : List PA) (A : As) (N : Nat) : Prop where
 out : ∀ a, aN es a = none → A a = Ac.zero
 inn : ∀ a d, aN es a = some d → ∃ p ∈ ps, d = .v (ptr p.g) ∧ p.Is (A a) N
 inj : ∀ a b d, aN es a = some d → aN es b = some d → a = b
 nod : (es.map (·.2.1)).Nodup
 len : es.length ≤ N
def psO (g m c : Nat) (es : List Ent) (u k : Value) (n : Int) (us : List D) (ps : List PA) : List Obj := [stO g m u k n, smO m c es, unO u us, mkO k []] ++ ps.flatMap PA.os
def PSt (g : Nat) (A : As) (N : Nat) (os : List Obj) : Prop := ∃ m c es u k n us ps, os = psO g m c es u k n us ps ∧ gZ es ps A N ∧ us.length < 1099511627776
theorem kK (ps1 ps2 : List PA) (p : PA) : ((ps1 ++ p :: ps2).flatMap PA.os).Perm (p.os ++ (ps1 ++ ps2).flatMap PA.os) := by
 rw [List.flatMap_append, FX, List.flatMap_append, ← Ey, ← Ey]
 exact Gx _ Fj
theorem FnM.lift {f : FuncId} {ds : List D} {hdr : List Obj} {p : PA} {Ψ : R → List Obj → PA → Prop} (ps1 ps2 : List PA) (h : FnM f ds (hdr ++ p.os) (fun r os' => ∃ hdr' p', Ψ r hdr' p' ∧ os' = hdr' ++ p'.os)) : FnM f ds (hdr ++ (ps1 ++ p :: ps2).flatMap PA.os) (fun r os' => ∃ hdr' p', Ψ r hdr' p' ∧ os' = hdr' ++ (ps1 ++ p' :: ps2).flatMap PA.os) := by
 have h1 := (h.frame ((ps1 ++ ps2).flatMap PA.os)).perm (os2 := hdr ++ (ps1 ++ p :: ps2).flatMap PA.os) (by
  rw [Ey]
  exact GK _ (kK ps1 ps2 p).symm)
 refine FnM.out h1 ?_
 rintro r _ ⟨_, ⟨hdr', p', hΨ, rfl⟩, rfl⟩
 refine ⟨_, ?_, hdr', p', hΨ, rfl⟩
 rw [Ey]
 exact GK _ (kK ps1 ps2 p').symm
theorem FnM.apart {f : FuncId} {ds : List D} {os : List Obj} {Φ : R → List Obj → Prop} (h : FnM f ds os Φ) : FnM f ds os (fun r os' => Φ r os' ∧ Apart os') := ⟨fun ok w xs h1 h2 h3 => (h.go ok w xs h1 h2 h3).mono fun e w' ⟨v, r, os', e1, e2, e3, e4⟩ => ⟨v, r, os', e1, ⟨e2, e3.apart⟩, e3, e4⟩⟩
theorem dI (c : Nat) (es : List Ent) (l : List UInt8) (d : D) : (bG c es l d).length ≤ es.length + 1 := by
 unfold bG
 split
 ·
  have := congrArg List.length (iZ es l d)
  simp at this
  omega
 · simp
theorem dL (c : Nat) (es : List Ent) (l : List UInt8) (d : D) (h : (es.map (·.2.1)).Nodup) : ((bG c es l d).map (·.2.1)).Nodup := by
 unfold bG
 cases hh : jo es l
 ·
  rw [if_neg (by simp), FI]
  have hn : l ∉ es.map (·.2.1) := by
   rw [jR] at hh
   exact (gI es l).1 (by simpa using hh)
  refine GH.2 ⟨h, by simp, fun x hx y hy => ?_⟩
  obtain rfl : y = l := by simpa using hy
  exact fun e => hn (e ▸ hx)
 ·
  rw [if_pos rfl, iZ]
  exact h
variable {es es' : List Ent} {ps ps1 ps2 : List PA} {A : As} {N : Nat} {a : List UInt8} {p p' : PA} {x : Ac}
theorem gZ.turned (h : gZ es (ps1 ++ p :: ps2) A N) (ha : aN es a = some (.v (ptr p.g))) (hg : p'.g = p.g) (hx : p'.Is x (N + 1)) : gZ es (ps1 ++ p' :: ps2) (A.upd a x) (N + 1) := by
 refine ⟨fun b hb => ?_, fun b d hb => ?_, h.inj, h.nod, Gp h.len⟩
 ·
  unfold As.upd
  rw [if_neg fun e => by rw [← e, ha] at hb; cases hb]
  exact h.out b hb
 ·
  unfold As.upd
  by_cases e : a = b
  ·
   subst e
   rw [if_pos rfl]
   rw [ha] at hb
   cases hb
   exact ⟨p', by simp, by rw [hg], hx⟩
  ·
   rw [if_neg e]
   obtain ⟨q, hq, rfl, hi⟩ := h.inn b d hb
   have hne : q.g ≠ p.g := fun e' => e (h.inj a b _ ha (by rw [hb, e']))
   refine ⟨q, ?_, rfl, ⟨hi.n, hi.w, hi.cd, hi.sl, hi.ent, hi.nod, Gp hi.len, hi.cl⟩⟩
   rcases EZ.1 hq with hq | hq
   · exact EF _ hq
   ·
    rcases Es.1 hq with rfl | hq
    · exact absurd rfl hne
    · exact EN _ (List.mem_cons_of_mem _ hq)
theorem gZ.fresh (h : gZ es ps A N) (hes : ∀ b, aN es' b = if a = b then some (.v (ptr p'.g)) else aN es b) (hn : (es'.map (·.2.1)).Nodup) (hl : es'.length ≤ N + 1) (hx : p'.Is x (N + 1)) (hnew : ∀ q ∈ ps, q.g ≠ p'.g) : gZ es' (p' :: ps) (A.upd a x) (N + 1) := by
 refine ⟨fun b hb => ?_, fun b d hb => ?_, fun b b' d hb hb' => ?_, hn, hl⟩
 ·
  rw [hes] at hb
  unfold As.upd
  by_cases e : a = b
  ·
   rw [if_pos e] at hb
   cases hb
  ·
   rw [if_neg e] at hb ⊢
   exact h.out b hb
 ·
  rw [hes] at hb
  unfold As.upd
  by_cases e : a = b
  ·
   rw [if_pos e] at hb ⊢
   cases hb
   exact ⟨p', by simp, rfl, hx⟩
  ·
   rw [if_neg e] at hb ⊢
   obtain ⟨q, hq, rfl, hi⟩ := h.inn b d hb
   exact ⟨q, List.mem_cons_of_mem _ hq, rfl, ⟨hi.n, hi.w, hi.cd, hi.sl, hi.ent, hi.nod, Gp hi.len, hi.cl⟩⟩
 ·
  rw [hes] at hb hb'
  by_cases e : a = b
  ·
   rw [if_pos e] at hb
   cases hb
   by_cases e' : a = b'
   · rw [← e, ← e']
   ·
    rw [if_neg e'] at hb'
    obtain ⟨q, hq, hd, _⟩ := h.inn b' _ hb'
    have : q.g = p'.g := by simp at hd; exact hd.symm
    exact absurd this (hnew q hq)
  ·
   rw [if_neg e] at hb
   by_cases e' : a = b'
   ·
    rw [if_pos e'] at hb'
    cases hb'
    obtain ⟨q, hq, hd, _⟩ := h.inn b _ hb
    have : q.g = p'.g := by simp at hd; exact hd.symm
    exact absurd this (hnew q hq)
   ·
    rw [if_neg e'] at hb'
    exact h.inj b b' d hb hb'
theorem ji {hdr : List Obj} (h : Apart (hdr ++ p'.os ++ ps.flatMap PA.os)) : ∀ q ∈ ps, q.g ≠ p'.g := fun q hq e => by
 rw [Ey] at h
 have h1 := (Fg.1 h).2.1
 have h2 := (Fg.1 h1).2.2 (acO p'.g p'.n p'.w p'.cd (.map (some p'.gs))) (by simp [PA.os]) (acO q.g q.n q.w q.cd (.map (some q.gs))) (List.mem_flatMap.2 ⟨q, hq, by simp [PA.os]⟩) p'.g rfl
 exact h2 (by simp [Obj.blk, e])
end E
end Go.Proofs.Ytkhjanjlcdhdcaa
namespace Go.Proofs.Ytkhjanjlcdhdcaa
set_option linter.unusedVariables false
open Go.RowKit Mono Rlp Wd
namespace E
theorem sS : ∀ (es : List Ent) (l : List UInt8) (d : D) (e : Ent), e ∈ jE es l d → e ∈ es ∨ e.2.2 = d
 | [], l, d, e, h => by simp [jE] at h
 | x :: es, l, d, e, h => by
  rw [jE] at h
  split at h
  ·
   rcases Es.1 h with rfl | h
   · exact .inr rfl
   · exact .inl (List.mem_cons_of_mem _ h)
  ·
   rcases Es.1 h with rfl | h
   · exact .inl (Et ..)
   · exact (sS es l d e h).imp (List.mem_cons_of_mem _) id
theorem lN (c : Nat) (es : List Ent) (l : List UInt8) (d : D) (e : Ent) (h : e ∈ bG c es l d) : e ∈ es ∨ e.2.2 = d := by
 unfold bG at h
 split at h
 · exact sS es l d e h
 ·
  rcases EZ.1 h with h | h
  · exact .inl h
  ·
   obtain rfl : e = _ := by simpa using h
   exact .inr rfl
theorem nP (c : Nat) (ss : List Ent) (q v k : List UInt8) : slE (bG c ss q (.arr 32 v)) k = if q = k then .arr 32 v else slE ss k := by
 unfold slE
 rw [bQ]
 split <;> rfl
theorem qL (ss : List Ent) (q k : List UInt8) (h : (ss.map (·.2.1)).Nodup) : slE (fV ss q) k = if q = k then .arr 32 zero32 else slE ss k := by
 unfold slE
 rw [mM _ _ _ h]
 split <;> rfl
theorem iR (es : List Ent) (l : List UInt8) : (fV es l).length ≤ es.length := (eG es l).length_le
variable {g N : Nat} {A : As} {os : List Obj} {a : List UInt8}
theorem PA.Is.up {p : PA} {x : Ac} (h : p.Is x N) : p.Is x (N + 1) := ⟨h.n, h.w, h.cd, h.sl, h.ent, h.nod, Gp h.len, h.cl⟩
def Ac.slot (x : Ac) (q v : List UInt8) : Ac := {x with sl := fun k => if q = k then v else x.sl k}
end E
end Go.Proofs.Ytkhjanjlcdhdcaa
namespace Go.Proofs.Ytkhjanjlcdhdcaa
set_option linter.unusedVariables false
set_option maxRecDepth 20000
set_option maxHeartbeats 8000000
open Go.RowKit Mono Rlp Wd
namespace E
def PA.empty (p : PA) : Bool := decide (p.n = 0) && (p.w == zero32) && p.cd.isEmpty && p.ss.isEmpty
theorem PA.Is.yx {p : PA} {x : Ac} {N : Nat} (h : p.Is x N) : p.empty = true ↔ x = Ac.zero := by
 unfold PA.empty
 rw [h.n, h.w, h.cd]
 simp only [FD, decide_eq_true_eq, beq_iff_eq, List.isEmpty_iff]
 constructor
 ·
  rintro ⟨⟨⟨h1, h2⟩, h3⟩, h4⟩
  have h5 : x.sl = fun _ => zero32 := funext fun k => by
   have := h.sl k
   rw [h4] at this
   have h6 : slE [] k = .arr 32 zero32 := rfl
   rw [h6] at this
   simpa using this.symm
  cases x
  simp only [Ac.zero, Ac.mk.injEq]
  exact ⟨h1, h2, h3, h5⟩
 ·
  rintro rfl
  refine ⟨⟨⟨rfl, rfl⟩, rfl⟩, ?_⟩
  cases hs : p.ss with
  | nil => rfl
  | cons e ss =>
   exfalso
   obtain ⟨v, hv, hne⟩ := h.ent e (by rw [hs]; exact Et ..)
   have := h.sl e.2.1
   rw [hs] at this
   have h6 : slE (e :: ss) e.2.1 = .arr 32 v := by
    unfold slE
    rw [aN, if_pos (by simp), hv]
    rfl
   rw [h6] at this
   apply hne
   simpa [Ac.zero] using this
theorem empty_ (p : PA) : FnM 22 [.v (ptr p.g)] p.os (fun r os' => r = .val (.v (.bool p.empty)) ∧ os' = p.os) := by
 obtain ⟨g, n, w, cd, gs, sc, ss⟩ := p
 have hz := (lY w zero32).1
 unfold PA.empty PA.os
 dsimp only
 refine FnM.walk 32 Try.func22 rfl Try.ntmps22 (by simp) fun X => ?_
 by_cases h1 : n = 0
 ·
  by_cases h2 : (w == zero32) = true
  ·
   rw [h2] at hz
   by_cases h3 : cd = []
   ·
    by_cases h4 : ss = []
    ·
     subst h3
     subst h4
     rw [h2]
     subst h1
     repeat
      (first
       | (apply gX; (iterate 2 rfl); exact hz; iterate 2 rfl) | (apply aA; iterate 3 rfl) | (apply ay; iterate 3 rfl) | (apply aC; iterate 6 rfl)
       | (apply dQ; iterate 4 rfl) | (apply aH; rfl; exact I.a; iterate 4 rfl) | (apply aG (b := true); (iterate 2 rfl); exact bg; iterate 2 rfl)
       | (apply iy; iterate 4 rfl) | (apply aW; iterate 5 rfl) | (apply aK; iterate 3 rfl) | (apply gW; rfl; exact I.a; iterate 3 rfl) | apply EL.nil
       | (with_reducible first | apply EK.nc | apply EC.seq | apply EC.r0 | apply EC.k0 | apply EC.label | apply EC.b0 | apply EC.x0 | apply EC.ret | apply EK.n0 | apply EK.s0 | apply EK.aB | apply EK.au | apply EK.ah))
     exact EK.bH [acO g 0 w [] (.map (some gs)), .map gs 32 sc []] rfl rfl (by (repeat first | exact Em _ | apply List.Sublist.cons_cons | apply List.Sublist.cons)) ⟨rfl, rfl⟩
    ·
     subst h3
     have h5 : ss.isEmpty = false := by cases ss with | nil => exact absurd rfl h4 | cons _ _ => rfl
     rw [h2, h5]
     subst h1
     repeat
      (first
       | (apply gX; (iterate 2 rfl); exact hz; iterate 2 rfl) | (apply aA; iterate 3 rfl) | (apply ay; iterate 3 rfl) | (apply aC; iterate 6 rfl)
       | (apply dQ; iterate 4 rfl) | (apply aH; rfl; exact I.a; iterate 4 rfl) | (apply aG (b := true); (iterate 2 rfl); exact bg; iterate 2 rfl)
       | (apply aG (b := false); (iterate 2 rfl); exact bg; iterate 2 rfl) | (apply iy; iterate 4 rfl) | (apply aW; iterate 5 rfl)
       | (apply aK; iterate 3 rfl) | (apply gW; rfl; exact I.a; iterate 3 rfl) | apply EL.nil
       | (with_reducible first | apply EK.nc | apply EC.seq | apply EC.r0 | apply EC.k0 | apply EC.label | apply EC.b0 | apply EC.x0 | apply EC.ret | apply EK.n0 | apply EK.s0 | apply EK.aB | apply EK.au | apply EK.ah))
     exact EK.bH [acO g 0 w [] (.map (some gs)), .map gs 32 sc ss] rfl rfl (by (repeat first | exact Em _ | apply List.Sublist.cons_cons | apply List.Sublist.cons)) ⟨rfl, rfl⟩
   ·
    have h5 : cd.isEmpty = false := by cases cd with | nil => exact absurd rfl h3 | cons _ _ => rfl
    rw [h2, h5]
    subst h1
    repeat
     (first
      | (apply gQ; iterate 2 rfl) | (apply gX; (iterate 2 rfl); exact hz; iterate 2 rfl) | (apply aA; iterate 3 rfl) | (apply ay; iterate 3 rfl)
      | (apply aC; iterate 6 rfl) | (apply dQ; iterate 4 rfl) | (apply aH; rfl; exact I.a; iterate 4 rfl)
      | (apply aG (b := true); (iterate 2 rfl); exact bg; iterate 2 rfl) | (apply aG (b := false); (iterate 2 rfl); exact bg; iterate 2 rfl)
      | (apply iy; iterate 4 rfl) | (apply aW; iterate 5 rfl) | (apply aK; iterate 3 rfl) | apply EL.nil
      | (with_reducible first | apply EK.nc | apply EC.seq | apply EC.r0 | apply EC.k0 | apply EC.label | apply EC.b0 | apply EC.x0 | apply EC.ret | apply EK.n0 | apply EK.s0 | apply EK.aB | apply EK.au | apply EK.ah))
    exact EK.bH [acO g 0 w cd (.map (some gs)), .map gs 32 sc ss] rfl rfl (by (repeat first | exact Em _ | apply List.Sublist.cons_cons | apply List.Sublist.cons)) ⟨rfl, rfl⟩
  ·
   have h2 : (w == zero32) = false := by simpa using h2
   rw [h2] at hz ⊢
   subst h1
   repeat
    (first
     | (apply gQ; iterate 2 rfl) | (apply gX; (iterate 2 rfl); exact hz; iterate 2 rfl) | (apply aA; iterate 3 rfl) | (apply ay; iterate 3 rfl)
     | (apply aC; iterate 6 rfl) | (apply dQ; iterate 4 rfl) | (apply aH; rfl; exact I.a; iterate 4 rfl)
     | (apply aG (b := true); (iterate 2 rfl); exact bg; iterate 2 rfl) | (apply aW; iterate 5 rfl) | (apply aK; iterate 3 rfl) | apply EL.nil
     | (with_reducible first | apply EK.nc | apply EC.seq | apply EC.r0 | apply EC.k0 | apply EC.label | apply EC.b0 | apply EC.x0 | apply EC.ret | apply EK.n0 | apply EK.s0 | apply EK.aB | apply EK.au | apply EK.ah))
   exact EK.bH [acO g 0 w cd (.map (some gs)), .map gs 32 sc ss] rfl rfl (by (repeat first | exact Em _ | apply List.Sublist.cons_cons | apply List.Sublist.cons)) ⟨rfl, rfl⟩
 ·
  have h5 : decide (n = 0) = false := by simp [h1]
  rw [h5]
  repeat
   (first
    | (apply gQ; iterate 2 rfl) | (apply aA; iterate 3 rfl) | (apply ay; iterate 3 rfl) | (apply aC; iterate 6 rfl) | (apply dQ; iterate 4 rfl)
    | (apply aH; rfl; exact I.a; iterate 4 rfl) | (apply aG (b := false); (iterate 2 rfl); exact bg; iterate 2 rfl) | (apply aK; iterate 3 rfl)
    | apply EL.nil
    | (with_reducible first | apply EK.nc | apply EC.seq | apply EC.r0 | apply EC.k0 | apply EC.label | apply EC.b0 | apply EC.x0 | apply EC.ret | apply EK.n0 | apply EK.s0 | apply EK.aB | apply EK.au | apply EK.ah))
  exact EK.bH [acO g n w cd (.map (some gs)), .map gs 32 sc ss] rfl rfl (by (repeat first | exact Em _ | apply List.Sublist.cons_cons | apply List.Sublist.cons)) ⟨rfl, rfl⟩
end E
end Go.Proofs.Ytkhjanjlcdhdcaa
