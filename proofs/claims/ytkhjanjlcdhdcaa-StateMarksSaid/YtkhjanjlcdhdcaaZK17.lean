/-
 Merged: lemmas of this claim.
 Conditions: none.
-/
import Derived.Test.YtkhjanjlcdhdcaaZK16
import Derived.Test.YtkhjanjlcdhdcaaZK11
import Derived.Test.YtkhjanjlcdhdcaaZK12
import Derived.Test.YtkhjanjlcdhdcaaZK0
namespace Go.Proofs.Ytkhjanjlcdhdcaa
set_option linter.unusedVariables false
set_option maxRecDepth 20000
set_option maxHeartbeats 4000000
open Go.RowKit Mono Rlp Wd
namespace E
section
variable {g m c ga gs sc : Nat} {u k : Value} {n b : Int} {es ss : List Ent} {a w cd q v : List UInt8}
theorem Ad {ss' : List Ent} {sc' : Nat} (h : aN es a = some (.v (ptr ga))) (hs : FnM 17 [.v (ptr ga), .arr 32 q, .arr 32 v] [acO ga b w cd (.map (some gs)), .map gs 32 sc ss] (fun r os' => r = .tpl [] ∧ os' = [acO ga b w cd (.map (some gs)), .map gs 32 sc' ss'])) : FnM 30 [.v (ptr g), rO a q v] [stO g m u k n, smO m c es, acO ga b w cd (.map (some gs)), .map gs 32 sc ss] (fun r os' => r = .tpl [] ∧ os' = [stO g m u k n, smO m c es, acO ga b w cd (.map (some gs)), .map gs 32 sc' ss']) := by
 have hg : (aN es a).getD (.v (.pointer none)) = .v (ptr ga) := by rw [h]; rfl
 refine FnM.walk 87 Try.func30 rfl Try.ntmps30 (by simp) fun X => ?_
 repeat
  (first
   | (apply aA; iterate 3 rfl) | (apply kP; iterate 4 rfl) | (apply nX; iterate 4 rfl) | (apply wC; iterate 6 rfl)
   | (apply fF; rfl; rfl; rfl; intro _) | (apply bF; rfl; exact saA; iterate 4 rfl) | apply EL.nil
   | (apply EC.t0; rfl) | (apply EC.f0; rfl) | (with_reducible first | apply EK.nc | apply EC.seq | apply EC.r0 | apply EC.b0))
 rename_i gw
 refine EC.le (Le.pick [3, 4, 0, 1, 2] [_, _, _, _, _] rfl (by decide) rfl) ?_
 refine EC.draw 11 (by kernel_rfl) ?_
 simp only [Eh, Ep, Ef, Ej]
 repeat
  (first
   | (apply dn; exact hg; rfl; (first | exact I0 | exact I1 | exact I2 | exact I3 | exact I4); iterate 5 rfl) | (apply aS; iterate 3 rfl)
   | (apply aO; iterate 6 rfl) | (apply aU; rfl; exact I.a; iterate 4 rfl) | (apply aT; iterate 3 rfl) | ((with_reducible apply EH.nil); rfl))
 repeat
  (first
   | ((apply fJ (hs); (iterate 2 rfl); exact RL.a; exact enA; iterate 2 rfl)) | apply EL.nil | (with_reducible apply EK.n0))
 refine EK.le (Le.pick [3, 4, 0, 1, 2] [_, _, _, _, _] rfl (by decide) rfl) ?_
 exact EK.iI [stO g m u k n, smO m c es, acO ga b w cd (.map (some gs)), .map gs 32 sc' ss'] rfl (by (repeat first | exact Em _ | apply List.Sublist.cons_cons | apply List.Sublist.cons)) ⟨rfl, rfl⟩
theorem Dv : FnM 30 [.v (ptr g), l9 a (ptr ga)] [stO g m u k n, smO m c es] (fun r os' => r = .tpl [] ∧ os' = [stO g m u k n, smO m (bn c es a) (bG c es a (.v (ptr ga)))]) := by
 have hn := (jB (T := 52) rfl (some ⟨ga, 0, none⟩)).1
 refine FnM.walk 87 Try.func30 rfl Try.ntmps30 (by simp) fun X => ?_
 repeat
  (first
   | (apply aA; iterate 3 rfl) | (apply kP; iterate 4 rfl) | (apply nX; iterate 4 rfl) | (apply wC; iterate 6 rfl)
   | (apply fF; rfl; rfl; rfl; intro _) | (apply bF; rfl; exact saA; iterate 4 rfl) | apply EL.nil
   | (apply EC.t0; rfl) | (apply EC.f0; rfl) | (with_reducible first | apply EK.nc | apply EC.seq | apply EC.r0 | apply EC.b0))
 refine EC.draw 8 (by kernel_rfl) ?_
 simp only [Eh, Ep, Ef, Ej]
 repeat
  (first
   | (apply aS; iterate 3 rfl) | (apply aO; iterate 6 rfl) | (apply aU; rfl; exact I.a; iterate 4 rfl) | (apply aT; iterate 3 rfl)
   | ((with_reducible apply EH.nil); rfl))
 repeat
  (first
   | (apply gX; (iterate 2 rfl); exact hn; iterate 2 rfl) | (apply aC; iterate 6 rfl) | (apply aH; rfl; exact I.a; iterate 4 rfl)
   | (apply eH; rfl; exact saA; iterate 4 rfl) | apply EL.nil
   | (apply EC.f0; rfl) | (with_reducible first | apply EK.nc | apply EC.seq | apply EC.r0 | apply EC.k0 | apply EK.n0))
 exact EK.iI [stO g m u k n, smO m (bn c es a) (bG c es a (.v (ptr ga)))] rfl (by (repeat first | exact Em _ | apply List.Sublist.cons_cons | apply List.Sublist.cons)) ⟨rfl, rfl⟩
theorem Du : FnM 30 [.v (ptr g), l9 a (.pointer none)] [stO g m u k n, smO m c es] (fun r os' => r = .tpl [] ∧ os' = [stO g m u k n, smO m (bn c es a) (fV (bG c es a (.v (.pointer none))) a)]) := by
 have hn := (jB (T := 52) rfl none).1
 refine FnM.walk 87 Try.func30 rfl Try.ntmps30 (by simp) fun X => ?_
 repeat
  (first
   | (apply aA; iterate 3 rfl) | (apply kP; iterate 4 rfl) | (apply nX; iterate 4 rfl) | (apply wC; iterate 6 rfl)
   | (apply fF; rfl; rfl; rfl; intro _) | (apply bF; rfl; exact saA; iterate 4 rfl) | apply EL.nil
   | (apply EC.t0; rfl) | (apply EC.f0; rfl) | (with_reducible first | apply EK.nc | apply EC.seq | apply EC.r0 | apply EC.b0))
 refine EC.draw 8 (by kernel_rfl) ?_
 simp only [Eh, Ep, Ef, Ej]
 repeat
  (first
   | (apply aS; iterate 3 rfl) | (apply aO; iterate 6 rfl) | (apply aU; rfl; exact I.a; iterate 4 rfl) | (apply aT; iterate 3 rfl)
   | ((with_reducible apply EH.nil); rfl))
 repeat
  (first
   | (apply gX; (iterate 2 rfl); exact hn; iterate 2 rfl) | (apply aC; iterate 6 rfl) | (apply aH; rfl; exact I.a; iterate 4 rfl)
   | (apply eH; rfl; exact saA; iterate 4 rfl) | apply EL.nil
   | (apply EC.t0; rfl) | (with_reducible first | apply EK.nc | apply EC.seq | apply EC.r0))
 refine EC.draw 6 (by kernel_rfl) ?_
 simp only [Eh, Ep, Ef, Ej]
 repeat
  (first
   | (apply aS; iterate 3 rfl) | (apply aO; iterate 6 rfl) | (apply aU; rfl; exact I.a; iterate 4 rfl) | (apply aT; iterate 3 rfl)
   | ((with_reducible apply EH.nil); rfl))
 repeat
  (first
   | (apply uQ; rfl; exact saA; iterate 3 rfl) | apply EL.nil | (with_reducible apply EK.n0))
 exact EK.iI [stO g m u k n, smO m (bn c es a) (fV (bG c es a (.v (.pointer none))) a)] rfl (by (repeat first | exact Em _ | apply List.Sublist.cons_cons | apply List.Sublist.cons)) ⟨rfl, rfl⟩
end
def nM : List (Int × Int) → Int → Nat → Int
 | [], _, _ => -1
 | x :: l, n, k => if x.1 = n then (k : Int) else nM l n (k + 1)
theorem zn (k : Value) (g3 : Nat) (ks : List (Int × Int)) (hl : ks.length ≤ 1000000) (n0 : Int) : FnM 28 [.v k, .v (.func (.func 29) #[] #[ptr g3])] [.var g3 3 (.v (.int .i64 n0)), mkO k (ks.map mkD)] (fun r os' => r = .val (.v (.int .i64 (nM ks n0 0))) ∧ os' = [.var g3 3 (.v (.int .i64 n0)), mkO k (ks.map mkD)]) := by
 have hml : (ks.map mkD).length = ks.length := Eo _
 generalize hres : nM ks n0 0 = res
 refine FnM.walk 19 Try.func28 rfl Try.ntmps28 (by simp) fun X => ?_
 repeat
  (first
   | (apply aA; iterate 3 rfl) | (apply ay; iterate 3 rfl) | (apply dG; rfl; exact I.a; iterate 3 rfl) | apply EL.nil
   | (with_reducible first | apply EK.nc | apply EC.seq | apply EC.r0 | apply EC.b0))
 refine EC.loop (ι := {i : Nat // i ≤ ks.length ∧ res = nM (ks.drop i) n0 i})
  (fun i => ⟨[(8, .val (.v (.int .i64 (i.1 : Int)))), (7, .val (.v (.int .i64 ((ks.map mkD).length : Int)))), (1, .val (.v (.func (.func 29) #[] #[ptr g3]))), (0, .val (.v k))], [.var g3 3 (.v (.int .i64 n0)), mkO k (ks.map mkD)], []⟩)
  (fun i => ks.length - i.1) ⟨0, Fa _, hres.symm⟩ ?_ ?_
 · exact Le.kp
 rintro ⟨i, hi, hI⟩
 dsimp only at hi ⊢
 by_cases hlt : i < ks.length
 ·
  have hd : (ks.map mkD)[i]? = some (mkD ks[i]) := by rw [Fp, Ez hlt]; rfl
  have hb := BR (g3 := g3) ks[i] n0
  rw [F8 hlt, nM] at hI
  by_cases hn : ks[i].1 = n0
  ·
   rw [if_pos hn] at hI
   rw [show decide (ks[i].1 = n0) = true by simp [hn]] at hb
   repeat
    (first
     | (apply eP (k := i) (off := 0) (d := mkD ks[i]); rfl; exact I1; exact ⟨by simp, hd⟩; iterate 4 rfl)
     | (apply pF (caps := [ptr g3]) hb; (exact fun base ok L a w _ => rF (caps := [ptr g3]) (by simp [Value.oneCell'])); (iterate 3 rfl); exact ak.refl _ _; (focus (intro _ _; simp [go_sem]; done)); (iterate 2 rfl); rintro _ _ ⟨rfl, rfl⟩)
     | (apply aA; iterate 3 rfl) | (apply ay; iterate 3 rfl) | (apply aG (b := true); (iterate 2 rfl); exact bg; iterate 2 rfl)
     | (apply dF; rfl; exact I.a; (iterate 2 rfl); (focus (first | assumption | omega | (constructor <;> (first | (simp; done) | (simp; omega))))); iterate 2 rfl) | apply EL.nil
     | (apply EC.t0; rfl)
     | (with_reducible first | apply EK.nc | apply EC.seq | apply EC.r0 | apply EC.k0 | apply EC.b0 | apply EC.ret | apply EK.aB | apply EK.au))
   exact EK.bH [.var g3 3 (.v (.int .i64 n0)), mkO k (ks.map mkD)] rfl rfl (by (repeat first | exact Em _ | apply List.Sublist.cons_cons | apply List.Sublist.cons)) ⟨by rw [hI], rfl⟩
  ·
   rw [if_neg hn] at hI
   rw [show decide (ks[i].1 = n0) = false by simp [hn]] at hb
   repeat
    (first
     | (apply eP (k := i) (off := 0) (d := mkD ks[i]); rfl; exact I1; exact ⟨by simp, hd⟩; iterate 4 rfl)
     | (apply pF (caps := [ptr g3]) hb; (exact fun base ok L a w _ => rF (caps := [ptr g3]) (by simp [Value.oneCell'])); (iterate 3 rfl); exact ak.refl _ _; (focus (intro _ _; simp [go_sem]; done)); (iterate 2 rfl); rintro _ _ ⟨rfl, rfl⟩)
     | (apply aA; iterate 3 rfl) | (apply ay; iterate 3 rfl) | (apply aG (b := true); (iterate 2 rfl); exact bg; iterate 2 rfl)
     | (apply gq; (iterate 3 rfl); (focus omega); (focus omega); iterate 2 rfl)
     | (apply dF; rfl; exact I.a; (iterate 2 rfl); (focus (first | assumption | omega | (constructor <;> (first | (simp; done) | (simp; omega))))); iterate 2 rfl) | apply EL.nil
     | (apply EC.t0; rfl) | (apply EC.f0; rfl)
     | (with_reducible first | apply EK.nc | apply EC.seq | apply EC.r0 | apply EC.k0 | apply EC.b0 | apply EK.n0))
   refine EK.again ⟨i + 1, hlt, hI⟩ (by dsimp only; omega) ?_
   simp only [FC]
   exact Le.kp
 ·
  obtain rfl : res = -1 := by rw [hI, Gh (by omega), nM]
  repeat
   (first
    | (apply ay; iterate 3 rfl) | (apply aG (b := false); (iterate 2 rfl); exact bg; iterate 2 rfl) | apply EL.nil
    | (apply EC.f0; rfl) | (with_reducible first | apply EK.nc | apply EC.seq | apply EC.r0 | apply EC.x0 | apply EC.ret | apply EK.s0 | apply EK.ah))
  exact EK.bH [.var g3 3 (.v (.int .i64 n0)), mkO k (ks.map mkD)] rfl rfl (by (repeat first | exact Em _ | apply List.Sublist.cons_cons | apply List.Sublist.cons)) ⟨rfl, rfl⟩
theorem gZ.gone {es es' : List Ent} {ps : List PA} {A : As} {N : Nat} {a : List UInt8} (h : gZ es ps A N) (hes : ∀ b, aN es' b = if a = b then none else aN es b) (hn : (es'.map (·.2.1)).Nodup) (hl : es'.length ≤ N + 1) : gZ es' ps (A.upd a Ac.zero) (N + 1) := by
 refine ⟨fun b hb => ?_, fun b d hb => ?_, fun b b' d hb hb' => ?_, hn, hl⟩
 ·
  rw [hes] at hb
  unfold As.upd
  by_cases e : a = b
  · rw [if_pos e]
  ·
   rw [if_neg e] at hb ⊢
   exact h.out b hb
 ·
  rw [hes] at hb
  unfold As.upd
  by_cases e : a = b
  ·
   rw [if_pos e] at hb
   cases hb
  ·
   rw [if_neg e] at hb ⊢
   obtain ⟨q, hq, rfl, hi⟩ := h.inn b d hb
   exact ⟨q, hq, rfl, hi.up⟩
 ·
  rw [hes] at hb hb'
  by_cases e : a = b
  ·
   rw [if_pos e] at hb
   cases hb
  ·
   by_cases e' : a = b'
   ·
    rw [if_pos e'] at hb'
    cases hb'
   ·
    rw [if_neg e] at hb
    rw [if_neg e'] at hb'
    exact h.inj b b' d hb hb'
section
variable {g m c M : Nat} {u k : Value} {n : Int} {es : List Ent} {ps : List PA} {A : As} {H : List Hy}
theorem wB {f : FuncId} {ds : List D} {hdr : List Obj} {p : PA} {Ψ : PA → Prop} (ps1 ps2 : List PA) (h : FnM f ds (hdr ++ p.os) (fun r os' => ∃ p', Ψ p' ∧ r = .tpl [] ∧ os' = hdr ++ p'.os)) : FnM f ds (hdr ++ (ps1 ++ p :: ps2).flatMap PA.os) (fun r os' => ∃ p', Ψ p' ∧ r = .tpl [] ∧ os' = hdr ++ (ps1 ++ p' :: ps2).flatMap PA.os) := by
 have h1 := FnM.lift (Ψ := fun r hdr' p' => Ψ p' ∧ r = .tpl [] ∧ hdr' = hdr) ps1 ps2 (h.mono fun r os' ⟨p', h1, h2, h3⟩ => ⟨hdr, p', ⟨h1, h2, rfl⟩, h3⟩)
 exact h1.mono fun r os' ⟨hdr', p', ⟨h1, h2, h3⟩, h4⟩ => ⟨p', h1, h2, by rw [h4, h3]⟩
theorem DZ (hy : Hy) (hi : gZ es ps A M) (hw : WfH (hy :: H) (fun a => (aN es a).isSome = true)) (hok : hy.ok M) : FnM 30 [.v (ptr g), hy.d] ([stO g m u k n, smO m c es] ++ (ps.flatMap PA.os ++ hy.os)) (fun r os' => r = .tpl [] ∧ ∃ c' es' ps', os' = [stO g m u k n, smO m c' es'] ++ ps'.flatMap PA.os ∧ gZ es' ps' (hy.back A) (M + 1) ∧ WfH H (fun a => (aN es' a).isSome = true)) := by
 cases hy with
 | nonce a n0 =>
  obtain ⟨hp, hw⟩ := hw
  obtain ⟨d, hE⟩ := Option.isSome_iff_exists.1 hp
  obtain ⟨p, hp, rfl, his⟩ := hi.inn a d hE
  obtain ⟨ps1, ps2, rfl⟩ := Gw hp
  show FnM _ _ ([stO g m u k n, smO m c es] ++ ((ps1 ++ p :: ps2).flatMap PA.os ++ [])) _
  rw [ET]
  refine FnM.mono (wB (Ψ := fun p' => p' = {p with n := n0}) ps1 ps2 ((FnM.frame (Ae (g := g) (m := m) (c := c) (u := u) (k := k) (n := n) (b := p.n) (b0 := n0) (w := p.w) (cd := p.cd) (sv := .map (some p.gs)) hE) [.map p.gs 32 p.sc p.ss]).mono fun r os' ⟨os2, ⟨h1, h2⟩, h3⟩ => ⟨_, rfl, h1, by rw [h3, h2]; rfl⟩)) ?_
  rintro r _ ⟨p', rfl, rfl, rfl⟩
  exact ⟨rfl, c, es, _, rfl, hi.turned hE rfl ⟨rfl, his.w, his.cd, his.sl, his.ent, his.nod, his.up.len, his.cl⟩, hw⟩
 | slot a q v =>
  obtain ⟨hp, hw⟩ := hw
  obtain ⟨d, hE⟩ := Option.isSome_iff_exists.1 hp
  obtain ⟨p, hp, rfl, his⟩ := hi.inn a d hE
  obtain ⟨ps1, ps2, rfl⟩ := Gw hp
  show FnM _ _ ([stO g m u k n, smO m c es] ++ ((ps1 ++ p :: ps2).flatMap PA.os ++ [])) _
  rw [ET]
  by_cases hv : v = zero32
  ·
   subst hv
   refine FnM.mono (wB (Ψ := fun p' => p' = {p with ss := fV p.ss q}) ps1 ps2 ((Ad (g := g) (m := m) (c := c) (u := u) (k := k) (n := n) (b := p.n) (w := p.w) (cd := p.cd) (gs := p.gs) (sc := p.sc) hE nS).mono fun r os' ⟨h1, h2⟩ => ⟨_, rfl, h1, h2⟩)) ?_
   rintro r _ ⟨p', rfl, rfl, rfl⟩
   refine ⟨rfl, c, es, _, rfl, hi.turned hE rfl ⟨his.n, his.w, his.cd, fun k => ?_, fun e he => his.ent e ((eG _ _).subset he), his.nod.sublist ((eG _ _).map _), EO (iR _ _) his.up.len, his.cl⟩, hw⟩
   show slE (fV p.ss q) k = _
   rw [qL _ _ _ his.nod, his.sl k]
   unfold Ac.slot
   dsimp only
   split <;> rfl
  ·
   refine FnM.mono (wB (Ψ := fun p' => p' = {p with sc := bn p.sc p.ss q, ss := bG p.sc p.ss q (.arr 32 v)}) ps1 ps2 ((Ad (g := g) (m := m) (c := c) (u := u) (k := k) (n := n) (b := p.n) (w := p.w) (cd := p.cd) (gs := p.gs) (sc := p.sc) hE (nR (by simpa using hv))).mono fun r os' ⟨h1, h2⟩ => ⟨_, rfl, h1, h2⟩)) ?_
   rintro r _ ⟨p', rfl, rfl, rfl⟩
   refine ⟨rfl, c, es, _, rfl, hi.turned hE rfl ⟨his.n, his.w, his.cd, fun k => ?_, fun e he => ?_, dL _ _ _ _ his.nod, EO (dI _ _ _ _) (FZ his.len), his.cl⟩, hw⟩
   ·
    show slE (bG p.sc p.ss q (.arr 32 v)) k = _
    rw [nP, his.sl k]
    unfold Ac.slot
    dsimp only
    split <;> rfl
   ·
    rcases lN _ _ _ _ _ he with he | he
    · exact his.ent e he
    · exact ⟨v, he, hv⟩
 | all a p =>
  obtain ⟨hp, hw⟩ := hw
  have h1 := ((Dv (g := g) (m := m) (c := c) (u := u) (k := k) (n := n) (es := es) (a := a) (ga := p.g)).frame (p.os ++ ps.flatMap PA.os)).apart
  have h2 := h1.perm (os2 := [stO g m u k n, smO m c es] ++ (ps.flatMap PA.os ++ p.os)) (Fj.append_left _)
  refine FnM.mono h2 ?_
  rintro r _ ⟨⟨_, ⟨rfl, rfl⟩, rfl⟩, hap⟩
  refine ⟨rfl, _, _, p :: ps, rfl, hi.fresh (p' := p) (fun b => bQ c es a b _) (dL c es a _ hi.nod) (EO (dI c es a _) (FZ hi.len)) (PA.Is.up hok) (ji (hdr := [stO g m u k n, smO m (bn c es a) (bG c es a (.v (ptr p.g)))]) (by rw [Ey]; exact hap)), hw.mono fun b hb => ?_⟩
  rw [bQ]
  split
  · rfl
  · exact hb
 | non a =>
  obtain ⟨hp, hw⟩ := hw
  have hnd := dL c es a (.v (.pointer none)) hi.nod
  have hget : ∀ b, aN (fV (bG c es a (.v (.pointer none))) a) b = if a = b then none else aN es b := fun b => by
   rw [mM _ _ _ hnd, bQ]
   split <;> rfl
  show FnM _ _ ([stO g m u k n, smO m c es] ++ (ps.flatMap PA.os ++ [])) _
  rw [ET]
  refine FnM.mono ((Du (g := g) (m := m) (c := c) (u := u) (k := k) (n := n) (es := es) (a := a)).frame (ps.flatMap PA.os)) ?_
  rintro r _ ⟨_, ⟨rfl, rfl⟩, rfl⟩
  refine ⟨rfl, _, _, ps, rfl, hi.gone hget (hnd.sublist ((eG _ _).map _)) (EO (iR _ _) (EO (dI c es a _) (FZ hi.len))), hw.mono fun b hb => ?_⟩
  rw [hget, if_neg (fun e => hb.1 e.symm)]
  exact hb.2
end
def undo (K : List Hy) (A : As) : As := K.foldl (fun A h => h.back A) A
theorem xH (H : List Hy) (j : Nat) (h : j < H.length) (A : As) : undo (H.take (j + 1)) A = H[j].back (undo (H.take j) A) := by
 unfold undo
 rw [Fq h, List.foldl_append]
 rfl
theorem pm1 {α : Type} (a b : α) (x y : List α) : (a :: b :: (x ++ y)).Perm (x ++ a :: b :: y) := by
 have h : ([a, b] ++ x ++ y).Perm (x ++ [a, b] ++ y) := Fj.append_right y
 simpa only [Ed, Ee, Ey] using h
theorem pm2 {α : Type} (a b : α) (x z y : List α) : (a :: b :: (x ++ (z ++ y))).Perm (x ++ (z ++ a :: b :: y)) := by
 rw [← Ey, ← Ey x z]
 exact pm1 a b (x ++ z) y
theorem PA.Is.og {p : PA} {x : Ac} {n m : Nat} (h : p.Is x n) (hm : n ≤ m) : p.Is x m := ⟨h.n, h.w, h.cd, h.sl, h.ent, h.nod, EO h.len hm, h.cl⟩
theorem gZ.og {es : List Ent} {ps : List PA} {A : As} {n m : Nat} (h : gZ es ps A n) (hm : n ≤ m) : gZ es ps A m := ⟨h.out, fun a d hd => (by
 obtain ⟨q, hq, e, hi⟩ := h.inn a d hd
 exact ⟨q, hq, e, hi.og hm⟩), h.inj, h.nod, EO h.len hm⟩
theorem Hy.ok.og {n m : Nat} (hm : n ≤ m) : ∀ {h : Hy}, h.ok n → h.ok m
 | .nonce _ _, _ => trivial
 | .slot _ _ _, _ => trivial
 | .non _, _ => trivial
 | .all _ _, h => PA.Is.og h hm
theorem Ba (h : Hy) : h.d.sub 0 1 false = some h.d := by cases h <;> rfl
theorem wJ : ∀ (ks : List (Int × Int)) (n : Int) (k : Nat), (∀ x ∈ ks, x.1 ≠ n) → nM ks n k = -1
 | [], _, _, _ => rfl
 | x :: l, n, k, h => by
  rw [nM, if_neg (h x Et)]
  exact wJ l n (k + 1) fun y hy => h y (List.mem_cons_of_mem _ hy)
theorem wK : ∀ (ks : List (Int × Int)) (n : Int) (k i : Nat) (hi : i < ks.length), ks[i].1 = n → (∀ j (hj : j < i), (ks[j]'(by omega)).1 ≠ n) → nM ks n k = ((k + i : Nat) : Int)
 | x :: l, n, k, 0, _, h, _ => by
  rw [nM, if_pos (by simpa using h)]
  rfl
 | x :: l, n, k, i + 1, hi, h, hn => by
  rw [nM, if_neg (show ¬ x.1 = n from hn 0 (by omega)), wK l n (k + 1) i (by simpa using hi) (by simpa using h) fun j hj => (by simpa using hn (j + 1) (by omega))]
  congr 1
  omega
section
variable {g N : Nat} {nx : Int} {H : List Hy} {A : As} {ks : List (Int × Int)} {os : List Obj} {n0 : Int}
theorem zo {m c : Nat} {u k : Value} {es : List Ent} {us : List D} (hl : ks.length ≤ 1000000) (g3 : Nat) : FnM 28 [.v k, .v (.func (.func 29) #[] #[ptr g3])] [.var g3 3 (.v (.int .i64 n0)), stO g m u k nx, smO m c es, unO u us, mkO k (ks.map mkD)] (fun r os' => r = .val (.v (.int .i64 (nM ks n0 0))) ∧ os' = [.var g3 3 (.v (.int .i64 n0)), stO g m u k nx, smO m c es, unO u us, mkO k (ks.map mkD)]) := by
 refine FnM.out (((zn k g3 ks hl n0).frame [stO g m u k nx, smO m c es, unO u us]).pick [0, 2, 3, 4, 1] rfl (by decide)) ?_
 rintro r _ ⟨_, ⟨rfl, rfl⟩, rfl⟩
 exact ⟨_, iD (os := [.var g3 3 (.v (.int .i64 n0)), mkO k (ks.map mkD), stO g m u k nx, smO m c es, unO u us]) [0, 2, 3, 4, 1] rfl (by decide), rfl, rfl⟩
theorem mG (h : MSt g nx H A ks N os) (hl : ks.length ≤ 1000000) (hn : ∀ x ∈ ks, x.1 ≠ n0) : FnM 13 [.v (ptr g), .v (.int .i64 n0)] os (fun r os' => r = .val (.v (.bool false)) ∧ os' = os) := by
 obtain ⟨m, c, es, u, k, ps, rfl, hi, hw, hks, hHl⟩ := h
 generalize (ps.flatMap PA.os ++ H.flatMap Hy.os) = tl
 generalize H.reverse.map Hy.d = us
 have h1 := zo (g := g) (nx := nx) (m := m) (c := c) (u := u) (k := k) (es := es) (us := us) (n0 := n0) hl
 rw [wJ ks n0 0 hn] at h1
 show FnM _ _ (stO g m u k nx :: smO m c es :: unO u us :: mkO k (ks.map mkD) :: tl) fun r os' => r = _ ∧ os' = stO g m u k nx :: smO m c es :: unO u us :: mkO k (ks.map mkD) :: tl
 refine FnM.walk 64 Try.func13 rfl Try.ntmps13 (by simp) fun X => ?_
 repeat
  (first
   | (apply aA; iterate 3 rfl) | (apply ay; iterate 3 rfl) | (apply aC; iterate 6 rfl) | (apply aH; rfl; exact I.a; iterate 4 rfl)
   | (apply aK; iterate 3 rfl) | (apply kC; iterate 3 rfl) | (apply bW; rfl; rfl; rfl; intro _) | apply EL.nil
   | (with_reducible first | apply EK.nc | apply EC.seq | apply EC.r0))
 rename_i g3
 refine dH (h1 g3) [] tl rfl rfl (ak.refl _ _) (by intro _ _; simp [go_sem]) rfl rfl ?_
 rintro _ _ ⟨rfl, rfl⟩
 repeat
  (first
   | (apply aA; iterate 3 rfl) | (apply ay; iterate 3 rfl) | (apply aG (b := true); (iterate 2 rfl); exact bg; iterate 2 rfl) | apply EL.nil
   | (apply EC.t0; rfl) | (with_reducible first | apply EK.nc | apply EC.seq | apply EC.r0 | apply EC.ret | apply EK.au))
 exact EK.bH (stO g m u k nx :: smO m c es :: unO u us :: mkO k (ks.map mkD) :: tl) rfl rfl (by (repeat first | exact ER _ | apply List.Sublist.cons_cons | apply List.Sublist.cons)) ⟨rfl, rfl⟩
theorem zf (h : MSt g nx H A ks N os) (hN : N < 1099511627776) (hl : ks.length ≤ 1000000) {i q : Nat} (hk : i < ks.length) (hki : ks[i] = (n0, (q : Int))) (hq : q ≤ H.length) (hn : ∀ j (hj : j < i), (ks[j]'(by omega)).1 ≠ n0) : FnM 13 [.v (ptr g), .v (.int .i64 n0)] os (fun r os' => r = .val (.v (.bool true)) ∧ MSt g nx (H.drop (H.length - q)) (undo (H.take (H.length - q)) A) (ks.take i) (N + H.length) os') := by
 obtain ⟨m, c, es, u, k, ps, rfl, hi, hw, hks, hHl⟩ := h
 have h1 := zo (g := g) (nx := nx) (m := m) (c := c) (u := u) (k := k) (es := es) (us := H.reverse.map Hy.d) (n0 := n0) hl
 rw [wK ks n0 0 i hk (by rw [hki]) hn, Fe] at h1
 show FnM _ _ (stO g m u k nx :: smO m c es :: unO u (H.reverse.map Hy.d) :: mkO k (ks.map mkD) :: (ps.flatMap PA.os ++ H.flatMap Hy.os)) _
 generalize htl : (ps.flatMap PA.os ++ H.flatMap Hy.os) = tl
 have hd : (ks.map mkD)[i]? = some (mkD (n0, (q : Int))) := by rw [Fp, Ez hk, hki]; rfl
 have hml : (ks.map mkD).length = ks.length := Eo _
 refine FnM.walk 64 Try.func13 rfl Try.ntmps13 (by simp) fun X => ?_
 repeat
  (first
   | (apply aA; iterate 3 rfl) | (apply ay; iterate 3 rfl) | (apply aC; iterate 6 rfl) | (apply aH; rfl; exact I.a; iterate 4 rfl)
   | (apply aK; iterate 3 rfl) | (apply kC; iterate 3 rfl) | (apply bW; rfl; rfl; rfl; intro _) | apply EL.nil
   | (with_reducible first | apply EK.nc | apply EC.seq | apply EC.r0))
 rename_i g3
 refine dH (h1 g3) [] tl rfl rfl (ak.refl _ _) (by intro _ _; simp [go_sem]) rfl rfl ?_
 rintro _ _ ⟨rfl, rfl⟩
 repeat
  (first
   | (apply dF; rfl; (first | exact I3 | exact I4); (iterate 2 rfl); exact ⟨by omega, by omega⟩; iterate 2 rfl)
   | (apply eP (k := i) (off := 1) (d := mkD (n0, (q : Int))); rfl; (first | exact I3 | exact I4); exact ⟨by simp, hd⟩; iterate 4 rfl) | (apply aA; iterate 3 rfl)
   | (apply ay; iterate 3 rfl) | (apply aC; iterate 6 rfl) | (apply aH; rfl; exact I.a; iterate 4 rfl)
   | (apply aG (b := false); (iterate 2 rfl); exact bg; iterate 2 rfl) | (apply aK; iterate 3 rfl)
   | (apply aJ; rfl; exact I.a; (focus (first | omega | (simp; done) | (simp; omega))); iterate 5 rfl) | apply EL.nil
   | (apply EC.f0; rfl) | (with_reducible first | apply EK.nc | apply EC.seq | apply EC.r0 | apply EC.k0 | apply EC.b0))
 refine EC.loop (ι := {s : Nat × Value × Nat × List Ent × List PA // s.1 + q ≤ H.length ∧ gZ s.2.2.2.1 s.2.2.2.2 (undo (H.take s.1) A) (N + s.1) ∧ WfH (H.drop s.1) (fun a => (aN s.2.2.2.1 a).isSome = true) ∧ ∀ h ∈ H.drop s.1, h.ok (N + s.1)})
  (fun s => ⟨[(6, .val (.v (.int .i64 (q : Int)))), (5, .val (.v (.int .i64 (i : Int)))), (0, .val (.v (ptr g)))], stO g m s.1.2.1 k nx :: smO m s.1.2.2.1 s.1.2.2.2.1 :: unO s.1.2.1 ((H.drop s.1.1).reverse.map Hy.d) :: mkO k (ks.map mkD) :: (s.1.2.2.2.2.flatMap PA.os ++ (H.drop s.1.1).flatMap Hy.os), []⟩)
  (fun s => H.length - s.1.1) ⟨(0, u, c, es, ps), by simpa using hq, hi, hw, hks⟩ ?_ ?_
 ·
  subst htl
  exact (Le.keep (by repeat first | exact trivial | refine ⟨rfl, ?_⟩) (by repeat first | exact ER _ | apply List.Sublist.cons_cons | apply List.Sublist.cons) (by simp))
 rintro ⟨⟨j, u, c, es, ps⟩, hj, hi, hw, hks⟩
 dsimp only at hj hi hw hks ⊢
 clear h1 htl
 have hlen : ((H.drop j).reverse.map Hy.d).length = H.length - j := by rw [Eo, Gu, GX]
 by_cases hlt : j + q < H.length
 ·
  have hj2 : j < H.length := by omega
  have hdr : H.drop j = H[j] :: H.drop (j + 1) := F8 hj2
  obtain ⟨us, hus⟩ : ∃ us, us = (H.drop (j + 1)).reverse.map Hy.d := ⟨_, rfl⟩
  obtain ⟨tl2, htl2⟩ : ∃ tl2, tl2 = (H.drop (j + 1)).flatMap Hy.os := ⟨_, rfl⟩
  have hul : us.length = H.length - (j + 1) := by rw [hus, Eo, Gu, GX]
  have hul2 : (us ++ [H[j].d]).length = H.length - (j + 1) + 1 := by rw [Fh, hul]; rfl
  refine EC.le (Le.perm (os' := stO g m u k nx :: smO m c es :: unO u (us ++ [H[j].d]) :: mkO k (ks.map mkD) :: (ps.flatMap PA.os ++ (H[j].os ++ tl2))) (by rw [hdr, jh, FX, ← hus, ← htl2])) ?_
  have hw2 := hw
  rw [hdr] at hw2
  have hok : H[j].ok (N + j) := hks _ (by rw [hdr]; exact Et)
  have hb := DZ (g := g) (m := m) (c := c) (u := u) (k := k) (n := nx) H[j] hi hw2 hok
  have hat : (us ++ [H[j].d])[us.length]? = some H[j].d := by rw [FH (ED _), Nat.sub_self]; rfl
  repeat
   (first
    | (apply dF; rfl; (first | exact I2 | exact I3); (iterate 2 rfl); exact ⟨by omega, by omega⟩; iterate 2 rfl)
    | (apply eP (k := us.length) (off := 0) (d := H[j].d); rfl; (first | exact I2 | exact I3 | exact I4); exact ⟨by omega, hat⟩; rfl; exact Ba _; iterate 2 rfl)
    | (apply aA; iterate 3 rfl) | (apply ay; iterate 3 rfl) | (apply aC; iterate 6 rfl) | (apply aH; rfl; exact I.a; iterate 4 rfl)
    | (apply aG (b := true); (iterate 2 rfl); exact bg; iterate 2 rfl) | (apply gq; (iterate 3 rfl); (focus omega); (focus omega); iterate 2 rfl)
    | (apply dG; rfl; exact I.a; iterate 3 rfl) | (apply aK; iterate 3 rfl) | apply EL.nil
    | (apply EC.t0; rfl) | (with_reducible first | apply EK.nc | apply EC.seq | apply EC.r0 | apply EC.k0 | apply EC.b0))
  refine EL.le (Le.perm (os' := ([stO g m u k nx, smO m c es] ++ (ps.flatMap PA.os ++ H[j].os)) ++ (unO u (us ++ [H[j].d]) :: mkO k (ks.map mkD) :: tl2)) ?_) ?_
  ·
   simp only [Ed, Ee, Ey]
   exact .cons _ (.cons _ (pm2 _ _ _ _ _))
  refine dH hb [] (unO u (us ++ [H[j].d]) :: mkO k (ks.map mkD) :: tl2) rfl rfl (ak.refl _ _) (by intro _ _; simp [go_sem]) rfl rfl ?_
  rintro _ _ ⟨rfl, c', es', ps', rfl, hi', hw'⟩
  refine EL.le (Le.perm (os' := stO g m u k nx :: smO m c' es' :: unO u (us ++ [H[j].d]) :: mkO k (ks.map mkD) :: (ps'.flatMap PA.os ++ tl2)) ?_) ?_
  ·
   simp only [Ed, Ee]
   exact .cons _ (.cons _ (pm1 _ _ _ _).symm)
  repeat
   (first
    | (apply l7; rfl; (first | exact I2 | exact I3); (iterate 2 rfl); exact ⟨by omega, by omega⟩; iterate 2 rfl) | (apply aA; iterate 3 rfl)
    | (apply aC; iterate 6 rfl) | (apply aH; rfl; exact I.a; iterate 4 rfl) | (apply aK; iterate 3 rfl)
    | (apply bF; rfl; exact saA; iterate 4 rfl) | apply EL.nil
    | (with_reducible first | apply EK.nc | apply EC.r0 | apply EK.n0))
  rw [show (((us ++ [H[j].d]).length : Int) - 1).toNat = us.length by omega]
  refine EK.le (Le.ru (k := us.length) (v := u) (ds := us ++ [H[j].d]) (by omega) (.s (.s .z))) ?_
  rw [List.take_left' rfl]
  refine EK.again ⟨(j + 1, cutV u us.length, c', es', ps'), by dsimp only; omega, by rw [xH H j hj2]; exact hi', hw', fun h hh => (hks h (by rw [hdr]; exact List.mem_cons_of_mem _ hh)).up⟩ (by dsimp only; omega) ?_
  dsimp only
  rw [← hus, ← htl2]
  exact (Le.keep (by repeat first | exact trivial | refine ⟨rfl, ?_⟩) (by repeat first | exact ER _ | apply List.Sublist.cons_cons | apply List.Sublist.cons) (by simp))
 ·
  obtain rfl : j = H.length - q := by omega
  repeat
   (first
    | (apply l7; rfl; (first | exact I2 | exact I3); (iterate 2 rfl); exact ⟨by omega, by omega⟩; iterate 2 rfl) | (apply aA; iterate 3 rfl)
    | (apply ay; iterate 3 rfl) | (apply aC; iterate 6 rfl) | (apply aH; rfl; exact I.a; iterate 4 rfl)
    | (apply aG (b := false); (iterate 2 rfl); exact bg; iterate 2 rfl) | (apply dG; rfl; exact I.a; iterate 3 rfl) | (apply aK; iterate 3 rfl)
    | (apply bF; rfl; exact saA; iterate 4 rfl) | apply EL.nil
    | (apply EC.f0; rfl) | (with_reducible first | apply EK.nc | apply EC.seq | apply EC.r0 | apply EC.x0 | apply EC.ret | apply EK.s0 | apply EK.ah))
  rw [Int.toNat_natCast]
  refine EK.le (Le.ru (k := i) (v := k) (ds := ks.map mkD) (by omega) (.s (.s (.s .z)))) ?_
  rw [← List.map_take]
  refine EK.bH (stO g m u (cutV k i) nx :: smO m c es :: unO u ((H.drop (H.length - q)).reverse.map Hy.d) :: mkO (cutV k i) ((ks.take i).map mkD) :: (ps.flatMap PA.os ++ (H.drop (H.length - q)).flatMap Hy.os)) rfl rfl (by (repeat first | exact ER _ | apply List.Sublist.cons_cons | apply List.Sublist.cons)) ⟨rfl, m, c, es, u, cutV k i, ps, rfl, ?_, hw, ?_, by rw [GX]; omega⟩
  · exact hi.og (by omega)
  · exact fun h hh => (hks h hh).og (by omega)
end
end E
end Go.Proofs.Ytkhjanjlcdhdcaa
namespace Go.Proofs.Ytkhjanjlcdhdcaa
set_option linter.unusedVariables false
set_option maxRecDepth 20000
set_option maxHeartbeats 16000000
open Go.RowKit Mono Rlp Wd Go.Sort
namespace E
def slF (sl : List (List UInt8 × List UInt8)) : List UInt8 → List UInt8 := sl.foldl (fun f p => fun k => if p.1 = k then p.2 else f k) fun _ => zero32
def AcL.take (x : AcL) : Ac := ⟨if x.n > 0 then x.n else 0, x.w, x.cd, slF x.sl⟩
def vK (l : List AcL) : As := l.foldl (fun A x => A.upd x.a x.take) fun _ => Ac.zero
theorem xR (l : List AcL) (x : AcL) : vK (l ++ [x]) = (vK l).upd x.a x.take := by unfold vK; rw [List.foldl_append]; rfl
theorem yR (l : List (List UInt8 × List UInt8)) (p : List UInt8 × List UInt8) : slF (l ++ [p]) = fun k => if p.1 = k then p.2 else slF l k := by unfold slF; rw [List.foldl_append]; rfl
structure yE (ss : List Ent) (f : List UInt8 → List UInt8) (N : Nat) : Prop where
 sl : ∀ k, slE ss k = .arr 32 (f k)
 ent : ∀ e ∈ ss, ∃ v, e.2.2 = .arr 32 v ∧ v ≠ zero32
 nod : (ss.map (·.2.1)).Nodup
 len : ss.length ≤ N
theorem yE.nil : yE [] (slF []) 0 := ⟨fun k => rfl, fun e he => by simp at he, F6, ED _⟩
theorem set_any {ga gs sc N : Nat} {b : Int} {w cd : List UInt8} {ss : List Ent} {f : List UInt8 → List UInt8} (h : yE ss f N) (q v : List UInt8) : FnM 17 [.v (ptr ga), .arr 32 q, .arr 32 v] [acO ga b w cd (.map (some gs)), .map gs 32 sc ss] (fun r os' => r = .tpl [] ∧ ∃ sc' ss', yE ss' (fun k => if q = k then v else f k) (N + 1) ∧ os' = [acO ga b w cd (.map (some gs)), .map gs 32 sc' ss']) := by
 by_cases hv : v = zero32
 ·
  subst hv
  refine FnM.mono nS ?_
  rintro r _ ⟨rfl, rfl⟩
  refine ⟨rfl, sc, _, ⟨fun k => ?_, fun e he => h.ent e ((eG _ _).subset he), h.nod.sublist ((eG _ _).map _), EO (iR _ _) (Gp h.len)⟩, rfl⟩
  rw [qL _ _ _ h.nod, h.sl k]
  split <;> rfl
 ·
  refine FnM.mono (nR (by simpa using hv)) ?_
  rintro r _ ⟨rfl, rfl⟩
  refine ⟨rfl, _, _, ⟨fun k => ?_, fun e he => ?_, dL _ _ _ _ h.nod, EO (dI _ _ _ _) (FZ h.len)⟩, rfl⟩
  ·
   rw [nP, h.sl k]
   split <;> rfl
  ·
   rcases lN _ _ _ _ _ he with he | he
   · exact h.ent e he
   · exact ⟨v, he, hv⟩
theorem EK.apart {N : Nat} {X : Cx N} {K : Act → World → Prop} {S : St} (h : Apart S.objs → EK X K S) : EK X K S := ⟨fun a w ha => (h ha.mem.apart).go a w ha⟩
theorem DR (l : List AcL) (B : Nat) (hll : l.length ≤ 1000000) (hB : ∀ x ∈ l, x.sl.length ≤ B ∧ x.cd.length ≤ 140737488355328) (hB2 : B ≤ 1000000) : FnM 6 [.sl 55 (l.map dX)] [] (fun r os' => ∃ g m c es ps, r = .val (.v (ptr g)) ∧ os' = psO g m c es fH fH 0 [] ps ∧ gZ es ps (vK l) (B + l.length)) := by
 have hml : (l.map dX).length = l.length := Eo _
 refine FnM.walk 52 Try.func6 rfl Try.ntmps6 (by simp) fun X => ?_
 repeat
  (first
   | (apply aA; iterate 3 rfl) | (apply ay; iterate 3 rfl) | (apply dR; iterate 4 rfl) | (apply dA; iterate 7 rfl)
   | (apply fO; rfl; rfl; rfl; intro _) | (apply bW; rfl; rfl; rfl; intro _) | apply EL.nil
   | (with_reducible first | apply EK.nc | apply EC.seq | apply EC.r0 | apply EC.b0))
 rename_i m g
 refine EC.loop (ι := {x : Nat × Nat × List Ent × List PA // x.1 ≤ l.length ∧ gZ x.2.2.1 x.2.2.2 (vK (l.take x.1)) (B + x.1)})
  (fun x => ⟨[(14, .val (.v (.int .i64 (x.1.1 : Int)))), (13, .val (.v (.int .i64 (l.map dX).length))), (12, .val (.sl 55 (l.map dX))), (3, .val (.v (ptr g)))], stO g m fH fH 0 :: smO m x.1.2.1 x.1.2.2.1 :: x.1.2.2.2.flatMap PA.os, []⟩)
  (fun x => l.length - x.1.1) ⟨(0, 0, [], []), Fa _, ⟨fun a h => rfl, fun a d h => by simp [aN] at h, fun a b d h => by simp [aN] at h, F6, Fa _⟩⟩ ?_ ?_
 · exact (Le.keep (by repeat first | exact trivial | refine ⟨rfl, ?_⟩) (by repeat first | exact ER _ | apply List.Sublist.cons_cons | apply List.Sublist.cons) (by simp))
 rintro ⟨⟨i, c, es, ps⟩, hil, hi⟩
 dsimp only at hil hi ⊢
 by_cases hlt : i < l.length
 ·
  have hd : (l.map dX)[i]? = some (dX l[i]) := by rw [Fp, Ez hlt]; rfl
  have hBi := hB l[i] (FV hlt)
  have htk : l.take (i + 1) = l.take i ++ [l[i]] := Fq hlt
  generalize l[i] = x at hd hBi htk
  obtain ⟨xa, xn, xw, xc, xs⟩ := x
  unfold dX at hd
  dsimp only at hd hBi
  have hcl := xk xc hBi.2
  repeat
   (first
    | (apply aQ; iterate 5 rfl) | (apply aG (b := true); (iterate 2 rfl); exact bg; iterate 2 rfl)
    | (apply gV; (iterate 4 rfl); exact ixA; iterate 2 rfl)
    | (apply fF; rfl; rfl; rfl; intro _) | (apply bF; rfl; exact saA; iterate 4 rfl) | apply EL.nil
    | (apply EC.t0; rfl) | (with_reducible first | apply EK.nc | apply EC.seq | apply EC.r0 | apply EC.k0 | apply EC.b0))
  rename_i g5
  refine EC.iL 11 [0, 1, 2, 3, 4, 5, 6, 7] [8, 9, 10] [] _ (by kernel_rfl) (by kernel_rfl) rfl ?_
  simp only [bP, EY, Fb, EP, EU]
  repeat
   (first
    | (apply pG (hcl); rfl; exact ak.refl _ _; exact enA; iterate 2 rfl) | (apply aO; iterate 6 rfl) | (apply aU; rfl; exact I.a; iterate 4 rfl)
    | (apply uV; iterate 4 rfl))
  refine EM.nil ?_
  repeat (first | rw [Ed] | rw [Ee])
  refine CH.mut (os := []) (rest := []) rfl rfl (iE rfl rfl) ?_
  rintro _ _ ⟨gs, rfl, rfl⟩
  try simp only [St.put]
  repeat (first | rw [Ed] | rw [Ee])
  refine CH.cut 1 ?_
  simp only [Eh, Ep, Ef, Ej]
  repeat
   (first
    | (apply bU; iterate 7 rfl))
  refine EM.nil ?_
  repeat (first | rw [Ed] | rw [Ee])
  refine CH.mut (os := []) (rest := [_]) rfl rfl (sW rfl rfl) ?_
  rintro _ _ ⟨gx, rfl, rfl⟩
  try simp only [St.put]
  repeat (first | rw [Ed] | rw [Ee])
  refine CH.nil ?_
  try simp only [Ef, Ej]
  repeat
   (first
    | (apply aA; iterate 3 rfl) | (apply ay; iterate 3 rfl) | (apply aC; iterate 6 rfl) | (apply aH; rfl; exact I.a; iterate 4 rfl)
    | (apply dR; iterate 4 rfl) | apply EL.nil | (with_reducible first | apply EK.nc | apply EC.seq | apply EC.r0 | apply EC.b0))
  have hmx : (xs.map fZ).length = xs.length := Eo _
  refine EC.loop (ι := {x : Nat × Nat × List Ent // x.1 ≤ xs.length ∧ yE x.2.2 (slF (xs.take x.1)) x.1})
   (fun x => ⟨[(32, .val (.v (.int .i64 (x.1.1 : Int)))), (31, .val (.v (.int .i64 (xs.map fZ).length))), (30, .val (.sl 64 (xs.map fZ))), (14, .val (.v (.int .i64 (i : Int)))), (13, .val (.v (.int .i64 (l.map dX).length))), (12, .val (.sl 55 (l.map dX))), (6, .val (.v (ptr gx))), (5, .val (.v (ptr g5))), (3, .val (.v (ptr g)))], acO gx (if xn > 0 then xn else 0) xw xc (.map (some gs)) :: .map gs 32 x.1.2.1 x.1.2.2 :: .var g5 46 (.tup [.arr 20 xa, .v (.int .i64 xn), .arr 32 xw, .bs xc, .sl 64 (xs.map fZ)]) :: stO g m fH fH 0 :: smO m c es :: ps.flatMap PA.os, []⟩)
   (fun x => xs.length - x.1.1) ⟨(0, 0, []), Fa _, yE.nil⟩ ?_ ?_
  · exact (Le.keep (by repeat first | exact trivial | refine ⟨rfl, ?_⟩) (by repeat first | exact ER _ | apply List.Sublist.cons_cons | apply List.Sublist.cons) (by simp))
  rintro ⟨⟨j, sc, ss⟩, hjl, hss⟩
  dsimp only at hjl hss ⊢
  by_cases hlj : j < xs.length
  ·
   have hd2 : (xs.map fZ)[j]? = some (fZ xs[j]) := by rw [Fp, Ez hlj]; rfl
   have htk2 : xs.take (j + 1) = xs.take j ++ [xs[j]] := Fq hlj
   generalize xs[j] = y at hd2 htk2
   obtain ⟨q, v⟩ := y
   unfold fZ at hd2
   dsimp only at hd2
   have hset := set_any (ga := gx) (gs := gs) (sc := sc) (b := if xn > 0 then xn else 0) (w := xw) (cd := xc) hss q v
   repeat
    (first
     | (apply dH hset [_] _ rfl rfl (ak.refl _ _) (by intro _ _; simp [go_sem]) rfl rfl; rintro _ _ ⟨rfl, sc', ss', hss', rfl⟩; simp only [Ed, Ee])
     | (apply aA; iterate 3 rfl) | (apply aC; iterate 6 rfl) | (apply aQ; iterate 5 rfl) | (apply aH; rfl; exact I.a; iterate 4 rfl)
     | (apply aG (b := true); (iterate 2 rfl); exact bg; iterate 2 rfl) | (apply gq; (iterate 3 rfl); (focus omega); (focus omega); iterate 2 rfl)
     | (apply gV; (iterate 4 rfl); exact ixA; iterate 2 rfl)
     | (apply fF; rfl; rfl; rfl; intro _) | (apply bF; rfl; exact saA; iterate 4 rfl) | apply EL.nil
     | (apply EC.t0; rfl) | (with_reducible first | apply EK.nc | apply EC.seq | apply EC.r0 | apply EC.k0 | apply EC.b0 | apply EK.n0))
   refine EK.again ⟨(j + 1, sc', ss'), hlj, by rw [htk2, yR]; exact hss'⟩ (by dsimp only; omega) ?_
   simp only [FC]
   exact (Le.keep (by repeat first | exact trivial | refine ⟨rfl, ?_⟩) (by repeat first | exact ER _ | apply List.Sublist.cons_cons | apply List.Sublist.cons) (by simp))
  ·
   have hjE : j = xs.length := by omega
   subst hjE
   rw [GY] at hss
   repeat
    (first
     | (apply aG (b := false); (iterate 2 rfl); exact bg; iterate 2 rfl) | apply EL.nil | (apply EC.f0; rfl)
     | (with_reducible first | apply EK.nc | apply EC.seq | apply EC.r0 | apply EC.x0 | apply EK.s0 | apply EK.ah))
   refine EC.draw 7 (by kernel_rfl) ?_
   simp only [Eh, Ep, Ef, Ej]
   repeat
    (first
     | (apply aS; iterate 3 rfl) | (apply aO; iterate 6 rfl) | (apply aU; rfl; exact I.a; iterate 4 rfl) | (apply aT; iterate 3 rfl)
     | ((with_reducible apply EH.nil); rfl))
   repeat
    (first
     | (apply aA; iterate 3 rfl) | (apply gq; (iterate 3 rfl); (focus omega); (focus omega); iterate 2 rfl)
     | (apply eH; rfl; exact saA; iterate 4 rfl) | apply EL.nil
     | (with_reducible first | apply EK.nc | apply EC.r0 | apply EK.n0))
   refine EK.le (Le.nC [3, 4, 0, 1, 2] [_, _, _, _, _] [_, _, _, _, _] (_) rfl rfl (by decide) rfl) ?_
   try simp only [Ed, Ee]
   refine EK.apart fun hap => ?_
   have hnew : ∀ q ∈ ps, q.g ≠ gx := fun q hq e => by
    have hap' : Apart (stO g m fH fH 0 :: smO m (bn c es xa) (bG c es xa (.v (ptr gx))) :: acO gx (if xn > 0 then xn else 0) xw xc (.map (some gs)) :: .map gs 32 sc ss :: .var g5 46 (.tup [.arr 20 xa, .v (.int .i64 xn), .arr 32 xw, .bs xc, .sl 64 (xs.map fZ)]) :: ps.flatMap PA.os) := hap
    have h1 := (FB.1 (FB.1 (FB.1 hap').2).2).1 (acO q.g q.n q.w q.cd (.map (some q.gs))) (List.mem_cons_of_mem _ (List.mem_cons_of_mem _ (List.mem_flatMap.2 ⟨q, hq, by simp [PA.os]⟩))) gx rfl
    exact h1 (by simp [Obj.blk, e])
   refine EK.again ⟨(i + 1, bn c es xa, bG c es xa (.v (ptr gx)), ⟨gx, if xn > 0 then xn else 0, xw, xc, gs, sc, ss⟩ :: ps), hlt, ?_⟩ (by dsimp only; omega) ?_
   ·
    rw [htk, xR]
    exact hi.fresh (a := xa) (p' := ⟨gx, if xn > 0 then xn else 0, xw, xc, gs, sc, ss⟩) (x := AcL.take ⟨xa, xn, xw, xc, xs⟩) (fun b => bQ c es xa b _) (dL _ _ _ _ hi.nod) (EO (dI _ _ _ _) (FZ hi.len)) ⟨rfl, rfl, rfl, hss.sl, hss.ent, hss.nod, by have := hss.len; dsimp only; omega, hBi.2⟩ hnew
   ·
    simp only [FC, FX, PA.os, Ed, Ee]
    exact (Le.keep (by repeat first | exact trivial | refine ⟨rfl, ?_⟩) (by repeat first | exact ER _ | apply List.Sublist.cons_cons | apply List.Sublist.cons) (by simp))
 ·
  have hiE : i = l.length := by omega
  subst hiE
  rw [GY] at hi
  repeat
   (first
    | (apply aA; iterate 3 rfl) | (apply ay; iterate 3 rfl) | (apply aG (b := false); (iterate 2 rfl); exact bg; iterate 2 rfl) | apply EL.nil
    | (apply EC.f0; rfl)
    | (with_reducible first | apply EK.nc | apply EC.seq | apply EC.r0 | apply EC.x0 | apply EC.ret | apply EK.s0 | apply EK.ah))
  refine EK.le (Le.row 87 1) ?_
  refine EK.le (Le.row 61 2) ?_
  refine EK.le (Le.nC [2, 3, 1, 0] [_, _, _, _] [_, _, _, _] (_) rfl rfl (by decide) rfl) ?_
  try simp only [Ed, Ee]
  exact EK.bH (psO g m c es fH fH 0 [] ps) rfl rfl (ER _) ⟨g, m, c, es, ps, rfl, rfl, hi⟩
end E
end Go.Proofs.Ytkhjanjlcdhdcaa
namespace Go.Proofs.Ytkhjanjlcdhdcaa
set_option linter.unusedVariables false
set_option maxRecDepth 20000
set_option maxHeartbeats 4000000
open Go.RowKit Mono Rlp Wd
namespace E
theorem AQ : FnM 6 [.v fH] [] (fun r os' => ∃ g m, r = .val (.v (ptr g)) ∧ os' = [stO g m fH fH 0, smO m 0 [], unO fH [], mkO fH []]) := by
 refine FnM.walk 52 Try.func6 rfl Try.ntmps6 (by simp) fun X => ?_
 repeat
  (first
   | (apply aA; iterate 3 rfl) | (apply ay; iterate 3 rfl) | (apply lF; iterate 4 rfl) | (apply dA; iterate 7 rfl)
   | (apply fO; rfl; rfl; rfl; intro _) | (apply bW; rfl; rfl; rfl; intro _) | apply EL.nil
   | (with_reducible first | apply EK.nc | apply EC.seq | apply EC.r0 | apply EC.k0 | apply EC.label | apply EC.b0 | apply EC.x0 | apply EC.ret | apply EK.n0 | apply EK.s0 | apply EK.aB | apply EK.au | apply EK.ah))
 refine EC.zh 1 (EK.round ?_)
 repeat
  (first
   | (apply aA; iterate 3 rfl) | (apply ay; iterate 3 rfl) | (apply aG (b := false); (iterate 2 rfl); exact bg; iterate 2 rfl) | apply EL.nil
   | (apply EC.f0; rfl)
   | (with_reducible first | apply EK.nc | apply EC.seq | apply EC.r0 | apply EC.k0 | apply EC.label | apply EC.b0 | apply EC.x0 | apply EC.ret | apply EK.n0 | apply EK.s0 | apply EK.aB | apply EK.au | apply EK.ah))
 rename_i m g
 refine EK.le (Le.row 61 2) ?_
 refine EK.le (Le.row 87 1) ?_
 refine EK.le (Le.pick [2, 3, 0, 1] [_, _, _, _] rfl (by decide) rfl) ?_
 exact EK.bH [stO g m fH fH 0, smO m 0 [], unO fH [], mkO fH []] rfl rfl (by (repeat first | exact Em _ | apply List.Sublist.cons_cons | apply List.Sublist.cons)) ⟨g, m, rfl, rfl⟩
theorem mQ : FnM 4 [] [] (fun r os' => r = .val (.v (.bool true)) ∧ os' = []) := by
 have h1 := AQ
 refine FnM.walk 30 Try.func4 rfl Try.ntmps4 (by simp) fun X => ?_
 repeat
  (first
   | (apply dw (os := []) h1; (iterate 2 rfl); exact ak.refl _ _; (focus (intro _ _; simp [go_sem]; done)); (iterate 2 rfl); rintro _ _ ⟨g, m, rfl, rfl⟩)
   | (apply aA; iterate 3 rfl) | (apply ay; iterate 3 rfl) | apply EL.nil
   | (with_reducible first | apply EK.nc | apply EC.seq | apply EC.r0 | apply EC.k0 | apply EC.label | apply EC.b0 | apply EC.x0 | apply EC.ret | apply EK.n0 | apply EK.s0 | apply EK.aB | apply EK.au | apply EK.ah))
 repeat
  (first
   | (apply gX; (iterate 2 rfl); exact (jB (T := 25) rfl (some ⟨g, 0, none⟩)).1; iterate 2 rfl) | (apply aA; iterate 3 rfl) | apply EL.nil
   | (apply EC.f0; rfl)
   | (with_reducible first | apply EK.nc | apply EC.seq | apply EC.r0 | apply EC.k0 | apply EC.label | apply EC.b0 | apply EC.x0 | apply EC.ret | apply EK.n0 | apply EK.s0 | apply EK.aB | apply EK.au | apply EK.ah))
 refine EL.le (Le.pick [0, 2, 3, 1] [_, _, _, _] rfl (by decide) rfl) ?_
 repeat
  (first
   | (apply dw (BJ (g := g) (m := m) (u := fH) (k := fH) (n := 0) (us := []) (ks := []) (by decide) (by decide) (by decide)); (iterate 2 rfl); exact ak.refl _ _; (focus (intro _ _; simp [go_sem]; done)); (iterate 2 rfl); rintro _ _ ⟨rfl, k1, rfl⟩)
   | (apply aA; iterate 3 rfl) | (apply ay; iterate 3 rfl) | (apply aW; iterate 5 rfl) | apply EL.nil
   | (with_reducible first | apply EK.nc | apply EC.seq | apply EC.r0 | apply EC.k0 | apply EC.label | apply EC.b0 | apply EC.x0 | apply EC.ret | apply EK.n0 | apply EK.s0 | apply EK.aB | apply EK.au | apply EK.ah))
 refine EL.le (Le.pick [0, 3, 1, 2] [_, _, _, _] rfl (by decide) rfl) ?_
 repeat
  (first
   | (apply dw (lI (g := g) (m := m) (c := 0) (u := fH) (k := k1) (n := 0 + 1) (es := []) (a := List.replicate 20 0) (us := []) (ks := [mkD (0 + 1, 0)]) (n' := 5) rfl (by decide)); (iterate 2 rfl); exact ak.refl _ _; (focus (intro _ _; simp [go_sem]; done)); (iterate 2 rfl); rintro _ _ ⟨rfl, u1, ga, gs, rfl⟩)
   | (apply aA; iterate 3 rfl) | (apply aW; iterate 5 rfl) | apply EL.nil
   | (with_reducible first | apply EK.nc | apply EC.seq | apply EC.r0 | apply EC.k0 | apply EC.label | apply EC.b0 | apply EC.x0 | apply EC.ret | apply EK.n0 | apply EK.s0 | apply EK.aB | apply EK.au | apply EK.ah))
 have hin : aN (bG 0 [] (List.replicate 20 0) (.v (ptr ga))) (List.replicate 20 0) = some (.v (ptr ga)) := by rw [bQ, if_pos rfl]
 refine EL.le (Le.pick [0, 1, 4, 2, 3, 5] [_, _, _, _, _, _] rfl (by decide) rfl) ?_
 repeat
  (first
   | (apply dw (oK (g := g) (m := m) (u := u1) (k := k1) (n := 0 + 1) (b := 5) (w := zero32) (cd := []) (sv := .map (some gs)) hin); (iterate 2 rfl); exact ak.refl _ _; (focus (intro _ _; simp [go_sem]; done)); (iterate 2 rfl); rintro _ _ ⟨rfl, rfl⟩)
   | (apply aA; iterate 3 rfl) | (apply ay; iterate 3 rfl) | apply EL.nil
   | (with_reducible first | apply EK.nc | apply EC.seq | apply EC.r0 | apply EC.k0 | apply EC.label | apply EC.b0 | apply EC.x0 | apply EC.ret | apply EK.n0 | apply EK.s0 | apply EK.aB | apply EK.au | apply EK.ah))
 refine EL.le (Le.pick [0, 1, 3, 4, 2, 5] [_, _, _, _, _, _] rfl (by decide) rfl) ?_
 repeat
  (first
   | (apply dw (zY (g := g) (m := m) (u := u1) (k := k1) (n := 0 + 1) (b := 5) (b0 := 0) (n0 := 0 + 1) (w := zero32) (cd := []) (sv := .map (some gs)) hin); (iterate 2 rfl); exact ak.refl _ _; (focus (intro _ _; simp [go_sem]; done)); (iterate 2 rfl); rintro _ _ ⟨rfl, u2, k2, rfl⟩)
   | (apply aA; iterate 3 rfl) | (apply ay; iterate 3 rfl) | (apply dQ; iterate 4 rfl)
   | (apply aG (b := true); (iterate 2 rfl); exact bg; iterate 2 rfl) | (apply aW; iterate 5 rfl) | apply EL.nil
   | (with_reducible first | apply EK.nc | apply EC.seq | apply EC.r0 | apply EC.k0 | apply EC.label | apply EC.b0 | apply EC.x0 | apply EC.ret | apply EK.n0 | apply EK.s0 | apply EK.aB | apply EK.au | apply EK.ah))
 refine EL.le (Le.pick [0, 1, 4, 2, 3, 5] [_, _, _, _, _, _] rfl (by decide) rfl) ?_
 repeat
  (first
   | (apply dw (oK (g := g) (m := m) (u := u2) (k := k2) (n := 0 + 1) (b := 0) (w := zero32) (cd := []) (sv := .map (some gs)) hin); (iterate 2 rfl); exact ak.refl _ _; (focus (intro _ _; simp [go_sem]; done)); (iterate 2 rfl); rintro _ _ ⟨rfl, rfl⟩)
   | (apply ay; iterate 3 rfl) | (apply dQ; iterate 4 rfl) | (apply aG (b := true); (iterate 2 rfl); exact bg; iterate 2 rfl) | apply EL.nil
   | (with_reducible first | apply EK.nc | apply EC.seq | apply EC.r0 | apply EC.k0 | apply EC.label | apply EC.b0 | apply EC.x0 | apply EC.ret | apply EK.n0 | apply EK.s0 | apply EK.aB | apply EK.au | apply EK.ah))
 exact EK.bH [] rfl rfl (Em _) ⟨rfl, rfl⟩
end E
end Go.Proofs.Ytkhjanjlcdhdcaa
