/-
 Merged: lemmas of this claim.
 Conditions: none.
-/
import Derived.Test.YtkhjanjlcdhdcaaZK11
import Derived.Test.YtkhjanjlcdhdcaaZK10
import Derived.Test.YtkhjanjlcdhdcaaZK7
import Derived.Test.YtkhjanjlcdhdcaaZK6
import Derived.Maps.RangeRun
import Derived.Test.YtkhjanjlcdhdcaaZK2
import Derived.Lib.SliceRun
import Derived.Test.YtkhjanjlcdhdcaaZK0
namespace Go.Proofs.Ytkhjanjlcdhdcaa
set_option linter.unusedVariables false
set_option maxRecDepth 20000
set_option maxHeartbeats 4000000
open Go.RowKit Mono Rlp Wd
namespace E
section
variable {g m c ga gs T : Nat} {u k : Value} {n : Int} {es : List Ent} {a w cd : List UInt8} {us ks : List D} {d : D} {b : Int} {sv : Value}
abbrev nY (a : List UInt8) (n : Int) : D := .ifc 81 (.tup [.arr 20 a, .v (.int .i64 n)])
theorem vZ (h : aN es a = some (.v (ptr ga))) (hu : us.length < 1099511627776) : FnM 26 [.v (ptr g), .arr 20 a, .ifc T d] [stO g m u k n, smO m c es, acO ga b w cd sv, unO u us, mkO k ks] (fun r os' => ∃ u', r = .val (.v (ptr ga)) ∧ os' = [stO g m u' k n, smO m c es, unO u' (fG ks us (.ifc T d)), mkO k ks, acO ga b w cd sv]) := by
 have h1 := ((mP (g := g) (m := m) (c := c) (u := u) (k := k) (n := n) (ks := ks) (T := T) (d := d) h hu).frame [acO ga b w cd sv]).pick [0, 1, 4, 2, 3] rfl (by decide)
 refine FnM.mono h1 ?_
 rintro r _ ⟨_, ⟨u', rfl, rfl⟩, rfl⟩
 exact ⟨u', rfl, rfl⟩
theorem sG {n' : Int} (h : aN es a = some (.v (ptr ga))) (hu : us.length < 1099511627776) : FnM 11 [.v (ptr g), .arr 20 a, .v (.int .i64 n')] [stO g m u k n, smO m c es, unO u us, mkO k ks, acO ga b w cd sv] (fun r os' => r = .tpl [] ∧ ∃ u', os' = [stO g m u' k n, smO m c es, unO u' (fG ks us (nY a b)), mkO k ks, acO ga (if n' > 0 then n' else 0) w cd sv]) := by
 have h1 := oK (g := g) (m := m) (c := c) (u := u) (k := k) (n := n) (b := b) (w := w) (cd := cd) (sv := sv) h
 have h2 := vZ (g := g) (m := m) (c := c) (u := u) (k := k) (n := n) (ks := ks) (T := 81) (d := .tup [.arr 20 a, .v (.int .i64 b)]) (b := b) (w := w) (cd := cd) (sv := sv) h hu
 refine FnM.walk 19 Try.func11 rfl Try.ntmps11 (by simp) fun X => ?_
 repeat
  (first
   | (apply aA; iterate 3 rfl) | (apply aC; iterate 6 rfl) | (apply aY; iterate 7 rfl) | (apply aQ; iterate 5 rfl)
   | (apply aH; rfl; exact I.a; iterate 4 rfl) | (apply dA; iterate 7 rfl) | (apply aW; iterate 5 rfl) | (apply aK; iterate 3 rfl)
   | (apply bM; iterate 3 rfl) | (apply eU; iterate 4 rfl) | (apply xE; iterate 4 rfl)
   | (apply cu; rfl; exact I.a; (focus (first | omega | (simp; done) | (simp; omega))); iterate 2 rfl)
   | (apply aJ; rfl; exact I.a; (focus (first | omega | (simp; done) | (simp; omega))); iterate 5 rfl) | (apply bW; rfl; rfl; rfl; intro _)
   | (apply bF; rfl; exact saA; iterate 4 rfl) | ((with_reducible apply EK.h0); apply EK.round) | apply EL.nil
   | ((with_reducible apply EK.aZ); rfl)
   | (with_reducible first | apply EK.nc | apply EC.seq | apply EC.r0 | apply EC.k0 | apply EC.label | apply EC.b0 | apply EC.x0 | apply EC.ret | apply EK.n0 | apply EK.s0 | apply EK.aB | apply EK.au | apply EK.ah))
 refine EC.le (Le.pick [1, 2, 5, 3, 4, 0] [_, _, _, _, _, _] rfl (by decide) rfl) ?_
 refine EC.iL 11 [0, 1, 2, 3, 4, 9, 10] [5, 6, 7, 8] [_, _, _, _, _] _ (by kernel_rfl) (by kernel_rfl) rfl ?_
 simp only [bP, EY, Fb, EP, EU]
 repeat
  (first
   | (apply aS; iterate 3 rfl) | (apply aO; iterate 6 rfl) | (apply dD; iterate 7 rfl) | (apply bT; iterate 5 rfl)
   | (apply aU; rfl; exact I.a; iterate 4 rfl) | (apply bU; iterate 7 rfl) | (apply cO; iterate 5 rfl) | (apply aT; iterate 3 rfl)
   | (apply dB; iterate 3 rfl) | (apply dS; iterate 4 rfl) | (apply uV; iterate 4 rfl)
   | (apply dP; rfl; exact I.a; (focus (first | omega | (simp; done) | (simp; omega))); iterate 2 rfl)
   | (apply bY; rfl; exact I.a; (focus (first | omega | (simp; done) | (simp; omega))); iterate 5 rfl) | (apply gB; iterate 3 rfl)
   | ((with_reducible apply EH.nil); rfl) | ((with_reducible apply EH.jf); rfl; intro _) | ((with_reducible apply EH.jF); rfl; intro _ _))
 refine EM.nil ?_
 repeat (first | rw [Ed] | rw [Ee])
 refine CH.iT (rest := [_, _]) h1 rfl rfl (ak.refl _ _) (by intro _ _; simp [go_sem]) rfl rfl ?_
 rintro _ _ ⟨rfl, rfl⟩
 try simp only [St.put]
 repeat (first | rw [Ed] | rw [Ee])
 refine CH.cut 2 ?_
 simp only [Eh, Ep, Ef, Ej]
 repeat
  (first
   | (apply aS; iterate 3 rfl) | (apply aO; iterate 6 rfl) | (apply dD; iterate 7 rfl) | (apply bT; iterate 5 rfl)
   | (apply aU; rfl; exact I.a; iterate 4 rfl) | (apply bU; iterate 7 rfl) | (apply cO; iterate 5 rfl) | (apply aT; iterate 3 rfl)
   | (apply dB; iterate 3 rfl) | (apply dS; iterate 4 rfl) | (apply uV; iterate 4 rfl)
   | (apply dP; rfl; exact I.a; (focus (first | omega | (simp; done) | (simp; omega))); iterate 2 rfl)
   | (apply bY; rfl; exact I.a; (focus (first | omega | (simp; done) | (simp; omega))); iterate 5 rfl) | (apply gB; iterate 3 rfl)
   | ((with_reducible apply EH.nil); rfl) | ((with_reducible apply EH.jf); rfl; intro _) | ((with_reducible apply EH.jF); rfl; intro _ _))
 refine EM.nil ?_
 repeat (first | rw [Ed] | rw [Ee])
 refine CH.iT (rest := []) h2 rfl rfl (ak.refl _ _) (by intro _ _; simp [go_sem]) rfl rfl ?_
 rintro _ _ ⟨u', rfl, rfl⟩
 try simp only [St.put]
 repeat (first | rw [Ed] | rw [Ee])
 refine CH.nil ?_
 try simp only [Ef, Ej]
 repeat
  (first
   | (apply aA; iterate 3 rfl) | (apply aC; iterate 6 rfl) | (apply aY; iterate 7 rfl) | (apply aQ; iterate 5 rfl)
   | (apply aH; rfl; exact I.a; iterate 4 rfl) | (apply dA; iterate 7 rfl) | (apply aW; iterate 5 rfl) | (apply aK; iterate 3 rfl)
   | (apply bM; iterate 3 rfl) | (apply eU; iterate 4 rfl) | (apply xE; iterate 4 rfl)
   | (apply cu; rfl; exact I.a; (focus (first | omega | (simp; done) | (simp; omega))); iterate 2 rfl)
   | (apply aJ; rfl; exact I.a; (focus (first | omega | (simp; done) | (simp; omega))); iterate 5 rfl) | (apply bW; rfl; rfl; rfl; intro _)
   | (apply bF; rfl; exact saA; iterate 4 rfl) | ((with_reducible apply EK.h0); apply EK.round) | apply EL.nil
   | ((with_reducible apply EK.aZ); rfl)
   | (with_reducible first | apply EK.nc | apply EC.seq | apply EC.r0 | apply EC.k0 | apply EC.label | apply EC.b0 | apply EC.x0 | apply EC.ret | apply EK.n0 | apply EK.s0 | apply EK.aB | apply EK.au | apply EK.ah))
 exact EK.iI [stO g m u' k n, smO m c es, unO u' (fG ks us (nY a b)), mkO k ks, acO ga (if n' > 0 then n' else 0) w cd sv] rfl (by (repeat first | exact Em _ | apply List.Sublist.cons_cons | apply List.Sublist.cons)) ⟨rfl, u', rfl⟩
theorem lI {n' : Int} (h : aN es a = none) (hu : us.length < 1099511627776) : FnM 11 [.v (ptr g), .arr 20 a, .v (.int .i64 n')] [stO g m u k n, smO m c es, unO u us, mkO k ks] (fun r os' => r = .tpl [] ∧ ∃ u' ga gs, os' = [stO g m u' k n, smO m (bn c es a) (bG c es a (.v (ptr ga))), unO u' (fG ks us (nY a 0)), mkO k ks, acO ga (if n' > 0 then n' else 0) zero32 [] (.map (some gs)), .map gs 32 0 []]) := by
 have h1 := xQ (g := g) (m := m) (c := c) (u := u) (k := k) (n := n) h
 have h2 := lC (g := g) (m := m) (c := c) (u := u) (k := k) (n := n) (ks := ks) (T := 81) (d := .tup [.arr 20 a, .v (.int .i64 0)]) h hu
 refine FnM.walk 19 Try.func11 rfl Try.ntmps11 (by simp) fun X => ?_
 repeat
  (first
   | (apply aA; iterate 3 rfl) | (apply aC; iterate 6 rfl) | (apply aY; iterate 7 rfl) | (apply aQ; iterate 5 rfl)
   | (apply aH; rfl; exact I.a; iterate 4 rfl) | (apply dA; iterate 7 rfl) | (apply aW; iterate 5 rfl) | (apply aK; iterate 3 rfl)
   | (apply bM; iterate 3 rfl) | (apply eU; iterate 4 rfl) | (apply xE; iterate 4 rfl)
   | (apply cu; rfl; exact I.a; (focus (first | omega | (simp; done) | (simp; omega))); iterate 2 rfl)
   | (apply aJ; rfl; exact I.a; (focus (first | omega | (simp; done) | (simp; omega))); iterate 5 rfl) | (apply bW; rfl; rfl; rfl; intro _)
   | (apply bF; rfl; exact saA; iterate 4 rfl) | ((with_reducible apply EK.h0); apply EK.round) | apply EL.nil
   | ((with_reducible apply EK.aZ); rfl)
   | (with_reducible first | apply EK.nc | apply EC.seq | apply EC.r0 | apply EC.k0 | apply EC.label | apply EC.b0 | apply EC.x0 | apply EC.ret | apply EK.n0 | apply EK.s0 | apply EK.aB | apply EK.au | apply EK.ah))
 refine EC.le (Le.pick [1, 2, 3, 4, 0] [_, _, _, _, _] rfl (by decide) rfl) ?_
 refine EC.iL 11 [0, 1, 2, 3, 4, 9, 10] [5, 6, 7, 8] [_, _, _, _] _ (by kernel_rfl) (by kernel_rfl) rfl ?_
 simp only [bP, EY, Fb, EP, EU]
 repeat
  (first
   | (apply aS; iterate 3 rfl) | (apply aO; iterate 6 rfl) | (apply dD; iterate 7 rfl) | (apply bT; iterate 5 rfl)
   | (apply aU; rfl; exact I.a; iterate 4 rfl) | (apply bU; iterate 7 rfl) | (apply cO; iterate 5 rfl) | (apply aT; iterate 3 rfl)
   | (apply dB; iterate 3 rfl) | (apply dS; iterate 4 rfl) | (apply uV; iterate 4 rfl)
   | (apply dP; rfl; exact I.a; (focus (first | omega | (simp; done) | (simp; omega))); iterate 2 rfl)
   | (apply bY; rfl; exact I.a; (focus (first | omega | (simp; done) | (simp; omega))); iterate 5 rfl) | (apply gB; iterate 3 rfl)
   | ((with_reducible apply EH.nil); rfl) | ((with_reducible apply EH.jf); rfl; intro _) | ((with_reducible apply EH.jF); rfl; intro _ _))
 refine EM.nil ?_
 repeat (first | rw [Ed] | rw [Ee])
 refine CH.iT (rest := [_, _]) h1 rfl rfl (ak.refl _ _) (by intro _ _; simp [go_sem]) rfl rfl ?_
 rintro _ _ ⟨rfl, rfl⟩
 try simp only [St.put]
 repeat (first | rw [Ed] | rw [Ee])
 refine CH.cut 2 ?_
 simp only [Eh, Ep, Ef, Ej]
 repeat
  (first
   | (apply aS; iterate 3 rfl) | (apply aO; iterate 6 rfl) | (apply dD; iterate 7 rfl) | (apply bT; iterate 5 rfl)
   | (apply aU; rfl; exact I.a; iterate 4 rfl) | (apply bU; iterate 7 rfl) | (apply cO; iterate 5 rfl) | (apply aT; iterate 3 rfl)
   | (apply dB; iterate 3 rfl) | (apply dS; iterate 4 rfl) | (apply uV; iterate 4 rfl)
   | (apply dP; rfl; exact I.a; (focus (first | omega | (simp; done) | (simp; omega))); iterate 2 rfl)
   | (apply bY; rfl; exact I.a; (focus (first | omega | (simp; done) | (simp; omega))); iterate 5 rfl) | (apply gB; iterate 3 rfl)
   | ((with_reducible apply EH.nil); rfl) | ((with_reducible apply EH.jf); rfl; intro _) | ((with_reducible apply EH.jF); rfl; intro _ _))
 refine EM.nil ?_
 repeat (first | rw [Ed] | rw [Ee])
 refine CH.iT (rest := []) h2 rfl rfl (ak.refl _ _) (by intro _ _; simp [go_sem]) rfl rfl ?_
 rintro _ _ ⟨u', ga, gs, rfl, rfl⟩
 try simp only [St.put]
 repeat (first | rw [Ed] | rw [Ee])
 refine CH.nil ?_
 try simp only [Ef, Ej]
 repeat
  (first
   | (apply aA; iterate 3 rfl) | (apply aC; iterate 6 rfl) | (apply aY; iterate 7 rfl) | (apply aQ; iterate 5 rfl)
   | (apply aH; rfl; exact I.a; iterate 4 rfl) | (apply dA; iterate 7 rfl) | (apply aW; iterate 5 rfl) | (apply aK; iterate 3 rfl)
   | (apply bM; iterate 3 rfl) | (apply eU; iterate 4 rfl) | (apply xE; iterate 4 rfl)
   | (apply cu; rfl; exact I.a; (focus (first | omega | (simp; done) | (simp; omega))); iterate 2 rfl)
   | (apply aJ; rfl; exact I.a; (focus (first | omega | (simp; done) | (simp; omega))); iterate 5 rfl) | (apply bW; rfl; rfl; rfl; intro _)
   | (apply bF; rfl; exact saA; iterate 4 rfl) | ((with_reducible apply EK.h0); apply EK.round) | apply EL.nil
   | ((with_reducible apply EK.aZ); rfl)
   | (with_reducible first | apply EK.nc | apply EC.seq | apply EC.r0 | apply EC.k0 | apply EC.label | apply EC.b0 | apply EC.x0 | apply EC.ret | apply EK.n0 | apply EK.s0 | apply EK.aB | apply EK.au | apply EK.ah))
 refine EK.le (Le.pick [2, 3, 4, 5, 0, 1, 6] [_, _, _, _, _, _, _] rfl (by decide) rfl) ?_
 exact EK.iI [stO g m u' k n, smO m (bn c es a) (bG c es a (.v (ptr ga))), unO u' (fG ks us (nY a 0)), mkO k ks, acO ga (if n' > 0 then n' else 0) zero32 [] (.map (some gs)), .map gs 32 0 []] rfl (by (repeat first | exact Em _ | apply List.Sublist.cons_cons | apply List.Sublist.cons)) ⟨rfl, u', ga, gs, rfl⟩
end
end E
end Go.Proofs.Ytkhjanjlcdhdcaa
namespace Go.Proofs.Ytkhjanjlcdhdcaa
set_option linter.unusedVariables false
set_option maxHeartbeats 2000000
open Go.RowKit Mono Rlp
namespace E
def Visit (ops : Array Oper) (S : St) (o : Oper) (r : R) : Prop := ∃ os rest, S.objs.Perm (os ++ rest) ∧ pU ops ⟨S.regs, rest, S.facts⟩ o os (fun r' os' => r' = r ∧ os' = os)
def OkV (N : Nat) (ops : Array Oper) (S : St) (o : Oper) (i : Inf) : Prop := OkI N ops S o i ∨ ∃ r, i = .grow r ∧ guardOf ops S o = some true ∧ Visit ops S o r
def EV (N : Nat) (ops : Array Oper) (T : St → List Fr → Prop) : List Oper → St → List Fr → Prop
 | [], S, E => T S E
 | o :: l, S, E => ∃ inf : Inf, inf.sQ = true ∧ cZ N o.dst E = true ∧ ((∃ T d, inf = .new T d) → o.dst ≠ none) ∧ OkV N ops S o inf ∧ EV N ops T l (S.put o.dst inf.reg) (kV E o.dst inf)
section
variable {N : Nat} {X : Cx N} {S S' : St} {a : Act} {w w' : World} {ops : Array Oper} {o : Oper} {Q : Exit → Act → World → Prop} {l : List Oper} {T : St → List Fr → Prop} {E : List Fr}
theorem EV.nil (h : T S E) : EV N ops T [] S E := h
theorem EV.seg {l2 : List Oper} : ∀ (l1 : List Oper) (S : St) (E : List Fr), EM N ops (fun S' E' => EV N ops T l2 S' E') l1 S E → EV N ops T (l1 ++ l2) S E
 | [], S, E, h => h
 | o :: l1, S, E, ⟨inf, h0, h1, h2, h3, h4⟩ => ⟨inf, h0, h1, h2, .inl h3, EV.seg l1 _ _ h4⟩
theorem EV.cut (k : Nat) (h : EM N ops (fun S' E' => EV N ops T (l.drop k) S' E') (l.take k) S E) : EV N ops T l S E := by
 have := EV.seg _ _ _ h
 rwa [FT] at this
theorem EV.visit {r : R} (os rest : List Obj) (hg : guardOf ops S o = some true) (hd : cZ N o.dst E = true) (hp : S.objs.Perm (os ++ rest)) (hO : pU ops ⟨S.regs, rest, S.facts⟩ o os (fun r' os' => r' = r ∧ os' = os)) (k : EV N ops T l (S.put o.dst r) E) : EV N ops T (o :: l) S E :=
 ⟨.grow r, rfl, hd, (fun ⟨_, _, e⟩ => by cases e), .inr ⟨r, rfl, hg, os, rest, hp, hO⟩, k⟩
theorem xq : ∀ (l : List Oper) (S : St) (E : List Fr), EV N ops T l S E → ∃ infs : List Inf, infs.length = l.length ∧
  (∀ k o i, l[k]? = some o → infs[k]? = some i → OkV N ops (dJ S l infs k) o i ∧ (∀ t, o.dst = some t → t < N ∧ (∀ x ∈ E, x.1 ≠ t) ∧ ∀ j oj T d, j < k → l[j]? = some oj → infs[j]? = some (.new T d) → oj.dst ≠ some t) ∧ ((∃ T d, i = .new T d) → o.dst ≠ none)) ∧
  T (dJ S l infs l.length) (vW E l infs) ∧ ∀ (k : Nat) (i : Inf), infs[k]? = some i → i.sQ = true
 | [], S, E, h => ⟨[], rfl, (fun k o i h => by simp at h), h, fun k i h => by simp at h⟩
 | o :: l, S, E, h => by
  obtain ⟨inf, h0, h1, h1', h2, h3⟩ := h
  obtain ⟨infs, h4, h5, h6, h7⟩ := xq l _ _ h3
  have hoff : ∀ t, o.dst = some t → t < N ∧ ∀ x ∈ E, x.1 ≠ t := fun t ht => by
   rw [ht] at h1
   simp only [cZ, FD, decide_eq_true_eq] at h1
   exact ⟨h1.1, fun x hx => by simpa using E5.1 h1.2 x hx⟩
  refine ⟨inf :: infs, by simp [h4], fun k o' i hk hi => ?_, h6, fun k i hi => by
   cases k with
   | zero =>
    cases hi
    exact h0
   | succ k => exact h7 k i (by simpa using hi)⟩
  cases k with
  | zero =>
   cases hk
   cases hi
   exact ⟨h2, fun t ht => ⟨(hoff t ht).1, (hoff t ht).2, fun j _ _ _ hj => by omega⟩, h1'⟩
  | succ k =>
   obtain ⟨g1, g2, g3⟩ := h5 k o' i (by simpa using hk) (by simpa using hi)
   refine ⟨g1, fun t ht => ⟨(g2 t ht).1, fun x hx => (g2 t ht).2.1 x ?_, fun j oj T d hj hoj hij => ?_⟩, g3⟩
   ·
    unfold kV
    split
    ·
     split
     · exact EF _ hx
     · exact hx
    · exact hx
   ·
    cases j with
    | zero =>
     cases hoj
     cases hij
     intro e
     exact (g2 t ht).2.1 (t, T, d) (by unfold kV; rw [e]; simp) rfl
    | succ j => exact (g2 t ht).2.2 j oj T d (by omega) (by simpa using hoj) (by simpa using hij)
theorem Mem.perm {os os' : List Obj} {fs : List (Value × D)} (h : os.Perm os') (hm : Mem X os fs w) : Mem X os' fs w :=
 ((Le.perm (X := X) (rs := []) (fs := fs) h) ⟨Array.replicate N undef, []⟩ w ⟨hm, (fun t r hr => by cases hr), by simp, rfl⟩).mem
theorem qQ {os os' : List Obj} (h : os.Perm os') : X.ok os w = X.ok os' w := funext fun b => propext ⟨fun hb => ⟨hb.1, hb.2.1, fun o ho => hb.2.2 o (h.mem_iff.2 ho)⟩, fun hb => ⟨hb.1, hb.2.1, fun o ho => hb.2.2 o (h.mem_iff.1 ho)⟩⟩
abbrev Nw := Nat × Nat × TypeId × D
def Nw.pc (e : Nw) : Obj := .var e.2.1 e.2.2.1 e.2.2.2
theorem BG {α : Type} {R : α → α → Prop} (hs : ∀ x y, R x y → R y x) : ∀ {l : List α}, l.Pairwise R → ∀ x, x ∈ l → ∀ y, y ∈ l → x ≠ y → R x y
 | [], _, x, hx, _, _, _ => by cases hx
 | a :: l, h, x, hx, y, hy, hn => by
  obtain ⟨h1, h2⟩ := FB.1 h
  rcases Es.1 hx with e | hx' <;> rcases Es.1 hy with e' | hy'
  · exact absurd (e.trans e'.symm) hn
  · exact e ▸ h1 y hy'
  · exact e' ▸ hs _ _ (h1 x hx')
  · exact BG hs h2 x hx' y hy' hn
structure RV (X : Cx N) (S : St) (a : Act) (infs : List Inf) (L : Nat → Prop) (vs : Nat → Value) (u : World) (nw : List Nw) : Prop where
 nd : (nw.map (·.1)).Nodup
 ok : ∀ e ∈ nw, L e.1 ∧ infs[e.1]? = some (.new e.2.2.1 e.2.2.2) ∧ vs e.1 = .pointer (some ⟨e.2.1, 0, none⟩)
 all : ∀ j T d, L j → infs[j]? = some (.new T d) → ∃ e ∈ nw, e.1 = j
 mem : Mem X (nw.map Nw.pc ++ S.objs) S.facts u
 val : ∀ j i, L j → infs[j]? = some i → aV (X.ok (nw.map Nw.pc ++ S.objs) u) u i.reg (vs j)
 old : ∀ t r, look S.regs t = some r → aV (X.ok (nw.map Nw.pc ++ S.objs) u) u r (a.tmps.getD t undef)
theorem RV.same {infs : List Inf} {L : Nat → Prop} {vs : Nat → Value} {u u' : World} {nw : List Nw} (h : RV X S a infs L vs u nw) {k : Nat} {i : Inf} (hk : ¬ L k) (hi : infs[k]? = some i) (hn : ∀ T d, i ≠ .new T d) (v : Value) (hm : Mem X (nw.map Nw.pc ++ S.objs) S.facts u') (hok : ∀ b, X.ok (nw.map Nw.pc ++ S.objs) u b → X.ok (nw.map Nw.pc ++ S.objs) u' b) (hc : ∀ p : Addr, X.ok (nw.map Nw.pc ++ S.objs) u p.block → u'.cell? p = u.cell? p) (hv : aV (X.ok (nw.map Nw.pc ++ S.objs) u') u' i.reg v) : RV X S a infs (fun j => j = k ∨ L j) (fun j => if j = k then v else vs j) u' nw := by
 refine ⟨h.nd, fun e he => ?_, fun j T d hj hij => ?_, hm, fun j i' hj hij => ?_, fun t r hr => (h.old t r hr).mono hok hc⟩
 ·
  obtain ⟨h1, h2, h3⟩ := h.ok e he
  exact ⟨.inr h1, h2, by rw [if_neg (show ¬ e.1 = k from fun e' => hk (by rw [← e']; exact h1))]; exact h3⟩
 ·
  rcases hj with rfl | hj
  · exact absurd (FM (hi.symm.trans hij)) (hn T d)
  · exact h.all j T d hj hij
 ·
  by_cases e : j = k
  ·
   subst e
   rw [if_pos rfl]
   obtain rfl : i' = i := FM (hij.symm.trans hi)
   exact hv
  ·
   rw [if_neg e]
   exact (h.val j i' (hj.resolve_left e) hij).mono hok hc
theorem RV.new {infs : List Inf} {L : Nat → Prop} {vs : Nat → Value} {u : World} {nw : List Nw} (h : RV X S a infs L vs u nw) {k : Nat} {Ty : TypeId} {d : D} {cs : List Value} (hk : ¬ L k) (hi : infs[k]? = some (.new Ty d)) (hcs : Reads (X.ok (nw.map Nw.pc ++ S.objs) u) u d cs) : RV X S a infs (fun j => j = k ∨ L j) (fun j => if j = k then .pointer (some ⟨u.heap.size, 0, none⟩) else vs j) (u.alloc (.cells cs.toArray Ty)) ((k, u.heap.size, Ty, d) :: nw) := by
 have hgr := eF u (.cells cs.toArray Ty)
 have hok : ∀ b, X.ok (nw.map Nw.pc ++ S.objs) u b → X.ok (((k, u.heap.size, Ty, d) :: nw : List Nw).map Nw.pc ++ S.objs) (u.alloc (.cells cs.toArray Ty)) b := fun b hb => ⟨hb.1, EG hb.2.1 hgr.size, fun o ho e => by
  rw [EX, Ed] at ho
  rcases Es.1 ho with rfl | ho
  ·
   cases e
   exact absurd hb.2.1 (Nat.lt_irrefl _)
  · exact hb.2.2 o ho e⟩
 have hc : ∀ p : Addr, X.ok (nw.map Nw.pc ++ S.objs) u p.block → (u.alloc (.cells cs.toArray Ty)).cell? p = u.cell? p := fun p hp => hgr.cell hp.2.1
 refine ⟨?_, fun e he => ?_, fun j T' d' hj hij => ?_, ?_, fun j i' hj hij => ?_, fun t r hr => (h.old t r hr).mono hok hc⟩
 ·
  rw [EX]
  refine Gl.2 ⟨fun hm => ?_, h.nd⟩
  obtain ⟨e, he, e'⟩ := EW.1 hm
  have e2 : e.1 = k := e'
  exact hk (by rw [← e2]; exact (h.ok e he).1)
 ·
  rcases Es.1 he with rfl | he
  · exact ⟨.inl rfl, hi, if_pos rfl⟩
  ·
   obtain ⟨h1, h2, h3⟩ := h.ok e he
   exact ⟨.inr h1, h2, by rw [if_neg (show ¬ e.1 = k from fun e' => hk (by rw [← e']; exact h1))]; exact h3⟩
 ·
  rcases hj with rfl | hj
  · exact ⟨_, Et, rfl⟩
  ·
   obtain ⟨e, he, e'⟩ := h.all j T' d' hj hij
   exact ⟨e, List.mem_cons_of_mem _ he, e'⟩
 ·
  have hat : At X ⟨[], nw.map Nw.pc ++ S.objs, S.facts⟩ ⟨Array.replicate N undef, []⟩ u := ⟨h.mem, (fun t r hr => by cases hr), by simp, rfl⟩
  exact (hat.new (q := .var u.heap.size Ty d) rfl ⟨.inr h.mem.gr.size, cs, heap_alloc_new u _, Reads.mono hok hc _ _ hcs⟩).mem
 ·
  by_cases e : j = k
  ·
   subst e
   obtain rfl : i' = .new Ty d := FM (hij.symm.trans hi)
   trivial
  ·
   rw [if_neg e]
   exact (h.val j i' (hj.resolve_left e) hij).mono hok hc
theorem EC.BQ {id : Nat} (n : Nat) (hB : monoB l.toArray n N = true) (h : EV N l.toArray (fun S' E => kU (EL X l.toArray Q (l.drop n)) E S') (l.take n) S []) : EC X Q (.region id l.toArray true) S := by
 constructor
 intro a ws ha
 obtain ⟨infs, hlen, hok, hT, hnp⟩ := xq _ _ _ h
 have hle : n ≤ l.length := by simpa using (fQ hB).le
 have hln : (l.take n).length = n := by simp; omega
 rw [hln] at hlen hT
 have htake : ∀ k, k < n → (l.take n)[k]? = l[k]? := fun k hk => by rw [Hf, if_pos hk]
 have hdst : ∀ k o, l[k]? = some o → bD l.toArray k = o.dst := fun k o ho => by unfold bD; simp [ho]
 have hread : ∀ k L vs (b : Act) u nw t r, k ≤ n → RV X S a infs L vs u nw → jC l.toArray L vs a b k t → look (dJ S (l.take n) infs k).regs t = some r → aV (X.ok (nw.map Nw.pc ++ S.objs) u) u r (b.tmps.getD t undef) := fun k L vs b u nw t r hk hG hs hr => by
  have hlk := dV (l.take n) infs k S t (by rw [hlen, hln]) (by omega)
  rcases hs with ⟨j, h1, h2, h3, h4, h5⟩ | ⟨h1, h2⟩
  ·
   have hjl : j < l.length := by omega
   have hoj : l[j]? = some l[j] := by simp
   have hij : infs[j]? = some infs[j] := by simp
   rw [hlk.1 j l[j] infs[j] h1 (by rw [htake j (by omega)]; exact hoj) hij (by rw [← hdst j _ hoj]; exact h2) fun m om h6 h7 hom => by
    rw [htake m (by omega)] at hom
    rw [← hdst m _ hom]
    exact h3 m h6 h7] at hr
   cases hr
   rw [h5]
   exact hG.val j _ h4 hij
  ·
   rw [hlk.2 fun j oj hj hoj => by
    rw [htake j (by omega)] at hoj
    rw [← hdst j _ hoj]
    exact h1 j hj] at hr
   rw [h2]
   exact hG.old t r hr
 refine iG n (by kernel_rfl) (by rw [ha.size]; exact hB) (fun L vs u => ∃ nw, RV X S a infs L vs u nw) ?_ ?_ ?_ ?_
 ·
  rintro L L' vs vs' w hL hvs ⟨nw, hG⟩
  obtain rfl : L = L' := funext fun j => propext (hL j)
  exact ⟨nw, hG.nd, fun e he => (by obtain ⟨h1, h2, h3⟩ := hG.ok e he; exact ⟨h1, h2, by rw [← hvs _ h1]; exact h3⟩), hG.all, hG.mem, fun j i hj hi => (by rw [← hvs j hj]; exact hG.val j i hj hi), hG.old⟩
 ·
  have had : At X S a ws.drew := ha.gr (by exact ⟨rfl, rfl, rfl, ED _, fun _ _ => rfl⟩)
  exact ⟨[], F6, (fun e he => by cases he), (fun j T d hj => hj.elim), had.mem, (fun j i hj => hj.elim), had.regs⟩
 ·
  intro k o L vs b u hk ho hL hLk ⟨nw, hG⟩ hslot hwait
  obtain ⟨i, hi⟩ : ∃ i, infs[k]? = some i := ⟨infs[k], by simp [hlen, hk]⟩
  obtain ⟨hO, hof, _⟩ := hok k o i (by rw [htake k hk]; exact ho) hi
  have hkn : Kn X.mine (X.ok (nw.map Nw.pc ++ S.objs) u) (fun t => t ∈ o.looksAt l.toArray) (dJ S (l.take n) infs k) b u := by
   refine ⟨fun p hp => ?_, fun f hf => ?_, fun b hb => hb.2.1, fun t r ht hr => hread k L vs b u nw t r (Nat.le_of_lt hk) hG (hslot t ht) hr⟩
   ·
    rw [(aP _ _ _ _).1] at hp
    exact hG.mem.at_ p (EN _ hp)
   ·
    rw [(aP _ _ _ _).2] at hf
    exact hG.mem.fact f hf
  rcases hO with hO | ⟨r, rfl, hg, os, rest, hp, hM⟩
  ·
   cases i with
   | still r =>
    obtain ⟨hg, hSt⟩ := hO
    refine ⟨fun _ => ?_, fun hw => by rw [bf hkn hg] at hw; cases hw⟩
    obtain ⟨v, e1, e2⟩ := hSt _ _ b u hkn
    rw [e1]
    exact ⟨nw, hG.same hLk hi (fun _ _ e => by cases e) v hG.mem (fun _ h => h) (fun _ _ => rfl) e2⟩
   | grow r =>
    obtain ⟨hg, hSt⟩ := hO
    refine ⟨fun _ => eu (hSt _ _ b u hkn) (fun v w' hgr hv => ?_), fun hw => by rw [bf hkn hg] at hw; cases hw⟩
    obtain ⟨r', rfl, hv⟩ := hv
    exact ⟨nw, hG.same hLk hi (fun _ _ e => by cases e) v (hG.mem.grown hgr) (fun b hb => qc hgr hb) (fun p hp => lM hgr p hp) (hv.mono (fun b hb => nT hG.mem hgr hb) fun _ _ => rfl)⟩
   | put p q => cases hnp _ _ hi
   | skip =>
    refine ⟨fun hw => (by rw [bf hkn hO] at hw; cases hw), fun _ => ?_⟩
    exact ⟨nw, hG.same hLk hi (fun _ _ e => by cases e) undef hG.mem (fun _ h => h) (fun _ _ => rfl) ⟨[], rfl, rfl⟩⟩
   | new T d =>
    obtain ⟨hg, hSt⟩ := hO
    refine ⟨fun _ => ?_, fun hw => by rw [bf hkn hg] at hw; cases hw⟩
    obtain ⟨cs, e1, e2⟩ := hSt _ _ b u hkn
    rw [e1]
    exact ⟨_, hG.new hLk hi e2⟩
  ·
   refine ⟨fun _ => ?_, fun hw => by rw [bf hkn hg] at hw; cases hw⟩
   rw [(aP _ _ _ _).1] at hp
   have hpp : (nw.map Nw.pc ++ S.objs).Perm (os ++ (rest ++ nw.map Nw.pc)) := by
    refine Fj.trans ?_
    rw [← Ey]
    exact hp.append_right _
   have hm := Mem.perm hpp hG.mem
   have hokp : X.ok (nw.map Nw.pc ++ S.objs) u = X.ok (os ++ (rest ++ nw.map Nw.pc)) u := qQ hpp
   have hM' := hM.go X.mine (X.ok (os ++ (rest ++ nw.map Nw.pc)) u) b u ⟨fun q hq => hm.at_ q (EN _ (EF _ hq)), (by rw [(aP _ _ _ _).2, ← hokp]; exact hG.mem.fact), fun b hb => hb.2.1, fun t r ht hr => hokp ▸ hkn.regs t r ht hr⟩ hm.own
   refine mZ hM' fun v u' ⟨r', os', ⟨e1, e2⟩, e3, e4⟩ => ?_
   subst e1 e2
   have hm' := hm.turned e3
   refine ⟨nw, hG.same hLk hi (fun _ _ e => by cases e) v (Mem.perm hpp.symm hm') (fun b hb => ?_) (fun p hp => ?_) ?_⟩
   ·
    rw [hokp] at hb
    rw [qQ hpp]
    exact jk hm e3 hb
   ·
    rw [hokp] at hp
    exact turned_cell hm e3 p hp
   ·
    rw [qQ hpp]
    exact e4.mono (fun b hb => iY hm e3 hb) fun _ _ => rfl
 ·
  intro vs u b ⟨nw, hG⟩ hs hd hslot
  have hgood : Good X (X.ok (nw.map Nw.pc ++ S.objs) u) (dJ S (l.take n) infs n) b u := by
   refine ⟨fun p hp => ?_, ?_, fun p hp b hb => ?_, fun f hf => ?_, fun t r hr => hread n _ vs b u nw t r (ED _) hG (hslot t) hr⟩
   ·
    rw [(aP _ _ _ _).1] at hp
    exact hG.mem.at_ p (EN _ hp)
   ·
    rw [(aP _ _ _ _).1]
    exact (Fg.1 hG.mem.apart).2.1
   ·
    rw [(aP _ _ _ _).1] at hp
    exact hb.2.2 p (EN _ hp)
   ·
    rw [(aP _ _ _ _).2] at hf
    exact hG.mem.fact f hf
  let gOf : Nat → Nat := fun j => match vs j with
   | .pointer (some p) => p.block
   | _ => 0
  have hfr : ∀ j T d, infs[j]? = some (.new T d) → ∃ e ∈ nw, e.1 = j ∧ e.2.1 = gOf j ∧ e.2.2.1 = T ∧ e.2.2.2 = d ∧ vs j = .pointer (some ⟨gOf j, 0, none⟩) := fun j T d hj => by
   have hjn : j < n := by
    have := (Ew.1 hj).1
    omega
   obtain ⟨e, he, rfl⟩ := hG.all j T d hjn hj
   obtain ⟨_, h2, h3⟩ := hG.ok e he
   have hg : gOf e.1 = e.2.1 := by simp only [gOf, h3]
   have := FM (hj.symm.trans h2)
   injection this with e1 e2
   exact ⟨e, he, rfl, hg.symm, e1.symm, e2.symm, by rw [hg]; exact h3⟩
  have hE := oU (l.take n) infs 0 []
  rw [Ee] at hE
  rw [hE] at hT
  have hmm : (dZ 0 (l.take n) infs).map (·.1) = ((dZ 0 (l.take n) infs).map fun e => (e.1, gOf e.2)).map (·.1) := by simp [List.map_map, Function.comp_def]
  rw [hmm] at hT
  have hEL := mF _ _ hT
  have hap := Fg.1 hG.mem.apart
  have hpc : ∀ e ∈ nw, Nw.pc e ∈ nw.map Nw.pc := fun e he => EW.2 ⟨e, he, rfl⟩
  have hfe : ∀ e0 ∈ dZ 0 (l.take n) infs, ∃ e ∈ nw, e.1 = e0.2 ∧ e.2.1 = gOf e0.2 ∧ e.2.2.1 = e0.1.2.1 ∧ e.2.2.2 = e0.1.2.2 ∧ vs e0.2 = .pointer (some ⟨gOf e0.2, 0, none⟩) ∧ e0.2 < n ∧ ∃ o, l[e0.2]? = some o ∧ o.dst = some e0.1.1 := fun e0 he0 => by
   obtain ⟨j, o, h1, h2, h3, h4⟩ := dO _ _ _ _ he0
   rw [Fe] at h1
   have hjn : j < n := by
    have := (Ew.1 h4).1
    omega
   obtain ⟨e, he, g1, g2, g3, g4, g5⟩ := hfr j _ _ h4
   rw [htake j hjn] at h2
   rw [h1]
   exact ⟨e, he, g1, g2, g3, g4, g5, hjn, o, h2, h3⟩
  refine hEL.go b u ((Good.ext _ _ hgood (fun e he => ?_) ?_ fun e he o ho => ?_).at hG.mem.gr (fun b hb => ⟨hb.1, hb.2.1⟩) (hs.trans ha.size) (hd.trans ha.defers))
  ·
   obtain ⟨e0, he0, rfl⟩ := EW.1 he
   obtain ⟨e1, he1, g1, g2, g3, g4, g5, hjn, o, ho, hdo⟩ := hfe e0 he0
   obtain ⟨hb, cs, hcs, hrd⟩ := hG.mem.at_ (Nw.pc e1) (EF _ (hpc e1 he1))
   rw [g2] at hb hcs
   rw [g3] at hcs
   rw [g4] at hrd
   refine ⟨hb, fun hz => hz.2.2 (Nw.pc e1) (EF _ (hpc e1 he1)) (by show some e1.2.1 = _; rw [g2]), ?_, cs, hcs, hrd⟩
   rcases hslot e0.1.1 with ⟨j', k1, k2, k3, k4, k5⟩ | ⟨k1, k2⟩
   ·
    have hjj : j' = e0.2 := by
     rcases Gq j' e0.2 with h | h | h
     · exact absurd ((hdst _ o ho).trans hdo) (k3 _ h hjn)
     · exact h
     ·
      exfalso
      have hoj' : l[j']? = some l[j'] := by simp
      have hij' : infs[j']? = some infs[j'] := by simp
      obtain ⟨_, h2, _⟩ := hG.ok e1 he1
      rw [g1] at h2
      exact ((hok j' l[j'] infs[j'] (by rw [htake j' k1]; exact hoj') hij').2.1 e0.1.1 (by rw [← hdst j' _ hoj']; exact k2)).2.2 e0.2 o _ _ h (by rw [htake _ hjn]; exact ho) h2 hdo
    subst hjj
    rw [k5]
    exact g5
   · exact absurd ((hdst _ o ho).trans hdo) (k1 _ hjn)
  ·
   have hnd := gJ (l.take n) infs 0
   rw [FQ]
   refine Gn.2 ?_
   refine (Gn.1 hnd).imp_of_mem fun {x y} hx hy hne e => ?_
   obtain ⟨e1, he1, g1, g2, _⟩ := hfe x hx
   obtain ⟨e2, he2, k1, k2, _⟩ := hfe y hy
   have : e1 ≠ e2 := fun e' => hne (by rw [← g1, ← k1, e'])
   have hpw := Gn.1 hap.1
   exact BG (R := fun x y : Nw => ∀ b, (Nw.pc x).blk = some b → (Nw.pc y).blk ≠ some b) (fun x y h b h1 h2 => h b h2 h1) hpw e1 he1 e2 he2 this _ rfl (by show some e2.2.1 = some e1.2.1; rw [g2, k2]; exact congrArg some e.symm)
  ·
   obtain ⟨e0, he0, rfl⟩ := EW.1 he
   obtain ⟨e1, he1, g1, g2, _⟩ := hfe e0 he0
   rw [(aP _ _ _ _).1] at ho
   intro e'
   exact hap.2.2 (Nw.pc e1) (hpc e1 he1) o ho _ rfl (by rw [e', ← g2])
theorem EV.nil0 {l' : List Oper} (h : EL X ops Q l' S) : EV N ops (fun S' E => kU (EL X ops Q l') E S') [] S [] := h
theorem EV.jf {l' : List Oper} {t : Tmp} {Ty : TypeId} {d : D} {rs : List (Tmp × R)} {os : List Obj} {fs : List (Value × D)} (h : ∀ g, EL X ops Q l' ⟨(t, .val (.v (.pointer (some ⟨g, 0, none⟩)))) :: rs, .var g Ty d :: os, fs⟩) : EV N ops (fun S' E => kU (EL X ops Q l') E S') [] ⟨rs, os, fs⟩ [(t, Ty, d)] := h
end

theorem zW (l m : List UInt8) : Bin .eql 33 (.arr 20 l) (.arr 20 m) (.bool (l == m)) ∧ Bin .neq 33 (.arr 20 l) (.arr 20 m) (.bool (l != m)) :=
 xA Try.underlying33 Try.underlying5 (fun w => by kernel_rfl) (by kernel_rfl) l m
abbrev fH : Value := .slice none 0 0
theorem bv8 (n : Nat) : bv (UInt8.ofNat n) = .int .u8 ((n % 256 : Nat) : Int) := by
 unfold bv
 rw [show (UInt8.ofNat n).toNat = n % 256 from rfl]
abbrev n64 (n : Nat) : Value := .int .i64 (n : Int)
theorem y9 (n : Nat) (h : n < 9223372036854775808) : IntKind.i64.wrap (n : Int) = (n : Int) := IntWalk.i64_in _ ⟨by omega, by omega⟩
theorem qg (a : Nat) (h : a < 18446744073709551616) : (BitVec.ofInt 64 (a : Int)).toNat = a := by
 rw [BitVec.toNat_ofInt]
 omega
theorem AU (a b : Nat) (ha : a < 9223372036854775808) (hb : b < 9223372036854775808) : bits .and .i64 (a : Int) (b : Int) = ((a &&& b : Nat) : Int) := by
 have h : a &&& b ≤ a := Nat.and_le_left
 show IntKind.i64.wrap (((BitVec.ofInt 64 (a : Int) &&& BitVec.ofInt 64 (b : Int)).toNat : Nat) : Int) = _
 rw [BitVec.toNat_and, qg a (by omega), qg b (by omega)]
 exact y9 _ (by omega)
theorem xB (T : TypeId) (x k : Nat) (hx : x < 9223372036854775808) (hk : k < 63) (m : Int) (hm : m = ((2 ^ k - 1 : Nat) : Int)) : Bin .and T (.v (n64 x)) (.v (.int .i64 m)) (n64 (x % 2 ^ k)) := zV rfl fun w => by
 subst hm
 have hp : 2 ^ k - 1 < 9223372036854775808 := by
  have : 2 ^ k < 2 ^ 63 := Nat.pow_lt_pow_right (by decide) hk
  omega
 show Result.ok (Value.int .i64 (bits .and .i64 (x : Int) ((2 ^ k - 1 : Nat) : Int))) w = _
 rw [AU x _ hx hp, Nat.and_two_pow_sub_one_eq_mod]
theorem Dt (T : TypeId) (x k : Nat) (hk : k < 64) : Bin .shr T (.v (n64 x)) (.v (.int .u64 (k : Int))) (n64 (x / 2 ^ k)) := zV rfl fun w => by
 have h1 : ¬ ((k : Int) < 0) := by omega
 have h2 : min ((k : Int)).toNat IntKind.i64.bits = k := by
  rw [Int.toNat_natCast]
  exact He (Nat.le_of_lt hk)
 have h3 : (x : Int).fdiv (2 ^ k) = ((x / 2 ^ k : Nat) : Int) := by
  rw [Int.fdiv_eq_ediv_of_nonneg _ (Int.le_of_lt (Int.pow_pos (by decide)))]
  simp
 show (Op.shift .shr .i64 (x : Int) .u64 (k : Int)).run Try.prog w = _
 unfold Op.shift
 rw [if_neg h1]
 simp only [h2, h3, Eu]
end E
end Go.Proofs.Ytkhjanjlcdhdcaa
namespace Go.Proofs.Ytkhjanjlcdhdcaa
set_option linter.unusedVariables false
open Go.RowKit Mono Rlp
open Go.ChangeMaps (setBlock)
namespace E
theorem gu.left {α β : Type} {R : α → β → Prop} : ∀ {l : List α} {m : List β}, gu R l m → ∀ a ∈ l, ∃ b ∈ m, R a b
 | _, _, .nil, a, h => by cases h
 | _, _, .cons h1 h2, a, h => by
  rcases Es.1 h with rfl | h
  · exact ⟨_, Et, h1⟩
  ·
   obtain ⟨b, hb, hr⟩ := h2.left a h
   exact ⟨b, List.mem_cons_of_mem _ hb, hr⟩
theorem gu.right {α β : Type} {R : α → β → Prop} : ∀ {l : List α} {m : List β}, gu R l m → ∀ b ∈ m, ∃ a ∈ l, R a b
 | _, _, .nil, a, h => by cases h
 | _, _, .cons h1 h2, a, h => by
  rcases Es.1 h with rfl | h
  · exact ⟨_, Et, h1⟩
  ·
   obtain ⟨b, hb, hr⟩ := h2.right a h
   exact ⟨b, List.mem_cons_of_mem _ hb, hr⟩
end E
end Go.Proofs.Ytkhjanjlcdhdcaa
namespace Go.Proofs.Ytkhjanjlcdhdcaa
set_option linter.unusedVariables false
open Go.RowKit Mono Rlp
namespace E
def yV (l : List Oper) (chain done : List Nat) : List Nat := chain.filter fun k => !done.contains k && match l[k]? with
 | some o => o.after.toList.all fun e => !(Region.binds .any e) || !chain.contains e.on || done.contains e.on
 | none => true
def CT (N : Nat) (l : List Oper) (os1 : List Obj) (T : St → Prop) (chain : List Nat) : Nat → List Nat → St → Prop
 | 0, _, S => T S
 | m + 1, done, S => ∀ k ∈ yV l chain done, CH N l.toArray os1 (fun S' => CT N l os1 T chain m (k :: done) S') (bP l [k]) S
theorem CT.pick {N : Nat} {l : List Oper} {os1 : List Obj} {T : St → Prop} {chain : List Nat} {m : Nat} {done : List Nat} {S : St} (ks : List Nat) (hk : yV l chain done = ks) (h : ∀ k ∈ ks, CH N l.toArray os1 (fun S' => CT N l os1 T chain m (k :: done) S') (bP l [k]) S) : CT N l os1 T chain (m + 1) done S := by
 unfold CT
 rw [hk]
 exact h
theorem CT.nil {N : Nat} {l : List Oper} {os1 : List Obj} {T : St → Prop} {chain : List Nat} {done : List Nat} {S : St} (h : T S) : CT N l os1 T chain 0 done S := h
section
variable {N : Nat} {X : Cx N} {S : St} {ops : Array Oper} {o : Oper} {Q : Exit → Act → World → Prop} {l : List Oper} {TT : St → List Fr → Prop} {EE : List Fr} {rs : List (Tmp × R)} {os : List Obj} {fs : List (Value × D)}
theorem Still.refine {d d' : D} (h : Still ops S o (.val d)) (hR : ak S.facts [d] [d']) : Still ops S o (.val d') := fun base ok a w ha => by
 obtain ⟨v, h1, h2⟩ := h base ok a w ha
 exact ⟨v, h1, Refine1.oG ha.facts hR h2⟩
end
end E
end Go.Proofs.Ytkhjanjlcdhdcaa
namespace Go.Proofs.Ytkhjanjlcdhdcaa
set_option linter.unusedVariables false
set_option maxHeartbeats 1000000
open Go.RowKit Mono Rlp
theorem Dn (v : Value) (l : List UInt8) (w : World) (h : IsB w v l) (hl : l.length ≤ 140737488355328) : Calls Try.prog 16 #[v] w (Ret (fun v w' => OwnB w' w.heap.size v l) w) := by
 obtain ⟨A, c, rfl, hc1, hc2, hr⟩ := h
 cases A with
 | none =>
  have hl0 : l = [] := by
   by_cases hn : bvs l = []
   · simpa [bvs] using hn
   ·
    obtain ⟨b, o, e, _⟩ := hr hn
    cases e
  subst hl0
  clear hr
  have hq := Lib.run_eql_slice_nil w 43 5 none 0 c 0 0 Try.underlying43
  go_enter Try.func16, Try.ntmps16
  go_wp2
  refine bodyPost_ret (results_tmp rfl _ _ _) rfl ?_
  exact ⟨_, rfl, Gr.refl _, OwnB.nil _ _⟩
 | some a =>
  have HR := Lib.hid hr
  clear hr
  have hq := Lib.run_eql_slice_nil w 43 5 (some a) l.length c 0 0 Try.underlying43
  go_enter Try.func16, Try.ntmps16
  go_wp2_with (at_builtin; refine vg (.tmp 5) (.tmp 6) 43 xM (base := w.heap.size) _ 0 [] _ l.length c w.heap.size (bvs l) rfl rfl rfl rfl (AB w #[] 5 1 0 w.heap.size w.heap.size rfl (ED _) (by simp [maxLen]) rfl) (HR.out.below ((Below.refl _ _).alloc (ED _) _)) (by simp [bvs]) (nV _) (by simp only [maxLen]; omega) (by omega) (by simp) ?_; intro A2 c2 w2 hown2 hg2 _)
  refine bodyPost_ret (results_tmp rfl _ _ _) rfl ?_
  refine ⟨_, rfl, ((Below.refl _ _).alloc (ED _) _).grown hg2 (by simp) (fun j hj => by cases hj; exact ED _), ?_⟩
  rw [Fe, Ee] at hown2
  exact hown2
namespace E
theorem xk (l : List UInt8) (hl : l.length ≤ 140737488355328) : Fn 16 [.bs l] (· = .val (.bs l)) := ⟨fun ok w xs hok hr => by
 obtain ⟨x, _, rfl, hx, rfl⟩ := hr
 refine (Dn x l w (Dc hok hx) hl).mono ?_
 rintro e w' ⟨v, rfl, hg, ho⟩
 exact ⟨hg, v, .val (.bs l), rfl, rfl, (dN rfl).2 (by rw [Reads]; exact ⟨v, rfl, wE.mono (CS ho) (fun b hb => ⟨.inr hb.1, hb.2⟩) fun _ _ => rfl⟩)⟩⟩
end E
end Go.Proofs.Ytkhjanjlcdhdcaa
namespace Go.Proofs.Ytkhjanjlcdhdcaa
set_option linter.unusedVariables false
set_option maxRecDepth 20000
set_option maxHeartbeats 4000000
open Go.RowKit Mono Rlp Wd
namespace E
def slE (ss : List Ent) (k : List UInt8) : D := (aN ss k).getD (.arr 32 zero32)
section
variable {g m c ga gs sc : Nat} {u k : Value} {n : Int} {es ss : List Ent} {a w cd q : List UInt8} {us ks : List D} {b : Int}
theorem Ar {v : List UInt8} (h : aN es a = some (.v (ptr ga))) (hv : slE ss q = .arr 32 v) : FnM 27 [.v (ptr g), .arr 20 a, .arr 32 q] [stO g m u k n, smO m c es, acO ga b w cd (.map (some gs)), .map gs 32 sc ss] (fun r os' => r = .val (.arr 32 v) ∧ os' = [stO g m u k n, smO m c es, acO ga b w cd (.map (some gs)), .map gs 32 sc ss]) := by
 have h1 := BH (g := g) (m := m) (c := c) (u := u) (k := k) (n := n) h
 have hg : (aN ss q).getD (.arr 32 zero32) = .arr 32 v := hv
 refine FnM.walk 15 Try.func27 rfl Try.ntmps27 (by simp) fun X => ?_
 repeat
  (first
   | (apply fF; rfl; rfl; rfl; intro _) | (apply bW; rfl; rfl; rfl; intro _) | apply EL.nil
   | (with_reducible first | apply EK.nc | apply EC.seq | apply EC.r0))
 rename_i g1 g2 g3
 refine EC.le (Le.pick [3, 4, 5, 6, 0, 1, 2] [_, _, _, _, _, _, _] rfl (by decide) rfl) ?_
 refine EC.iL 8 [0, 1, 6] [2, 3, 4, 5, 7] [_, _, _, _] _ (by kernel_rfl) (by kernel_rfl) rfl ?_
 simp only [bP, EY, Fb, EP, EU]
 repeat
  (first
   | (apply aS; iterate 3 rfl) | (apply aU; rfl; exact I.a; iterate 4 rfl))
 refine EM.nil ?_
 repeat (first | rw [Ed] | rw [Ee])
 refine CH.iT (rest := [_, _]) h1 rfl rfl (ak.refl _ _) (by intro _ _; simp [go_sem]) rfl rfl ?_
 rintro _ _ ⟨rfl, rfl⟩
 try simp only [St.put]
 repeat (first | rw [Ed] | rw [Ee])
 refine CH.cut 4 ?_
 simp only [Eh, Ep, Ef, Ej]
 repeat
  (first
   | (apply dn; exact hg; rfl; (first | exact I0 | exact I1 | exact I2 | exact I3 | exact I4 | exact I5); iterate 5 rfl) | (apply aO; iterate 6 rfl)
   | (apply aU; rfl; exact I.a; iterate 4 rfl) | (apply aT; iterate 3 rfl))
 refine EM.nil ?_
 repeat (first | rw [Ed] | rw [Ee])
 refine CH.nil ?_
 try simp only [Ef, Ej]
 repeat
  (first
   | (apply bF; rfl; exact saA; iterate 4 rfl) | apply EL.nil | ((with_reducible apply EK.h0); apply EK.code)
   | (with_reducible apply EC.ret))
 exact EK.wG 4 [stO g m u k n, smO m c es, acO ga b w cd (.map (some gs)), .map gs 32 sc ss] rfl rfl rfl rfl (by repeat first | exact ak.refl _ _ | exact RL.nil | exact Rf.same) (by (repeat first | exact Em _ | apply List.Sublist.cons_cons | apply List.Sublist.cons)) ⟨rfl, rfl⟩
theorem yO (h : aN es a = none) : FnM 27 [.v (ptr g), .arr 20 a, .arr 32 q] [stO g m u k n, smO m c es] (fun r os' => r = .val (.arr 32 zero32) ∧ os' = [stO g m u k n, smO m c es]) := by
 have h1 := y8 (g := g) (m := m) (c := c) (u := u) (k := k) (n := n) h
 refine FnM.walk 15 Try.func27 rfl Try.ntmps27 (by simp) fun X => ?_
 repeat
  (first
   | (apply fF; rfl; rfl; rfl; intro _) | (apply bW; rfl; rfl; rfl; intro _) | apply EL.nil
   | (with_reducible first | apply EK.nc | apply EC.seq | apply EC.r0))
 rename_i g1 g2 g3
 refine EC.le (Le.pick [3, 4, 0, 1, 2] [_, _, _, _, _] rfl (by decide) rfl) ?_
 refine EC.iL 8 [0, 1, 6] [2, 3, 4, 5, 7] [_, _] _ (by kernel_rfl) (by kernel_rfl) rfl ?_
 simp only [bP, EY, Fb, EP, EU]
 repeat
  (first
   | (apply aS; iterate 3 rfl) | (apply aU; rfl; exact I.a; iterate 4 rfl))
 refine EM.nil ?_
 repeat (first | rw [Ed] | rw [Ee])
 refine CH.iT (rest := []) h1 rfl rfl (ak.refl _ _) (by intro _ _; simp [go_sem]) rfl rfl ?_
 rintro _ _ ⟨gz, rfl, rfl⟩
 try simp only [St.put]
 repeat (first | rw [Ed] | rw [Ee])
 refine CH.cut 4 ?_
 simp only [Eh, Ep, Ef, Ej]
 repeat
  (first
   | (apply uX; iterate 6 rfl) | (apply aO; iterate 6 rfl) | (apply aU; rfl; exact I.a; iterate 4 rfl) | (apply aT; iterate 3 rfl))
 refine EM.nil ?_
 repeat (first | rw [Ed] | rw [Ee])
 refine CH.nil ?_
 try simp only [Ef, Ej]
 repeat
  (first
   | (apply bF; rfl; exact saA; iterate 4 rfl) | apply EL.nil | ((with_reducible apply EK.h0); apply EK.code)
   | (with_reducible apply EC.ret))
 exact EK.wG 3 [stO g m u k n, smO m c es] rfl rfl rfl rfl (by repeat first | exact ak.refl _ _ | exact RL.nil | exact Rf.same) (by (repeat first | exact Em _ | apply List.Sublist.cons_cons | apply List.Sublist.cons)) ⟨rfl, rfl⟩
theorem nS : FnM 17 [.v (ptr ga), .arr 32 q, .arr 32 zero32] [acO ga b w cd (.map (some gs)), .map gs 32 sc ss] (fun r os' => r = .tpl [] ∧ os' = [acO ga b w cd (.map (some gs)), .map gs 32 sc (fV ss q)]) := by
 have hz := (lY zero32 zero32).1
 rw [beq_self_eq_true] at hz
 refine FnM.walk 20 Try.func17 rfl Try.ntmps17 (by simp) fun X => ?_
 repeat
  (first
   | (apply gX; (iterate 2 rfl); exact hz; iterate 2 rfl) | (apply aH; rfl; exact I.a; iterate 4 rfl) | (apply aW; iterate 5 rfl)
   | (apply bW; rfl; rfl; rfl; intro _) | apply EL.nil | (apply EC.t0; rfl)
   | (with_reducible first | apply EK.nc | apply EC.seq | apply EC.r0))
 refine EC.draw 5 (by kernel_rfl) ?_
 simp only [Eh, Ep, Ef, Ej]
 repeat
  (first
   | (apply aS; iterate 3 rfl) | (apply aO; iterate 6 rfl) | (apply aU; rfl; exact I.a; iterate 4 rfl) | (apply aT; iterate 3 rfl)
   | ((with_reducible apply EH.nil); rfl))
 repeat
  (first
   | (apply uQ; rfl; exact saA; iterate 3 rfl) | apply EL.nil
   | (with_reducible first | apply EK.nc | apply EC.ret | apply EK.au))
 exact EK.CO [acO ga b w cd (.map (some gs)), .map gs 32 sc (fV ss q)] rfl (by (repeat first | exact Em _ | apply List.Sublist.cons_cons | apply List.Sublist.cons)) ⟨rfl, rfl⟩
theorem nR {v : List UInt8} (hv : (v == zero32) = false) : FnM 17 [.v (ptr ga), .arr 32 q, .arr 32 v] [acO ga b w cd (.map (some gs)), .map gs 32 sc ss] (fun r os' => r = .tpl [] ∧ os' = [acO ga b w cd (.map (some gs)), .map gs 32 (bn sc ss q) (bG sc ss q (.arr 32 v))]) := by
 have hz := (lY v zero32).1
 rw [hv] at hz
 refine FnM.walk 20 Try.func17 rfl Try.ntmps17 (by simp) fun X => ?_
 repeat
  (first
   | (apply gX; (iterate 2 rfl); exact hz; iterate 2 rfl) | (apply aH; rfl; exact I.a; iterate 4 rfl) | (apply aW; iterate 5 rfl)
   | (apply bW; rfl; rfl; rfl; intro _) | apply EL.nil | (apply EC.f0; rfl)
   | (with_reducible first | apply EK.nc | apply EC.seq | apply EC.r0 | apply EC.k0))
 refine EC.draw 6 (by kernel_rfl) ?_
 simp only [Eh, Ep, Ef, Ej]
 repeat
  (first
   | (apply aS; iterate 3 rfl) | (apply aO; iterate 6 rfl) | (apply aU; rfl; exact I.a; iterate 4 rfl) | (apply aT; iterate 3 rfl)
   | ((with_reducible apply EH.nil); rfl))
 repeat
  (first
   | (apply eH; rfl; exact saA; iterate 4 rfl) | apply EL.nil)
 exact EK.iI [acO ga b w cd (.map (some gs)), .map gs 32 (bn sc ss q) (bG sc ss q (.arr 32 v))] rfl (by (repeat first | exact Em _ | apply List.Sublist.cons_cons | apply List.Sublist.cons)) ⟨rfl, rfl⟩
end
end E
end Go.Proofs.Ytkhjanjlcdhdcaa
