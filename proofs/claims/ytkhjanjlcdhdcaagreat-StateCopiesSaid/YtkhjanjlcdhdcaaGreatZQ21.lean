/-
 Merged: lemmas of this claim.
 Conditions: none.
-/
import Derived.Test.YtkhjanjlcdhdcaaGreatZQ11
import Derived.Test.YtkhjanjlcdhdcaaGreatZQ18
import Derived.Test.YtkhjanjlcdhdcaaGreatZQ20
import Derived.Test.YtkhjanjlcdhdcaaGreatZQ13
import Derived.Test.YtkhjanjlcdhdcaaGreatZQ12
import Derived.Test.YtkhjanjlcdhdcaaGreatZQ16
import Derived.Test.YtkhjanjlcdhdcaaGreatZQ19
import Derived.Test.YtkhjanjlcdhdcaaGreatZQ17
import Derived.Test.YtkhjanjlcdhdcaaGreatZQ0
namespace Go.Proofs.YtkhjanjlcdhdcaaGreat
set_option linter.unusedVariables false
set_option maxRecDepth 20000
set_option maxHeartbeats 8000000
open Go.RowKit Mono Rlp Wd
namespace E
theorem Bf (B u v : Nat) (hu : u < B) (hv : v < B) : (u + v) % B < v ↔ (u + v) % B < u := by
 by_cases h : u + v < B
 ·
  rw [Ns h]
  omega
 ·
  rw [Nat.mod_eq_sub_mod (by omega), Ns (by omega)]
  omega
theorem yY (y w : List UInt8) (hy : y.length = 32) (hw : w.length = 32) : val (aQ (val y + val w)) < val w ↔ val (aQ (val y + val w)) < val y := by
 rw [dQ]
 exact Bf _ _ _ (by have := uf y; rw [hy] at this; exact this) (by have := uf w; rw [hw] at this; exact this)
section
variable {g N : Nat} {A : As} {os : List Obj} {a a2 w : List UInt8}
theorem Di (h : RSt g A N os) (hN : N ≤ 1000000) (a : List UInt8) : FnM 56 [.v (ptr g), .arr 20 a] os (fun r os' => (∃ d1 d2 d3 d4, r = .val (.tup [.arr 20 d1, .v (.int .i64 d2), .arr 32 (A a).w, .bs d3, d4])) ∧ os' = os) :=
 FnM.mono (IB h hN a) fun r os' ⟨⟨x, _, hi, _, hr⟩, ho⟩ => ⟨⟨x.a, x.n, x.cd, .sl 64 (x.sl.map aG), by rw [hr]; unfold ak; rw [hi.w]⟩, ho⟩
theorem JI (h : RSt g A N os) (hN : N + 2 ≤ 1000000) (hx : (A a).w.length = 32) (hy : (A a2).w.length = 32) (hw : w.length = 32) : FnM 29 [.v (ptr g), .arr 20 a, .arr 20 a2, .arr 32 w] os (fun r os' => r = .val (.v (.bool (iy A a a2 w))) ∧ RSt g (mvA A a a2 w) (N + 2) os') := by
 have h1 := Di h (by omega) a
 have h1b := Di h (by omega) a2
 have h2 := Em (A a).w w hx hw
 have h3 := Jk (A a2).w w hy hw
 have h4 := (jc a a2).1
 have h5 := Em (aQ (val (A a2).w + val w)) (A a2).w (aY _) hy
 have hov2 := yY (A a2).w w hy hw
 have h6 := Jj (A a).w w hx hw
 refine FnM.walk 44 Tryz.func29 rfl Tryz.ntmps29 (by simp) fun X => ?_
 repeat (refine stp ?_; intros)
 rename_i g5 g6 g7
 refine aK h1 [_, _, _] [] (Lh _).symm rfl (aj.refl _ _) (by intro _ _; simp [go_sem]) rfl rfl ?_
 rintro _ _ ⟨⟨d1, d2, d3, d4, rfl⟩, ho⟩
 rw [ho, Lh]
 clear ho
 simp only [KD, KE]
 repeat
  (first
   | (apply kN; iterate 8 rfl) | (refine stp ?_; intros))
 rename_i g9
 refine aK h1b [_, _, _, _] [] (Lh _).symm rfl (aj.refl _ _) (by intro _ _; simp [go_sem]) rfl rfl ?_
 rintro _ _ ⟨⟨d5, d6, d7, d8, rfl⟩, ho⟩
 rw [ho, Lh]
 clear ho
 simp only [KD, KE]
 by_cases hlt : val (A a).w < val w
 ·
  have e1 : iy A a a2 w = false := by simp [iy, hlt]
  have e2 : mvA A a a2 w = A := by simp [mvA, e1]
  rw [e1, e2]
  rw [vG hlt] at h2
  repeat
   (first
    | (refine dJ (h2) (kk := ?_)) | (apply kN; iterate 8 rfl) | (refine stp ?_; intros))
  exact EK.aI os rfl rfl (by (repeat first | exact La _ | apply List.Sublist.cons_cons | apply List.Sublist.cons)) ⟨rfl, h.mono (by omega)⟩
 ·
  have hz := vH hlt
  generalize kG (val (A a).w) (val w) = z at h2 hz
  by_cases heq : a = a2
  ·
   subst heq
   have e1 : iy A a a w = true := by simp [iy, hlt]
   have e2 : mvA A a a w = A := by simp [mvA]
   rw [e1, e2]
   rw [beq_self_eq_true] at h4
   repeat
    (first
     | (refine dJ (h2) (kk := ?_)) | (refine bM (hrun := h4) (kk := ?_))
     | (apply kN; iterate 8 rfl) | (refine stp ?_; intros))
   exact EK.aI os rfl rfl (by (repeat first | exact La _ | apply List.Sublist.cons_cons | apply List.Sublist.cons)) ⟨rfl, h.mono (by omega)⟩
  ·
   rw [show (a == a2) = false by simpa using heq] at h4
   by_cases hov : val (aQ (val (A a2).w + val w)) < val w
   ·
    have e1 : iy A a a2 w = false := by simp [iy, heq, hov]
    have e2 : mvA A a a2 w = A := by simp [mvA, e1]
    rw [e1, e2]
    rw [vG (hov2.1 hov)] at h5
    generalize aQ (val (A a2).w + val w) = s at h3 h5
    repeat
     (first
      | (refine dJ (h2) (kk := ?_)) | (refine bM (hrun := h4) (kk := ?_))
      | (refine dJ (h3) (kk := ?_)) | (refine dJ (h5) (kk := ?_))
      | (apply kN; iterate 8 rfl) | (refine stp ?_; intros))
    exact EK.aI os rfl rfl (by (repeat first | exact La _ | apply List.Sublist.cons_cons | apply List.Sublist.cons)) ⟨rfl, h.mono (by omega)⟩
   ·
    have e1 : iy A a a2 w = true := by simp [iy, hlt, hov]
    have e2 : mvA A a a2 w = (A.upd a {A a with w := aQ (val (A a).w + 256 ^ 32 - val w)}).upd a2 {A a2 with w := aQ (val (A a2).w + val w)} := by simp [mvA, e1, heq]
    rw [e1, e2]
    have hz2 := vH fun h => hov (hov2.2 h)
    generalize kG (val (aQ (val (A a2).w + val w))) (val (A a2).w) = z2 at h5 hz2
    generalize aQ (val (A a).w + 256 ^ 32 - val w) = df at h6
    generalize aQ (val (A a2).w + val w) = s at h3 h5
    have h7 := fK (a := a) h (by omega) df
    repeat
     (first
      | (refine dJ (h2) (kk := ?_)) | (refine bM (hrun := h4) (kk := ?_))
      | (refine dJ (h3) (kk := ?_)) | (refine dJ (h5) (kk := ?_))
      | (apply kN; iterate 8 rfl) | (refine stp ?_; intros))
    refine EC.le (Le.perm (Lm (l₁ := [_, _, _, _, _, _]))) ?_
    refine EC.bI 6 [0, 1, 2, 3, 4] [5] os _ (by kernel_rfl) (by kernel_rfl) rfl ?_
    simp only [aA, KU, KY, KN, KP]
    repeat
     (first
      | (refine aW (h6) (kk := ?_)) | (refine sth ?_; intros))
    refine EM.nil ?_
    repeat (first | rw [KD] | rw [KE])
    refine CH.bP (rest := []) h7 (k := ?_)
    rintro _ os2 ⟨rfl, hS2⟩
    try simp only [St.put]
    repeat (first | rw [KD] | rw [KE])
    refine CH.nil ?_
    try simp only [KF, KH]
    refine EL.le (Le.perm (Lm (l₂ := [_, _, _, _, _, _]))) ?_
    simp only [KD, KE]
    have h8 := fK (a := a2) hS2 (by omega) s
    rw [show (A.upd a {A a with w := df}) a2 = A a2 from if_neg heq] at h8
    repeat (refine stp ?_; intros)
    refine aK h8 [_, _, _, _, _, _] [] (Lh _).symm rfl (aj.refl _ _) (by intro _ _; simp [go_sem]) rfl rfl ?_
    rintro _ os3 ⟨rfl, hS3⟩
    rw [Lh]
    simp only [KD, KE]
    repeat (refine stp ?_; intros)
    exact EK.aI os3 rfl rfl (by (repeat first | exact La _ | apply List.Sublist.cons_cons | apply List.Sublist.cons)) ⟨rfl, hS3⟩
end
section
variable {g m c ga gs T g3 : Nat} {u k : Value} {n : Int} {es : List Ent} {a w cd : List UInt8} {us ks : List D} {d : D} {b : Int} {sv : Value}
abbrev mkD (x : Int × Int) : D := .tup [.v (.int .i64 x.1), .v (.int .i64 x.2)]
theorem Ib (h0 : 0 ≤ n) (h1 : n < 4611686018427387904) (hk : ks.length < 1099511627776) : FnM 8 [.v (ptr g)] [stO g m u k n, unO u us, mkO k ks] (fun r os' => r = .val (.v (.int .i64 (n + 1))) ∧ ∃ k', os' = [stO g m u k' (n + 1), unO u us, mkO k' (ks ++ [mkD (n + 1, us.length)])]) := by
 refine FnM.walk 33 Tryz.func8 rfl Tryz.ntmps8 (by simp) fun X => ?_
 repeat (refine stp ?_; intros)
 refine EC.le (Le.pick [2, 0, 1] [_, _, _] rfl (by decide) rfl) ?_
 refine EC.bI 17 [0, 1, 2, 3, 4, 5, 6, 7, 8, 9, 10, 11, 12, 13, 14, 15] [16] [_] _ (by kernel_rfl) (by kernel_rfl) rfl ?_
 simp only [aA, KU, KY, KN, KP]
 repeat (refine sth ?_; intros)
 refine EM.nil ?_
 repeat (first | rw [KD] | rw [KE])
 refine CH.mut (os := [_]) (rest := []) rfl rfl (fU rfl rfl rfl rfl rfl ⟨by simp; omega, by simp; omega⟩) ?_
 rintro _ _ ⟨k', rfl, rfl⟩
 try simp only [St.put]
 repeat (first | rw [KD] | rw [KE])
 refine CH.nil ?_
 try simp only [KF, KH]
 repeat (refine stp ?_; intros)
 refine EK.le (Le.pick [1, 2, 0] [_, _, _] rfl (by decide) rfl) ?_
 exact EK.aI [stO g m u k' (n + 1), unO u us, mkO k' (ks ++ [mkD (n + 1, us.length)])] rfl rfl (by (repeat first | exact KO _ | apply List.Sublist.cons_cons | apply List.Sublist.cons)) ⟨rfl, k', rfl⟩
theorem Ik (x : Int × Int) (n0 : Int) : FnM 35 ([mkD x] ++ [.v (ptr g3)]) [.var g3 3 (.v (.int .i64 n0))] (fun r os' => r = .val (.v (.bool (decide (x.1 = n0)))) ∧ os' = [.var g3 3 (.v (.int .i64 n0))]) := by
 refine FnM.walk 8 Tryz.func35 rfl Tryz.ntmps35 (by simp) fun X => ?_
 repeat (refine stp ?_; intros)
 exact EK.aI [.var g3 3 (.v (.int .i64 n0))] rfl rfl (by (repeat first | exact KO _ | apply List.Sublist.cons_cons | apply List.Sublist.cons)) ⟨rfl, rfl⟩
theorem index_one (x : Int × Int) : FnM 34 [.v k, .v (.func (.func 35) #[] #[ptr g3])] [.var g3 3 (.v (.int .i64 x.1)), mkO k [mkD x]] (fun r os' => r = .val (.v (.int .i64 0)) ∧ os' = [.var g3 3 (.v (.int .i64 x.1)), mkO k [mkD x]]) := by
 have h1 := Ik (g3 := g3) x x.1
 rw [show decide (x.1 = x.1) = true by simp] at h1
 refine FnM.walk 19 Tryz.func34 rfl Tryz.ntmps34 (by simp) fun X => ?_
 repeat (refine stp ?_; intros)
 refine EC.xq 2 (EK.round ?_)
 repeat
  (first
   | (apply aU (k := 0) (off := 0) (d := mkD x); rfl; exact I1; exact ⟨rfl, rfl⟩; iterate 4 rfl)
   | (apply qZ (caps := [ptr g3]) h1; (exact fun base ok L a w _ => vJ (caps := [ptr g3]) (by simp [Value.oneCell'])); (iterate 3 rfl); exact aj.refl _ _; (focus (intro _ _; simp [go_sem]; done)); (iterate 2 rfl); rintro _ _ ⟨rfl, rfl⟩)
   | (refine stp ?_; intros))
 exact EK.aI [.var g3 3 (.v (.int .i64 x.1)), mkO k [mkD x]] rfl rfl (by (repeat first | exact KO _ | apply List.Sublist.cons_cons | apply List.Sublist.cons)) ⟨rfl, rfl⟩
theorem Jr {b0 : Int} (h : aJ es a = some (.v (ptr ga))) : FnM 36 [.v (ptr g), nN a b0] [stO g m u k n, smO m c es, acO ga b w cd sv] (fun r os' => r = .tpl [] ∧ os' = [stO g m u k n, smO m c es, acO ga b0 w cd sv]) := by
 have hg : (aJ es a).getD (.v (.pointer none)) = .v (ptr ga) := by rw [h]; rfl
 refine FnM.walk 87 Tryz.func36 rfl Tryz.ntmps36 (by simp) fun X => ?_
 repeat (refine stp ?_; intros)
 refine EC.draw 9 (by kernel_rfl) ?_
 simp only [KG, KI, KF, KH]
 repeat
  (first
   | (apply bY; exact hg; rfl; (first | exact I0 | exact I1 | exact I2); iterate 5 rfl) | (refine sth ?_; intros))
 repeat (refine stp ?_; intros)
 exact EK.cO [stO g m u k n, smO m c es, acO ga b0 w cd sv] rfl (by (repeat first | exact KO _ | apply List.Sublist.cons_cons | apply List.Sublist.cons)) ⟨rfl, rfl⟩
theorem EJ {b0 n0 : Int} (h : aJ es a = some (.v (ptr ga))) : FnM 12 [.v (ptr g), .v (.int .i64 n0)] [stO g m u k n, smO m c es, unO u [nN a b0], mkO k [mkD (n0, 0)], acO ga b w cd sv] (fun r os' => r = .val (.v (.bool true)) ∧ ∃ u' k', os' = [stO g m u' k' n, smO m c es, unO u' [], mkO k' [], acO ga b0 w cd sv]) := by
 have h1 := fun g3 => index_one (k := k) (g3 := g3) (n0, 0)
 have h2 := Jr (g := g) (m := m) (c := c) (u := u) (k := k) (n := n) (b := b) (b0 := b0) (w := w) (cd := cd) (sv := sv) h
 have hl1 : ([nN a b0] : List D).length = 1 := rfl
 refine FnM.walk 64 Tryz.func12 rfl Tryz.ntmps12 (by simp) fun X => ?_
 repeat (refine stp ?_; intros)
 rename_i g3
 refine EL.le (Le.pick [0, 4, 1, 2, 3, 5] [_, _, _, _, _, _] rfl (by decide) rfl) ?_
 repeat
  (first
   | (refine gq (h1 g3) (kk := ?_))
   | (apply aU (k := 0) (off := 1) (d := mkD (n0, 0)); rfl; (first | exact I1 | exact I2 | exact I3); exact ⟨rfl, rfl⟩; iterate 4 rfl) | (refine stp ?_; intros))
 refine EC.le (Le.pick [2, 3, 5, 4, 1, 0] [_, _, _, _, _, _] rfl (by decide) rfl) ?_
 refine EC.xq 2 (EK.round ?_)
 repeat
  (first
   | (refine gq (h2) (kk := ?_))
   | (apply kM; rfl; (first | exact I3 | exact I4); (iterate 2 rfl); exact ⟨by simp, by simp⟩; iterate 2 rfl)
   | (apply aU (k := 0) (off := 0) (d := nN a b0); rfl; (first | exact I3 | exact I4); exact ⟨rfl, rfl⟩; iterate 4 rfl)
   | (apply yE; rfl; (first | exact I3 | exact I4); (iterate 2 rfl); exact ⟨by simp, by simp⟩; iterate 2 rfl) | (refine stp ?_; intros))
 refine EL.le (Le.Ep (k := 0) (v := u) (ds := [nN a b0]) (Lr _) (.s (.s (.s .z)))) ?_
 repeat
  (first
   | (apply yE; rfl; (first | exact I3 | exact I4); (iterate 2 rfl); exact ⟨by simp, by simp⟩; iterate 2 rfl) | (refine stp ?_; intros))
 trace_state
 refine EK.le (Le.Ep (k := 0) (v := k) (ds := [mkD (n0, 0)]) (Lr _) (.s (.s (.s (.s .z))))) ?_
 refine EK.le (Le.pick [0, 1, 3, 4, 2, 5] [_, _, _, _, _, _] rfl (by decide) rfl) ?_
 exact EK.aI [stO g m (cutV u 0) (cutV k 0) n, smO m c es, unO (cutV u 0) [], mkO (cutV k 0) [], acO ga b0 w cd sv] rfl rfl (by (repeat first | exact KO _ | apply List.Sublist.cons_cons | apply List.Sublist.cons)) ⟨rfl, _, _, rfl⟩
end
def absP (p : PA) : Ac := ⟨p.n, p.w, p.cd, fun k => match aJ p.ss k with | some (.arr _ v) => v | _ => zero32⟩
inductive Hy where
 | nonce (a : List UInt8) (n : Int)
 | slot (a q v : List UInt8)
 | all (a : List UInt8) (p : PA)
 | non (a : List UInt8)
def Hy.d : Hy → D
 | .nonce a n => nN a n
 | .slot a q v => pV a q v
 | .all a p => vT a (ptr p.g)
 | .non a => vT a (.pointer none)
def Hy.os : Hy → List Obj
 | .all _ p => p.os
 | _ => []
def Hy.back : Hy → As → As
 | .nonce a n, A => A.upd a {A a with n := n}
 | .slot a q v, A => A.upd a ((A a).slot q v)
 | .all a p, A => A.upd a (absP p)
 | .non a, A => A.upd a Ac.zero
def Hy.ok (N : Nat) : Hy → Prop
 | .all _ p => p.Is (absP p) N
 | _ => True
def WfH : List Hy → (List UInt8 → Prop) → Prop
 | [], _ => True
 | .nonce a _ :: H, P => P a ∧ WfH H P
 | .slot a _ _ :: H, P => P a ∧ WfH H P
 | .all a _ :: H, P => P a ∧ WfH H P
 | .non a :: H, P => P a ∧ WfH H fun b => b ≠ a ∧ P b
theorem WfH.mono : ∀ {H : List Hy} {P Q : List UInt8 → Prop}, (∀ a, P a → Q a) → WfH H P → WfH H Q
 | [], _, _, _, _ => trivial
 | .nonce _ _ :: _, _, _, h, hw => ⟨h _ hw.1, WfH.mono h hw.2⟩
 | .slot _ _ _ :: _, _, _, h, hw => ⟨h _ hw.1, WfH.mono h hw.2⟩
 | .all _ _ :: _, _, _, h, hw => ⟨h _ hw.1, WfH.mono h hw.2⟩
 | .non _ :: _, _, _, h, hw => ⟨h _ hw.1, WfH.mono (fun b hb => ⟨hb.1, h b hb.2⟩) hw.2⟩
def MSt (g : Nat) (nx : Int) (H : List Hy) (A : As) (ks : List (Int × Int)) (N : Nat) (os : List Obj) : Prop := ∃ m c es u k ps, os = [stO g m u k nx, smO m c es, unO u (H.reverse.map Hy.d), mkO k (ks.map mkD)] ++ (ps.flatMap PA.os ++ H.flatMap Hy.os) ∧ iP es ps A N ∧ WfH H (fun a => (aJ es a).isSome = true) ∧ (∀ h ∈ H, h.ok N) ∧ H.length ≤ N
theorem iP.drop {es : List Ent} {ps1 ps2 : List PA} {p : PA} {A : As} {N : Nat} (h : iP es (ps1 ++ p :: ps2) A N) (hn : ∀ b, aJ es b ≠ some (.v (ptr p.g))) : iP es (ps1 ++ ps2) A N := ⟨h.out, fun a d hd => by
 obtain ⟨q, hq, rfl, hi⟩ := h.inn a d hd
 refine ⟨q, ?_, rfl, hi⟩
 rcases LH.1 hq with hq | hq
 · exact Ll _ hq
 ·
  rcases KT.1 hq with rfl | hq
  · exact absurd hd (hn a)
  · exact Lp _ hq, h.inj, h.nod, h.len⟩
theorem Hy.ok.up {N : Nat} : ∀ {h : Hy}, h.ok N → h.ok (N + 1)
 | .nonce _ _, _ => trivial
 | .slot _ _ _, _ => trivial
 | .non _, _ => trivial
 | .all _ _, h => PA.Is.up h
section
variable {g N : Nat} {nx : Int} {H : List Hy} {A : As} {ks : List (Int × Int)} {os : List Obj} {a : List UInt8}
theorem IY (h : MSt g nx H A ks N os) (hN : N < 1099511627776) (h0 : 0 ≤ nx) (h1 : nx < 1099511627776) (hk : ks.length < 1099511627776) : FnM 8 [.v (ptr g)] os (fun r os' => r = .val (.v (.int .i64 (nx + 1))) ∧ MSt g (nx + 1) H A (ks ++ [(nx + 1, (H.length : Int))]) N os') := by
 obtain ⟨m, c, es, u, k, ps, rfl, hi, hw, hks, hl⟩ := h
 have hm := Ib (g := g) (m := m) (u := u) (k := k) (n := nx) (us := H.reverse.map Hy.d) (ks := ks.map mkD) h0 (by omega) (by rw [KR]; exact hk)
 have hm2 := ((hm.frame [smO m c es]).pick [0, 3, 1, 2] rfl (by decide)).frame (ps.flatMap PA.os ++ H.flatMap Hy.os)
 refine FnM.out hm2 ?_
 rintro r _ ⟨_, ⟨_, ⟨rfl, k', rfl⟩, rfl⟩, rfl⟩
 refine ⟨[stO g m u k' (nx + 1), smO m c es, unO u (H.reverse.map Hy.d), mkO k' (ks.map mkD ++ [mkD (nx + 1, ((H.reverse.map Hy.d).length : Int))])] ++ (ps.flatMap PA.os ++ H.flatMap Hy.os), (gQ (os := [stO g m u k' (nx + 1), unO u (H.reverse.map Hy.d), mkO k' (ks.map mkD ++ [mkD (nx + 1, ((H.reverse.map Hy.d).length : Int))]), smO m c es]) [0, 3, 1, 2] rfl (by decide)).append_right _, rfl, m, c, es, u, k', ps, ?_, hi, hw, hks, hl⟩
 rw [MH, KR, MZ]
 rfl
end
def uQ : List (Int × Int) → Int → Nat → Int
 | [], _, _ => -1
 | x :: l, n, k => if x.1 = n then (k : Int) else uQ l n (k + 1)
theorem DR (k : Value) (g3 : Nat) (ks : List (Int × Int)) (hl : ks.length ≤ 1000000) (n0 : Int) : FnM 34 [.v k, .v (.func (.func 35) #[] #[ptr g3])] [.var g3 3 (.v (.int .i64 n0)), mkO k (ks.map mkD)] (fun r os' => r = .val (.v (.int .i64 (uQ ks n0 0))) ∧ os' = [.var g3 3 (.v (.int .i64 n0)), mkO k (ks.map mkD)]) := by
 have hml : (ks.map mkD).length = ks.length := KR _
 generalize hres : uQ ks n0 0 = res
 refine FnM.walk 19 Tryz.func34 rfl Tryz.ntmps34 (by simp) fun X => ?_
 repeat (refine stp ?_; intros)
 refine EC.loop (ι := {i : Nat // i ≤ ks.length ∧ res = uQ (ks.drop i) n0 i})
  (fun i => ⟨[(8, .val (.v (.int .i64 (i.1 : Int)))), (7, .val (.v (.int .i64 ((ks.map mkD).length : Int)))), (1, .val (.v (.func (.func 35) #[] #[ptr g3]))), (0, .val (.v k))], [.var g3 3 (.v (.int .i64 n0)), mkO k (ks.map mkD)], []⟩)
  (fun i => ks.length - i.1) ⟨0, Lr _, hres.symm⟩ ?_ ?_
 · exact Le.kp
 rintro ⟨i, hi, hI⟩
 dsimp only at hi ⊢
 by_cases hlt : i < ks.length
 ·
  have hd : (ks.map mkD)[i]? = some (mkD ks[i]) := by rw [List.getElem?_map, KJ hlt]; rfl
  have hb := Ik (g3 := g3) ks[i] n0
  rw [Mc hlt, uQ] at hI
  by_cases hn : ks[i].1 = n0
  ·
   rw [if_pos hn] at hI
   rw [show decide (ks[i].1 = n0) = true by simp [hn]] at hb
   repeat
    (first
     | (apply aU (k := i) (off := 0) (d := mkD ks[i]); rfl; exact I1; exact ⟨by simp, hd⟩; iterate 4 rfl)
     | (apply qZ (caps := [ptr g3]) hb; (exact fun base ok L a w _ => vJ (caps := [ptr g3]) (by simp [Value.oneCell'])); (iterate 3 rfl); exact aj.refl _ _; (focus (intro _ _; simp [go_sem]; done)); (iterate 2 rfl); rintro _ _ ⟨rfl, rfl⟩)
     | (refine stp ?_; intros))
   exact EK.aI [.var g3 3 (.v (.int .i64 n0)), mkO k (ks.map mkD)] rfl rfl (by (repeat first | exact KO _ | apply List.Sublist.cons_cons | apply List.Sublist.cons)) ⟨by rw [hI], rfl⟩
  ·
   rw [if_neg hn] at hI
   rw [show decide (ks[i].1 = n0) = false by simp [hn]] at hb
   repeat
    (first
     | (apply aU (k := i) (off := 0) (d := mkD ks[i]); rfl; exact I1; exact ⟨by simp, hd⟩; iterate 4 rfl)
     | (apply qZ (caps := [ptr g3]) hb; (exact fun base ok L a w _ => vJ (caps := [ptr g3]) (by simp [Value.oneCell'])); (iterate 3 rfl); exact aj.refl _ _; (focus (intro _ _; simp [go_sem]; done)); (iterate 2 rfl); rintro _ _ ⟨rfl, rfl⟩)
     | (refine stp ?_; intros))
   refine EK.again ⟨i + 1, hlt, hI⟩ (by dsimp only; omega) ?_
   simp only [LM]
   exact Le.kp
 ·
  obtain rfl : res = -1 := by rw [hI, MC (by omega), uQ]
  repeat (refine stp ?_; intros)
  exact EK.aI [.var g3 3 (.v (.int .i64 n0)), mkO k (ks.map mkD)] rfl rfl (by (repeat first | exact KO _ | apply List.Sublist.cons_cons | apply List.Sublist.cons)) ⟨rfl, rfl⟩
theorem iP.gone {es es' : List Ent} {ps : List PA} {A : As} {N : Nat} {a : List UInt8} (h : iP es ps A N) (hes : ∀ b, aJ es' b = if a = b then none else aJ es b) (hn : (es'.map (·.2.1)).Nodup) (hl : es'.length ≤ N + 1) : iP es' ps (A.upd a Ac.zero) (N + 1) := by
 refine ⟨fun b hb => ?_, fun b d hb => ?_, fun b b' d hb hb' => ?_, hn, hl⟩
 ·
  rw [hes] at hb
  unfold As.upd
  by_cases e : a = b
  · rw [if_pos e]
  ·
   rw [if_neg e] at hb ⊢
   exact h.out b hb
 ·
  rw [hes] at hb
  unfold As.upd
  by_cases e : a = b
  ·
   rw [if_pos e] at hb
   cases hb
  ·
   rw [if_neg e] at hb ⊢
   obtain ⟨q, hq, rfl, hi⟩ := h.inn b d hb
   exact ⟨q, hq, rfl, hi.up⟩
 ·
  rw [hes] at hb hb'
  by_cases e : a = b
  ·
   rw [if_pos e] at hb
   cases hb
  ·
   by_cases e' : a = b'
   ·
    rw [if_pos e'] at hb'
    cases hb'
   ·
    rw [if_neg e] at hb
    rw [if_neg e'] at hb'
    exact h.inj b b' d hb hb'
theorem PA.Is.rV {p : PA} {x : Ac} {n m : Nat} (h : p.Is x n) (hm : n ≤ m) : p.Is x m := ⟨h.n, h.w, h.cd, h.sl, h.ent, h.nod, LG h.len hm, h.cl⟩
theorem iP.rV {es : List Ent} {ps : List PA} {A : As} {n m : Nat} (h : iP es ps A n) (hm : n ≤ m) : iP es ps A m := ⟨h.out, fun a d hd => (by
 obtain ⟨q, hq, e, hi⟩ := h.inn a d hd
 exact ⟨q, hq, e, hi.rV hm⟩), h.inj, h.nod, LG h.len hm⟩
theorem Hy.ok.rV {n m : Nat} (hm : n ≤ m) : ∀ {h : Hy}, h.ok n → h.ok m
 | .nonce _ _, _ => trivial
 | .slot _ _ _, _ => trivial
 | .non _, _ => trivial
 | .all _ _, h => PA.Is.rV h hm
theorem zZ : ∀ (ks : List (Int × Int)) (n : Int) (k : Nat), (∀ x ∈ ks, x.1 ≠ n) → uQ ks n k = -1
 | [], _, _, _ => rfl
 | x :: l, n, k, h => by
  rw [uQ, if_neg (h x KQ)]
  exact zZ l n (k + 1) fun y hy => h y (Ld _ hy)
section
variable {g N : Nat} {nx : Int} {H : List Hy} {A : As} {ks : List (Int × Int)} {os : List Obj} {n0 : Int}
theorem I9 {m c : Nat} {u k : Value} {es : List Ent} {us : List D} (hl : ks.length ≤ 1000000) (g3 : Nat) : FnM 34 [.v k, .v (.func (.func 35) #[] #[ptr g3])] [.var g3 3 (.v (.int .i64 n0)), stO g m u k nx, smO m c es, unO u us, mkO k (ks.map mkD)] (fun r os' => r = .val (.v (.int .i64 (uQ ks n0 0))) ∧ os' = [.var g3 3 (.v (.int .i64 n0)), stO g m u k nx, smO m c es, unO u us, mkO k (ks.map mkD)]) := by
 refine FnM.out (((DR k g3 ks hl n0).frame [stO g m u k nx, smO m c es, unO u us]).pick [0, 2, 3, 4, 1] rfl (by decide)) ?_
 rintro r _ ⟨_, ⟨rfl, rfl⟩, rfl⟩
 exact ⟨_, gQ (os := [.var g3 3 (.v (.int .i64 n0)), mkO k (ks.map mkD), stO g m u k nx, smO m c es, unO u us]) [0, 2, 3, 4, 1] rfl (by decide), rfl, rfl⟩
theorem Bh (h : MSt g nx H A ks N os) (hl : ks.length ≤ 1000000) (hn : ∀ x ∈ ks, x.1 ≠ n0) : FnM 12 [.v (ptr g), .v (.int .i64 n0)] os (fun r os' => r = .val (.v (.bool false)) ∧ os' = os) := by
 obtain ⟨m, c, es, u, k, ps, rfl, hi, hw, hks, hHl⟩ := h
 generalize (ps.flatMap PA.os ++ H.flatMap Hy.os) = tl
 generalize H.reverse.map Hy.d = us
 have h1 := I9 (g := g) (nx := nx) (m := m) (c := c) (u := u) (k := k) (es := es) (us := us) (n0 := n0) hl
 rw [zZ ks n0 0 hn] at h1
 show FnM _ _ (stO g m u k nx :: smO m c es :: unO u us :: mkO k (ks.map mkD) :: tl) fun r os' => r = _ ∧ os' = stO g m u k nx :: smO m c es :: unO u us :: mkO k (ks.map mkD) :: tl
 refine FnM.walk 64 Tryz.func12 rfl Tryz.ntmps12 (by simp) fun X => ?_
 repeat (refine stp ?_; intros)
 rename_i g3
 refine aK (h1 g3) [] tl rfl rfl (aj.refl _ _) (by intro _ _; simp [go_sem]) rfl rfl ?_
 rintro _ _ ⟨rfl, rfl⟩
 repeat (refine stp ?_; intros)
 exact EK.aI (stO g m u k nx :: smO m c es :: unO u us :: mkO k (ks.map mkD) :: tl) rfl rfl (by (repeat first | exact La _ | apply List.Sublist.cons_cons | apply List.Sublist.cons)) ⟨rfl, rfl⟩
end
end E
end Go.Proofs.YtkhjanjlcdhdcaaGreat
namespace Go.Proofs.YtkhjanjlcdhdcaaGreat
set_option linter.unusedVariables false
open Go.RowKit Mono Rlp Wd Go.Sort
namespace E
structure ChL.Is (c : ChL) (x y : Ac) : Prop where
 gone : c.gone = true ↔ y = Ac.zero
 n : c.n = y.n
 w : c.w = y.w
 cd : c.cd = y.cd
 ord : c.sl.Pairwise fun p q => p.1 < q.1
 sl : ∀ k v, (k, v) ∈ c.sl ↔ y ≠ Ac.zero ∧ x.sl k ≠ y.sl k ∧ v = y.sl k
structure yG (A B : As) (K : List (List UInt8)) (D : List ChL) : Prop where
 ord : D.Pairwise fun x y => x.a < y.a
 mem : ∀ c ∈ D, c.a ∈ K ∧ A c.a ≠ B c.a ∧ c.Is (A c.a) (B c.a)
 all : ∀ a ∈ K, A a ≠ B a → ∃ c ∈ D, c.a = a
structure Btw (A B : As) (D : List ChL) : Prop where
 ord : D.Pairwise fun x y => x.a < y.a
 mem : ∀ c ∈ D, A c.a ≠ B c.a ∧ c.Is (A c.a) (B c.a)
 all : ∀ a, A a ≠ B a → ∃ c ∈ D, c.a = a
theorem ChL.Is.eq {c d : ChL} {x y : Ac} (h : c.Is x y) (k : d.Is x y) (e : c.a = d.a) : c = d := by
 have hs : c.sl = d.sl := kU (key := fun p : List UInt8 × List UInt8 => p.1) h.ord k.ord (fun p hp => (k.sl p.1 p.2).2 ((h.sl p.1 p.2).1 hp)) (fun p hp => (h.sl p.1 p.2).2 ((k.sl p.1 p.2).1 hp))
 have hg : c.gone = d.gone := by
  have := h.gone.trans k.gone.symm
  cases h1 : c.gone <;> cases h2 : d.gone <;> simp_all
 cases c
 cases d
 simp only [ChL.mk.injEq]
 exact ⟨e, hg, h.n.trans k.n.symm, h.w.trans k.w.symm, h.cd.trans k.cd.symm, hs⟩
theorem Btw.eq {A B : As} {D F : List ChL} (h : Btw A B D) (k : Btw A B F) : D = F := by
 have one : ∀ {D F : List ChL}, Btw A B D → Btw A B F → ∀ x ∈ D, x ∈ F := fun {D F} h k x hx => by
  obtain ⟨h1, h2⟩ := h.mem x hx
  obtain ⟨y, hy, e⟩ := k.all x.a h1
  have := (k.mem y hy).2
  rw [e] at this
  rw [h2.eq this e.symm]
  exact hy
 exact kU (key := ChL.a) h.ord k.ord (one h k) (one k h)
theorem yG.nil {A B : As} : yG A B [] [] := ⟨.nil, fun x hx => by simp at hx, fun a ha => by simp at ha⟩
theorem yG.skip {A B : As} {K : List (List UInt8)} {D : List ChL} (h : yG A B K D) {a : List UInt8} (ha : A a = B a) : yG A B (K ++ [a]) D := ⟨h.ord, fun x hx => ⟨Ll _ (h.mem x hx).1, (h.mem x hx).2⟩, fun b hb hne => by
 rcases LH.1 hb with hb | hb
 · exact h.all b hb hne
 ·
  obtain rfl : b = a := by simpa using hb
  exact absurd ha hne⟩
theorem yG.take {A B : As} {K : List (List UInt8)} {D : List ChL} (h : yG A B K D) {c : ChL} (hne : A c.a ≠ B c.a) (hc : c.Is (A c.a) (B c.a)) (hlt : ∀ b ∈ K, b < c.a) : yG A B (K ++ [c.a]) (D ++ [c]) := ⟨LQ.2 ⟨h.ord, List.pairwise_singleton _ _, fun y hy z hz => by
  obtain rfl : z = c := by simpa using hz
  exact hlt _ (h.mem y hy).1⟩, fun y hy => by
  rcases LH.1 hy with hy | hy
  · exact ⟨Ll _ (h.mem y hy).1, (h.mem y hy).2⟩
  ·
   obtain rfl : y = c := by simpa using hy
   exact ⟨by simp, hne, hc⟩, fun b hb hb' => by
  rcases LH.1 hb with hb | hb
  ·
   obtain ⟨y, hy, e⟩ := h.all b hb hb'
   exact ⟨y, Ll _ hy, e⟩
  ·
   obtain rfl : b = c.a := by simpa using hb
   exact ⟨c, by simp, rfl⟩⟩
def slG (sl : List (List UInt8 × List UInt8)) (f : List UInt8 → List UInt8) : List UInt8 → List UInt8 := sl.foldl (fun f p => fun k => if p.1 = k then p.2 else f k) f
theorem yP (z : List UInt8) : ∀ (sl : List (List UInt8 × List UInt8)) (f : List UInt8 → List UInt8) (k : List UInt8), (∀ p ∈ sl, p.1 = k → p.2 = z) → slG sl f k = if k ∈ sl.map Prod.fst then z else f k
 | [], f, k, _ => by simp [slG]
 | p :: sl, f, k, h => by
  have ih := yP z sl (fun k => if p.1 = k then p.2 else f k) k fun q hq => h q (Ld _ hq)
  have e : slG (p :: sl) f k = slG sl (fun k => if p.1 = k then p.2 else f k) k := rfl
  rw [e, ih]
  by_cases h1 : k ∈ sl.map Prod.fst
  · rw [if_pos h1, if_pos (by simp only [Lu, KT]; exact .inr h1)]
  ·
   rw [if_neg h1]
   by_cases h2 : p.1 = k
   · rw [if_pos h2, if_pos (by simp [h2]), h p KQ h2]
   · rw [if_neg h2, if_neg (by simp only [Lu, KT, not_or]; exact ⟨fun e => h2 e.symm, h1⟩)]
theorem upd_same (A : As) (a : List UInt8) (x : Ac) : A.upd a x a = x := by unfold As.upd; rw [if_pos rfl]
theorem kR (A : As) (a : List UInt8) (x y : Ac) : (A.upd a x).upd a y = A.upd a y := by
 funext b
 unfold As.upd
 split <;> rfl
theorem rY (a : List UInt8) : ∀ (sl : List (List UInt8 × List UInt8)) (A : As), gW a sl A = A.upd a {A a with sl := slG sl (A a).sl}
 | [], A => by
  funext b
  unfold As.upd
  split
  ·
   rename_i e
   subst e
   rfl
  · rfl
 | p :: sl, A => by
  have e : gW a (p :: sl) A = gW a sl (A.upd a ((A a).slot p.1 p.2)) := rfl
  rw [e, rY a sl, kR, upd_same]
  rfl
def ChL.one (c : ChL) (x : Ac) : Ac := ⟨if c.n > 0 then c.n else 0, c.w, c.cd, slG c.sl (if c.gone = true then fun _ => zero32 else x.sl)⟩
theorem ChL.of_eq (c : ChL) (A : As) : c.of A = A.upd c.a (c.one (A c.a)) := by
 unfold ChL.of ChL.base
 dsimp only
 rw [rY]
 cases hg : c.gone with
 | true => simp only [if_true, kR, upd_same, ChL.one, hg]; rfl
 | false => simp only [NG, if_false, kR, upd_same, ChL.one, hg]
theorem mD : ∀ (D : List ChL) (A : As) (b : List UInt8), b ∉ D.map ChL.a → mF A D b = A b
 | [], A, b, _ => rfl
 | c :: D, A, b, h => by
  have e : mF A (c :: D) = mF (c.of A) D := rfl
  simp only [Lu, KT, not_or] at h
  rw [e, mD D _ b h.2, ChL.of_eq]
  unfold As.upd
  rw [if_neg fun e => h.1 e.symm]
theorem tK : ∀ (D : List ChL) (A : As) (c : ChL), c ∈ D → (D.Pairwise fun x y => x.a < y.a) → mF A D c.a = c.one (A c.a)
 | [], A, c, h, _ => by simp at h
 | d :: D, A, c, h, ho => by
  have e : mF A (d :: D) = mF (d.of A) D := rfl
  obtain ⟨h1, h2⟩ := LY.1 ho
  rcases KT.1 h with rfl | h
  ·
   rw [e, mD D _ c.a fun hm => by
    obtain ⟨x, hx, hxa⟩ := LD.1 hm
    have := h1 x hx
    rw [hxa] at this
    exact MI _ this, ChL.of_eq, upd_same]
  ·
   rw [e, tK D _ c h h2, ChL.of_eq]
   have hne : d.a ≠ c.a := fun e => by
    have := h1 c h
    rw [e] at this
    exact MI _ this
   unfold As.upd
   rw [if_neg hne]
theorem ChL.Is.one {c : ChL} {x y : Ac} (h : c.Is x y) (hn : 0 ≤ y.n) : c.one x = y := by
 unfold ChL.one
 have h1 : (if c.n > 0 then c.n else 0) = y.n := by
  rw [h.n]
  split
  · rfl
  · omega
 have h2 : slG c.sl (if c.gone = true then fun _ => zero32 else x.sl) = y.sl := by
  funext k
  rw [yP (y.sl k) _ _ k fun p hp e => by
   have := ((h.sl p.1 p.2).1 hp).2.2
   rw [e] at this
   exact this]
  by_cases hm : k ∈ c.sl.map Prod.fst
  · rw [if_pos hm]
  ·
   rw [if_neg hm]
   by_cases hg : c.gone = true
   ·
    rw [if_pos hg, h.gone.1 hg]
    rfl
   ·
    rw [if_neg hg]
    refine L9 fun hne => hm (LD.2 ⟨(k, y.sl k), (h.sl k _).2 ⟨fun e => hg (h.gone.2 e), hne, rfl⟩, rfl⟩)
 rw [h1, h2, h.w, h.cd]
theorem Btw.apply {A B : As} {D : List ChL} (h : Btw A B D) (hB : ∀ a, 0 ≤ (B a).n) : mF A D = B := by
 funext b
 by_cases hb : b ∈ D.map ChL.a
 ·
  obtain ⟨c, hc, rfl⟩ := LD.1 hb
  rw [tK D A c hc h.ord, (h.mem c hc).2.one (hB _)]
 ·
  rw [mD D A b hb]
  exact L9 fun hne => hb (by
   obtain ⟨c, hc, e⟩ := h.all b hne
   exact LD.2 ⟨c, hc, e⟩)
theorem AcL.Is.slF {x : AcL} {y : Ac} (h : x.Is y) : slF x.sl = y.sl := by
 funext k
 have e : E.slF x.sl k = slG x.sl (fun _ => zero32) k := rfl
 rw [e, yP (y.sl k) _ _ k fun p hp e => by rw [(h.val p hp).1, e]]
 by_cases hm : k ∈ x.sl.map Prod.fst
 · rw [if_pos hm]
 ·
  rw [if_neg hm]
  refine L9 fun hne => hm ?_
  obtain ⟨p, hp, e⟩ := h.all k fun e => hne e.symm
  exact LD.2 ⟨p, hp, e⟩
theorem AcL.Is.take {x : AcL} {y : Ac} (h : x.Is y) (hn : 0 ≤ y.n) : x.take = y := by
 unfold AcL.take
 have h1 : (if x.n > 0 then x.n else 0) = y.n := by
  rw [h.n]
  split
  · rfl
  · omega
 rw [h1, h.slF, h.w, h.cd]
theorem mY : ∀ (L : List AcL) (A : As) (b : List UInt8), b ∉ L.map AcL.a → L.foldl (fun A x => A.upd x.a x.take) A b = A b
 | [], A, b, _ => rfl
 | x :: L, A, b, h => by
  simp only [Lu, KT, not_or] at h
  rw [NT, mY L _ b h.2]
  unfold As.upd
  rw [if_neg fun e => h.1 e.symm]
theorem zX : ∀ (L : List AcL) (A : As) (x : AcL), x ∈ L → (L.Pairwise fun x y => x.a < y.a) → L.foldl (fun A x => A.upd x.a x.take) A x.a = x.take
 | [], A, x, h, _ => by simp at h
 | d :: L, A, x, h, ho => by
  obtain ⟨h1, h2⟩ := LY.1 ho
  rw [NT]
  rcases KT.1 h with rfl | h
  ·
   rw [mY L _ x.a fun hm => by
    obtain ⟨y, hy, hya⟩ := LD.1 hm
    have := h1 y hy
    rw [hya] at this
    exact MI _ this, upd_same]
  · exact zX L _ x h h2
theorem Canon.new {A : As} {L : List AcL} (h : Canon A L) (hn : ∀ a, 0 ≤ (A a).n) : iJ L = A := by
 funext b
 unfold iJ
 by_cases hb : b ∈ L.map AcL.a
 ·
  obtain ⟨x, hx, rfl⟩ := LD.1 hb
  rw [zX L _ x hx h.ord, (h.mem x hx).1.take (hn _)]
 ·
  rw [mY L _ b hb]
  refine L9 fun hne => hb ?_
  obtain ⟨x, hx, e⟩ := h.all b fun e => hne e.symm
  exact LD.2 ⟨x, hx, e⟩
theorem Canon.length_le {l L : List AcL} (h : Canon (iJ l) L) : L.length ≤ l.length := by
 have h1 : (L.map AcL.a).Nodup := by
  have := h.ord
  unfold List.Nodup
  rw [NJ]
  exact this.imp fun h e => by rw [e] at h; exact MI _ h
 have h2 : ∀ b ∈ L.map AcL.a, b ∈ l.map AcL.a := fun b hb => by
  obtain ⟨x, hx, rfl⟩ := LD.1 hb
  refine L9 fun hn => (h.mem x hx).2 ?_
  unfold iJ
  rw [mY l _ _ hn]
 have := h1.length_le_of_subset h2
 simpa using this
end E
end Go.Proofs.YtkhjanjlcdhdcaaGreat
namespace Go.Proofs.YtkhjanjlcdhdcaaGreat
set_option linter.unusedVariables false
set_option maxRecDepth 20000
set_option maxHeartbeats 8000000
open Go.RowKit Mono Rlp Wd
namespace E
theorem zu (w0 : Value) (l : List AcL) (hll : l.length ≤ 1000000) (hB : ∀ x ∈ l, x.sl.length ≤ 1000000 ∧ x.cd.length ≤ 140737488355328) : FnM 33 [.v w0] [.row w0 51 55 (l.map ak)] (fun r os' => ∃ v, r = .val (.v v) ∧ os' = [.row v 51 55 (l.map ak), .row w0 51 55 (l.map ak)]) := by
 have hml : (l.map ak).length = l.length := KR _
 refine FnM.walk 35 Tryz.func33 rfl Tryz.ntmps33 (by simp) fun X => ?_
 repeat (refine stp ?_; intros)
 refine EC.le (Le.row 51 55) ?_
 refine EC.loop (ι := {x : Nat × Value // x.1 ≤ l.length})
  (fun x => ⟨[(4, .val (.v (.int .i64 (x.1.1 : Int)))), (3, .val (.v x.1.2)), (0, .val (.v w0))], [.row x.1.2 51 55 ((l.take x.1.1).map ak), .row w0 51 55 (l.map ak)], []⟩)
  (fun x => l.length - x.1.1) ⟨(0, bF), Lr _⟩ ?_ ?_
 · exact Le.kp
 rintro ⟨⟨i, v⟩, hil⟩
 dsimp only at hil ⊢
 by_cases hlt : i < l.length
 ·
  have hd : (l.map ak)[i]? = some (ak l[i]) := by rw [List.getElem?_map, KJ hlt]; rfl
  have hBi := hB l[i] (LW hlt)
  have htk : (l.take (i + 1)).map ak = (l.take i).map ak ++ [ak l[i]] := by rw [LU hlt, MH]; rfl
  have hlen : ((l.take i).map ak).length = i := by rw [KR, LV]; omega
  generalize l[i] = x at hd hBi htk
  obtain ⟨xa, xn, xw, xc, xs⟩ := x
  unfold ak at hd
  dsimp only at hd hBi
  have hmx : (xs.map aG).length = xs.length := KR _
  have hv := hBi.2
  repeat
   (first
    | (apply vN hv; iterate 3 rfl) | (apply kM; rfl; (first | exact I1 | exact I2); (iterate 2 rfl); exact ⟨by omega, by omega⟩; iterate 2 rfl)
    | (apply aU (k := i) (off := 0); rfl; (first | exact I1 | exact I2); exact ⟨by omega, hd⟩; iterate 4 rfl)
    | (apply aU (k := i) (off := 53); rfl; (first | exact I1 | exact I2); exact ⟨by omega, hd⟩; iterate 4 rfl)
    | (apply aU (k := i) (off := 54); rfl; (first | exact I1 | exact I2); exact ⟨by omega, hd⟩; iterate 4 rfl) | (refine stp ?_; intros))
  refine EL.le (Le.row 63 64) ?_
  repeat (refine stp ?_; intros)
  dsimp only
  refine EK.le (Le.freeze (pre := []) rfl) ?_
  simp only [KE]
  rename_i sv v'
  refine EK.le (Le.pick [1, 0, 2] [_, _, _] rfl (by decide) rfl) ?_
  refine EK.le (Le.Dj (ds' := (l.take i).map ak ++ [.tup [.arr 20 xa, .v (.int .i64 xn), .arr 32 xw, .bs xc, .sl 64 (xs.map aG)]]) (RL.append (aj.refl _ _) (RL.cons (Rf.tup (RL.cons Rf.same (RL.cons Rf.same (RL.cons Rf.same (RL.cons Rf.same (RL.cons (Rf.fact KQ rfl) RL.nil)))))) RL.nil))) ?_
  refine EK.again ⟨(i + 1, v'), hlt⟩ (by dsimp only; omega) ?_
  dsimp only
  rw [htk]
  unfold ak
  dsimp only
  simp only [LM]
  exact Le.kp
 ·
  have hiE : i = l.length := by omega
  subst hiE
  rw [Nh]
  repeat (refine stp ?_; intros)
  exact EK.aI [.row v 51 55 (l.map ak), .row w0 51 55 (l.map ak)] rfl rfl (by (repeat first | exact KO _ | apply List.Sublist.cons_cons | apply List.Sublist.cons)) ⟨v, rfl, rfl⟩
theorem FU {g N : Nat} {A : As} {os : List Obj} (h : RSt g A N os) (hN : N ≤ 1000000) : FnM 11 [.v (ptr g)] os (fun r os' => ∃ g2 os2, r = .val (.v (ptr g2)) ∧ RSt g2 A N os2 ∧ os' = os ++ os2) := by
 obtain ⟨L, k, n, l, rfl, hR, hlN⟩ := h
 have h1 := zu L l (by omega) fun x hx => ⟨LG (hR.bd x hx).1 hN, (hR.bd x hx).2⟩
 refine FnM.walk 10 Tryz.func11 rfl Tryz.ntmps11 (by simp) fun X => ?_
 repeat (refine stp ?_; intros)
 refine aK h1 [_] [] rfl rfl (aj.refl _ _) (by intro _ _; simp [go_sem]) rfl rfl ?_
 rintro _ _ ⟨v, rfl, rfl⟩
 repeat (refine stp ?_; intros)
 rename_i g2
 refine EK.le (Le.pick [1, 3, 0, 2] [_, _, _, _] rfl (by decide) rfl) ?_
 exact EK.aI [rsO g L k n, raA L l, rsO g2 v bF 0, raA v l] rfl rfl (by (repeat first | exact KO _ | apply List.Sublist.cons_cons | apply List.Sublist.cons)) ⟨g2, [rsO g2 v bF 0, raA v l], rfl, ⟨v, bF, 0, l, rfl, hR, hlN⟩, rfl⟩
section
variable {g N : Nat} {A : As} {os : List Obj}
theorem lZ (h : GSt g A N os) (hN : N ≤ 1000000) : FnM 14 [.v (ptr g)] os (fun r os' => (∃ L, Canon A L ∧ L.length ≤ N ∧ (∀ x ∈ L, x.sl.length ≤ N) ∧ r = .val (.sl 55 (L.map ak))) ∧ os' = os) := by
 obtain ⟨m, c, es, u, k, n, us, ks, ps, js, rfl, hi, hl⟩ := h
 rw [← Lc]
 refine FnM.mono ((BQ (g := g) (m := m) (c := c) (u := u) (k := k) (n := n) (us := us) (ks := ks) hi hN).frame js) ?_
 rintro r _ ⟨_, ⟨hr, rfl⟩, rfl⟩
 exact ⟨hr, rfl⟩
theorem GSt.cl (h : GSt g A N os) (a : List UInt8) : (A a).cd.length ≤ 140737488355328 := by
 obtain ⟨m, c, es, u, k, n, us, ks, ps, js, rfl, hi, hl⟩ := h
 cases hE : aJ es a with
 | some d =>
  obtain ⟨p, _, _, his⟩ := hi.inn a d hE
  rw [← his.cd]
  exact his.cl
 | none =>
  rw [hi.out a hE]
  exact Lr _
theorem MSt.gen {nx : Int} {H : List Hy} {ks : List (Int × Int)} (h : MSt g nx H A ks N os) : GSt g A N os := by
 obtain ⟨m, c, es, u, k, ps, e, hi, _, _, hl⟩ := h
 exact ⟨m, c, es, u, k, nx, _, _, ps, _, e, hi, by rw [KR, MZ]; exact hl⟩
theorem Jd (h : GSt g A N os) (hN : N ≤ 1000000) (hn : ∀ a, 0 ≤ (A a).n) : FnM 10 [.v (ptr g)] os (fun r os' => ∃ g2 os2, r = .val (.v (ptr g2)) ∧ MSt g2 0 [] A [] (N + N) os2 ∧ os' = os ++ os2) := by
 have h1 := lZ h hN
 have hcl := h.cl
 refine FnM.walk 6 Tryz.func10 rfl Tryz.ntmps10 (by simp) fun X => ?_
 repeat (refine stp ?_; intros)
 refine aK h1 [] [] (Lh _).symm rfl (aj.refl _ _) (by intro _ _; simp [go_sem]) rfl rfl ?_
 rintro _ _ ⟨⟨L, hL, hLl, hLs, rfl⟩, ho⟩
 rw [ho, Lh]
 simp only [KE]
 have h2 := Ia L N (by omega) (fun x hx => ⟨hLs x hx, by rw [(hL.mem x hx).1.cd]; exact hcl _⟩) hN
 refine aK (os := []) h2 os [] (by simp) rfl (aj.refl _ _) (by intro _ _; simp [go_sem]) rfl rfl ?_
 rintro _ _ ⟨g2, m, c, es, ps, rfl, rfl, hp⟩
 rw [hL.new hn] at hp
 rw [Lh]
 have hS : MSt g2 0 [] A [] (N + N) (psO g2 m c es bF bF 0 [] ps) := ⟨m, c, es, bF, bF, ps, by simp [psO], hp.rV (by omega), trivial, fun h hh => (by cases hh), Lr _⟩
 repeat (refine stp ?_; intros)
 exact EK.aI (os ++ psO g2 m c es bF bF 0 [] ps) rfl rfl (La _) ⟨g2, _, rfl, hS, rfl⟩
end
section
variable {g m c ga gs sc : Nat} {u k : Value} {n b : Int} {es ss : List Ent} {us ks : List D} {a w cd : List UInt8}
abbrev rwO (v : Value) (l : List UInt8) : Obj := .row v 5 1 (bvD l)
theorem wI {e : List UInt8} {sv v : Value} (h : aJ es a = some (.v (ptr ga))) (hu : us.length < 1099511627776) (hl : e.length ≤ 140737488355328) : FnM 26 [.v (ptr g), .arr 20 a, .v v] [stO g m u k n, smO m c es, unO u us, mkO k ks, rwO v e, acO ga b w cd sv] (fun r os' => r = .tpl [] ∧ ∃ u', os' = [stO g m u' k n, smO m c es, unO u' (bC ks us (CO a cd)), mkO k ks, rwO v e, acO ga b w e sv]) := by
 have h1 := zV (g := g) (m := m) (c := c) (u := u) (k := k) (n := n) h
 have h2 := mg (g := g) (m := m) (c := c) (u := u) (k := k) (n := n) (ks := ks) (T := 107) (d := .tup [.arr 20 a, .bs cd]) (b := b) (w := w) (cd := cd) (sv := sv) h hu
 have h3 := tC v e hl
 refine FnM.walk 22 Tryz.func26 rfl Tryz.ntmps26 (by simp) fun X => ?_
 repeat (refine stp ?_; intros)
 refine EC.le (Le.pick [1, 2, 6, 3, 4, 5, 0] [_, _, _, _, _, _, _] rfl (by decide) rfl) ?_
 refine EC.bI 14 [0, 1, 2, 3, 4, 12] [5, 6, 7, 8, 9, 10, 11, 13] [_, _, _, _, _, _] _ (by kernel_rfl) (by kernel_rfl) rfl ?_
 simp only [aA, KU, KY, KN, KP]
 repeat (refine sth ?_; intros)
 refine EM.nil ?_
 repeat (first | rw [KD] | rw [KE])
 refine CH.bP (rest := [_, _, _, _]) h1 (k := ?_)
 rintro _ _ ⟨rfl, rfl⟩
 try simp only [St.put]
 repeat (first | rw [KD] | rw [KE])
 refine CH.cut 5 ?_
 simp only [KG, KI, KF, KH]
 repeat (refine sth ?_; intros)
 refine EM.nil ?_
 repeat (first | rw [KD] | rw [KE])
 refine CH.bP (rest := [_]) h2 (k := ?_)
 rintro _ _ ⟨u', rfl, rfl⟩
 try simp only [St.put]
 repeat (first | rw [KD] | rw [KE])
 refine CH.bP (rest := []) ((h3.frame [stO g m u' k n, smO m c es, unO u' (bC ks us (CO a cd)), mkO k ks, acO ga b w cd sv]).pick [1, 2, 3, 4, 5, 0] rfl (by decide)) (k := ?_)
 rintro _ _ ⟨_, ⟨rfl, rfl⟩, rfl⟩
 try simp only [St.put]
 repeat (first | rw [KD] | rw [KE])
 refine CH.nil ?_
 try simp only [KF, KH]
 repeat (refine stp ?_; intros)
 refine EK.le (Le.pick [1, 2, 3, 4, 0, 5, 6] [_, _, _, _, _, _, _] rfl (by decide) rfl) ?_
 exact EK.cO [stO g m u' k n, smO m c es, unO u' (bC ks us (CO a cd)), mkO k ks, rwO v e, acO ga b w e sv] rfl (by (repeat first | exact KO _ | apply List.Sublist.cons_cons | apply List.Sublist.cons)) ⟨rfl, u', rfl⟩
theorem uG {e : List UInt8} {v : Value} (h : aJ es a = none) (hu : us.length < 1099511627776) (hl : e.length ≤ 140737488355328) : FnM 26 [.v (ptr g), .arr 20 a, .v v] [stO g m u k n, smO m c es, unO u us, mkO k ks, rwO v e] (fun r os' => r = .tpl [] ∧ ∃ u' ga gs, os' = [stO g m u' k n, smO m (bG c es a) (bK c es a (.v (ptr ga))), unO u' (bC ks us (.ifc 107 (.tup [.arr 20 a, .v bF]))), mkO k ks, rwO v e, acO ga 0 zero32 e (.map (some gs)), .map gs 32 0 []]) := by
 have h1 := uO (g := g) (m := m) (c := c) (u := u) (k := k) (n := n) h
 have h2 := iw (g := g) (m := m) (c := c) (u := u) (k := k) (n := n) (ks := ks) (T := 107) (d := .tup [.arr 20 a, .v bF]) h hu
 have h3 := tC v e hl
 refine FnM.walk 22 Tryz.func26 rfl Tryz.ntmps26 (by simp) fun X => ?_
 repeat (refine stp ?_; intros)
 refine EC.le (Le.pick [1, 2, 3, 4, 5, 0] [_, _, _, _, _, _] rfl (by decide) rfl) ?_
 refine EC.bI 14 [0, 1, 2, 3, 4, 12] [5, 6, 7, 8, 9, 10, 11, 13] [_, _, _, _, _] _ (by kernel_rfl) (by kernel_rfl) rfl ?_
 simp only [aA, KU, KY, KN, KP]
 repeat (refine sth ?_; intros)
 refine EM.nil ?_
 repeat (first | rw [KD] | rw [KE])
 refine CH.bP (rest := [_, _, _]) h1 (k := ?_)
 rintro _ _ ⟨gz, rfl, rfl⟩
 try simp only [St.put]
 repeat (first | rw [KD] | rw [KE])
 refine CH.cut 5 ?_
 simp only [KG, KI, KF, KH]
 repeat (refine sth ?_; intros)
 refine EM.nil ?_
 repeat (first | rw [KD] | rw [KE])
 refine CH.bP (rest := []) ((h2.frame [zaO gz, rwO v e]).pick [4, 0, 1, 2, 3, 5] rfl (by decide)) (k := ?_)
 rintro _ _ ⟨_, ⟨u', ga, gs, rfl, rfl⟩, rfl⟩
 try simp only [St.put]
 repeat (first | rw [KD] | rw [KE])
 refine CH.bP (rest := []) ((h3.frame [acO ga 0 zero32 [] (.map (some gs)), .map gs 32 0 [], stO g m u' k n, smO m (bG c es a) (bK c es a (.v (ptr ga))), unO u' (bC ks us (.ifc 107 (.tup [.arr 20 a, .v bF]))), mkO k ks, zaO gz]).pick [1, 2, 3, 4, 5, 6, 7, 0] rfl (by decide)) (k := ?_)
 rintro _ _ ⟨_, ⟨rfl, rfl⟩, rfl⟩
 try simp only [St.put]
 repeat (first | rw [KD] | rw [KE])
 refine CH.nil ?_
 try simp only [KF, KH]
 repeat (refine stp ?_; intros)
 refine EK.le (Le.pick [3, 4, 5, 6, 0, 1, 2, 7, 8] [_, _, _, _, _, _, _, _, _] rfl (by decide) rfl) ?_
 exact EK.cO [stO g m u' k n, smO m (bG c es a) (bK c es a (.v (ptr ga))), unO u' (bC ks us (.ifc 107 (.tup [.arr 20 a, .v bF]))), mkO k ks, rwO v e, acO ga 0 zero32 e (.map (some gs)), .map gs 32 0 []] rfl (by (repeat first | exact KO _ | apply List.Sublist.cons_cons | apply List.Sublist.cons)) ⟨rfl, u', ga, gs, rfl⟩
end
section
variable {g N : Nat} {A : As} {os : List Obj} {a : List UInt8}
theorem Bv (h : GSt g A N os) (hN : N < 1099511627776) (v : Value) (e : List UInt8) (hl : e.length ≤ 140737488355328) : FnM 26 [.v (ptr g), .arr 20 a, .v v] (rwO v e :: os) (fun r os' => r = .tpl [] ∧ ∃ os2, GSt g (A.upd a {A a with cd := e}) (N + 1) os2 ∧ os' = rwO v e :: os2) := by
 refine Gw [rwO v e] h hN (fun m c es u k n us ks p hE hu his => ?_) (fun m c es u k n us ks hE hu hz => ?_)
 ·
  refine FnM.mono (FnM.frame (wI (g := g) (m := m) (c := c) (u := u) (k := k) (n := n) (ks := ks) (b := p.n) (w := p.w) (cd := p.cd) (sv := .map (some p.gs)) (v := v) (e := e) hE hu hl) [.map p.gs 32 p.sc p.ss]) ?_
  rintro r _ ⟨_, ⟨rfl, u', rfl⟩, rfl⟩
  exact ⟨[stO g m u' k n, smO m c es, unO u' (bC ks us (CO a p.cd)), mkO k ks, rwO v e], {p with cd := e}, ⟨rfl, ⟨u', CO a p.cd, rfl⟩, rfl, ⟨his.n, his.w, rfl, his.sl, his.ent, his.nod, his.up.len, hl⟩⟩, rfl⟩
 ·
  refine FnM.mono (uG (g := g) (m := m) (c := c) (u := u) (k := k) (n := n) (ks := ks) (v := v) (e := e) hE hu hl) ?_
  rintro r _ ⟨rfl, u', ga, gs, rfl⟩
  refine ⟨rfl, u', .ifc 107 (.tup [.arr 20 a, .v bF]), ⟨ga, 0, zero32, e, gs, 0, []⟩, rfl, ?_⟩
  rw [hz]
  exact ⟨rfl, rfl, rfl, fun k => rfl, fun e he => by simp at he, MR, Lr _, hl⟩
end
end E
end Go.Proofs.YtkhjanjlcdhdcaaGreat
namespace Go.Proofs.YtkhjanjlcdhdcaaGreat
set_option linter.unusedVariables false
open Go.RowKit Mono Rlp
namespace E
theorem EK.iD {N : Nat} {X : Cx N} {fn : Func} {Φ : R → List Obj → Prop} {S : St} {t u : Tmp} {d e d' e' : D} (os' : List Obj) (hres : fn.results = #[.tmp t, .tmp u]) (hl : look S.regs t = some (.val d)) (hk : look S.regs u = some (.val e)) (hR : aj S.facts [d, e] [d', e']) (ho : os'.Sublist S.objs) (hΦ : Φ (.tpl [d', e']) os') : EK X (bodyPost Tryz.prog fn (rQ X Φ) .ret) S := by
 refine EK.le (S' := ⟨S.regs, os', S.facts⟩) ?_ (EK.IE hres hl hk hR hΦ)
 exact fun a w h => ⟨h.mem.less ho (fun f hf => hf), fun t r ht => aN.mono (fun b hb => pG ho hb) (fun _ _ => rfl) (h.regs t r ht), h.size, h.defers⟩
end E
end Go.Proofs.YtkhjanjlcdhdcaaGreat
