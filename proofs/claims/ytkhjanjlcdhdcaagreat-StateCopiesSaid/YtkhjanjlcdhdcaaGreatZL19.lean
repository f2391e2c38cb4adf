/-
 Merged: lemmas of this claim.
 Conditions: none.
-/
import Derived.Test.YtkhjanjlcdhdcaaGreatZL17
import Derived.Test.YtkhjanjlcdhdcaaGreatZL13
import Derived.Test.YtkhjanjlcdhdcaaGreatZL18
import Derived.Test.YtkhjanjlcdhdcaaGreatZL16
import Derived.Test.YtkhjanjlcdhdcaaGreatZL0
namespace Go.Proofs.YtkhjanjlcdhdcaaGreat
set_option linter.unusedVariables false
set_option maxRecDepth 20000
set_option maxHeartbeats 8000000
open Go.RowKit Mono Rlp Wd
namespace E
section
variable {g N : Nat} {A : As} {os : List Obj} {a a2 w : List UInt8}
theorem vM (h : GSt g A N os) (a : List UInt8) : FnM 51 [.v (ptr g), .arr 20 a] os (fun r os' => r = .val (.arr 32 (A a).w) ∧ os' = os) := by
 obtain ⟨m, c, es, u, k, n, us, ks, ps, js, rfl, hi, hl⟩ := h
 have pm : (([stO g m u k n, smO m c es] ++ ps.flatMap PA.os) ++ ([unO u us, mkO k ks] ++ js)).Perm ([stO g m u k n, smO m c es, unO u us, mkO k ks] ++ (ps.flatMap PA.os ++ js)) := by
  simp only [Kr, Kt]
  exact .cons _ (.cons _ (J9 _ _ _ _).symm)
 refine FnM.perm ?_ pm
 cases hE : bC es a with
 | some d =>
  obtain ⟨p, hp, rfl, his⟩ := hi.inn a d hE
  obtain ⟨ps1, ps2, rfl⟩ := List.append_of_mem hp
  refine FnM.out ((FnM.lift (Ψ := fun r hdr p' => r = .val (.arr 32 p.w) ∧ hdr = [stO g m u k n, smO m c es] ∧ p' = p) ps1 ps2 (FnM.mono ((uj (g := g) (m := m) (c := c) (u := u) (k := k) (n := n) (b := p.n) (w := p.w) (cd := p.cd) (sv := .map (some p.gs)) hE).frame [.map p.gs 32 p.sc p.ss]) fun r os' ⟨_, ⟨h1, h2⟩, h3⟩ => ⟨_, p, ⟨h1, rfl, rfl⟩, by rw [h3, h2]; rfl⟩)).frame ([unO u us, mkO k ks] ++ js)) ?_
  rintro r _ ⟨_, ⟨_, _, ⟨rfl, rfl, rfl⟩, rfl⟩, rfl⟩
  exact ⟨_, pm, by rw [his.w], rfl⟩
 | none =>
  refine FnM.out (((ru (g := g) (m := m) (c := c) (u := u) (k := k) (n := n) hE).frame (ps.flatMap PA.os)).frame ([unO u us, mkO k ks] ++ js)) ?_
  rintro r _ ⟨_, ⟨_, ⟨rfl, rfl⟩, rfl⟩, rfl⟩
  exact ⟨_, pm, by rw [hi.out a hE]; rfl, rfl⟩
theorem xJ {x y : Nat} (h : x < y) : mW x y = -1 := if_pos h
theorem xK {x y : Nat} (h : ¬ x < y) : 0 ≤ mW x y := by
 unfold mW
 rw [if_neg h]
 split <;> decide
theorem GSt.mono {M : Nat} (h : GSt g A N os) (hm : N ≤ M) : GSt g A M os := by
 obtain ⟨m, c, es, u, k, n, us, ks, ps, js, e, hi, hl⟩ := h
 exact ⟨m, c, es, u, k, n, us, ks, ps, js, e, ⟨hi.out, fun a d hd => (by
  obtain ⟨q, hq, e, hi⟩ := hi.inn a d hd
  exact ⟨q, hq, e, hi.n, hi.w, hi.cd, hi.sl, hi.ent, hi.nod, Ll hi.len hm, hi.cl⟩), hi.inj, hi.nod, Ll hi.len hm⟩, Ll hl hm⟩
def jK (A : As) (a a2 w : List UInt8) : Bool := decide (¬ val (A a).w < val w) && (decide (a = a2) || decide (¬ val (bJ (val (A a2).w + val w)) < val w))
def mvA (A : As) (a a2 w : List UInt8) : As := if jK A a a2 w = true ∧ a ≠ a2 then (A.upd a {A a with w := bJ (val (A a).w + 256 ^ 32 - val w)}).upd a2 {A a2 with w := bJ (val (A a2).w + val w)} else A
theorem Ko (h : GSt g A N os) (hN : N + 2 < 1099511627776) (hx : (A a).w.length = 32) (hy : (A a2).w.length = 32) (hw : w.length = 32) : FnM 28 [.v (ptr g), .arr 20 a, .arr 20 a2, .arr 32 w] os (fun r os' => r = .val (.v (.bool (jK A a a2 w))) ∧ GSt g (mvA A a a2 w) (N + 2) os') := by
 have h1 := vM h a
 have h1b := vM h a2
 have h2 := Iw (A a).w w hx hw
 by_cases hlt : val (A a).w < val w
 ·
  have e1 : jK A a a2 w = false := by simp [jK, hlt]
  have e2 : mvA A a a2 w = A := by simp [mvA, e1]
  rw [e1, e2]
  rw [xJ hlt] at h2
  refine FnM.walk 42 Tryz.func28 rfl Tryz.ntmps28 (by simp) fun X => ?_
  repeat
   (first
    | (apply ak; iterate 3 rfl) | (apply aV; rfl; rfl; rfl; intro _) | apply EL.nil
    | (with_reducible first | apply EK.nc | apply EC.seq | apply EC.r0))
  rename_i g5 g6 g7
  refine EC.tY 6 (by kernel_rfl) ?_
  simp only [Kv, Kz, Ku, Kw]
  refine EV.cut 2 ?_
  simp only [Kv, Kz, Ku, Kw]
  repeat
   (first
    | (apply aJ; iterate 3 rfl) | (apply aG; rfl; exact I.a; iterate 4 rfl))
  refine EM.nil ?_
  refine EV.visit os [_, _, _] rfl rfl (KY (l₁ := [_, _, _])) (kU h1 rfl rfl (au.refl _ _) (by intro _ _; simp [go_sem])) ?_
  try simp only [St.put]
  refine EV.cut 3 ?_
  simp only [Kv, Kz, Ku, Kw]
  repeat
   (first
    | (apply bV (h2); rfl; exact au.refl _ _; exact enA; iterate 2 rfl) | (apply aG; rfl; exact I.a; iterate 4 rfl)
    | (apply fP (b := true); (iterate 2 rfl); exact aN; iterate 2 rfl))
  refine EM.nil ?_
  refine EV.nil0 ?_
  repeat
   (first
    | (apply ak; iterate 3 rfl) | apply EL.nil | (apply EC.t0; rfl)
    | (with_reducible first | apply EK.nc | apply EC.seq | apply EC.r0 | apply EC.ret | apply EK.aj))
  exact EK.bn os rfl rfl (by (repeat first | exact KQ _ | apply List.Sublist.cons_cons | apply List.Sublist.cons)) ⟨rfl, h.mono (by omega)⟩
 ·
  have hz := xK hlt
  generalize mW (val (A a).w) (val w) = z at h2 hz
  have h3 := JW (A a2).w w hy hw
  have h4 := (kJ a a2).1
  by_cases heq : a = a2
  ·
   subst heq
   have e1 : jK A a a w = true := by simp [jK, hlt]
   have e2 : mvA A a a w = A := by simp [mvA]
   rw [e1, e2]
   rw [beq_self_eq_true] at h4
   refine FnM.walk 42 Tryz.func28 rfl Tryz.ntmps28 (by simp) fun X => ?_
   repeat
    (first
     | (apply ak; iterate 3 rfl) | (apply aV; rfl; rfl; rfl; intro _) | apply EL.nil
     | (with_reducible first | apply EK.nc | apply EC.seq | apply EC.r0))
   rename_i g5 g6 g7
   refine EC.tY 6 (by kernel_rfl) ?_
   simp only [Kv, Kz, Ku, Kw]
   refine EV.cut 2 ?_
   simp only [Kv, Kz, Ku, Kw]
   repeat
    (first
     | (apply aJ; iterate 3 rfl) | (apply aG; rfl; exact I.a; iterate 4 rfl))
   refine EM.nil ?_
   refine EV.visit os [_, _, _] rfl rfl (KY (l₁ := [_, _, _])) (kU h1 rfl rfl (au.refl _ _) (by intro _ _; simp [go_sem])) ?_
   try simp only [St.put]
   refine EV.cut 3 ?_
   simp only [Kv, Kz, Ku, Kw]
   repeat
    (first
     | (apply bV (h2); rfl; exact au.refl _ _; exact enA; iterate 2 rfl) | (apply aG; rfl; exact I.a; iterate 4 rfl)
     | (apply fP (b := false); (iterate 2 rfl); exact aN; iterate 2 rfl))
   refine EM.nil ?_
   refine EV.nil0 ?_
   repeat
    (first
     | apply EL.nil | (apply EC.f0; rfl) | (with_reducible first | apply EK.nc | apply EC.seq | apply EC.k0))
   refine EC.tY 6 (by kernel_rfl) ?_
   simp only [Kv, Kz, Ku, Kw]
   refine EV.cut 2 ?_
   simp only [Kv, Kz, Ku, Kw]
   repeat
    (first
     | (apply aJ; iterate 3 rfl) | (apply aG; rfl; exact I.a; iterate 4 rfl))
   refine EM.nil ?_
   refine EV.visit os [_, _, _] rfl rfl (KY (l₁ := [_, _, _])) (kU h1 rfl rfl (au.refl _ _) (by intro _ _; simp [go_sem])) ?_
   try simp only [St.put]
   refine EV.cut 3 ?_
   simp only [Kv, Kz, Ku, Kw]
   repeat
    (first
     | (apply bV (h3); rfl; exact au.refl _ _; exact enA; iterate 2 rfl) | (apply aG; rfl; exact I.a; iterate 4 rfl) | (apply rQ; iterate 3 rfl))
   refine EM.nil ?_
   refine EV.Ey fun g9 => ?_
   repeat
    (first
     | (apply dO; (iterate 2 rfl); exact h4; iterate 2 rfl) | (apply ak; iterate 3 rfl) | (apply aF; rfl; exact I.a; iterate 4 rfl)
     | (apply aO; rfl; exact saA; iterate 4 rfl) | apply EL.nil
     | (apply EC.t0; rfl) | (with_reducible first | apply EK.nc | apply EC.seq | apply EC.r0 | apply EC.b0 | apply EC.ret | apply EK.aA | apply EK.aj))
   exact EK.bn os rfl rfl (by (repeat first | exact KQ _ | apply List.Sublist.cons_cons | apply List.Sublist.cons)) ⟨rfl, h.mono (by omega)⟩
  ·
   rw [show (a == a2) = false by simpa using heq] at h4
   have h5 := Iw (bJ (val (A a2).w + val w)) w (cu _) hw
   by_cases hov : val (bJ (val (A a2).w + val w)) < val w
   ·
    have e1 : jK A a a2 w = false := by simp [jK, heq, hov]
    have e2 : mvA A a a2 w = A := by simp [mvA, e1]
    rw [e1, e2]
    rw [xJ hov] at h5
    generalize bJ (val (A a2).w + val w) = s at h3 h5
    refine FnM.walk 42 Tryz.func28 rfl Tryz.ntmps28 (by simp) fun X => ?_
    repeat
     (first
      | (apply ak; iterate 3 rfl) | (apply aV; rfl; rfl; rfl; intro _) | apply EL.nil
      | (with_reducible first | apply EK.nc | apply EC.seq | apply EC.r0))
    rename_i g5 g6 g7
    refine EC.tY 6 (by kernel_rfl) ?_
    simp only [Kv, Kz, Ku, Kw]
    refine EV.cut 2 ?_
    simp only [Kv, Kz, Ku, Kw]
    repeat
     (first
      | (apply aJ; iterate 3 rfl) | (apply aG; rfl; exact I.a; iterate 4 rfl))
    refine EM.nil ?_
    refine EV.visit os [_, _, _] rfl rfl (KY (l₁ := [_, _, _])) (kU h1 rfl rfl (au.refl _ _) (by intro _ _; simp [go_sem])) ?_
    try simp only [St.put]
    refine EV.cut 3 ?_
    simp only [Kv, Kz, Ku, Kw]
    repeat
     (first
      | (apply bV (h2); rfl; exact au.refl _ _; exact enA; iterate 2 rfl) | (apply aG; rfl; exact I.a; iterate 4 rfl)
      | (apply fP (b := false); (iterate 2 rfl); exact aN; iterate 2 rfl))
    refine EM.nil ?_
    refine EV.nil0 ?_
    repeat
     (first
      | apply EL.nil | (apply EC.f0; rfl) | (with_reducible first | apply EK.nc | apply EC.seq | apply EC.k0))
    refine EC.tY 6 (by kernel_rfl) ?_
    simp only [Kv, Kz, Ku, Kw]
    refine EV.cut 2 ?_
    simp only [Kv, Kz, Ku, Kw]
    repeat
     (first
      | (apply aJ; iterate 3 rfl) | (apply aG; rfl; exact I.a; iterate 4 rfl))
    refine EM.nil ?_
    refine EV.visit os [_, _, _] rfl rfl (KY (l₁ := [_, _, _])) (kU h1b rfl rfl (au.refl _ _) (by intro _ _; simp [go_sem])) ?_
    try simp only [St.put]
    refine EV.cut 3 ?_
    simp only [Kv, Kz, Ku, Kw]
    repeat
     (first
      | (apply bV (h3); rfl; exact au.refl _ _; exact enA; iterate 2 rfl) | (apply aG; rfl; exact I.a; iterate 4 rfl) | (apply rQ; iterate 3 rfl))
    refine EM.nil ?_
    refine EV.Ey fun g9 => ?_
    repeat
     (first
      | (apply dO; (iterate 2 rfl); exact h4; iterate 2 rfl) | (apply fJ (h5); rfl; exact au.refl _ _; exact enA; iterate 2 rfl)
      | (apply ak; iterate 3 rfl) | (apply aF; rfl; exact I.a; iterate 4 rfl) | (apply aC (b := true); (iterate 2 rfl); exact aN; iterate 2 rfl)
      | (apply aO; rfl; exact saA; iterate 4 rfl) | apply EL.nil
      | (apply EC.t0; rfl) | (apply EC.f0; rfl) | (with_reducible first | apply EK.nc | apply EC.seq | apply EC.r0 | apply EC.b0 | apply EC.ret | apply EK.aA | apply EK.aj))
    exact EK.bn os rfl rfl (by (repeat first | exact KQ _ | apply List.Sublist.cons_cons | apply List.Sublist.cons)) ⟨rfl, h.mono (by omega)⟩
   ·
    have e1 : jK A a a2 w = true := by simp [jK, hlt, hov]
    have e2 : mvA A a a2 w = (A.upd a {A a with w := bJ (val (A a).w + 256 ^ 32 - val w)}).upd a2 {A a2 with w := bJ (val (A a2).w + val w)} := by simp [mvA, e1, heq]
    rw [e1, e2]
    have hz2 := xK hov
    generalize mW (val (bJ (val (A a2).w + val w))) (val w) = z2 at h5 hz2
    have h6 := JV (A a).w w hx hw
    generalize bJ (val (A a).w + 256 ^ 32 - val w) = df at h6
    generalize bJ (val (A a2).w + val w) = s at h3 h5
    have h7 := kW (a := a) h (by omega) df
    refine FnM.walk 42 Tryz.func28 rfl Tryz.ntmps28 (by simp) fun X => ?_
    repeat
     (first
      | (apply ak; iterate 3 rfl) | (apply aV; rfl; rfl; rfl; intro _) | apply EL.nil
      | (with_reducible first | apply EK.nc | apply EC.seq | apply EC.r0))
    rename_i g5 g6 g7
    refine EC.tY 6 (by kernel_rfl) ?_
    simp only [Kv, Kz, Ku, Kw]
    refine EV.cut 2 ?_
    simp only [Kv, Kz, Ku, Kw]
    repeat
     (first
      | (apply aJ; iterate 3 rfl) | (apply aG; rfl; exact I.a; iterate 4 rfl))
    refine EM.nil ?_
    refine EV.visit os [_, _, _] rfl rfl (KY (l₁ := [_, _, _])) (kU h1 rfl rfl (au.refl _ _) (by intro _ _; simp [go_sem])) ?_
    try simp only [St.put]
    refine EV.cut 3 ?_
    simp only [Kv, Kz, Ku, Kw]
    repeat
     (first
      | (apply bV (h2); rfl; exact au.refl _ _; exact enA; iterate 2 rfl) | (apply aG; rfl; exact I.a; iterate 4 rfl)
      | (apply fP (b := false); (iterate 2 rfl); exact aN; iterate 2 rfl))
    refine EM.nil ?_
    refine EV.nil0 ?_
    repeat
     (first
      | apply EL.nil | (apply EC.f0; rfl) | (with_reducible first | apply EK.nc | apply EC.seq | apply EC.k0))
    refine EC.tY 6 (by kernel_rfl) ?_
    simp only [Kv, Kz, Ku, Kw]
    refine EV.cut 2 ?_
    simp only [Kv, Kz, Ku, Kw]
    repeat
     (first
      | (apply aJ; iterate 3 rfl) | (apply aG; rfl; exact I.a; iterate 4 rfl))
    refine EM.nil ?_
    refine EV.visit os [_, _, _] rfl rfl (KY (l₁ := [_, _, _])) (kU h1b rfl rfl (au.refl _ _) (by intro _ _; simp [go_sem])) ?_
    try simp only [St.put]
    refine EV.cut 3 ?_
    simp only [Kv, Kz, Ku, Kw]
    repeat
     (first
      | (apply bV (h3); rfl; exact au.refl _ _; exact enA; iterate 2 rfl) | (apply aG; rfl; exact I.a; iterate 4 rfl) | (apply rQ; iterate 3 rfl))
    refine EM.nil ?_
    refine EV.Ey fun g9 => ?_
    repeat
     (first
      | (apply dO; (iterate 2 rfl); exact h4; iterate 2 rfl) | (apply fJ (h5); rfl; exact au.refl _ _; exact enA; iterate 2 rfl)
      | (apply ak; iterate 3 rfl) | (apply aF; rfl; exact I.a; iterate 4 rfl) | (apply aC (b := false); (iterate 2 rfl); exact aN; iterate 2 rfl)
      | (apply aO; rfl; exact saA; iterate 4 rfl) | apply EL.nil
      | (apply EC.f0; rfl) | (with_reducible first | apply EK.nc | apply EC.seq | apply EC.r0 | apply EC.k0 | apply EC.b0 | apply EK.n0))
    refine EC.le (Le.perm (KY (l₁ := [_, _, _, _]))) ?_
    refine EC.dL 8 [0, 1, 2, 3, 5] [4, 6, 7] os _ (by kernel_rfl) (by kernel_rfl) rfl ?_
    simp only [aQ, KJ, KN, KD, KF]
    repeat
     (first
      | (apply aJ; iterate 3 rfl) | (apply aG; rfl; exact I.a; iterate 4 rfl))
    refine EM.nil ?_
    repeat (first | rw [Kr] | rw [Kt])
    refine CH.dS (rest := []) h1 rfl rfl (au.refl _ _) (by intro _ _; simp [go_sem]) rfl rfl ?_
    rintro _ _ ⟨rfl, rfl⟩
    try simp only [St.put]
    repeat (first | rw [Kr] | rw [Kt])
    refine CH.cut 1 ?_
    simp only [Kv, Kz, Ku, Kw]
    repeat
     (first
      | (apply bV (h6); rfl; exact au.refl _ _; exact enA; iterate 2 rfl))
    refine EM.nil ?_
    repeat (first | rw [Kr] | rw [Kt])
    refine CH.dS (rest := []) h7 rfl rfl (au.refl _ _) (by intro _ _; simp [go_sem]) rfl rfl ?_
    rintro _ os2 ⟨rfl, hS2⟩
    try simp only [St.put]
    repeat (first | rw [Kr] | rw [Kt])
    refine CH.nil ?_
    try simp only [Ku, Kw]
    refine EL.le (Le.perm (KY (l₂ := [_, _, _, _]))) ?_
    simp only [Kr, Kt]
    have h8 := kW (a := a2) hS2 (by omega) s
    rw [show (A.upd a {A a with w := df}) a2 = A a2 from if_neg heq] at h8
    repeat
     (first
      | (apply aB; iterate 3 rfl) | (apply aF; rfl; exact I.a; iterate 4 rfl) | apply EL.nil
      | (with_reducible first | apply EK.nc | apply EC.seq | apply EC.r0))
    refine bD h8 [_, _, _, _] [] (KU _).symm rfl (au.refl _ _) (by intro _ _; simp [go_sem]) rfl rfl ?_
    rintro _ os3 ⟨rfl, hS3⟩
    rw [KU]
    simp only [Kr, Kt]
    repeat
     (first
      | (apply ak; iterate 3 rfl) | apply EL.nil | (with_reducible first | apply EK.nc | apply EC.seq | apply EC.r0 | apply EC.ret))
    exact EK.bn os3 rfl rfl (by (repeat first | exact KQ _ | apply List.Sublist.cons_cons | apply List.Sublist.cons)) ⟨rfl, hS3⟩
end
def yC (p : List UInt8 × List UInt8) : List Value := bvs p.1 ++ bvs p.2
def D8 (p : List UInt8 × List UInt8) : Prop := p.1.length = 32 ∧ p.2.length = 32
theorem yB {ok : Nat → Prop} {w : World} {s : List UInt8 × List UInt8} {v : Value} (h : cZ ok w (aZ s) v) : v = .agg (yC s).toArray ∧ D8 s := by
 obtain ⟨cs, h', rfl⟩ := (kD rfl).1 h
 unfold aZ at h'
 rw [Reads, bH] at h'
 obtain ⟨c1, c2, rfl, h1, h2⟩ := h'
 rw [bH] at h2
 obtain ⟨c3, c4, rfl, h3, h4⟩ := h2
 rw [bH] at h4
 rw [Reads] at h1 h3
 rw [h1.2, h3.2, h4, KU]
 exact ⟨rfl, h1.1, h3.1⟩
theorem FD (w : World) (s : List UInt8 × List UInt8) (hs : D8 s) : (Op.equalIn 10000 63 (.agg (yC s).toArray) (.agg (yC s).toArray)).run Tryz.prog w = .ok true w := by
 rw [show (10000 : Nat) = 9999 + 1 from rfl, run_equalIn_struct w 9999 63 _ _ (by kernel_rfl) (by kernel_rfl)]
 simp only [Program.fieldsOf, Tryz.underlying63]
 have hp : ∀ (x : List UInt8 × List UInt8) (o : Nat) (l : List UInt8), D8 x → (o = 0 ∧ l = x.1 ∨ o = 32 ∧ l = x.2) → ∀ w, (part 34 (yC x).toArray o).run Tryz.prog w = .ok (bT l) w := by
  intro x o l hx ho w
  have h1 : (part 34 (yC x).toArray o).run Tryz.prog w = .ok (.agg ((yC x).toArray.extract o (o + 32))) w := by
   kernel_rfl
  rw [h1]
  have hk : (yC x).toArray.extract o (o + 32) = (bvs l).toArray := by
   apply NP
   rw [Array.toList_extract]
   unfold yC
   rcases ho with ⟨rfl, rfl⟩ | ⟨rfl, rfl⟩
   · rw [List.extract_eq_take_drop, Kw, List.take_left' (by rw [bK, hx.1])]
   · rw [List.extract_eq_take_drop, List.drop_left' (by rw [bK, hx.1]), ML (by rw [bK, hx.2]; decide)]
  rw [hk]
  rfl
 have hW := fun w l hl => Hw (T := 34) (n := 32) 9997 Tryz.underlying34 Tryz.underlying5 (fun w => by kernel_rfl) w l l hl hl
 simp only [Op.eqFields, ne_eq, String.reduceEq, not_false_eq_true, if_true, KL, hp s 0 s.1 hs (.inl ⟨rfl, rfl⟩), KC, hW _ _ hs.1, beq_self_eq_true]
 simp [hW _ _ hs.2, Sem.run_bind, hp s 32 s.2 hs (.inr ⟨rfl, rfl⟩)]
theorem DK (s : List UInt8 × List UInt8) : Bin .neq 63 (aZ s) (aZ s) (.bool false) := by
 refine ⟨rfl, fun ok w p q hp hq => ?_⟩
 obtain ⟨rfl, h1⟩ := yB hp
 obtain ⟨rfl, h2⟩ := yB hq
 refine ⟨fun x y => run_eqGuard_agg w _ _ _ _ _ _ (by kernel_rfl), ?_⟩
 rw [run_neq_struct, FD w s h1]
 rfl
theorem uJ (x : AcL) (hx : x.sl.length ≤ 1099511627776) : Fn 37 [aI x, aI x] (· = .val (.v (.bool true))) := by
 obtain ⟨a1, a2, a3, a4, a5⟩ := x
 unfold aI
 dsimp only at hx ⊢
 have h1 := (kJ a1 a1).2
 have h3 := (fB a3 a3).2
 have h4 := (Bh a4 a4).2
 rw [bne_self_eq_false] at h1 h3 h4
 have hl : (a5.map aZ).length = a5.length := KG _
 refine Fn.walk 61 Tryz.func37 rfl Tryz.ntmps37 (by simp) fun X => ?_
 repeat
  (first
   | (apply dO; (iterate 2 rfl); exact h1; iterate 2 rfl) | (apply dO; (iterate 2 rfl); exact h3; iterate 2 rfl)
   | (apply dO; (iterate 2 rfl); exact h4; iterate 2 rfl) | (apply aB; iterate 3 rfl) | (apply ak; iterate 3 rfl) | (apply aH; iterate 6 rfl)
   | (apply dH; iterate 4 rfl) | (apply aF; rfl; exact I.a; iterate 4 rfl) | (apply aC (b := false); (iterate 2 rfl); exact aN; iterate 2 rfl)
   | (apply aU; iterate 4 rfl) | (apply J4; iterate 3 rfl) | (apply aV; rfl; rfl; rfl; intro _) | apply EL.nil
   | (apply EC.f0; rfl)
   | (with_reducible first | apply EK.nc | apply EC.seq | apply EC.r0 | apply EC.k0 | apply EC.label | apply EC.b0 | apply EC.x0 | apply EC.ret | apply EK.n0 | apply EK.s0 | apply EK.aA | apply EK.aj | apply EK.ah))
 rename_i g2 g3
 refine EC.loop (ι := {k : Nat // k ≤ a5.length})
  (fun k => ⟨[(5, .val (.v (.int .i64 (k.1 : Int)))), (2, .val (.v (.pointer (some ⟨g2, 0, none⟩)))), (3, .val (.v (.pointer (some ⟨g3, 0, none⟩))))],
   [.var g3 51 (.tup [.arr 20 a1, .v (.int .i64 a2), .arr 32 a3, .bs a4, .sl 64 (a5.map aZ)]), .var g2 51 (.tup [.arr 20 a1, .v (.int .i64 a2), .arr 32 a3, .bs a4, .sl 64 (a5.map aZ)])], []⟩)
  (fun k => a5.length - k.1) ⟨0, by omega⟩ ?_ ?_
 · exact Le.kp
 rintro ⟨k, hk⟩
 dsimp only at hk ⊢
 by_cases hlt : k < a5.length
 ·
  have hy : (a5.map aZ)[k]? = some (aZ a5[k]) := by rw [List.getElem?_map, KA hlt]; rfl
  generalize a5[k] = s at hy
  have hb := DK s
  repeat
   (first
    | (apply aB; iterate 3 rfl) | (apply aH; iterate 6 rfl) | (apply aF; rfl; exact I.a; iterate 4 rfl)
    | (apply aC (b := true); (iterate 2 rfl); exact aN; iterate 2 rfl) | (apply aU; iterate 4 rfl) | apply EL.nil
    | (apply EC.t0; rfl)
    | (with_reducible first | apply EK.nc | apply EC.seq | apply EC.r0 | apply EC.k0 | apply EC.label | apply EC.b0 | apply EC.x0 | apply EC.ret | apply EK.n0 | apply EK.s0 | apply EK.aA | apply EK.aj | apply EK.ah))
  refine EC.draw 11 (by kernel_rfl) ?_
  simp only [Kv, Kz, Ku, Kw]
  repeat
   (first
    | (apply fQ; (iterate 2 rfl); exact hb; iterate 2 rfl) | (apply aJ; iterate 3 rfl) | (apply aW; iterate 6 rfl) | (apply gB; iterate 5 rfl)
    | (apply aG; rfl; exact I.a; iterate 4 rfl)
    | (apply iK; (iterate 4 rfl); exact ixA; iterate 2 rfl)
    | ((with_reducible apply EH.nil); rfl))
  repeat
   (first
    | (apply aB; iterate 3 rfl) | (apply ak; iterate 3 rfl) | (apply dQ; (iterate 3 rfl); (focus omega); (focus omega); iterate 2 rfl) | apply EL.nil
    | (apply EC.f0; rfl)
    | (with_reducible first | apply EK.nc | apply EC.seq | apply EC.r0 | apply EC.k0 | apply EC.label | apply EC.b0 | apply EC.x0 | apply EC.ret | apply EK.n0 | apply EK.s0 | apply EK.aA | apply EK.aj | apply EK.ah))
  refine EK.again ⟨k + 1, hlt⟩ (by dsimp only; omega) ?_
  simp only [Ls]
  exact Le.kp
 ·
  skip
  repeat
   (first
    | (apply aB; iterate 3 rfl) | (apply ak; iterate 3 rfl) | (apply aH; iterate 6 rfl) | (apply aF; rfl; exact I.a; iterate 4 rfl)
    | (apply aC (b := false); (iterate 2 rfl); exact aN; iterate 2 rfl) | (apply aU; iterate 4 rfl) | apply EL.nil
    | (apply EC.f0; rfl)
    | (with_reducible first | apply EK.nc | apply EC.seq | apply EC.r0 | apply EC.k0 | apply EC.label | apply EC.b0 | apply EC.x0 | apply EC.ret | apply EK.n0 | apply EK.s0 | apply EK.aA | apply EK.aj | apply EK.ah))
  exact EK.kC rfl rfl rfl
theorem mO (l : List AcL) (hl : l.length ≤ 1099511627776) (hx : ∀ x ∈ l, x.sl.length ≤ 1099511627776) : Fn 13 [.sl 55 (l.map aI), .sl 55 (l.map aI)] (· = .val (.v (.bool true))) := by
 have hml : (l.map aI).length = l.length := KG _
 refine Fn.walk 27 Tryz.func13 rfl Tryz.ntmps13 (by simp) fun X => ?_
 repeat
  (first
   | (apply aB; iterate 3 rfl) | (apply ak; iterate 3 rfl) | (apply aC (b := false); (iterate 2 rfl); exact aN; iterate 2 rfl)
   | (apply aU; iterate 4 rfl) | apply EL.nil | (apply EC.f0; rfl)
   | (with_reducible first | apply EK.nc | apply EC.seq | apply EC.r0 | apply EC.k0 | apply EC.label | apply EC.b0 | apply EC.x0 | apply EC.ret | apply EK.n0 | apply EK.s0 | apply EK.aA | apply EK.aj | apply EK.ah))
 refine EC.loop (ι := {k : Nat // k ≤ l.length})
  (fun k => ⟨[(5, .val (.v (.int .i64 (k.1 : Int)))), (0, .val (.sl 55 (l.map aI))), (1, .val (.sl 55 (l.map aI)))], [], []⟩)
  (fun k => l.length - k.1) ⟨0, by omega⟩ ?_ ?_
 · exact Le.kp
 rintro ⟨k, hk⟩
 dsimp only at hk ⊢
 by_cases hlt : k < l.length
 ·
  have hy : (l.map aI)[k]? = some (aI l[k]) := by rw [List.getElem?_map, KA hlt]; rfl
  have hc := uJ l[k] (hx _ (LH hlt))
  generalize l[k] = s at hy hc
  repeat
   (first
    | (apply aB; iterate 3 rfl) | (apply aC (b := true); (iterate 2 rfl); exact aN; iterate 2 rfl) | (apply aU; iterate 4 rfl) | apply EL.nil
    | (apply EC.t0; rfl)
    | (with_reducible first | apply EK.nc | apply EC.seq | apply EC.r0 | apply EC.k0 | apply EC.label | apply EC.b0 | apply EC.x0 | apply EC.ret | apply EK.n0 | apply EK.s0 | apply EK.aA | apply EK.aj | apply EK.ah))
  refine EC.draw 10 (by kernel_rfl) ?_
  simp only [Kv, Kz, Ku, Kw]
  repeat
   (first
    | (apply bV (hc); rfl; exact RL.a; exact enA; iterate 2 rfl) | (apply aJ; iterate 3 rfl) | (apply gB; iterate 5 rfl) | (apply J5; iterate 3 rfl)
    | (apply iK; (iterate 4 rfl); exact ixA; iterate 2 rfl)
    | ((with_reducible apply EH.nil); rfl))
  repeat
   (first
    | (apply aB; iterate 3 rfl) | (apply ak; iterate 3 rfl) | (apply dQ; (iterate 3 rfl); (focus omega); (focus omega); iterate 2 rfl) | apply EL.nil
    | (apply EC.f0; rfl)
    | (with_reducible first | apply EK.nc | apply EC.seq | apply EC.r0 | apply EC.k0 | apply EC.label | apply EC.b0 | apply EC.x0 | apply EC.ret | apply EK.n0 | apply EK.s0 | apply EK.aA | apply EK.aj | apply EK.ah))
  refine EK.again ⟨k + 1, hlt⟩ (by dsimp only; omega) ?_
  simp only [Ls]
  exact Le.kp
 ·
  skip
  repeat
   (first
    | (apply aB; iterate 3 rfl) | (apply ak; iterate 3 rfl) | (apply aC (b := false); (iterate 2 rfl); exact aN; iterate 2 rfl)
    | (apply aU; iterate 4 rfl) | apply EL.nil | (apply EC.f0; rfl)
    | (with_reducible first | apply EK.nc | apply EC.seq | apply EC.r0 | apply EC.k0 | apply EC.label | apply EC.b0 | apply EC.x0 | apply EC.ret | apply EK.n0 | apply EK.s0 | apply EK.aA | apply EK.aj | apply EK.ah))
  exact EK.kC rfl rfl rfl
end E
end Go.Proofs.YtkhjanjlcdhdcaaGreat
