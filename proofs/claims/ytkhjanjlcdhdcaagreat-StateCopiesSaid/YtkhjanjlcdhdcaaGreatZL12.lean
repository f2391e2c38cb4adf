/-
 Merged: lemmas of this claim.
 Conditions: none.
-/
import Derived.Test.YtkhjanjlcdhdcaaGreatZL11
import Derived.Test.YtkhjanjlcdhdcaaGreatZL6
import Derived.Laws.Pointers
import Derived.Test.YtkhjanjlcdhdcaaGreatZL0
namespace Go.Proofs.YtkhjanjlcdhdcaaGreat
set_option linter.unusedVariables false
set_option maxRecDepth 20000
set_option maxHeartbeats 4000000
open Go.RowKit Mono Rlp Wd
namespace E
abbrev stO (g m : Nat) (u k : Value) (n : Int) : Obj := .var g 56 (.tup [.v (.map (some m)), .v u, .v k, .v (.int .i64 n)])
abbrev smO (m c : Nat) (es : List Ent) : Obj := .map m 20 c es
abbrev unO (v : Value) (us : List D) : Obj := .row v 80 1 us
abbrev mkO (v : Value) (ks : List D) : Obj := .row v 73 2 ks
abbrev acO (g : Nat) (n : Int) (w c : List UInt8) (m : Value) : Obj := .var g 61 (.tup [.v (.int .i64 n), .arr 32 w, .bs c, .v m])
abbrev zaO (g : Nat) : Obj := .var g 61 (.tup [.v (.int .i64 0), .arr 32 zero32, .v (.slice none 0 0), .v (.map none)])
section
variable {g m c ga gs : Nat} {u k : Value} {n : Int} {es : List Ent} {a : List UInt8} {us ks : List D}
theorem BI (h : bC es a = some (.v (ptr ga))) : FnM 48 [.v (ptr g), .arr 20 a] [stO g m u k n, smO m c es] (fun r os' => r = .val (.v (ptr ga)) ∧ os' = [stO g m u k n, smO m c es]) := by
 have hg : (bC es a).getD (.v (.pointer none)) = .v (ptr ga) := by rw [h]; rfl
 have hn := (nV (T := 57) rfl (some ⟨ga, 0, none⟩)).2
 refine FnM.walk 17 Tryz.func48 rfl Tryz.ntmps48 (by simp) fun X => ?_
 repeat
  (first
   | (apply ak; iterate 3 rfl) | (apply aV; rfl; rfl; rfl; intro _) | apply EL.nil
   | (with_reducible first | apply EK.nc | apply EC.seq | apply EC.r0 | apply EC.k0 | apply EC.label | apply EC.b0 | apply EC.x0 | apply EC.ret | apply EK.n0 | apply EK.s0 | apply EK.aA | apply EK.aj | apply EK.ah))
 refine EC.draw 6 (by kernel_rfl) ?_
 simp only [Kv, Kz, Ku, Kw]
 repeat
  (first
   | (apply eu; exact hg; rfl; (first | exact I0 | exact I1 | exact I2); iterate 5 rfl) | (apply aJ; iterate 3 rfl) | (apply aW; iterate 6 rfl)
   | (apply aG; rfl; exact I.a; iterate 4 rfl) | (apply bg; iterate 3 rfl) | ((with_reducible apply EH.nil); rfl))
 repeat
  (first
   | (apply dO; (iterate 2 rfl); exact hn; iterate 2 rfl) | (apply aB; iterate 3 rfl) | (apply ak; iterate 3 rfl) | apply EL.nil
   | (apply EC.t0; rfl)
   | (with_reducible first | apply EK.nc | apply EC.seq | apply EC.r0 | apply EC.k0 | apply EC.label | apply EC.b0 | apply EC.x0 | apply EC.ret | apply EK.n0 | apply EK.s0 | apply EK.aA | apply EK.aj | apply EK.ah))
 exact EK.bn [stO g m u k n, smO m c es] rfl rfl (by (repeat first | exact KE _ | apply List.Sublist.cons_cons | apply List.Sublist.cons)) ⟨rfl, rfl⟩
theorem wW (h : bC es a = none) : FnM 48 [.v (ptr g), .arr 20 a] [stO g m u k n, smO m c es] (fun r os' => ∃ ga, r = .val (.v (ptr ga)) ∧ os' = [zaO ga, stO g m u k n, smO m c es]) := by
 have hg : (bC es a).getD (.v (.pointer none)) = .v (.pointer none) := by rw [h]; rfl
 have hn := (nV (T := 57) rfl none).2
 refine FnM.walk 17 Tryz.func48 rfl Tryz.ntmps48 (by simp) fun X => ?_
 repeat
  (first
   | (apply ak; iterate 3 rfl) | (apply aV; rfl; rfl; rfl; intro _) | apply EL.nil
   | (with_reducible first | apply EK.nc | apply EC.seq | apply EC.r0 | apply EC.k0 | apply EC.label | apply EC.b0 | apply EC.x0 | apply EC.ret | apply EK.n0 | apply EK.s0 | apply EK.aA | apply EK.aj | apply EK.ah))
 refine EC.draw 6 (by kernel_rfl) ?_
 simp only [Kv, Kz, Ku, Kw]
 repeat
  (first
   | (apply eu; exact hg; rfl; (first | exact I0 | exact I1 | exact I2); iterate 5 rfl) | (apply aJ; iterate 3 rfl) | (apply aW; iterate 6 rfl)
   | (apply aG; rfl; exact I.a; iterate 4 rfl) | (apply bg; iterate 3 rfl) | ((with_reducible apply EH.nil); rfl))
 repeat
  (first
   | (apply dO; (iterate 2 rfl); exact hn; iterate 2 rfl) | (apply aB; iterate 3 rfl) | (apply ak; iterate 3 rfl) | (apply jo; iterate 7 rfl)
   | (apply aV; rfl; rfl; rfl; intro _) | apply EL.nil | (apply EC.f0; rfl)
   | (with_reducible first | apply EK.nc | apply EC.seq | apply EC.r0 | apply EC.k0 | apply EC.label | apply EC.b0 | apply EC.x0 | apply EC.ret | apply EK.n0 | apply EK.s0 | apply EK.aA | apply EK.aj | apply EK.ah))
 rename_i ga
 exact EK.bn [zaO ga, stO g m u k n, smO m c es] rfl rfl (by (repeat first | exact KE _ | apply List.Sublist.cons_cons | apply List.Sublist.cons)) ⟨ga, rfl, rfl⟩
theorem uj {b : Int} {w cd : List UInt8} {sv : Value} (h : bC es a = some (.v (ptr ga))) : FnM 51 [.v (ptr g), .arr 20 a] [stO g m u k n, smO m c es, acO ga b w cd sv] (fun r os' => r = .val (.arr 32 w) ∧ os' = [stO g m u k n, smO m c es, acO ga b w cd sv]) := by
 have h1 := BI (g := g) (m := m) (c := c) (u := u) (k := k) (n := n) h
 refine FnM.walk 11 Tryz.func51 rfl Tryz.ntmps51 (by simp) fun X => ?_
 repeat
  (first
   | (apply aB; iterate 3 rfl) | (apply aF; rfl; exact I.a; iterate 4 rfl) | (apply bW; rfl; rfl; rfl; intro _)
   | (apply aV; rfl; rfl; rfl; intro _) | apply EL.nil
   | (with_reducible first | apply EK.nc | apply EC.seq | apply EC.r0 | apply EC.k0 | apply EC.label | apply EC.b0 | apply EC.x0 | apply EC.ret | apply EK.n0 | apply EK.s0 | apply EK.aA | apply EK.aj | apply EK.ah))
 rename_i g3 g4
 refine EL.le (Le.rot 2) ?_
 simp only [Ku, Kw, Kv, Kz, Kr, Kt]
 repeat
  (first
   | ((apply jg (h1); (iterate 2 rfl); exact RL.a; exact enA; iterate 2 rfl)) | (apply aH; iterate 6 rfl) | (apply aF; rfl; exact I.a; iterate 4 rfl)
   | (apply aY; iterate 3 rfl) | (apply aO; rfl; exact saA; iterate 4 rfl) | apply EL.nil
   | (with_reducible first | apply EK.nc | apply EC.seq | apply EC.r0 | apply EC.k0 | apply EC.label | apply EC.b0 | apply EC.x0 | apply EC.ret | apply EK.n0 | apply EK.s0 | apply EK.aA | apply EK.aj | apply EK.ah))
 exact EK.nI 3 [stO g m u k n, smO m c es, acO ga b w cd sv] rfl rfl rfl rfl (by repeat first | exact au.refl _ _ | exact RL.nil | exact Rf.same) (by (repeat first | exact KE _ | apply List.Sublist.cons_cons | apply List.Sublist.cons)) ⟨rfl, rfl⟩
theorem ru (h : bC es a = none) : FnM 51 [.v (ptr g), .arr 20 a] [stO g m u k n, smO m c es] (fun r os' => r = .val (.arr 32 zero32) ∧ os' = [stO g m u k n, smO m c es]) := by
 have h1 := wW (g := g) (m := m) (c := c) (u := u) (k := k) (n := n) h
 refine FnM.walk 11 Tryz.func51 rfl Tryz.ntmps51 (by simp) fun X => ?_
 repeat
  (first
   | (apply aB; iterate 3 rfl) | (apply aF; rfl; exact I.a; iterate 4 rfl) | (apply bW; rfl; rfl; rfl; intro _)
   | (apply aV; rfl; rfl; rfl; intro _) | apply EL.nil
   | (with_reducible first | apply EK.nc | apply EC.seq | apply EC.r0 | apply EC.k0 | apply EC.label | apply EC.b0 | apply EC.x0 | apply EC.ret | apply EK.n0 | apply EK.s0 | apply EK.aA | apply EK.aj | apply EK.ah))
 rename_i g3 g4
 refine EL.le (Le.rot 2) ?_
 simp only [Ku, Kw, Kv, Kz, Kr, Kt]
 repeat
  (first
   | (apply dM h1; (iterate 2 rfl); exact au.refl _ _; (focus (intro _ _; simp [go_sem]; done)); (iterate 2 rfl); rintro _ _ ⟨ga, rfl, rfl⟩) | (apply aH; iterate 6 rfl)
   | (apply aF; rfl; exact I.a; iterate 4 rfl) | (apply aY; iterate 3 rfl)
   | (apply aO; rfl; exact saA; iterate 4 rfl) | apply EL.nil
   | (with_reducible first | apply EK.nc | apply EC.seq | apply EC.r0 | apply EC.k0 | apply EC.label | apply EC.b0 | apply EC.x0 | apply EC.ret | apply EK.n0 | apply EK.s0 | apply EK.aA | apply EK.aj | apply EK.ah))
 exact EK.nI 3 [stO g m u k n, smO m c es] rfl rfl rfl rfl (by repeat first | exact au.refl _ _ | exact RL.nil | exact Rf.same) (by (repeat first | exact KE _ | apply List.Sublist.cons_cons | apply List.Sublist.cons)) ⟨rfl, rfl⟩
theorem sZ {b : Int} {w cd : List UInt8} {sv : Value} (h : bC es a = some (.v (ptr ga))) : FnM 17 [.v (ptr g), .arr 20 a] [stO g m u k n, smO m c es, acO ga b w cd sv] (fun r os' => r = .val (.v (.int .i64 b)) ∧ os' = [stO g m u k n, smO m c es, acO ga b w cd sv]) := by
 have h1 := BI (g := g) (m := m) (c := c) (u := u) (k := k) (n := n) h
 refine FnM.walk 11 Tryz.func17 rfl Tryz.ntmps17 (by simp) fun X => ?_
 repeat
  (first
   | (apply aB; iterate 3 rfl) | (apply ak; iterate 3 rfl) | (apply aF; rfl; exact I.a; iterate 4 rfl) | (apply aV; rfl; rfl; rfl; intro _)
   | apply EL.nil
   | (with_reducible first | apply EK.nc | apply EC.seq | apply EC.r0 | apply EC.k0 | apply EC.label | apply EC.b0 | apply EC.x0 | apply EC.ret | apply EK.n0 | apply EK.s0 | apply EK.aA | apply EK.aj | apply EK.ah))
 rename_i g3
 refine EL.le (Le.rot 1) ?_
 simp only [Ku, Kw, Kv, Kz, Kr, Kt]
 repeat
  (first
   | ((apply jg (h1); (iterate 2 rfl); exact RL.a; exact enA; iterate 2 rfl)) | (apply ak; iterate 3 rfl) | (apply aH; iterate 6 rfl)
   | (apply aF; rfl; exact I.a; iterate 4 rfl) | (apply aY; iterate 3 rfl) | apply EL.nil
   | (with_reducible first | apply EK.nc | apply EC.seq | apply EC.r0 | apply EC.k0 | apply EC.label | apply EC.b0 | apply EC.x0 | apply EC.ret | apply EK.n0 | apply EK.s0 | apply EK.aA | apply EK.aj | apply EK.ah))
 exact EK.bn [stO g m u k n, smO m c es, acO ga b w cd sv] rfl rfl (by (repeat first | exact KE _ | apply List.Sublist.cons_cons | apply List.Sublist.cons)) ⟨rfl, rfl⟩
theorem Di (h : bC es a = none) : FnM 17 [.v (ptr g), .arr 20 a] [stO g m u k n, smO m c es] (fun r os' => r = .val (.v (.int .i64 0)) ∧ os' = [stO g m u k n, smO m c es]) := by
 have h1 := wW (g := g) (m := m) (c := c) (u := u) (k := k) (n := n) h
 refine FnM.walk 11 Tryz.func17 rfl Tryz.ntmps17 (by simp) fun X => ?_
 repeat
  (first
   | (apply aB; iterate 3 rfl) | (apply ak; iterate 3 rfl) | (apply aF; rfl; exact I.a; iterate 4 rfl) | (apply aV; rfl; rfl; rfl; intro _)
   | apply EL.nil
   | (with_reducible first | apply EK.nc | apply EC.seq | apply EC.r0 | apply EC.k0 | apply EC.label | apply EC.b0 | apply EC.x0 | apply EC.ret | apply EK.n0 | apply EK.s0 | apply EK.aA | apply EK.aj | apply EK.ah))
 rename_i g3
 refine EL.le (Le.rot 1) ?_
 simp only [Ku, Kw, Kv, Kz, Kr, Kt]
 repeat
  (first
   | (apply dM h1; (iterate 2 rfl); exact au.refl _ _; (focus (intro _ _; simp [go_sem]; done)); (iterate 2 rfl); rintro _ _ ⟨ga, rfl, rfl⟩) | (apply ak; iterate 3 rfl)
   | (apply aH; iterate 6 rfl) | (apply aF; rfl; exact I.a; iterate 4 rfl) | (apply aY; iterate 3 rfl) | apply EL.nil
   | (with_reducible first | apply EK.nc | apply EC.seq | apply EC.r0 | apply EC.k0 | apply EC.label | apply EC.b0 | apply EC.x0 | apply EC.ret | apply EK.n0 | apply EK.s0 | apply EK.aA | apply EK.aj | apply EK.ah))
 exact EK.bn [stO g m u k n, smO m c es] rfl rfl (by (repeat first | exact KE _ | apply List.Sublist.cons_cons | apply List.Sublist.cons)) ⟨rfl, rfl⟩
end
section
variable {N : Nat} {X : Cx N} {rs : List (Tmp × R)} {os : List Obj} {fs : List (Value × D)}
theorem Le.Aa {g : Nat} {t : TypeId} {d d' : D} (h : Refine fs d d') : Le X ⟨rs, .var g t d :: os, fs⟩ ⟨rs, .var g t d' :: os, fs⟩ := fun a w ha => by
 have hok : ∀ b, X.ok (.var g t d :: os) w b ↔ X.ok (.var g t d' :: os) w b := fun b => ⟨fun hb => ⟨hb.1, hb.2.1, fun o ho => by
   rcases KI.1 ho with rfl | ho
   · exact hb.2.2 (.var g t d) KH
   · exact hb.2.2 o (KT _ ho)⟩, fun hb => ⟨hb.1, hb.2.1, fun o ho => by
   rcases KI.1 ho with rfl | ho
   · exact hb.2.2 (.var g t d') KH
   · exact hb.2.2 o (KT _ ho)⟩⟩
 have hap := LJ.1 ha.mem.apart
 have hf : ∀ f ∈ fs, Reads (X.ok (.var g t d' :: os) w) w f.2 [f.1] := fun f hf => Reads.mono (fun b hb => (hok b).1 hb) (fun _ _ => rfl) _ _ (ha.mem.fact f hf)
 refine ⟨⟨ha.mem.gr, LJ.2 ⟨fun p hp b e => hap.1 p hp b e, hap.2⟩, fun o ho => ?_, hf⟩, fun t' r hr => (ha.regs t' r hr).mono (fun b hb => (hok b).1 hb) fun _ _ => rfl, ha.size, ha.defers⟩
 rcases KI.1 ho with rfl | ho
 ·
  obtain ⟨h1, cs, h2, h3⟩ := ha.mem.at_ (.var g t d) KH
  exact ⟨h1, cs, h2, (Refine.reads hf _ _ _ h (Reads.mono (fun b hb => (hok b).1 hb) (fun _ _ => rfl) _ _ h3)).1⟩
 · exact (ha.mem.at_ o (KT _ ho)).move (fun b hb => (hok b).1 hb) (fun _ _ => rfl) fun _ _ => rfl
end
section
variable {g m c ga gs T : Nat} {u k : Value} {n : Int} {es : List Ent} {a : List UInt8} {us ks : List D} {d : D}
def dB (ks us : List D) (d : D) : List D := if ks.length = 0 then us else us ++ [d]
theorem qB (h : bC es a = some (.v (ptr ga))) (hu : us.length < 1099511627776) : FnM 47 [.v (ptr g), .arr 20 a, .ifc T d] [stO g m u k n, smO m c es, unO u us, mkO k ks] (fun r os' => ∃ u', r = .val (.v (ptr ga)) ∧ os' = [stO g m u' k n, smO m c es, unO u' (dB ks us (.ifc T d)), mkO k ks]) := by
 have hg : (bC es a).getD (.v (.pointer none)) = .v (ptr ga) := by rw [h]; rfl
 have hn := (nV (T := 57) rfl (some ⟨ga, 0, none⟩)).1
 refine FnM.walk 44 Tryz.func47 rfl Tryz.ntmps47 (by simp) fun X => ?_
 by_cases hk : ks.length = 0
 ·
  obtain rfl : ks = [] := MN hk
  rw [show dB [] us (.ifc T d) = us from rfl]
  repeat
   (first
    | (apply aB; iterate 3 rfl) | (apply ak; iterate 3 rfl) | (apply aH; iterate 6 rfl) | (apply aF; rfl; exact I.a; iterate 4 rfl)
    | (apply aC (b := false); (iterate 2 rfl); exact aN; iterate 2 rfl) | (apply bU; rfl; exact I.a; iterate 3 rfl) | (apply aY; iterate 3 rfl)
    | (apply aV; rfl; rfl; rfl; intro _) | apply EL.nil | (apply EC.f0; rfl)
    | (with_reducible first | apply EK.nc | apply EC.seq | apply EC.r0 | apply EC.k0 | apply EC.label | apply EC.b0 | apply EC.x0 | apply EC.ret | apply EK.n0 | apply EK.s0 | apply EK.aA | apply EK.aj | apply EK.ah))
  refine EC.draw 7 (by kernel_rfl) ?_
  simp only [Kv, Kz, Ku, Kw]
  repeat
   (first
    | (apply eu; exact hg; rfl; (first | exact I0 | exact I1 | exact I2); iterate 5 rfl) | (apply fQ; (iterate 2 rfl); exact hn; iterate 2 rfl)
    | (apply aJ; iterate 3 rfl) | (apply aW; iterate 6 rfl) | (apply aG; rfl; exact I.a; iterate 4 rfl) | (apply bg; iterate 3 rfl)
    | ((with_reducible apply EH.nil); rfl))
  repeat
   (first
    | apply EL.nil | (apply EC.f0; rfl)
    | (with_reducible first | apply EK.nc | apply EC.seq | apply EC.r0 | apply EC.k0 | apply EC.label | apply EC.b0 | apply EC.x0 | apply EC.ret | apply EK.n0 | apply EK.s0 | apply EK.aA | apply EK.aj | apply EK.ah))
  refine EC.draw 6 (by kernel_rfl) ?_
  simp only [Kv, Kz, Ku, Kw]
  repeat
   (first
    | (apply eu; exact hg; rfl; (first | exact I0 | exact I1 | exact I2); iterate 5 rfl) | (apply aJ; iterate 3 rfl) | (apply aW; iterate 6 rfl)
    | (apply aG; rfl; exact I.a; iterate 4 rfl) | (apply bg; iterate 3 rfl) | ((with_reducible apply EH.nil); rfl))
  repeat
   (first
    | (apply ak; iterate 3 rfl) | apply EL.nil
    | (with_reducible first | apply EK.nc | apply EC.seq | apply EC.r0 | apply EC.k0 | apply EC.label | apply EC.b0 | apply EC.x0 | apply EC.ret | apply EK.n0 | apply EK.s0 | apply EK.aA | apply EK.aj | apply EK.ah))
  exact EK.bn [stO g m u k n, smO m c es, unO u us, mkO k []] rfl rfl (by (repeat first | exact KE _ | apply List.Sublist.cons_cons | apply List.Sublist.cons)) ⟨u, rfl, rfl⟩
 ·
  have hU : dB ks us (.ifc T d) = us ++ [.ifc T d] := if_neg hk
  rw [hU]
  repeat
   (first
    | (apply aB; iterate 3 rfl) | (apply ak; iterate 3 rfl) | (apply aH; iterate 6 rfl) | (apply aF; rfl; exact I.a; iterate 4 rfl)
    | (apply aC (b := true); (iterate 2 rfl); exact aN; iterate 2 rfl) | (apply bU; rfl; exact I.a; iterate 3 rfl) | (apply kM; iterate 9 rfl)
    | (apply aY; iterate 3 rfl) | (apply aV; rfl; rfl; rfl; intro _)
    | (apply aO; rfl; exact saA; iterate 4 rfl)
    | ((apply dP; rfl; exact saA; (iterate 5 rfl); (focus (constructor <;> (first | (simp; done) | (simp; omega))))); intro _)
    | apply EL.nil | (apply EC.t0; rfl)
    | (with_reducible first | apply EK.nc | apply EC.seq | apply EC.r0 | apply EC.k0 | apply EC.label | apply EC.b0 | apply EC.x0 | apply EC.ret | apply EK.n0 | apply EK.s0 | apply EK.aA | apply EK.aj | apply EK.ah))
  rename_i u'
  refine EC.draw 7 (by kernel_rfl) ?_
  simp only [Kv, Kz, Ku, Kw]
  repeat
   (first
    | (apply eu; exact hg; rfl; (first | exact I0 | exact I1 | exact I2); iterate 5 rfl) | (apply fQ; (iterate 2 rfl); exact hn; iterate 2 rfl)
    | (apply aJ; iterate 3 rfl) | (apply aW; iterate 6 rfl) | (apply aG; rfl; exact I.a; iterate 4 rfl) | (apply bg; iterate 3 rfl)
    | ((with_reducible apply EH.nil); rfl))
  repeat
   (first
    | apply EL.nil | (apply EC.f0; rfl)
    | (with_reducible first | apply EK.nc | apply EC.seq | apply EC.r0 | apply EC.k0 | apply EC.label | apply EC.b0 | apply EC.x0 | apply EC.ret | apply EK.n0 | apply EK.s0 | apply EK.aA | apply EK.aj | apply EK.ah))
  refine EC.draw 6 (by kernel_rfl) ?_
  simp only [Kv, Kz, Ku, Kw]
  repeat
   (first
    | (apply eu; exact hg; rfl; (first | exact I0 | exact I1 | exact I2); iterate 5 rfl) | (apply aJ; iterate 3 rfl) | (apply aW; iterate 6 rfl)
    | (apply aG; rfl; exact I.a; iterate 4 rfl) | (apply bg; iterate 3 rfl) | ((with_reducible apply EH.nil); rfl))
  repeat
   (first
    | (apply ak; iterate 3 rfl) | apply EL.nil
    | (with_reducible first | apply EK.nc | apply EC.seq | apply EC.r0 | apply EC.k0 | apply EC.label | apply EC.b0 | apply EC.x0 | apply EC.ret | apply EK.n0 | apply EK.s0 | apply EK.aA | apply EK.aj | apply EK.ah))
  exact EK.bn [stO g m u' k n, smO m c es, unO u' (us ++ [.ifc T d]), mkO k ks] rfl rfl (by (repeat first | exact KE _ | apply List.Sublist.cons_cons | apply List.Sublist.cons)) ⟨u', rfl, rfl⟩
theorem jH (h : bC es a = none) (hu : us.length < 1099511627776) : FnM 47 [.v (ptr g), .arr 20 a, .ifc T d] [stO g m u k n, smO m c es, unO u us, mkO k ks] (fun r os' => ∃ u' ga gs, r = .val (.v (ptr ga)) ∧ os' = [acO ga 0 zero32 [] (.map (some gs)), .map gs 32 0 [], stO g m u' k n, smO m (dG c es a) (dN c es a (.v (ptr ga))), unO u' (dB ks us (.ifc T d)), mkO k ks]) := by
 have hg : (bC es a).getD (.v (.pointer none)) = .v (.pointer none) := by rw [h]; rfl
 have hg2 : ∀ ga, (bC (dN c es a (.v (ptr ga))) a).getD (.v (.pointer none)) = .v (ptr ga) := fun ga => by rw [gJ, if_pos rfl]; rfl
 have hn := (nV (T := 57) rfl none).1
 refine FnM.walk 44 Tryz.func47 rfl Tryz.ntmps47 (by simp) fun X => ?_
 by_cases hk : ks.length = 0
 ·
  obtain rfl : ks = [] := MN hk
  rw [show dB [] us (.ifc T d) = us from rfl]
  repeat
   (first
    | (apply aB; iterate 3 rfl) | (apply ak; iterate 3 rfl) | (apply aH; iterate 6 rfl) | (apply aF; rfl; exact I.a; iterate 4 rfl)
    | (apply aC (b := false); (iterate 2 rfl); exact aN; iterate 2 rfl) | (apply bU; rfl; exact I.a; iterate 3 rfl) | (apply aY; iterate 3 rfl)
    | (apply aV; rfl; rfl; rfl; intro _) | apply EL.nil | (apply EC.f0; rfl)
    | (with_reducible first | apply EK.nc | apply EC.seq | apply EC.r0 | apply EC.k0 | apply EC.label | apply EC.b0 | apply EC.x0 | apply EC.ret | apply EK.n0 | apply EK.s0 | apply EK.aA | apply EK.aj | apply EK.ah))
  refine EC.draw 7 (by kernel_rfl) ?_
  simp only [Kv, Kz, Ku, Kw]
  repeat
   (first
    | (apply eu; exact hg; rfl; (first | exact I0 | exact I1 | exact I2); iterate 5 rfl) | (apply fQ; (iterate 2 rfl); exact hn; iterate 2 rfl)
    | (apply aJ; iterate 3 rfl) | (apply aW; iterate 6 rfl) | (apply aG; rfl; exact I.a; iterate 4 rfl) | (apply bg; iterate 3 rfl)
    | ((with_reducible apply EH.nil); rfl))
  repeat
   (first
    | apply EL.nil | ((with_reducible apply EK.h0); apply EK.code) | (apply EC.t0; rfl))
  refine EC.dL 8 [0, 1, 2, 3, 4] [5, 6, 7] [] _ (by kernel_rfl) (by kernel_rfl) rfl ?_
  simp only [aQ, KJ, KN, KD, KF]
  repeat
   (first
    | (apply aJ; iterate 3 rfl) | (apply aW; iterate 6 rfl) | (apply aG; rfl; exact I.a; iterate 4 rfl) | (apply bg; iterate 3 rfl))
  refine EM.nil ?_
  repeat (first | rw [Kr] | rw [Kt])
  refine CH.mut (os := []) (rest := []) rfl rfl (jw rfl rfl) ?_
  rintro _ _ ⟨gs, rfl, rfl⟩
  try simp only [St.put]
  repeat (first | rw [Kr] | rw [Kt])
  refine CH.cut 1 ?_
  simp only [Kv, Kz, Ku, Kw]
  repeat
   (first
    | (apply dR; iterate 7 rfl))
  refine EM.nil ?_
  repeat (first | rw [Kr] | rw [Kt])
  refine CH.mut (os := []) (rest := [_]) rfl rfl (yX rfl rfl) ?_
  rintro _ _ ⟨ga, rfl, rfl⟩
  try simp only [St.put]
  repeat (first | rw [Kr] | rw [Kt])
  refine CH.nil ?_
  try simp only [Ku, Kw]
  repeat
   (first
    | (apply kL; rfl; exact saA; iterate 4 rfl) | apply EL.nil
    | (with_reducible first | apply EK.nc | apply EC.seq | apply EC.r0 | apply EC.k0 | apply EC.label | apply EC.b0 | apply EC.x0 | apply EC.ret | apply EK.n0 | apply EK.s0 | apply EK.aA | apply EK.aj | apply EK.ah))
  refine EC.draw 6 (by kernel_rfl) ?_
  simp only [Kv, Kz, Ku, Kw]
  repeat
   (first
    | (apply eu; exact hg2 ga; rfl; (first | exact I0 | exact I1 | exact I2 | exact I3 | exact I4 | exact I5); iterate 5 rfl) | (apply aJ; iterate 3 rfl)
    | (apply aW; iterate 6 rfl) | (apply aG; rfl; exact I.a; iterate 4 rfl) | (apply bg; iterate 3 rfl) | ((with_reducible apply EH.nil); rfl))
  repeat
   (first
    | (apply ak; iterate 3 rfl) | apply EL.nil
    | (with_reducible first | apply EK.nc | apply EC.seq | apply EC.r0 | apply EC.k0 | apply EC.label | apply EC.b0 | apply EC.x0 | apply EC.ret | apply EK.n0 | apply EK.s0 | apply EK.aA | apply EK.aj | apply EK.ah))
  refine EK.le (Le.Aa (d' := .tup [.v (.int .i64 0), .arr 32 zero32, .bs [], .v (.map (some gs))]) ?_) ?_
  · exact Rf.tup (RL.cons Rf.same (RL.cons Rf.same (RL.cons Rf.bs0 (RL.cons Rf.same RL.nil))))
  exact EK.bn [acO ga 0 zero32 [] (.map (some gs)), .map gs 32 0 [], stO g m u k n, smO m (dG c es a) (dN c es a (.v (ptr ga))), unO u us, mkO k []] rfl rfl (by (repeat first | exact KE _ | apply List.Sublist.cons_cons | apply List.Sublist.cons)) ⟨u, ga, gs, rfl, rfl⟩
 ·
  have hU : dB ks us (.ifc T d) = us ++ [.ifc T d] := if_neg hk
  rw [hU]
  repeat
   (first
    | (apply aB; iterate 3 rfl) | (apply ak; iterate 3 rfl) | (apply aH; iterate 6 rfl) | (apply aF; rfl; exact I.a; iterate 4 rfl)
    | (apply aC (b := true); (iterate 2 rfl); exact aN; iterate 2 rfl) | (apply bU; rfl; exact I.a; iterate 3 rfl) | (apply kM; iterate 9 rfl)
    | (apply aY; iterate 3 rfl) | (apply aV; rfl; rfl; rfl; intro _)
    | (apply aO; rfl; exact saA; iterate 4 rfl)
    | ((apply dP; rfl; exact saA; (iterate 5 rfl); (focus (constructor <;> (first | (simp; done) | (simp; omega))))); intro _)
    | apply EL.nil | (apply EC.t0; rfl)
    | (with_reducible first | apply EK.nc | apply EC.seq | apply EC.r0 | apply EC.k0 | apply EC.label | apply EC.b0 | apply EC.x0 | apply EC.ret | apply EK.n0 | apply EK.s0 | apply EK.aA | apply EK.aj | apply EK.ah))
  rename_i u'
  refine EC.draw 7 (by kernel_rfl) ?_
  simp only [Kv, Kz, Ku, Kw]
  repeat
   (first
    | (apply eu; exact hg; rfl; (first | exact I0 | exact I1 | exact I2); iterate 5 rfl) | (apply fQ; (iterate 2 rfl); exact hn; iterate 2 rfl)
    | (apply aJ; iterate 3 rfl) | (apply aW; iterate 6 rfl) | (apply aG; rfl; exact I.a; iterate 4 rfl) | (apply bg; iterate 3 rfl)
    | ((with_reducible apply EH.nil); rfl))
  repeat
   (first
    | apply EL.nil | ((with_reducible apply EK.h0); apply EK.code) | (apply EC.t0; rfl))
  refine EC.dL 8 [0, 1, 2, 3, 4] [5, 6, 7] [] _ (by kernel_rfl) (by kernel_rfl) rfl ?_
  simp only [aQ, KJ, KN, KD, KF]
  repeat
   (first
    | (apply aJ; iterate 3 rfl) | (apply aW; iterate 6 rfl) | (apply aG; rfl; exact I.a; iterate 4 rfl) | (apply bg; iterate 3 rfl))
  refine EM.nil ?_
  repeat (first | rw [Kr] | rw [Kt])
  refine CH.mut (os := []) (rest := []) rfl rfl (jw rfl rfl) ?_
  rintro _ _ ⟨gs, rfl, rfl⟩
  try simp only [St.put]
  repeat (first | rw [Kr] | rw [Kt])
  refine CH.cut 1 ?_
  simp only [Kv, Kz, Ku, Kw]
  repeat
   (first
    | (apply dR; iterate 7 rfl))
  refine EM.nil ?_
  repeat (first | rw [Kr] | rw [Kt])
  refine CH.mut (os := []) (rest := [_]) rfl rfl (yX rfl rfl) ?_
  rintro _ _ ⟨ga, rfl, rfl⟩
  try simp only [St.put]
  repeat (first | rw [Kr] | rw [Kt])
  refine CH.nil ?_
  try simp only [Ku, Kw]
  repeat
   (first
    | (apply kL; rfl; exact saA; iterate 4 rfl) | apply EL.nil
    | (with_reducible first | apply EK.nc | apply EC.seq | apply EC.r0 | apply EC.k0 | apply EC.label | apply EC.b0 | apply EC.x0 | apply EC.ret | apply EK.n0 | apply EK.s0 | apply EK.aA | apply EK.aj | apply EK.ah))
  refine EC.draw 6 (by kernel_rfl) ?_
  simp only [Kv, Kz, Ku, Kw]
  repeat
   (first
    | (apply eu; exact hg2 ga; rfl; (first | exact I0 | exact I1 | exact I2 | exact I3 | exact I4 | exact I5); iterate 5 rfl) | (apply aJ; iterate 3 rfl)
    | (apply aW; iterate 6 rfl) | (apply aG; rfl; exact I.a; iterate 4 rfl) | (apply bg; iterate 3 rfl) | ((with_reducible apply EH.nil); rfl))
  repeat
   (first
    | (apply ak; iterate 3 rfl) | apply EL.nil
    | (with_reducible first | apply EK.nc | apply EC.seq | apply EC.r0 | apply EC.k0 | apply EC.label | apply EC.b0 | apply EC.x0 | apply EC.ret | apply EK.n0 | apply EK.s0 | apply EK.aA | apply EK.aj | apply EK.ah))
  refine EK.le (Le.Aa (d' := .tup [.v (.int .i64 0), .arr 32 zero32, .bs [], .v (.map (some gs))]) ?_) ?_
  · exact Rf.tup (RL.cons Rf.same (RL.cons Rf.same (RL.cons Rf.bs0 (RL.cons Rf.same RL.nil))))
  exact EK.bn [acO ga 0 zero32 [] (.map (some gs)), .map gs 32 0 [], stO g m u' k n, smO m (dG c es a) (dN c es a (.v (ptr ga))), unO u' (us ++ [.ifc T d]), mkO k ks] rfl rfl (by (repeat first | exact KE _ | apply List.Sublist.cons_cons | apply List.Sublist.cons)) ⟨u', ga, gs, rfl, rfl⟩
end
end E
end Go.Proofs.YtkhjanjlcdhdcaaGreat
namespace Go.Proofs.YtkhjanjlcdhdcaaGreat
set_option linter.unusedVariables false
open Go.RowKit Mono Rlp
namespace E
theorem lF {α : Type} : ∀ l : List α, (List.range l.length).filterMap (fun i => l[i]?) = l
 | [] => rfl
 | x :: l => by
  rw [LM, List.range_succ_eq_map, KJ]
  simp only [KD, List.filterMap_map]
  congr 1
  exact lF l
theorem jv {os : List Obj} (l : List Nat) (hn : os.length = l.length) (h : l.Perm (List.range l.length)) : os.Perm (l.filterMap fun i => os[i]?) := by
 have := h.filterMap fun i => os[i]?
 rw [← hn, lF] at this
 exact this.symm
theorem Le.pick {N : Nat} {X : Cx N} {rs : List (Tmp × R)} {os : List Obj} {fs : List (Value × D)} (l : List Nat) (os' : List Obj) (hn : os.length = l.length) (h : l.Perm (List.range l.length)) (hp : (l.filterMap fun i => os[i]?) = os') : Le X ⟨rs, os, fs⟩ ⟨rs, os', fs⟩ := hp ▸ Le.perm (jv l hn h)
theorem FnM.pick {f : FuncId} {ds : List D} {os : List Obj} {Φ : R → List Obj → Prop} (hF : FnM f ds os Φ) (l : List Nat) (hn : os.length = l.length) (h : l.Perm (List.range l.length)) : FnM f ds (l.filterMap fun i => os[i]?) Φ := hF.perm (jv l hn h)
theorem FnM.out {f : FuncId} {ds : List D} {os : List Obj} {Φ Ψ : R → List Obj → Prop} (hF : FnM f ds os Φ) (k : ∀ r os', Φ r os' → ∃ os2, os'.Perm os2 ∧ Ψ r os2) : FnM f ds os Ψ := ⟨fun ok w xs h1 h2 h3 => (hF.go ok w xs h1 h2 h3).mono fun e w' ⟨v, r, os', e1, e2, e3, e4⟩ => by
 obtain ⟨os2, hp, hΨ⟩ := k r os' e2
 have hok : okM ok os w os' w' = okM ok os w os2 w' := funext fun b => propext ⟨fun h => ⟨h.1, h.2.1, fun o ho => h.2.2 o (hp.mem_iff.2 ho)⟩, fun h => ⟨h.1, h.2.1, fun o ho => h.2.2 o (hp.mem_iff.1 ho)⟩⟩
 exact ⟨v, r, os2, e1, hΨ, ⟨e3.gr, e3.apart.perm hp, fun o ho => hok ▸ e3.at_ o (hp.mem_iff.2 ho)⟩, hok ▸ e4⟩⟩
theorem FnM.frame {f : FuncId} {ds : List D} {os : List Obj} {Φ : R → List Obj → Prop} (hF : FnM f ds os Φ) (rest : List Obj) : FnM f ds (os ++ rest) (fun r os' => ∃ os2, Φ r os2 ∧ os' = os2 ++ rest) := by
 constructor
 intro ok w xs hok hown hr
 have hap := LC.1 hown.apart
 have hown1 : Own ok os w := ⟨fun o ho => hown.at_ o (KX _ ho), hap.1, fun b ⟨o, ho, e⟩ => hown.off b ⟨o, KX _ ho, e⟩⟩
 refine (hF.go ok w xs hok hown1 hr).mono ?_
 rintro e w' ⟨v, r, os', rfl, hΦ, ht, hv⟩
 have hrest : ∀ o ∈ rest, ∀ b, o.blk = some b → b < w.heap.size := fun o ho b e => (Obj.cO (hown.at_ o (KZ _ ho)) e).2
 have hoff : ∀ b, (ok b ∨ lM os b ∨ w.heap.size ≤ b) → ∀ o ∈ rest, o.blk ≠ some b := fun b hb o ho e => by
  rcases hb with h | ⟨o', ho', e'⟩ | h
  · exact hown.off b ⟨o, KZ _ ho, e⟩ h
  · exact hap.2.2 o' ho' o ho b e' e
  ·
   have := hrest o ho b e
   omega
 have hbl : ∀ b, lM os b → lM (os ++ rest) b := fun b ⟨o, ho, e⟩ => ⟨o, KX _ ho, e⟩
 have hz : ∀ b, okM ok os w os' w' b → okM ok (os ++ rest) w (os' ++ rest) w' b := fun b hb => ⟨hb.1.imp id (Or.imp (hbl b) id), hb.2.1, fun o ho => by
  rcases Lm.1 ho with ho | ho
  · exact hb.2.2 o ho
  · exact hoff b hb.1 o ho⟩
 have hblk : ∀ o ∈ os', ∀ b, o.blk = some b → lM os b ∨ w.heap.size ≤ b := fun o ho b e => (Obj.cO (ht.at_ o ho) e).1
 have hnew : ∀ b, ok b → ∀ o ∈ os', o.blk ≠ some b := fun b hb o ho e => by
  rcases hblk o ho b e with h | h
  · exact hown1.off b h hb
  ·
   have := hok b hb
   omega
 refine ⟨v, r, os' ++ rest, rfl, ⟨os', hΦ, rfl⟩, ⟨?_, LC.2 ⟨ht.apart, hap.2.1, fun o ho p hp b e e' => ?_⟩, fun o ho => ?_⟩, bF.mono hz (fun _ _ => rfl) hv⟩
 · exact (GrE.refl w).step ht.gr fun b hb => .inl (hbl b hb)
 · exact hoff b (.inr (hblk o ho b e)) p hp e'
 ·
  rcases Lm.1 ho with ho | ho
  · exact ((ht.at_ o ho).move hz (fun _ _ => rfl) fun _ _ => rfl).jS fun b e => (hblk o ho b e).imp (hbl b) id
  ·
   have hat := hown.at_ o (KZ _ ho)
   refine (hat.move (z' := okM ok (os ++ rest) w (os' ++ rest) w') (fun b hb => hz b ⟨.inl hb, Ld (hok b hb) ht.gr.size, hnew b hb⟩) (fun p hp => ht.gr.cell (hok _ hp) fun hb => hown1.off _ hb hp) fun g e => ht.gr.block g (hrest o ho g e) fun hb => hoff g (.inr (.inl hb)) o ho e).jS fun b e => .inl ⟨o, KZ _ ho, e⟩
section
variable {S : St} {ops : Array Oper} {o : Oper}
theorem jc {T e z y' : Nat} {s x : Operand} {v : Value} {ds es : List D} (ho : o.op = .call { callee := .builtin .append, args := #[s, x], argTypes := #[T, T] }) (hT : assoc slL T = some (e, z, y')) (hz : Nat.blt 0 z = true) (hs : ev S s = some (.val (.v v))) (hx : ev S x = some (.val (.sl z es))) (hlen : (ds.length + es.length) * y' ≤ 140737488355328 ∧ ds.length + es.length ≤ 9223372036854775807) :
  qH ops S o [.row v e z ds] (fun r os' => ∃ v', r = .val (.v v') ∧ os' = [.row v' e z (ds ++ es)]) := .mk fun base ok a w ha hown => by
 have hs' := eU ha hs fun t e => aK e (by rw [ho]; simp [Op.operands, Call.operands])
 obtain ⟨A, c, rows', h1, h2, h3, h4, h5, h6⟩ := sD (ha.ev hx fun t e => aK e (by rw [ho]; simp [Op.operands, Call.operands]))
 obtain ⟨rows, h7, h8⟩ := hown.at_ (.row v e z ds) KH
 obtain ⟨hl1, hl2⟩ := ay.lens es rows' h6
 have hlen' : rows'.flatten.length = es.length * z := by
  have : ∀ rows : List (List Value), (∀ r ∈ rows, r.length = z) → rows.flatten.length = rows.length * z := by
   intro rows
   induction rows with
   | nil => simp
   | cons r rows ih =>
    intro h
    rw [LW, Lu, h r (by simp), ih fun r hr => h r (by simp [hr]), LM, MQ, Np, Og]
  rw [this rows' hl2, hl1]
 have hrd : Rd w w.heap.size A rows'.flatten := fun hn => by
  obtain ⟨b, n, e, hb, hc⟩ := h5 hn
  exact ⟨b, n, e, ha.lt b hb, hc⟩
 obtain ⟨A', c', w', hrun, hown', hgr, hblk⟩ := gX (P := Tryz.prog) (ty := o.type) (c := c) (Gp hT hz) h7.1 hlen' hrd (ay.one es rows' h6) (by simp only [maxLen]; exact hlen.2) hlen.1 (Lj _)
 have hoff : ∀ b, ok b → v.ownBlock ≠ some b := fun b hb e => hown.off b ⟨_, KH, e⟩ hb
 have hblk' : ∀ b, (Value.slice A' (ds.length + es.length) c').ownBlock = some b → v.ownBlock = some b ∨ w.heap.size ≤ b := fun b e' => by
  rcases hblk with h | h
  · exact .inl (h ▸ e')
  ·
   rw [h] at e'
   cases e'
   exact .inr (KW _)
 have hz' : ∀ b, ok b → okM ok [.row v e z ds] w [.row (.slice A' (ds.length + es.length) c') e z (ds ++ es)] w' b := fun b hb => ⟨.inl hb, Ld (ha.lt b hb) hgr.size, fun o' ho' e' => by
  obtain rfl : o' = _ := by simpa using ho'
  rcases hblk' b e' with h | h
  · exact hoff b hb h
  ·
   have := ha.lt b hb
   omega⟩
 have hcell : ∀ p : Addr, ok p.block → w'.cell? p = w.cell? p := fun p hp => World.cell?_of_block (hgr.block _ (ha.lt _ hp) fun e' => hoff _ hp e'.symm)
 unfold execOp
 simp only [ho, resolve, invoke, builtin, KL, KO, KC, MZ, Lc, MB, hs', h1, hrun, fZ]
 refine ⟨.val (.v (.slice A' (ds.length + es.length) c')), [.row (.slice A' (ds.length + es.length) c') e z (ds ++ es)], ⟨_, rfl, rfl⟩, ⟨⟨hgr.os, hgr.tape, hgr.output, hgr.size, fun k hk hn => hgr.block k hk fun e' => hn ⟨_, KH, e'.symm⟩⟩, by simp, fun o' ho' => ?_⟩, ?_⟩
 ·
  obtain rfl : o' = _ := by simpa using ho'
  refine ⟨rows ++ rows', ?_, ay.append ds es rows rows' (ay.mono hz' hcell z ds rows h8) (ay.mono hz' hcell z es rows' h6)⟩
  rw [List.flatten_append, Lu]
  refine ⟨hown', fun b hb => ?_⟩
  rcases hblk' b hb with h | h
  · exact .inl ⟨_, KH, h⟩
  · exact .inr h
 · exact aP.2 ⟨rfl, rfl⟩
end
end E
end Go.Proofs.YtkhjanjlcdhdcaaGreat
namespace Go.Proofs.YtkhjanjlcdhdcaaGreat
set_option linter.unusedVariables false
set_option maxRecDepth 20000
set_option maxHeartbeats 4000000
open Go.RowKit Mono Rlp Wd
namespace E
section
variable {g m c ga gs T : Nat} {u k : Value} {n : Int} {es : List Ent} {a w cd : List UInt8} {us ks : List D} {d : D} {b : Int} {sv : Value}
abbrev zZ (a w : List UInt8) : D := .ifc 105 (.tup [.arr 20 a, .arr 32 w])
abbrev qh (a : List UInt8) (n : Int) : D := .ifc 98 (.tup [.arr 20 a, .v (.int .i64 n)])
theorem oO (h : bC es a = some (.v (ptr ga))) (hu : us.length < 1099511627776) : FnM 47 [.v (ptr g), .arr 20 a, .ifc T d] [stO g m u k n, smO m c es, acO ga b w cd sv, unO u us, mkO k ks] (fun r os' => ∃ u', r = .val (.v (ptr ga)) ∧ os' = [stO g m u' k n, smO m c es, unO u' (dB ks us (.ifc T d)), mkO k ks, acO ga b w cd sv]) := by
 have h1 := ((qB (g := g) (m := m) (c := c) (u := u) (k := k) (n := n) (ks := ks) (T := T) (d := d) h hu).frame [acO ga b w cd sv]).pick [0, 1, 4, 2, 3] rfl (by decide)
 refine FnM.mono h1 ?_
 rintro r _ ⟨_, ⟨u', rfl, rfl⟩, rfl⟩
 exact ⟨u', rfl, rfl⟩
theorem uH {w' : List UInt8} (h : bC es a = some (.v (ptr ga))) (hu : us.length < 1099511627776) : FnM 25 [.v (ptr g), .arr 20 a, .arr 32 w'] [stO g m u k n, smO m c es, unO u us, mkO k ks, acO ga b w cd sv] (fun r os' => r = .tpl [] ∧ ∃ u', os' = [stO g m u' k n, smO m c es, unO u' (dB ks us (zZ a w)), mkO k ks, acO ga b w' cd sv]) := by
 have h1 := uj (g := g) (m := m) (c := c) (u := u) (k := k) (n := n) (b := b) (w := w) (cd := cd) (sv := sv) h
 have h2 := oO (g := g) (m := m) (c := c) (u := u) (k := k) (n := n) (ks := ks) (T := 105) (d := .tup [.arr 20 a, .arr 32 w]) (b := b) (w := w) (cd := cd) (sv := sv) h hu
 refine FnM.walk 18 Tryz.func25 rfl Tryz.ntmps25 (by simp) fun X => ?_
 repeat
  (first
   | (apply aV; rfl; rfl; rfl; intro _) | apply EL.nil
   | (with_reducible first | apply EK.nc | apply EC.seq | apply EC.r0 | apply EC.k0 | apply EC.label | apply EC.b0 | apply EC.x0 | apply EC.ret | apply EK.n0 | apply EK.s0 | apply EK.aA | apply EK.aj | apply EK.ah))
 refine EC.le (Le.pick [2, 3, 6, 4, 5, 0, 1] [_, _, _, _, _, _, _] rfl (by decide) rfl) ?_
 refine EC.dL 10 [0, 1, 2, 3, 4, 9] [5, 6, 7, 8] [_, _, _, _, _] _ (by kernel_rfl) (by kernel_rfl) rfl ?_
 simp only [aQ, KJ, KN, KD, KF]
 repeat
  (first
   | (apply aJ; iterate 3 rfl) | (apply aG; rfl; exact I.a; iterate 4 rfl))
 refine EM.nil ?_
 repeat (first | rw [Kr] | rw [Kt])
 refine CH.dS (rest := [_, _]) h1 rfl rfl (au.refl _ _) (by intro _ _; simp [go_sem]) rfl rfl ?_
 rintro _ _ ⟨rfl, rfl⟩
 try simp only [St.put]
 repeat (first | rw [Kr] | rw [Kt])
 refine CH.cut 2 ?_
 simp only [Kv, Kz, Ku, Kw]
 repeat
  (first
   | (apply dR; iterate 7 rfl) | (apply iV; iterate 4 rfl))
 refine EM.nil ?_
 repeat (first | rw [Kr] | rw [Kt])
 refine CH.dS (rest := []) h2 rfl rfl (au.refl _ _) (by intro _ _; simp [go_sem]) rfl rfl ?_
 rintro _ _ ⟨u', rfl, rfl⟩
 try simp only [St.put]
 repeat (first | rw [Kr] | rw [Kt])
 refine CH.nil ?_
 try simp only [Ku, Kw]
 repeat
  (first
   | (apply aH; iterate 6 rfl) | (apply aY; iterate 3 rfl) | (apply aO; rfl; exact saA; iterate 4 rfl)
   | apply EL.nil)
 exact EK.eH [stO g m u' k n, smO m c es, unO u' (dB ks us (zZ a w)), mkO k ks, acO ga b w' cd sv] rfl (by (repeat first | exact KE _ | apply List.Sublist.cons_cons | apply List.Sublist.cons)) ⟨rfl, u', rfl⟩
theorem sG {w' : List UInt8} (h : bC es a = none) (hu : us.length < 1099511627776) : FnM 25 [.v (ptr g), .arr 20 a, .arr 32 w'] [stO g m u k n, smO m c es, unO u us, mkO k ks] (fun r os' => r = .tpl [] ∧ ∃ u' ga gs, os' = [stO g m u' k n, smO m (dG c es a) (dN c es a (.v (ptr ga))), unO u' (dB ks us (zZ a zero32)), mkO k ks, acO ga 0 w' [] (.map (some gs)), .map gs 32 0 []]) := by
 have h1 := ru (g := g) (m := m) (c := c) (u := u) (k := k) (n := n) h
 have h2 := jH (g := g) (m := m) (c := c) (u := u) (k := k) (n := n) (ks := ks) (T := 105) (d := .tup [.arr 20 a, .arr 32 zero32]) h hu
 refine FnM.walk 18 Tryz.func25 rfl Tryz.ntmps25 (by simp) fun X => ?_
 repeat
  (first
   | (apply aV; rfl; rfl; rfl; intro _) | apply EL.nil
   | (with_reducible first | apply EK.nc | apply EC.seq | apply EC.r0 | apply EC.k0 | apply EC.label | apply EC.b0 | apply EC.x0 | apply EC.ret | apply EK.n0 | apply EK.s0 | apply EK.aA | apply EK.aj | apply EK.ah))
 refine EC.le (Le.pick [2, 3, 4, 5, 0, 1] [_, _, _, _, _, _] rfl (by decide) rfl) ?_
 refine EC.dL 10 [0, 1, 2, 3, 4, 9] [5, 6, 7, 8] [_, _, _, _] _ (by kernel_rfl) (by kernel_rfl) rfl ?_
 simp only [aQ, KJ, KN, KD, KF]
 repeat
  (first
   | (apply aJ; iterate 3 rfl) | (apply aG; rfl; exact I.a; iterate 4 rfl))
 refine EM.nil ?_
 repeat (first | rw [Kr] | rw [Kt])
 refine CH.dS (rest := [_, _]) h1 rfl rfl (au.refl _ _) (by intro _ _; simp [go_sem]) rfl rfl ?_
 rintro _ _ ⟨rfl, rfl⟩
 try simp only [St.put]
 repeat (first | rw [Kr] | rw [Kt])
 refine CH.cut 2 ?_
 simp only [Kv, Kz, Ku, Kw]
 repeat
  (first
   | (apply dR; iterate 7 rfl) | (apply iV; iterate 4 rfl))
 refine EM.nil ?_
 repeat (first | rw [Kr] | rw [Kt])
 refine CH.dS (rest := []) h2 rfl rfl (au.refl _ _) (by intro _ _; simp [go_sem]) rfl rfl ?_
 rintro _ _ ⟨u', ga, gs, rfl, rfl⟩
 try simp only [St.put]
 repeat (first | rw [Kr] | rw [Kt])
 refine CH.nil ?_
 try simp only [Ku, Kw]
 repeat
  (first
   | (apply aH; iterate 6 rfl) | (apply aY; iterate 3 rfl) | (apply aO; rfl; exact saA; iterate 4 rfl)
   | apply EL.nil)
 refine EK.le (Le.pick [2, 3, 4, 5, 0, 1, 6, 7] [_, _, _, _, _, _, _, _] rfl (by decide) rfl) ?_
 exact EK.eH [stO g m u' k n, smO m (dG c es a) (dN c es a (.v (ptr ga))), unO u' (dB ks us (zZ a zero32)), mkO k ks, acO ga 0 w' [] (.map (some gs)), .map gs 32 0 []] rfl (by (repeat first | exact KE _ | apply List.Sublist.cons_cons | apply List.Sublist.cons)) ⟨rfl, u', ga, gs, rfl⟩
theorem yE {n' : Int} (h : bC es a = some (.v (ptr ga))) (hu : us.length < 1099511627776) : FnM 16 [.v (ptr g), .arr 20 a, .v (.int .i64 n')] [stO g m u k n, smO m c es, unO u us, mkO k ks, acO ga b w cd sv] (fun r os' => r = .tpl [] ∧ ∃ u', os' = [stO g m u' k n, smO m c es, unO u' (dB ks us (qh a b)), mkO k ks, acO ga (if n' > 0 then n' else 0) w cd sv]) := by
 have h1 := sZ (g := g) (m := m) (c := c) (u := u) (k := k) (n := n) (b := b) (w := w) (cd := cd) (sv := sv) h
 have h2 := oO (g := g) (m := m) (c := c) (u := u) (k := k) (n := n) (ks := ks) (T := 98) (d := .tup [.arr 20 a, .v (.int .i64 b)]) (b := b) (w := w) (cd := cd) (sv := sv) h hu
 refine FnM.walk 19 Tryz.func16 rfl Tryz.ntmps16 (by simp) fun X => ?_
 repeat
  (first
   | (apply aV; rfl; rfl; rfl; intro _) | apply EL.nil
   | (with_reducible first | apply EK.nc | apply EC.seq | apply EC.r0 | apply EC.k0 | apply EC.label | apply EC.b0 | apply EC.x0 | apply EC.ret | apply EK.n0 | apply EK.s0 | apply EK.aA | apply EK.aj | apply EK.ah))
 refine EC.le (Le.pick [1, 2, 5, 3, 4, 0] [_, _, _, _, _, _] rfl (by decide) rfl) ?_
 refine EC.dL 11 [0, 1, 2, 3, 4, 9, 10] [5, 6, 7, 8] [_, _, _, _, _] _ (by kernel_rfl) (by kernel_rfl) rfl ?_
 simp only [aQ, KJ, KN, KD, KF]
 repeat
  (first
   | (apply aJ; iterate 3 rfl) | (apply aG; rfl; exact I.a; iterate 4 rfl) | (apply Gf; iterate 4 rfl))
 refine EM.nil ?_
 repeat (first | rw [Kr] | rw [Kt])
 refine CH.dS (rest := [_, _]) h1 rfl rfl (au.refl _ _) (by intro _ _; simp [go_sem]) rfl rfl ?_
 rintro _ _ ⟨rfl, rfl⟩
 try simp only [St.put]
 repeat (first | rw [Kr] | rw [Kt])
 refine CH.cut 2 ?_
 simp only [Kv, Kz, Ku, Kw]
 repeat
  (first
   | (apply dR; iterate 7 rfl) | (apply iV; iterate 4 rfl))
 refine EM.nil ?_
 repeat (first | rw [Kr] | rw [Kt])
 refine CH.dS (rest := []) h2 rfl rfl (au.refl _ _) (by intro _ _; simp [go_sem]) rfl rfl ?_
 rintro _ _ ⟨u', rfl, rfl⟩
 try simp only [St.put]
 repeat (first | rw [Kr] | rw [Kt])
 refine CH.nil ?_
 try simp only [Ku, Kw]
 repeat
  (first
   | (apply aH; iterate 6 rfl) | (apply aY; iterate 3 rfl) | (apply aO; rfl; exact saA; iterate 4 rfl)
   | apply EL.nil)
 exact EK.eH [stO g m u' k n, smO m c es, unO u' (dB ks us (qh a b)), mkO k ks, acO ga (if n' > 0 then n' else 0) w cd sv] rfl (by (repeat first | exact KE _ | apply List.Sublist.cons_cons | apply List.Sublist.cons)) ⟨rfl, u', rfl⟩
theorem o7 {n' : Int} (h : bC es a = none) (hu : us.length < 1099511627776) : FnM 16 [.v (ptr g), .arr 20 a, .v (.int .i64 n')] [stO g m u k n, smO m c es, unO u us, mkO k ks] (fun r os' => r = .tpl [] ∧ ∃ u' ga gs, os' = [stO g m u' k n, smO m (dG c es a) (dN c es a (.v (ptr ga))), unO u' (dB ks us (qh a 0)), mkO k ks, acO ga (if n' > 0 then n' else 0) zero32 [] (.map (some gs)), .map gs 32 0 []]) := by
 have h1 := Di (g := g) (m := m) (c := c) (u := u) (k := k) (n := n) h
 have h2 := jH (g := g) (m := m) (c := c) (u := u) (k := k) (n := n) (ks := ks) (T := 98) (d := .tup [.arr 20 a, .v (.int .i64 0)]) h hu
 refine FnM.walk 19 Tryz.func16 rfl Tryz.ntmps16 (by simp) fun X => ?_
 repeat
  (first
   | (apply aV; rfl; rfl; rfl; intro _) | apply EL.nil
   | (with_reducible first | apply EK.nc | apply EC.seq | apply EC.r0 | apply EC.k0 | apply EC.label | apply EC.b0 | apply EC.x0 | apply EC.ret | apply EK.n0 | apply EK.s0 | apply EK.aA | apply EK.aj | apply EK.ah))
 refine EC.le (Le.pick [1, 2, 3, 4, 0] [_, _, _, _, _] rfl (by decide) rfl) ?_
 refine EC.dL 11 [0, 1, 2, 3, 4, 9, 10] [5, 6, 7, 8] [_, _, _, _] _ (by kernel_rfl) (by kernel_rfl) rfl ?_
 simp only [aQ, KJ, KN, KD, KF]
 repeat
  (first
   | (apply aJ; iterate 3 rfl) | (apply aG; rfl; exact I.a; iterate 4 rfl) | (apply Gf; iterate 4 rfl))
 refine EM.nil ?_
 repeat (first | rw [Kr] | rw [Kt])
 refine CH.dS (rest := [_, _]) h1 rfl rfl (au.refl _ _) (by intro _ _; simp [go_sem]) rfl rfl ?_
 rintro _ _ ⟨rfl, rfl⟩
 try simp only [St.put]
 repeat (first | rw [Kr] | rw [Kt])
 refine CH.cut 2 ?_
 simp only [Kv, Kz, Ku, Kw]
 repeat
  (first
   | (apply dR; iterate 7 rfl) | (apply iV; iterate 4 rfl))
 refine EM.nil ?_
 repeat (first | rw [Kr] | rw [Kt])
 refine CH.dS (rest := []) h2 rfl rfl (au.refl _ _) (by intro _ _; simp [go_sem]) rfl rfl ?_
 rintro _ _ ⟨u', ga, gs, rfl, rfl⟩
 try simp only [St.put]
 repeat (first | rw [Kr] | rw [Kt])
 refine CH.nil ?_
 try simp only [Ku, Kw]
 repeat
  (first
   | (apply aH; iterate 6 rfl) | (apply aY; iterate 3 rfl) | (apply aO; rfl; exact saA; iterate 4 rfl)
   | apply EL.nil)
 refine EK.le (Le.pick [2, 3, 4, 5, 0, 1, 6] [_, _, _, _, _, _, _] rfl (by decide) rfl) ?_
 exact EK.eH [stO g m u' k n, smO m (dG c es a) (dN c es a (.v (ptr ga))), unO u' (dB ks us (qh a 0)), mkO k ks, acO ga (if n' > 0 then n' else 0) zero32 [] (.map (some gs)), .map gs 32 0 []] rfl (by (repeat first | exact KE _ | apply List.Sublist.cons_cons | apply List.Sublist.cons)) ⟨rfl, u', ga, gs, rfl⟩
end
end E
end Go.Proofs.YtkhjanjlcdhdcaaGreat
