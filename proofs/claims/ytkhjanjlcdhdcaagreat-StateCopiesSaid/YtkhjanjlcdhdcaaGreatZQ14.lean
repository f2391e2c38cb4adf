/-
 Merged: lemmas of this claim.
 Conditions: none.
-/
import Derived.Test.YtkhjanjlcdhdcaaGreatZQ13
import Derived.Test.YtkhjanjlcdhdcaaGreatZQ2
import Derived.Lib.SliceRun
import Derived.Test.YtkhjanjlcdhdcaaGreatZQ11
import Derived.Test.YtkhjanjlcdhdcaaGreatZQ12
import Derived.RangeFuncNested
import Derived.RangeFuncLeaves
import Derived.RangeFuncBound
import Derived.Maps.RangeRun
import Derived.Maps.AppendAt
import Derived.Sort.MapsRangeIn
import Derived.Shelf.Abstract
import Derived.OwnWalkIn
import Derived.TacticsInMore
import Derived.RegionIn
import Derived.LoopNIn
import Derived.LoopIn
import Derived.WalkKit
import Derived.Test.YtkhjanjlcdhdcaaGreatZQ0
namespace Go.Proofs.YtkhjanjlcdhdcaaGreat
set_option linter.unusedVariables false
set_option maxHeartbeats 1000000
open Go.RowKit Mono Rlp
theorem Eu (v : Value) (l : List UInt8) (w : World) (h : IsB w v l) (hl : l.length ≤ 140737488355328) : Calls Tryz.prog 18 #[v] w (Ret (fun v w' => OwnB w' w.heap.size v l) w) := by
 obtain ⟨A, c, rfl, hc1, hc2, hr⟩ := h
 cases A with
 | none =>
  have hl0 : l = [] := by
   by_cases hn : bvs l = []
   · simpa [bvs] using hn
   ·
    obtain ⟨b, o, e, _⟩ := hr hn
    cases e
  subst hl0
  clear hr
  have hq := Lib.run_eql_slice_nil w 35 5 none 0 c 0 0 Tryz.underlying35
  go_enter Tryz.func18, Tryz.ntmps18
  go_wp2
  refine bodyPost_ret (results_tmp rfl _ _ _) rfl ?_
  exact ⟨_, rfl, Gr.refl _, OwnB.nil _ _⟩
 | some a =>
  have HR := Lib.hid hr
  clear hr
  have hq := Lib.run_eql_slice_nil w 35 5 (some a) l.length c 0 0 Tryz.underlying35
  go_enter Tryz.func18, Tryz.ntmps18
  go_wp2_with (at_builtin; refine yI (.tmp 5) (.tmp 6) 35 rZ (base := w.heap.size) _ 0 [] _ l.length c w.heap.size (bvs l) rfl rfl rfl rfl (zU w #[] 5 1 0 w.heap.size w.heap.size rfl (Lj _) (by simp [maxLen]) rfl) (HR.out.below ((Below.refl _ _).alloc (Lj _) _)) (by simp [bvs]) (lD _) (by simp only [maxLen]; omega) (by omega) (by simp) ?_; intro A2 c2 w2 hown2 hg2 _)
  refine bodyPost_ret (results_tmp rfl _ _ _) rfl ?_
  refine ⟨_, rfl, ((Below.refl _ _).alloc (Lj _) _).grown hg2 (by simp) (fun j hj => by cases hj; exact Lj _), ?_⟩
  rw [L8, KE] at hown2
  exact hown2
namespace E
theorem Az (l : List UInt8) (hl : l.length ≤ 140737488355328) : Fn 18 [.bs l] (· = .val (.bs l)) := ⟨fun ok w xs hok hr => by
 obtain ⟨x, _, rfl, hx, rfl⟩ := hr
 refine (Eu x l w (DN hok hx) hl).mono ?_
 rintro e w' ⟨v, rfl, hg, ho⟩
 exact ⟨hg, v, .val (.bs l), rfl, rfl, (bH rfl).2 (by rw [Reads]; exact ⟨v, rfl, ru.mono (yX ho) (fun b hb => ⟨.inr hb.1, hb.2⟩) fun _ _ => rfl⟩)⟩⟩
end E
end Go.Proofs.YtkhjanjlcdhdcaaGreat
namespace Go.Proofs.YtkhjanjlcdhdcaaGreat
set_option linter.unusedVariables false
set_option maxRecDepth 20000
set_option maxHeartbeats 4000000
open Go.RowKit Mono Rlp Wd
namespace E
def slE (ss : List Ent) (k : List UInt8) : D := (aJ ss k).getD (.arr 32 zero32)
section
variable {g m c ga gs sc : Nat} {u k : Value} {n : Int} {es ss : List Ent} {a w cd q : List UInt8} {us ks : List D} {b : Int}
theorem FK {v : List UInt8} (h : aJ es a = some (.v (ptr ga))) (hv : slE ss q = .arr 32 v) : FnM 52 [.v (ptr g), .arr 20 a, .arr 32 q] [stO g m u k n, smO m c es, acO ga b w cd (.map (some gs)), .map gs 32 sc ss] (fun r os' => r = .val (.arr 32 v) ∧ os' = [stO g m u k n, smO m c es, acO ga b w cd (.map (some gs)), .map gs 32 sc ss]) := by
 have h1 := zV (g := g) (m := m) (c := c) (u := u) (k := k) (n := n) h
 have hg : (aJ ss q).getD (.arr 32 zero32) = .arr 32 v := hv
 refine FnM.walk 15 Tryz.func52 rfl Tryz.ntmps52 (by simp) fun X => ?_
 repeat (refine stp ?_; intros)
 rename_i g1 g2 g3
 refine EC.le (Le.pick [3, 4, 5, 6, 0, 1, 2] [_, _, _, _, _, _, _] rfl (by decide) rfl) ?_
 refine EC.bI 8 [0, 1, 6] [2, 3, 4, 5, 7] [_, _, _, _] _ (by kernel_rfl) (by kernel_rfl) rfl ?_
 simp only [aA, KU, KY, KN, KP]
 repeat (refine sth ?_; intros)
 refine EM.nil ?_
 repeat (first | rw [KD] | rw [KE])
 refine CH.bP (rest := [_, _]) h1 (k := ?_)
 rintro _ _ ⟨rfl, rfl⟩
 try simp only [St.put]
 repeat (first | rw [KD] | rw [KE])
 refine CH.cut 4 ?_
 simp only [KG, KI, KF, KH]
 repeat
  (first
   | (apply bY; exact hg; rfl; (first | exact I0 | exact I1 | exact I2 | exact I3 | exact I4 | exact I5); iterate 5 rfl) | (refine sth ?_; intros))
 refine EM.nil ?_
 repeat (first | rw [KD] | rw [KE])
 refine CH.nil ?_
 try simp only [KF, KH]
 repeat (refine stp ?_; intros)
 exact EK.kV 4 [stO g m u k n, smO m c es, acO ga b w cd (.map (some gs)), .map gs 32 sc ss] rfl rfl rfl rfl (by repeat first | exact aj.refl _ _ | exact RL.nil | exact Rf.same) (by (repeat first | exact KO _ | apply List.Sublist.cons_cons | apply List.Sublist.cons)) ⟨rfl, rfl⟩
theorem CV (h : aJ es a = none) : FnM 52 [.v (ptr g), .arr 20 a, .arr 32 q] [stO g m u k n, smO m c es] (fun r os' => r = .val (.arr 32 zero32) ∧ os' = [stO g m u k n, smO m c es]) := by
 have h1 := uO (g := g) (m := m) (c := c) (u := u) (k := k) (n := n) h
 refine FnM.walk 15 Tryz.func52 rfl Tryz.ntmps52 (by simp) fun X => ?_
 repeat (refine stp ?_; intros)
 rename_i g1 g2 g3
 refine EC.le (Le.pick [3, 4, 0, 1, 2] [_, _, _, _, _] rfl (by decide) rfl) ?_
 refine EC.bI 8 [0, 1, 6] [2, 3, 4, 5, 7] [_, _] _ (by kernel_rfl) (by kernel_rfl) rfl ?_
 simp only [aA, KU, KY, KN, KP]
 repeat (refine sth ?_; intros)
 refine EM.nil ?_
 repeat (first | rw [KD] | rw [KE])
 refine CH.bP (rest := []) h1 (k := ?_)
 rintro _ _ ⟨gz, rfl, rfl⟩
 try simp only [St.put]
 repeat (first | rw [KD] | rw [KE])
 refine CH.cut 4 ?_
 simp only [KG, KI, KF, KH]
 repeat
  (first
   | (apply yF; iterate 6 rfl) | (refine sth ?_; intros))
 refine EM.nil ?_
 repeat (first | rw [KD] | rw [KE])
 refine CH.nil ?_
 try simp only [KF, KH]
 repeat (refine stp ?_; intros)
 exact EK.kV 3 [stO g m u k n, smO m c es] rfl rfl rfl rfl (by repeat first | exact aj.refl _ _ | exact RL.nil | exact Rf.same) (by (repeat first | exact KO _ | apply List.Sublist.cons_cons | apply List.Sublist.cons)) ⟨rfl, rfl⟩
theorem uF : FnM 19 [.v (ptr ga), .arr 32 q, .arr 32 zero32] [acO ga b w cd (.map (some gs)), .map gs 32 sc ss] (fun r os' => r = .tpl [] ∧ os' = [acO ga b w cd (.map (some gs)), .map gs 32 sc (ig ss q)]) := by
 have hz := (dA zero32 zero32).1
 rw [beq_self_eq_true] at hz
 refine FnM.walk 20 Tryz.func19 rfl Tryz.ntmps19 (by simp) fun X => ?_
 repeat
  (first
   | (refine bM (hrun := hz) (kk := ?_)) | (refine stp ?_; intros))
 refine EC.draw 5 (by kernel_rfl) ?_
 simp only [KG, KI, KF, KH]
 repeat (refine sth ?_; intros)
 repeat (refine stp ?_; intros)
 exact EK.IJ [acO ga b w cd (.map (some gs)), .map gs 32 sc (ig ss q)] rfl (by (repeat first | exact KO _ | apply List.Sublist.cons_cons | apply List.Sublist.cons)) ⟨rfl, rfl⟩
theorem uD {v : List UInt8} (hv : (v == zero32) = false) : FnM 19 [.v (ptr ga), .arr 32 q, .arr 32 v] [acO ga b w cd (.map (some gs)), .map gs 32 sc ss] (fun r os' => r = .tpl [] ∧ os' = [acO ga b w cd (.map (some gs)), .map gs 32 (bG sc ss q) (bK sc ss q (.arr 32 v))]) := by
 have hz := (dA v zero32).1
 rw [hv] at hz
 refine FnM.walk 20 Tryz.func19 rfl Tryz.ntmps19 (by simp) fun X => ?_
 repeat
  (first
   | (refine bM (hrun := hz) (kk := ?_)) | (refine stp ?_; intros))
 refine EC.draw 6 (by kernel_rfl) ?_
 simp only [KG, KI, KF, KH]
 repeat (refine sth ?_; intros)
 repeat (refine stp ?_; intros)
 exact EK.cO [acO ga b w cd (.map (some gs)), .map gs 32 (bG sc ss q) (bK sc ss q (.arr 32 v))] rfl (by (repeat first | exact KO _ | apply List.Sublist.cons_cons | apply List.Sublist.cons)) ⟨rfl, rfl⟩
end
abbrev CO (a c : List UInt8) : D := .ifc 107 (.tup [.arr 20 a, .bs c])
abbrev pV (a q v : List UInt8) : D := .ifc 110 (.tup [.arr 20 a, .arr 32 q, .arr 32 v])
abbrev vT (a : List UInt8) (p : Value) : D := .ifc 114 (.tup [.arr 20 a, .v p])
section
variable {g m c ga gs sc T : Nat} {u k : Value} {n : Int} {es ss : List Ent} {a w cd q v : List UInt8} {us ks : List D} {b : Int} {d : D}
theorem zy (h : aJ es a = some (.v (ptr ga))) (hu : us.length < 1099511627776) : FnM 47 [.v (ptr g), .arr 20 a, .ifc T d] [stO g m u k n, smO m c es, acO ga b w cd (.map (some gs)), .map gs 32 sc ss, unO u us, mkO k ks] (fun r os' => ∃ u', r = .val (.v (ptr ga)) ∧ os' = [stO g m u' k n, smO m c es, unO u' (bC ks us (.ifc T d)), mkO k ks, acO ga b w cd (.map (some gs)), .map gs 32 sc ss]) := by
 have h1 := ((nZ (g := g) (m := m) (c := c) (u := u) (k := k) (n := n) (ks := ks) (T := T) (d := d) h hu).frame [acO ga b w cd (.map (some gs)), .map gs 32 sc ss]).pick [0, 1, 4, 5, 2, 3] rfl (by decide)
 refine FnM.mono h1 ?_
 rintro r _ ⟨_, ⟨u', rfl, rfl⟩, rfl⟩
 exact ⟨u', rfl, rfl⟩
theorem Iy {ss' : List Ent} {sc' : Nat} {o1 o2 o3 o4 : Obj} (h : FnM 19 [.v (ptr ga), .arr 32 q, .arr 32 v] [acO ga b w cd (.map (some gs)), .map gs 32 sc ss] (fun r os' => r = .tpl [] ∧ os' = [acO ga b w cd (.map (some gs)), .map gs 32 sc' ss'])) : FnM 19 [.v (ptr ga), .arr 32 q, .arr 32 v] [o1, o2, o3, o4, acO ga b w cd (.map (some gs)), .map gs 32 sc ss] (fun r os' => r = .tpl [] ∧ os' = [o1, o2, o3, o4, acO ga b w cd (.map (some gs)), .map gs 32 sc' ss']) := by
 refine FnM.out ((h.frame [o1, o2, o3, o4]).pick [2, 3, 4, 5, 0, 1] rfl (by decide)) ?_
 rintro r _ ⟨_, ⟨rfl, rfl⟩, rfl⟩
 exact ⟨_, gQ (os := [acO ga b w cd (.map (some gs)), .map gs 32 sc' ss', o1, o2, o3, o4]) [2, 3, 4, 5, 0, 1] rfl (by decide), rfl, rfl⟩
theorem FP {ss' : List Ent} {sc' : Nat} {o1 o2 o3 o4 : Obj} (h : FnM 19 [.v (ptr ga), .arr 32 q, .arr 32 v] [acO ga b w cd (.map (some gs)), .map gs 32 sc ss] (fun r os' => r = .tpl [] ∧ os' = [acO ga b w cd (.map (some gs)), .map gs 32 sc' ss'])) : FnM 19 [.v (ptr ga), .arr 32 q, .arr 32 v] [acO ga b w cd (.map (some gs)), .map gs 32 sc ss, o1, o2, o3, o4] (fun r os' => r = .tpl [] ∧ os' = [acO ga b w cd (.map (some gs)), .map gs 32 sc' ss', o1, o2, o3, o4]) := by
 refine FnM.mono (h.frame [o1, o2, o3, o4]) ?_
 rintro r _ ⟨_, ⟨rfl, rfl⟩, rfl⟩
 exact ⟨rfl, rfl⟩
theorem qh {x : List UInt8} {ss' : List Ent} {sc' : Nat} (h : aJ es a = some (.v (ptr ga))) (hv : slE ss q = .arr 32 x) (hu : us.length < 1099511627776) (hs : FnM 19 [.v (ptr ga), .arr 32 q, .arr 32 v] [acO ga b w cd (.map (some gs)), .map gs 32 sc ss] (fun r os' => r = .tpl [] ∧ os' = [acO ga b w cd (.map (some gs)), .map gs 32 sc' ss'])) : FnM 27 [.v (ptr g), .arr 20 a, .arr 32 q, .arr 32 v] [stO g m u k n, smO m c es, unO u us, mkO k ks, acO ga b w cd (.map (some gs)), .map gs 32 sc ss] (fun r os' => r = .tpl [] ∧ ∃ u', os' = [stO g m u' k n, smO m c es, unO u' (bC ks us (pV a q x)), mkO k ks, acO ga b w cd (.map (some gs)), .map gs 32 sc' ss']) := by
 have h1 := FK (g := g) (m := m) (c := c) (u := u) (k := k) (n := n) (b := b) (w := w) (cd := cd) (gs := gs) (sc := sc) h hv
 have h2 := zy (g := g) (m := m) (c := c) (u := u) (k := k) (n := n) (ks := ks) (T := 110) (d := .tup [.arr 20 a, .arr 32 q, .arr 32 x]) (b := b) (w := w) (cd := cd) (gs := gs) (sc := sc) (ss := ss) h hu
 refine FnM.walk 22 Tryz.func27 rfl Tryz.ntmps27 (by simp) fun X => ?_
 repeat (refine stp ?_; intros)
 refine EC.le (Le.pick [3, 4, 7, 8, 5, 6, 0, 1, 2] [_, _, _, _, _, _, _, _, _] rfl (by decide) rfl) ?_
 refine EC.bI 14 [0, 1, 2, 3, 4, 5, 6, 11, 12] [7, 8, 9, 10, 13] [_, _, _, _, _, _] _ (by kernel_rfl) (by kernel_rfl) rfl ?_
 simp only [aA, KU, KY, KN, KP]
 repeat (refine sth ?_; intros)
 refine EM.nil ?_
 repeat (first | rw [KD] | rw [KE])
 refine CH.bP (rest := [_, _]) h1 (k := ?_)
 rintro _ _ ⟨rfl, rfl⟩
 try simp only [St.put]
 repeat (first | rw [KD] | rw [KE])
 refine CH.cut 2 ?_
 simp only [KG, KI, KF, KH]
 repeat (refine sth ?_; intros)
 refine EM.nil ?_
 repeat (first | rw [KD] | rw [KE])
 refine CH.bP (rest := []) h2 (k := ?_)
 rintro _ _ ⟨u', rfl, rfl⟩
 try simp only [St.put]
 repeat (first | rw [KD] | rw [KE])
 refine CH.bP (rest := []) (Iy hs) (k := ?_)
 rintro _ _ ⟨rfl, rfl⟩
 try simp only [St.put]
 repeat (first | rw [KD] | rw [KE])
 refine CH.nil ?_
 try simp only [KF, KH]
 repeat
  (first
   | apply EL.nil)
 exact EK.cO [stO g m u' k n, smO m c es, unO u' (bC ks us (pV a q x)), mkO k ks, acO ga b w cd (.map (some gs)), .map gs 32 sc' ss'] rfl (by (repeat first | exact KO _ | apply List.Sublist.cons_cons | apply List.Sublist.cons)) ⟨rfl, u', rfl⟩
theorem oJ {ss' : Nat → List Ent} {sc' : Nat} (h : aJ es a = none) (hu : us.length < 1099511627776) (hs : ∀ ga gs, FnM 19 [.v (ptr ga), .arr 32 q, .arr 32 v] [acO ga 0 zero32 [] (.map (some gs)), .map gs 32 0 []] (fun r os' => r = .tpl [] ∧ os' = [acO ga 0 zero32 [] (.map (some gs)), .map gs 32 sc' (ss' 0)])) : FnM 27 [.v (ptr g), .arr 20 a, .arr 32 q, .arr 32 v] [stO g m u k n, smO m c es, unO u us, mkO k ks] (fun r os' => r = .tpl [] ∧ ∃ u' ga gs, os' = [stO g m u' k n, smO m (bG c es a) (bK c es a (.v (ptr ga))), unO u' (bC ks us (pV a q zero32)), mkO k ks, acO ga 0 zero32 [] (.map (some gs)), .map gs 32 sc' (ss' 0)]) := by
 have h1 := CV (g := g) (m := m) (c := c) (u := u) (k := k) (n := n) (q := q) h
 have h2 := iw (g := g) (m := m) (c := c) (u := u) (k := k) (n := n) (ks := ks) (T := 110) (d := .tup [.arr 20 a, .arr 32 q, .arr 32 zero32]) h hu
 refine FnM.walk 22 Tryz.func27 rfl Tryz.ntmps27 (by simp) fun X => ?_
 repeat (refine stp ?_; intros)
 refine EC.le (Le.pick [3, 4, 5, 6, 0, 1, 2] [_, _, _, _, _, _, _] rfl (by decide) rfl) ?_
 refine EC.bI 14 [0, 1, 2, 3, 4, 5, 6, 11, 12] [7, 8, 9, 10, 13] [_, _, _, _] _ (by kernel_rfl) (by kernel_rfl) rfl ?_
 simp only [aA, KU, KY, KN, KP]
 repeat (refine sth ?_; intros)
 refine EM.nil ?_
 repeat (first | rw [KD] | rw [KE])
 refine CH.bP (rest := [_, _]) h1 (k := ?_)
 rintro _ _ ⟨rfl, rfl⟩
 try simp only [St.put]
 repeat (first | rw [KD] | rw [KE])
 refine CH.cut 2 ?_
 simp only [KG, KI, KF, KH]
 repeat (refine sth ?_; intros)
 refine EM.nil ?_
 repeat (first | rw [KD] | rw [KE])
 refine CH.bP (rest := []) h2 (k := ?_)
 rintro _ _ ⟨u', ga, gs, rfl, rfl⟩
 try simp only [St.put]
 repeat (first | rw [KD] | rw [KE])
 refine CH.bP (rest := []) (FP (hs ga gs)) (k := ?_)
 rintro _ _ ⟨rfl, rfl⟩
 try simp only [St.put]
 repeat (first | rw [KD] | rw [KE])
 refine CH.nil ?_
 try simp only [KF, KH]
 repeat
  (first
   | apply EL.nil)
 refine EK.le (Le.pick [2, 3, 4, 5, 0, 1, 6, 7, 8] [_, _, _, _, _, _, _, _, _] rfl (by decide) rfl) ?_
 exact EK.cO [stO g m u' k n, smO m (bG c es a) (bK c es a (.v (ptr ga))), unO u' (bC ks us (pV a q zero32)), mkO k ks, acO ga 0 zero32 [] (.map (some gs)), .map gs 32 sc' (ss' 0)] rfl (by (repeat first | exact KO _ | apply List.Sublist.cons_cons | apply List.Sublist.cons)) ⟨rfl, u', ga, gs, rfl⟩
theorem Gl (h : aJ es a = some (.v (ptr ga))) (hu : us.length < 1099511627776) : FnM 30 [.v (ptr g), .arr 20 a] [stO g m u k n, smO m c es, unO u us, mkO k ks] (fun r os' => r = .tpl [] ∧ ∃ u' ga' gs', os' = [stO g m u' k n, smO m (bG c es a) (bK c es a (.v (ptr ga'))), unO u' (bC ks us (vT a (ptr ga))), mkO k ks, acO ga' 0 zero32 [] (.map (some gs')), .map gs' 32 0 []]) := by
 have hg : (aJ es a).getD (.v (.pointer none)) = .v (ptr ga) := by rw [h]; rfl
 have h2 := nZ (g := g) (m := m) (c := c) (u := u) (k := k) (n := n) (ks := ks) (T := 114) (d := .tup [.arr 20 a, .v (ptr ga)]) h hu
 refine FnM.walk 24 Tryz.func30 rfl Tryz.ntmps30 (by simp) fun X => ?_
 repeat (refine stp ?_; intros)
 refine EC.le (Le.pick [1, 2, 3, 4, 0] [_, _, _, _, _] rfl (by decide) rfl) ?_
 refine EC.bI 12 [0, 1, 2, 3, 4, 5, 7] [6, 8, 9, 10, 11] [_, _, _, _] _ (by kernel_rfl) (by kernel_rfl) rfl ?_
 simp only [aA, KU, KY, KN, KP]
 repeat (refine sth ?_; intros)
 refine EM.nil ?_
 repeat (first | rw [KD] | rw [KE])
 refine CH.cut 4 ?_
 simp only [KG, KI, KF, KH]
 repeat
  (first
   | (apply bY; exact hg; rfl; (first | exact I0 | exact I1 | exact I2 | exact I3); iterate 5 rfl) | (refine sth ?_; intros))
 refine EM.nil ?_
 repeat (first | rw [KD] | rw [KE])
 refine CH.bP (rest := []) h2 (k := ?_)
 rintro _ _ ⟨u', rfl, rfl⟩
 try simp only [St.put]
 repeat (first | rw [KD] | rw [KE])
 refine CH.nil ?_
 try simp only [KF, KH]
 repeat (refine stp ?_; intros)
 refine EC.bI 8 [0, 1, 2, 3, 4] [5, 6, 7] [] _ (by kernel_rfl) (by kernel_rfl) rfl ?_
 simp only [aA, KU, KY, KN, KP]
 repeat (refine sth ?_; intros)
 refine EM.nil ?_
 repeat (first | rw [KD] | rw [KE])
 refine CH.mut (os := []) (rest := []) rfl rfl (gU rfl rfl) ?_
 rintro _ _ ⟨gs', rfl, rfl⟩
 try simp only [St.put]
 repeat (first | rw [KD] | rw [KE])
 refine CH.cut 1 ?_
 simp only [KG, KI, KF, KH]
 repeat (refine sth ?_; intros)
 refine EM.nil ?_
 repeat (first | rw [KD] | rw [KE])
 refine CH.mut (os := []) (rest := [_]) rfl rfl (xk rfl rfl) ?_
 rintro _ _ ⟨ga', rfl, rfl⟩
 try simp only [St.put]
 repeat (first | rw [KD] | rw [KE])
 refine CH.nil ?_
 try simp only [KF, KH]
 repeat (refine stp ?_; intros)
 refine EK.le (Le.yL (d' := .tup [.v (.int .i64 0), .arr 32 zero32, .bs [], .v (.map (some gs'))]) ?_) ?_
 · exact Rf.tup (RL.cons Rf.same (RL.cons Rf.same (RL.cons Rf.bs0 (RL.cons Rf.same RL.nil))))
 refine EK.le (Le.pick [2, 3, 4, 5, 0, 1, 6] [_, _, _, _, _, _, _] rfl (by decide) rfl) ?_
 exact EK.cO [stO g m u' k n, smO m (bG c es a) (bK c es a (.v (ptr ga'))), unO u' (bC ks us (vT a (ptr ga))), mkO k ks, acO ga' 0 zero32 [] (.map (some gs')), .map gs' 32 0 []] rfl (by (repeat first | exact KO _ | apply List.Sublist.cons_cons | apply List.Sublist.cons)) ⟨rfl, u', ga', gs', rfl⟩
theorem DL (h : aJ es a = none) (hu : us.length < 1099511627776) : FnM 30 [.v (ptr g), .arr 20 a] [stO g m u k n, smO m c es, unO u us, mkO k ks] (fun r os' => r = .tpl [] ∧ ∃ u' ga ga' gs', os' = [stO g m u' k n, smO m (bG (bG c es a) (bK c es a (.v (ptr ga))) a) (bK (bG c es a) (bK c es a (.v (ptr ga))) a (.v (ptr ga'))), unO u' (bC ks us (vT a (.pointer none))), mkO k ks, acO ga' 0 zero32 [] (.map (some gs')), .map gs' 32 0 []]) := by
 have hg : (aJ es a).getD (.v (.pointer none)) = .v (.pointer none) := by rw [h]; rfl
 have h2 := iw (g := g) (m := m) (c := c) (u := u) (k := k) (n := n) (ks := ks) (T := 114) (d := .tup [.arr 20 a, .v (.pointer none)]) h hu
 refine FnM.walk 24 Tryz.func30 rfl Tryz.ntmps30 (by simp) fun X => ?_
 repeat (refine stp ?_; intros)
 refine EC.le (Le.pick [1, 2, 3, 4, 0] [_, _, _, _, _] rfl (by decide) rfl) ?_
 refine EC.bI 12 [0, 1, 2, 3, 4, 5, 7] [6, 8, 9, 10, 11] [_, _, _, _] _ (by kernel_rfl) (by kernel_rfl) rfl ?_
 simp only [aA, KU, KY, KN, KP]
 repeat (refine sth ?_; intros)
 refine EM.nil ?_
 repeat (first | rw [KD] | rw [KE])
 refine CH.cut 4 ?_
 simp only [KG, KI, KF, KH]
 repeat
  (first
   | (apply bY; exact hg; rfl; (first | exact I0 | exact I1 | exact I2 | exact I3); iterate 5 rfl) | (refine sth ?_; intros))
 refine EM.nil ?_
 repeat (first | rw [KD] | rw [KE])
 refine CH.bP (rest := []) h2 (k := ?_)
 rintro _ _ ⟨u', ga, gs, rfl, rfl⟩
 try simp only [St.put]
 repeat (first | rw [KD] | rw [KE])
 refine CH.nil ?_
 try simp only [KF, KH]
 repeat (refine stp ?_; intros)
 refine EC.le (Le.pick [2, 3, 4, 5, 6, 0, 1] [_, _, _, _, _, _, _] rfl (by decide) rfl) ?_
 refine EC.bI 8 [0, 1, 2, 3, 4] [5, 6, 7] [] _ (by kernel_rfl) (by kernel_rfl) rfl ?_
 simp only [aA, KU, KY, KN, KP]
 repeat (refine sth ?_; intros)
 refine EM.nil ?_
 repeat (first | rw [KD] | rw [KE])
 refine CH.mut (os := []) (rest := []) rfl rfl (gU rfl rfl) ?_
 rintro _ _ ⟨gs', rfl, rfl⟩
 try simp only [St.put]
 repeat (first | rw [KD] | rw [KE])
 refine CH.cut 1 ?_
 simp only [KG, KI, KF, KH]
 repeat (refine sth ?_; intros)
 refine EM.nil ?_
 repeat (first | rw [KD] | rw [KE])
 refine CH.mut (os := []) (rest := [_]) rfl rfl (xk rfl rfl) ?_
 rintro _ _ ⟨ga', rfl, rfl⟩
 try simp only [St.put]
 repeat (first | rw [KD] | rw [KE])
 refine CH.nil ?_
 try simp only [KF, KH]
 repeat (refine stp ?_; intros)
 refine EK.le (Le.yL (d' := .tup [.v (.int .i64 0), .arr 32 zero32, .bs [], .v (.map (some gs'))]) ?_) ?_
 · exact Rf.tup (RL.cons Rf.same (RL.cons Rf.same (RL.cons Rf.bs0 (RL.cons Rf.same RL.nil))))
 refine EK.le (Le.pick [2, 3, 4, 5, 0, 1, 6, 7, 8] [_, _, _, _, _, _, _, _, _] rfl (by decide) rfl) ?_
 exact EK.cO [stO g m u' k n, smO m (bG (bG c es a) (bK c es a (.v (ptr ga))) a) (bK (bG c es a) (bK c es a (.v (ptr ga))) a (.v (ptr ga'))), unO u' (bC ks us (vT a (.pointer none))), mkO k ks, acO ga' 0 zero32 [] (.map (some gs')), .map gs' 32 0 []] rfl (by (repeat first | exact KO _ | apply List.Sublist.cons_cons | apply List.Sublist.cons)) ⟨rfl, u', ga, ga', gs', rfl⟩
end
structure Ac where
 n : Int
 w : List UInt8
 cd : List UInt8
 sl : List UInt8 → List UInt8
def Ac.zero : Ac := ⟨0, zero32, [], fun _ => zero32⟩
abbrev As := List UInt8 → Ac
def As.upd (A : As) (a : List UInt8) (x : Ac) : As := fun b => if a = b then x else A b
structure PA where
 g : Nat
 n : Int
 w : List UInt8
 cd : List UInt8
 gs : Nat
 sc : Nat
 ss : List Ent
def PA.os (p : PA) : List Obj := [acO p.g p.n p.w p.cd (.map (some p.gs)), .map p.gs 32 p.sc p.ss]
structure PA.Is (p : PA) (x : Ac) (N : Nat) : Prop where
 n : p.n = x.n
 w : p.w = x.w
 cd : p.cd = x.cd
 sl : ∀ k, slE p.ss k = .arr 32 (x.sl k)
 ent : ∀ e ∈ p.ss, ∃ v, e.2.2 = .arr 32 v ∧ v ≠ zero32
 nod : (p.ss.map (·.2.1)).Nodup
 len : p.ss.length ≤ N
 cl : p.cd.length ≤ 140737488355328
structure iP (es : List Ent) (ps : List PA) (A : As) (N : Nat) : Prop where
 out : ∀ a, aJ es a = none → A a = Ac.zero
 inn : ∀ a d, aJ es a = some d → ∃ p ∈ ps, d = .v (ptr p.g) ∧ p.Is (A a) N
 inj : ∀ a b d, aJ es a = some d → aJ es b = some d → a = b
 nod : (es.map (·.2.1)).Nodup
 len : es.length ≤ N
def psO (g m c : Nat) (es : List Ent) (u k : Value) (n : Int) (us : List D) (ps : List PA) : List Obj := [stO g m u k n, smO m c es, unO u us, mkO k []] ++ ps.flatMap PA.os
def PSt (g : Nat) (A : As) (N : Nat) (os : List Obj) : Prop := ∃ m c es u k n us ps, os = psO g m c es u k n us ps ∧ iP es ps A N ∧ us.length < 1099511627776
theorem nU (ps1 ps2 : List PA) (p : PA) : ((ps1 ++ p :: ps2).flatMap PA.os).Perm (p.os ++ (ps1 ++ ps2).flatMap PA.os) := by
 rw [List.flatMap_append, Nv, List.flatMap_append, ← Lc, ← Lc]
 exact Oh _ Lm
theorem FnM.lift {f : FuncId} {ds : List D} {hdr : List Obj} {p : PA} {Ψ : R → List Obj → PA → Prop} (ps1 ps2 : List PA) (h : FnM f ds (hdr ++ p.os) (fun r os' => ∃ hdr' p', Ψ r hdr' p' ∧ os' = hdr' ++ p'.os)) : FnM f ds (hdr ++ (ps1 ++ p :: ps2).flatMap PA.os) (fun r os' => ∃ hdr' p', Ψ r hdr' p' ∧ os' = hdr' ++ (ps1 ++ p' :: ps2).flatMap PA.os) := by
 have h1 := (h.frame ((ps1 ++ ps2).flatMap PA.os)).perm (os2 := hdr ++ (ps1 ++ p :: ps2).flatMap PA.os) (by
  rw [Lc]
  exact Oo _ (nU ps1 ps2 p).symm)
 refine FnM.out h1 ?_
 rintro r _ ⟨_, ⟨hdr', p', hΨ, rfl⟩, rfl⟩
 refine ⟨_, ?_, hdr', p', hΨ, rfl⟩
 rw [Lc]
 exact Oo _ (nU ps1 ps2 p').symm
theorem FnM.apart {f : FuncId} {ds : List D} {os : List Obj} {Φ : R → List Obj → Prop} (h : FnM f ds os Φ) : FnM f ds os (fun r os' => Φ r os' ∧ Apart os') := ⟨fun ok w xs h1 h2 h3 => (h.go ok w xs h1 h2 h3).mono fun e w' ⟨v, r, os', e1, e2, e3, e4⟩ => ⟨v, r, os', e1, ⟨e2, e3.apart⟩, e3, e4⟩⟩
theorem dU (c : Nat) (es : List Ent) (l : List UInt8) (d : D) : (bK c es l d).length ≤ es.length + 1 := by
 unfold bK
 split
 ·
  have := congrArg List.length (iT es l d)
  simp at this
  omega
 · simp
theorem dS (c : Nat) (es : List Ent) (l : List UInt8) (d : D) (h : (es.map (·.2.1)).Nodup) : ((bK c es l d).map (·.2.1)).Nodup := by
 unfold bK
 cases hh : jk es l
 ·
  rw [if_neg (by simp), MH]
  have hn : l ∉ es.map (·.2.1) := by
   rw [jW] at hh
   exact (fG es l).1 (by simpa using hh)
  refine Ol.2 ⟨h, by simp, fun x hx y hy => ?_⟩
  obtain rfl : y = l := by simpa using hy
  exact fun e => hn (e ▸ hx)
 ·
  rw [if_pos rfl, iT]
  exact h
variable {es es' : List Ent} {ps ps1 ps2 : List PA} {A : As} {N : Nat} {a : List UInt8} {p p' : PA} {x : Ac}
theorem iP.turned (h : iP es (ps1 ++ p :: ps2) A N) (ha : aJ es a = some (.v (ptr p.g))) (hg : p'.g = p.g) (hx : p'.Is x (N + 1)) : iP es (ps1 ++ p' :: ps2) (A.upd a x) (N + 1) := by
 refine ⟨fun b hb => ?_, fun b d hb => ?_, h.inj, h.nod, NV h.len⟩
 ·
  unfold As.upd
  rw [if_neg fun e => by rw [← e, ha] at hb; cases hb]
  exact h.out b hb
 ·
  unfold As.upd
  by_cases e : a = b
  ·
   subst e
   rw [if_pos rfl]
   rw [ha] at hb
   cases hb
   exact ⟨p', by simp, by rw [hg], hx⟩
  ·
   rw [if_neg e]
   obtain ⟨q, hq, rfl, hi⟩ := h.inn b d hb
   have hne : q.g ≠ p.g := fun e' => e (h.inj a b _ ha (by rw [hb, e']))
   refine ⟨q, ?_, rfl, ⟨hi.n, hi.w, hi.cd, hi.sl, hi.ent, hi.nod, NV hi.len, hi.cl⟩⟩
   rcases LH.1 hq with hq | hq
   · exact Ll _ hq
   ·
    rcases KT.1 hq with rfl | hq
    · exact absurd rfl hne
    · exact Lp _ (Ld _ hq)
theorem iP.fresh (h : iP es ps A N) (hes : ∀ b, aJ es' b = if a = b then some (.v (ptr p'.g)) else aJ es b) (hn : (es'.map (·.2.1)).Nodup) (hl : es'.length ≤ N + 1) (hx : p'.Is x (N + 1)) (hnew : ∀ q ∈ ps, q.g ≠ p'.g) : iP es' (p' :: ps) (A.upd a x) (N + 1) := by
 refine ⟨fun b hb => ?_, fun b d hb => ?_, fun b b' d hb hb' => ?_, hn, hl⟩
 ·
  rw [hes] at hb
  unfold As.upd
  by_cases e : a = b
  ·
   rw [if_pos e] at hb
   cases hb
  ·
   rw [if_neg e] at hb ⊢
   exact h.out b hb
 ·
  rw [hes] at hb
  unfold As.upd
  by_cases e : a = b
  ·
   rw [if_pos e] at hb ⊢
   cases hb
   exact ⟨p', by simp, rfl, hx⟩
  ·
   rw [if_neg e] at hb ⊢
   obtain ⟨q, hq, rfl, hi⟩ := h.inn b d hb
   exact ⟨q, Ld _ hq, rfl, ⟨hi.n, hi.w, hi.cd, hi.sl, hi.ent, hi.nod, NV hi.len, hi.cl⟩⟩
 ·
  rw [hes] at hb hb'
  by_cases e : a = b
  ·
   rw [if_pos e] at hb
   cases hb
   by_cases e' : a = b'
   · rw [← e, ← e']
   ·
    rw [if_neg e'] at hb'
    obtain ⟨q, hq, hd, _⟩ := h.inn b' _ hb'
    have : q.g = p'.g := by simp at hd; exact hd.symm
    exact absurd this (hnew q hq)
  ·
   rw [if_neg e] at hb
   by_cases e' : a = b'
   ·
    rw [if_pos e'] at hb'
    cases hb'
    obtain ⟨q, hq, hd, _⟩ := h.inn b _ hb
    have : q.g = p'.g := by simp at hd; exact hd.symm
    exact absurd this (hnew q hq)
   ·
    rw [if_neg e'] at hb'
    exact h.inj b b' d hb hb'
theorem oh {hdr : List Obj} (h : Apart (hdr ++ p'.os ++ ps.flatMap PA.os)) : ∀ q ∈ ps, q.g ≠ p'.g := fun q hq e => by
 rw [Lc] at h
 have h1 := (LQ.1 h).2.1
 have h2 := (LQ.1 h1).2.2 (acO p'.g p'.n p'.w p'.cd (.map (some p'.gs))) (by simp [PA.os]) (acO q.g q.n q.w q.cd (.map (some q.gs))) (List.mem_flatMap.2 ⟨q, hq, by simp [PA.os]⟩) p'.g rfl
 exact h2 (by simp [Obj.blk, e])
end E
end Go.Proofs.YtkhjanjlcdhdcaaGreat
namespace Go.Proofs.YtkhjanjlcdhdcaaGreat
set_option linter.unusedVariables false
open Go.RowKit Mono Rlp Wd
namespace E
theorem wY : ∀ (es : List Ent) (l : List UInt8) (d : D) (e : Ent), e ∈ jE es l d → e ∈ es ∨ e.2.2 = d
 | [], l, d, e, h => by simp [jE] at h
 | x :: es, l, d, e, h => by
  rw [jE] at h
  split at h
  ·
   rcases KT.1 h with rfl | h
   · exact .inr rfl
   · exact .inl (Ld _ h)
  ·
   rcases KT.1 h with rfl | h
   · exact .inl (KQ ..)
   · exact (wY es l d e h).imp (Ld _) id
theorem qF (c : Nat) (es : List Ent) (l : List UInt8) (d : D) (e : Ent) (h : e ∈ bK c es l d) : e ∈ es ∨ e.2.2 = d := by
 unfold bK at h
 split at h
 · exact wY es l d e h
 ·
  rcases LH.1 h with h | h
  · exact .inl h
  ·
   obtain rfl : e = _ := by simpa using h
   exact .inr rfl
theorem uw (c : Nat) (ss : List Ent) (q v k : List UInt8) : slE (bK c ss q (.arr 32 v)) k = if q = k then .arr 32 v else slE ss k := by
 unfold slE
 rw [dX]
 split <;> rfl
theorem zN (ss : List Ent) (q k : List UInt8) (h : (ss.map (·.2.1)).Nodup) : slE (ig ss q) k = if q = k then .arr 32 zero32 else slE ss k := by
 unfold slE
 rw [sS _ _ _ h]
 split <;> rfl
theorem oZ (es : List Ent) (l : List UInt8) : (ig es l).length ≤ es.length := (fA es l).length_le
variable {g N : Nat} {A : As} {os : List Obj} {a : List UInt8}
theorem PA.Is.up {p : PA} {x : Ac} (h : p.Is x N) : p.Is x (N + 1) := ⟨h.n, h.w, h.cd, h.sl, h.ent, h.nod, NV h.len, h.cl⟩
def Ac.slot (x : Ac) (q v : List UInt8) : Ac := {x with sl := fun k => if q = k then v else x.sl k}
end E
end Go.Proofs.YtkhjanjlcdhdcaaGreat
namespace Go.Proofs.YtkhjanjlcdhdcaaGreat
set_option linter.unusedVariables false
set_option maxRecDepth 20000
set_option maxHeartbeats 8000000
open Go.RowKit Mono Rlp Wd
namespace E
def PA.empty (p : PA) : Bool := decide (p.n = 0) && (p.w == zero32) && p.cd.isEmpty && p.ss.isEmpty
theorem PA.Is.lC {p : PA} {x : Ac} {N : Nat} (h : p.Is x N) : p.empty = true ↔ x = Ac.zero := by
 unfold PA.empty
 rw [h.n, h.w, h.cd]
 simp only [MB, decide_eq_true_eq, beq_iff_eq, List.isEmpty_iff]
 constructor
 ·
  rintro ⟨⟨⟨h1, h2⟩, h3⟩, h4⟩
  have h5 : x.sl = fun _ => zero32 := funext fun k => by
   have := h.sl k
   rw [h4] at this
   have h6 : slE [] k = .arr 32 zero32 := rfl
   rw [h6] at this
   simpa using this.symm
  cases x
  simp only [Ac.zero, Ac.mk.injEq]
  exact ⟨h1, h2, h3, h5⟩
 ·
  rintro rfl
  refine ⟨⟨⟨rfl, rfl⟩, rfl⟩, ?_⟩
  cases hs : p.ss with
  | nil => rfl
  | cons e ss =>
   exfalso
   obtain ⟨v, hv, hne⟩ := h.ent e (by rw [hs]; exact KQ ..)
   have := h.sl e.2.1
   rw [hs] at this
   have h6 : slE (e :: ss) e.2.1 = .arr 32 v := by
    unfold slE
    rw [aJ, if_pos (by simp), hv]
    rfl
   rw [h6] at this
   apply hne
   simpa [Ac.zero] using this
theorem empty_ (p : PA) : FnM 42 [.v (ptr p.g)] p.os (fun r os' => r = .val (.v (.bool p.empty)) ∧ os' = p.os) := by
 obtain ⟨g, n, w, cd, gs, sc, ss⟩ := p
 have hz := (dA w zero32).1
 unfold PA.empty PA.os
 dsimp only
 refine FnM.walk 32 Tryz.func42 rfl Tryz.ntmps42 (by simp) fun X => ?_
 by_cases h1 : n = 0
 ·
  by_cases h2 : (w == zero32) = true
  ·
   rw [h2] at hz
   by_cases h3 : cd = []
   ·
    by_cases h4 : ss = []
    ·
     subst h3
     subst h4
     rw [h2]
     subst h1
     repeat
      (first
       | (refine bM (hrun := hz) (kk := ?_)) | (refine stp ?_; intros))
     exact EK.aI [acO g 0 w [] (.map (some gs)), .map gs 32 sc []] rfl rfl (by (repeat first | exact KO _ | apply List.Sublist.cons_cons | apply List.Sublist.cons)) ⟨rfl, rfl⟩
    ·
     subst h3
     have h5 : ss.isEmpty = false := by cases ss with | nil => exact absurd rfl h4 | cons _ _ => rfl
     rw [h2, h5]
     subst h1
     repeat
      (first
       | (refine bM (hrun := hz) (kk := ?_)) | (refine stp ?_; intros))
     exact EK.aI [acO g 0 w [] (.map (some gs)), .map gs 32 sc ss] rfl rfl (by (repeat first | exact KO _ | apply List.Sublist.cons_cons | apply List.Sublist.cons)) ⟨rfl, rfl⟩
   ·
    have h5 : cd.isEmpty = false := by cases cd with | nil => exact absurd rfl h3 | cons _ _ => rfl
    rw [h2, h5]
    subst h1
    repeat
     (first
      | (refine bM (hrun := hz) (kk := ?_)) | (refine stp ?_; intros))
    exact EK.aI [acO g 0 w cd (.map (some gs)), .map gs 32 sc ss] rfl rfl (by (repeat first | exact KO _ | apply List.Sublist.cons_cons | apply List.Sublist.cons)) ⟨rfl, rfl⟩
  ·
   have h2 : (w == zero32) = false := by simpa using h2
   rw [h2] at hz ⊢
   subst h1
   repeat
    (first
     | (refine bM (hrun := hz) (kk := ?_)) | (refine stp ?_; intros))
   exact EK.aI [acO g 0 w cd (.map (some gs)), .map gs 32 sc ss] rfl rfl (by (repeat first | exact KO _ | apply List.Sublist.cons_cons | apply List.Sublist.cons)) ⟨rfl, rfl⟩
 ·
  have h5 : decide (n = 0) = false := by simp [h1]
  rw [h5]
  repeat (refine stp ?_; intros)
  exact EK.aI [acO g n w cd (.map (some gs)), .map gs 32 sc ss] rfl rfl (by (repeat first | exact KO _ | apply List.Sublist.cons_cons | apply List.Sublist.cons)) ⟨rfl, rfl⟩
end E
end Go.Proofs.YtkhjanjlcdhdcaaGreat
namespace Go.Proofs.YtkhjanjlcdhdcaaGreat
set_option linter.unusedVariables false
open Go.RowKit Mono Rlp
open Go.ChangeMaps (setBlock)
namespace E
abbrev Ky (n : Nat) := {l : List UInt8 // l.length = n}
def kv {n : Nat} (k : Ky n) : Value := aV k.1
theorem Du {es : List MapEntry} (hn : (es.map (·.born)).Nodup) {e : MapEntry} (he : e ∈ es) : es.Perm (e :: es.filter fun x => x.born != e.born) := by
 induction es with
 | nil => cases he
 | cons y es ih =>
  simp only [Lu, Ny] at hn
  rcases KT.1 he with rfl | he
  ·
   have : es.filter (fun x => x.born != e.born) = es := List.filter_eq_self.2 fun x hx => by
    have : x.born ≠ e.born := fun h => hn.1 (h ▸ LD.2 ⟨x, hx, rfl⟩)
    simpa using this
   simp [this]
  ·
   have hne : y.born ≠ e.born := fun h => hn.1 (h ▸ LD.2 ⟨e, he, rfl⟩)
   have : (y :: es).filter (fun x => x.born != e.born) = y :: es.filter (fun x => x.born != e.born) := by simp [hne]
   rw [this]
   exact ((ih hn.2 he).cons y).trans (List.Perm.swap e y _)
theorem xC (es : Array MapEntry) (seen : Array Nat) (b : Nat) : (leftOf es (seen.push b)).toList = (leftOf es seen).toList.filter fun x => x.born != b := by
 unfold leftOf
 rw [Array.toList_filter, Array.toList_filter, List.filter_filter]
 refine List.filter_congr fun x _ => ?_
 rw [contains_push]
 cases seen.contains x.born <;> cases h : x.born == b <;> simp [bne, h]
def Rng (w : World) (b r : Nat) (es : Array MapEntry) (clock : Nat) (ss : List Value) (cnt : Nat) : Prop :=
 ∃ since seen c0, w.heap[b]? = some (.map es clock) ∧ w.heap[r]? = some (.mapIter (some b) since seen c0) ∧ (∀ x ∈ es.toList, x.born < since) ∧ since ≤ c0 ∧ since ≤ clock ∧ (leftOf es seen).size = cnt ∧ (ss ++ (leftOf es seen).toList.map (·.key)).Perm (es.toList.map (·.key))
variable {w : World} {b r cnt clock : Nat} {es : Array MapEntry} {ss : List Value}
theorem Rng.left_eq (h : Rng w b r es clock ss cnt) : w.rangeLeft b r = cnt := by
 obtain ⟨since, seen, c0, hb, hr, _, _, _, hc, _⟩ := h
 simp only [World.rangeLeft, hb, hr]
 exact hc
theorem Rng.le (h : Rng w b r es clock ss cnt) : ss.length + cnt = es.size := by
 obtain ⟨since, seen, c0, _, _, _, _, _, hc, hp⟩ := h
 have := hp.length_eq
 simp at this
 omega
theorem Rng.iter (h : Rng w b r es clock ss cnt) : ∃ o : Go.Obj, w.heap[r]? = some o ∧ o.isWalk = true := by
 obtain ⟨since, seen, c0, _, hr, _⟩ := h
 exact ⟨_, hr, rfl⟩
theorem Rng.lt (h : Rng w b r es clock ss cnt) : b < w.heap.size ∧ r < w.heap.size := by
 obtain ⟨since, seen, c0, hb, hr, _⟩ := h
 exact ⟨(LJ.1 hb).1, (LJ.1 hr).1⟩
theorem Rng.kept {w' : World} (h : Rng w b r es clock ss cnt) (hb : w'.heap[b]? = w.heap[b]?) (hr : w'.heap[r]? = w.heap[r]?) : Rng w' b r es clock ss cnt := by
 obtain ⟨since, seen, c0, h1, h2, rest⟩ := h
 exact ⟨since, seen, c0, hb.trans h1, hr.trans h2, rest⟩
theorem Rng.walks {w' : World} (h : Rng w b r es clock ss cnt) (hk : KeepsWalks w w') : Rng w' b r es clock ss cnt := by
 obtain ⟨since, seen, c0, h1, h2, rest⟩ := h
 exact ⟨since, seen, c0, hk.same _ _ h1 rfl, hk.same _ _ h2 rfl, rest⟩
theorem Rng.start (hb : w.heap[b]? = some (.map es clock)) (hl : ∀ x ∈ es.toList, x.born < clock) : Rng (w.alloc (.mapIter (some b) clock #[] clock)) b w.heap.size es clock [] es.size := by
 have hlt := (LJ.1 hb).1
 refine ⟨clock, #[], clock, ((MS w _).2 b hlt).trans hb, (MS w _).1, hl, Lj _, Lj _, ?_, ?_⟩
 · simp [leftOf]
 ·
  simp [leftOf]
  rw [List.filter_eq_self.2 fun _ _ => rfl]
theorem Rng.next (h : Rng w b r es clock ss cnt) (hn : (es.toList.map (·.born)).Nodup) (ty : TypeId) :
  (cnt = 0 ∧ ss.Perm (es.toList.map (·.key)) ∧ (Instr.next (.pointer (some ⟨r, 0, none⟩)) false ty).run Tryz.prog w = .ok (.tuple #[.bool false]) w) ∨
  ∃ e ∈ es.toList, ∃ w' cnt', (Instr.next (.pointer (some ⟨r, 0, none⟩)) false ty).run Tryz.prog w = .ok (.tuple #[.bool true, e.key, e.val]) w' ∧ Rng w' b r es clock (ss ++ [e.key]) cnt' ∧ cnt' < cnt ∧ w.grownBy w' (some r) ∧ w'.heap.size = w.heap.size ∧ (Instr.entry (.pointer (some ⟨r, 0, none⟩))).run Tryz.prog w' = .ok (.tuple #[e.key, e.val]) w' := by
 obtain ⟨since, seen, c0, hb, hr, hold, hsc, hsk, rfl, hp⟩ := h
 have hne : r ≠ b := fun e => by rw [e, hb] at hr; cases hr
 rcases run_next_at (P := Tryz.prog) w ty r b since c0 seen es clock hr hb hold hsc with ⟨h0, hrun⟩ | ⟨e, he, w1, hal, hrun⟩
 ·
  refine .inl ⟨h0, ?_, hrun⟩
  have : leftOf es seen = #[] := Array.eq_empty_of_size_eq_zero h0
  rw [this] at hp
  simpa using hp
 ·
  obtain ⟨hem, hes⟩ := mem_left he
  have hr1 : w1.heap[r]? = some (.mapIter (some b) since seen c0) := by rcases hal with rfl | rfl <;> exact hr
  have hb1 : w1.heap[b]? = some (.map es clock) := by rcases hal with rfl | rfl <;> exact hb
  have hset := MapKept.heap_set (o' := .mapIter (some b) since (seen.push e.born) clock) hr1
  have hb' : (setBlock w1 r (.mapIter (some b) since (seen.push e.born) clock)).heap[b]? = some (.map es clock) := (hset.2 b (fun e1 => hne e1.symm)).trans hb1
  refine .inr ⟨e, hem, _, _, hrun, ⟨since, seen.push e.born, clock, hb', hset.1, hold, hsk, hsk, rfl, ?_⟩, left_shrinks es seen e he, ?_, ?_, run_entry_at _ r b since seen es clock e hset.1 hb' hem hn⟩
  ·
   have hnl : ((leftOf es seen).toList.map (·.born)).Nodup := by
    unfold leftOf
    rw [Array.toList_filter]
    exact hn.sublist (List.filter_sublist.map _)
   have h1 := (Du hnl he).map (·.key)
   rw [← xC] at h1
   refine List.Perm.trans ?_ hp
   rw [Lc]
   exact (Oo ss h1).symm
  · rcases hal with rfl | rfl <;> exact ⟨rfl, rfl, rfl, by simp [setBlock], fun i _ hi => hset.2 i (fun e1 => hi (by rw [e1]))⟩
  · rcases hal with rfl | rfl <;> simp [setBlock]
section
variable {n : Nat} {ops : Array Oper} {rest : List Oper} {o : Oper} {a : Act} {Q : Exit → Act → World → Prop} {F : Fence}
theorem uT (hg : o.guard = none) (ha : ∀ f, o.about Tryz.prog w a.eval = some f → F.fn f) (hd : ∀ c, o.op ≠ .defer c) {v : Value} {w' : World} (hr : (execOp a.eval o).run Tryz.prog w = .ok (.value v) w') (k : wpListIn F n Tryz.prog ops Q rest (a.put o.dst v) w') : wpListIn F n Tryz.prog ops Q (o :: rest) a w := by
 refine wpListIn_plain hg fun K hK => ⟨ha, ?_⟩
 rw [Oper.semAt_plain F _ _ hd, hr]
 exact hK _ _ k
theorem xH (hg : o.guard = none) (m : Operand) (t k e : TypeId) (hop : o.op = Op.range t m) (ht : Tryz.prog.underlying t = some (.map k e)) (hm : a.eval m = .map (some b)) (hb : w.heap[b]? = some (.map es clock))
  (K : wpListIn F n Tryz.prog ops Q rest (a.put o.dst (.pointer (some ⟨w.heap.size, 0, none⟩))) (w.alloc (.mapIter (some b) clock #[] clock))) : wpListIn F n Tryz.prog ops Q (o :: rest) a w := by
 refine uT hg (by simp [Oper.about, hop]) (by rw [hop]; intro c h; cases h) ?_ K
 simp [execOp, hop, hm, run_range_map w t k e b es clock ht hb, Result.andThen]
theorem Ah (hg : o.guard = none) (it : Operand) (hop : o.op = Op.next it false) (hit : a.eval it = .pointer (some ⟨r, 0, none⟩)) (h : Rng w b r es clock ss cnt) (hn : (es.toList.map (·.born)).Nodup)
  (hDone : cnt = 0 → ss.Perm (es.toList.map (·.key)) → wpListIn F n Tryz.prog ops Q rest (a.put o.dst (.tuple #[.bool false])) w)
  (hMore : ∀ (e : MapEntry) (w' : World) (cnt' : Nat), e ∈ es.toList → Rng w' b r es clock (ss ++ [e.key]) cnt' → cnt' < cnt → w.grownBy w' (some r) → w'.heap.size = w.heap.size → (Instr.entry (.pointer (some ⟨r, 0, none⟩))).run Tryz.prog w' = .ok (.tuple #[e.key, e.val]) w' → wpListIn F n Tryz.prog ops Q rest (a.put o.dst (.tuple #[.bool true, e.key, e.val])) w') :
  wpListIn F n Tryz.prog ops Q (o :: rest) a w := by
 rcases h.next hn o.type with ⟨h0, hp, hrun⟩ | ⟨e, he, w', cnt', hrun, hrg, hlt, hgr, hsz, hen⟩
 ·
  refine uT hg (by simp [Oper.about, hop]) (by rw [hop]; intro c h; cases h) ?_ (hDone h0 hp)
  simp [execOp, hop, hit, hrun, Result.andThen]
 ·
  refine uT hg (by simp [Oper.about, hop]) (by rw [hop]; intro c h; cases h) ?_ (hMore e w' cnt' he hrg hlt hgr hsz hen)
  simp [execOp, hop, hit, hrun, Result.andThen]
theorem xG {g t : Nat} {l : List UInt8} {cs : List Value} (hg : o.guard = none) (T : TypeId) (x y : Operand) (hop : o.op = Op.store T x y) (hT : assoc tyL T = some (l.length, true)) (hx : a.eval x = .pointer (some ⟨g, 0, none⟩)) (hy : a.eval y = aV l) (hb : w.heap[g]? = some (.cells cs.toArray t (0, 0))) (hs : cs.length = l.length)
  (K : ∀ w', w'.heap[g]? = some (.cells (bvs l).toArray t (0, 0)) → w.grownBy w' (some g) → w'.heap.size = w.heap.size → wpListIn F n Tryz.prog ops Q rest (a.put o.dst undef) w') : wpListIn F n Tryz.prog ops Q (o :: rest) a w := by
 have hr : Reads (fun _ => True) w (.arr l.length l) (bvs l) := by rw [Reads]; exact ⟨rfl, rfl⟩
 obtain ⟨_, _, _, hT'⟩ := tyI hT
 have hrun := fP (T := T) (n := 0) (pre := []) (mid := cs) (post := []) (by rw [hT', Reads.len _ _ hr]; rfl) hr (by simpa using hb) rfl (by rw [aS, hs])
 have hset := dD (bvs l) [] cs [] w (by rw [aS, hs]) (by simpa using hb)
 simp only [OI, KE, Lh] at hset
 have hsz : (w.setCells g 0 (bvs l)).heap.size = w.heap.size := by
  have h : ∀ (vs : List Value) (k : Nat) (w : World), (w.setCells g k vs).heap.size = w.heap.size := fun vs => by
   induction vs with
   | nil => intro k w; rfl
   | cons v vs ih =>
    intro k w
    rw [World.setCells, ih]
    show (w.heap.modify _ _).size = _
    rw [Array.size_modify]
  exact h _ _ _
 refine wpListIn_plain hg fun K' hK => ⟨by simp [Oper.about, hop], ?_⟩
 rw [Oper.semAt_plain F _ _ (by rw [hop]; intro c h; cases h)]
 have hrun' : (Instr.storeAt T (.pointer (some ⟨g, 0, none⟩)) (aV l)).run Tryz.prog w = .ok () (w.setCells g 0 (bvs l)) := hrun
 simp only [execOp, hop, hx, hy, KW, hrun', KL, KX]
 exact hK _ _ (K _ hset (bD g (bvs l) 0 w) hsz)
theorem Ai {g t : Nat} {l : List UInt8} (hg : o.guard = none) (T : TypeId) (x : Operand) (hop : o.op = Op.load T x) (hT : assoc tyL T = some (l.length, true)) (hx : a.eval x = .pointer (some ⟨g, 0, none⟩)) (hb : w.heap[g]? = some (.cells (bvs l).toArray t (0, 0)))
  (K : wpListIn F n Tryz.prog ops Q rest (a.put o.dst (aV l)) w) : wpListIn F n Tryz.prog ops Q (o :: rest) a w := by
 have hr : Reads (fun _ => True) w (.arr l.length l) (bvs l) := by rw [Reads]; exact ⟨rfl, rfl⟩
 refine uT hg (by simp [Oper.about, hop]) (by rw [hop]; intro c h; cases h) ?_ K
 have hrun : (Instr.loadAt T (.pointer (some ⟨g, 0, none⟩))).run Tryz.prog w = .ok (aV l) w := fE (d := .arr l.length l) (tyI hT) hr (dG hb)
 simp only [execOp, hop, hx, KW, hrun, KL, KX]
end
end E
end Go.Proofs.YtkhjanjlcdhdcaaGreat
namespace Go.Proofs.YtkhjanjlcdhdcaaGreat
set_option linter.unusedVariables false
set_option maxHeartbeats 2000000
open Go.RowKit Mono Rlp
open Go.ChangeMaps (setBlock)
namespace E
set_option maxRecDepth 100000 in
theorem y7 (n l Bm b : Nat) (hn1 : 1 ≤ n) (es : Array MapEntry) (clock : Nat) (J Jx : List (Ky 20) → World → Prop)
  (hY : ∀ pre x W, J pre W → pre.length < es.size → YieldAt Fence.wide (n - 1) Tryz.prog l #[kv x] W fun e W' => (e = .returned (.bool true) ∧ J (pre ++ [x]) W' ∧ KeepsWalks W W') ∨ (e = .returned (.bool false) ∧ Jx (pre ++ [x]) W'))
  (W : World) (hJ : AbidesFrom W.heap.size J) (hm : W.cell? ⟨Bm, 0, none⟩ = some (.map (some b))) (hb : W.heap[b]? = some (.map es clock)) (hn : (es.toList.map (·.born)).Nodup) (hl : ∀ x ∈ es.toList, x.born < clock) (hkey : ∀ x ∈ es.toList, ∃ k : Ky 20, x.key = kv k) (h0 : J [] W) :
  CallsIn Fence.wide n Tryz.prog 62 #[.func (.yield l) #[] #[], .pointer (some ⟨Bm, 0, none⟩)] W fun e W' => (∃ v, e = .returned v) ∧ ((∃ ss : List (Ky 20), (ss.map kv).Perm (es.toList.map (·.key)) ∧ J ss W') ∨ (∃ pre : List (Ky 20), True ∧ Jx pre W')) := by
 refine callsIn_of_wp Tryz.func62 rfl trivial ?_ rfl
 simp only [Tryz.ntmps62, Om, LX, OI, Nat.reduceAdd, Nat.reduceSub, Oy, Oz, List.push_toArray, OE, KE, KD]
 have hrg0 := Rng.start hb hl
 have hJ0 := hJ [] W _ none h0 (World.grownBy_alloc W (.mapIter (some b) clock #[] clock) none) (fun r e => by cases e)
 have hlt0 : W.heap.size < (W.alloc (.mapIter (some b) clock #[] clock)).heap.size := by simp
 gi_wp2_with (first
  | (gi_at_range; refine xH rfl _ 52 32 57 rfl Tryz.underlying52 rfl hb ?_)
  | gi_in)
 go_frame
 generalize W.alloc (.mapIter (some b) clock #[] clock) = w0 at hrg0 hJ0 hlt0 ⊢
 gi_loopw [3] (fun _ wr => ∃ (cnt : Nat) (ss : List (Ky 20)), Rng wr b W.heap.size es clock (ss.map kv) cnt ∧ J ss wr)
  (fun _ wr => wr.rangeLeft b W.heap.size)
 case atStart =>
  exact ⟨_, [], hrg0, hJ0⟩
 case round =>
  obtain ⟨cnt, ss, hrg, hJs⟩ := hrel
  gi_wp2_with (first
   | (gi_at_next; refine Ah rfl _ rfl rfl hrg hn ?_ ?_)
   | gi_in)
  ·
   intro hc0 hp
   gi_wp2
   go_end0
   exact ⟨⟨_, rfl⟩, .inl ⟨ss, hp, hJs⟩⟩
  ·
   intro e w2 cnt2 he hrg2 hlt hg2 hs2 hen
   obtain ⟨x, hx⟩ := hkey e (by simpa using he)
   have hlen : ss.length < es.size := by have := hrg.le; simp at this; omega
   have hJ2 : J ss w2 := hJ ss wr w2 (some W.heap.size) hJs hg2 (fun r e => by cases e; exact ⟨Lj _, hrg.iter⟩)
   rw [hx] at hen hrg2 ⊢
   clear hs2
   have hlt2 := hrg2.lt
   gi_wp2_with (first
    | (
      guard_target = wpListIn _ _ _ _ _ (Oper.mk _ (Op.store _ _ _) _ _ _ _ :: _) _ _; refine xG (l := x.1) (cs := List.replicate 20 (.int .u8 0)) rfl _ _ _ rfl (by rw [x.2]; rfl) rfl rfl (World.alloc_heap_new w2 _) (by rw [x.2]; rfl) ?_
      intro w4 hb4 hg4 hs4
      have hg24 : w2.grownBy w4 none := ⟨hg4.os.trans rfl, hg4.tape.trans rfl, hg4.output.trans rfl, by rw [hs4]; simp, fun i hi _ => (hg4.block i (by simp; omega) (fun e => by cases e; omega)).trans ((MS w2 _).2 i hi)⟩
      have hJ4 : J ss w4 := hJ ss w2 w4 none hJ2 hg24 (fun r e => by cases e)
      have hrg4 := hrg2.kept (hg24.block b hlt2.1 (by simp)) (hg24.block W.heap.size hlt2.2 (by simp))
      obtain ⟨fn, tmps, assign, body, hy, hR⟩ := hY ss x w4 hJ4 hlen
      rw [show kv x = aV x.1 from rfl] at hy
      have hb4' := Lib.hid hb4
      clear hb4 hs4 hg4 hg24)
    | (guard_target = wpListIn _ _ _ _ _ (Oper.mk _ (Op.load _ _) _ _ _ _ :: _) _ _; refine Ai (l := x.1) rfl _ _ rfl (by rw [x.2]; rfl) rfl hb4'.out ?_)
    | gi_in)
   refine hR.mono ?_
   rintro e W3 (⟨rfl, hJ3, hk3⟩ | ⟨rfl, hJx3⟩)
   ·
    gi_wp2
    have hrg3 := hrg4.walks hk3
    go_roundw
    case rel => exact ⟨cnt2, ss ++ [x], by simpa using hrg3, hJ3⟩
    case measure => rw [hrg3.left_eq, hrg.left_eq]; exact hlt
   ·
    gi_wp2
    refine bodyPost_ret (results_none rfl _ _ _) rfl ?_
    exact ⟨⟨_, rfl⟩, .inr ⟨ss ++ [x], trivial, hJx3⟩⟩
set_option maxRecDepth 100000 in
theorem y5 (n l Bm b : Nat) (hn1 : 1 ≤ n) (es : Array MapEntry) (clock : Nat) (J Jx : List (Ky 32) → World → Prop)
  (hY : ∀ pre x W, J pre W → pre.length < es.size → YieldAt Fence.wide (n - 1) Tryz.prog l #[kv x] W fun e W' => (e = .returned (.bool true) ∧ J (pre ++ [x]) W' ∧ KeepsWalks W W') ∨ (e = .returned (.bool false) ∧ Jx (pre ++ [x]) W'))
  (W : World) (hJ : AbidesFrom W.heap.size J) (hm : W.cell? ⟨Bm, 0, none⟩ = some (.map (some b))) (hb : W.heap[b]? = some (.map es clock)) (hn : (es.toList.map (·.born)).Nodup) (hl : ∀ x ∈ es.toList, x.born < clock) (hkey : ∀ x ∈ es.toList, ∃ k : Ky 32, x.key = kv k) (h0 : J [] W) :
  CallsIn Fence.wide n Tryz.prog 66 #[.func (.yield l) #[] #[], .pointer (some ⟨Bm, 0, none⟩)] W fun e W' => (∃ v, e = .returned v) ∧ ((∃ ss : List (Ky 32), (ss.map kv).Perm (es.toList.map (·.key)) ∧ J ss W') ∨ (∃ pre : List (Ky 32), True ∧ Jx pre W')) := by
 refine callsIn_of_wp Tryz.func66 rfl trivial ?_ rfl
 simp only [Tryz.ntmps66, Om, LX, OI, Nat.reduceAdd, Nat.reduceSub, Oy, Oz, List.push_toArray, OE, KE, KD]
 have hrg0 := Rng.start hb hl
 have hJ0 := hJ [] W _ none h0 (World.grownBy_alloc W (.mapIter (some b) clock #[] clock) none) (fun r e => by cases e)
 have hlt0 : W.heap.size < (W.alloc (.mapIter (some b) clock #[] clock)).heap.size := by simp
 gi_wp2_with (first
  | (gi_at_range; refine xH rfl _ 59 34 34 rfl Tryz.underlying59 rfl hb ?_)
  | gi_in)
 go_frame
 generalize W.alloc (.mapIter (some b) clock #[] clock) = w0 at hrg0 hJ0 hlt0 ⊢
 gi_loopw [3] (fun _ wr => ∃ (cnt : Nat) (ss : List (Ky 32)), Rng wr b W.heap.size es clock (ss.map kv) cnt ∧ J ss wr)
  (fun _ wr => wr.rangeLeft b W.heap.size)
 case atStart =>
  exact ⟨_, [], hrg0, hJ0⟩
 case round =>
  obtain ⟨cnt, ss, hrg, hJs⟩ := hrel
  gi_wp2_with (first
   | (gi_at_next; refine Ah rfl _ rfl rfl hrg hn ?_ ?_)
   | gi_in)
  ·
   intro hc0 hp
   gi_wp2
   go_end0
   exact ⟨⟨_, rfl⟩, .inl ⟨ss, hp, hJs⟩⟩
  ·
   intro e w2 cnt2 he hrg2 hlt hg2 hs2 hen
   obtain ⟨x, hx⟩ := hkey e (by simpa using he)
   have hlen : ss.length < es.size := by have := hrg.le; simp at this; omega
   have hJ2 : J ss w2 := hJ ss wr w2 (some W.heap.size) hJs hg2 (fun r e => by cases e; exact ⟨Lj _, hrg.iter⟩)
   rw [hx] at hen hrg2 ⊢
   clear hs2
   have hlt2 := hrg2.lt
   gi_wp2_with (first
    | (
      guard_target = wpListIn _ _ _ _ _ (Oper.mk _ (Op.store _ _ _) _ _ _ _ :: _) _ _; refine xG (l := x.1) (cs := List.replicate 32 (.int .u8 0)) rfl _ _ _ rfl (by rw [x.2]; rfl) rfl rfl (World.alloc_heap_new w2 _) (by rw [x.2]; rfl) ?_
      intro w4 hb4 hg4 hs4
      have hg24 : w2.grownBy w4 none := ⟨hg4.os.trans rfl, hg4.tape.trans rfl, hg4.output.trans rfl, by rw [hs4]; simp, fun i hi _ => (hg4.block i (by simp; omega) (fun e => by cases e; omega)).trans ((MS w2 _).2 i hi)⟩
      have hJ4 : J ss w4 := hJ ss w2 w4 none hJ2 hg24 (fun r e => by cases e)
      have hrg4 := hrg2.kept (hg24.block b hlt2.1 (by simp)) (hg24.block W.heap.size hlt2.2 (by simp))
      obtain ⟨fn, tmps, assign, body, hy, hR⟩ := hY ss x w4 hJ4 hlen
      rw [show kv x = aV x.1 from rfl] at hy
      have hb4' := Lib.hid hb4
      clear hb4 hs4 hg4 hg24)
    | (guard_target = wpListIn _ _ _ _ _ (Oper.mk _ (Op.load _ _) _ _ _ _ :: _) _ _; refine Ai (l := x.1) rfl _ _ rfl (by rw [x.2]; rfl) rfl hb4'.out ?_)
    | gi_in)
   refine hR.mono ?_
   rintro e W3 (⟨rfl, hJ3, hk3⟩ | ⟨rfl, hJx3⟩)
   ·
    gi_wp2
    have hrg3 := hrg4.walks hk3
    go_roundw
    case rel => exact ⟨cnt2, ss ++ [x], by simpa using hrg3, hJ3⟩
    case measure => rw [hrg3.left_eq, hrg.left_eq]; exact hlt
   ·
    gi_wp2
    refine bodyPost_ret (results_none rfl _ _ _) rfl ?_
    exact ⟨⟨_, rfl⟩, .inr ⟨ss ++ [x], trivial, hJx3⟩⟩
end E
end Go.Proofs.YtkhjanjlcdhdcaaGreat
