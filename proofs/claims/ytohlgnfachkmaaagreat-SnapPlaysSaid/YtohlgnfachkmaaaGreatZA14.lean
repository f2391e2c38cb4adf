/-
 Merged: lemmas of this claim.
 Conditions: none.
-/
import Derived.Test.YtohlgnfachkmaaaGreatZA11
import Derived.Test.YtohlgnfachkmaaaGreatZA13
import Derived.Test.YtohlgnfachkmaaaGreatZA12
import Derived.RangeFuncNested
import Derived.RangeFuncLeaves
import Derived.RangeFuncBound
import Derived.Maps.RangeRun
import Derived.Maps.AppendAt
import Derived.Sort.MapsRangeIn
import Derived.Shelf.Abstract
import Derived.OwnWalkIn
import Derived.TacticsInMore
import Derived.RegionIn
import Derived.LoopNIn
import Derived.LoopIn
import Derived.WalkKit
import Derived.Test.YtohlgnfachkmaaaGreatZA0
namespace Go.Proofs.YtohlgnfachkmaaaGreat
set_option linter.unusedVariables false
set_option maxRecDepth 20000
set_option maxHeartbeats 4000000
open Go.RowKit Mono Rlp Wd
namespace E
abbrev JF (a c : List UInt8) : D := .ifc 180 (.tup [.arr 20 a, .bs c])
abbrev FH (a q v : List UInt8) : D := .ifc 182 (.tup [.arr 20 a, .arr 32 q, .arr 32 v])
abbrev FM (a : List UInt8) (p : Value) : D := .ifc 185 (.tup [.arr 20 a, .v p])
section
variable {g m c ga gs sc T : Nat} {u k : Value} {n : Int} {es ss : List Ent} {a w cd q v : List UInt8} {us ks : List D} {b : Int} {d : D}
theorem yY (h : aC es a = some (.v (ptr ga))) (hu : us.length < 1099511627776) : FnM 62 [.v (ptr g), .arr 20 a, .ifc T d] [stO g m u k n, smO m c es, acO ga b w cd (.map (some gs)), .map gs 32 sc ss, unO u us, mkO k ks] (fun r os' => ∃ u', r = .val (.v (ptr ga)) ∧ os' = [stO g m u' k n, smO m c es, unO u' (dG ks us (.ifc T d)), mkO k ks, acO ga b w cd (.map (some gs)), .map gs 32 sc ss]) := by
 have h1 := ((nR (g := g) (m := m) (c := c) (u := u) (k := k) (n := n) (ks := ks) (T := T) (d := d) h hu).frame [acO ga b w cd (.map (some gs)), .map gs 32 sc ss]).pick [0, 1, 4, 5, 2, 3] rfl (by decide)
 refine FnM.mono h1 ?_
 rintro r _ ⟨_, ⟨u', rfl, rfl⟩, rfl⟩
 exact ⟨u', rfl, rfl⟩
theorem IK {ss' : List Ent} {sc' : Nat} {o1 o2 o3 o4 : Obj} (h : FnM 56 [.v (ptr ga), .arr 32 q, .arr 32 v] [acO ga b w cd (.map (some gs)), .map gs 32 sc ss] (fun r os' => r = .tpl [] ∧ os' = [acO ga b w cd (.map (some gs)), .map gs 32 sc' ss'])) : FnM 56 [.v (ptr ga), .arr 32 q, .arr 32 v] [o1, o2, o3, o4, acO ga b w cd (.map (some gs)), .map gs 32 sc ss] (fun r os' => r = .tpl [] ∧ os' = [o1, o2, o3, o4, acO ga b w cd (.map (some gs)), .map gs 32 sc' ss']) := by
 refine FnM.out ((h.frame [o1, o2, o3, o4]).pick [2, 3, 4, 5, 0, 1] rfl (by decide)) ?_
 rintro r _ ⟨_, ⟨rfl, rfl⟩, rfl⟩
 exact ⟨_, gY (os := [acO ga b w cd (.map (some gs)), .map gs 32 sc' ss', o1, o2, o3, o4]) [2, 3, 4, 5, 0, 1] rfl (by decide), rfl, rfl⟩
theorem FV {ss' : List Ent} {sc' : Nat} {o1 o2 o3 o4 : Obj} (h : FnM 56 [.v (ptr ga), .arr 32 q, .arr 32 v] [acO ga b w cd (.map (some gs)), .map gs 32 sc ss] (fun r os' => r = .tpl [] ∧ os' = [acO ga b w cd (.map (some gs)), .map gs 32 sc' ss'])) : FnM 56 [.v (ptr ga), .arr 32 q, .arr 32 v] [acO ga b w cd (.map (some gs)), .map gs 32 sc ss, o1, o2, o3, o4] (fun r os' => r = .tpl [] ∧ os' = [acO ga b w cd (.map (some gs)), .map gs 32 sc' ss', o1, o2, o3, o4]) := by
 refine FnM.mono (h.frame [o1, o2, o3, o4]) ?_
 rintro r _ ⟨_, ⟨rfl, rfl⟩, rfl⟩
 exact ⟨rfl, rfl⟩
theorem pW {x : List UInt8} {ss' : List Ent} {sc' : Nat} (h : aC es a = some (.v (ptr ga))) (hv : slE ss q = .arr 32 x) (hu : us.length < 1099511627776) (hs : FnM 56 [.v (ptr ga), .arr 32 q, .arr 32 v] [acO ga b w cd (.map (some gs)), .map gs 32 sc ss] (fun r os' => r = .tpl [] ∧ os' = [acO ga b w cd (.map (some gs)), .map gs 32 sc' ss'])) : FnM 65 [.v (ptr g), .arr 20 a, .arr 32 q, .arr 32 v] [stO g m u k n, smO m c es, unO u us, mkO k ks, acO ga b w cd (.map (some gs)), .map gs 32 sc ss] (fun r os' => r = .tpl [] ∧ ∃ u', os' = [stO g m u' k n, smO m c es, unO u' (dG ks us (FH a q x)), mkO k ks, acO ga b w cd (.map (some gs)), .map gs 32 sc' ss']) := by
 have h1 := FU (g := g) (m := m) (c := c) (u := u) (k := k) (n := n) (b := b) (w := w) (cd := cd) (gs := gs) (sc := sc) h hv
 have h2 := yY (g := g) (m := m) (c := c) (u := u) (k := k) (n := n) (ks := ks) (T := 182) (d := .tup [.arr 20 a, .arr 32 q, .arr 32 x]) (b := b) (w := w) (cd := cd) (gs := gs) (sc := sc) (ss := ss) h hu
 refine FnM.walk 22 Tryz.func65 rfl Tryz.ntmps65 (by simp) fun X => ?_
 repeat (refine stp ?_; intros)
 refine EC.le (Le.pick [3, 4, 7, 8, 5, 6, 0, 1, 2] [_, _, _, _, _, _, _, _, _] rfl (by decide) rfl) ?_
 refine EC.aZ 14 [0, 1, 2, 3, 4, 5, 6, 11, 12] [7, 8, 9, 10, 13] [_, _, _, _, _, _] _ (by kernel_rfl) (by kernel_rfl) rfl ?_
 simp only [au, KW, KY, KT, KU]
 repeat (refine sth ?_; intros)
 refine EM.nil ?_
 repeat (first | rw [KN] | rw [KO])
 refine CH.bC (rest := [_, _]) h1 (k := ?_)
 rintro _ _ ⟨rfl, rfl⟩
 try simp only [St.put]
 repeat (first | rw [KN] | rw [KO])
 refine CH.cut 2 ?_
 simp only [KQ, KX, KP, KR]
 repeat (refine sth ?_; intros)
 refine EM.nil ?_
 repeat (first | rw [KN] | rw [KO])
 refine CH.bC (rest := []) h2 (k := ?_)
 rintro _ _ ⟨u', rfl, rfl⟩
 try simp only [St.put]
 repeat (first | rw [KN] | rw [KO])
 refine CH.bC (rest := []) (IK hs) (k := ?_)
 rintro _ _ ⟨rfl, rfl⟩
 try simp only [St.put]
 repeat (first | rw [KN] | rw [KO])
 refine CH.nil ?_
 try simp only [KP, KR]
 repeat
  (first
   | apply EL.nil)
 exact EK.cO [stO g m u' k n, smO m c es, unO u' (dG ks us (FH a q x)), mkO k ks, acO ga b w cd (.map (some gs)), .map gs 32 sc' ss'] rfl (by (repeat first | exact KZ _ | apply List.Sublist.cons_cons | apply List.Sublist.cons)) ⟨rfl, u', rfl⟩
theorem oh {ss' : Nat → List Ent} {sc' : Nat} (h : aC es a = none) (hu : us.length < 1099511627776) (hs : ∀ ga gs, FnM 56 [.v (ptr ga), .arr 32 q, .arr 32 v] [acO ga 0 zero32 [] (.map (some gs)), .map gs 32 0 []] (fun r os' => r = .tpl [] ∧ os' = [acO ga 0 zero32 [] (.map (some gs)), .map gs 32 sc' (ss' 0)])) : FnM 65 [.v (ptr g), .arr 20 a, .arr 32 q, .arr 32 v] [stO g m u k n, smO m c es, unO u us, mkO k ks] (fun r os' => r = .tpl [] ∧ ∃ u' ga gs, os' = [stO g m u' k n, smO m (aU c es a) (aX c es a (.v (ptr ga))), unO u' (dG ks us (FH a q zero32)), mkO k ks, acO ga 0 zero32 [] (.map (some gs)), .map gs 32 sc' (ss' 0)]) := by
 have h1 := CQ (g := g) (m := m) (c := c) (u := u) (k := k) (n := n) (q := q) h
 have h2 := iG (g := g) (m := m) (c := c) (u := u) (k := k) (n := n) (ks := ks) (T := 182) (d := .tup [.arr 20 a, .arr 32 q, .arr 32 zero32]) h hu
 refine FnM.walk 22 Tryz.func65 rfl Tryz.ntmps65 (by simp) fun X => ?_
 repeat (refine stp ?_; intros)
 refine EC.le (Le.pick [3, 4, 5, 6, 0, 1, 2] [_, _, _, _, _, _, _] rfl (by decide) rfl) ?_
 refine EC.aZ 14 [0, 1, 2, 3, 4, 5, 6, 11, 12] [7, 8, 9, 10, 13] [_, _, _, _] _ (by kernel_rfl) (by kernel_rfl) rfl ?_
 simp only [au, KW, KY, KT, KU]
 repeat (refine sth ?_; intros)
 refine EM.nil ?_
 repeat (first | rw [KN] | rw [KO])
 refine CH.bC (rest := [_, _]) h1 (k := ?_)
 rintro _ _ ⟨rfl, rfl⟩
 try simp only [St.put]
 repeat (first | rw [KN] | rw [KO])
 refine CH.cut 2 ?_
 simp only [KQ, KX, KP, KR]
 repeat (refine sth ?_; intros)
 refine EM.nil ?_
 repeat (first | rw [KN] | rw [KO])
 refine CH.bC (rest := []) h2 (k := ?_)
 rintro _ _ ⟨u', ga, gs, rfl, rfl⟩
 try simp only [St.put]
 repeat (first | rw [KN] | rw [KO])
 refine CH.bC (rest := []) (FV (hs ga gs)) (k := ?_)
 rintro _ _ ⟨rfl, rfl⟩
 try simp only [St.put]
 repeat (first | rw [KN] | rw [KO])
 refine CH.nil ?_
 try simp only [KP, KR]
 repeat
  (first
   | apply EL.nil)
 refine EK.le (Le.pick [2, 3, 4, 5, 0, 1, 6, 7, 8] [_, _, _, _, _, _, _, _, _] rfl (by decide) rfl) ?_
 exact EK.cO [stO g m u' k n, smO m (aU c es a) (aX c es a (.v (ptr ga))), unO u' (dG ks us (FH a q zero32)), mkO k ks, acO ga 0 zero32 [] (.map (some gs)), .map gs 32 sc' (ss' 0)] rfl (by (repeat first | exact KZ _ | apply List.Sublist.cons_cons | apply List.Sublist.cons)) ⟨rfl, u', ga, gs, rfl⟩
theorem yB {e : List UInt8} {sv : Value} (h : aC es a = some (.v (ptr ga))) (hu : us.length < 1099511627776) (hl : e.length ≤ 140737488355328) : FnM 64 [.v (ptr g), .arr 20 a, .bs e] [stO g m u k n, smO m c es, unO u us, mkO k ks, acO ga b w cd sv] (fun r os' => r = .tpl [] ∧ ∃ u', os' = [stO g m u' k n, smO m c es, unO u' (dG ks us (JF a cd)), mkO k ks, acO ga b w e sv]) := by
 have h1 := zF (g := g) (m := m) (c := c) (u := u) (k := k) (n := n) h
 have h2 := lW (g := g) (m := m) (c := c) (u := u) (k := k) (n := n) (ks := ks) (T := 180) (d := .tup [.arr 20 a, .bs cd]) (b := b) (w := w) (cd := cd) (sv := sv) h hu
 have h3 := Fn.toM (mJ e hl)
 refine FnM.walk 22 Tryz.func64 rfl Tryz.ntmps64 (by simp) fun X => ?_
 repeat (refine stp ?_; intros)
 refine EC.le (Le.pick [1, 2, 5, 3, 4, 0] [_, _, _, _, _, _] rfl (by decide) rfl) ?_
 refine EC.aZ 14 [0, 1, 2, 3, 4, 12] [5, 6, 7, 8, 9, 10, 11, 13] [_, _, _, _, _] _ (by kernel_rfl) (by kernel_rfl) rfl ?_
 simp only [au, KW, KY, KT, KU]
 repeat (refine sth ?_; intros)
 refine EM.nil ?_
 repeat (first | rw [KN] | rw [KO])
 refine CH.bC (rest := [_, _, _]) h1 (k := ?_)
 rintro _ _ ⟨rfl, rfl⟩
 try simp only [St.put]
 repeat (first | rw [KN] | rw [KO])
 refine CH.cut 5 ?_
 simp only [KQ, KX, KP, KR]
 repeat (refine sth ?_; intros)
 refine EM.nil ?_
 repeat (first | rw [KN] | rw [KO])
 refine CH.bC (rest := []) h2 (k := ?_)
 rintro _ _ ⟨u', rfl, rfl⟩
 try simp only [St.put]
 repeat (first | rw [KN] | rw [KO])
 refine CH.bC (rest := [_, _, _, _, _]) h3 (k := ?_)
 rintro _ _ ⟨rfl, rfl⟩
 try simp only [St.put]
 repeat (first | rw [KN] | rw [KO])
 refine CH.nil ?_
 try simp only [KP, KR]
 repeat (refine stp ?_; intros)
 exact EK.cO [stO g m u' k n, smO m c es, unO u' (dG ks us (JF a cd)), mkO k ks, acO ga b w e sv] rfl (by (repeat first | exact KZ _ | apply List.Sublist.cons_cons | apply List.Sublist.cons)) ⟨rfl, u', rfl⟩
theorem vU {e : List UInt8} (h : aC es a = none) (hu : us.length < 1099511627776) (hl : e.length ≤ 140737488355328) : FnM 64 [.v (ptr g), .arr 20 a, .bs e] [stO g m u k n, smO m c es, unO u us, mkO k ks] (fun r os' => r = .tpl [] ∧ ∃ u' ga gs, os' = [stO g m u' k n, smO m (aU c es a) (aX c es a (.v (ptr ga))), unO u' (dG ks us (.ifc 180 (.tup [.arr 20 a, .v dn]))), mkO k ks, acO ga 0 zero32 e (.map (some gs)), .map gs 32 0 []]) := by
 have h1 := uH (g := g) (m := m) (c := c) (u := u) (k := k) (n := n) h
 have h2 := iG (g := g) (m := m) (c := c) (u := u) (k := k) (n := n) (ks := ks) (T := 180) (d := .tup [.arr 20 a, .v dn]) h hu
 have h3 := Fn.toM (mJ e hl)
 refine FnM.walk 22 Tryz.func64 rfl Tryz.ntmps64 (by simp) fun X => ?_
 repeat (refine stp ?_; intros)
 refine EC.le (Le.pick [1, 2, 3, 4, 0] [_, _, _, _, _] rfl (by decide) rfl) ?_
 refine EC.aZ 14 [0, 1, 2, 3, 4, 12] [5, 6, 7, 8, 9, 10, 11, 13] [_, _, _, _] _ (by kernel_rfl) (by kernel_rfl) rfl ?_
 simp only [au, KW, KY, KT, KU]
 repeat (refine sth ?_; intros)
 refine EM.nil ?_
 repeat (first | rw [KN] | rw [KO])
 refine CH.bC (rest := [_, _]) h1 (k := ?_)
 rintro _ _ ⟨gz, rfl, rfl⟩
 try simp only [St.put]
 repeat (first | rw [KN] | rw [KO])
 refine CH.cut 5 ?_
 simp only [KQ, KX, KP, KR]
 repeat (refine sth ?_; intros)
 refine EM.nil ?_
 repeat (first | rw [KN] | rw [KO])
 refine CH.bC (rest := []) ((h2.frame [zaO gz]).pick [4, 0, 1, 2, 3] rfl (by decide)) (k := ?_)
 rintro _ _ ⟨_, ⟨u', ga, gs, rfl, rfl⟩, rfl⟩
 try simp only [St.put]
 repeat (first | rw [KN] | rw [KO])
 refine CH.bC (rest := [_, _, _, _, _, _, _]) h3 (k := ?_)
 rintro _ _ ⟨rfl, rfl⟩
 try simp only [St.put]
 repeat (first | rw [KN] | rw [KO])
 refine CH.nil ?_
 try simp only [KP, KR]
 repeat (refine stp ?_; intros)
 refine EK.le (Le.pick [2, 3, 4, 5, 0, 1, 6, 7] [_, _, _, _, _, _, _, _] rfl (by decide) rfl) ?_
 exact EK.cO [stO g m u' k n, smO m (aU c es a) (aX c es a (.v (ptr ga))), unO u' (dG ks us (.ifc 180 (.tup [.arr 20 a, .v dn]))), mkO k ks, acO ga 0 zero32 e (.map (some gs)), .map gs 32 0 []] rfl (by (repeat first | exact KZ _ | apply List.Sublist.cons_cons | apply List.Sublist.cons)) ⟨rfl, u', ga, gs, rfl⟩
theorem Gv (h : aC es a = some (.v (ptr ga))) (hu : us.length < 1099511627776) : FnM 68 [.v (ptr g), .arr 20 a] [stO g m u k n, smO m c es, unO u us, mkO k ks] (fun r os' => r = .tpl [] ∧ ∃ u' ga' gs', os' = [stO g m u' k n, smO m (aU c es a) (aX c es a (.v (ptr ga'))), unO u' (dG ks us (FM a (ptr ga))), mkO k ks, acO ga' 0 zero32 [] (.map (some gs')), .map gs' 32 0 []]) := by
 have hg : (aC es a).getD (.v (.pointer none)) = .v (ptr ga) := by rw [h]; rfl
 have h2 := nR (g := g) (m := m) (c := c) (u := u) (k := k) (n := n) (ks := ks) (T := 185) (d := .tup [.arr 20 a, .v (ptr ga)]) h hu
 refine FnM.walk 24 Tryz.func68 rfl Tryz.ntmps68 (by simp) fun X => ?_
 repeat (refine stp ?_; intros)
 refine EC.le (Le.pick [1, 2, 3, 4, 0] [_, _, _, _, _] rfl (by decide) rfl) ?_
 refine EC.aZ 12 [0, 1, 2, 3, 4, 5, 7] [6, 8, 9, 10, 11] [_, _, _, _] _ (by kernel_rfl) (by kernel_rfl) rfl ?_
 simp only [au, KW, KY, KT, KU]
 repeat (refine sth ?_; intros)
 refine EM.nil ?_
 repeat (first | rw [KN] | rw [KO])
 refine CH.cut 4 ?_
 simp only [KQ, KX, KP, KR]
 repeat
  (first
   | (apply cu; exact hg; rfl; (first | exact I0 | exact I1 | exact I2 | exact I3); iterate 5 rfl) | (refine sth ?_; intros))
 refine EM.nil ?_
 repeat (first | rw [KN] | rw [KO])
 refine CH.bC (rest := []) h2 (k := ?_)
 rintro _ _ ⟨u', rfl, rfl⟩
 try simp only [St.put]
 repeat (first | rw [KN] | rw [KO])
 refine CH.nil ?_
 try simp only [KP, KR]
 repeat (refine stp ?_; intros)
 refine EC.aZ 8 [0, 1, 2, 3, 4] [5, 6, 7] [] _ (by kernel_rfl) (by kernel_rfl) rfl ?_
 simp only [au, KW, KY, KT, KU]
 repeat (refine sth ?_; intros)
 refine EM.nil ?_
 repeat (first | rw [KN] | rw [KO])
 refine CH.mut (os := []) (rest := []) rfl rfl (dW rfl rfl) ?_
 rintro _ _ ⟨gs', rfl, rfl⟩
 try simp only [St.put]
 repeat (first | rw [KN] | rw [KO])
 refine CH.cut 1 ?_
 simp only [KQ, KX, KP, KR]
 repeat (refine sth ?_; intros)
 refine EM.nil ?_
 repeat (first | rw [KN] | rw [KO])
 refine CH.mut (os := []) (rest := [_]) rfl rfl (lG rfl rfl) ?_
 rintro _ _ ⟨ga', rfl, rfl⟩
 try simp only [St.put]
 repeat (first | rw [KN] | rw [KO])
 refine CH.nil ?_
 try simp only [KP, KR]
 repeat (refine stp ?_; intros)
 refine EK.le (Le.yh (d' := .tup [.v (.int .i64 0), .arr 32 zero32, .bs [], .v (.map (some gs'))]) ?_) ?_
 · exact Rf.tup (RL.cons Rf.same (RL.cons Rf.same (RL.cons Rf.bs0 (RL.cons Rf.same RL.nil))))
 refine EK.le (Le.pick [2, 3, 4, 5, 0, 1, 6] [_, _, _, _, _, _, _] rfl (by decide) rfl) ?_
 exact EK.cO [stO g m u' k n, smO m (aU c es a) (aX c es a (.v (ptr ga'))), unO u' (dG ks us (FM a (ptr ga))), mkO k ks, acO ga' 0 zero32 [] (.map (some gs')), .map gs' 32 0 []] rfl (by (repeat first | exact KZ _ | apply List.Sublist.cons_cons | apply List.Sublist.cons)) ⟨rfl, u', ga', gs', rfl⟩
theorem DI (h : aC es a = none) (hu : us.length < 1099511627776) : FnM 68 [.v (ptr g), .arr 20 a] [stO g m u k n, smO m c es, unO u us, mkO k ks] (fun r os' => r = .tpl [] ∧ ∃ u' ga ga' gs', os' = [stO g m u' k n, smO m (aU (aU c es a) (aX c es a (.v (ptr ga))) a) (aX (aU c es a) (aX c es a (.v (ptr ga))) a (.v (ptr ga'))), unO u' (dG ks us (FM a (.pointer none))), mkO k ks, acO ga' 0 zero32 [] (.map (some gs')), .map gs' 32 0 []]) := by
 have hg : (aC es a).getD (.v (.pointer none)) = .v (.pointer none) := by rw [h]; rfl
 have h2 := iG (g := g) (m := m) (c := c) (u := u) (k := k) (n := n) (ks := ks) (T := 185) (d := .tup [.arr 20 a, .v (.pointer none)]) h hu
 refine FnM.walk 24 Tryz.func68 rfl Tryz.ntmps68 (by simp) fun X => ?_
 repeat (refine stp ?_; intros)
 refine EC.le (Le.pick [1, 2, 3, 4, 0] [_, _, _, _, _] rfl (by decide) rfl) ?_
 refine EC.aZ 12 [0, 1, 2, 3, 4, 5, 7] [6, 8, 9, 10, 11] [_, _, _, _] _ (by kernel_rfl) (by kernel_rfl) rfl ?_
 simp only [au, KW, KY, KT, KU]
 repeat (refine sth ?_; intros)
 refine EM.nil ?_
 repeat (first | rw [KN] | rw [KO])
 refine CH.cut 4 ?_
 simp only [KQ, KX, KP, KR]
 repeat
  (first
   | (apply cu; exact hg; rfl; (first | exact I0 | exact I1 | exact I2 | exact I3); iterate 5 rfl) | (refine sth ?_; intros))
 refine EM.nil ?_
 repeat (first | rw [KN] | rw [KO])
 refine CH.bC (rest := []) h2 (k := ?_)
 rintro _ _ ⟨u', ga, gs, rfl, rfl⟩
 try simp only [St.put]
 repeat (first | rw [KN] | rw [KO])
 refine CH.nil ?_
 try simp only [KP, KR]
 repeat (refine stp ?_; intros)
 refine EC.le (Le.pick [2, 3, 4, 5, 6, 0, 1] [_, _, _, _, _, _, _] rfl (by decide) rfl) ?_
 refine EC.aZ 8 [0, 1, 2, 3, 4] [5, 6, 7] [] _ (by kernel_rfl) (by kernel_rfl) rfl ?_
 simp only [au, KW, KY, KT, KU]
 repeat (refine sth ?_; intros)
 refine EM.nil ?_
 repeat (first | rw [KN] | rw [KO])
 refine CH.mut (os := []) (rest := []) rfl rfl (dW rfl rfl) ?_
 rintro _ _ ⟨gs', rfl, rfl⟩
 try simp only [St.put]
 repeat (first | rw [KN] | rw [KO])
 refine CH.cut 1 ?_
 simp only [KQ, KX, KP, KR]
 repeat (refine sth ?_; intros)
 refine EM.nil ?_
 repeat (first | rw [KN] | rw [KO])
 refine CH.mut (os := []) (rest := [_]) rfl rfl (lG rfl rfl) ?_
 rintro _ _ ⟨ga', rfl, rfl⟩
 try simp only [St.put]
 repeat (first | rw [KN] | rw [KO])
 refine CH.nil ?_
 try simp only [KP, KR]
 repeat (refine stp ?_; intros)
 refine EK.le (Le.yh (d' := .tup [.v (.int .i64 0), .arr 32 zero32, .bs [], .v (.map (some gs'))]) ?_) ?_
 · exact Rf.tup (RL.cons Rf.same (RL.cons Rf.same (RL.cons Rf.bs0 (RL.cons Rf.same RL.nil))))
 refine EK.le (Le.pick [2, 3, 4, 5, 0, 1, 6, 7, 8] [_, _, _, _, _, _, _, _, _] rfl (by decide) rfl) ?_
 exact EK.cO [stO g m u' k n, smO m (aU (aU c es a) (aX c es a (.v (ptr ga))) a) (aX (aU c es a) (aX c es a (.v (ptr ga))) a (.v (ptr ga'))), unO u' (dG ks us (FM a (.pointer none))), mkO k ks, acO ga' 0 zero32 [] (.map (some gs')), .map gs' 32 0 []] rfl (by (repeat first | exact KZ _ | apply List.Sublist.cons_cons | apply List.Sublist.cons)) ⟨rfl, u', ga, ga', gs', rfl⟩
end
structure Ac where
 n : Int
 w : List UInt8
 cd : List UInt8
 sl : List UInt8 → List UInt8
def Ac.zero : Ac := ⟨0, zero32, [], fun _ => zero32⟩
abbrev As := List UInt8 → Ac
def As.upd (A : As) (a : List UInt8) (x : Ac) : As := fun b => if a = b then x else A b
structure PA where
 g : Nat
 n : Int
 w : List UInt8
 cd : List UInt8
 gs : Nat
 sc : Nat
 ss : List Ent
def PA.os (p : PA) : List Obj := [acO p.g p.n p.w p.cd (.map (some p.gs)), .map p.gs 32 p.sc p.ss]
structure PA.Is (p : PA) (x : Ac) (N : Nat) : Prop where
 n : p.n = x.n
 w : p.w = x.w
 cd : p.cd = x.cd
 sl : ∀ k, slE p.ss k = .arr 32 (x.sl k)
 ent : ∀ e ∈ p.ss, ∃ v, e.2.2 = .arr 32 v ∧ v ≠ zero32
 nod : (p.ss.map (·.2.1)).Nodup
 len : p.ss.length ≤ N
 cl : p.cd.length ≤ 140737488355328
structure rH (es : List Ent) (ps : List PA) (A : As) (N : Nat) : Prop where
 out : ∀ a, aC es a = none → A a = Ac.zero
 inn : ∀ a d, aC es a = some d → ∃ p ∈ ps, d = .v (ptr p.g) ∧ p.Is (A a) N
 inj : ∀ a b d, aC es a = some d → aC es b = some d → a = b
 nod : (es.map (·.2.1)).Nodup
 len : es.length ≤ N
def psO (g m c : Nat) (es : List Ent) (u k : Value) (n : Int) (us : List D) (ps : List PA) : List Obj := [stO g m u k n, smO m c es, unO u us, mkO k []] ++ ps.flatMap PA.os
def PSt (g : Nat) (A : As) (N : Nat) (os : List Obj) : Prop := ∃ m c es u k n us ps, os = psO g m c es u k n us ps ∧ rH es ps A N ∧ us.length < 1099511627776
theorem nM (ps1 ps2 : List PA) (p : PA) : ((ps1 ++ p :: ps2).flatMap PA.os).Perm (p.os ++ (ps1 ++ ps2).flatMap PA.os) := by
 rw [List.flatMap_append, List.flatMap_cons, List.flatMap_append, ← L6, ← L6]
 exact Ov _ MG
theorem FnM.lift {f : FuncId} {ds : List D} {hdr : List Obj} {p : PA} {Ψ : R → List Obj → PA → Prop} (ps1 ps2 : List PA) (h : FnM f ds (hdr ++ p.os) (fun r os' => ∃ hdr' p', Ψ r hdr' p' ∧ os' = hdr' ++ p'.os)) : FnM f ds (hdr ++ (ps1 ++ p :: ps2).flatMap PA.os) (fun r os' => ∃ hdr' p', Ψ r hdr' p' ∧ os' = hdr' ++ (ps1 ++ p' :: ps2).flatMap PA.os) := by
 have h1 := (h.frame ((ps1 ++ ps2).flatMap PA.os)).perm (os2 := hdr ++ (ps1 ++ p :: ps2).flatMap PA.os) (by
  rw [L6]
  exact OA _ (nM ps1 ps2 p).symm)
 refine FnM.out h1 ?_
 rintro r _ ⟨_, ⟨hdr', p', hΨ, rfl⟩, rfl⟩
 refine ⟨_, ?_, hdr', p', hΨ, rfl⟩
 rw [L6]
 exact OA _ (nM ps1 ps2 p').symm
theorem FnM.apart {f : FuncId} {ds : List D} {os : List Obj} {Φ : R → List Obj → Prop} (h : FnM f ds os Φ) : FnM f ds os (fun r os' => Φ r os' ∧ Apart os') := ⟨fun ok w xs h1 h2 h3 => (h.go ok w xs h1 h2 h3).mono fun e w' ⟨v, r, os', e1, e2, e3, e4⟩ => ⟨v, r, os', e1, ⟨e2, e3.apart⟩, e3, e4⟩⟩
theorem cZ (c : Nat) (es : List Ent) (l : List UInt8) (d : D) : (aX c es l d).length ≤ es.length + 1 := by
 unfold aX
 split
 ·
  have := congrArg List.length (je es l d)
  simp at this
  omega
 · simp
theorem dO (c : Nat) (es : List Ent) (l : List UInt8) (d : D) (h : (es.map (·.2.1)).Nodup) : ((aX c es l d).map (·.2.1)).Nodup := by
 unfold aX
 cases hh : gJ es l
 ·
  rw [if_neg (by simp), MC]
  have hn : l ∉ es.map (·.2.1) := by
   rw [iD] at hh
   exact (dX es l).1 (by simpa using hh)
  refine MX.2 ⟨h, by simp, fun x hx y hy => ?_⟩
  obtain rfl : y = l := by simpa using hy
  exact fun e => hn (e ▸ hx)
 ·
  rw [if_pos rfl, je]
  exact h
variable {es es' : List Ent} {ps ps1 ps2 : List PA} {A : As} {N : Nat} {a : List UInt8} {p p' : PA} {x : Ac}
theorem rH.turned (h : rH es (ps1 ++ p :: ps2) A N) (ha : aC es a = some (.v (ptr p.g))) (hg : p'.g = p.g) (hx : p'.Is x (N + 1)) : rH es (ps1 ++ p' :: ps2) (A.upd a x) (N + 1) := by
 refine ⟨fun b hb => ?_, fun b d hb => ?_, h.inj, h.nod, N8 h.len⟩
 ·
  unfold As.upd
  rw [if_neg fun e => by rw [← e, ha] at hb; cases hb]
  exact h.out b hb
 ·
  unfold As.upd
  by_cases e : a = b
  ·
   subst e
   rw [if_pos rfl]
   rw [ha] at hb
   cases hb
   exact ⟨p', by simp, by rw [hg], hx⟩
  ·
   rw [if_neg e]
   obtain ⟨q, hq, rfl, hi⟩ := h.inn b d hb
   have hne : q.g ≠ p.g := fun e' => e (h.inj a b _ ha (by rw [hb, e']))
   refine ⟨q, ?_, rfl, ⟨hi.n, hi.w, hi.cd, hi.sl, hi.ent, hi.nod, N8 hi.len, hi.cl⟩⟩
   rcases LP.1 hq with hq | hq
   · exact LJ _ hq
   ·
    rcases Lj.1 hq with rfl | hq
    · exact absurd rfl hne
    · exact LW _ (Lu _ hq)
theorem rH.fresh (h : rH es ps A N) (hes : ∀ b, aC es' b = if a = b then some (.v (ptr p'.g)) else aC es b) (hn : (es'.map (·.2.1)).Nodup) (hl : es'.length ≤ N + 1) (hx : p'.Is x (N + 1)) (hnew : ∀ q ∈ ps, q.g ≠ p'.g) : rH es' (p' :: ps) (A.upd a x) (N + 1) := by
 refine ⟨fun b hb => ?_, fun b d hb => ?_, fun b b' d hb hb' => ?_, hn, hl⟩
 ·
  rw [hes] at hb
  unfold As.upd
  by_cases e : a = b
  ·
   rw [if_pos e] at hb
   cases hb
  ·
   rw [if_neg e] at hb ⊢
   exact h.out b hb
 ·
  rw [hes] at hb
  unfold As.upd
  by_cases e : a = b
  ·
   rw [if_pos e] at hb ⊢
   cases hb
   exact ⟨p', by simp, rfl, hx⟩
  ·
   rw [if_neg e] at hb ⊢
   obtain ⟨q, hq, rfl, hi⟩ := h.inn b d hb
   exact ⟨q, Lu _ hq, rfl, ⟨hi.n, hi.w, hi.cd, hi.sl, hi.ent, hi.nod, N8 hi.len, hi.cl⟩⟩
 ·
  rw [hes] at hb hb'
  by_cases e : a = b
  ·
   rw [if_pos e] at hb
   cases hb
   by_cases e' : a = b'
   · rw [← e, ← e']
   ·
    rw [if_neg e'] at hb'
    obtain ⟨q, hq, hd, _⟩ := h.inn b' _ hb'
    have : q.g = p'.g := by simp at hd; exact hd.symm
    exact absurd this (hnew q hq)
  ·
   rw [if_neg e] at hb
   by_cases e' : a = b'
   ·
    rw [if_pos e'] at hb'
    cases hb'
    obtain ⟨q, hq, hd, _⟩ := h.inn b _ hb
    have : q.g = p'.g := by simp at hd; exact hd.symm
    exact absurd this (hnew q hq)
   ·
    rw [if_neg e'] at hb'
    exact h.inj b b' d hb hb'
theorem nT {hdr : List Obj} (h : Apart (hdr ++ p'.os ++ ps.flatMap PA.os)) : ∀ q ∈ ps, q.g ≠ p'.g := fun q hq e => by
 rw [L6] at h
 have h1 := (LX.1 h).2.1
 have h2 := (LX.1 h1).2.2 (acO p'.g p'.n p'.w p'.cd (.map (some p'.gs))) (by simp [PA.os]) (acO q.g q.n q.w q.cd (.map (some q.gs))) (List.mem_flatMap.2 ⟨q, hq, by simp [PA.os]⟩) p'.g rfl
 exact h2 (by simp [Obj.blk, e])
end E
end Go.Proofs.YtohlgnfachkmaaaGreat
namespace Go.Proofs.YtohlgnfachkmaaaGreat
set_option linter.unusedVariables false
open Go.RowKit Mono Rlp Wd
namespace E
theorem wI : ∀ (es : List Ent) (l : List UInt8) (d : D) (e : Ent), e ∈ jO es l d → e ∈ es ∨ e.2.2 = d
 | [], l, d, e, h => by simp [jO] at h
 | x :: es, l, d, e, h => by
  rw [jO] at h
  split at h
  ·
   rcases Lj.1 h with rfl | h
   · exact .inr rfl
   · exact .inl (Lu _ h)
  ·
   rcases Lj.1 h with rfl | h
   · exact .inl (Ld ..)
   · exact (wI es l d e h).imp (Lu _) id
theorem qA (c : Nat) (es : List Ent) (l : List UInt8) (d : D) (e : Ent) (h : e ∈ aX c es l d) : e ∈ es ∨ e.2.2 = d := by
 unfold aX at h
 split at h
 · exact wI es l d e h
 ·
  rcases LP.1 h with h | h
  · exact .inl h
  ·
   obtain rfl : e = _ := by simpa using h
   exact .inr rfl
theorem uh (c : Nat) (ss : List Ent) (q v k : List UInt8) : slE (aX c ss q (.arr 32 v)) k = if q = k then .arr 32 v else slE ss k := by
 unfold slE
 rw [bU]
 split <;> rfl
theorem zq (ss : List Ent) (q k : List UInt8) (h : (ss.map (·.2.1)).Nodup) : slE (fC ss q) k = if q = k then .arr 32 zero32 else slE ss k := by
 unfold slE
 rw [nJ _ _ _ h]
 split <;> rfl
theorem kM (es : List Ent) (l : List UInt8) : (fC es l).length ≤ es.length := (eP es l).length_le
variable {g N : Nat} {A : As} {os : List Obj} {a : List UInt8}
theorem PA.Is.up {p : PA} {x : Ac} (h : p.Is x N) : p.Is x (N + 1) := ⟨h.n, h.w, h.cd, h.sl, h.ent, h.nod, N8 h.len, h.cl⟩
theorem zA {f : FuncId} {ds : List D} {x : Ac} (h : PSt g A N os)
  (hin : ∀ m c es u k n us (p : PA), aC es a = some (.v (ptr p.g)) → us.length < 1099511627776 → p.Is (A a) N → FnM f ds ([stO g m u k n, smO m c es, unO u us, mkO k []] ++ p.os) (fun r os' => ∃ (hdr' : List Obj) (p' : PA), (r = .tpl [] ∧ (∃ u', hdr' = [stO g m u' k n, smO m c es, unO u' us, mkO k []]) ∧ p'.g = p.g ∧ p'.Is x (N + 1)) ∧ os' = hdr' ++ p'.os))
  (hout : ∀ m c es u k n us, aC es a = none → us.length < 1099511627776 → A a = Ac.zero → FnM f ds [stO g m u k n, smO m c es, unO u us, mkO k []] (fun r os' => r = .tpl [] ∧ ∃ (u' : Value) (p' : PA), os' = [stO g m u' k n, smO m (aU c es a) (aX c es a (.v (ptr p'.g))), unO u' us, mkO k []] ++ p'.os ∧ p'.Is x (N + 1))) :
  FnM f ds os (fun r os' => r = .tpl [] ∧ PSt g (A.upd a x) (N + 1) os') := by
 obtain ⟨m, c, es, u, k, n, us, ps, rfl, hi, hu⟩ := h
 cases hE : aC es a with
 | some d =>
  obtain ⟨p, hp, rfl, his⟩ := hi.inn a d hE
  obtain ⟨ps1, ps2, rfl⟩ := Oo hp
  refine FnM.mono (FnM.lift ps1 ps2 (hin m c es u k n us p hE hu his)) ?_
  rintro r _ ⟨hdr', p', ⟨rfl, ⟨u', rfl⟩, hg, hx⟩, rfl⟩
  exact ⟨rfl, m, c, es, u', k, n, us, _, rfl, hi.turned hE hg hx, hu⟩
 | none =>
  refine FnM.mono ((hout m c es u k n us hE hu (hi.out a hE)).frame (ps.flatMap PA.os)).apart ?_
  rintro r _ ⟨⟨_, ⟨rfl, u', p', rfl, hx⟩, rfl⟩, hap⟩
  refine ⟨rfl, m, aU c es a, aX c es a (.v (ptr p'.g)), u', k, n, us, p' :: ps, ?_, hi.fresh (fun b => bU c es a b _) (dO c es a _ hi.nod) (LZ (cZ c es a _) (NM hi.len)) hx (nT hap), hu⟩
  unfold psO
  rw [L6, List.flatMap_cons]
theorem oD (h : PSt g A N os) (v : Int) : FnM 30 [.v (ptr g), .arr 20 a, .v (.int .i64 v)] os (fun r os' => r = .tpl [] ∧ PSt g (A.upd a {A a with n := if v > 0 then v else 0}) (N + 1) os') := by
 refine zA h (fun m c es u k n us p hE hu his => ?_) (fun m c es u k n us hE hu hz => ?_)
 ·
  refine FnM.mono (FnM.frame (vT (g := g) (m := m) (c := c) (u := u) (k := k) (n := n) (ks := []) (b := p.n) (w := p.w) (cd := p.cd) (sv := .map (some p.gs)) (n' := v) hE hu) [.map p.gs 32 p.sc p.ss]) ?_
  rintro r _ ⟨_, ⟨rfl, u', rfl⟩, rfl⟩
  exact ⟨[stO g m u' k n, smO m c es, unO u' us, mkO k []], {p with n := if v > 0 then v else 0}, ⟨rfl, ⟨u', rfl⟩, rfl, ⟨rfl, his.w, his.cd, his.sl, his.ent, his.nod, his.up.len, his.cl⟩⟩, rfl⟩
 ·
  refine FnM.mono (uw (g := g) (m := m) (c := c) (u := u) (k := k) (n := n) (ks := []) (n' := v) hE hu) ?_
  rintro r _ ⟨rfl, u', ga, gs, rfl⟩
  refine ⟨rfl, u', ⟨ga, if v > 0 then v else 0, zero32, [], gs, 0, []⟩, rfl, ?_⟩
  rw [hz]
  exact ⟨rfl, rfl, rfl, fun k => rfl, fun e he => by simp at he, Nb, LH _, LH _⟩
theorem lC (h : PSt g A N os) (v : List UInt8) : FnM 63 [.v (ptr g), .arr 20 a, .arr 32 v] os (fun r os' => r = .tpl [] ∧ PSt g (A.upd a {A a with w := v}) (N + 1) os') := by
 refine zA h (fun m c es u k n us p hE hu his => ?_) (fun m c es u k n us hE hu hz => ?_)
 ·
  refine FnM.mono (FnM.frame (rF (g := g) (m := m) (c := c) (u := u) (k := k) (n := n) (ks := []) (b := p.n) (w := p.w) (cd := p.cd) (sv := .map (some p.gs)) (w' := v) hE hu) [.map p.gs 32 p.sc p.ss]) ?_
  rintro r _ ⟨_, ⟨rfl, u', rfl⟩, rfl⟩
  exact ⟨[stO g m u' k n, smO m c es, unO u' us, mkO k []], {p with w := v}, ⟨rfl, ⟨u', rfl⟩, rfl, ⟨his.n, rfl, his.cd, his.sl, his.ent, his.nod, his.up.len, his.cl⟩⟩, rfl⟩
 ·
  refine FnM.mono (pX (g := g) (m := m) (c := c) (u := u) (k := k) (n := n) (ks := []) (w' := v) hE hu) ?_
  rintro r _ ⟨rfl, u', ga, gs, rfl⟩
  refine ⟨rfl, u', ⟨ga, 0, v, [], gs, 0, []⟩, rfl, ?_⟩
  rw [hz]
  exact ⟨rfl, rfl, rfl, fun k => rfl, fun e he => by simp at he, Nb, LH _, LH _⟩
theorem qw (h : PSt g A N os) (v : List UInt8) (hl : v.length ≤ 140737488355328) : FnM 64 [.v (ptr g), .arr 20 a, .bs v] os (fun r os' => r = .tpl [] ∧ PSt g (A.upd a {A a with cd := v}) (N + 1) os') := by
 refine zA h (fun m c es u k n us p hE hu his => ?_) (fun m c es u k n us hE hu hz => ?_)
 ·
  refine FnM.mono (FnM.frame (yB (g := g) (m := m) (c := c) (u := u) (k := k) (n := n) (ks := []) (b := p.n) (w := p.w) (cd := p.cd) (sv := .map (some p.gs)) (e := v) hE hu hl) [.map p.gs 32 p.sc p.ss]) ?_
  rintro r _ ⟨_, ⟨rfl, u', rfl⟩, rfl⟩
  exact ⟨[stO g m u' k n, smO m c es, unO u' us, mkO k []], {p with cd := v}, ⟨rfl, ⟨u', rfl⟩, rfl, ⟨his.n, his.w, rfl, his.sl, his.ent, his.nod, his.up.len, hl⟩⟩, rfl⟩
 ·
  refine FnM.mono (vU (g := g) (m := m) (c := c) (u := u) (k := k) (n := n) (ks := []) (e := v) hE hu hl) ?_
  rintro r _ ⟨rfl, u', ga, gs, rfl⟩
  refine ⟨rfl, u', ⟨ga, 0, zero32, v, gs, 0, []⟩, rfl, ?_⟩
  rw [hz]
  exact ⟨rfl, rfl, rfl, fun k => rfl, fun e he => by simp at he, Nb, LH _, hl⟩
def Ac.slot (x : Ac) (q v : List UInt8) : Ac := {x with sl := fun k => if q = k then v else x.sl k}
theorem qp (h : PSt g A N os) (q v : List UInt8) : FnM 65 [.v (ptr g), .arr 20 a, .arr 32 q, .arr 32 v] os (fun r os' => r = .tpl [] ∧ PSt g (A.upd a ((A a).slot q v)) (N + 1) os') := by
 refine zA h (fun m c es u k n us p hE hu his => ?_) (fun m c es u k n us hE hu hz => ?_)
 ·
  by_cases hv : v = zero32
  ·
   subst hv
   refine FnM.mono (pW (g := g) (m := m) (c := c) (u := u) (k := k) (n := n) (ks := []) (b := p.n) (w := p.w) (cd := p.cd) (gs := p.gs) (sc := p.sc) hE (his.sl q) hu uq) ?_
   rintro r _ ⟨rfl, u', rfl⟩
   refine ⟨[stO g m u' k n, smO m c es, unO u' us, mkO k []], {p with ss := fC p.ss q}, ⟨rfl, ⟨u', rfl⟩, rfl, his.n, his.w, his.cd, fun k => ?_, fun e he => his.ent e ((eP _ _).subset he), his.nod.sublist ((eP _ _).map _), LZ (kM _ _) his.up.len, his.cl⟩, rfl⟩
   show slE (fC p.ss q) k = _
   rw [zq _ _ _ his.nod, his.sl k]
   unfold Ac.slot
   dsimp only
   split <;> rfl
  ·
   refine FnM.mono (pW (g := g) (m := m) (c := c) (u := u) (k := k) (n := n) (ks := []) (b := p.n) (w := p.w) (cd := p.cd) (gs := p.gs) (sc := p.sc) hE (his.sl q) hu (uo (by simpa using hv))) ?_
   rintro r _ ⟨rfl, u', rfl⟩
   refine ⟨[stO g m u' k n, smO m c es, unO u' us, mkO k []], {p with sc := aU p.sc p.ss q, ss := aX p.sc p.ss q (.arr 32 v)}, ⟨rfl, ⟨u', rfl⟩, rfl, his.n, his.w, his.cd, fun k => ?_, fun e he => ?_, dO _ _ _ _ his.nod, LZ (cZ _ _ _ _) (NM his.len), his.cl⟩, rfl⟩
   ·
    show slE (aX p.sc p.ss q (.arr 32 v)) k = _
    rw [uh, his.sl k]
    unfold Ac.slot
    dsimp only
    split <;> rfl
   ·
    rcases qA _ _ _ _ _ he with he | he
    · exact his.ent e he
    · exact ⟨v, he, hv⟩
 ·
  by_cases hv : v = zero32
  ·
   subst hv
   refine FnM.mono (oh (g := g) (m := m) (c := c) (u := u) (k := k) (n := n) (ks := []) (q := q) (ss' := fun _ => fC [] q) (sc' := 0) hE hu (fun ga gs => uq)) ?_
   rintro r _ ⟨rfl, u', ga, gs, rfl⟩
   refine ⟨rfl, u', ⟨ga, 0, zero32, [], gs, 0, []⟩, rfl, ?_⟩
   rw [hz]
   refine ⟨rfl, rfl, rfl, fun k => ?_, fun e he => by simp at he, Nb, LH _, LH _⟩
   unfold Ac.slot Ac.zero
   dsimp only
   split <;> rfl
  ·
   refine FnM.mono (oh (g := g) (m := m) (c := c) (u := u) (k := k) (n := n) (ks := []) (q := q) (ss' := fun _ => aX 0 [] q (.arr 32 v)) (sc' := aU 0 [] q) hE hu (fun ga gs => uo (by simpa using hv))) ?_
   rintro r _ ⟨rfl, u', ga, gs, rfl⟩
   refine ⟨rfl, u', ⟨ga, 0, zero32, [], gs, aU 0 [] q, aX 0 [] q (.arr 32 v)⟩, rfl, ?_⟩
   rw [hz]
   refine ⟨rfl, rfl, rfl, fun k => ?_, fun e he => ?_, dO 0 [] q (.arr 32 v) Nb, LZ (cZ 0 [] q (.arr 32 v)) (by simp), LH _⟩
   ·
    show slE (aX 0 [] q (.arr 32 v)) k = _
    rw [uh]
    unfold Ac.slot Ac.zero
    dsimp only
    split <;> rfl
   ·
    rcases qA 0 [] q (.arr 32 v) e he with he | he
    · simp at he
    · exact ⟨v, he, hv⟩
theorem Gg (h : PSt g A N os) : FnM 68 [.v (ptr g), .arr 20 a] os (fun r os' => r = .tpl [] ∧ PSt g (A.upd a Ac.zero) (N + 1) os') := by
 obtain ⟨m, c, es, u, k, n, us, ps, rfl, hi, hu⟩ := h
 cases hE : aC es a with
 | some d =>
  obtain ⟨p, hp, rfl, his⟩ := hi.inn a d hE
  refine FnM.mono ((Gv (g := g) (m := m) (c := c) (u := u) (k := k) (n := n) (ks := []) hE hu).frame (ps.flatMap PA.os)).apart ?_
  rintro r _ ⟨⟨_, ⟨rfl, u', ga', gs', rfl⟩, rfl⟩, hap⟩
  exact ⟨rfl, m, _, _, u', k, n, us, ⟨ga', 0, zero32, [], gs', 0, []⟩ :: ps, rfl, hi.fresh (p' := ⟨ga', 0, zero32, [], gs', 0, []⟩) (fun b => bU c es a b _) (dO c es a _ hi.nod) (LZ (cZ c es a _) (NM hi.len)) ⟨rfl, rfl, rfl, fun k => rfl, fun e he => by simp at he, Nb, LH _, LH _⟩ (nT (hdr := [stO g m u' k n, smO m (aU c es a) (aX c es a (.v (ptr ga'))), unO u' us, mkO k []]) (p' := ⟨ga', 0, zero32, [], gs', 0, []⟩) hap), hu⟩
 | none =>
  refine FnM.mono ((DI (g := g) (m := m) (c := c) (u := u) (k := k) (n := n) (ks := []) hE hu).frame (ps.flatMap PA.os)).apart ?_
  rintro r _ ⟨⟨_, ⟨rfl, u', ga, ga', gs', rfl⟩, rfl⟩, hap⟩
  refine ⟨rfl, m, _, _, u', k, n, us, ⟨ga', 0, zero32, [], gs', 0, []⟩ :: ps, rfl, hi.fresh (p' := ⟨ga', 0, zero32, [], gs', 0, []⟩) (fun b => ?_) (dO _ _ a _ (dO c es a _ hi.nod)) ?_ ⟨rfl, rfl, rfl, fun k => rfl, fun e he => by simp at he, Nb, LH _, LH _⟩ (nT (hdr := [stO g m u' k n, smO m (aU (aU c es a) (aX c es a (.v (ptr ga))) a) (aX (aU c es a) (aX c es a (.v (ptr ga))) a (.v (ptr ga'))), unO u' us, mkO k []]) (p' := ⟨ga', 0, zero32, [], gs', 0, []⟩) hap), hu⟩
  ·
   rw [bU, bU]
   split <;> rfl
  ·
   unfold aX
   rw [if_pos]
   ·
    have h1 := congrArg List.length (je (if gJ es a = true then jO es a (.v (ptr ga)) else es ++ [(c, a, .v (ptr ga))]) a (.v (ptr ga')))
    have h2 := cZ c es a (.v (ptr ga))
    unfold aX at h2
    simp only [Lc] at h1
    have := hi.len
    omega
   ·
    have := bU c es a a (.v (ptr ga))
    unfold aX at this
    rw [iD, this, if_pos rfl]
    rfl
end E
end Go.Proofs.YtohlgnfachkmaaaGreat
namespace Go.Proofs.YtohlgnfachkmaaaGreat
set_option linter.unusedVariables false
set_option maxRecDepth 20000
set_option maxHeartbeats 8000000
open Go.RowKit Mono Rlp Wd
namespace E
def PA.empty (p : PA) : Bool := decide (p.n = 0) && (p.w == zero32) && p.cd.isEmpty && p.ss.isEmpty
theorem PA.Is.jo {p : PA} {x : Ac} {N : Nat} (h : p.Is x N) : p.empty = true ↔ x = Ac.zero := by
 unfold PA.empty
 rw [h.n, h.w, h.cd]
 simp only [MI, decide_eq_true_eq, beq_iff_eq, List.isEmpty_iff]
 constructor
 ·
  rintro ⟨⟨⟨h1, h2⟩, h3⟩, h4⟩
  have h5 : x.sl = fun _ => zero32 := funext fun k => by
   have := h.sl k
   rw [h4] at this
   have h6 : slE [] k = .arr 32 zero32 := rfl
   rw [h6] at this
   simpa using this.symm
  cases x
  simp only [Ac.zero, Ac.mk.injEq]
  exact ⟨h1, h2, h3, h5⟩
 ·
  rintro rfl
  refine ⟨⟨⟨rfl, rfl⟩, rfl⟩, ?_⟩
  cases hs : p.ss with
  | nil => rfl
  | cons e ss =>
   exfalso
   obtain ⟨v, hv, hne⟩ := h.ent e (by rw [hs]; exact Ld ..)
   have := h.sl e.2.1
   rw [hs] at this
   have h6 : slE (e :: ss) e.2.1 = .arr 32 v := by
    unfold slE
    rw [aC, if_pos (by simp), hv]
    rfl
   rw [h6] at this
   apply hne
   simpa [Ac.zero] using this
theorem empty_ (p : PA) : FnM 81 [.v (ptr p.g)] p.os (fun r os' => r = .val (.v (.bool p.empty)) ∧ os' = p.os) := by
 obtain ⟨g, n, w, cd, gs, sc, ss⟩ := p
 have hz := (aP w zero32).1
 unfold PA.empty PA.os
 dsimp only
 refine FnM.walk 32 Tryz.func81 rfl Tryz.ntmps81 (by simp) fun X => ?_
 by_cases h1 : n = 0
 ·
  by_cases h2 : (w == zero32) = true
  ·
   rw [h2] at hz
   by_cases h3 : cd = []
   ·
    by_cases h4 : ss = []
    ·
     subst h3
     subst h4
     rw [h2]
     subst h1
     repeat
      (first
       | (refine bH (hrun := hz) (kk := ?_)) | (refine stp ?_; intros))
     exact EK.aI [acO g 0 w [] (.map (some gs)), .map gs 32 sc []] rfl rfl (by (repeat first | exact KZ _ | apply List.Sublist.cons_cons | apply List.Sublist.cons)) ⟨rfl, rfl⟩
    ·
     subst h3
     have h5 : ss.isEmpty = false := by cases ss with | nil => exact absurd rfl h4 | cons _ _ => rfl
     rw [h2, h5]
     subst h1
     repeat
      (first
       | (refine bH (hrun := hz) (kk := ?_)) | (refine stp ?_; intros))
     exact EK.aI [acO g 0 w [] (.map (some gs)), .map gs 32 sc ss] rfl rfl (by (repeat first | exact KZ _ | apply List.Sublist.cons_cons | apply List.Sublist.cons)) ⟨rfl, rfl⟩
   ·
    have h5 : cd.isEmpty = false := by cases cd with | nil => exact absurd rfl h3 | cons _ _ => rfl
    rw [h2, h5]
    subst h1
    repeat
     (first
      | (refine bH (hrun := hz) (kk := ?_)) | (refine stp ?_; intros))
    exact EK.aI [acO g 0 w cd (.map (some gs)), .map gs 32 sc ss] rfl rfl (by (repeat first | exact KZ _ | apply List.Sublist.cons_cons | apply List.Sublist.cons)) ⟨rfl, rfl⟩
  ·
   have h2 : (w == zero32) = false := by simpa using h2
   rw [h2] at hz ⊢
   subst h1
   repeat
    (first
     | (refine bH (hrun := hz) (kk := ?_)) | (refine stp ?_; intros))
   exact EK.aI [acO g 0 w cd (.map (some gs)), .map gs 32 sc ss] rfl rfl (by (repeat first | exact KZ _ | apply List.Sublist.cons_cons | apply List.Sublist.cons)) ⟨rfl, rfl⟩
 ·
  have h5 : decide (n = 0) = false := by simp [h1]
  rw [h5]
  repeat (refine stp ?_; intros)
  exact EK.aI [acO g n w cd (.map (some gs)), .map gs 32 sc ss] rfl rfl (by (repeat first | exact KZ _ | apply List.Sublist.cons_cons | apply List.Sublist.cons)) ⟨rfl, rfl⟩
end E
end Go.Proofs.YtohlgnfachkmaaaGreat
namespace Go.Proofs.YtohlgnfachkmaaaGreat
set_option linter.unusedVariables false
open Go.RowKit Mono Rlp
open Go.ChangeMaps (setBlock)
namespace E
abbrev Ky (n : Nat) := {l : List UInt8 // l.length = n}
def kv {n : Nat} (k : Ky n) : Value := aT k.1
theorem Du {es : List MapEntry} (hn : (es.map (·.born)).Nodup) {e : MapEntry} (he : e ∈ es) : es.Perm (e :: es.filter fun x => x.born != e.born) := by
 induction es with
 | nil => cases he
 | cons y es ih =>
  simp only [LV, MR] at hn
  rcases Lj.1 he with rfl | he
  ·
   have : es.filter (fun x => x.born != e.born) = es := NU.2 fun x hx => by
    have : x.born ≠ e.born := fun h => hn.1 (h ▸ Ll.2 ⟨x, hx, rfl⟩)
    simpa using this
   simp [this]
  ·
   have hne : y.born ≠ e.born := fun h => hn.1 (h ▸ Ll.2 ⟨e, he, rfl⟩)
   have : (y :: es).filter (fun x => x.born != e.born) = y :: es.filter (fun x => x.born != e.born) := by simp [hne]
   rw [this]
   exact ((ih hn.2 he).cons y).trans (List.Perm.swap e y _)
theorem wO (es : Array MapEntry) (seen : Array Nat) (b : Nat) : (leftOf es (seen.push b)).toList = (leftOf es seen).toList.filter fun x => x.born != b := by
 unfold leftOf
 rw [Array.toList_filter, Array.toList_filter, List.filter_filter]
 refine List.filter_congr fun x _ => ?_
 rw [contains_push]
 cases seen.contains x.born <;> cases h : x.born == b <;> simp [bne, h]
def Rng (w : World) (b r : Nat) (es : Array MapEntry) (clock : Nat) (ss : List Value) (cnt : Nat) : Prop :=
 ∃ since seen c0, w.heap[b]? = some (.map es clock) ∧ w.heap[r]? = some (.mapIter (some b) since seen c0) ∧ (∀ x ∈ es.toList, x.born < since) ∧ since ≤ c0 ∧ since ≤ clock ∧ (leftOf es seen).size = cnt ∧ (ss ++ (leftOf es seen).toList.map (·.key)).Perm (es.toList.map (·.key))
variable {w : World} {b r cnt clock : Nat} {es : Array MapEntry} {ss : List Value}
theorem Rng.left_eq (h : Rng w b r es clock ss cnt) : w.rangeLeft b r = cnt := by
 obtain ⟨since, seen, c0, hb, hr, _, _, _, hc, _⟩ := h
 simp only [World.rangeLeft, hb, hr]
 exact hc
theorem Rng.le (h : Rng w b r es clock ss cnt) : ss.length + cnt = es.size := by
 obtain ⟨since, seen, c0, _, _, _, _, _, hc, hp⟩ := h
 have := hp.length_eq
 simp at this
 omega
theorem Rng.iter (h : Rng w b r es clock ss cnt) : ∃ o : Go.Obj, w.heap[r]? = some o ∧ o.isWalk = true := by
 obtain ⟨since, seen, c0, _, hr, _⟩ := h
 exact ⟨_, hr, rfl⟩
theorem Rng.lt (h : Rng w b r es clock ss cnt) : b < w.heap.size ∧ r < w.heap.size := by
 obtain ⟨since, seen, c0, hb, hr, _⟩ := h
 exact ⟨(LQ.1 hb).1, (LQ.1 hr).1⟩
theorem Rng.kept {w' : World} (h : Rng w b r es clock ss cnt) (hb : w'.heap[b]? = w.heap[b]?) (hr : w'.heap[r]? = w.heap[r]?) : Rng w' b r es clock ss cnt := by
 obtain ⟨since, seen, c0, h1, h2, rest⟩ := h
 exact ⟨since, seen, c0, hb.trans h1, hr.trans h2, rest⟩
theorem Rng.walks {w' : World} (h : Rng w b r es clock ss cnt) (hk : KeepsWalks w w') : Rng w' b r es clock ss cnt := by
 obtain ⟨since, seen, c0, h1, h2, rest⟩ := h
 exact ⟨since, seen, c0, hk.same _ _ h1 rfl, hk.same _ _ h2 rfl, rest⟩
theorem Rng.start (hb : w.heap[b]? = some (.map es clock)) (hl : ∀ x ∈ es.toList, x.born < clock) : Rng (w.alloc (.mapIter (some b) clock #[] clock)) b w.heap.size es clock [] es.size := by
 have hlt := (LQ.1 hb).1
 refine ⟨clock, #[], clock, ((Na w _).2 b hlt).trans hb, (Na w _).1, hl, LG _, LG _, ?_, ?_⟩
 · simp [leftOf]
 ·
  simp [leftOf]
  rw [NU.2 fun _ _ => rfl]
theorem Rng.next (h : Rng w b r es clock ss cnt) (hn : (es.toList.map (·.born)).Nodup) (ty : TypeId) :
  (cnt = 0 ∧ ss.Perm (es.toList.map (·.key)) ∧ (Instr.next (.pointer (some ⟨r, 0, none⟩)) false ty).run Tryz.prog w = .ok (.tuple #[.bool false]) w) ∨
  ∃ e ∈ es.toList, ∃ w' cnt', (Instr.next (.pointer (some ⟨r, 0, none⟩)) false ty).run Tryz.prog w = .ok (.tuple #[.bool true, e.key, e.val]) w' ∧ Rng w' b r es clock (ss ++ [e.key]) cnt' ∧ cnt' < cnt ∧ w.grownBy w' (some r) ∧ w'.heap.size = w.heap.size ∧ (Instr.entry (.pointer (some ⟨r, 0, none⟩))).run Tryz.prog w' = .ok (.tuple #[e.key, e.val]) w' := by
 obtain ⟨since, seen, c0, hb, hr, hold, hsc, hsk, rfl, hp⟩ := h
 have hne : r ≠ b := fun e => by rw [e, hb] at hr; cases hr
 rcases run_next_at (P := Tryz.prog) w ty r b since c0 seen es clock hr hb hold hsc with ⟨h0, hrun⟩ | ⟨e, he, w1, hal, hrun⟩
 ·
  refine .inl ⟨h0, ?_, hrun⟩
  have : leftOf es seen = #[] := Array.eq_empty_of_size_eq_zero h0
  rw [this] at hp
  simpa using hp
 ·
  obtain ⟨hem, hes⟩ := mem_left he
  have hr1 : w1.heap[r]? = some (.mapIter (some b) since seen c0) := by rcases hal with rfl | rfl <;> exact hr
  have hb1 : w1.heap[b]? = some (.map es clock) := by rcases hal with rfl | rfl <;> exact hb
  have hset := MapKept.heap_set (o' := .mapIter (some b) since (seen.push e.born) clock) hr1
  have hb' : (setBlock w1 r (.mapIter (some b) since (seen.push e.born) clock)).heap[b]? = some (.map es clock) := (hset.2 b (fun e1 => hne e1.symm)).trans hb1
  refine .inr ⟨e, hem, _, _, hrun, ⟨since, seen.push e.born, clock, hb', hset.1, hold, hsk, hsk, rfl, ?_⟩, left_shrinks es seen e he, ?_, ?_, run_entry_at _ r b since seen es clock e hset.1 hb' hem hn⟩
  ·
   have hnl : ((leftOf es seen).toList.map (·.born)).Nodup := by
    unfold leftOf
    rw [Array.toList_filter]
    exact hn.sublist (OL.map _)
   have h1 := (Du hnl he).map (·.key)
   rw [← wO] at h1
   refine List.Perm.trans ?_ hp
   rw [L6]
   exact (OA ss h1).symm
  · rcases hal with rfl | rfl <;> exact ⟨rfl, rfl, rfl, by simp [setBlock], fun i _ hi => hset.2 i (fun e1 => hi (by rw [e1]))⟩
  · rcases hal with rfl | rfl <;> simp [setBlock]
section
variable {n : Nat} {ops : Array Oper} {rest : List Oper} {o : Oper} {a : Act} {Q : Exit → Act → World → Prop} {F : Fence}
theorem uI (hg : o.guard = none) (ha : ∀ f, o.about Tryz.prog w a.eval = some f → F.fn f) (hd : ∀ c, o.op ≠ .defer c) {v : Value} {w' : World} (hr : (execOp a.eval o).run Tryz.prog w = .ok (.value v) w') (k : wpListIn F n Tryz.prog ops Q rest (a.put o.dst v) w') : wpListIn F n Tryz.prog ops Q (o :: rest) a w := by
 refine wpListIn_plain hg fun K hK => ⟨ha, ?_⟩
 rw [Oper.semAt_plain F _ _ hd, hr]
 exact hK _ _ k
theorem qE (hg : o.guard = none) (m : Operand) (t k e : TypeId) (hop : o.op = Op.range t m) (ht : Tryz.prog.underlying t = some (.map k e)) (hm : a.eval m = .map (some b)) (hb : w.heap[b]? = some (.map es clock))
  (K : wpListIn F n Tryz.prog ops Q rest (a.put o.dst (.pointer (some ⟨w.heap.size, 0, none⟩))) (w.alloc (.mapIter (some b) clock #[] clock))) : wpListIn F n Tryz.prog ops Q (o :: rest) a w := by
 refine uI hg (by simp [Oper.about, hop]) (by rw [hop]; intro c h; cases h) ?_ K
 simp [execOp, hop, hm, run_range_map w t k e b es clock ht hb, Result.andThen]
theorem uJ (hg : o.guard = none) (it : Operand) (hop : o.op = Op.next it false) (hit : a.eval it = .pointer (some ⟨r, 0, none⟩)) (h : Rng w b r es clock ss cnt) (hn : (es.toList.map (·.born)).Nodup)
  (hDone : cnt = 0 → ss.Perm (es.toList.map (·.key)) → wpListIn F n Tryz.prog ops Q rest (a.put o.dst (.tuple #[.bool false])) w)
  (hMore : ∀ (e : MapEntry) (w' : World) (cnt' : Nat), e ∈ es.toList → Rng w' b r es clock (ss ++ [e.key]) cnt' → cnt' < cnt → w.grownBy w' (some r) → w'.heap.size = w.heap.size → (Instr.entry (.pointer (some ⟨r, 0, none⟩))).run Tryz.prog w' = .ok (.tuple #[e.key, e.val]) w' → wpListIn F n Tryz.prog ops Q rest (a.put o.dst (.tuple #[.bool true, e.key, e.val])) w') :
  wpListIn F n Tryz.prog ops Q (o :: rest) a w := by
 rcases h.next hn o.type with ⟨h0, hp, hrun⟩ | ⟨e, he, w', cnt', hrun, hrg, hlt, hgr, hsz, hen⟩
 ·
  refine uI hg (by simp [Oper.about, hop]) (by rw [hop]; intro c h; cases h) ?_ (hDone h0 hp)
  simp [execOp, hop, hit, hrun, Result.andThen]
 ·
  refine uI hg (by simp [Oper.about, hop]) (by rw [hop]; intro c h; cases h) ?_ (hMore e w' cnt' he hrg hlt hgr hsz hen)
  simp [execOp, hop, hit, hrun, Result.andThen]
theorem qC {g t : Nat} {l : List UInt8} {cs : List Value} (hg : o.guard = none) (T : TypeId) (x y : Operand) (hop : o.op = Op.store T x y) (hT : assoc tyL T = some (l.length, true)) (hx : a.eval x = .pointer (some ⟨g, 0, none⟩)) (hy : a.eval y = aT l) (hb : w.heap[g]? = some (.cells cs.toArray t (0, 0))) (hs : cs.length = l.length)
  (K : ∀ w', w'.heap[g]? = some (.cells (bvs l).toArray t (0, 0)) → w.grownBy w' (some g) → w'.heap.size = w.heap.size → wpListIn F n Tryz.prog ops Q rest (a.put o.dst undef) w') : wpListIn F n Tryz.prog ops Q (o :: rest) a w := by
 have hr : Reads (fun _ => True) w (.arr l.length l) (bvs l) := by rw [Reads]; exact ⟨rfl, rfl⟩
 obtain ⟨_, _, _, hT'⟩ := tyI hT
 have hrun := gG (T := T) (n := 0) (pre := []) (mid := cs) (post := []) (by rw [hT', Reads.len _ _ hr]; rfl) hr (by simpa using hb) rfl (by rw [aS, hs])
 have hset := dD (bvs l) [] cs [] w (by rw [aS, hs]) (by simpa using hb)
 simp only [Ot, KO, List.append_nil] at hset
 have hsz : (w.setCells g 0 (bvs l)).heap.size = w.heap.size := by
  have h : ∀ (vs : List Value) (k : Nat) (w : World), (w.setCells g k vs).heap.size = w.heap.size := fun vs => by
   induction vs with
   | nil => intro k w; rfl
   | cons v vs ih =>
    intro k w
    rw [World.setCells, ih]
    show (w.heap.modify _ _).size = _
    rw [Array.size_modify]
  exact h _ _ _
 refine wpListIn_plain hg fun K' hK => ⟨by simp [Oper.about, hop], ?_⟩
 rw [Oper.semAt_plain F _ _ (by rw [hop]; intro c h; cases h)]
 have hrun' : (Instr.storeAt T (.pointer (some ⟨g, 0, none⟩)) (aT l)).run Tryz.prog w = .ok () (w.setCells g 0 (bvs l)) := hrun
 simp only [execOp, hop, hx, hy, Lr, hrun', Lh, LD]
 exact hK _ _ (K _ hset (bg g (bvs l) 0 w) hsz)
theorem uK {g t : Nat} {l : List UInt8} (hg : o.guard = none) (T : TypeId) (x : Operand) (hop : o.op = Op.load T x) (hT : assoc tyL T = some (l.length, true)) (hx : a.eval x = .pointer (some ⟨g, 0, none⟩)) (hb : w.heap[g]? = some (.cells (bvs l).toArray t (0, 0)))
  (K : wpListIn F n Tryz.prog ops Q rest (a.put o.dst (aT l)) w) : wpListIn F n Tryz.prog ops Q (o :: rest) a w := by
 have hr : Reads (fun _ => True) w (.arr l.length l) (bvs l) := by rw [Reads]; exact ⟨rfl, rfl⟩
 refine uI hg (by simp [Oper.about, hop]) (by rw [hop]; intro c h; cases h) ?_ K
 have hrun : (Instr.loadAt T (.pointer (some ⟨g, 0, none⟩))).run Tryz.prog w = .ok (aT l) w := ig (d := .arr l.length l) (tyI hT) hr (dM hb)
 simp only [execOp, hop, hx, Lr, hrun, Lh, LD]
end
end E
end Go.Proofs.YtohlgnfachkmaaaGreat
