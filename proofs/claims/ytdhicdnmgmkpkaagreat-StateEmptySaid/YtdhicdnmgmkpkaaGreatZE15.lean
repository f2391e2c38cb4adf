/-
  Merged (wip/tools/merge.py): SU2, SU3, SU4, SU5, EPA.
  Conditions: none.
-/
import Derived.Test.YtdhicdnmgmkpkaaGreatZE14
import Derived.Test.YtdhicdnmgmkpkaaGreatZE13
/-
  The program's state, at accounts with code and slots: SetSlot, SetCode, Kill.
  Conditions: none.
-/
namespace Go.Proofs.YtdhicdnmgmkpkaaGreat
set_option linter.unusedVariables false
open Go.RowKit Mono Rlp Wd
namespace E
abbrev wasC (a c : List UInt8) : D := .ifc 179 (.tup [.arr 20 a, .bs c])
abbrev wasS (a q v : List UInt8) : D := .ifc 177 (.tup [.arr 20 a, .arr 32 q, .arr 32 v])
abbrev wasA (a : List UInt8) (p : Value) : D := .ifc 181 (.tup [.arr 20 a, .v p])
section
variable {g m c ga gs sc T : Nat} {u k : Value} {n : Int} {es ss : List Ent} {a w cd q v : List UInt8} {us ks : List D} {b : Int} {d : D}
theorem change_inB (h : getE es a = some (.v (ptr ga))) (hu : us.length < 1099511627776) : FnM 106 [.v (ptr g), .arr 20 a, .ifc T d] [stO g m u k n, smO m c es, acO ga b w cd (.map (some gs)), .map gs 32 sc ss, unO u us, mkO k ks] (fun r os' => ∃ u', r = .val (.v (ptr ga)) ∧ os' = [stO g m u' k n, smO m c es, unO u' (undid ks us (.ifc T d)), mkO k ks, acO ga b w cd (.map (some gs)), .map gs 32 sc ss]) := by
  have h1 := ((change_in (g := g) (m := m) (c := c) (u := u) (k := k) (n := n) (ks := ks) (T := T) (d := d) h hu).frame [acO ga b w cd (.map (some gs)), .map gs 32 sc ss]).pick [0, 1, 4, 5, 2, 3] rfl (by decide)
  refine FnM.mono h1 ?_
  rintro r _ ⟨_, ⟨u', rfl, rfl⟩, rfl⟩
  exact ⟨u', rfl, rfl⟩
theorem set_at {ss' : List Ent} {sc' : Nat} {o1 o2 o3 o4 : Obj} (h : FnM 60 [.v (ptr ga), .arr 32 q, .arr 32 v] [acO ga b w cd (.map (some gs)), .map gs 32 sc ss] (fun r os' => r = .tpl [] ∧ os' = [acO ga b w cd (.map (some gs)), .map gs 32 sc' ss'])) : FnM 60 [.v (ptr ga), .arr 32 q, .arr 32 v] [o1, o2, o3, o4, acO ga b w cd (.map (some gs)), .map gs 32 sc ss] (fun r os' => r = .tpl [] ∧ os' = [o1, o2, o3, o4, acO ga b w cd (.map (some gs)), .map gs 32 sc' ss']) := by
  refine FnM.out ((h.frame [o1, o2, o3, o4]).pick [2, 3, 4, 5, 0, 1] rfl (by decide)) ?_
  rintro r _ ⟨_, ⟨rfl, rfl⟩, rfl⟩
  exact ⟨_, pick_perm (os := [acO ga b w cd (.map (some gs)), .map gs 32 sc' ss', o1, o2, o3, o4]) [2, 3, 4, 5, 0, 1] rfl (by decide), rfl, rfl⟩
theorem set_at2 {ss' : List Ent} {sc' : Nat} {o1 o2 o3 o4 : Obj} (h : FnM 60 [.v (ptr ga), .arr 32 q, .arr 32 v] [acO ga b w cd (.map (some gs)), .map gs 32 sc ss] (fun r os' => r = .tpl [] ∧ os' = [acO ga b w cd (.map (some gs)), .map gs 32 sc' ss'])) : FnM 60 [.v (ptr ga), .arr 32 q, .arr 32 v] [acO ga b w cd (.map (some gs)), .map gs 32 sc ss, o1, o2, o3, o4] (fun r os' => r = .tpl [] ∧ os' = [acO ga b w cd (.map (some gs)), .map gs 32 sc' ss', o1, o2, o3, o4]) := by
  refine FnM.mono (h.frame [o1, o2, o3, o4]) ?_
  rintro r _ ⟨_, ⟨rfl, rfl⟩, rfl⟩
  exact ⟨rfl, rfl⟩
set_option maxRecDepth 20000 in
set_option maxHeartbeats 4000000 in
theorem setSlot_in {x : List UInt8} {ss' : List Ent} {sc' : Nat} (h : getE es a = some (.v (ptr ga))) (hv : slE ss q = .arr 32 x) (hu : us.length < 1099511627776) (hs : FnM 60 [.v (ptr ga), .arr 32 q, .arr 32 v] [acO ga b w cd (.map (some gs)), .map gs 32 sc ss] (fun r os' => r = .tpl [] ∧ os' = [acO ga b w cd (.map (some gs)), .map gs 32 sc' ss'])) : FnM 52 [.v (ptr g), .arr 20 a, .arr 32 q, .arr 32 v] [stO g m u k n, smO m c es, unO u us, mkO k ks, acO ga b w cd (.map (some gs)), .map gs 32 sc ss] (fun r os' => r = .tpl [] ∧ ∃ u', os' = [stO g m u' k n, smO m c es, unO u' (undid ks us (wasS a q x)), mkO k ks, acO ga b w cd (.map (some gs)), .map gs 32 sc' ss']) := by
  have h1 := slot_in (g := g) (m := m) (c := c) (u := u) (k := k) (n := n) (b := b) (w := w) (cd := cd) (gs := gs) (sc := sc) h hv
  have h2 := change_inB (g := g) (m := m) (c := c) (u := u) (k := k) (n := n) (ks := ks) (T := 177) (d := .tup [.arr 20 a, .arr 32 q, .arr 32 x]) (b := b) (w := w) (cd := cd) (gs := gs) (sc := sc) (ss := ss) h hu
  refine FnM.walk 22 Tryz.func52 rfl Tryz.ntmps52 (by simp) fun X => ?_
  repeat
    (first
     | (apply P_box; exact rfl; exact rfl; exact rfl; intro _) | apply EL.nil | ((with_reducible apply EK.then_normal); apply EK.code)
     | (with_reducible first | apply EC.seq | apply EC.region | apply EC.skip | apply EC.label | apply EC.block | apply EC.exit | apply EC.ret | apply EK.in_normal | apply EK.in_same | apply EK.in_ret | apply EK.then_ret | apply EK.then_exit))
  refine EC.le (Le.pick [3, 4, 7, 8, 5, 6, 0, 1, 2] [_, _, _, _, _, _, _, _, _] rfl (by decide) rfl) ?_
  refine EC.drawC 14 [0, 1, 2, 3, 4, 5, 6, 11, 12] [7, 8, 9, 10, 13] [_, _, _, _, _, _] _ (by kernel_rfl) (by kernel_rfl) rfl ?_
  simp only [pickL, List.filterMap_cons, List.filterMap_nil, List.getElem?_cons_zero, List.getElem?_cons_succ]
  repeat
    (first
     | (apply H_move; (iterate 3 exact rfl)) | (apply H_load; exact rfl; (first | exact I0 | exact I1 | exact I2 | exact I3 | exact I4 | exact I5 | exact I6); (iterate 4 exact rfl)))
  refine EM.nil ?_
  repeat (first | rw [List.cons_append] | rw [List.nil_append])
  refine CH.callM (rest := [_, _]) h1 rfl rfl (RefineL.refl _ _) (by intro _ _; simp [go_sem]) rfl rfl ?_
  rintro _ _ ⟨rfl, rfl⟩
  try simp only [St.put]
  repeat (first | rw [List.cons_append] | rw [List.nil_append])
  refine CH.cut 2 ?_
  simp only [List.take_succ_cons, List.take_zero, List.drop_succ_cons, List.drop_zero]
  repeat
    (first
     | (apply H_build; (iterate 7 exact rfl)) | (apply H_mkifc; (iterate 4 exact rfl)))
  refine EM.nil ?_
  repeat (first | rw [List.cons_append] | rw [List.nil_append])
  refine CH.callM (rest := []) h2 rfl rfl (RefineL.refl _ _) (by intro _ _; simp [go_sem]) rfl rfl ?_
  rintro _ _ ⟨u', rfl, rfl⟩
  try simp only [St.put]
  repeat (first | rw [List.cons_append] | rw [List.nil_append])
  refine CH.callM (rest := []) (set_at hs) rfl rfl (RefineL.refl _ _) (by intro _ _; simp [go_sem]) rfl rfl ?_
  rintro _ _ ⟨rfl, rfl⟩
  try simp only [St.put]
  repeat (first | rw [List.cons_append] | rw [List.nil_append])
  refine CH.nil ?_
  try simp only [List.drop_succ_cons, List.drop_zero]
  repeat
    (first
     | apply EL.nil)
  exact EK.retM0n [stO g m u' k n, smO m c es, unO u' (undid ks us (wasS a q x)), mkO k ks, acO ga b w cd (.map (some gs)), .map gs 32 sc' ss'] rfl (by (repeat first | exact List.nil_sublist _ | apply List.Sublist.cons_cons | apply List.Sublist.cons)) ⟨rfl, u', rfl⟩
set_option maxRecDepth 20000 in
set_option maxHeartbeats 4000000 in
theorem setSlot_out {ss' : Nat → List Ent} {sc' : Nat} (h : getE es a = none) (hu : us.length < 1099511627776) (hs : ∀ ga gs, FnM 60 [.v (ptr ga), .arr 32 q, .arr 32 v] [acO ga 0 zero32 [] (.map (some gs)), .map gs 32 0 []] (fun r os' => r = .tpl [] ∧ os' = [acO ga 0 zero32 [] (.map (some gs)), .map gs 32 sc' (ss' 0)])) : FnM 52 [.v (ptr g), .arr 20 a, .arr 32 q, .arr 32 v] [stO g m u k n, smO m c es, unO u us, mkO k ks] (fun r os' => r = .tpl [] ∧ ∃ u' ga gs, os' = [stO g m u' k n, smO m (tickE c es a) (putE c es a (.v (ptr ga))), unO u' (undid ks us (wasS a q zero32)), mkO k ks, acO ga 0 zero32 [] (.map (some gs)), .map gs 32 sc' (ss' 0)]) := by
  have h1 := slot_out (g := g) (m := m) (c := c) (u := u) (k := k) (n := n) (q := q) h
  have h2 := change_out (g := g) (m := m) (c := c) (u := u) (k := k) (n := n) (ks := ks) (T := 177) (d := .tup [.arr 20 a, .arr 32 q, .arr 32 zero32]) h hu
  refine FnM.walk 22 Tryz.func52 rfl Tryz.ntmps52 (by simp) fun X => ?_
  repeat
    (first
     | (apply P_box; exact rfl; exact rfl; exact rfl; intro _) | apply EL.nil | ((with_reducible apply EK.then_normal); apply EK.code)
     | (with_reducible first | apply EC.seq | apply EC.region | apply EC.skip | apply EC.label | apply EC.block | apply EC.exit | apply EC.ret | apply EK.in_normal | apply EK.in_same | apply EK.in_ret | apply EK.then_ret | apply EK.then_exit))
  refine EC.le (Le.pick [3, 4, 5, 6, 0, 1, 2] [_, _, _, _, _, _, _] rfl (by decide) rfl) ?_
  refine EC.drawC 14 [0, 1, 2, 3, 4, 5, 6, 11, 12] [7, 8, 9, 10, 13] [_, _, _, _] _ (by kernel_rfl) (by kernel_rfl) rfl ?_
  simp only [pickL, List.filterMap_cons, List.filterMap_nil, List.getElem?_cons_zero, List.getElem?_cons_succ]
  repeat
    (first
     | (apply H_move; (iterate 3 exact rfl)) | (apply H_load; exact rfl; (first | exact I0 | exact I1 | exact I2 | exact I3 | exact I4 | exact I5 | exact I6); (iterate 4 exact rfl)))
  refine EM.nil ?_
  repeat (first | rw [List.cons_append] | rw [List.nil_append])
  refine CH.callM (rest := [_, _]) h1 rfl rfl (RefineL.refl _ _) (by intro _ _; simp [go_sem]) rfl rfl ?_
  rintro _ _ ⟨rfl, rfl⟩
  try simp only [St.put]
  repeat (first | rw [List.cons_append] | rw [List.nil_append])
  refine CH.cut 2 ?_
  simp only [List.take_succ_cons, List.take_zero, List.drop_succ_cons, List.drop_zero]
  repeat
    (first
     | (apply H_build; (iterate 7 exact rfl)) | (apply H_mkifc; (iterate 4 exact rfl)))
  refine EM.nil ?_
  repeat (first | rw [List.cons_append] | rw [List.nil_append])
  refine CH.callM (rest := []) h2 rfl rfl (RefineL.refl _ _) (by intro _ _; simp [go_sem]) rfl rfl ?_
  rintro _ _ ⟨u', ga, gs, rfl, rfl⟩
  try simp only [St.put]
  repeat (first | rw [List.cons_append] | rw [List.nil_append])
  refine CH.callM (rest := []) (set_at2 (hs ga gs)) rfl rfl (RefineL.refl _ _) (by intro _ _; simp [go_sem]) rfl rfl ?_
  rintro _ _ ⟨rfl, rfl⟩
  try simp only [St.put]
  repeat (first | rw [List.cons_append] | rw [List.nil_append])
  refine CH.nil ?_
  try simp only [List.drop_succ_cons, List.drop_zero]
  repeat
    (first
     | apply EL.nil)
  refine EK.le (Le.pick [2, 3, 4, 5, 0, 1, 6, 7, 8] [_, _, _, _, _, _, _, _, _] rfl (by decide) rfl) ?_
  exact EK.retM0n [stO g m u' k n, smO m (tickE c es a) (putE c es a (.v (ptr ga))), unO u' (undid ks us (wasS a q zero32)), mkO k ks, acO ga 0 zero32 [] (.map (some gs)), .map gs 32 sc' (ss' 0)] rfl (by (repeat first | exact List.nil_sublist _ | apply List.Sublist.cons_cons | apply List.Sublist.cons)) ⟨rfl, u', ga, gs, rfl⟩
set_option maxRecDepth 20000 in
set_option maxHeartbeats 4000000 in
theorem setCode_in {e : List UInt8} {sv : Value} (h : getE es a = some (.v (ptr ga))) (hu : us.length < 1099511627776) (hl : e.length ≤ 140737488355328) : FnM 53 [.v (ptr g), .arr 20 a, .bs e] [stO g m u k n, smO m c es, unO u us, mkO k ks, acO ga b w cd sv] (fun r os' => r = .tpl [] ∧ ∃ u', os' = [stO g m u' k n, smO m c es, unO u' (undid ks us (wasC a cd)), mkO k ks, acO ga b w e sv]) := by
  have h1 := of_in (g := g) (m := m) (c := c) (u := u) (k := k) (n := n) h
  have h2 := change_inA (g := g) (m := m) (c := c) (u := u) (k := k) (n := n) (ks := ks) (T := 179) (d := .tup [.arr 20 a, .bs cd]) (b := b) (w := w) (cd := cd) (sv := sv) h hu
  have h3 := Fn.toM (f_Clone e hl)
  refine FnM.walk 22 Tryz.func53 rfl Tryz.ntmps53 (by simp) fun X => ?_
  repeat
    (first
     | (apply P_box; exact rfl; exact rfl; exact rfl; intro _) | apply EL.nil | ((with_reducible apply EK.then_normal); apply EK.code)
     | (with_reducible first | apply EC.seq | apply EC.region | apply EC.skip | apply EC.label | apply EC.block | apply EC.exit | apply EC.ret | apply EK.in_normal | apply EK.in_same | apply EK.in_ret | apply EK.then_ret | apply EK.then_exit))
  refine EC.le (Le.pick [1, 2, 5, 3, 4, 0] [_, _, _, _, _, _] rfl (by decide) rfl) ?_
  refine EC.drawC 14 [0, 1, 2, 3, 4, 12] [5, 6, 7, 8, 9, 10, 11, 13] [_, _, _, _, _] _ (by kernel_rfl) (by kernel_rfl) rfl ?_
  simp only [pickL, List.filterMap_cons, List.filterMap_nil, List.getElem?_cons_zero, List.getElem?_cons_succ]
  repeat
    (first
     | (apply H_move; (iterate 3 exact rfl)) | (apply H_load; exact rfl; (first | exact I0 | exact I1 | exact I2 | exact I3 | exact I4 | exact I5 | exact I6); (iterate 4 exact rfl)))
  refine EM.nil ?_
  repeat (first | rw [List.cons_append] | rw [List.nil_append])
  refine CH.callM (rest := [_, _, _]) h1 rfl rfl (RefineL.refl _ _) (by intro _ _; simp [go_sem]) rfl rfl ?_
  rintro _ _ ⟨rfl, rfl⟩
  try simp only [St.put]
  repeat (first | rw [List.cons_append] | rw [List.nil_append])
  refine CH.cut 5 ?_
  simp only [List.take_succ_cons, List.take_zero, List.drop_succ_cons, List.drop_zero]
  repeat
    (first
     | (apply H_field; (iterate 6 exact rfl)) | (apply H_load; exact rfl; (first | exact I0 | exact I1 | exact I2 | exact I3 | exact I4 | exact I5 | exact I6); (iterate 4 exact rfl))
     | (apply H_build; (iterate 7 exact rfl)) | (apply H_nilck; (iterate 3 exact rfl)) | (apply H_mkifc; (iterate 4 exact rfl)))
  refine EM.nil ?_
  repeat (first | rw [List.cons_append] | rw [List.nil_append])
  refine CH.callM (rest := []) h2 rfl rfl (RefineL.refl _ _) (by intro _ _; simp [go_sem]) rfl rfl ?_
  rintro _ _ ⟨u', rfl, rfl⟩
  try simp only [St.put]
  repeat (first | rw [List.cons_append] | rw [List.nil_append])
  refine CH.callM (rest := [_, _, _, _, _]) h3 rfl rfl (RefineL.refl _ _) (by intro _ _; simp [go_sem]) rfl rfl ?_
  rintro _ _ ⟨rfl, rfl⟩
  try simp only [St.put]
  repeat (first | rw [List.cons_append] | rw [List.nil_append])
  refine CH.nil ?_
  try simp only [List.drop_succ_cons, List.drop_zero]
  repeat
    (first
     | (apply P_field; (iterate 6 exact rfl)) | (apply P_nilck; (iterate 3 exact rfl)) | (apply P_store; exact rfl; (focus (repeat first | exact .z | apply SetAt.s | apply SetAtF.s)); (iterate 4 exact rfl))
     | apply EL.nil)
  exact EK.retM0n [stO g m u' k n, smO m c es, unO u' (undid ks us (wasC a cd)), mkO k ks, acO ga b w e sv] rfl (by (repeat first | exact List.nil_sublist _ | apply List.Sublist.cons_cons | apply List.Sublist.cons)) ⟨rfl, u', rfl⟩
set_option maxRecDepth 20000 in
set_option maxHeartbeats 4000000 in
theorem setCode_out {e : List UInt8} (h : getE es a = none) (hu : us.length < 1099511627776) (hl : e.length ≤ 140737488355328) : FnM 53 [.v (ptr g), .arr 20 a, .bs e] [stO g m u k n, smO m c es, unO u us, mkO k ks] (fun r os' => r = .tpl [] ∧ ∃ u' ga gs, os' = [stO g m u' k n, smO m (tickE c es a) (putE c es a (.v (ptr ga))), unO u' (undid ks us (.ifc 179 (.tup [.arr 20 a, .v nilS]))), mkO k ks, acO ga 0 zero32 e (.map (some gs)), .map gs 32 0 []]) := by
  have h1 := of_out (g := g) (m := m) (c := c) (u := u) (k := k) (n := n) h
  have h2 := change_out (g := g) (m := m) (c := c) (u := u) (k := k) (n := n) (ks := ks) (T := 179) (d := .tup [.arr 20 a, .v nilS]) h hu
  have h3 := Fn.toM (f_Clone e hl)
  refine FnM.walk 22 Tryz.func53 rfl Tryz.ntmps53 (by simp) fun X => ?_
  repeat
    (first
     | (apply P_box; exact rfl; exact rfl; exact rfl; intro _) | apply EL.nil | ((with_reducible apply EK.then_normal); apply EK.code)
     | (with_reducible first | apply EC.seq | apply EC.region | apply EC.skip | apply EC.label | apply EC.block | apply EC.exit | apply EC.ret | apply EK.in_normal | apply EK.in_same | apply EK.in_ret | apply EK.then_ret | apply EK.then_exit))
  refine EC.le (Le.pick [1, 2, 3, 4, 0] [_, _, _, _, _] rfl (by decide) rfl) ?_
  refine EC.drawC 14 [0, 1, 2, 3, 4, 12] [5, 6, 7, 8, 9, 10, 11, 13] [_, _, _, _] _ (by kernel_rfl) (by kernel_rfl) rfl ?_
  simp only [pickL, List.filterMap_cons, List.filterMap_nil, List.getElem?_cons_zero, List.getElem?_cons_succ]
  repeat
    (first
     | (apply H_move; (iterate 3 exact rfl)) | (apply H_load; exact rfl; (first | exact I0 | exact I1 | exact I2 | exact I3 | exact I4 | exact I5 | exact I6); (iterate 4 exact rfl)))
  refine EM.nil ?_
  repeat (first | rw [List.cons_append] | rw [List.nil_append])
  refine CH.callM (rest := [_, _]) h1 rfl rfl (RefineL.refl _ _) (by intro _ _; simp [go_sem]) rfl rfl ?_
  rintro _ _ ⟨gz, rfl, rfl⟩
  try simp only [St.put]
  repeat (first | rw [List.cons_append] | rw [List.nil_append])
  refine CH.cut 5 ?_
  simp only [List.take_succ_cons, List.take_zero, List.drop_succ_cons, List.drop_zero]
  repeat
    (first
     | (apply H_field; (iterate 6 exact rfl)) | (apply H_load; exact rfl; (first | exact I0 | exact I1 | exact I2 | exact I3 | exact I4 | exact I5 | exact I6); (iterate 4 exact rfl))
     | (apply H_build; (iterate 7 exact rfl)) | (apply H_nilck; (iterate 3 exact rfl)) | (apply H_mkifc; (iterate 4 exact rfl)))
  refine EM.nil ?_
  repeat (first | rw [List.cons_append] | rw [List.nil_append])
  refine CH.callM (rest := []) ((h2.frame [zaO gz]).pick [4, 0, 1, 2, 3] rfl (by decide)) rfl rfl (RefineL.refl _ _) (by intro _ _; simp [go_sem]) rfl rfl ?_
  rintro _ _ ⟨_, ⟨u', ga, gs, rfl, rfl⟩, rfl⟩
  try simp only [St.put]
  repeat (first | rw [List.cons_append] | rw [List.nil_append])
  refine CH.callM (rest := [_, _, _, _, _, _, _]) h3 rfl rfl (RefineL.refl _ _) (by intro _ _; simp [go_sem]) rfl rfl ?_
  rintro _ _ ⟨rfl, rfl⟩
  try simp only [St.put]
  repeat (first | rw [List.cons_append] | rw [List.nil_append])
  refine CH.nil ?_
  try simp only [List.drop_succ_cons, List.drop_zero]
  repeat
    (first
     | (apply P_field; (iterate 6 exact rfl)) | (apply P_nilck; (iterate 3 exact rfl)) | (apply P_store; exact rfl; (focus (repeat first | exact .z | apply SetAt.s | apply SetAtF.s)); (iterate 4 exact rfl))
     | apply EL.nil)
  refine EK.le (Le.pick [2, 3, 4, 5, 0, 1, 6, 7] [_, _, _, _, _, _, _, _] rfl (by decide) rfl) ?_
  exact EK.retM0n [stO g m u' k n, smO m (tickE c es a) (putE c es a (.v (ptr ga))), unO u' (undid ks us (.ifc 179 (.tup [.arr 20 a, .v nilS]))), mkO k ks, acO ga 0 zero32 e (.map (some gs)), .map gs 32 0 []] rfl (by (repeat first | exact List.nil_sublist _ | apply List.Sublist.cons_cons | apply List.Sublist.cons)) ⟨rfl, u', ga, gs, rfl⟩
set_option maxRecDepth 20000 in
set_option maxHeartbeats 4000000 in
theorem kill_in (h : getE es a = some (.v (ptr ga))) (hu : us.length < 1099511627776) : FnM 54 [.v (ptr g), .arr 20 a] [stO g m u k n, smO m c es, unO u us, mkO k ks] (fun r os' => r = .tpl [] ∧ ∃ u' ga' gs', os' = [stO g m u' k n, smO m (tickE c es a) (putE c es a (.v (ptr ga'))), unO u' (undid ks us (wasA a (ptr ga))), mkO k ks, acO ga' 0 zero32 [] (.map (some gs')), .map gs' 32 0 []]) := by
  have hg : (getE es a).getD (.v (.pointer none)) = .v (ptr ga) := by rw [h]; rfl
  have h2 := change_in (g := g) (m := m) (c := c) (u := u) (k := k) (n := n) (ks := ks) (T := 181) (d := .tup [.arr 20 a, .v (ptr ga)]) h hu
  refine FnM.walk 24 Tryz.func54 rfl Tryz.ntmps54 (by simp) fun X => ?_
  repeat
    (first
     | (apply P_box; exact rfl; exact rfl; exact rfl; intro _) | apply EL.nil | ((with_reducible apply EK.then_normal); apply EK.code)
     | (with_reducible first | apply EC.seq | apply EC.region | apply EC.skip | apply EC.label | apply EC.block | apply EC.exit | apply EC.ret | apply EK.in_normal | apply EK.in_same | apply EK.in_ret | apply EK.then_ret | apply EK.then_exit))
  refine EC.le (Le.pick [1, 2, 3, 4, 0] [_, _, _, _, _] rfl (by decide) rfl) ?_
  refine EC.drawC 12 [0, 1, 2, 3, 4, 5, 7] [6, 8, 9, 10, 11] [_, _, _, _] _ (by kernel_rfl) (by kernel_rfl) rfl ?_
  simp only [pickL, List.filterMap_cons, List.filterMap_nil, List.getElem?_cons_zero, List.getElem?_cons_succ]
  repeat
    (first
     | (apply H_move; (iterate 3 exact rfl)) | (apply H_field; (iterate 6 exact rfl))
     | (apply H_load; exact rfl; (first | exact I0 | exact I1 | exact I2 | exact I3 | exact I4 | exact I5 | exact I6); (iterate 4 exact rfl)) | (apply H_nilck; (iterate 3 exact rfl)))
  refine EM.nil ?_
  repeat (first | rw [List.cons_append] | rw [List.nil_append])
  refine CH.cut 4 ?_
  simp only [List.take_succ_cons, List.take_zero, List.drop_succ_cons, List.drop_zero]
  repeat
    (first
     | (apply H_lookup; exact hg; exact rfl; (first | exact I0 | exact I1 | exact I2 | exact I3); (iterate 5 exact rfl))
     | (apply H_load; exact rfl; (first | exact I0 | exact I1 | exact I2 | exact I3 | exact I4 | exact I5 | exact I6); (iterate 4 exact rfl)) | (apply H_build; (iterate 7 exact rfl))
     | (apply H_mkifc; (iterate 4 exact rfl)))
  refine EM.nil ?_
  repeat (first | rw [List.cons_append] | rw [List.nil_append])
  refine CH.callM (rest := []) h2 rfl rfl (RefineL.refl _ _) (by intro _ _; simp [go_sem]) rfl rfl ?_
  rintro _ _ ⟨u', rfl, rfl⟩
  try simp only [St.put]
  repeat (first | rw [List.cons_append] | rw [List.nil_append])
  refine CH.nil ?_
  try simp only [List.drop_succ_cons, List.drop_zero]
  repeat
    (first
     | apply EL.nil | ((with_reducible apply EK.then_normal); apply EK.code))
  refine EC.drawC 8 [0, 1, 2, 3, 4] [5, 6, 7] [] _ (by kernel_rfl) (by kernel_rfl) rfl ?_
  simp only [pickL, List.filterMap_cons, List.filterMap_nil, List.getElem?_cons_zero, List.getElem?_cons_succ]
  repeat
    (first
     | (apply H_move; (iterate 3 exact rfl)) | (apply H_field; (iterate 6 exact rfl))
     | (apply H_load; exact rfl; (first | exact I0 | exact I1 | exact I2 | exact I3 | exact I4 | exact I5 | exact I6); (iterate 4 exact rfl)) | (apply H_nilck; (iterate 3 exact rfl)))
  refine EM.nil ?_
  repeat (first | rw [List.cons_append] | rw [List.nil_append])
  refine CH.mut (os := []) (rest := []) rfl rfl (m_makeMap rfl rfl) ?_
  rintro _ _ ⟨gs', rfl, rfl⟩
  try simp only [St.put]
  repeat (first | rw [List.cons_append] | rw [List.nil_append])
  refine CH.cut 1 ?_
  simp only [List.take_succ_cons, List.take_zero, List.drop_succ_cons, List.drop_zero]
  repeat
    (first
     | (apply H_build; (iterate 7 exact rfl)))
  refine EM.nil ?_
  repeat (first | rw [List.cons_append] | rw [List.nil_append])
  refine CH.mut (os := []) (rest := [_]) rfl rfl (m_box rfl rfl) ?_
  rintro _ _ ⟨ga', rfl, rfl⟩
  try simp only [St.put]
  repeat (first | rw [List.cons_append] | rw [List.nil_append])
  refine CH.nil ?_
  try simp only [List.drop_succ_cons, List.drop_zero]
  repeat
    (first
     | (apply P_mapUpd; exact rfl; (focus (repeat first | exact .z | apply SetAt.s | apply SetAtF.s)); (iterate 4 exact rfl)) | apply EL.nil)
  refine EK.le (Le.varR (d' := .tup [.v (.int .i64 0), .arr 32 zero32, .bs [], .v (.map (some gs'))]) ?_) ?_
  · exact Rf.tup (RL.cons Rf.same (RL.cons Rf.same (RL.cons Rf.bs0 (RL.cons Rf.same RL.nil))))
  refine EK.le (Le.pick [2, 3, 4, 5, 0, 1, 6] [_, _, _, _, _, _, _] rfl (by decide) rfl) ?_
  exact EK.retM0n [stO g m u' k n, smO m (tickE c es a) (putE c es a (.v (ptr ga'))), unO u' (undid ks us (wasA a (ptr ga))), mkO k ks, acO ga' 0 zero32 [] (.map (some gs')), .map gs' 32 0 []] rfl (by (repeat first | exact List.nil_sublist _ | apply List.Sublist.cons_cons | apply List.Sublist.cons)) ⟨rfl, u', ga', gs', rfl⟩
set_option maxRecDepth 20000 in
set_option maxHeartbeats 4000000 in
theorem kill_out (h : getE es a = none) (hu : us.length < 1099511627776) : FnM 54 [.v (ptr g), .arr 20 a] [stO g m u k n, smO m c es, unO u us, mkO k ks] (fun r os' => r = .tpl [] ∧ ∃ u' ga ga' gs', os' = [stO g m u' k n, smO m (tickE (tickE c es a) (putE c es a (.v (ptr ga))) a) (putE (tickE c es a) (putE c es a (.v (ptr ga))) a (.v (ptr ga'))), unO u' (undid ks us (wasA a (.pointer none))), mkO k ks, acO ga' 0 zero32 [] (.map (some gs')), .map gs' 32 0 []]) := by
  have hg : (getE es a).getD (.v (.pointer none)) = .v (.pointer none) := by rw [h]; rfl
  have h2 := change_out (g := g) (m := m) (c := c) (u := u) (k := k) (n := n) (ks := ks) (T := 181) (d := .tup [.arr 20 a, .v (.pointer none)]) h hu
  refine FnM.walk 24 Tryz.func54 rfl Tryz.ntmps54 (by simp) fun X => ?_
  repeat
    (first
     | (apply P_box; exact rfl; exact rfl; exact rfl; intro _) | apply EL.nil | ((with_reducible apply EK.then_normal); apply EK.code)
     | (with_reducible first | apply EC.seq | apply EC.region | apply EC.skip | apply EC.label | apply EC.block | apply EC.exit | apply EC.ret | apply EK.in_normal | apply EK.in_same | apply EK.in_ret | apply EK.then_ret | apply EK.then_exit))
  refine EC.le (Le.pick [1, 2, 3, 4, 0] [_, _, _, _, _] rfl (by decide) rfl) ?_
  refine EC.drawC 12 [0, 1, 2, 3, 4, 5, 7] [6, 8, 9, 10, 11] [_, _, _, _] _ (by kernel_rfl) (by kernel_rfl) rfl ?_
  simp only [pickL, List.filterMap_cons, List.filterMap_nil, List.getElem?_cons_zero, List.getElem?_cons_succ]
  repeat
    (first
     | (apply H_move; (iterate 3 exact rfl)) | (apply H_field; (iterate 6 exact rfl))
     | (apply H_load; exact rfl; (first | exact I0 | exact I1 | exact I2 | exact I3 | exact I4 | exact I5 | exact I6); (iterate 4 exact rfl)) | (apply H_nilck; (iterate 3 exact rfl)))
  refine EM.nil ?_
  repeat (first | rw [List.cons_append] | rw [List.nil_append])
  refine CH.cut 4 ?_
  simp only [List.take_succ_cons, List.take_zero, List.drop_succ_cons, List.drop_zero]
  repeat
    (first
     | (apply H_lookup; exact hg; exact rfl; (first | exact I0 | exact I1 | exact I2 | exact I3); (iterate 5 exact rfl))
     | (apply H_load; exact rfl; (first | exact I0 | exact I1 | exact I2 | exact I3 | exact I4 | exact I5 | exact I6); (iterate 4 exact rfl)) | (apply H_build; (iterate 7 exact rfl))
     | (apply H_mkifc; (iterate 4 exact rfl)))
  refine EM.nil ?_
  repeat (first | rw [List.cons_append] | rw [List.nil_append])
  refine CH.callM (rest := []) h2 rfl rfl (RefineL.refl _ _) (by intro _ _; simp [go_sem]) rfl rfl ?_
  rintro _ _ ⟨u', ga, gs, rfl, rfl⟩
  try simp only [St.put]
  repeat (first | rw [List.cons_append] | rw [List.nil_append])
  refine CH.nil ?_
  try simp only [List.drop_succ_cons, List.drop_zero]
  repeat
    (first
     | apply EL.nil | ((with_reducible apply EK.then_normal); apply EK.code))
  refine EC.le (Le.pick [2, 3, 4, 5, 6, 0, 1] [_, _, _, _, _, _, _] rfl (by decide) rfl) ?_
  refine EC.drawC 8 [0, 1, 2, 3, 4] [5, 6, 7] [] _ (by kernel_rfl) (by kernel_rfl) rfl ?_
  simp only [pickL, List.filterMap_cons, List.filterMap_nil, List.getElem?_cons_zero, List.getElem?_cons_succ]
  repeat
    (first
     | (apply H_move; (iterate 3 exact rfl)) | (apply H_field; (iterate 6 exact rfl))
     | (apply H_load; exact rfl; (first | exact I0 | exact I1 | exact I2 | exact I3 | exact I4 | exact I5 | exact I6); (iterate 4 exact rfl)) | (apply H_nilck; (iterate 3 exact rfl)))
  refine EM.nil ?_
  repeat (first | rw [List.cons_append] | rw [List.nil_append])
  refine CH.mut (os := []) (rest := []) rfl rfl (m_makeMap rfl rfl) ?_
  rintro _ _ ⟨gs', rfl, rfl⟩
  try simp only [St.put]
  repeat (first | rw [List.cons_append] | rw [List.nil_append])
  refine CH.cut 1 ?_
  simp only [List.take_succ_cons, List.take_zero, List.drop_succ_cons, List.drop_zero]
  repeat
    (first
     | (apply H_build; (iterate 7 exact rfl)))
  refine EM.nil ?_
  repeat (first | rw [List.cons_append] | rw [List.nil_append])
  refine CH.mut (os := []) (rest := [_]) rfl rfl (m_box rfl rfl) ?_
  rintro _ _ ⟨ga', rfl, rfl⟩
  try simp only [St.put]
  repeat (first | rw [List.cons_append] | rw [List.nil_append])
  refine CH.nil ?_
  try simp only [List.drop_succ_cons, List.drop_zero]
  repeat
    (first
     | (apply P_mapUpd; exact rfl; (focus (repeat first | exact .z | apply SetAt.s | apply SetAtF.s)); (iterate 4 exact rfl)) | apply EL.nil)
  refine EK.le (Le.varR (d' := .tup [.v (.int .i64 0), .arr 32 zero32, .bs [], .v (.map (some gs'))]) ?_) ?_
  · exact Rf.tup (RL.cons Rf.same (RL.cons Rf.same (RL.cons Rf.bs0 (RL.cons Rf.same RL.nil))))
  refine EK.le (Le.pick [2, 3, 4, 5, 0, 1, 6, 7, 8] [_, _, _, _, _, _, _, _, _] rfl (by decide) rfl) ?_
  exact EK.retM0n [stO g m u' k n, smO m (tickE (tickE c es a) (putE c es a (.v (ptr ga))) a) (putE (tickE c es a) (putE c es a (.v (ptr ga))) a (.v (ptr ga'))), unO u' (undid ks us (wasA a (.pointer none))), mkO k ks, acO ga' 0 zero32 [] (.map (some gs')), .map gs' 32 0 []] rfl (by (repeat first | exact List.nil_sublist _ | apply List.Sublist.cons_cons | apply List.Sublist.cons)) ⟨rfl, u', ga, ga', gs', rfl⟩
end
end E
end Go.Proofs.YtdhicdnmgmkpkaaGreat
/-
  The program's state without marks, as what it tells of each address.
  Conditions: none.
-/
namespace Go.Proofs.YtdhicdnmgmkpkaaGreat
set_option linter.unusedVariables false
open Go.RowKit Mono Rlp Wd
namespace E
structure Ac where
  n : Int
  w : List UInt8
  cd : List UInt8
  sl : List UInt8 → List UInt8
def Ac.zero : Ac := ⟨0, zero32, [], fun _ => zero32⟩
abbrev As := List UInt8 → Ac
def As.upd (A : As) (a : List UInt8) (x : Ac) : As := fun b => if a = b then x else A b
structure PA where
  g : Nat
  n : Int
  w : List UInt8
  cd : List UInt8
  gs : Nat
  sc : Nat
  ss : List Ent
def PA.os (p : PA) : List Obj := [acO p.g p.n p.w p.cd (.map (some p.gs)), .map p.gs 32 p.sc p.ss]
structure PA.Is (p : PA) (x : Ac) (N : Nat) : Prop where
  n : p.n = x.n
  w : p.w = x.w
  cd : p.cd = x.cd
  sl : ∀ k, slE p.ss k = .arr 32 (x.sl k)
  ent : ∀ e ∈ p.ss, ∃ v, e.2.2 = .arr 32 v ∧ v ≠ zero32
  nod : (p.ss.map (·.2.1)).Nodup
  len : p.ss.length ≤ N
  cl : p.cd.length ≤ 140737488355328
structure PInv (es : List Ent) (ps : List PA) (A : As) (N : Nat) : Prop where
  out : ∀ a, getE es a = none → A a = Ac.zero
  inn : ∀ a d, getE es a = some d → ∃ p ∈ ps, d = .v (ptr p.g) ∧ p.Is (A a) N
  inj : ∀ a b d, getE es a = some d → getE es b = some d → a = b
  nod : (es.map (·.2.1)).Nodup
  len : es.length ≤ N
def psO (g m c : Nat) (es : List Ent) (u k : Value) (n : Int) (us : List D) (ps : List PA) : List Obj := [stO g m u k n, smO m c es, unO u us, mkO k []] ++ ps.flatMap PA.os
def PSt (g : Nat) (A : As) (N : Nat) (os : List Obj) : Prop := ∃ m c es u k n us ps, os = psO g m c es u k n us ps ∧ PInv es ps A N ∧ us.length < 1099511627776
theorem flat_perm (ps1 ps2 : List PA) (p : PA) : ((ps1 ++ p :: ps2).flatMap PA.os).Perm (p.os ++ (ps1 ++ ps2).flatMap PA.os) := by
  rw [List.flatMap_append, List.flatMap_cons, List.flatMap_append, ← List.append_assoc, ← List.append_assoc]
  exact List.Perm.append_right _ List.perm_append_comm
theorem FnM.lift {f : FuncId} {ds : List D} {hdr : List Obj} {p : PA} {Ψ : R → List Obj → PA → Prop} (ps1 ps2 : List PA) (h : FnM f ds (hdr ++ p.os) (fun r os' => ∃ hdr' p', Ψ r hdr' p' ∧ os' = hdr' ++ p'.os)) : FnM f ds (hdr ++ (ps1 ++ p :: ps2).flatMap PA.os) (fun r os' => ∃ hdr' p', Ψ r hdr' p' ∧ os' = hdr' ++ (ps1 ++ p' :: ps2).flatMap PA.os) := by
  have h1 := (h.frame ((ps1 ++ ps2).flatMap PA.os)).perm (os2 := hdr ++ (ps1 ++ p :: ps2).flatMap PA.os) (by
    rw [List.append_assoc]
    exact List.Perm.append_left _ (flat_perm ps1 ps2 p).symm)
  refine FnM.out h1 ?_
  rintro r _ ⟨_, ⟨hdr', p', hΨ, rfl⟩, rfl⟩
  refine ⟨_, ?_, hdr', p', hΨ, rfl⟩
  rw [List.append_assoc]
  exact List.Perm.append_left _ (flat_perm ps1 ps2 p').symm
theorem FnM.apart {f : FuncId} {ds : List D} {os : List Obj} {Φ : R → List Obj → Prop} (h : FnM f ds os Φ) : FnM f ds os (fun r os' => Φ r os' ∧ Apart os') := ⟨fun ok w xs h1 h2 h3 => (h.go ok w xs h1 h2 h3).mono fun e w' ⟨v, r, os', e1, e2, e3, e4⟩ => ⟨v, r, os', e1, ⟨e2, e3.apart⟩, e3, e4⟩⟩
theorem putE_length (c : Nat) (es : List Ent) (l : List UInt8) (d : D) : (putE c es l d).length ≤ es.length + 1 := by
  unfold putE
  split
  · have := congrArg List.length (setE_keys es l d)
    simp at this
    omega
  · simp
theorem putE_nodup (c : Nat) (es : List Ent) (l : List UInt8) (d : D) (h : (es.map (·.2.1)).Nodup) : ((putE c es l d).map (·.2.1)).Nodup := by
  unfold putE
  cases hh : hasE es l
  · rw [if_neg (by simp), List.map_append]
    have hn : l ∉ es.map (·.2.1) := by
      rw [hasE_iff] at hh
      exact (getE_none es l).1 (by simpa using hh)
    refine List.nodup_append.2 ⟨h, by simp, fun x hx y hy => ?_⟩
    obtain rfl : y = l := by simpa using hy
    exact fun e => hn (e ▸ hx)
  · rw [if_pos rfl, setE_keys]
    exact h
variable {es es' : List Ent} {ps ps1 ps2 : List PA} {A : As} {N : Nat} {a : List UInt8} {p p' : PA} {x : Ac}
theorem PInv.turned (h : PInv es (ps1 ++ p :: ps2) A N) (ha : getE es a = some (.v (ptr p.g))) (hg : p'.g = p.g) (hx : p'.Is x (N + 1)) : PInv es (ps1 ++ p' :: ps2) (A.upd a x) (N + 1) := by
  refine ⟨fun b hb => ?_, fun b d hb => ?_, h.inj, h.nod, Nat.le_succ_of_le h.len⟩
  · unfold As.upd
    rw [if_neg fun e => by rw [← e, ha] at hb; cases hb]
    exact h.out b hb
  · unfold As.upd
    by_cases e : a = b
    · subst e
      rw [if_pos rfl]
      rw [ha] at hb
      cases hb
      exact ⟨p', by simp, by rw [hg], hx⟩
    · rw [if_neg e]
      obtain ⟨q, hq, rfl, hi⟩ := h.inn b d hb
      have hne : q.g ≠ p.g := fun e' => e (h.inj a b _ ha (by rw [hb, e']))
      refine ⟨q, ?_, rfl, ⟨hi.n, hi.w, hi.cd, hi.sl, hi.ent, hi.nod, Nat.le_succ_of_le hi.len, hi.cl⟩⟩
      rcases List.mem_append.1 hq with hq | hq
      · exact List.mem_append_left _ hq
      · rcases List.mem_cons.1 hq with rfl | hq
        · exact absurd rfl hne
        · exact List.mem_append_right _ (List.mem_cons_of_mem _ hq)
theorem PInv.fresh (h : PInv es ps A N) (hes : ∀ b, getE es' b = if a = b then some (.v (ptr p'.g)) else getE es b) (hn : (es'.map (·.2.1)).Nodup) (hl : es'.length ≤ N + 1) (hx : p'.Is x (N + 1)) (hnew : ∀ q ∈ ps, q.g ≠ p'.g) : PInv es' (p' :: ps) (A.upd a x) (N + 1) := by
  refine ⟨fun b hb => ?_, fun b d hb => ?_, fun b b' d hb hb' => ?_, hn, hl⟩
  · rw [hes] at hb
    unfold As.upd
    by_cases e : a = b
    · rw [if_pos e] at hb
      cases hb
    · rw [if_neg e] at hb ⊢
      exact h.out b hb
  · rw [hes] at hb
    unfold As.upd
    by_cases e : a = b
    · rw [if_pos e] at hb ⊢
      cases hb
      exact ⟨p', by simp, rfl, hx⟩
    · rw [if_neg e] at hb ⊢
      obtain ⟨q, hq, rfl, hi⟩ := h.inn b d hb
      exact ⟨q, List.mem_cons_of_mem _ hq, rfl, ⟨hi.n, hi.w, hi.cd, hi.sl, hi.ent, hi.nod, Nat.le_succ_of_le hi.len, hi.cl⟩⟩
  · rw [hes] at hb hb'
    by_cases e : a = b
    · rw [if_pos e] at hb
      cases hb
      by_cases e' : a = b'
      · rw [← e, ← e']
      · rw [if_neg e'] at hb'
        obtain ⟨q, hq, hd, _⟩ := h.inn b' _ hb'
        have : q.g = p'.g := by simp at hd; exact hd.symm
        exact absurd this (hnew q hq)
    · rw [if_neg e] at hb
      by_cases e' : a = b'
      · rw [if_pos e'] at hb'
        cases hb'
        obtain ⟨q, hq, hd, _⟩ := h.inn b _ hb
        have : q.g = p'.g := by simp at hd; exact hd.symm
        exact absurd this (hnew q hq)
      · rw [if_neg e'] at hb'
        exact h.inj b b' d hb hb'
theorem apart_new {hdr : List Obj} (h : Apart (hdr ++ p'.os ++ ps.flatMap PA.os)) : ∀ q ∈ ps, q.g ≠ p'.g := fun q hq e => by
  rw [List.append_assoc] at h
  have h1 := (List.pairwise_append.1 h).2.1
  have h2 := (List.pairwise_append.1 h1).2.2 (acO p'.g p'.n p'.w p'.cd (.map (some p'.gs))) (by simp [PA.os]) (acO q.g q.n q.w q.cd (.map (some q.gs))) (List.mem_flatMap.2 ⟨q, hq, by simp [PA.os]⟩) p'.g rfl
  exact h2 (by simp [Obj.blk, e])
end E
end Go.Proofs.YtdhicdnmgmkpkaaGreat
/-
  The program's state without marks: what its functions make of what it tells.
  Conditions: none.
-/
namespace Go.Proofs.YtdhicdnmgmkpkaaGreat
set_option linter.unusedVariables false
open Go.RowKit Mono Rlp Wd
namespace E
theorem mem_setE : ∀ (es : List Ent) (l : List UInt8) (d : D) (e : Ent), e ∈ setE es l d → e ∈ es ∨ e.2.2 = d
  | [], l, d, e, h => by simp [setE] at h
  | x :: es, l, d, e, h => by
    rw [setE] at h
    split at h
    · rcases List.mem_cons.1 h with rfl | h
      · exact .inr rfl
      · exact .inl (List.mem_cons_of_mem _ h)
    · rcases List.mem_cons.1 h with rfl | h
      · exact .inl (List.mem_cons_self ..)
      · exact (mem_setE es l d e h).imp (List.mem_cons_of_mem _) id
theorem mem_putE (c : Nat) (es : List Ent) (l : List UInt8) (d : D) (e : Ent) (h : e ∈ putE c es l d) : e ∈ es ∨ e.2.2 = d := by
  unfold putE at h
  split at h
  · exact mem_setE es l d e h
  · rcases List.mem_append.1 h with h | h
    · exact .inl h
    · obtain rfl : e = _ := by simpa using h
      exact .inr rfl
theorem slE_put (c : Nat) (ss : List Ent) (q v k : List UInt8) : slE (putE c ss q (.arr 32 v)) k = if q = k then .arr 32 v else slE ss k := by
  unfold slE
  rw [getE_putE]
  split <;> rfl
theorem slE_del (ss : List Ent) (q k : List UInt8) (h : (ss.map (·.2.1)).Nodup) : slE (delE ss q) k = if q = k then .arr 32 zero32 else slE ss k := by
  unfold slE
  rw [getE_delE _ _ _ h]
  split <;> rfl
theorem delE_length (es : List Ent) (l : List UInt8) : (delE es l).length ≤ es.length := (delE_sub es l).length_le
variable {g N : Nat} {A : As} {os : List Obj} {a : List UInt8}
theorem PA.Is.up {p : PA} {x : Ac} (h : p.Is x N) : p.Is x (N + 1) := ⟨h.n, h.w, h.cd, h.sl, h.ent, h.nod, Nat.le_succ_of_le h.len, h.cl⟩
theorem ps_do {f : FuncId} {ds : List D} {x : Ac} (h : PSt g A N os)
    (hin : ∀ m c es u k n us (p : PA), getE es a = some (.v (ptr p.g)) → us.length < 1099511627776 → p.Is (A a) N → FnM f ds ([stO g m u k n, smO m c es, unO u us, mkO k []] ++ p.os) (fun r os' => ∃ (hdr' : List Obj) (p' : PA), (r = .tpl [] ∧ (∃ u', hdr' = [stO g m u' k n, smO m c es, unO u' us, mkO k []]) ∧ p'.g = p.g ∧ p'.Is x (N + 1)) ∧ os' = hdr' ++ p'.os))
    (hout : ∀ m c es u k n us, getE es a = none → us.length < 1099511627776 → A a = Ac.zero → FnM f ds [stO g m u k n, smO m c es, unO u us, mkO k []] (fun r os' => r = .tpl [] ∧ ∃ (u' : Value) (p' : PA), os' = [stO g m u' k n, smO m (tickE c es a) (putE c es a (.v (ptr p'.g))), unO u' us, mkO k []] ++ p'.os ∧ p'.Is x (N + 1))) :
    FnM f ds os (fun r os' => r = .tpl [] ∧ PSt g (A.upd a x) (N + 1) os') := by
  obtain ⟨m, c, es, u, k, n, us, ps, rfl, hi, hu⟩ := h
  cases hE : getE es a with
  | some d =>
    obtain ⟨p, hp, rfl, his⟩ := hi.inn a d hE
    obtain ⟨ps1, ps2, rfl⟩ := List.append_of_mem hp
    refine FnM.mono (FnM.lift ps1 ps2 (hin m c es u k n us p hE hu his)) ?_
    rintro r _ ⟨hdr', p', ⟨rfl, ⟨u', rfl⟩, hg, hx⟩, rfl⟩
    exact ⟨rfl, m, c, es, u', k, n, us, _, rfl, hi.turned hE hg hx, hu⟩
  | none =>
    refine FnM.mono ((hout m c es u k n us hE hu (hi.out a hE)).frame (ps.flatMap PA.os)).apart ?_
    rintro r _ ⟨⟨_, ⟨rfl, u', p', rfl, hx⟩, rfl⟩, hap⟩
    refine ⟨rfl, m, tickE c es a, putE c es a (.v (ptr p'.g)), u', k, n, us, p' :: ps, ?_, hi.fresh (fun b => getE_putE c es a b _) (putE_nodup c es a _ hi.nod) (Nat.le_trans (putE_length c es a _) (Nat.succ_le_succ hi.len)) hx (apart_new hap), hu⟩
    unfold psO
    rw [List.append_assoc, List.flatMap_cons]
theorem ps_setNonce (h : PSt g A N os) (v : Int) : FnM 50 [.v (ptr g), .arr 20 a, .v (.int .i64 v)] os (fun r os' => r = .tpl [] ∧ PSt g (A.upd a {A a with n := if v > 0 then v else 0}) (N + 1) os') := by
  refine ps_do h (fun m c es u k n us p hE hu his => ?_) (fun m c es u k n us hE hu hz => ?_)
  · refine FnM.mono (FnM.frame (setNonce_in (g := g) (m := m) (c := c) (u := u) (k := k) (n := n) (ks := []) (b := p.n) (w := p.w) (cd := p.cd) (sv := .map (some p.gs)) (n' := v) hE hu) [.map p.gs 32 p.sc p.ss]) ?_
    rintro r _ ⟨_, ⟨rfl, u', rfl⟩, rfl⟩
    exact ⟨[stO g m u' k n, smO m c es, unO u' us, mkO k []], {p with n := if v > 0 then v else 0}, ⟨rfl, ⟨u', rfl⟩, rfl, ⟨rfl, his.w, his.cd, his.sl, his.ent, his.nod, his.up.len, his.cl⟩⟩, rfl⟩
  · refine FnM.mono (setNonce_out (g := g) (m := m) (c := c) (u := u) (k := k) (n := n) (ks := []) (n' := v) hE hu) ?_
    rintro r _ ⟨rfl, u', ga, gs, rfl⟩
    refine ⟨rfl, u', ⟨ga, if v > 0 then v else 0, zero32, [], gs, 0, []⟩, rfl, ?_⟩
    rw [hz]
    exact ⟨rfl, rfl, rfl, fun k => rfl, fun e he => by simp at he, List.nodup_nil, Nat.zero_le _, Nat.zero_le _⟩
theorem ps_setBalance (h : PSt g A N os) (v : List UInt8) : FnM 51 [.v (ptr g), .arr 20 a, .arr 32 v] os (fun r os' => r = .tpl [] ∧ PSt g (A.upd a {A a with w := v}) (N + 1) os') := by
  refine ps_do h (fun m c es u k n us p hE hu his => ?_) (fun m c es u k n us hE hu hz => ?_)
  · refine FnM.mono (FnM.frame (setBalance_in (g := g) (m := m) (c := c) (u := u) (k := k) (n := n) (ks := []) (b := p.n) (w := p.w) (cd := p.cd) (sv := .map (some p.gs)) (w' := v) hE hu) [.map p.gs 32 p.sc p.ss]) ?_
    rintro r _ ⟨_, ⟨rfl, u', rfl⟩, rfl⟩
    exact ⟨[stO g m u' k n, smO m c es, unO u' us, mkO k []], {p with w := v}, ⟨rfl, ⟨u', rfl⟩, rfl, ⟨his.n, rfl, his.cd, his.sl, his.ent, his.nod, his.up.len, his.cl⟩⟩, rfl⟩
  · refine FnM.mono (setBalance_out (g := g) (m := m) (c := c) (u := u) (k := k) (n := n) (ks := []) (w' := v) hE hu) ?_
    rintro r _ ⟨rfl, u', ga, gs, rfl⟩
    refine ⟨rfl, u', ⟨ga, 0, v, [], gs, 0, []⟩, rfl, ?_⟩
    rw [hz]
    exact ⟨rfl, rfl, rfl, fun k => rfl, fun e he => by simp at he, List.nodup_nil, Nat.zero_le _, Nat.zero_le _⟩
theorem ps_setCode (h : PSt g A N os) (v : List UInt8) (hl : v.length ≤ 140737488355328) : FnM 53 [.v (ptr g), .arr 20 a, .bs v] os (fun r os' => r = .tpl [] ∧ PSt g (A.upd a {A a with cd := v}) (N + 1) os') := by
  refine ps_do h (fun m c es u k n us p hE hu his => ?_) (fun m c es u k n us hE hu hz => ?_)
  · refine FnM.mono (FnM.frame (setCode_in (g := g) (m := m) (c := c) (u := u) (k := k) (n := n) (ks := []) (b := p.n) (w := p.w) (cd := p.cd) (sv := .map (some p.gs)) (e := v) hE hu hl) [.map p.gs 32 p.sc p.ss]) ?_
    rintro r _ ⟨_, ⟨rfl, u', rfl⟩, rfl⟩
    exact ⟨[stO g m u' k n, smO m c es, unO u' us, mkO k []], {p with cd := v}, ⟨rfl, ⟨u', rfl⟩, rfl, ⟨his.n, his.w, rfl, his.sl, his.ent, his.nod, his.up.len, hl⟩⟩, rfl⟩
  · refine FnM.mono (setCode_out (g := g) (m := m) (c := c) (u := u) (k := k) (n := n) (ks := []) (e := v) hE hu hl) ?_
    rintro r _ ⟨rfl, u', ga, gs, rfl⟩
    refine ⟨rfl, u', ⟨ga, 0, zero32, v, gs, 0, []⟩, rfl, ?_⟩
    rw [hz]
    exact ⟨rfl, rfl, rfl, fun k => rfl, fun e he => by simp at he, List.nodup_nil, Nat.zero_le _, hl⟩
def Ac.slot (x : Ac) (q v : List UInt8) : Ac := {x with sl := fun k => if q = k then v else x.sl k}
theorem ps_setSlot (h : PSt g A N os) (q v : List UInt8) : FnM 52 [.v (ptr g), .arr 20 a, .arr 32 q, .arr 32 v] os (fun r os' => r = .tpl [] ∧ PSt g (A.upd a ((A a).slot q v)) (N + 1) os') := by
  refine ps_do h (fun m c es u k n us p hE hu his => ?_) (fun m c es u k n us hE hu hz => ?_)
  · by_cases hv : v = zero32
    · subst hv
      refine FnM.mono (setSlot_in (g := g) (m := m) (c := c) (u := u) (k := k) (n := n) (ks := []) (b := p.n) (w := p.w) (cd := p.cd) (gs := p.gs) (sc := p.sc) hE (his.sl q) hu set_del) ?_
      rintro r _ ⟨rfl, u', rfl⟩
      refine ⟨[stO g m u' k n, smO m c es, unO u' us, mkO k []], {p with ss := delE p.ss q}, ⟨rfl, ⟨u', rfl⟩, rfl, his.n, his.w, his.cd, fun k => ?_, fun e he => his.ent e ((delE_sub _ _).subset he), his.nod.sublist ((delE_sub _ _).map _), Nat.le_trans (delE_length _ _) his.up.len, his.cl⟩, rfl⟩
      show slE (delE p.ss q) k = _
      rw [slE_del _ _ _ his.nod, his.sl k]
      unfold Ac.slot
      dsimp only
      split <;> rfl
    · refine FnM.mono (setSlot_in (g := g) (m := m) (c := c) (u := u) (k := k) (n := n) (ks := []) (b := p.n) (w := p.w) (cd := p.cd) (gs := p.gs) (sc := p.sc) hE (his.sl q) hu (set_put (by simpa using hv))) ?_
      rintro r _ ⟨rfl, u', rfl⟩
      refine ⟨[stO g m u' k n, smO m c es, unO u' us, mkO k []], {p with sc := tickE p.sc p.ss q, ss := putE p.sc p.ss q (.arr 32 v)}, ⟨rfl, ⟨u', rfl⟩, rfl, his.n, his.w, his.cd, fun k => ?_, fun e he => ?_, putE_nodup _ _ _ _ his.nod, Nat.le_trans (putE_length _ _ _ _) (Nat.succ_le_succ his.len), his.cl⟩, rfl⟩
      · show slE (putE p.sc p.ss q (.arr 32 v)) k = _
        rw [slE_put, his.sl k]
        unfold Ac.slot
        dsimp only
        split <;> rfl
      · rcases mem_putE _ _ _ _ _ he with he | he
        · exact his.ent e he
        · exact ⟨v, he, hv⟩
  · by_cases hv : v = zero32
    · subst hv
      refine FnM.mono (setSlot_out (g := g) (m := m) (c := c) (u := u) (k := k) (n := n) (ks := []) (q := q) (ss' := fun _ => delE [] q) (sc' := 0) hE hu (fun ga gs => set_del)) ?_
      rintro r _ ⟨rfl, u', ga, gs, rfl⟩
      refine ⟨rfl, u', ⟨ga, 0, zero32, [], gs, 0, []⟩, rfl, ?_⟩
      rw [hz]
      refine ⟨rfl, rfl, rfl, fun k => ?_, fun e he => by simp at he, List.nodup_nil, Nat.zero_le _, Nat.zero_le _⟩
      unfold Ac.slot Ac.zero
      dsimp only
      split <;> rfl
    · refine FnM.mono (setSlot_out (g := g) (m := m) (c := c) (u := u) (k := k) (n := n) (ks := []) (q := q) (ss' := fun _ => putE 0 [] q (.arr 32 v)) (sc' := tickE 0 [] q) hE hu (fun ga gs => set_put (by simpa using hv))) ?_
      rintro r _ ⟨rfl, u', ga, gs, rfl⟩
      refine ⟨rfl, u', ⟨ga, 0, zero32, [], gs, tickE 0 [] q, putE 0 [] q (.arr 32 v)⟩, rfl, ?_⟩
      rw [hz]
      refine ⟨rfl, rfl, rfl, fun k => ?_, fun e he => ?_, putE_nodup 0 [] q (.arr 32 v) List.nodup_nil, Nat.le_trans (putE_length 0 [] q (.arr 32 v)) (by simp), Nat.zero_le _⟩
      · show slE (putE 0 [] q (.arr 32 v)) k = _
        rw [slE_put]
        unfold Ac.slot Ac.zero
        dsimp only
        split <;> rfl
      · rcases mem_putE 0 [] q (.arr 32 v) e he with he | he
        · simp at he
        · exact ⟨v, he, hv⟩
theorem ps_kill (h : PSt g A N os) : FnM 54 [.v (ptr g), .arr 20 a] os (fun r os' => r = .tpl [] ∧ PSt g (A.upd a Ac.zero) (N + 1) os') := by
  obtain ⟨m, c, es, u, k, n, us, ps, rfl, hi, hu⟩ := h
  cases hE : getE es a with
  | some d =>
    obtain ⟨p, hp, rfl, his⟩ := hi.inn a d hE
    refine FnM.mono ((kill_in (g := g) (m := m) (c := c) (u := u) (k := k) (n := n) (ks := []) hE hu).frame (ps.flatMap PA.os)).apart ?_
    rintro r _ ⟨⟨_, ⟨rfl, u', ga', gs', rfl⟩, rfl⟩, hap⟩
    exact ⟨rfl, m, _, _, u', k, n, us, ⟨ga', 0, zero32, [], gs', 0, []⟩ :: ps, rfl, hi.fresh (p' := ⟨ga', 0, zero32, [], gs', 0, []⟩) (fun b => getE_putE c es a b _) (putE_nodup c es a _ hi.nod) (Nat.le_trans (putE_length c es a _) (Nat.succ_le_succ hi.len)) ⟨rfl, rfl, rfl, fun k => rfl, fun e he => by simp at he, List.nodup_nil, Nat.zero_le _, Nat.zero_le _⟩ (apart_new (hdr := [stO g m u' k n, smO m (tickE c es a) (putE c es a (.v (ptr ga'))), unO u' us, mkO k []]) (p' := ⟨ga', 0, zero32, [], gs', 0, []⟩) hap), hu⟩
  | none =>
    refine FnM.mono ((kill_out (g := g) (m := m) (c := c) (u := u) (k := k) (n := n) (ks := []) hE hu).frame (ps.flatMap PA.os)).apart ?_
    rintro r _ ⟨⟨_, ⟨rfl, u', ga, ga', gs', rfl⟩, rfl⟩, hap⟩
    refine ⟨rfl, m, _, _, u', k, n, us, ⟨ga', 0, zero32, [], gs', 0, []⟩ :: ps, rfl, hi.fresh (p' := ⟨ga', 0, zero32, [], gs', 0, []⟩) (fun b => ?_) (putE_nodup _ _ a _ (putE_nodup c es a _ hi.nod)) ?_ ⟨rfl, rfl, rfl, fun k => rfl, fun e he => by simp at he, List.nodup_nil, Nat.zero_le _, Nat.zero_le _⟩ (apart_new (hdr := [stO g m u' k n, smO m (tickE (tickE c es a) (putE c es a (.v (ptr ga))) a) (putE (tickE c es a) (putE c es a (.v (ptr ga))) a (.v (ptr ga'))), unO u' us, mkO k []]) (p' := ⟨ga', 0, zero32, [], gs', 0, []⟩) hap), hu⟩
    · rw [getE_putE, getE_putE]
      split <;> rfl
    · unfold putE
      rw [if_pos]
      · have h1 := congrArg List.length (setE_keys (if hasE es a = true then setE es a (.v (ptr ga)) else es ++ [(c, a, .v (ptr ga))]) a (.v (ptr ga')))
        have h2 := putE_length c es a (.v (ptr ga))
        unfold putE at h2
        simp only [List.length_map] at h1
        have := hi.len
        omega
      · have := getE_putE c es a a (.v (ptr ga))
        unfold putE at this
        rw [hasE_iff, this, if_pos rfl]
        rfl
end E
end Go.Proofs.YtdhicdnmgmkpkaaGreat
/-
  Calls at pieces that stand among others; whether an account is empty.
  Conditions: none.
-/
namespace Go.Proofs.YtdhicdnmgmkpkaaGreat
set_option linter.unusedVariables false
open Go.RowKit Mono Rlp Wd
namespace E
section
variable {N : Nat} {X : Cx N} {ops : Array Oper} {Q : Exit → Act → World → Prop}
theorem P_callAt {l' : List Oper} {t ty f : Nat} {pos : String} {af : Array Edge} {gd : Option (Nat × Bool)} {args : Array Operand} {tys : Array TypeId} {ds ds' : List D} {Φ : R → List Obj → Prop} {rs : List (Tmp × R)} {os os0 : List Obj} {fs : List (Value × D)} (hF : FnM f ds' os Φ) (l1 l2 : List Obj) (hos : os0 = l1 ++ (os ++ l2))
    (hx : evs (⟨rs, l1 ++ l2, fs⟩ : St) args.toList = some ds) (hR : RefineL fs ds ds') (hf : Enters f) (hg : guardOf ops ⟨rs, os ++ (l1 ++ l2), fs⟩ ⟨some t, .call { callee := .value (.func f), args := args, argTypes := tys }, ty, pos, af, gd⟩ = some true) (hN : Nat.blt t N = true) (k : ∀ r os', Φ r os' → EL X ops Q l' ⟨(t, r) :: rs, l1 ++ (os' ++ l2), fs⟩) : EL X ops Q (⟨some t, .call { callee := .value (.func f), args := args, argTypes := tys }, ty, pos, af, gd⟩ :: l') ⟨rs, os0, fs⟩ := by
  subst hos
  have hp : ∀ os : List Obj, (l1 ++ (os ++ l2)).Perm (os ++ (l1 ++ l2)) := fun os => by
    rw [← List.append_assoc, ← List.append_assoc]
    exact List.Perm.append_right _ List.perm_append_comm
  exact EL.le (Le.perm (hp os)) (P_callM hF rfl hx hR hf hg hN fun r os' h => EL.le (Le.perm (hp os').symm) (k r os' h))
theorem EK.retM1k {fn : Func} {Φ : R → List Obj → Prop} {S : St} {t : Tmp} {d d' : D} (os' : List Obj) (hres : fn.results = #[.tmp t]) (hl : look S.regs t = some (.val d)) (hR : RefineL S.facts [d] [d']) (ho : os'.Sublist S.objs) (hΦ : Φ (.val d') os') : EK X (bodyPost Tryz.prog fn (OutM X Φ) .ret) S := by
  refine EK.le (S' := ⟨S.regs, os', S.facts⟩) ?_ (EK.retM1r hres hl hR hΦ)
  exact fun a w h => ⟨h.mem.less ho (fun f hf => hf), fun t r ht => ReadR.mono (fun b hb => ok_less ho hb) (fun _ _ => rfl) (h.regs t r ht), h.size, h.defers⟩
end
def PA.empty (p : PA) : Bool := decide (p.n = 0) && (p.w == zero32) && p.cd.isEmpty && p.ss.isEmpty
theorem PA.Is.empty_iff {p : PA} {x : Ac} {N : Nat} (h : p.Is x N) : p.empty = true ↔ x = Ac.zero := by
  unfold PA.empty
  rw [h.n, h.w, h.cd]
  simp only [Bool.and_eq_true, decide_eq_true_eq, beq_iff_eq, List.isEmpty_iff]
  constructor
  · rintro ⟨⟨⟨h1, h2⟩, h3⟩, h4⟩
    have h5 : x.sl = fun _ => zero32 := funext fun k => by
      have := h.sl k
      rw [h4] at this
      have h6 : slE [] k = .arr 32 zero32 := rfl
      rw [h6] at this
      simpa using this.symm
    cases x
    simp only [Ac.zero, Ac.mk.injEq]
    exact ⟨h1, h2, h3, h5⟩
  · rintro rfl
    refine ⟨⟨⟨rfl, rfl⟩, rfl⟩, ?_⟩
    cases hs : p.ss with
    | nil => rfl
    | cons e ss =>
      exfalso
      obtain ⟨v, hv, hne⟩ := h.ent e (by rw [hs]; exact List.mem_cons_self ..)
      have := h.sl e.2.1
      rw [hs] at this
      have h6 : slE (e :: ss) e.2.1 = .arr 32 v := by
        unfold slE
        rw [getE, if_pos (by simp), hv]
        rfl
      rw [h6] at this
      apply hne
      simpa [Ac.zero] using this
set_option maxRecDepth 20000 in
set_option maxHeartbeats 8000000 in
theorem empty_ (p : PA) : FnM 78 [.v (ptr p.g)] p.os (fun r os' => r = .val (.v (.bool p.empty)) ∧ os' = p.os) := by
  obtain ⟨g, n, w, cd, gs, sc, ss⟩ := p
  have hz := (bin_word w zero32).1
  unfold PA.empty PA.os
  dsimp only
  refine FnM.walk 32 Tryz.func78 rfl Tryz.ntmps78 (by simp) fun X => ?_
  by_cases h1 : n = 0
  · by_cases h2 : (w == zero32) = true
    · rw [h2] at hz
      by_cases h3 : cd = []
      · by_cases h4 : ss = []
        · subst h3
          subst h4
          rw [h2]
          subst h1
          repeat
            (first
             | (apply P_bin; (iterate 2 exact rfl); exact hz; (iterate 2 exact rfl)) | (apply P_move; (iterate 3 exact rfl)) | (apply P_assign; (iterate 3 exact rfl)) | (apply P_field; (iterate 6 exact rfl))
             | (apply P_pick; (iterate 4 exact rfl)) | (apply P_load; exact rfl; (first | exact I0 | exact I1 | exact I2 | exact I3 | exact I4 | exact I5 | exact I6); (iterate 4 exact rfl))
             | (apply P_cmp (b := true); (iterate 2 exact rfl); (focus (first | (simp [cmpI]; done) | (simp [cmpI]; omega))); (iterate 2 exact rfl)) | (apply P_lenbs; (iterate 4 exact rfl))
             | (apply P_build0; (iterate 5 exact rfl)) | (apply P_nilck; (iterate 3 exact rfl))
             | (apply P_lenmap; exact rfl; (first | exact I0 | exact I1 | exact I2 | exact I3 | exact I4 | exact I5 | exact I6); (iterate 3 exact rfl)) | apply EL.nil
             | ((with_reducible apply EK.then_normal); apply EK.code)
             | (with_reducible first | apply EC.seq | apply EC.region | apply EC.skip | apply EC.label | apply EC.block | apply EC.exit | apply EC.ret | apply EK.in_normal | apply EK.in_same | apply EK.in_ret | apply EK.then_ret | apply EK.then_exit))
          exact EK.retM1s [acO g 0 w [] (.map (some gs)), .map gs 32 sc []] rfl rfl (by (repeat first | exact List.nil_sublist _ | apply List.Sublist.cons_cons | apply List.Sublist.cons)) ⟨rfl, rfl⟩
        · subst h3
          have h5 : ss.isEmpty = false := by cases ss with | nil => exact absurd rfl h4 | cons _ _ => rfl
          rw [h2, h5]
          subst h1
          repeat
            (first
             | (apply P_bin; (iterate 2 exact rfl); exact hz; (iterate 2 exact rfl)) | (apply P_move; (iterate 3 exact rfl)) | (apply P_assign; (iterate 3 exact rfl)) | (apply P_field; (iterate 6 exact rfl))
             | (apply P_pick; (iterate 4 exact rfl)) | (apply P_load; exact rfl; (first | exact I0 | exact I1 | exact I2 | exact I3 | exact I4 | exact I5 | exact I6); (iterate 4 exact rfl))
             | (apply P_cmp (b := true); (iterate 2 exact rfl); (focus (first | (simp [cmpI]; done) | (simp [cmpI]; omega))); (iterate 2 exact rfl))
             | (apply P_cmp (b := false); (iterate 2 exact rfl); (focus (first | (simp [cmpI]; done) | (simp [cmpI]; omega))); (iterate 2 exact rfl)) | (apply P_lenbs; (iterate 4 exact rfl))
             | (apply P_build0; (iterate 5 exact rfl)) | (apply P_nilck; (iterate 3 exact rfl))
             | (apply P_lenmap; exact rfl; (first | exact I0 | exact I1 | exact I2 | exact I3 | exact I4 | exact I5 | exact I6); (iterate 3 exact rfl)) | apply EL.nil
             | ((with_reducible apply EK.then_normal); apply EK.code)
             | (with_reducible first | apply EC.seq | apply EC.region | apply EC.skip | apply EC.label | apply EC.block | apply EC.exit | apply EC.ret | apply EK.in_normal | apply EK.in_same | apply EK.in_ret | apply EK.then_ret | apply EK.then_exit))
          exact EK.retM1s [acO g 0 w [] (.map (some gs)), .map gs 32 sc ss] rfl rfl (by (repeat first | exact List.nil_sublist _ | apply List.Sublist.cons_cons | apply List.Sublist.cons)) ⟨rfl, rfl⟩
      · have h5 : cd.isEmpty = false := by cases cd with | nil => exact absurd rfl h3 | cons _ _ => rfl
        rw [h2, h5]
        subst h1
        repeat
          (first
           | (apply P_skip; (iterate 2 exact rfl)) | (apply P_bin; (iterate 2 exact rfl); exact hz; (iterate 2 exact rfl)) | (apply P_move; (iterate 3 exact rfl)) | (apply P_assign; (iterate 3 exact rfl))
           | (apply P_field; (iterate 6 exact rfl)) | (apply P_pick; (iterate 4 exact rfl))
           | (apply P_load; exact rfl; (first | exact I0 | exact I1 | exact I2 | exact I3 | exact I4 | exact I5 | exact I6); (iterate 4 exact rfl))
           | (apply P_cmp (b := true); (iterate 2 exact rfl); (focus (first | (simp [cmpI]; done) | (simp [cmpI]; omega))); (iterate 2 exact rfl))
           | (apply P_cmp (b := false); (iterate 2 exact rfl); (focus (first | (simp [cmpI]; done) | (simp [cmpI]; omega))); (iterate 2 exact rfl)) | (apply P_lenbs; (iterate 4 exact rfl))
           | (apply P_build0; (iterate 5 exact rfl)) | (apply P_nilck; (iterate 3 exact rfl)) | apply EL.nil | ((with_reducible apply EK.then_normal); apply EK.code)
           | (with_reducible first | apply EC.seq | apply EC.region | apply EC.skip | apply EC.label | apply EC.block | apply EC.exit | apply EC.ret | apply EK.in_normal | apply EK.in_same | apply EK.in_ret | apply EK.then_ret | apply EK.then_exit))
        exact EK.retM1s [acO g 0 w cd (.map (some gs)), .map gs 32 sc ss] rfl rfl (by (repeat first | exact List.nil_sublist _ | apply List.Sublist.cons_cons | apply List.Sublist.cons)) ⟨rfl, rfl⟩
    · have h2 : (w == zero32) = false := by simpa using h2
      rw [h2] at hz ⊢
      subst h1
      repeat
        (first
         | (apply P_skip; (iterate 2 exact rfl)) | (apply P_bin; (iterate 2 exact rfl); exact hz; (iterate 2 exact rfl)) | (apply P_move; (iterate 3 exact rfl)) | (apply P_assign; (iterate 3 exact rfl))
         | (apply P_field; (iterate 6 exact rfl)) | (apply P_pick; (iterate 4 exact rfl))
         | (apply P_load; exact rfl; (first | exact I0 | exact I1 | exact I2 | exact I3 | exact I4 | exact I5 | exact I6); (iterate 4 exact rfl))
         | (apply P_cmp (b := true); (iterate 2 exact rfl); (focus (first | (simp [cmpI]; done) | (simp [cmpI]; omega))); (iterate 2 exact rfl)) | (apply P_build0; (iterate 5 exact rfl))
         | (apply P_nilck; (iterate 3 exact rfl)) | apply EL.nil | ((with_reducible apply EK.then_normal); apply EK.code)
         | (with_reducible first | apply EC.seq | apply EC.region | apply EC.skip | apply EC.label | apply EC.block | apply EC.exit | apply EC.ret | apply EK.in_normal | apply EK.in_same | apply EK.in_ret | apply EK.then_ret | apply EK.then_exit))
      exact EK.retM1s [acO g 0 w cd (.map (some gs)), .map gs 32 sc ss] rfl rfl (by (repeat first | exact List.nil_sublist _ | apply List.Sublist.cons_cons | apply List.Sublist.cons)) ⟨rfl, rfl⟩
  · have h5 : decide (n = 0) = false := by simp [h1]
    rw [h5]
    repeat
      (first
       | (apply P_skip; (iterate 2 exact rfl)) | (apply P_move; (iterate 3 exact rfl)) | (apply P_assign; (iterate 3 exact rfl)) | (apply P_field; (iterate 6 exact rfl)) | (apply P_pick; (iterate 4 exact rfl))
       | (apply P_load; exact rfl; (first | exact I0 | exact I1 | exact I2 | exact I3 | exact I4 | exact I5 | exact I6); (iterate 4 exact rfl))
       | (apply P_cmp (b := false); (iterate 2 exact rfl); (focus (first | (simp [cmpI]; done) | (simp [cmpI]; omega))); (iterate 2 exact rfl)) | (apply P_nilck; (iterate 3 exact rfl)) | apply EL.nil
       | ((with_reducible apply EK.then_normal); apply EK.code)
       | (with_reducible first | apply EC.seq | apply EC.region | apply EC.skip | apply EC.label | apply EC.block | apply EC.exit | apply EC.ret | apply EK.in_normal | apply EK.in_same | apply EK.in_ret | apply EK.then_ret | apply EK.then_exit))
    exact EK.retM1s [acO g n w cd (.map (some gs)), .map gs 32 sc ss] rfl rfl (by (repeat first | exact List.nil_sublist _ | apply List.Sublist.cons_cons | apply List.Sublist.cons)) ⟨rfl, rfl⟩
end E
end Go.Proofs.YtdhicdnmgmkpkaaGreat
/-
  The abstract machine: indexes into a row's end, its length; cap; lengths of keys in a row; what makes memory alone.
  Conditions: none.
-/
namespace Go.Proofs.YtdhicdnmgmkpkaaGreat
set_option linter.unusedVariables false
open Go.RowKit Mono Rlp
namespace E
theorem FnM.fn {f : FuncId} {ds : List D} {Φ : R → Prop} (h : FnM f ds [] (fun r os' => Φ r ∧ os' = [])) : Fn f ds Φ := ⟨fun ok w xs hok hr => by
  refine (h.go ok w xs hok ⟨fun o ho => by simp at ho, .nil, fun b ⟨o, ho, _⟩ => by simp at ho⟩ hr).mono ?_
  rintro e w' ⟨v, r, os', rfl, ⟨hΦ, rfl⟩, ht, hv⟩
  refine ⟨ht.gr.gr fun b ⟨o, ho, _⟩ => by simp at ho, v, r, rfl, hΦ, hv.mono (fun b hb => ⟨?_, hb.2.1⟩) fun _ _ => rfl⟩
  rcases hb.1 with h | ⟨o, ho, _⟩ | h
  · exact .inl h
  · simp at ho
  · exact .inr h⟩
end E
end Go.Proofs.YtdhicdnmgmkpkaaGreat
