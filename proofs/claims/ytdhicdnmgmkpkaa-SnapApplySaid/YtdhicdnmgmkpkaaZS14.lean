/-
  Merged (wip/tools/merge.py): ST3, EV, EY, SB, EZ, EN.
  Conditions: none.
-/
import Derived.Test.YtdhicdnmgmkpkaaZS13
import Derived.Test.YtdhicdnmgmkpkaaZS12
import Derived.Test.YtdhicdnmgmkpkaaZS8
import Derived.Test.YtdhicdnmgmkpkaaZS7
import Derived.Maps.RangeRun
/-
  The state: SetBalance, SetNonce.
  Conditions: none.
-/
namespace Go.Proofs.Ytdhicdnmgmkpkaa
set_option linter.unusedVariables false
open Go.RowKit Mono Rlp Wd
namespace E
section
variable {g m c ga gs T : Nat} {u k : Value} {n : Int} {es : List Ent} {a w cd : List UInt8} {us ks : List D} {d : D} {b : Int} {sv : Value}
abbrev wasB (a w : List UInt8) : D := .ifc 80 (.tup [.arr 20 a, .arr 32 w])
abbrev wasN (a : List UInt8) (n : Int) : D := .ifc 105 (.tup [.arr 20 a, .v (.int .i64 n)])
theorem change_inA (h : getE es a = some (.v (ptr ga))) (hu : us.length < 1099511627776) : FnM 35 [.v (ptr g), .arr 20 a, .ifc T d] [stO g m u k n, smO m c es, acO ga b w cd sv, unO u us, mkO k ks] (fun r os' => ∃ u', r = .val (.v (ptr ga)) ∧ os' = [stO g m u' k n, smO m c es, unO u' (undid ks us (.ifc T d)), mkO k ks, acO ga b w cd sv]) := by
  have h1 := ((change_in (g := g) (m := m) (c := c) (u := u) (k := k) (n := n) (ks := ks) (T := T) (d := d) h hu).frame [acO ga b w cd sv]).pick [0, 1, 4, 2, 3] rfl (by decide)
  refine FnM.mono h1 ?_
  rintro r _ ⟨_, ⟨u', rfl, rfl⟩, rfl⟩
  exact ⟨u', rfl, rfl⟩
set_option maxRecDepth 20000 in
set_option maxHeartbeats 4000000 in
theorem setBalance_in {w' : List UInt8} (h : getE es a = some (.v (ptr ga))) (hu : us.length < 1099511627776) : FnM 9 [.v (ptr g), .arr 20 a, .arr 32 w'] [stO g m u k n, smO m c es, unO u us, mkO k ks, acO ga b w cd sv] (fun r os' => r = .tpl [] ∧ ∃ u', os' = [stO g m u' k n, smO m c es, unO u' (undid ks us (wasB a w)), mkO k ks, acO ga b w' cd sv]) := by
  have h1 := balance_in (g := g) (m := m) (c := c) (u := u) (k := k) (n := n) (b := b) (w := w) (cd := cd) (sv := sv) h
  have h2 := change_inA (g := g) (m := m) (c := c) (u := u) (k := k) (n := n) (ks := ks) (T := 80) (d := .tup [.arr 20 a, .arr 32 w]) (b := b) (w := w) (cd := cd) (sv := sv) h hu
  refine FnM.walk 18 Try.func9 rfl Try.ntmps9 (by simp) fun X => ?_
  repeat
    (first
     | (apply P_box; exact rfl; exact rfl; exact rfl; intro _) | apply EL.nil | ((with_reducible apply EK.then_normal); apply EK.code)
     | (with_reducible first | apply EC.seq | apply EC.region | apply EC.skip | apply EC.label | apply EC.block | apply EC.exit | apply EC.ret | apply EK.in_normal | apply EK.in_same | apply EK.in_ret | apply EK.then_ret | apply EK.then_exit))
  refine EC.le (Le.pick [2, 3, 6, 4, 5, 0, 1] [_, _, _, _, _, _, _] rfl (by decide) rfl) ?_
  refine EC.drawC 10 [0, 1, 2, 3, 4, 9] [5, 6, 7, 8] [_, _, _, _, _] _ (by kernel_rfl) (by kernel_rfl) rfl ?_
  simp only [pickL, List.filterMap_cons, List.filterMap_nil, List.getElem?_cons_zero, List.getElem?_cons_succ]
  repeat
    (first
     | (apply H_move; (iterate 3 exact rfl)) | (apply H_load; exact rfl; (first | exact I0 | exact I1 | exact I2 | exact I3 | exact I4 | exact I5 | exact I6); (iterate 4 exact rfl)))
  refine EM.nil ?_
  repeat (first | rw [List.cons_append] | rw [List.nil_append])
  refine CH.callM (rest := [_, _]) h1 rfl rfl (RefineL.refl _ _) (by intro _ _; simp [go_sem]) rfl rfl ?_
  rintro _ _ ⟨rfl, rfl⟩
  try simp only [St.put]
  repeat (first | rw [List.cons_append] | rw [List.nil_append])
  refine CH.cut 2 ?_
  simp only [List.take_succ_cons, List.take_zero, List.drop_succ_cons, List.drop_zero]
  repeat
    (first
     | (apply H_build; (iterate 7 exact rfl)) | (apply H_mkifc; (iterate 4 exact rfl)))
  refine EM.nil ?_
  repeat (first | rw [List.cons_append] | rw [List.nil_append])
  refine CH.callM (rest := []) h2 rfl rfl (RefineL.refl _ _) (by intro _ _; simp [go_sem]) rfl rfl ?_
  rintro _ _ ⟨u', rfl, rfl⟩
  try simp only [St.put]
  repeat (first | rw [List.cons_append] | rw [List.nil_append])
  refine CH.nil ?_
  try simp only [List.drop_succ_cons, List.drop_zero]
  repeat
    (first
     | (apply P_field; (iterate 6 exact rfl)) | (apply P_nilck; (iterate 3 exact rfl)) | (apply P_store; exact rfl; (focus (repeat first | exact .z | apply SetAt.s | apply SetAtF.s)); (iterate 4 exact rfl))
     | apply EL.nil)
  exact EK.retM0n [stO g m u' k n, smO m c es, unO u' (undid ks us (wasB a w)), mkO k ks, acO ga b w' cd sv] rfl (by (repeat first | exact List.nil_sublist _ | apply List.Sublist.cons_cons | apply List.Sublist.cons)) ⟨rfl, u', rfl⟩
set_option maxRecDepth 20000 in
set_option maxHeartbeats 4000000 in
theorem setBalance_out {w' : List UInt8} (h : getE es a = none) (hu : us.length < 1099511627776) : FnM 9 [.v (ptr g), .arr 20 a, .arr 32 w'] [stO g m u k n, smO m c es, unO u us, mkO k ks] (fun r os' => r = .tpl [] ∧ ∃ u' ga gs, os' = [stO g m u' k n, smO m (tickE c es a) (putE c es a (.v (ptr ga))), unO u' (undid ks us (wasB a zero32)), mkO k ks, acO ga 0 w' [] (.map (some gs)), .map gs 32 0 []]) := by
  have h1 := balance_out (g := g) (m := m) (c := c) (u := u) (k := k) (n := n) h
  have h2 := change_out (g := g) (m := m) (c := c) (u := u) (k := k) (n := n) (ks := ks) (T := 80) (d := .tup [.arr 20 a, .arr 32 zero32]) h hu
  refine FnM.walk 18 Try.func9 rfl Try.ntmps9 (by simp) fun X => ?_
  repeat
    (first
     | (apply P_box; exact rfl; exact rfl; exact rfl; intro _) | apply EL.nil | ((with_reducible apply EK.then_normal); apply EK.code)
     | (with_reducible first | apply EC.seq | apply EC.region | apply EC.skip | apply EC.label | apply EC.block | apply EC.exit | apply EC.ret | apply EK.in_normal | apply EK.in_same | apply EK.in_ret | apply EK.then_ret | apply EK.then_exit))
  refine EC.le (Le.pick [2, 3, 4, 5, 0, 1] [_, _, _, _, _, _] rfl (by decide) rfl) ?_
  refine EC.drawC 10 [0, 1, 2, 3, 4, 9] [5, 6, 7, 8] [_, _, _, _] _ (by kernel_rfl) (by kernel_rfl) rfl ?_
  simp only [pickL, List.filterMap_cons, List.filterMap_nil, List.getElem?_cons_zero, List.getElem?_cons_succ]
  repeat
    (first
     | (apply H_move; (iterate 3 exact rfl)) | (apply H_load; exact rfl; (first | exact I0 | exact I1 | exact I2 | exact I3 | exact I4 | exact I5 | exact I6); (iterate 4 exact rfl)))
  refine EM.nil ?_
  repeat (first | rw [List.cons_append] | rw [List.nil_append])
  refine CH.callM (rest := [_, _]) h1 rfl rfl (RefineL.refl _ _) (by intro _ _; simp [go_sem]) rfl rfl ?_
  rintro _ _ ⟨rfl, rfl⟩
  try simp only [St.put]
  repeat (first | rw [List.cons_append] | rw [List.nil_append])
  refine CH.cut 2 ?_
  simp only [List.take_succ_cons, List.take_zero, List.drop_succ_cons, List.drop_zero]
  repeat
    (first
     | (apply H_build; (iterate 7 exact rfl)) | (apply H_mkifc; (iterate 4 exact rfl)))
  refine EM.nil ?_
  repeat (first | rw [List.cons_append] | rw [List.nil_append])
  refine CH.callM (rest := []) h2 rfl rfl (RefineL.refl _ _) (by intro _ _; simp [go_sem]) rfl rfl ?_
  rintro _ _ ⟨u', ga, gs, rfl, rfl⟩
  try simp only [St.put]
  repeat (first | rw [List.cons_append] | rw [List.nil_append])
  refine CH.nil ?_
  try simp only [List.drop_succ_cons, List.drop_zero]
  repeat
    (first
     | (apply P_field; (iterate 6 exact rfl)) | (apply P_nilck; (iterate 3 exact rfl)) | (apply P_store; exact rfl; (focus (repeat first | exact .z | apply SetAt.s | apply SetAtF.s)); (iterate 4 exact rfl))
     | apply EL.nil)
  refine EK.le (Le.pick [2, 3, 4, 5, 0, 1, 6, 7] [_, _, _, _, _, _, _, _] rfl (by decide) rfl) ?_
  exact EK.retM0n [stO g m u' k n, smO m (tickE c es a) (putE c es a (.v (ptr ga))), unO u' (undid ks us (wasB a zero32)), mkO k ks, acO ga 0 w' [] (.map (some gs)), .map gs 32 0 []] rfl (by (repeat first | exact List.nil_sublist _ | apply List.Sublist.cons_cons | apply List.Sublist.cons)) ⟨rfl, u', ga, gs, rfl⟩
set_option maxRecDepth 20000 in
set_option maxHeartbeats 4000000 in
theorem setNonce_in {n' : Int} (h : getE es a = some (.v (ptr ga))) (hu : us.length < 1099511627776) : FnM 20 [.v (ptr g), .arr 20 a, .v (.int .i64 n')] [stO g m u k n, smO m c es, unO u us, mkO k ks, acO ga b w cd sv] (fun r os' => r = .tpl [] ∧ ∃ u', os' = [stO g m u' k n, smO m c es, unO u' (undid ks us (wasN a b)), mkO k ks, acO ga (if n' > 0 then n' else 0) w cd sv]) := by
  have h1 := nonce_in (g := g) (m := m) (c := c) (u := u) (k := k) (n := n) (b := b) (w := w) (cd := cd) (sv := sv) h
  have h2 := change_inA (g := g) (m := m) (c := c) (u := u) (k := k) (n := n) (ks := ks) (T := 105) (d := .tup [.arr 20 a, .v (.int .i64 b)]) (b := b) (w := w) (cd := cd) (sv := sv) h hu
  refine FnM.walk 19 Try.func20 rfl Try.ntmps20 (by simp) fun X => ?_
  repeat
    (first
     | (apply P_box; exact rfl; exact rfl; exact rfl; intro _) | apply EL.nil | ((with_reducible apply EK.then_normal); apply EK.code)
     | (with_reducible first | apply EC.seq | apply EC.region | apply EC.skip | apply EC.label | apply EC.block | apply EC.exit | apply EC.ret | apply EK.in_normal | apply EK.in_same | apply EK.in_ret | apply EK.then_ret | apply EK.then_exit))
  refine EC.le (Le.pick [1, 2, 5, 3, 4, 0] [_, _, _, _, _, _] rfl (by decide) rfl) ?_
  refine EC.drawC 11 [0, 1, 2, 3, 4, 9, 10] [5, 6, 7, 8] [_, _, _, _, _] _ (by kernel_rfl) (by kernel_rfl) rfl ?_
  simp only [pickL, List.filterMap_cons, List.filterMap_nil, List.getElem?_cons_zero, List.getElem?_cons_succ]
  repeat
    (first
     | (apply H_move; (iterate 3 exact rfl)) | (apply H_load; exact rfl; (first | exact I0 | exact I1 | exact I2 | exact I3 | exact I4 | exact I5 | exact I6); (iterate 4 exact rfl))
     | (apply H_max; (iterate 4 exact rfl)))
  refine EM.nil ?_
  repeat (first | rw [List.cons_append] | rw [List.nil_append])
  refine CH.callM (rest := [_, _]) h1 rfl rfl (RefineL.refl _ _) (by intro _ _; simp [go_sem]) rfl rfl ?_
  rintro _ _ ⟨rfl, rfl⟩
  try simp only [St.put]
  repeat (first | rw [List.cons_append] | rw [List.nil_append])
  refine CH.cut 2 ?_
  simp only [List.take_succ_cons, List.take_zero, List.drop_succ_cons, List.drop_zero]
  repeat
    (first
     | (apply H_build; (iterate 7 exact rfl)) | (apply H_mkifc; (iterate 4 exact rfl)))
  refine EM.nil ?_
  repeat (first | rw [List.cons_append] | rw [List.nil_append])
  refine CH.callM (rest := []) h2 rfl rfl (RefineL.refl _ _) (by intro _ _; simp [go_sem]) rfl rfl ?_
  rintro _ _ ⟨u', rfl, rfl⟩
  try simp only [St.put]
  repeat (first | rw [List.cons_append] | rw [List.nil_append])
  refine CH.nil ?_
  try simp only [List.drop_succ_cons, List.drop_zero]
  repeat
    (first
     | (apply P_field; (iterate 6 exact rfl)) | (apply P_nilck; (iterate 3 exact rfl)) | (apply P_store; exact rfl; (focus (repeat first | exact .z | apply SetAt.s | apply SetAtF.s)); (iterate 4 exact rfl))
     | apply EL.nil)
  exact EK.retM0n [stO g m u' k n, smO m c es, unO u' (undid ks us (wasN a b)), mkO k ks, acO ga (if n' > 0 then n' else 0) w cd sv] rfl (by (repeat first | exact List.nil_sublist _ | apply List.Sublist.cons_cons | apply List.Sublist.cons)) ⟨rfl, u', rfl⟩
set_option maxRecDepth 20000 in
set_option maxHeartbeats 4000000 in
theorem setNonce_out {n' : Int} (h : getE es a = none) (hu : us.length < 1099511627776) : FnM 20 [.v (ptr g), .arr 20 a, .v (.int .i64 n')] [stO g m u k n, smO m c es, unO u us, mkO k ks] (fun r os' => r = .tpl [] ∧ ∃ u' ga gs, os' = [stO g m u' k n, smO m (tickE c es a) (putE c es a (.v (ptr ga))), unO u' (undid ks us (wasN a 0)), mkO k ks, acO ga (if n' > 0 then n' else 0) zero32 [] (.map (some gs)), .map gs 32 0 []]) := by
  have h1 := nonce_out (g := g) (m := m) (c := c) (u := u) (k := k) (n := n) h
  have h2 := change_out (g := g) (m := m) (c := c) (u := u) (k := k) (n := n) (ks := ks) (T := 105) (d := .tup [.arr 20 a, .v (.int .i64 0)]) h hu
  refine FnM.walk 19 Try.func20 rfl Try.ntmps20 (by simp) fun X => ?_
  repeat
    (first
     | (apply P_box; exact rfl; exact rfl; exact rfl; intro _) | apply EL.nil | ((with_reducible apply EK.then_normal); apply EK.code)
     | (with_reducible first | apply EC.seq | apply EC.region | apply EC.skip | apply EC.label | apply EC.block | apply EC.exit | apply EC.ret | apply EK.in_normal | apply EK.in_same | apply EK.in_ret | apply EK.then_ret | apply EK.then_exit))
  refine EC.le (Le.pick [1, 2, 3, 4, 0] [_, _, _, _, _] rfl (by decide) rfl) ?_
  refine EC.drawC 11 [0, 1, 2, 3, 4, 9, 10] [5, 6, 7, 8] [_, _, _, _] _ (by kernel_rfl) (by kernel_rfl) rfl ?_
  simp only [pickL, List.filterMap_cons, List.filterMap_nil, List.getElem?_cons_zero, List.getElem?_cons_succ]
  repeat
    (first
     | (apply H_move; (iterate 3 exact rfl)) | (apply H_load; exact rfl; (first | exact I0 | exact I1 | exact I2 | exact I3 | exact I4 | exact I5 | exact I6); (iterate 4 exact rfl))
     | (apply H_max; (iterate 4 exact rfl)))
  refine EM.nil ?_
  repeat (first | rw [List.cons_append] | rw [List.nil_append])
  refine CH.callM (rest := [_, _]) h1 rfl rfl (RefineL.refl _ _) (by intro _ _; simp [go_sem]) rfl rfl ?_
  rintro _ _ ⟨rfl, rfl⟩
  try simp only [St.put]
  repeat (first | rw [List.cons_append] | rw [List.nil_append])
  refine CH.cut 2 ?_
  simp only [List.take_succ_cons, List.take_zero, List.drop_succ_cons, List.drop_zero]
  repeat
    (first
     | (apply H_build; (iterate 7 exact rfl)) | (apply H_mkifc; (iterate 4 exact rfl)))
  refine EM.nil ?_
  repeat (first | rw [List.cons_append] | rw [List.nil_append])
  refine CH.callM (rest := []) h2 rfl rfl (RefineL.refl _ _) (by intro _ _; simp [go_sem]) rfl rfl ?_
  rintro _ _ ⟨u', ga, gs, rfl, rfl⟩
  try simp only [St.put]
  repeat (first | rw [List.cons_append] | rw [List.nil_append])
  refine CH.nil ?_
  try simp only [List.drop_succ_cons, List.drop_zero]
  repeat
    (first
     | (apply P_field; (iterate 6 exact rfl)) | (apply P_nilck; (iterate 3 exact rfl)) | (apply P_store; exact rfl; (focus (repeat first | exact .z | apply SetAt.s | apply SetAtF.s)); (iterate 4 exact rfl))
     | apply EL.nil)
  refine EK.le (Le.pick [2, 3, 4, 5, 0, 1, 6] [_, _, _, _, _, _, _] rfl (by decide) rfl) ?_
  exact EK.retM0n [stO g m u' k n, smO m (tickE c es a) (putE c es a (.v (ptr ga))), unO u' (undid ks us (wasN a 0)), mkO k ks, acO ga (if n' > 0 then n' else 0) zero32 [] (.map (some gs)), .map gs 32 0 []] rfl (by (repeat first | exact List.nil_sublist _ | apply List.Sublist.cons_cons | apply List.Sublist.cons)) ⟨rfl, u', ga, gs, rfl⟩
end
end E
end Go.Proofs.Ytdhicdnmgmkpkaa
/-
  The abstract machine at regions that draw their order: reads, new memory, new variables, and calls that leave the pieces as they tell them ('visits'), in whatever order.
  Conditions: none.
-/
namespace Go.Proofs.Ytdhicdnmgmkpkaa
set_option linter.unusedVariables false
open Go.RowKit Mono Rlp
namespace E
def Visit (ops : Array Oper) (S : St) (o : Oper) (r : R) : Prop := ∃ os rest, S.objs.Perm (os ++ rest) ∧ Muts ops ⟨S.regs, rest, S.facts⟩ o os (fun r' os' => r' = r ∧ os' = os)
def OkV (N : Nat) (ops : Array Oper) (S : St) (o : Oper) (i : Inf) : Prop := OkI N ops S o i ∨ ∃ r, i = .grow r ∧ guardOf ops S o = some true ∧ Visit ops S o r
def EV (N : Nat) (ops : Array Oper) (T : St → List Fr → Prop) : List Oper → St → List Fr → Prop
  | [], S, E => T S E
  | o :: l, S, E => ∃ inf : Inf, inf.noPut = true ∧ offB N o.dst E = true ∧ ((∃ T d, inf = .new T d) → o.dst ≠ none) ∧ OkV N ops S o inf ∧ EV N ops T l (S.put o.dst inf.reg) (nextE E o.dst inf)
section
variable {N : Nat} {X : Cx N} {S S' : St} {a : Act} {w w' : World} {ops : Array Oper} {o : Oper} {Q : Exit → Act → World → Prop} {l : List Oper} {T : St → List Fr → Prop} {E : List Fr}
theorem EV.nil (h : T S E) : EV N ops T [] S E := h
theorem EV.seg {l2 : List Oper} : ∀ (l1 : List Oper) (S : St) (E : List Fr), EM N ops (fun S' E' => EV N ops T l2 S' E') l1 S E → EV N ops T (l1 ++ l2) S E
  | [], S, E, h => h
  | o :: l1, S, E, ⟨inf, h0, h1, h2, h3, h4⟩ => ⟨inf, h0, h1, h2, .inl h3, EV.seg l1 _ _ h4⟩
theorem EV.cut (k : Nat) (h : EM N ops (fun S' E' => EV N ops T (l.drop k) S' E') (l.take k) S E) : EV N ops T l S E := by
  have := EV.seg _ _ _ h
  rwa [List.take_append_drop] at this
theorem EV.visit {r : R} (os rest : List Obj) (hg : guardOf ops S o = some true) (hd : offB N o.dst E = true) (hp : S.objs.Perm (os ++ rest)) (hO : Muts ops ⟨S.regs, rest, S.facts⟩ o os (fun r' os' => r' = r ∧ os' = os)) (k : EV N ops T l (S.put o.dst r) E) : EV N ops T (o :: l) S E :=
  ⟨.grow r, rfl, hd, (fun ⟨_, _, e⟩ => by cases e), .inr ⟨r, rfl, hg, os, rest, hp, hO⟩, k⟩
theorem ev_list : ∀ (l : List Oper) (S : St) (E : List Fr), EV N ops T l S E → ∃ infs : List Inf, infs.length = l.length ∧
    (∀ k o i, l[k]? = some o → infs[k]? = some i → OkV N ops (stAt S l infs k) o i ∧ (∀ t, o.dst = some t → t < N ∧ (∀ x ∈ E, x.1 ≠ t) ∧ ∀ j oj T d, j < k → l[j]? = some oj → infs[j]? = some (.new T d) → oj.dst ≠ some t) ∧ ((∃ T d, i = .new T d) → o.dst ≠ none)) ∧
    T (stAt S l infs l.length) (frAt E l infs) ∧ ∀ (k : Nat) (i : Inf), infs[k]? = some i → i.noPut = true
  | [], S, E, h => ⟨[], rfl, (fun k o i h => by simp at h), h, fun k i h => by simp at h⟩
  | o :: l, S, E, h => by
    obtain ⟨inf, h0, h1, h1', h2, h3⟩ := h
    obtain ⟨infs, h4, h5, h6, h7⟩ := ev_list l _ _ h3
    have hoff : ∀ t, o.dst = some t → t < N ∧ ∀ x ∈ E, x.1 ≠ t := fun t ht => by
      rw [ht] at h1
      simp only [offB, Bool.and_eq_true, decide_eq_true_eq] at h1
      exact ⟨h1.1, fun x hx => by simpa using List.all_eq_true.1 h1.2 x hx⟩
    refine ⟨inf :: infs, by simp [h4], fun k o' i hk hi => ?_, h6, fun k i hi => by
      cases k with
      | zero =>
        cases hi
        exact h0
      | succ k => exact h7 k i (by simpa using hi)⟩
    cases k with
    | zero =>
      cases hk
      cases hi
      exact ⟨h2, fun t ht => ⟨(hoff t ht).1, (hoff t ht).2, fun j _ _ _ hj => by omega⟩, h1'⟩
    | succ k =>
      obtain ⟨g1, g2, g3⟩ := h5 k o' i (by simpa using hk) (by simpa using hi)
      refine ⟨g1, fun t ht => ⟨(g2 t ht).1, fun x hx => (g2 t ht).2.1 x ?_, fun j oj T d hj hoj hij => ?_⟩, g3⟩
      · unfold nextE
        split
        · split
          · exact List.mem_append_left _ hx
          · exact hx
        · exact hx
      · cases j with
        | zero =>
          cases hoj
          cases hij
          intro e
          exact (g2 t ht).2.1 (t, T, d) (by unfold nextE; rw [e]; simp) rfl
        | succ j => exact (g2 t ht).2.2 j oj T d (by omega) (by simpa using hoj) (by simpa using hij)
theorem Mem.perm {os os' : List Obj} {fs : List (Value × D)} (h : os.Perm os') (hm : Mem X os fs w) : Mem X os' fs w :=
  ((Le.perm (X := X) (rs := []) (fs := fs) h) ⟨Array.replicate N undef, []⟩ w ⟨hm, (fun t r hr => by cases hr), by simp, rfl⟩).mem
theorem ok_perm {os os' : List Obj} (h : os.Perm os') : X.ok os w = X.ok os' w := funext fun b => propext ⟨fun hb => ⟨hb.1, hb.2.1, fun o ho => hb.2.2 o (h.mem_iff.2 ho)⟩, fun hb => ⟨hb.1, hb.2.1, fun o ho => hb.2.2 o (h.mem_iff.1 ho)⟩⟩
abbrev Nw := Nat × Nat × TypeId × D
def Nw.pc (e : Nw) : Obj := .var e.2.1 e.2.2.1 e.2.2.2
theorem pw_ne {α : Type} {R : α → α → Prop} (hs : ∀ x y, R x y → R y x) : ∀ {l : List α}, l.Pairwise R → ∀ x, x ∈ l → ∀ y, y ∈ l → x ≠ y → R x y
  | [], _, x, hx, _, _, _ => by cases hx
  | a :: l, h, x, hx, y, hy, hn => by
    obtain ⟨h1, h2⟩ := List.pairwise_cons.1 h
    rcases List.mem_cons.1 hx with e | hx' <;> rcases List.mem_cons.1 hy with e' | hy'
    · exact absurd (e.trans e'.symm) hn
    · exact e ▸ h1 y hy'
    · exact e' ▸ hs _ _ (h1 x hx')
    · exact pw_ne hs h2 x hx' y hy' hn
structure RV (X : Cx N) (S : St) (a : Act) (infs : List Inf) (L : Nat → Prop) (vs : Nat → Value) (u : World) (nw : List Nw) : Prop where
  nd : (nw.map (·.1)).Nodup
  ok : ∀ e ∈ nw, L e.1 ∧ infs[e.1]? = some (.new e.2.2.1 e.2.2.2) ∧ vs e.1 = .pointer (some ⟨e.2.1, 0, none⟩)
  all : ∀ j T d, L j → infs[j]? = some (.new T d) → ∃ e ∈ nw, e.1 = j
  mem : Mem X (nw.map Nw.pc ++ S.objs) S.facts u
  val : ∀ j i, L j → infs[j]? = some i → ReadR (X.ok (nw.map Nw.pc ++ S.objs) u) u i.reg (vs j)
  old : ∀ t r, look S.regs t = some r → ReadR (X.ok (nw.map Nw.pc ++ S.objs) u) u r (a.tmps.getD t undef)
theorem RV.same {infs : List Inf} {L : Nat → Prop} {vs : Nat → Value} {u u' : World} {nw : List Nw} (h : RV X S a infs L vs u nw) {k : Nat} {i : Inf} (hk : ¬ L k) (hi : infs[k]? = some i) (hn : ∀ T d, i ≠ .new T d) (v : Value) (hm : Mem X (nw.map Nw.pc ++ S.objs) S.facts u') (hok : ∀ b, X.ok (nw.map Nw.pc ++ S.objs) u b → X.ok (nw.map Nw.pc ++ S.objs) u' b) (hc : ∀ p : Addr, X.ok (nw.map Nw.pc ++ S.objs) u p.block → u'.cell? p = u.cell? p) (hv : ReadR (X.ok (nw.map Nw.pc ++ S.objs) u') u' i.reg v) : RV X S a infs (fun j => j = k ∨ L j) (fun j => if j = k then v else vs j) u' nw := by
  refine ⟨h.nd, fun e he => ?_, fun j T d hj hij => ?_, hm, fun j i' hj hij => ?_, fun t r hr => (h.old t r hr).mono hok hc⟩
  · obtain ⟨h1, h2, h3⟩ := h.ok e he
    exact ⟨.inr h1, h2, by rw [if_neg (show ¬ e.1 = k from fun e' => hk (by rw [← e']; exact h1))]; exact h3⟩
  · rcases hj with rfl | hj
    · exact absurd (Option.some.inj (hi.symm.trans hij)) (hn T d)
    · exact h.all j T d hj hij
  · by_cases e : j = k
    · subst e
      rw [if_pos rfl]
      obtain rfl : i' = i := Option.some.inj (hij.symm.trans hi)
      exact hv
    · rw [if_neg e]
      exact (h.val j i' (hj.resolve_left e) hij).mono hok hc
theorem RV.new {infs : List Inf} {L : Nat → Prop} {vs : Nat → Value} {u : World} {nw : List Nw} (h : RV X S a infs L vs u nw) {k : Nat} {Ty : TypeId} {d : D} {cs : List Value} (hk : ¬ L k) (hi : infs[k]? = some (.new Ty d)) (hcs : Reads (X.ok (nw.map Nw.pc ++ S.objs) u) u d cs) : RV X S a infs (fun j => j = k ∨ L j) (fun j => if j = k then .pointer (some ⟨u.heap.size, 0, none⟩) else vs j) (u.alloc (.cells cs.toArray Ty)) ((k, u.heap.size, Ty, d) :: nw) := by
  have hgr := gr_alloc u (.cells cs.toArray Ty)
  have hok : ∀ b, X.ok (nw.map Nw.pc ++ S.objs) u b → X.ok (((k, u.heap.size, Ty, d) :: nw : List Nw).map Nw.pc ++ S.objs) (u.alloc (.cells cs.toArray Ty)) b := fun b hb => ⟨hb.1, Nat.lt_of_lt_of_le hb.2.1 hgr.size, fun o ho e => by
    rw [List.map_cons, List.cons_append] at ho
    rcases List.mem_cons.1 ho with rfl | ho
    · cases e
      exact absurd hb.2.1 (Nat.lt_irrefl _)
    · exact hb.2.2 o ho e⟩
  have hc : ∀ p : Addr, X.ok (nw.map Nw.pc ++ S.objs) u p.block → (u.alloc (.cells cs.toArray Ty)).cell? p = u.cell? p := fun p hp => hgr.cell hp.2.1
  refine ⟨?_, fun e he => ?_, fun j T' d' hj hij => ?_, ?_, fun j i' hj hij => ?_, fun t r hr => (h.old t r hr).mono hok hc⟩
  · rw [List.map_cons]
    refine List.nodup_cons.2 ⟨fun hm => ?_, h.nd⟩
    obtain ⟨e, he, e'⟩ := List.mem_map.1 hm
    have e2 : e.1 = k := e'
    exact hk (by rw [← e2]; exact (h.ok e he).1)
  · rcases List.mem_cons.1 he with rfl | he
    · exact ⟨.inl rfl, hi, if_pos rfl⟩
    · obtain ⟨h1, h2, h3⟩ := h.ok e he
      exact ⟨.inr h1, h2, by rw [if_neg (show ¬ e.1 = k from fun e' => hk (by rw [← e']; exact h1))]; exact h3⟩
  · rcases hj with rfl | hj
    · exact ⟨_, List.mem_cons_self, rfl⟩
    · obtain ⟨e, he, e'⟩ := h.all j T' d' hj hij
      exact ⟨e, List.mem_cons_of_mem _ he, e'⟩
  · have hat : At X ⟨[], nw.map Nw.pc ++ S.objs, S.facts⟩ ⟨Array.replicate N undef, []⟩ u := ⟨h.mem, (fun t r hr => by cases hr), by simp, rfl⟩
    exact (hat.new (q := .var u.heap.size Ty d) rfl ⟨.inr h.mem.gr.size, cs, heap_alloc_new u _, Reads.mono hok hc _ _ hcs⟩).mem
  · by_cases e : j = k
    · subst e
      obtain rfl : i' = .new Ty d := Option.some.inj (hij.symm.trans hi)
      trivial
    · rw [if_neg e]
      exact (h.val j i' (hj.resolve_left e) hij).mono hok hc
set_option maxHeartbeats 2000000 in
theorem EC.drawV {id : Nat} (n : Nat) (hB : monoB l.toArray n N = true) (h : EV N l.toArray (fun S' E => openF (EL X l.toArray Q (l.drop n)) E S') (l.take n) S []) : EC X Q (.region id l.toArray true) S := by
  constructor
  intro a ws ha
  obtain ⟨infs, hlen, hok, hT, hnp⟩ := ev_list _ _ _ h
  have hle : n ≤ l.length := by simpa using (facts_of_monoB hB).le
  have hln : (l.take n).length = n := by simp; omega
  rw [hln] at hlen hT
  have htake : ∀ k, k < n → (l.take n)[k]? = l[k]? := fun k hk => by rw [List.getElem?_take, if_pos hk]
  have hdst : ∀ k o, l[k]? = some o → dstOf l.toArray k = o.dst := fun k o ho => by unfold dstOf; simp [ho]
  have hread : ∀ k L vs (b : Act) u nw t r, k ≤ n → RV X S a infs L vs u nw → SlotOk l.toArray L vs a b k t → look (stAt S (l.take n) infs k).regs t = some r → ReadR (X.ok (nw.map Nw.pc ++ S.objs) u) u r (b.tmps.getD t undef) := fun k L vs b u nw t r hk hG hs hr => by
    have hlk := stAt_look (l.take n) infs k S t (by rw [hlen, hln]) (by omega)
    rcases hs with ⟨j, h1, h2, h3, h4, h5⟩ | ⟨h1, h2⟩
    · have hjl : j < l.length := by omega
      have hoj : l[j]? = some l[j] := by simp
      have hij : infs[j]? = some infs[j] := by simp
      rw [hlk.1 j l[j] infs[j] h1 (by rw [htake j (by omega)]; exact hoj) hij (by rw [← hdst j _ hoj]; exact h2) fun m om h6 h7 hom => by
        rw [htake m (by omega)] at hom
        rw [← hdst m _ hom]
        exact h3 m h6 h7] at hr
      cases hr
      rw [h5]
      exact hG.val j _ h4 hij
    · rw [hlk.2 fun j oj hj hoj => by
        rw [htake j (by omega)] at hoj
        rw [← hdst j _ hoj]
        exact h1 j hj] at hr
      rw [h2]
      exact hG.old t r hr
  refine wp_region_set' n (by kernel_rfl) (by rw [ha.size]; exact hB) (fun L vs u => ∃ nw, RV X S a infs L vs u nw) ?_ ?_ ?_ ?_
  · rintro L L' vs vs' w hL hvs ⟨nw, hG⟩
    obtain rfl : L = L' := funext fun j => propext (hL j)
    exact ⟨nw, hG.nd, fun e he => (by obtain ⟨h1, h2, h3⟩ := hG.ok e he; exact ⟨h1, h2, by rw [← hvs _ h1]; exact h3⟩), hG.all, hG.mem, fun j i hj hi => (by rw [← hvs j hj]; exact hG.val j i hj hi), hG.old⟩
  · have had : At X S a ws.drew := ha.gr (by exact ⟨rfl, rfl, rfl, Nat.le_refl _, fun _ _ => rfl⟩)
    exact ⟨[], List.nodup_nil, (fun e he => by cases he), (fun j T d hj => hj.elim), had.mem, (fun j i hj => hj.elim), had.regs⟩
  · intro k o L vs b u hk ho hL hLk ⟨nw, hG⟩ hslot hwait
    obtain ⟨i, hi⟩ : ∃ i, infs[k]? = some i := ⟨infs[k], by simp [hlen, hk]⟩
    obtain ⟨hO, hof, _⟩ := hok k o i (by rw [htake k hk]; exact ho) hi
    have hkn : Kn X.mine (X.ok (nw.map Nw.pc ++ S.objs) u) (fun t => t ∈ o.looksAt l.toArray) (stAt S (l.take n) infs k) b u := by
      refine ⟨fun p hp => ?_, fun f hf => ?_, fun b hb => hb.2.1, fun t r ht hr => hread k L vs b u nw t r (Nat.le_of_lt hk) hG (hslot t ht) hr⟩
      · rw [(stAt_objs _ _ _ _).1] at hp
        exact hG.mem.at_ p (List.mem_append_right _ hp)
      · rw [(stAt_objs _ _ _ _).2] at hf
        exact hG.mem.fact f hf
    rcases hO with hO | ⟨r, rfl, hg, os, rest, hp, hM⟩
    · cases i with
      | still r =>
        obtain ⟨hg, hSt⟩ := hO
        refine ⟨fun _ => ?_, fun hw => by rw [wanted_kn hkn hg] at hw; cases hw⟩
        obtain ⟨v, e1, e2⟩ := hSt _ _ b u hkn
        rw [e1]
        exact ⟨nw, hG.same hLk hi (fun _ _ e => by cases e) v hG.mem (fun _ h => h) (fun _ _ => rfl) e2⟩
      | grow r =>
        obtain ⟨hg, hSt⟩ := hO
        refine ⟨fun _ => setsTo_of_grows (hSt _ _ b u hkn) (fun v w' hgr hv => ?_), fun hw => by rw [wanted_kn hkn hg] at hw; cases hw⟩
        obtain ⟨r', rfl, hv⟩ := hv
        exact ⟨nw, hG.same hLk hi (fun _ _ e => by cases e) v (hG.mem.grown hgr) (fun b hb => ok_gr hgr hb) (fun p hp => ok_cell hgr p hp) (hv.mono (fun b hb => more_ok hG.mem hgr hb) fun _ _ => rfl)⟩
      | put p q => cases hnp _ _ hi
      | skip =>
        refine ⟨fun hw => (by rw [wanted_kn hkn hO] at hw; cases hw), fun _ => ?_⟩
        exact ⟨nw, hG.same hLk hi (fun _ _ e => by cases e) undef hG.mem (fun _ h => h) (fun _ _ => rfl) trivial⟩
      | new T d =>
        obtain ⟨hg, hSt⟩ := hO
        refine ⟨fun _ => ?_, fun hw => by rw [wanted_kn hkn hg] at hw; cases hw⟩
        obtain ⟨cs, e1, e2⟩ := hSt _ _ b u hkn
        rw [e1]
        exact ⟨_, hG.new hLk hi e2⟩
    · refine ⟨fun _ => ?_, fun hw => by rw [wanted_kn hkn hg] at hw; cases hw⟩
      rw [(stAt_objs _ _ _ _).1] at hp
      have hpp : (nw.map Nw.pc ++ S.objs).Perm (os ++ (rest ++ nw.map Nw.pc)) := by
        refine List.perm_append_comm.trans ?_
        rw [← List.append_assoc]
        exact hp.append_right _
      have hm := Mem.perm hpp hG.mem
      have hokp : X.ok (nw.map Nw.pc ++ S.objs) u = X.ok (os ++ (rest ++ nw.map Nw.pc)) u := ok_perm hpp
      have hM' := hM.go X.mine (X.ok (os ++ (rest ++ nw.map Nw.pc)) u) b u ⟨fun q hq => hm.at_ q (List.mem_append_right _ (List.mem_append_left _ hq)), (by rw [(stAt_objs _ _ _ _).2, ← hokp]; exact hG.mem.fact), fun b hb => hb.2.1, fun t r ht hr => hokp ▸ hkn.regs t r ht hr⟩ hm.own
      refine setsTo_mono hM' fun v u' ⟨r', os', ⟨e1, e2⟩, e3, e4⟩ => ?_
      subst e1 e2
      have hm' := hm.turned e3
      refine ⟨nw, hG.same hLk hi (fun _ _ e => by cases e) v (Mem.perm hpp.symm hm') (fun b hb => ?_) (fun p hp => ?_) ?_⟩
      · rw [hokp] at hb
        rw [ok_perm hpp]
        exact turned_old hm e3 hb
      · rw [hokp] at hp
        exact turned_cell hm e3 p hp
      · rw [ok_perm hpp]
        exact e4.mono (fun b hb => turned_ok hm e3 hb) fun _ _ => rfl
  · intro vs u b ⟨nw, hG⟩ hs hd hslot
    have hgood : Good X (X.ok (nw.map Nw.pc ++ S.objs) u) (stAt S (l.take n) infs n) b u := by
      refine ⟨fun p hp => ?_, ?_, fun p hp b hb => ?_, fun f hf => ?_, fun t r hr => hread n _ vs b u nw t r (Nat.le_refl _) hG (hslot t) hr⟩
      · rw [(stAt_objs _ _ _ _).1] at hp
        exact hG.mem.at_ p (List.mem_append_right _ hp)
      · rw [(stAt_objs _ _ _ _).1]
        exact (List.pairwise_append.1 hG.mem.apart).2.1
      · rw [(stAt_objs _ _ _ _).1] at hp
        exact hb.2.2 p (List.mem_append_right _ hp)
      · rw [(stAt_objs _ _ _ _).2] at hf
        exact hG.mem.fact f hf
    let gOf : Nat → Nat := fun j => match vs j with
      | .pointer (some p) => p.block
      | _ => 0
    have hfr : ∀ j T d, infs[j]? = some (.new T d) → ∃ e ∈ nw, e.1 = j ∧ e.2.1 = gOf j ∧ e.2.2.1 = T ∧ e.2.2.2 = d ∧ vs j = .pointer (some ⟨gOf j, 0, none⟩) := fun j T d hj => by
      have hjn : j < n := by
        have := (List.getElem?_eq_some_iff.1 hj).1
        omega
      obtain ⟨e, he, rfl⟩ := hG.all j T d hjn hj
      obtain ⟨_, h2, h3⟩ := hG.ok e he
      have hg : gOf e.1 = e.2.1 := by simp only [gOf, h3]
      have := Option.some.inj (hj.symm.trans h2)
      injection this with e1 e2
      exact ⟨e, he, rfl, hg.symm, e1.symm, e2.symm, by rw [hg]; exact h3⟩
    have hE := frIx_map (l.take n) infs 0 []
    rw [List.nil_append] at hE
    rw [hE] at hT
    have hmm : (frIx 0 (l.take n) infs).map (·.1) = ((frIx 0 (l.take n) infs).map fun e => (e.1, gOf e.2)).map (·.1) := by simp [List.map_map, Function.comp_def]
    rw [hmm] at hT
    have hEL := openF_ext _ _ hT
    have hap := List.pairwise_append.1 hG.mem.apart
    have hpc : ∀ e ∈ nw, Nw.pc e ∈ nw.map Nw.pc := fun e he => List.mem_map.2 ⟨e, he, rfl⟩
    have hfe : ∀ e0 ∈ frIx 0 (l.take n) infs, ∃ e ∈ nw, e.1 = e0.2 ∧ e.2.1 = gOf e0.2 ∧ e.2.2.1 = e0.1.2.1 ∧ e.2.2.2 = e0.1.2.2 ∧ vs e0.2 = .pointer (some ⟨gOf e0.2, 0, none⟩) ∧ e0.2 < n ∧ ∃ o, l[e0.2]? = some o ∧ o.dst = some e0.1.1 := fun e0 he0 => by
      obtain ⟨j, o, h1, h2, h3, h4⟩ := frIx_mem _ _ _ _ he0
      rw [Nat.zero_add] at h1
      have hjn : j < n := by
        have := (List.getElem?_eq_some_iff.1 h4).1
        omega
      obtain ⟨e, he, g1, g2, g3, g4, g5⟩ := hfr j _ _ h4
      rw [htake j hjn] at h2
      rw [h1]
      exact ⟨e, he, g1, g2, g3, g4, g5, hjn, o, h2, h3⟩
    refine hEL.go b u ((Good.ext _ _ hgood (fun e he => ?_) ?_ fun e he o ho => ?_).at hG.mem.gr (fun b hb => ⟨hb.1, hb.2.1⟩) (hs.trans ha.size) (hd.trans ha.defers))
    · obtain ⟨e0, he0, rfl⟩ := List.mem_map.1 he
      obtain ⟨e1, he1, g1, g2, g3, g4, g5, hjn, o, ho, hdo⟩ := hfe e0 he0
      obtain ⟨hb, cs, hcs, hrd⟩ := hG.mem.at_ (Nw.pc e1) (List.mem_append_left _ (hpc e1 he1))
      rw [g2] at hb hcs
      rw [g3] at hcs
      rw [g4] at hrd
      refine ⟨hb, fun hz => hz.2.2 (Nw.pc e1) (List.mem_append_left _ (hpc e1 he1)) (by show some e1.2.1 = _; rw [g2]), ?_, cs, hcs, hrd⟩
      rcases hslot e0.1.1 with ⟨j', k1, k2, k3, k4, k5⟩ | ⟨k1, k2⟩
      · have hjj : j' = e0.2 := by
          rcases Nat.lt_trichotomy j' e0.2 with h | h | h
          · exact absurd ((hdst _ o ho).trans hdo) (k3 _ h hjn)
          · exact h
          · exfalso
            have hoj' : l[j']? = some l[j'] := by simp
            have hij' : infs[j']? = some infs[j'] := by simp
            obtain ⟨_, h2, _⟩ := hG.ok e1 he1
            rw [g1] at h2
            exact ((hok j' l[j'] infs[j'] (by rw [htake j' k1]; exact hoj') hij').2.1 e0.1.1 (by rw [← hdst j' _ hoj']; exact k2)).2.2 e0.2 o _ _ h (by rw [htake _ hjn]; exact ho) h2 hdo
        subst hjj
        rw [k5]
        exact g5
      · exact absurd ((hdst _ o ho).trans hdo) (k1 _ hjn)
    · have hnd := frIx_nodup (l.take n) infs 0
      rw [List.map_map]
      refine List.pairwise_map.2 ?_
      refine (List.pairwise_map.1 hnd).imp_of_mem fun {x y} hx hy hne e => ?_
      obtain ⟨e1, he1, g1, g2, _⟩ := hfe x hx
      obtain ⟨e2, he2, k1, k2, _⟩ := hfe y hy
      have : e1 ≠ e2 := fun e' => hne (by rw [← g1, ← k1, e'])
      have hpw := List.pairwise_map.1 hap.1
      exact pw_ne (R := fun x y : Nw => ∀ b, (Nw.pc x).blk = some b → (Nw.pc y).blk ≠ some b) (fun x y h b h1 h2 => h b h2 h1) hpw e1 he1 e2 he2 this _ rfl (by show some e2.2.1 = some e1.2.1; rw [g2, k2]; exact congrArg some e.symm)
    · obtain ⟨e0, he0, rfl⟩ := List.mem_map.1 he
      obtain ⟨e1, he1, g1, g2, _⟩ := hfe e0 he0
      rw [(stAt_objs _ _ _ _).1] at ho
      intro e'
      exact hap.2.2 (Nw.pc e1) (hpc e1 he1) o ho _ rfl (by rw [e', ← g2])
theorem EV.nil0 {l' : List Oper} (h : EL X ops Q l' S) : EV N ops (fun S' E => openF (EL X ops Q l') E S') [] S [] := h
theorem EV.nil1 {l' : List Oper} {t : Tmp} {Ty : TypeId} {d : D} {rs : List (Tmp × R)} {os : List Obj} {fs : List (Value × D)} (h : ∀ g, EL X ops Q l' ⟨(t, .val (.v (.pointer (some ⟨g, 0, none⟩)))) :: rs, .var g Ty d :: os, fs⟩) : EV N ops (fun S' E => openF (EL X ops Q l') E S') [] ⟨rs, os, fs⟩ [(t, Ty, d)] := h
theorem EV.callV {l' : List Oper} {t ty f : Nat} {pos : String} {af : Array Edge} {gd : Option (Nat × Bool)} {args : Array Operand} {tys : Array TypeId} {ds ds' : List D} {r : R} {rs : List (Tmp × R)} {os os0 : List Obj} {fs : List (Value × D)} (hF : FnM f ds' os (fun r' os' => r' = r ∧ os' = os)) (ix : List Nat) (rest : List Obj) (hn : os0.length = ix.length) (hp : ix.Perm (List.range ix.length)) (hq : (ix.filterMap fun i => os0[i]?) = os ++ rest)
    (hx : evs (⟨rs, rest, fs⟩ : St) args.toList = some ds) (hR : RefineL fs ds ds') (hf : Enters f) (hg : guardOf ops ⟨rs, os0, fs⟩ ⟨some t, .call { callee := .value (.func f), args := args, argTypes := tys }, ty, pos, af, gd⟩ = some true) (hd : offB N (some t) E = true) (k : EV N ops T l' ⟨(t, r) :: rs, os0, fs⟩ E) : EV N ops T (⟨some t, .call { callee := .value (.func f), args := args, argTypes := tys }, ty, pos, af, gd⟩ :: l') ⟨rs, os0, fs⟩ E :=
  EV.visit os rest hg hd (hq ▸ pick_perm ix hn hp) (m_call hF rfl hx hR hf) k
theorem P_callV {l' : List Oper} {t ty f : Nat} {pos : String} {af : Array Edge} {gd : Option (Nat × Bool)} {args : Array Operand} {tys : Array TypeId} {ds ds' : List D} {r : R} {rs : List (Tmp × R)} {os os0 : List Obj} {fs : List (Value × D)} (hF : FnM f ds' os (fun r' os' => r' = r ∧ os' = os)) (ix : List Nat) (rest : List Obj) (hn : os0.length = ix.length) (hp : ix.Perm (List.range ix.length)) (hq : (ix.filterMap fun i => os0[i]?) = os ++ rest)
    (hx : evs (⟨rs, rest, fs⟩ : St) args.toList = some ds) (hR : RefineL fs ds ds') (hf : Enters f) (hg : guardOf ops ⟨rs, os ++ rest, fs⟩ ⟨some t, .call { callee := .value (.func f), args := args, argTypes := tys }, ty, pos, af, gd⟩ = some true) (hN : Nat.blt t N = true) (k : EL X ops Q l' ⟨(t, r) :: rs, os0, fs⟩) : EL X ops Q (⟨some t, .call { callee := .value (.func f), args := args, argTypes := tys }, ty, pos, af, gd⟩ :: l') ⟨rs, os0, fs⟩ := by
  have hpp : os0.Perm (os ++ rest) := hq ▸ pick_perm ix hn hp
  refine EL.le (Le.perm hpp) ?_
  refine P_callMD hF rfl hx hR hf hg hN ?_
  exact EL.le (Le.perm hpp.symm) k
end
end E
end Go.Proofs.Ytdhicdnmgmkpkaa
/-
  Arrays of bytes within a row or a variable, cut whole and told as strings.
  Conditions: none.
-/
namespace Go.Proofs.Ytdhicdnmgmkpkaa
set_option linter.unusedVariables false
open Go.RowKit Mono Rlp
namespace E
def slAt (v : Value) (n m : Nat) : Value :=
  match v with
  | .slice (some a) _ _ => .slice (some ⟨a.block, a.off + n, none⟩) m m
  | _ => .slice none 0 0
theorem slAt_one (v : Value) (n m : Nat) : (slAt v n m).oneCell' = true := by
  unfold slAt
  split <;> rfl
section
variable {N : Nat} {X : Cx N} {S : St} {ops : Array Oper} {o : Oper} {Q : Exit → Act → World → Prop} {l' : List Oper} {TT : St → List Fr → Prop} {EE : List Fr} {rs : List (Tmp × R)} {os : List Obj} {fs : List (Value × D)} {w : World} {ok : Nat → Prop}
theorem g_slrow {x : Operand} {T n m e z : Nat} {v : Value} {ds : List D} (hA : SliceA T m) (ho : o.op = .slice T x none none none) (hx : ev S x = some (.val (.v (elemPtr v n)))) (i : Nat) (hi : S.objs[i]? = some (.row v e z ds)) (hk0 : 0 < ds.length) : Still ops S o (.val (.v (slAt v n m))) := fun base ok a w ha => by
  have hx' := ev_v ha hx (looks_op (by rw [ho]; simp [Op.operands]))
  obtain ⟨g, c, cur, rows, H⟩ := row_in (ha.objs _ (List.mem_of_getElem? hi)) hk0
  refine ⟨_, ?_, v_mk (slAt_one _ _ _)⟩
  unfold execOp
  have e1 : elemPtr v n = .pointer (some ⟨g, n, none⟩) := by rw [H.val]; simp [elemPtr]
  have e2 : slAt v n m = .slice (some ⟨g, n, none⟩) m m := by rw [H.val]; simp [slAt]
  simp only [ho, hx', e1, e2, Option.map_none, Sem.run_bind, hA.ok w g n, Result.andThen_ok, Sem.run_pure]
theorem isB_range {g n m : Nat} {l : List UInt8} {mid : List Value} (hm : Nat.ble m 4096 = true) (hg : g < w.heap.size) (hr : w.rangeAt g n mid) (h : Reads ok w (.arr m l) mid) : IsB w (.slice (some ⟨g, n, none⟩) m m) l := by
  obtain ⟨h1, h2⟩ : l.length = m ∧ mid = bvs l := by
    rw [Reads] at h
    exact ⟨h.1, h.2⟩
  subst h1 h2
  have := Nat.le_of_ble_eq_true hm
  exact ⟨_, l.length, rfl, Nat.le_refl _, by simp only [maxLen]; omega, fun _ => ⟨g, n, rfl, hg, hr⟩⟩
theorem g_strrow {x : Operand} {n m k off e z : Nat} {v : Value} {ds : List D} {d : D} {l : List UInt8} (hm : Nat.ble m 4096 = true) (hk : n = k * z + off ∧ ds[k]? = some d) (hs : d.sub off m true = some (.arr m l)) (ho : o.op = .convert 34 9 x) (hx : ev S x = some (.val (.v (slAt v n m)))) (i : Nat) (hi : S.objs[i]? = some (.row v e z ds)) : Still ops S o (.val (.v (.string (Go.Proofs.Ytdhicdnmgmkpkaa.bs l)))) := fun base ok a w ha => by
  have hx' := ev_v ha hx (looks_op (by rw [ho]; simp [Op.operands]))
  have hat := ha.objs _ (List.mem_of_getElem? hi)
  obtain ⟨g, c, cur, rows, H⟩ := row_in hat (by have := (List.getElem?_eq_some_iff.1 hk.2).1; omega)
  obtain ⟨r, A, B, h1, h2, h3, h4, h5, _⟩ := H.elem hk.2
  obtain ⟨e1, e2, pre, mid, post, rfl, e3, e4⟩ := sub_spec d off m true _ r hs h3
  have hh : w.heap[g]? = some (.cells (A ++ (pre ++ mid ++ post) ++ B).toArray e (0, 0)) := by rw [← h4]; exact H.heap
  have hr := range_of_row hh
  rw [show A ++ (pre ++ mid ++ post) ++ B = (A ++ pre) ++ mid ++ (post ++ B) by simp] at hr
  have hr := range_part hr
  rw [Nat.zero_add, List.length_append, h5, e3, ← hk.1] at hr
  have hg : g < w.heap.size := (Array.getElem?_eq_some_iff.1 hh).1
  have e5 : slAt v n m = .slice (some ⟨g, n, none⟩) m m := by rw [H.val]; simp [slAt]
  have hb : IsB w (a.eval x) l := by rw [hx', e5]; exact isB_range hm hg hr e4
  refine ⟨_, ?_, v_mk rfl⟩
  unfold execOp
  simp only [ho, Sem.run_bind, conv_bytes hb, Result.andThen_ok, Sem.run_pure]
theorem g_strvar {x : Operand} {g n m : Nat} {t : TypeId} {d : D} {l : List UInt8} (hm : Nat.ble m 4096 = true) (hs : d.sub n m true = some (.arr m l)) (ho : o.op = .convert 34 9 x) (hx : ev S x = some (.val (.v (.slice (some ⟨g, n, none⟩) m m)))) (i : Nat) (hi : S.objs[i]? = some (.var g t d)) : Still ops S o (.val (.v (.string (Go.Proofs.Ytdhicdnmgmkpkaa.bs l)))) := fun base ok a w ha => by
  have hx' := ev_v ha hx (looks_op (by rw [ho]; simp [Op.operands]))
  obtain ⟨_, cs, hh, hr⟩ := ha.objs _ (List.mem_of_getElem? hi)
  obtain ⟨e1, e2, pre, mid, post, rfl, e3, e4⟩ := sub_spec d n m true _ cs hs hr
  have hr := range_part (range_of_row hh)
  rw [Nat.zero_add, e3] at hr
  have hb : IsB w (a.eval x) l := by rw [hx']; exact isB_range hm (Array.getElem?_eq_some_iff.1 hh).1 hr e4
  refine ⟨_, ?_, v_mk rfl⟩
  unfold execOp
  simp only [ho, Sem.run_bind, conv_bytes hb, Result.andThen_ok, Sem.run_pure]
theorem P_slrow {t ty : Nat} {pos : String} {af : Array Edge} {gd : Option (Nat × Bool)} {x : Operand} {T n m e z i : Nat} {v : Value} {ds : List D} (hA : SliceA T m) (hx : ev (⟨rs, os, fs⟩ : St) x = some (.val (.v (elemPtr v n)))) (hi : os[i]? = some (.row v e z ds)) (hk0 : 0 < ds.length) (hg : guardOf ops ⟨rs, os, fs⟩ ⟨some t, .slice T x none none none, ty, pos, af, gd⟩ = some true) (hN : Nat.blt t N = true) (kk : EL X ops Q l' ⟨(t, .val (.v (slAt v n m))) :: rs, os, fs⟩) : EL X ops Q (⟨some t, .slice T x none none none, ty, pos, af, gd⟩ :: l') ⟨rs, os, fs⟩ := ES.still (g_slrow hA rfl hx i hi hk0) hg rfl hN kk
theorem H_slrow {t ty : Nat} {pos : String} {af : Array Edge} {gd : Option (Nat × Bool)} {x : Operand} {T n m e z i : Nat} {v : Value} {ds : List D} (hA : SliceA T m) (hx : ev (⟨rs, os, fs⟩ : St) x = some (.val (.v (elemPtr v n)))) (hi : os[i]? = some (.row v e z ds)) (hk0 : 0 < ds.length) (hg : guardOf ops ⟨rs, os, fs⟩ ⟨some t, .slice T x none none none, ty, pos, af, gd⟩ = some true) (hoff : offB N (some t) EE = true) (kk : EM N ops TT l' ⟨(t, .val (.v (slAt v n m))) :: rs, os, fs⟩ EE) : EM N ops TT (⟨some t, .slice T x none none none, ty, pos, af, gd⟩ :: l') ⟨rs, os, fs⟩ EE := EH.still (g_slrow hA rfl hx i hi hk0) hg rfl hoff kk
theorem P_strrow {t ty : Nat} {pos : String} {af : Array Edge} {gd : Option (Nat × Bool)} {x : Operand} {n m k off e z i : Nat} {v : Value} {ds : List D} {d : D} {l : List UInt8} (hx : ev (⟨rs, os, fs⟩ : St) x = some (.val (.v (slAt v n m)))) (hi : os[i]? = some (.row v e z ds)) (hk : n = k * z + off ∧ ds[k]? = some d) (hs : d.sub off m true = some (.arr m l)) (hm : Nat.ble m 4096 = true) (hg : guardOf ops ⟨rs, os, fs⟩ ⟨some t, .convert 34 9 x, ty, pos, af, gd⟩ = some true) (hN : Nat.blt t N = true) (kk : EL X ops Q l' ⟨(t, .val (.v (.string (Go.Proofs.Ytdhicdnmgmkpkaa.bs l)))) :: rs, os, fs⟩) : EL X ops Q (⟨some t, .convert 34 9 x, ty, pos, af, gd⟩ :: l') ⟨rs, os, fs⟩ := ES.still (g_strrow hm hk hs rfl hx i hi) hg rfl hN kk
theorem H_strrow {t ty : Nat} {pos : String} {af : Array Edge} {gd : Option (Nat × Bool)} {x : Operand} {n m k off e z i : Nat} {v : Value} {ds : List D} {d : D} {l : List UInt8} (hx : ev (⟨rs, os, fs⟩ : St) x = some (.val (.v (slAt v n m)))) (hi : os[i]? = some (.row v e z ds)) (hk : n = k * z + off ∧ ds[k]? = some d) (hs : d.sub off m true = some (.arr m l)) (hm : Nat.ble m 4096 = true) (hg : guardOf ops ⟨rs, os, fs⟩ ⟨some t, .convert 34 9 x, ty, pos, af, gd⟩ = some true) (hoff : offB N (some t) EE = true) (kk : EM N ops TT l' ⟨(t, .val (.v (.string (Go.Proofs.Ytdhicdnmgmkpkaa.bs l)))) :: rs, os, fs⟩ EE) : EM N ops TT (⟨some t, .convert 34 9 x, ty, pos, af, gd⟩ :: l') ⟨rs, os, fs⟩ EE := EH.still (g_strrow hm hk hs rfl hx i hi) hg rfl hoff kk
theorem P_strvar {t ty : Nat} {pos : String} {af : Array Edge} {gd : Option (Nat × Bool)} {x : Operand} {g n m i : Nat} {T : TypeId} {d : D} {l : List UInt8} (hx : ev (⟨rs, os, fs⟩ : St) x = some (.val (.v (.slice (some ⟨g, n, none⟩) m m)))) (hi : os[i]? = some (.var g T d)) (hs : d.sub n m true = some (.arr m l)) (hm : Nat.ble m 4096 = true) (hg : guardOf ops ⟨rs, os, fs⟩ ⟨some t, .convert 34 9 x, ty, pos, af, gd⟩ = some true) (hN : Nat.blt t N = true) (kk : EL X ops Q l' ⟨(t, .val (.v (.string (Go.Proofs.Ytdhicdnmgmkpkaa.bs l)))) :: rs, os, fs⟩) : EL X ops Q (⟨some t, .convert 34 9 x, ty, pos, af, gd⟩ :: l') ⟨rs, os, fs⟩ := ES.still (g_strvar hm hs rfl hx i hi) hg rfl hN kk
theorem H_strvar {t ty : Nat} {pos : String} {af : Array Edge} {gd : Option (Nat × Bool)} {x : Operand} {g n m i : Nat} {T : TypeId} {d : D} {l : List UInt8} (hx : ev (⟨rs, os, fs⟩ : St) x = some (.val (.v (.slice (some ⟨g, n, none⟩) m m)))) (hi : os[i]? = some (.var g T d)) (hs : d.sub n m true = some (.arr m l)) (hm : Nat.ble m 4096 = true) (hg : guardOf ops ⟨rs, os, fs⟩ ⟨some t, .convert 34 9 x, ty, pos, af, gd⟩ = some true) (hoff : offB N (some t) EE = true) (kk : EM N ops TT l' ⟨(t, .val (.v (.string (Go.Proofs.Ytdhicdnmgmkpkaa.bs l)))) :: rs, os, fs⟩ EE) : EM N ops TT (⟨some t, .convert 34 9 x, ty, pos, af, gd⟩ :: l') ⟨rs, os, fs⟩ EE := EH.still (g_strvar hm hs rfl hx i hi) hg rfl hoff kk
end
end E
end Go.Proofs.Ytdhicdnmgmkpkaa
/-
  Small things of many walks: tests of addresses and strings, nil, numbers' last bytes.
  Conditions: none.
-/
namespace Go.Proofs.Ytdhicdnmgmkpkaa
set_option linter.unusedVariables false
open Go.RowKit Mono Rlp
namespace E
theorem bin_addr (l m : List UInt8) : Bin .eql 23 (.arr 20 l) (.arr 20 m) (.bool (l == m)) ∧ Bin .neq 23 (.arr 20 l) (.arr 20 m) (.bool (l != m)) :=
  bin_arr Try.underlying23 Try.underlying5 (fun w => by kernel_rfl) (by kernel_rfl) l m
abbrev nilS : Value := .slice none 0 0
abbrev rsO (g : Nat) (L k : Value) (n : Int) : Obj := .var g 76 (.tup [.v L, .v k, .v (.int .i64 n)])
theorem bin_strlt (l m : List UInt8) : Bin .lss 9 (.v (.string (Go.Proofs.Ytdhicdnmgmkpkaa.bs l))) (.v (.string (Go.Proofs.Ytdhicdnmgmkpkaa.bs m))) (.bool (Op.bytesLess l m)) := by
  refine ⟨rfl, fun ok w p q hp hq => ?_⟩
  obtain rfl := (readV_v.1 hp).2
  obtain rfl := (readV_v.1 hq).2
  refine ⟨fun x y => by simp [eqGuard], ?_⟩
  simp [binOp, Op.stringOp, bs_toList]
theorem bl_irr : ∀ l : List UInt8, Op.bytesLess l l = false
  | [] => rfl
  | a :: l => by simp [Op.bytesLess, bl_irr l]
theorem sl_addr : SliceA 23 20 := ⟨fun w g o => by
  have hn : Try.prog.arrayLen 23 = 20 := by kernel_rfl
  have hs : (sizeOf (Try.prog.elem 23)).run Try.prog w = .ok 1 w := by kernel_rfl
  rw [run_sliceAt_array_all (P := Try.prog) w 23 ⟨g, o, none⟩ (by kernel_rfl), hs]
  simp [slicedAt, hn, add_none, Result.andThen]⟩
theorem bv8 (n : Nat) : bv (UInt8.ofNat n) = .int .u8 ((n % 256 : Nat) : Int) := by
  unfold bv
  rw [show (UInt8.ofNat n).toNat = n % 256 from rfl]
abbrev n64 (n : Nat) : Value := .int .i64 (n : Int)
theorem n64_wrap (n : Nat) (h : n < 9223372036854775808) : IntKind.i64.wrap (n : Int) = (n : Int) := IntWalk.i64_in _ ⟨by omega, by omega⟩
theorem ofInt_n64 (a : Nat) (h : a < 18446744073709551616) : (BitVec.ofInt 64 (a : Int)).toNat = a := by
  rw [BitVec.toNat_ofInt]
  omega
theorem n64_and (a b : Nat) (ha : a < 9223372036854775808) (hb : b < 9223372036854775808) : bits .and .i64 (a : Int) (b : Int) = ((a &&& b : Nat) : Int) := by
  have h : a &&& b ≤ a := Nat.and_le_left
  show IntKind.i64.wrap (((BitVec.ofInt 64 (a : Int) &&& BitVec.ofInt 64 (b : Int)).toNat : Nat) : Int) = _
  rw [BitVec.toNat_and, ofInt_n64 a (by omega), ofInt_n64 b (by omega)]
  exact n64_wrap _ (by omega)
theorem binMask (T : TypeId) (x k : Nat) (hx : x < 9223372036854775808) (hk : k < 63) (m : Int) (hm : m = ((2 ^ k - 1 : Nat) : Int)) : Bin .and T (.v (n64 x)) (.v (.int .i64 m)) (n64 (x % 2 ^ k)) := bin_of rfl fun w => by
  subst hm
  have hp : 2 ^ k - 1 < 9223372036854775808 := by
    have : 2 ^ k < 2 ^ 63 := Nat.pow_lt_pow_right (by decide) hk
    omega
  show Result.ok (Value.int .i64 (bits .and .i64 (x : Int) ((2 ^ k - 1 : Nat) : Int))) w = _
  rw [n64_and x _ hx hp, Nat.and_two_pow_sub_one_eq_mod]
theorem binShr (T : TypeId) (x k : Nat) (hk : k < 64) : Bin .shr T (.v (n64 x)) (.v (.int .u64 (k : Int))) (n64 (x / 2 ^ k)) := bin_of rfl fun w => by
  have h1 : ¬ ((k : Int) < 0) := by omega
  have h2 : min ((k : Int)).toNat IntKind.i64.bits = k := by
    rw [Int.toNat_natCast]
    exact Nat.min_eq_left (Nat.le_of_lt hk)
  have h3 : (x : Int).fdiv (2 ^ k) = ((x / 2 ^ k : Nat) : Int) := by
    rw [Int.fdiv_eq_ediv_of_nonneg _ (Int.le_of_lt (Int.pow_pos (by decide)))]
    simp
  show (Op.shift .shr .i64 (x : Int) .u64 (k : Int)).run Try.prog w = _
  unfold Op.shift
  rw [if_neg h1]
  simp only [h2, h3, Sem.run_pure]
end E
end Go.Proofs.Ytdhicdnmgmkpkaa
/-
  A field of a struct's value.
  Conditions: none.
-/
namespace Go.Proofs.Ytdhicdnmgmkpkaa
set_option linter.unusedVariables false
open Go.RowKit Mono Rlp
namespace E
section
variable {N : Nat} {X : Cx N} {S : St} {ops : Array Oper} {o : Oper} {w : World} {ok : Nat → Prop} {Q : Exit → Act → World → Prop} {l' : List Oper} {TT : St → List Fr → Prop} {EE : List Fr} {rs : List (Tmp × R)} {os : List Obj} {fs : List (Value × D)}
theorem run_fieldV {T k off sz : Nat} {ag : Bool} (F : Fld Try.prog T k off sz ag) {d d' : D} {cs : List Value} (hr : Reads ok w d cs) (hs : d.sub off sz ag = some d') : ∃ mid, Reads ok w d' mid ∧ (Instr.field T (.agg cs.toArray) k).run Try.prog w = .ok (form d' mid) w := by
  obtain ⟨e1, e2, pre, mid, post, rfl, e3, e4⟩ := sub_spec d off sz ag d' cs hs hr
  obtain ⟨⟨fs, f, dd, h1, h2, h3, h4, h5, h6⟩, hpos⟩ := F
  have hml : mid.length = sz := by rw [← e1]; exact Reads.len _ _ e4
  have hA : (isAgg f.type).run Try.prog w = .ok ag w := by
    unfold isAgg
    simp only [Sem.run_bind, run_underlying h5, Result.andThen_ok]
    subst h6
    cases dd <;> rfl
  refine ⟨mid, e4, ?_⟩
  subst h3
  cases ag with
  | true =>
    have hf : form d' mid = .agg mid.toArray := by unfold form; rw [e2]; rfl
    rw [hf]
    unfold Instr.field
    cases hi : Try.prog.info? f.type with
    | none => rw [hi] at h4; cases h4
    | some i =>
      rw [hi] at h4
      have hsz : i.size = sz := by simpa using h4
      simp [run_underlying h1, h2, asAgg, part, hA, sizeOf, typeInfo, hi, hsz]
      rw [← e3, ← hml]
      simp
  | false =>
    have hf : form d' mid = mid.headD undef := by unfold form; rw [e2]; rfl
    rw [hf]
    unfold Instr.field
    obtain ⟨x, rest, rfl⟩ : ∃ x rest, mid = x :: rest := by
      cases mid with
      | nil => simp at hml; omega
      | cons x rest => exact ⟨x, rest, rfl⟩
    simp [run_underlying h1, h2, asAgg, part, hA, ← e3]
theorem g_fieldv {x : Operand} {T k off sz : Nat} {ag : Bool} {d d' : D} {lf : List (Nat × Nat × Bool)} (ho : o.op = .field T x k) (hx : ev S x = some (.val d)) (ha : d.agg = true) (h : assoc stL T = some lf) (hk : lf[k]? = some (off, sz, ag)) (h0 : Nat.blt 0 sz = true) (hs : d.sub off sz ag = some d') : Still ops S o (.val d') := fun base ok a w hkn => by
  obtain ⟨cs, h1, h2⟩ := (readV_agg ha).1 (hkn.ev hx (looks_op (by rw [ho]; simp [Op.operands])))
  obtain ⟨mid, h3, h4⟩ := run_fieldV (fldI h hk h0) h1 hs
  refine ⟨form d' mid, ?_, mid, h3, rfl⟩
  unfold execOp
  simp only [ho, h2, Sem.run_bind, h4, Result.andThen_ok, Sem.run_pure]
theorem P_fieldv {t ty : Nat} {pos : String} {af : Array Edge} {gd : Option (Nat × Bool)} {x : Operand} {T k off sz : Nat} {ag : Bool} {d d' : D} {lf : List (Nat × Nat × Bool)} (hx : ev (⟨rs, os, fs⟩ : St) x = some (.val d)) (ha : d.agg = true) (h : assoc stL T = some lf) (hk : lf[k]? = some (off, sz, ag)) (h0 : Nat.blt 0 sz = true) (hs : d.sub off sz ag = some d') (hg : guardOf ops ⟨rs, os, fs⟩ ⟨some t, .field T x k, ty, pos, af, gd⟩ = some true) (hN : Nat.blt t N = true) (kk : EL X ops Q l' ⟨(t, .val d') :: rs, os, fs⟩) : EL X ops Q (⟨some t, .field T x k, ty, pos, af, gd⟩ :: l') ⟨rs, os, fs⟩ := ES.still (g_fieldv rfl hx ha h hk h0 hs) hg rfl hN kk
theorem H_fieldv {t ty : Nat} {pos : String} {af : Array Edge} {gd : Option (Nat × Bool)} {x : Operand} {T k off sz : Nat} {ag : Bool} {d d' : D} {lf : List (Nat × Nat × Bool)} (hx : ev (⟨rs, os, fs⟩ : St) x = some (.val d)) (ha : d.agg = true) (h : assoc stL T = some lf) (hk : lf[k]? = some (off, sz, ag)) (h0 : Nat.blt 0 sz = true) (hs : d.sub off sz ag = some d') (hg : guardOf ops ⟨rs, os, fs⟩ ⟨some t, .field T x k, ty, pos, af, gd⟩ = some true) (hoff : offB N (some t) EE = true) (kk : EM N ops TT l' ⟨(t, .val d') :: rs, os, fs⟩ EE) : EM N ops TT (⟨some t, .field T x k, ty, pos, af, gd⟩ :: l') ⟨rs, os, fs⟩ EE := EH.still (g_fieldv rfl hx ha h hk h0 hs) hg rfl hoff kk
end
end E
end Go.Proofs.Ytdhicdnmgmkpkaa
/-
  The abstract machine: ranges over maps; an entry of a map's literal; pieces of a chain in another order.
  Conditions: none.
-/
namespace Go.Proofs.Ytdhicdnmgmkpkaa
set_option linter.unusedVariables false
open Go.RowKit Mono Rlp
open Go.ChangeMaps (setBlock)
namespace E
abbrev itO (r b c : Nat) (seen : Array Nat) : Obj := .it r (.mapIter (some b) c seen c)
theorem All2.left {α β : Type} {R : α → β → Prop} : ∀ {l : List α} {m : List β}, All2 R l m → ∀ a ∈ l, ∃ b ∈ m, R a b
  | _, _, .nil, a, h => by cases h
  | _, _, .cons h1 h2, a, h => by
    rcases List.mem_cons.1 h with rfl | h
    · exact ⟨_, List.mem_cons_self, h1⟩
    · obtain ⟨b, hb, hr⟩ := h2.left a h
      exact ⟨b, List.mem_cons_of_mem _ hb, hr⟩
theorem All2.right {α β : Type} {R : α → β → Prop} : ∀ {l : List α} {m : List β}, All2 R l m → ∀ b ∈ m, ∃ a ∈ l, R a b
  | _, _, .nil, a, h => by cases h
  | _, _, .cons h1 h2, a, h => by
    rcases List.mem_cons.1 h with rfl | h
    · exact ⟨_, List.mem_cons_self, h1⟩
    · obtain ⟨b, hb, hr⟩ := h2.right a h
      exact ⟨b, List.mem_cons_of_mem _ hb, hr⟩
theorem borns_eq {ok : Nat → Prop} {w : World} {n : Nat} : ∀ {l : List MapEntry} {m : List Ent}, All2 (EntAt ok w n) l m → l.map (·.born) = m.map (·.1)
  | _, _, .nil => rfl
  | _, _, .cons h1 h2 => by rw [List.map_cons, List.map_cons, h1.born, borns_eq h2]
section
variable {N : Nat} {X : Cx N} {S : St} {a : Act} {w w' : World} {ops : Array Oper} {o : Oper} {Q : Exit → Act → World → Prop} {l : List Oper} {rs : List (Tmp × R)} {os os' rest : List Obj} {fs : List (Value × D)}
theorem m_range {T K n E b c i : Nat} {es : List Ent} {x : Operand} (ho : o.op = .range T x) (hx : ev S x = some (.val (.v (.map (some b))))) (hi : S.objs[i]? = some (.map b n c es)) (hT : assoc mapL T = some (K, n, E)) : Muts ops S o [] (fun r os' => ∃ g, r = .val (.v (.pointer (some ⟨g, 0, none⟩))) ∧ os' = [itO g b c #[]]) := .mk fun base ok a w ha hown => by
  have h1 := ev_v ha hx (looks_op (by rw [ho]; simp [Op.operands]))
  obtain ⟨_, _, arr, h2, _⟩ := ha.map hi
  have hr : (execOp a.eval o).run Try.prog w = .ok (.value (.pointer (some ⟨w.heap.size, 0, none⟩))) (w.alloc (.mapIter (some b) c #[] c)) := by
    simp [execOp, ho, h1, run_range_map w T _ _ b arr c (mapI hT).1 h2, Result.andThen]
  rw [hr]
  obtain ⟨g1, g2⟩ := m_new (ok := ok) (w := w) (q := itO w.heap.size b c #[]) (r := .val (.v (.pointer (some ⟨w.heap.size, 0, none⟩)))) (ob := .mapIter (some b) c #[] c) (v := .pointer (some ⟨w.heap.size, 0, none⟩)) rfl (fun ok' _ => ⟨.inr (Nat.le_refl _), heap_alloc_new w _⟩) (fun _ => v_mk rfl) ha.lt
  exact ⟨_, _, ⟨_, rfl, rfl⟩, g1, g2⟩
theorem P_range {t T K n E b c i ty : Nat} {pos : String} {af : Array Edge} {gd : Option (Nat × Bool)} {es : List Ent} {x : Operand} (hx : ev (⟨rs, os, fs⟩ : St) x = some (.val (.v (.map (some b))))) (hi : os[i]? = some (.map b n c es)) (hT : assoc mapL T = some (K, n, E)) (hg : guardOf ops ⟨rs, os, fs⟩ ⟨some t, .range T x, ty, pos, af, gd⟩ = some true) (hN : Nat.blt t N = true) (kk : ∀ g, EL X ops Q l ⟨(t, .val (.v (.pointer (some ⟨g, 0, none⟩)))) :: rs, itO g b c #[] :: os, fs⟩) : EL X ops Q (⟨some t, .range T x, ty, pos, af, gd⟩ :: l) ⟨rs, os, fs⟩ :=
  EL.mut (os := []) (rest := os) hg (dst_lt rfl hN) (m_range rfl hx hi hT) fun r os' ⟨g, h1, h2⟩ => by
    subst h1 h2
    exact kk g
theorem m_next {b n c g : Nat} {es : List Ent} {seen : Array Nat} {x : Operand} (ho : o.op = .next x false) (hx : ev S x = some (.val (.v (.pointer (some ⟨g, 0, none⟩))))) :
    Muts ops S o [itO g b c seen, .map b n c es] (fun r os' => (r = .tpl [.v (.bool false)] ∧ (∀ e ∈ es, e.1 ∈ seen) ∧ os' = [itO g b c seen, .map b n c es]) ∨ (∃ e ∈ es, e.1 ∉ seen ∧ r = .tpl [.v (.bool true), .arr n e.2.1, e.2.2] ∧ os' = [itO g b c (seen.push e.1), .map b n c es])) := .mk fun base ok a w ha hown => by
  have h1 := ev_v ha hx (looks_op (by rw [ho]; simp [Op.operands]))
  obtain ⟨_, h2⟩ := hown.at_ (itO g b c seen) (by simp)
  obtain ⟨_, hE, arr, h3, h4⟩ := hown.at_ (.map b n c es) (by simp)
  have hne : g ≠ b := fun e => by rw [e, h3] at h2; cases h2
  have hlt : ∀ x ∈ arr.toList, x.born < c := fun x hx => by
    obtain ⟨y, hy, h5⟩ := h4.left x hx
    rw [h5.born]
    exact hE.lt y hy
  have hBg : Blks [itO g b c seen, .map b n c es] g := ⟨_, List.mem_cons_self, rfl⟩
  rcases run_next_at (P := Try.prog) w o.type g b c c seen arr c h2 h3 hlt (Nat.le_refl _) with ⟨h0, hrun⟩ | ⟨e, he, w1, hal, hrun⟩
  · have hr : (execOp a.eval o).run Try.prog w = .ok (.value (.tuple #[.bool false])) w := by simp [execOp, ho, h1, hrun, Result.andThen]
    rw [hr]
    refine ⟨_, _, .inl ⟨rfl, fun e he => ?_, rfl⟩, ⟨.refl w, hown.apart, fun p hp => ?_⟩, ?_⟩
    · obtain ⟨x, hx, h5⟩ := h4.right e he
      have h6 : leftOf arr seen = #[] := Array.eq_empty_of_size_eq_zero h0
      refine Classical.byContradiction fun hn => ?_
      have : x ∈ leftOf arr seen := by
        unfold leftOf
        rw [Array.mem_filter]
        refine ⟨by simpa using hx, ?_⟩
        rw [h5.born]
        simpa using hn
      rw [h6] at this
      simp at this
    · refine ((hown.at_ p hp).move (fun b' hb' => ⟨.inl hb', ha.lt b' hb', fun o' ho' e => hown.off b' ⟨o', ho', e⟩ hb'⟩) (fun _ _ => rfl) fun _ _ => rfl).rebase fun b' e => .inl ⟨p, hp, e⟩
    · exact ⟨[.bool false], rfl, _, _, rfl, v_mk rfl, rfl⟩
  · obtain ⟨hem, hes⟩ := mem_left he
    have hr1 : w1.heap[g]? = some (.mapIter (some b) c seen c) := by rcases hal with rfl | rfl <;> exact h2
    have hset : (setBlock w1 g (.mapIter (some b) c (seen.push e.born) c)).heap[g]? = some (.mapIter (some b) c (seen.push e.born) c) ∧ ∀ j, j ≠ g → (setBlock w1 g (.mapIter (some b) c (seen.push e.born) c)).heap[j]? = w1.heap[j]? := MapKept.heap_set (o' := .mapIter (some b) c (seen.push e.born) c) hr1
    have hgr : w.grownBy (setBlock w1 g (.mapIter (some b) c (seen.push e.born) c)) (some g) := by rcases hal with rfl | rfl <;> exact ⟨rfl, rfl, rfl, by simp [setBlock], fun i _ hi => hset.2 i (fun e1 => hi (by rw [e1]))⟩
    have hr : (execOp a.eval o).run Try.prog w = .ok (.value (.tuple #[.bool true, e.key, e.val])) (setBlock w1 g (.mapIter (some b) c (seen.push e.born) c)) := by simp [execOp, ho, h1, hrun, Result.andThen]
    rw [hr]
    obtain ⟨x, hx, h5⟩ := h4.left e (by simpa using hem)
    generalize setBlock w1 g (.mapIter (some b) c (seen.push e.born) c) = w2 at hset hgr hr ⊢
    rw [h5.born] at hset
    have hok : ∀ b', ok b' → okM ok [itO g b c seen, .map b n c es] w [itO g b c (seen.push x.1), .map b n c es] w2 b' := fun b' hb' => ⟨.inl hb', Nat.lt_of_lt_of_le (ha.lt b' hb') hgr.size, fun o' ho' e' => by
      simp only [List.mem_cons, List.not_mem_nil, or_false] at ho'
      rcases ho' with rfl | rfl
      · exact hown.off b' ⟨itO g b c seen, List.mem_cons_self, e'⟩ hb'
      · exact hown.off b' ⟨.map b n c es, by simp, e'⟩ hb'⟩
    have hcell : ∀ p : Addr, ok p.block → w2.cell? p = w.cell? p := fun p hp => World.cell?_of_block (hgr.block _ (ha.lt _ hp) fun e' => hown.off p.block ⟨itO g b c seen, List.mem_cons_self, e'.symm ▸ rfl⟩ hp)
    refine ⟨_, _, .inr ⟨x, hx, ?_, rfl, rfl⟩, ⟨⟨hgr.os, hgr.tape, hgr.output, hgr.size, fun k hk hn => hgr.block k hk fun e' => hn (by injection e' with e'; subst e'; exact hBg)⟩, ?_, fun p hp => ?_⟩, ?_⟩
    · rw [← h5.born]
      intro hm
      rw [Array.contains_iff_mem.2 hm] at hes
      cases hes
    · have := hown.apart
      simpa [Apart, Obj.blk] using this
    · simp only [List.mem_cons, List.not_mem_nil, or_false] at hp
      rcases hp with rfl | rfl
      · exact ⟨.inl hBg, hset.1⟩
      · refine ⟨.inl ⟨.map b n c es, by simp, rfl⟩, hE, arr, (hset.2 b (fun e' => hne e'.symm)).trans (by rcases hal with rfl | rfl <;> exact h3), forall2_imp (fun _ _ h => h.mono hok hcell) h4⟩
    · refine ⟨[.bool true, e.key, e.val], rfl, _, _, rfl, v_mk rfl, _, _, rfl, ?_, _, _, rfl, h5.val.mono hok hcell, rfl⟩
      rw [h5.key]
      exact arrV_mk h5.len
theorem g_entry {b n c g i j : Nat} {es : List Ent} {seen : Array Nat} {x : Operand} {e : Ent} (he : e ∈ es) (ho : o.op = .entry x) (hx : ev S x = some (.val (.v (.pointer (some ⟨g, 0, none⟩))))) (hi : S.objs[i]? = some (itO g b c (seen.push e.1))) (hj : S.objs[j]? = some (.map b n c es)) : Still ops S o (.tpl [.arr n e.2.1, e.2.2]) := fun base ok a w ha => by
  have h1 := ev_v ha hx (looks_op (by rw [ho]; simp [Op.operands]))
  obtain ⟨_, hE, arr, h3, h4⟩ := ha.map hj
  obtain ⟨_, h2⟩ := ha.objs _ (List.mem_of_getElem? hi)
  obtain ⟨y, hy, h5⟩ := h4.right e he
  rw [← h5.born] at h2
  have hrun := run_entry_at (P := Try.prog) w g b c seen arr c y h2 h3 hy (by rw [borns_eq h4]; exact hE.borns)
  refine ⟨.tuple #[y.key, y.val], ?_, [y.key, y.val], rfl, _, _, rfl, by rw [h5.key]; exact arrV_mk h5.len, _, _, rfl, h5.val, rfl⟩
  simp [execOp, ho, h1, hrun, Result.andThen]
theorem P_next {t b n c g ty : Nat} {pos : String} {af : Array Edge} {gd : Option (Nat × Bool)} {es : List Ent} {seen : Array Nat} {x : Operand} (hx : ev (⟨rs, os, fs⟩ : St) x = some (.val (.v (.pointer (some ⟨g, 0, none⟩))))) (hg : guardOf ops ⟨rs, [itO g b c seen, .map b n c es] ++ os, fs⟩ ⟨some t, .next x false, ty, pos, af, gd⟩ = some true) (hN : Nat.blt t N = true)
    (kd : (∀ e ∈ es, e.1 ∈ seen) → EL X ops Q l ⟨(t, .tpl [.v (.bool false)]) :: rs, itO g b c seen :: .map b n c es :: os, fs⟩)
    (km : ∀ e ∈ es, e.1 ∉ seen → EL X ops Q l ⟨(t, .tpl [.v (.bool true), .arr n e.2.1, e.2.2]) :: rs, itO g b c (seen.push e.1) :: .map b n c es :: os, fs⟩) : EL X ops Q (⟨some t, .next x false, ty, pos, af, gd⟩ :: l) ⟨rs, itO g b c seen :: .map b n c es :: os, fs⟩ :=
  EL.mut (os := [itO g b c seen, .map b n c es]) (rest := os) hg (dst_lt rfl hN) (m_next rfl hx) fun r os' h => by
    rcases h with ⟨h1, h2, h3⟩ | ⟨e, h1, h2, h3, h4⟩
    · subst h1 h3
      exact kd h2
    · subst h3 h4
      exact km e h1 h2
theorem P_entry {t b n c g i j ty : Nat} {pos : String} {af : Array Edge} {gd : Option (Nat × Bool)} {es : List Ent} {seen : Array Nat} {x : Operand} {e : Ent} (he : e ∈ es) (hx : ev (⟨rs, os, fs⟩ : St) x = some (.val (.v (.pointer (some ⟨g, 0, none⟩))))) (hi : os[i]? = some (itO g b c (seen.push e.1))) (hj : os[j]? = some (.map b n c es)) (hg : guardOf ops ⟨rs, os, fs⟩ ⟨some t, .entry x, ty, pos, af, gd⟩ = some true) (hN : Nat.blt t N = true) (kk : EL X ops Q l ⟨(t, .tpl [.arr n e.2.1, e.2.2]) :: rs, os, fs⟩) : EL X ops Q (⟨some t, .entry x, ty, pos, af, gd⟩ :: l) ⟨rs, os, fs⟩ := ES.still (g_entry he rfl hx hi hj) hg rfl hN kk
theorem put_insert {T K n E g c : Nat} {x y z : Operand} {es : List Ent} {l1 : List UInt8} {d : D} (ho : o.op = .insert T x y z) (hx : ev S x = some (.val (.v (.map (some g))))) (hy : ev S y = some (.val (.arr n l1))) (hz : ev S z = some (.val d)) (hT : assoc mapL T = some (K, n, E)) : Puts ops S o (.map g n c es) (.map g n (tickE c es l1) (putE c es l1 d)) := by
  refine ⟨rfl, fun base ok a w ha hno hat => ?_⟩
  have h1 := ev_v ha hx (looks_op (by rw [ho]; simp [Op.operands]))
  obtain ⟨h2, h3⟩ := arrV_of (ha.ev hy (looks_op (by rw [ho]; simp [Op.operands])))
  obtain ⟨w', h4, h5, h6⟩ := run_mapUpdate (mapI hT).1 (mapI hT).2 hat l1 h2 (ha.ev hz (looks_op (by rw [ho]; simp [Op.operands]))) (hno g rfl)
  refine ⟨w', g, ?_, rfl, h5, h6⟩
  unfold execOp
  simp only [ho, h1, h3, Sem.run_bind, h4, Result.andThen_ok, Sem.run_pure]
end
end E
end Go.Proofs.Ytdhicdnmgmkpkaa
