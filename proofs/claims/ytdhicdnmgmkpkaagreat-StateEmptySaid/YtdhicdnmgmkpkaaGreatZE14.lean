/-
  Merged (wip/tools/merge.py): ST2, ST3, SB, SU1.
  Conditions: none.
-/
import Derived.Test.YtdhicdnmgmkpkaaGreatZE13
import Derived.Test.YtdhicdnmgmkpkaaGreatZE9
import Derived.Lib.SliceRun
/-
  The state: change, SetNonce, SetBalance, Mark.
  Conditions: none.
-/
namespace Go.Proofs.YtdhicdnmgmkpkaaGreat
set_option linter.unusedVariables false
open Go.RowKit Mono Rlp Wd
namespace E
section
variable {N : Nat} {X : Cx N} {rs : List (Tmp × R)} {os : List Obj} {fs : List (Value × D)}
theorem Le.varR {g : Nat} {t : TypeId} {d d' : D} (h : Refine fs d d') : Le X ⟨rs, .var g t d :: os, fs⟩ ⟨rs, .var g t d' :: os, fs⟩ := fun a w ha => by
  have hok : ∀ b, X.ok (.var g t d :: os) w b ↔ X.ok (.var g t d' :: os) w b := fun b => ⟨fun hb => ⟨hb.1, hb.2.1, fun o ho => by
      rcases List.mem_cons.1 ho with rfl | ho
      · exact hb.2.2 (.var g t d) List.mem_cons_self
      · exact hb.2.2 o (List.mem_cons_of_mem _ ho)⟩, fun hb => ⟨hb.1, hb.2.1, fun o ho => by
      rcases List.mem_cons.1 ho with rfl | ho
      · exact hb.2.2 (.var g t d') List.mem_cons_self
      · exact hb.2.2 o (List.mem_cons_of_mem _ ho)⟩⟩
  have hap := List.pairwise_cons.1 ha.mem.apart
  have hf : ∀ f ∈ fs, Reads (X.ok (.var g t d' :: os) w) w f.2 [f.1] := fun f hf => Reads.mono (fun b hb => (hok b).1 hb) (fun _ _ => rfl) _ _ (ha.mem.fact f hf)
  refine ⟨⟨ha.mem.gr, List.pairwise_cons.2 ⟨fun p hp b e => hap.1 p hp b e, hap.2⟩, fun o ho => ?_, hf⟩, fun t' r hr => (ha.regs t' r hr).mono (fun b hb => (hok b).1 hb) fun _ _ => rfl, ha.size, ha.defers⟩
  rcases List.mem_cons.1 ho with rfl | ho
  · obtain ⟨h1, cs, h2, h3⟩ := ha.mem.at_ (.var g t d) List.mem_cons_self
    exact ⟨h1, cs, h2, (Refine.reads hf _ _ _ h (Reads.mono (fun b hb => (hok b).1 hb) (fun _ _ => rfl) _ _ h3)).1⟩
  · exact (ha.mem.at_ o (List.mem_cons_of_mem _ ho)).move (fun b hb => (hok b).1 hb) (fun _ _ => rfl) fun _ _ => rfl
end
section
variable {g m c ga gs T : Nat} {u k : Value} {n : Int} {es : List Ent} {a : List UInt8} {us ks : List D} {d : D}
def undid (ks us : List D) (d : D) : List D := if ks.length = 0 then us else us ++ [d]
set_option maxRecDepth 20000 in
set_option maxHeartbeats 4000000 in
theorem change_in (h : getE es a = some (.v (ptr ga))) (hu : us.length < 1099511627776) : FnM 106 [.v (ptr g), .arr 20 a, .ifc T d] [stO g m u k n, smO m c es, unO u us, mkO k ks] (fun r os' => ∃ u', r = .val (.v (ptr ga)) ∧ os' = [stO g m u' k n, smO m c es, unO u' (undid ks us (.ifc T d)), mkO k ks]) := by
  have hg : (getE es a).getD (.v (.pointer none)) = .v (ptr ga) := by rw [h]; rfl
  have hn := (bin_nil (T := 111) rfl (some ⟨ga, 0, none⟩)).1
  refine FnM.walk 44 Tryz.func106 rfl Tryz.ntmps106 (by simp) fun X => ?_
  by_cases hk : ks.length = 0
  · obtain rfl : ks = [] := List.eq_nil_of_length_eq_zero hk
    rw [show undid [] us (.ifc T d) = us from rfl]
    repeat
      (first
       | (apply P_move; (iterate 3 exact rfl)) | (apply P_assign; (iterate 3 exact rfl)) | (apply P_field; (iterate 6 exact rfl))
       | (apply P_load; exact rfl; (first | exact I0 | exact I1 | exact I2 | exact I3 | exact I4 | exact I5 | exact I6); (iterate 4 exact rfl))
       | (apply P_cmp (b := false); (iterate 2 exact rfl); (focus (first | (simp [cmpI]; done) | (simp [cmpI]; omega))); (iterate 2 exact rfl))
       | (apply P_lenrow; exact rfl; (first | exact I0 | exact I1 | exact I2 | exact I3 | exact I4 | exact I5 | exact I6); (iterate 3 exact rfl)) | (apply P_nilck; (iterate 3 exact rfl))
       | (apply P_box; exact rfl; exact rfl; exact rfl; intro _) | apply EL.nil | ((with_reducible apply EK.then_normal); apply EK.code) | (apply EC.cond_false; exact rfl)
       | (with_reducible first | apply EC.seq | apply EC.region | apply EC.skip | apply EC.label | apply EC.block | apply EC.exit | apply EC.ret | apply EK.in_normal | apply EK.in_same | apply EK.in_ret | apply EK.then_ret | apply EK.then_exit))
    refine EC.draw 7 (by kernel_rfl) ?_
    simp only [List.take_succ_cons, List.take_zero, List.drop_succ_cons, List.drop_zero]
    repeat
      (first
       | (apply H_lookup; exact hg; exact rfl; (first | exact I0 | exact I1 | exact I2); (iterate 5 exact rfl)) | (apply H_bin; (iterate 2 exact rfl); exact hn; (iterate 2 exact rfl))
       | (apply H_move; (iterate 3 exact rfl)) | (apply H_field; (iterate 6 exact rfl))
       | (apply H_load; exact rfl; (first | exact I0 | exact I1 | exact I2 | exact I3 | exact I4 | exact I5 | exact I6); (iterate 4 exact rfl)) | (apply H_nilck; (iterate 3 exact rfl))
       | ((with_reducible apply EH.nil); exact rfl))
    repeat
      (first
       | apply EL.nil | ((with_reducible apply EK.then_normal); apply EK.code) | (apply EC.cond_false; exact rfl)
       | (with_reducible first | apply EC.seq | apply EC.region | apply EC.skip | apply EC.label | apply EC.block | apply EC.exit | apply EC.ret | apply EK.in_normal | apply EK.in_same | apply EK.in_ret | apply EK.then_ret | apply EK.then_exit))
    refine EC.draw 6 (by kernel_rfl) ?_
    simp only [List.take_succ_cons, List.take_zero, List.drop_succ_cons, List.drop_zero]
    repeat
      (first
       | (apply H_lookup; exact hg; exact rfl; (first | exact I0 | exact I1 | exact I2); (iterate 5 exact rfl)) | (apply H_move; (iterate 3 exact rfl)) | (apply H_field; (iterate 6 exact rfl))
       | (apply H_load; exact rfl; (first | exact I0 | exact I1 | exact I2 | exact I3 | exact I4 | exact I5 | exact I6); (iterate 4 exact rfl)) | (apply H_nilck; (iterate 3 exact rfl))
       | ((with_reducible apply EH.nil); exact rfl))
    repeat
      (first
       | (apply P_assign; (iterate 3 exact rfl)) | apply EL.nil | ((with_reducible apply EK.then_normal); apply EK.code)
       | (with_reducible first | apply EC.seq | apply EC.region | apply EC.skip | apply EC.label | apply EC.block | apply EC.exit | apply EC.ret | apply EK.in_normal | apply EK.in_same | apply EK.in_ret | apply EK.then_ret | apply EK.then_exit))
    exact EK.retM1s [stO g m u k n, smO m c es, unO u us, mkO k []] rfl rfl (by (repeat first | exact List.nil_sublist _ | apply List.Sublist.cons_cons | apply List.Sublist.cons)) ⟨u, rfl, rfl⟩
  · have hU : undid ks us (.ifc T d) = us ++ [.ifc T d] := if_neg hk
    rw [hU]
    repeat
      (first
       | (apply P_move; (iterate 3 exact rfl)) | (apply P_assign; (iterate 3 exact rfl)) | (apply P_field; (iterate 6 exact rfl))
       | (apply P_load; exact rfl; (first | exact I0 | exact I1 | exact I2 | exact I3 | exact I4 | exact I5 | exact I6); (iterate 4 exact rfl))
       | (apply P_cmp (b := true); (iterate 2 exact rfl); (focus (first | (simp [cmpI]; done) | (simp [cmpI]; omega))); (iterate 2 exact rfl))
       | (apply P_lenrow; exact rfl; (first | exact I0 | exact I1 | exact I2 | exact I3 | exact I4 | exact I5 | exact I6); (iterate 3 exact rfl)) | (apply P_lit; (iterate 9 exact rfl))
       | (apply P_nilck; (iterate 3 exact rfl)) | (apply P_box; exact rfl; exact rfl; exact rfl; intro _)
       | (apply P_store; exact rfl; (focus (repeat first | exact .z | apply SetAt.s | apply SetAtF.s)); (iterate 4 exact rfl))
       | ((apply P_append; exact rfl; (focus (repeat first | exact .z | apply SetAt.s | apply SetAtF.s)); (iterate 5 exact rfl); (focus (constructor <;> (first | (simp; done) | (simp; omega))))); intro _)
       | apply EL.nil | ((with_reducible apply EK.then_normal); apply EK.code) | (apply EC.cond_true; exact rfl)
       | (with_reducible first | apply EC.seq | apply EC.region | apply EC.skip | apply EC.label | apply EC.block | apply EC.exit | apply EC.ret | apply EK.in_normal | apply EK.in_same | apply EK.in_ret | apply EK.then_ret | apply EK.then_exit))
    rename_i u'
    refine EC.draw 7 (by kernel_rfl) ?_
    simp only [List.take_succ_cons, List.take_zero, List.drop_succ_cons, List.drop_zero]
    repeat
      (first
       | (apply H_lookup; exact hg; exact rfl; (first | exact I0 | exact I1 | exact I2); (iterate 5 exact rfl)) | (apply H_bin; (iterate 2 exact rfl); exact hn; (iterate 2 exact rfl))
       | (apply H_move; (iterate 3 exact rfl)) | (apply H_field; (iterate 6 exact rfl))
       | (apply H_load; exact rfl; (first | exact I0 | exact I1 | exact I2 | exact I3 | exact I4 | exact I5 | exact I6); (iterate 4 exact rfl)) | (apply H_nilck; (iterate 3 exact rfl))
       | ((with_reducible apply EH.nil); exact rfl))
    repeat
      (first
       | apply EL.nil | ((with_reducible apply EK.then_normal); apply EK.code) | (apply EC.cond_false; exact rfl)
       | (with_reducible first | apply EC.seq | apply EC.region | apply EC.skip | apply EC.label | apply EC.block | apply EC.exit | apply EC.ret | apply EK.in_normal | apply EK.in_same | apply EK.in_ret | apply EK.then_ret | apply EK.then_exit))
    refine EC.draw 6 (by kernel_rfl) ?_
    simp only [List.take_succ_cons, List.take_zero, List.drop_succ_cons, List.drop_zero]
    repeat
      (first
       | (apply H_lookup; exact hg; exact rfl; (first | exact I0 | exact I1 | exact I2); (iterate 5 exact rfl)) | (apply H_move; (iterate 3 exact rfl)) | (apply H_field; (iterate 6 exact rfl))
       | (apply H_load; exact rfl; (first | exact I0 | exact I1 | exact I2 | exact I3 | exact I4 | exact I5 | exact I6); (iterate 4 exact rfl)) | (apply H_nilck; (iterate 3 exact rfl))
       | ((with_reducible apply EH.nil); exact rfl))
    repeat
      (first
       | (apply P_assign; (iterate 3 exact rfl)) | apply EL.nil | ((with_reducible apply EK.then_normal); apply EK.code)
       | (with_reducible first | apply EC.seq | apply EC.region | apply EC.skip | apply EC.label | apply EC.block | apply EC.exit | apply EC.ret | apply EK.in_normal | apply EK.in_same | apply EK.in_ret | apply EK.then_ret | apply EK.then_exit))
    exact EK.retM1s [stO g m u' k n, smO m c es, unO u' (us ++ [.ifc T d]), mkO k ks] rfl rfl (by (repeat first | exact List.nil_sublist _ | apply List.Sublist.cons_cons | apply List.Sublist.cons)) ⟨u', rfl, rfl⟩
set_option maxRecDepth 20000 in
set_option maxHeartbeats 4000000 in
theorem change_out (h : getE es a = none) (hu : us.length < 1099511627776) : FnM 106 [.v (ptr g), .arr 20 a, .ifc T d] [stO g m u k n, smO m c es, unO u us, mkO k ks] (fun r os' => ∃ u' ga gs, r = .val (.v (ptr ga)) ∧ os' = [acO ga 0 zero32 [] (.map (some gs)), .map gs 32 0 [], stO g m u' k n, smO m (tickE c es a) (putE c es a (.v (ptr ga))), unO u' (undid ks us (.ifc T d)), mkO k ks]) := by
  have hg : (getE es a).getD (.v (.pointer none)) = .v (.pointer none) := by rw [h]; rfl
  have hg2 : ∀ ga, (getE (putE c es a (.v (ptr ga))) a).getD (.v (.pointer none)) = .v (ptr ga) := fun ga => by rw [getE_putE, if_pos rfl]; rfl
  have hn := (bin_nil (T := 111) rfl none).1
  refine FnM.walk 44 Tryz.func106 rfl Tryz.ntmps106 (by simp) fun X => ?_
  by_cases hk : ks.length = 0
  · obtain rfl : ks = [] := List.eq_nil_of_length_eq_zero hk
    rw [show undid [] us (.ifc T d) = us from rfl]
    repeat
      (first
       | (apply P_move; (iterate 3 exact rfl)) | (apply P_assign; (iterate 3 exact rfl)) | (apply P_field; (iterate 6 exact rfl))
       | (apply P_load; exact rfl; (first | exact I0 | exact I1 | exact I2 | exact I3 | exact I4 | exact I5 | exact I6); (iterate 4 exact rfl))
       | (apply P_cmp (b := false); (iterate 2 exact rfl); (focus (first | (simp [cmpI]; done) | (simp [cmpI]; omega))); (iterate 2 exact rfl))
       | (apply P_lenrow; exact rfl; (first | exact I0 | exact I1 | exact I2 | exact I3 | exact I4 | exact I5 | exact I6); (iterate 3 exact rfl)) | (apply P_nilck; (iterate 3 exact rfl))
       | (apply P_box; exact rfl; exact rfl; exact rfl; intro _) | apply EL.nil | ((with_reducible apply EK.then_normal); apply EK.code) | (apply EC.cond_false; exact rfl)
       | (with_reducible first | apply EC.seq | apply EC.region | apply EC.skip | apply EC.label | apply EC.block | apply EC.exit | apply EC.ret | apply EK.in_normal | apply EK.in_same | apply EK.in_ret | apply EK.then_ret | apply EK.then_exit))
    refine EC.draw 7 (by kernel_rfl) ?_
    simp only [List.take_succ_cons, List.take_zero, List.drop_succ_cons, List.drop_zero]
    repeat
      (first
       | (apply H_lookup; exact hg; exact rfl; (first | exact I0 | exact I1 | exact I2); (iterate 5 exact rfl)) | (apply H_bin; (iterate 2 exact rfl); exact hn; (iterate 2 exact rfl))
       | (apply H_move; (iterate 3 exact rfl)) | (apply H_field; (iterate 6 exact rfl))
       | (apply H_load; exact rfl; (first | exact I0 | exact I1 | exact I2 | exact I3 | exact I4 | exact I5 | exact I6); (iterate 4 exact rfl)) | (apply H_nilck; (iterate 3 exact rfl))
       | ((with_reducible apply EH.nil); exact rfl))
    repeat
      (first
       | apply EL.nil | ((with_reducible apply EK.then_normal); apply EK.code) | (apply EC.cond_true; exact rfl))
    refine EC.drawC 8 [0, 1, 2, 3, 4] [5, 6, 7] [] _ (by kernel_rfl) (by kernel_rfl) rfl ?_
    simp only [pickL, List.filterMap_cons, List.filterMap_nil, List.getElem?_cons_zero, List.getElem?_cons_succ]
    repeat
      (first
       | (apply H_move; (iterate 3 exact rfl)) | (apply H_field; (iterate 6 exact rfl))
       | (apply H_load; exact rfl; (first | exact I0 | exact I1 | exact I2 | exact I3 | exact I4 | exact I5 | exact I6); (iterate 4 exact rfl)) | (apply H_nilck; (iterate 3 exact rfl)))
    refine EM.nil ?_
    repeat (first | rw [List.cons_append] | rw [List.nil_append])
    refine CH.mut (os := []) (rest := []) rfl rfl (m_makeMap rfl rfl) ?_
    rintro _ _ ⟨gs, rfl, rfl⟩
    try simp only [St.put]
    repeat (first | rw [List.cons_append] | rw [List.nil_append])
    refine CH.cut 1 ?_
    simp only [List.take_succ_cons, List.take_zero, List.drop_succ_cons, List.drop_zero]
    repeat
      (first
       | (apply H_build; (iterate 7 exact rfl)))
    refine EM.nil ?_
    repeat (first | rw [List.cons_append] | rw [List.nil_append])
    refine CH.mut (os := []) (rest := [_]) rfl rfl (m_box rfl rfl) ?_
    rintro _ _ ⟨ga, rfl, rfl⟩
    try simp only [St.put]
    repeat (first | rw [List.cons_append] | rw [List.nil_append])
    refine CH.nil ?_
    try simp only [List.drop_succ_cons, List.drop_zero]
    repeat
      (first
       | (apply P_mapUpd; exact rfl; (focus (repeat first | exact .z | apply SetAt.s | apply SetAtF.s)); (iterate 4 exact rfl)) | apply EL.nil | ((with_reducible apply EK.then_normal); apply EK.code)
       | (with_reducible first | apply EC.seq | apply EC.region | apply EC.skip | apply EC.label | apply EC.block | apply EC.exit | apply EC.ret | apply EK.in_normal | apply EK.in_same | apply EK.in_ret | apply EK.then_ret | apply EK.then_exit))
    refine EC.draw 6 (by kernel_rfl) ?_
    simp only [List.take_succ_cons, List.take_zero, List.drop_succ_cons, List.drop_zero]
    repeat
      (first
       | (apply H_lookup; exact hg2 ga; exact rfl; (first | exact I0 | exact I1 | exact I2 | exact I3 | exact I4 | exact I5); (iterate 5 exact rfl)) | (apply H_move; (iterate 3 exact rfl))
       | (apply H_field; (iterate 6 exact rfl)) | (apply H_load; exact rfl; (first | exact I0 | exact I1 | exact I2 | exact I3 | exact I4 | exact I5 | exact I6); (iterate 4 exact rfl))
       | (apply H_nilck; (iterate 3 exact rfl)) | ((with_reducible apply EH.nil); exact rfl))
    repeat
      (first
       | (apply P_assign; (iterate 3 exact rfl)) | apply EL.nil | ((with_reducible apply EK.then_normal); apply EK.code)
       | (with_reducible first | apply EC.seq | apply EC.region | apply EC.skip | apply EC.label | apply EC.block | apply EC.exit | apply EC.ret | apply EK.in_normal | apply EK.in_same | apply EK.in_ret | apply EK.then_ret | apply EK.then_exit))
    refine EK.le (Le.varR (d' := .tup [.v (.int .i64 0), .arr 32 zero32, .bs [], .v (.map (some gs))]) ?_) ?_
    · exact Rf.tup (RL.cons Rf.same (RL.cons Rf.same (RL.cons Rf.bs0 (RL.cons Rf.same RL.nil))))
    exact EK.retM1s [acO ga 0 zero32 [] (.map (some gs)), .map gs 32 0 [], stO g m u k n, smO m (tickE c es a) (putE c es a (.v (ptr ga))), unO u us, mkO k []] rfl rfl (by (repeat first | exact List.nil_sublist _ | apply List.Sublist.cons_cons | apply List.Sublist.cons)) ⟨u, ga, gs, rfl, rfl⟩
  · have hU : undid ks us (.ifc T d) = us ++ [.ifc T d] := if_neg hk
    rw [hU]
    repeat
      (first
       | (apply P_move; (iterate 3 exact rfl)) | (apply P_assign; (iterate 3 exact rfl)) | (apply P_field; (iterate 6 exact rfl))
       | (apply P_load; exact rfl; (first | exact I0 | exact I1 | exact I2 | exact I3 | exact I4 | exact I5 | exact I6); (iterate 4 exact rfl))
       | (apply P_cmp (b := true); (iterate 2 exact rfl); (focus (first | (simp [cmpI]; done) | (simp [cmpI]; omega))); (iterate 2 exact rfl))
       | (apply P_lenrow; exact rfl; (first | exact I0 | exact I1 | exact I2 | exact I3 | exact I4 | exact I5 | exact I6); (iterate 3 exact rfl)) | (apply P_lit; (iterate 9 exact rfl))
       | (apply P_nilck; (iterate 3 exact rfl)) | (apply P_box; exact rfl; exact rfl; exact rfl; intro _)
       | (apply P_store; exact rfl; (focus (repeat first | exact .z | apply SetAt.s | apply SetAtF.s)); (iterate 4 exact rfl))
       | ((apply P_append; exact rfl; (focus (repeat first | exact .z | apply SetAt.s | apply SetAtF.s)); (iterate 5 exact rfl); (focus (constructor <;> (first | (simp; done) | (simp; omega))))); intro _)
       | apply EL.nil | ((with_reducible apply EK.then_normal); apply EK.code) | (apply EC.cond_true; exact rfl)
       | (with_reducible first | apply EC.seq | apply EC.region | apply EC.skip | apply EC.label | apply EC.block | apply EC.exit | apply EC.ret | apply EK.in_normal | apply EK.in_same | apply EK.in_ret | apply EK.then_ret | apply EK.then_exit))
    rename_i u'
    refine EC.draw 7 (by kernel_rfl) ?_
    simp only [List.take_succ_cons, List.take_zero, List.drop_succ_cons, List.drop_zero]
    repeat
      (first
       | (apply H_lookup; exact hg; exact rfl; (first | exact I0 | exact I1 | exact I2); (iterate 5 exact rfl)) | (apply H_bin; (iterate 2 exact rfl); exact hn; (iterate 2 exact rfl))
       | (apply H_move; (iterate 3 exact rfl)) | (apply H_field; (iterate 6 exact rfl))
       | (apply H_load; exact rfl; (first | exact I0 | exact I1 | exact I2 | exact I3 | exact I4 | exact I5 | exact I6); (iterate 4 exact rfl)) | (apply H_nilck; (iterate 3 exact rfl))
       | ((with_reducible apply EH.nil); exact rfl))
    repeat
      (first
       | apply EL.nil | ((with_reducible apply EK.then_normal); apply EK.code) | (apply EC.cond_true; exact rfl))
    refine EC.drawC 8 [0, 1, 2, 3, 4] [5, 6, 7] [] _ (by kernel_rfl) (by kernel_rfl) rfl ?_
    simp only [pickL, List.filterMap_cons, List.filterMap_nil, List.getElem?_cons_zero, List.getElem?_cons_succ]
    repeat
      (first
       | (apply H_move; (iterate 3 exact rfl)) | (apply H_field; (iterate 6 exact rfl))
       | (apply H_load; exact rfl; (first | exact I0 | exact I1 | exact I2 | exact I3 | exact I4 | exact I5 | exact I6); (iterate 4 exact rfl)) | (apply H_nilck; (iterate 3 exact rfl)))
    refine EM.nil ?_
    repeat (first | rw [List.cons_append] | rw [List.nil_append])
    refine CH.mut (os := []) (rest := []) rfl rfl (m_makeMap rfl rfl) ?_
    rintro _ _ ⟨gs, rfl, rfl⟩
    try simp only [St.put]
    repeat (first | rw [List.cons_append] | rw [List.nil_append])
    refine CH.cut 1 ?_
    simp only [List.take_succ_cons, List.take_zero, List.drop_succ_cons, List.drop_zero]
    repeat
      (first
       | (apply H_build; (iterate 7 exact rfl)))
    refine EM.nil ?_
    repeat (first | rw [List.cons_append] | rw [List.nil_append])
    refine CH.mut (os := []) (rest := [_]) rfl rfl (m_box rfl rfl) ?_
    rintro _ _ ⟨ga, rfl, rfl⟩
    try simp only [St.put]
    repeat (first | rw [List.cons_append] | rw [List.nil_append])
    refine CH.nil ?_
    try simp only [List.drop_succ_cons, List.drop_zero]
    repeat
      (first
       | (apply P_mapUpd; exact rfl; (focus (repeat first | exact .z | apply SetAt.s | apply SetAtF.s)); (iterate 4 exact rfl)) | apply EL.nil | ((with_reducible apply EK.then_normal); apply EK.code)
       | (with_reducible first | apply EC.seq | apply EC.region | apply EC.skip | apply EC.label | apply EC.block | apply EC.exit | apply EC.ret | apply EK.in_normal | apply EK.in_same | apply EK.in_ret | apply EK.then_ret | apply EK.then_exit))
    refine EC.draw 6 (by kernel_rfl) ?_
    simp only [List.take_succ_cons, List.take_zero, List.drop_succ_cons, List.drop_zero]
    repeat
      (first
       | (apply H_lookup; exact hg2 ga; exact rfl; (first | exact I0 | exact I1 | exact I2 | exact I3 | exact I4 | exact I5); (iterate 5 exact rfl)) | (apply H_move; (iterate 3 exact rfl))
       | (apply H_field; (iterate 6 exact rfl)) | (apply H_load; exact rfl; (first | exact I0 | exact I1 | exact I2 | exact I3 | exact I4 | exact I5 | exact I6); (iterate 4 exact rfl))
       | (apply H_nilck; (iterate 3 exact rfl)) | ((with_reducible apply EH.nil); exact rfl))
    repeat
      (first
       | (apply P_assign; (iterate 3 exact rfl)) | apply EL.nil | ((with_reducible apply EK.then_normal); apply EK.code)
       | (with_reducible first | apply EC.seq | apply EC.region | apply EC.skip | apply EC.label | apply EC.block | apply EC.exit | apply EC.ret | apply EK.in_normal | apply EK.in_same | apply EK.in_ret | apply EK.then_ret | apply EK.then_exit))
    refine EK.le (Le.varR (d' := .tup [.v (.int .i64 0), .arr 32 zero32, .bs [], .v (.map (some gs))]) ?_) ?_
    · exact Rf.tup (RL.cons Rf.same (RL.cons Rf.same (RL.cons Rf.bs0 (RL.cons Rf.same RL.nil))))
    exact EK.retM1s [acO ga 0 zero32 [] (.map (some gs)), .map gs 32 0 [], stO g m u' k n, smO m (tickE c es a) (putE c es a (.v (ptr ga))), unO u' (us ++ [.ifc T d]), mkO k ks] rfl rfl (by (repeat first | exact List.nil_sublist _ | apply List.Sublist.cons_cons | apply List.Sublist.cons)) ⟨u', ga, gs, rfl, rfl⟩
end
end E
end Go.Proofs.YtdhicdnmgmkpkaaGreat
/-
  The state: SetBalance, SetNonce.
  Conditions: none.
-/
namespace Go.Proofs.YtdhicdnmgmkpkaaGreat
set_option linter.unusedVariables false
open Go.RowKit Mono Rlp Wd
namespace E
section
variable {g m c ga gs T : Nat} {u k : Value} {n : Int} {es : List Ent} {a w cd : List UInt8} {us ks : List D} {d : D} {b : Int} {sv : Value}
abbrev wasB (a w : List UInt8) : D := .ifc 174 (.tup [.arr 20 a, .arr 32 w])
abbrev wasN (a : List UInt8) (n : Int) : D := .ifc 171 (.tup [.arr 20 a, .v (.int .i64 n)])
theorem change_inA (h : getE es a = some (.v (ptr ga))) (hu : us.length < 1099511627776) : FnM 106 [.v (ptr g), .arr 20 a, .ifc T d] [stO g m u k n, smO m c es, acO ga b w cd sv, unO u us, mkO k ks] (fun r os' => ∃ u', r = .val (.v (ptr ga)) ∧ os' = [stO g m u' k n, smO m c es, unO u' (undid ks us (.ifc T d)), mkO k ks, acO ga b w cd sv]) := by
  have h1 := ((change_in (g := g) (m := m) (c := c) (u := u) (k := k) (n := n) (ks := ks) (T := T) (d := d) h hu).frame [acO ga b w cd sv]).pick [0, 1, 4, 2, 3] rfl (by decide)
  refine FnM.mono h1 ?_
  rintro r _ ⟨_, ⟨u', rfl, rfl⟩, rfl⟩
  exact ⟨u', rfl, rfl⟩
set_option maxRecDepth 20000 in
set_option maxHeartbeats 4000000 in
theorem setBalance_in {w' : List UInt8} (h : getE es a = some (.v (ptr ga))) (hu : us.length < 1099511627776) : FnM 51 [.v (ptr g), .arr 20 a, .arr 32 w'] [stO g m u k n, smO m c es, unO u us, mkO k ks, acO ga b w cd sv] (fun r os' => r = .tpl [] ∧ ∃ u', os' = [stO g m u' k n, smO m c es, unO u' (undid ks us (wasB a w)), mkO k ks, acO ga b w' cd sv]) := by
  have h1 := balance_in (g := g) (m := m) (c := c) (u := u) (k := k) (n := n) (b := b) (w := w) (cd := cd) (sv := sv) h
  have h2 := change_inA (g := g) (m := m) (c := c) (u := u) (k := k) (n := n) (ks := ks) (T := 174) (d := .tup [.arr 20 a, .arr 32 w]) (b := b) (w := w) (cd := cd) (sv := sv) h hu
  refine FnM.walk 18 Tryz.func51 rfl Tryz.ntmps51 (by simp) fun X => ?_
  repeat
    (first
     | (apply P_box; exact rfl; exact rfl; exact rfl; intro _) | apply EL.nil | ((with_reducible apply EK.then_normal); apply EK.code)
     | (with_reducible first | apply EC.seq | apply EC.region | apply EC.skip | apply EC.label | apply EC.block | apply EC.exit | apply EC.ret | apply EK.in_normal | apply EK.in_same | apply EK.in_ret | apply EK.then_ret | apply EK.then_exit))
  refine EC.le (Le.pick [2, 3, 6, 4, 5, 0, 1] [_, _, _, _, _, _, _] rfl (by decide) rfl) ?_
  refine EC.drawC 10 [0, 1, 2, 3, 4, 9] [5, 6, 7, 8] [_, _, _, _, _] _ (by kernel_rfl) (by kernel_rfl) rfl ?_
  simp only [pickL, List.filterMap_cons, List.filterMap_nil, List.getElem?_cons_zero, List.getElem?_cons_succ]
  repeat
    (first
     | (apply H_move; (iterate 3 exact rfl)) | (apply H_load; exact rfl; (first | exact I0 | exact I1 | exact I2 | exact I3 | exact I4 | exact I5 | exact I6); (iterate 4 exact rfl)))
  refine EM.nil ?_
  repeat (first | rw [List.cons_append] | rw [List.nil_append])
  refine CH.callM (rest := [_, _]) h1 rfl rfl (RefineL.refl _ _) (by intro _ _; simp [go_sem]) rfl rfl ?_
  rintro _ _ ⟨rfl, rfl⟩
  try simp only [St.put]
  repeat (first | rw [List.cons_append] | rw [List.nil_append])
  refine CH.cut 2 ?_
  simp only [List.take_succ_cons, List.take_zero, List.drop_succ_cons, List.drop_zero]
  repeat
    (first
     | (apply H_build; (iterate 7 exact rfl)) | (apply H_mkifc; (iterate 4 exact rfl)))
  refine EM.nil ?_
  repeat (first | rw [List.cons_append] | rw [List.nil_append])
  refine CH.callM (rest := []) h2 rfl rfl (RefineL.refl _ _) (by intro _ _; simp [go_sem]) rfl rfl ?_
  rintro _ _ ⟨u', rfl, rfl⟩
  try simp only [St.put]
  repeat (first | rw [List.cons_append] | rw [List.nil_append])
  refine CH.nil ?_
  try simp only [List.drop_succ_cons, List.drop_zero]
  repeat
    (first
     | (apply P_field; (iterate 6 exact rfl)) | (apply P_nilck; (iterate 3 exact rfl)) | (apply P_store; exact rfl; (focus (repeat first | exact .z | apply SetAt.s | apply SetAtF.s)); (iterate 4 exact rfl))
     | apply EL.nil)
  exact EK.retM0n [stO g m u' k n, smO m c es, unO u' (undid ks us (wasB a w)), mkO k ks, acO ga b w' cd sv] rfl (by (repeat first | exact List.nil_sublist _ | apply List.Sublist.cons_cons | apply List.Sublist.cons)) ⟨rfl, u', rfl⟩
set_option maxRecDepth 20000 in
set_option maxHeartbeats 4000000 in
theorem setBalance_out {w' : List UInt8} (h : getE es a = none) (hu : us.length < 1099511627776) : FnM 51 [.v (ptr g), .arr 20 a, .arr 32 w'] [stO g m u k n, smO m c es, unO u us, mkO k ks] (fun r os' => r = .tpl [] ∧ ∃ u' ga gs, os' = [stO g m u' k n, smO m (tickE c es a) (putE c es a (.v (ptr ga))), unO u' (undid ks us (wasB a zero32)), mkO k ks, acO ga 0 w' [] (.map (some gs)), .map gs 32 0 []]) := by
  have h1 := balance_out (g := g) (m := m) (c := c) (u := u) (k := k) (n := n) h
  have h2 := change_out (g := g) (m := m) (c := c) (u := u) (k := k) (n := n) (ks := ks) (T := 174) (d := .tup [.arr 20 a, .arr 32 zero32]) h hu
  refine FnM.walk 18 Tryz.func51 rfl Tryz.ntmps51 (by simp) fun X => ?_
  repeat
    (first
     | (apply P_box; exact rfl; exact rfl; exact rfl; intro _) | apply EL.nil | ((with_reducible apply EK.then_normal); apply EK.code)
     | (with_reducible first | apply EC.seq | apply EC.region | apply EC.skip | apply EC.label | apply EC.block | apply EC.exit | apply EC.ret | apply EK.in_normal | apply EK.in_same | apply EK.in_ret | apply EK.then_ret | apply EK.then_exit))
  refine EC.le (Le.pick [2, 3, 4, 5, 0, 1] [_, _, _, _, _, _] rfl (by decide) rfl) ?_
  refine EC.drawC 10 [0, 1, 2, 3, 4, 9] [5, 6, 7, 8] [_, _, _, _] _ (by kernel_rfl) (by kernel_rfl) rfl ?_
  simp only [pickL, List.filterMap_cons, List.filterMap_nil, List.getElem?_cons_zero, List.getElem?_cons_succ]
  repeat
    (first
     | (apply H_move; (iterate 3 exact rfl)) | (apply H_load; exact rfl; (first | exact I0 | exact I1 | exact I2 | exact I3 | exact I4 | exact I5 | exact I6); (iterate 4 exact rfl)))
  refine EM.nil ?_
  repeat (first | rw [List.cons_append] | rw [List.nil_append])
  refine CH.callM (rest := [_, _]) h1 rfl rfl (RefineL.refl _ _) (by intro _ _; simp [go_sem]) rfl rfl ?_
  rintro _ _ ⟨rfl, rfl⟩
  try simp only [St.put]
  repeat (first | rw [List.cons_append] | rw [List.nil_append])
  refine CH.cut 2 ?_
  simp only [List.take_succ_cons, List.take_zero, List.drop_succ_cons, List.drop_zero]
  repeat
    (first
     | (apply H_build; (iterate 7 exact rfl)) | (apply H_mkifc; (iterate 4 exact rfl)))
  refine EM.nil ?_
  repeat (first | rw [List.cons_append] | rw [List.nil_append])
  refine CH.callM (rest := []) h2 rfl rfl (RefineL.refl _ _) (by intro _ _; simp [go_sem]) rfl rfl ?_
  rintro _ _ ⟨u', ga, gs, rfl, rfl⟩
  try simp only [St.put]
  repeat (first | rw [List.cons_append] | rw [List.nil_append])
  refine CH.nil ?_
  try simp only [List.drop_succ_cons, List.drop_zero]
  repeat
    (first
     | (apply P_field; (iterate 6 exact rfl)) | (apply P_nilck; (iterate 3 exact rfl)) | (apply P_store; exact rfl; (focus (repeat first | exact .z | apply SetAt.s | apply SetAtF.s)); (iterate 4 exact rfl))
     | apply EL.nil)
  refine EK.le (Le.pick [2, 3, 4, 5, 0, 1, 6, 7] [_, _, _, _, _, _, _, _] rfl (by decide) rfl) ?_
  exact EK.retM0n [stO g m u' k n, smO m (tickE c es a) (putE c es a (.v (ptr ga))), unO u' (undid ks us (wasB a zero32)), mkO k ks, acO ga 0 w' [] (.map (some gs)), .map gs 32 0 []] rfl (by (repeat first | exact List.nil_sublist _ | apply List.Sublist.cons_cons | apply List.Sublist.cons)) ⟨rfl, u', ga, gs, rfl⟩
set_option maxRecDepth 20000 in
set_option maxHeartbeats 4000000 in
theorem setNonce_in {n' : Int} (h : getE es a = some (.v (ptr ga))) (hu : us.length < 1099511627776) : FnM 50 [.v (ptr g), .arr 20 a, .v (.int .i64 n')] [stO g m u k n, smO m c es, unO u us, mkO k ks, acO ga b w cd sv] (fun r os' => r = .tpl [] ∧ ∃ u', os' = [stO g m u' k n, smO m c es, unO u' (undid ks us (wasN a b)), mkO k ks, acO ga (if n' > 0 then n' else 0) w cd sv]) := by
  have h1 := nonce_in (g := g) (m := m) (c := c) (u := u) (k := k) (n := n) (b := b) (w := w) (cd := cd) (sv := sv) h
  have h2 := change_inA (g := g) (m := m) (c := c) (u := u) (k := k) (n := n) (ks := ks) (T := 171) (d := .tup [.arr 20 a, .v (.int .i64 b)]) (b := b) (w := w) (cd := cd) (sv := sv) h hu
  refine FnM.walk 19 Tryz.func50 rfl Tryz.ntmps50 (by simp) fun X => ?_
  repeat
    (first
     | (apply P_box; exact rfl; exact rfl; exact rfl; intro _) | apply EL.nil | ((with_reducible apply EK.then_normal); apply EK.code)
     | (with_reducible first | apply EC.seq | apply EC.region | apply EC.skip | apply EC.label | apply EC.block | apply EC.exit | apply EC.ret | apply EK.in_normal | apply EK.in_same | apply EK.in_ret | apply EK.then_ret | apply EK.then_exit))
  refine EC.le (Le.pick [1, 2, 5, 3, 4, 0] [_, _, _, _, _, _] rfl (by decide) rfl) ?_
  refine EC.drawC 11 [0, 1, 2, 3, 4, 9, 10] [5, 6, 7, 8] [_, _, _, _, _] _ (by kernel_rfl) (by kernel_rfl) rfl ?_
  simp only [pickL, List.filterMap_cons, List.filterMap_nil, List.getElem?_cons_zero, List.getElem?_cons_succ]
  repeat
    (first
     | (apply H_move; (iterate 3 exact rfl)) | (apply H_load; exact rfl; (first | exact I0 | exact I1 | exact I2 | exact I3 | exact I4 | exact I5 | exact I6); (iterate 4 exact rfl))
     | (apply H_max; (iterate 4 exact rfl)))
  refine EM.nil ?_
  repeat (first | rw [List.cons_append] | rw [List.nil_append])
  refine CH.callM (rest := [_, _]) h1 rfl rfl (RefineL.refl _ _) (by intro _ _; simp [go_sem]) rfl rfl ?_
  rintro _ _ ⟨rfl, rfl⟩
  try simp only [St.put]
  repeat (first | rw [List.cons_append] | rw [List.nil_append])
  refine CH.cut 2 ?_
  simp only [List.take_succ_cons, List.take_zero, List.drop_succ_cons, List.drop_zero]
  repeat
    (first
     | (apply H_build; (iterate 7 exact rfl)) | (apply H_mkifc; (iterate 4 exact rfl)))
  refine EM.nil ?_
  repeat (first | rw [List.cons_append] | rw [List.nil_append])
  refine CH.callM (rest := []) h2 rfl rfl (RefineL.refl _ _) (by intro _ _; simp [go_sem]) rfl rfl ?_
  rintro _ _ ⟨u', rfl, rfl⟩
  try simp only [St.put]
  repeat (first | rw [List.cons_append] | rw [List.nil_append])
  refine CH.nil ?_
  try simp only [List.drop_succ_cons, List.drop_zero]
  repeat
    (first
     | (apply P_field; (iterate 6 exact rfl)) | (apply P_nilck; (iterate 3 exact rfl)) | (apply P_store; exact rfl; (focus (repeat first | exact .z | apply SetAt.s | apply SetAtF.s)); (iterate 4 exact rfl))
     | apply EL.nil)
  exact EK.retM0n [stO g m u' k n, smO m c es, unO u' (undid ks us (wasN a b)), mkO k ks, acO ga (if n' > 0 then n' else 0) w cd sv] rfl (by (repeat first | exact List.nil_sublist _ | apply List.Sublist.cons_cons | apply List.Sublist.cons)) ⟨rfl, u', rfl⟩
set_option maxRecDepth 20000 in
set_option maxHeartbeats 4000000 in
theorem setNonce_out {n' : Int} (h : getE es a = none) (hu : us.length < 1099511627776) : FnM 50 [.v (ptr g), .arr 20 a, .v (.int .i64 n')] [stO g m u k n, smO m c es, unO u us, mkO k ks] (fun r os' => r = .tpl [] ∧ ∃ u' ga gs, os' = [stO g m u' k n, smO m (tickE c es a) (putE c es a (.v (ptr ga))), unO u' (undid ks us (wasN a 0)), mkO k ks, acO ga (if n' > 0 then n' else 0) zero32 [] (.map (some gs)), .map gs 32 0 []]) := by
  have h1 := nonce_out (g := g) (m := m) (c := c) (u := u) (k := k) (n := n) h
  have h2 := change_out (g := g) (m := m) (c := c) (u := u) (k := k) (n := n) (ks := ks) (T := 171) (d := .tup [.arr 20 a, .v (.int .i64 0)]) h hu
  refine FnM.walk 19 Tryz.func50 rfl Tryz.ntmps50 (by simp) fun X => ?_
  repeat
    (first
     | (apply P_box; exact rfl; exact rfl; exact rfl; intro _) | apply EL.nil | ((with_reducible apply EK.then_normal); apply EK.code)
     | (with_reducible first | apply EC.seq | apply EC.region | apply EC.skip | apply EC.label | apply EC.block | apply EC.exit | apply EC.ret | apply EK.in_normal | apply EK.in_same | apply EK.in_ret | apply EK.then_ret | apply EK.then_exit))
  refine EC.le (Le.pick [1, 2, 3, 4, 0] [_, _, _, _, _] rfl (by decide) rfl) ?_
  refine EC.drawC 11 [0, 1, 2, 3, 4, 9, 10] [5, 6, 7, 8] [_, _, _, _] _ (by kernel_rfl) (by kernel_rfl) rfl ?_
  simp only [pickL, List.filterMap_cons, List.filterMap_nil, List.getElem?_cons_zero, List.getElem?_cons_succ]
  repeat
    (first
     | (apply H_move; (iterate 3 exact rfl)) | (apply H_load; exact rfl; (first | exact I0 | exact I1 | exact I2 | exact I3 | exact I4 | exact I5 | exact I6); (iterate 4 exact rfl))
     | (apply H_max; (iterate 4 exact rfl)))
  refine EM.nil ?_
  repeat (first | rw [List.cons_append] | rw [List.nil_append])
  refine CH.callM (rest := [_, _]) h1 rfl rfl (RefineL.refl _ _) (by intro _ _; simp [go_sem]) rfl rfl ?_
  rintro _ _ ⟨rfl, rfl⟩
  try simp only [St.put]
  repeat (first | rw [List.cons_append] | rw [List.nil_append])
  refine CH.cut 2 ?_
  simp only [List.take_succ_cons, List.take_zero, List.drop_succ_cons, List.drop_zero]
  repeat
    (first
     | (apply H_build; (iterate 7 exact rfl)) | (apply H_mkifc; (iterate 4 exact rfl)))
  refine EM.nil ?_
  repeat (first | rw [List.cons_append] | rw [List.nil_append])
  refine CH.callM (rest := []) h2 rfl rfl (RefineL.refl _ _) (by intro _ _; simp [go_sem]) rfl rfl ?_
  rintro _ _ ⟨u', ga, gs, rfl, rfl⟩
  try simp only [St.put]
  repeat (first | rw [List.cons_append] | rw [List.nil_append])
  refine CH.nil ?_
  try simp only [List.drop_succ_cons, List.drop_zero]
  repeat
    (first
     | (apply P_field; (iterate 6 exact rfl)) | (apply P_nilck; (iterate 3 exact rfl)) | (apply P_store; exact rfl; (focus (repeat first | exact .z | apply SetAt.s | apply SetAtF.s)); (iterate 4 exact rfl))
     | apply EL.nil)
  refine EK.le (Le.pick [2, 3, 4, 5, 0, 1, 6] [_, _, _, _, _, _, _] rfl (by decide) rfl) ?_
  exact EK.retM0n [stO g m u' k n, smO m (tickE c es a) (putE c es a (.v (ptr ga))), unO u' (undid ks us (wasN a 0)), mkO k ks, acO ga (if n' > 0 then n' else 0) zero32 [] (.map (some gs)), .map gs 32 0 []] rfl (by (repeat first | exact List.nil_sublist _ | apply List.Sublist.cons_cons | apply List.Sublist.cons)) ⟨rfl, u', ga, gs, rfl⟩
end
end E
end Go.Proofs.YtdhicdnmgmkpkaaGreat
/-
  Small things of many walks: tests of addresses and strings, nil, numbers' last bytes.
  Conditions: none.
-/
namespace Go.Proofs.YtdhicdnmgmkpkaaGreat
set_option linter.unusedVariables false
open Go.RowKit Mono Rlp
namespace E
abbrev nilS : Value := .slice none 0 0
end E
end Go.Proofs.YtdhicdnmgmkpkaaGreat
/-
  The program's state, at accounts with code and slots: bytes.Clone, a slot that is told, a slot that is given a value.
  Conditions: none.
-/
namespace Go.Proofs.YtdhicdnmgmkpkaaGreat
set_option linter.unusedVariables false
open Go.RowKit Mono Rlp Wd
set_option maxHeartbeats 1000000 in
theorem clone0 (v : Value) (l : List UInt8) (w : World) (h : IsB w v l) (hl : l.length ≤ 140737488355328) : Calls Tryz.prog 59 #[v] w (Ret (fun v w' => OwnB w' w.heap.size v l) w) := by
  obtain ⟨A, c, rfl, hc1, hc2, hr⟩ := h
  cases A with
  | none =>
    have hl0 : l = [] := by
      by_cases hn : bvs l = []
      · simpa [bvs] using hn
      · obtain ⟨b, o, e, _⟩ := hr hn
        cases e
    subst hl0
    clear hr
    have hq := Lib.run_eql_slice_nil w 35 5 none 0 c 0 0 Tryz.underlying35
    go_enter Tryz.func59, Tryz.ntmps59
    go_wp2
    refine bodyPost_ret (results_tmp rfl _ _ _) rfl ?_
    exact ⟨_, rfl, Gr.refl _, OwnB.nil _ _⟩
  | some a =>
    have HR := Lib.hid hr
    clear hr
    have hq := Lib.run_eql_slice_nil w 35 5 (some a) l.length c 0 0 Tryz.underlying35
    go_enter Tryz.func59, Tryz.ntmps59
    go_wp2_with (at_builtin; refine wpL_append (.tmp 5) (.tmp 6) 35 slT_bytes (base := w.heap.size) _ 0 [] _ l.length c w.heap.size (bvs l) rfl rfl rfl rfl (own_lit w #[] 5 1 0 w.heap.size w.heap.size rfl (Nat.le_refl _) (by simp [maxLen]) rfl) (HR.out.below ((Below.refl _ _).alloc (Nat.le_refl _) _)) (by simp [bvs]) (bvs_one _) (by simp only [maxLen]; omega) (by omega) (by simp) ?_; intro A2 c2 w2 hown2 hg2 _)
    refine bodyPost_ret (results_tmp rfl _ _ _) rfl ?_
    refine ⟨_, rfl, ((Below.refl _ _).alloc (Nat.le_refl _) _).grown hg2 (by simp) (fun j hj => by cases hj; exact Nat.le_refl _), ?_⟩
    rw [Nat.zero_add, List.nil_append] at hown2
    exact hown2
namespace E
theorem f_Clone (l : List UInt8) (hl : l.length ≤ 140737488355328) : Fn 59 [.bs l] (· = .val (.bs l)) := ⟨fun ok w xs hok hr => by
  obtain ⟨x, _, rfl, hx, rfl⟩ := hr
  refine (clone0 x l w (isB_of hok hx) hl).mono ?_
  rintro e w' ⟨v, rfl, hg, ho⟩
  exact ⟨hg, v, .val (.bs l), rfl, rfl, (readV_one rfl).2 (by rw [Reads]; exact ⟨v, rfl, IsBP.mono (ownB_P ho) (fun b hb => ⟨.inr hb.1, hb.2⟩) fun _ _ => rfl⟩)⟩⟩
theorem Fn.toM {f : FuncId} {ds : List D} {Φ : R → Prop} (h : Fn f ds Φ) : FnM f ds [] (fun r os' => Φ r ∧ os' = []) := ⟨fun ok w xs hok hown hr => (h.go ok w xs hok hr).mono fun e w' ⟨hg, v, r, he, hΦ, hv⟩ => by
  have hz : okM ok [] w [] w' = fun b => (ok b ∨ w.heap.size ≤ b) ∧ b < w'.heap.size := by
    funext b
    refine propext ⟨fun h => ⟨?_, h.2.1⟩, fun h => ⟨?_, h.2, fun o ho => by simp at ho⟩⟩
    · rcases h.1 with h | ⟨o, ho, _⟩ | h
      · exact .inl h
      · simp at ho
      · exact .inr h
    · exact h.1.imp id .inr
  refine ⟨v, r, [], he, ⟨hΦ, rfl⟩, ⟨.of hg, .nil, fun o ho => by simp at ho⟩, ?_⟩
  rw [hz]
  exact hv⟩
def slE (ss : List Ent) (k : List UInt8) : D := (getE ss k).getD (.arr 32 zero32)
section
variable {g m c ga gs sc : Nat} {u k : Value} {n : Int} {es ss : List Ent} {a w cd q : List UInt8} {us ks : List D} {b : Int}
set_option maxRecDepth 20000 in
set_option maxHeartbeats 4000000 in
theorem slot_in {v : List UInt8} (h : getE es a = some (.v (ptr ga))) (hv : slE ss q = .arr 32 v) : FnM 108 [.v (ptr g), .arr 20 a, .arr 32 q] [stO g m u k n, smO m c es, acO ga b w cd (.map (some gs)), .map gs 32 sc ss] (fun r os' => r = .val (.arr 32 v) ∧ os' = [stO g m u k n, smO m c es, acO ga b w cd (.map (some gs)), .map gs 32 sc ss]) := by
  have h1 := of_in (g := g) (m := m) (c := c) (u := u) (k := k) (n := n) h
  have hg : (getE ss q).getD (.arr 32 zero32) = .arr 32 v := hv
  refine FnM.walk 15 Tryz.func108 rfl Tryz.ntmps108 (by simp) fun X => ?_
  repeat
    (first
     | (apply P_alloc; exact rfl; exact rfl; exact rfl; intro _) | (apply P_box; exact rfl; exact rfl; exact rfl; intro _) | apply EL.nil | ((with_reducible apply EK.then_normal); apply EK.code)
     | (with_reducible first | apply EC.seq | apply EC.region | apply EC.skip | apply EC.label | apply EC.block | apply EC.exit | apply EC.ret | apply EK.in_normal | apply EK.in_same | apply EK.in_ret | apply EK.then_ret | apply EK.then_exit))
  rename_i g1 g2 g3
  refine EC.le (Le.pick [3, 4, 5, 6, 0, 1, 2] [_, _, _, _, _, _, _] rfl (by decide) rfl) ?_
  refine EC.drawC 8 [0, 1, 6] [2, 3, 4, 5, 7] [_, _, _, _] _ (by kernel_rfl) (by kernel_rfl) rfl ?_
  simp only [pickL, List.filterMap_cons, List.filterMap_nil, List.getElem?_cons_zero, List.getElem?_cons_succ]
  repeat
    (first
     | (apply H_move; (iterate 3 exact rfl)) | (apply H_load; exact rfl; (first | exact I0 | exact I1 | exact I2 | exact I3 | exact I4 | exact I5 | exact I6); (iterate 4 exact rfl)))
  refine EM.nil ?_
  repeat (first | rw [List.cons_append] | rw [List.nil_append])
  refine CH.callM (rest := [_, _]) h1 rfl rfl (RefineL.refl _ _) (by intro _ _; simp [go_sem]) rfl rfl ?_
  rintro _ _ ⟨rfl, rfl⟩
  try simp only [St.put]
  repeat (first | rw [List.cons_append] | rw [List.nil_append])
  refine CH.cut 4 ?_
  simp only [List.take_succ_cons, List.take_zero, List.drop_succ_cons, List.drop_zero]
  repeat
    (first
     | (apply H_lookup; exact hg; exact rfl; (first | exact I0 | exact I1 | exact I2 | exact I3 | exact I4 | exact I5); (iterate 5 exact rfl)) | (apply H_field; (iterate 6 exact rfl))
     | (apply H_load; exact rfl; (first | exact I0 | exact I1 | exact I2 | exact I3 | exact I4 | exact I5 | exact I6); (iterate 4 exact rfl)) | (apply H_nilck; (iterate 3 exact rfl)))
  refine EM.nil ?_
  repeat (first | rw [List.cons_append] | rw [List.nil_append])
  refine CH.nil ?_
  try simp only [List.drop_succ_cons, List.drop_zero]
  repeat
    (first
     | (apply P_store; exact rfl; (focus (repeat first | exact .z | apply SetAt.s | apply SetAtF.s)); (iterate 4 exact rfl)) | apply EL.nil | ((with_reducible apply EK.then_normal); apply EK.code)
     | (with_reducible first | apply EC.seq | apply EC.region | apply EC.skip | apply EC.label | apply EC.block | apply EC.exit | apply EC.ret | apply EK.in_normal | apply EK.in_same | apply EK.in_ret | apply EK.then_ret | apply EK.then_exit))
  exact EK.retMc1s 4 [stO g m u k n, smO m c es, acO ga b w cd (.map (some gs)), .map gs 32 sc ss] rfl rfl rfl rfl (by repeat first | exact RefineL.refl _ _ | exact RL.nil | exact Rf.same) (by (repeat first | exact List.nil_sublist _ | apply List.Sublist.cons_cons | apply List.Sublist.cons)) ⟨rfl, rfl⟩
set_option maxRecDepth 20000 in
set_option maxHeartbeats 4000000 in
theorem slot_out (h : getE es a = none) : FnM 108 [.v (ptr g), .arr 20 a, .arr 32 q] [stO g m u k n, smO m c es] (fun r os' => r = .val (.arr 32 zero32) ∧ os' = [stO g m u k n, smO m c es]) := by
  have h1 := of_out (g := g) (m := m) (c := c) (u := u) (k := k) (n := n) h
  refine FnM.walk 15 Tryz.func108 rfl Tryz.ntmps108 (by simp) fun X => ?_
  repeat
    (first
     | (apply P_alloc; exact rfl; exact rfl; exact rfl; intro _) | (apply P_box; exact rfl; exact rfl; exact rfl; intro _) | apply EL.nil | ((with_reducible apply EK.then_normal); apply EK.code)
     | (with_reducible first | apply EC.seq | apply EC.region | apply EC.skip | apply EC.label | apply EC.block | apply EC.exit | apply EC.ret | apply EK.in_normal | apply EK.in_same | apply EK.in_ret | apply EK.then_ret | apply EK.then_exit))
  rename_i g1 g2 g3
  refine EC.le (Le.pick [3, 4, 0, 1, 2] [_, _, _, _, _] rfl (by decide) rfl) ?_
  refine EC.drawC 8 [0, 1, 6] [2, 3, 4, 5, 7] [_, _] _ (by kernel_rfl) (by kernel_rfl) rfl ?_
  simp only [pickL, List.filterMap_cons, List.filterMap_nil, List.getElem?_cons_zero, List.getElem?_cons_succ]
  repeat
    (first
     | (apply H_move; (iterate 3 exact rfl)) | (apply H_load; exact rfl; (first | exact I0 | exact I1 | exact I2 | exact I3 | exact I4 | exact I5 | exact I6); (iterate 4 exact rfl)))
  refine EM.nil ?_
  repeat (first | rw [List.cons_append] | rw [List.nil_append])
  refine CH.callM (rest := []) h1 rfl rfl (RefineL.refl _ _) (by intro _ _; simp [go_sem]) rfl rfl ?_
  rintro _ _ ⟨gz, rfl, rfl⟩
  try simp only [St.put]
  repeat (first | rw [List.cons_append] | rw [List.nil_append])
  refine CH.cut 4 ?_
  simp only [List.take_succ_cons, List.take_zero, List.drop_succ_cons, List.drop_zero]
  repeat
    (first
     | (apply H_lookupNil; (iterate 6 exact rfl)) | (apply H_field; (iterate 6 exact rfl))
     | (apply H_load; exact rfl; (first | exact I0 | exact I1 | exact I2 | exact I3 | exact I4 | exact I5 | exact I6); (iterate 4 exact rfl)) | (apply H_nilck; (iterate 3 exact rfl)))
  refine EM.nil ?_
  repeat (first | rw [List.cons_append] | rw [List.nil_append])
  refine CH.nil ?_
  try simp only [List.drop_succ_cons, List.drop_zero]
  repeat
    (first
     | (apply P_store; exact rfl; (focus (repeat first | exact .z | apply SetAt.s | apply SetAtF.s)); (iterate 4 exact rfl)) | apply EL.nil | ((with_reducible apply EK.then_normal); apply EK.code)
     | (with_reducible first | apply EC.seq | apply EC.region | apply EC.skip | apply EC.label | apply EC.block | apply EC.exit | apply EC.ret | apply EK.in_normal | apply EK.in_same | apply EK.in_ret | apply EK.then_ret | apply EK.then_exit))
  exact EK.retMc1s 3 [stO g m u k n, smO m c es] rfl rfl rfl rfl (by repeat first | exact RefineL.refl _ _ | exact RL.nil | exact Rf.same) (by (repeat first | exact List.nil_sublist _ | apply List.Sublist.cons_cons | apply List.Sublist.cons)) ⟨rfl, rfl⟩
set_option maxRecDepth 20000 in
set_option maxHeartbeats 4000000 in
theorem set_del : FnM 60 [.v (ptr ga), .arr 32 q, .arr 32 zero32] [acO ga b w cd (.map (some gs)), .map gs 32 sc ss] (fun r os' => r = .tpl [] ∧ os' = [acO ga b w cd (.map (some gs)), .map gs 32 sc (delE ss q)]) := by
  have hz := (bin_word zero32 zero32).1
  rw [beq_self_eq_true] at hz
  refine FnM.walk 20 Tryz.func60 rfl Tryz.ntmps60 (by simp) fun X => ?_
  repeat
    (first
     | (apply P_bin; (iterate 2 exact rfl); exact hz; (iterate 2 exact rfl))
     | (apply P_load; exact rfl; (first | exact I0 | exact I1 | exact I2 | exact I3 | exact I4 | exact I5 | exact I6); (iterate 4 exact rfl)) | (apply P_build0; (iterate 5 exact rfl))
     | (apply P_box; exact rfl; exact rfl; exact rfl; intro _) | apply EL.nil | ((with_reducible apply EK.then_normal); apply EK.code) | (apply EC.cond_true; exact rfl)
     | (with_reducible first | apply EC.seq | apply EC.region | apply EC.skip | apply EC.label | apply EC.block | apply EC.exit | apply EC.ret | apply EK.in_normal | apply EK.in_same | apply EK.in_ret | apply EK.then_ret | apply EK.then_exit))
  refine EC.draw 5 (by kernel_rfl) ?_
  simp only [List.take_succ_cons, List.take_zero, List.drop_succ_cons, List.drop_zero]
  repeat
    (first
     | (apply H_move; (iterate 3 exact rfl)) | (apply H_field; (iterate 6 exact rfl))
     | (apply H_load; exact rfl; (first | exact I0 | exact I1 | exact I2 | exact I3 | exact I4 | exact I5 | exact I6); (iterate 4 exact rfl)) | (apply H_nilck; (iterate 3 exact rfl))
     | ((with_reducible apply EH.nil); exact rfl))
  repeat
    (first
     | (apply P_delete; exact rfl; (focus (repeat first | exact .z | apply SetAt.s | apply SetAtF.s)); (iterate 3 exact rfl)) | apply EL.nil | ((with_reducible apply EK.then_normal); apply EK.code)
     | (with_reducible first | apply EC.seq | apply EC.region | apply EC.skip | apply EC.label | apply EC.block | apply EC.exit | apply EC.ret | apply EK.in_normal | apply EK.in_same | apply EK.in_ret | apply EK.then_ret | apply EK.then_exit))
  exact EK.retM0s [acO ga b w cd (.map (some gs)), .map gs 32 sc (delE ss q)] rfl (by (repeat first | exact List.nil_sublist _ | apply List.Sublist.cons_cons | apply List.Sublist.cons)) ⟨rfl, rfl⟩
set_option maxRecDepth 20000 in
set_option maxHeartbeats 4000000 in
theorem set_put {v : List UInt8} (hv : (v == zero32) = false) : FnM 60 [.v (ptr ga), .arr 32 q, .arr 32 v] [acO ga b w cd (.map (some gs)), .map gs 32 sc ss] (fun r os' => r = .tpl [] ∧ os' = [acO ga b w cd (.map (some gs)), .map gs 32 (tickE sc ss q) (putE sc ss q (.arr 32 v))]) := by
  have hz := (bin_word v zero32).1
  rw [hv] at hz
  refine FnM.walk 20 Tryz.func60 rfl Tryz.ntmps60 (by simp) fun X => ?_
  repeat
    (first
     | (apply P_bin; (iterate 2 exact rfl); exact hz; (iterate 2 exact rfl))
     | (apply P_load; exact rfl; (first | exact I0 | exact I1 | exact I2 | exact I3 | exact I4 | exact I5 | exact I6); (iterate 4 exact rfl)) | (apply P_build0; (iterate 5 exact rfl))
     | (apply P_box; exact rfl; exact rfl; exact rfl; intro _) | apply EL.nil | ((with_reducible apply EK.then_normal); apply EK.code) | (apply EC.cond_false; exact rfl)
     | (with_reducible first | apply EC.seq | apply EC.region | apply EC.skip | apply EC.label | apply EC.block | apply EC.exit | apply EC.ret | apply EK.in_normal | apply EK.in_same | apply EK.in_ret | apply EK.then_ret | apply EK.then_exit))
  refine EC.draw 6 (by kernel_rfl) ?_
  simp only [List.take_succ_cons, List.take_zero, List.drop_succ_cons, List.drop_zero]
  repeat
    (first
     | (apply H_move; (iterate 3 exact rfl)) | (apply H_field; (iterate 6 exact rfl))
     | (apply H_load; exact rfl; (first | exact I0 | exact I1 | exact I2 | exact I3 | exact I4 | exact I5 | exact I6); (iterate 4 exact rfl)) | (apply H_nilck; (iterate 3 exact rfl))
     | ((with_reducible apply EH.nil); exact rfl))
  repeat
    (first
     | (apply P_mapUpd; exact rfl; (focus (repeat first | exact .z | apply SetAt.s | apply SetAtF.s)); (iterate 4 exact rfl)) | apply EL.nil)
  exact EK.retM0n [acO ga b w cd (.map (some gs)), .map gs 32 (tickE sc ss q) (putE sc ss q (.arr 32 v))] rfl (by (repeat first | exact List.nil_sublist _ | apply List.Sublist.cons_cons | apply List.Sublist.cons)) ⟨rfl, rfl⟩
end
end E
end Go.Proofs.YtdhicdnmgmkpkaaGreat
