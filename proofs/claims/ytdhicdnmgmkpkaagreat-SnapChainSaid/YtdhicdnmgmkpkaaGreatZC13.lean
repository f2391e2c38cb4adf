/-
  Merged (wip/tools/merge.py): ST2, EX, ST3, EV, EY.
  Conditions: none.
-/
import Derived.Test.YtdhicdnmgmkpkaaGreatZC12
import Derived.Test.YtdhicdnmgmkpkaaGreatZC8
/-
  The state: change, SetNonce, SetBalance, Mark.
  Conditions: none.
-/
namespace Go.Proofs.YtdhicdnmgmkpkaaGreat
set_option linter.unusedVariables false
open Go.RowKit Mono Rlp Wd
namespace E
section
variable {N : Nat} {X : Cx N} {rs : List (Tmp × R)} {os : List Obj} {fs : List (Value × D)}
theorem Le.varR {g : Nat} {t : TypeId} {d d' : D} (h : Refine fs d d') : Le X ⟨rs, .var g t d :: os, fs⟩ ⟨rs, .var g t d' :: os, fs⟩ := fun a w ha => by
  have hok : ∀ b, X.ok (.var g t d :: os) w b ↔ X.ok (.var g t d' :: os) w b := fun b => ⟨fun hb => ⟨hb.1, hb.2.1, fun o ho => by
      rcases List.mem_cons.1 ho with rfl | ho
      · exact hb.2.2 (.var g t d) List.mem_cons_self
      · exact hb.2.2 o (List.mem_cons_of_mem _ ho)⟩, fun hb => ⟨hb.1, hb.2.1, fun o ho => by
      rcases List.mem_cons.1 ho with rfl | ho
      · exact hb.2.2 (.var g t d') List.mem_cons_self
      · exact hb.2.2 o (List.mem_cons_of_mem _ ho)⟩⟩
  have hap := List.pairwise_cons.1 ha.mem.apart
  have hf : ∀ f ∈ fs, Reads (X.ok (.var g t d' :: os) w) w f.2 [f.1] := fun f hf => Reads.mono (fun b hb => (hok b).1 hb) (fun _ _ => rfl) _ _ (ha.mem.fact f hf)
  refine ⟨⟨ha.mem.gr, List.pairwise_cons.2 ⟨fun p hp b e => hap.1 p hp b e, hap.2⟩, fun o ho => ?_, hf⟩, fun t' r hr => (ha.regs t' r hr).mono (fun b hb => (hok b).1 hb) fun _ _ => rfl, ha.size, ha.defers⟩
  rcases List.mem_cons.1 ho with rfl | ho
  · obtain ⟨h1, cs, h2, h3⟩ := ha.mem.at_ (.var g t d) List.mem_cons_self
    exact ⟨h1, cs, h2, (Refine.reads hf _ _ _ h (Reads.mono (fun b hb => (hok b).1 hb) (fun _ _ => rfl) _ _ h3)).1⟩
  · exact (ha.mem.at_ o (List.mem_cons_of_mem _ ho)).move (fun b hb => (hok b).1 hb) (fun _ _ => rfl) fun _ _ => rfl
end
section
variable {g m c ga gs T : Nat} {u k : Value} {n : Int} {es : List Ent} {a : List UInt8} {us ks : List D} {d : D}
def undid (ks us : List D) (d : D) : List D := if ks.length = 0 then us else us ++ [d]
set_option maxRecDepth 20000 in
set_option maxHeartbeats 4000000 in
theorem change_in (h : getE es a = some (.v (ptr ga))) (hu : us.length < 1099511627776) : FnM 106 [.v (ptr g), .arr 20 a, .ifc T d] [stO g m u k n, smO m c es, unO u us, mkO k ks] (fun r os' => ∃ u', r = .val (.v (ptr ga)) ∧ os' = [stO g m u' k n, smO m c es, unO u' (undid ks us (.ifc T d)), mkO k ks]) := by
  have hg : (getE es a).getD (.v (.pointer none)) = .v (ptr ga) := by rw [h]; rfl
  have hn := (bin_nil (T := 111) rfl (some ⟨ga, 0, none⟩)).1
  refine FnM.walk 44 Tryz.func106 rfl Tryz.ntmps106 (by simp) fun X => ?_
  by_cases hk : ks.length = 0
  · obtain rfl : ks = [] := List.eq_nil_of_length_eq_zero hk
    rw [show undid [] us (.ifc T d) = us from rfl]
    repeat
      (first
       | (apply P_move; (iterate 3 exact rfl)) | (apply P_assign; (iterate 3 exact rfl)) | (apply P_field; (iterate 6 exact rfl))
       | (apply P_load; exact rfl; (first | exact I0 | exact I1 | exact I2 | exact I3 | exact I4 | exact I5 | exact I6); (iterate 4 exact rfl))
       | (apply P_cmp (b := false); (iterate 2 exact rfl); (focus (first | (simp [cmpI]; done) | (simp [cmpI]; omega))); (iterate 2 exact rfl))
       | (apply P_lenrow; exact rfl; (first | exact I0 | exact I1 | exact I2 | exact I3 | exact I4 | exact I5 | exact I6); (iterate 3 exact rfl)) | (apply P_nilck; (iterate 3 exact rfl))
       | (apply P_box; exact rfl; exact rfl; exact rfl; intro _) | apply EL.nil | ((with_reducible apply EK.then_normal); apply EK.code) | (apply EC.cond_false; exact rfl)
       | (with_reducible first | apply EC.seq | apply EC.region | apply EC.skip | apply EC.label | apply EC.block | apply EC.exit | apply EC.ret | apply EK.in_normal | apply EK.in_same | apply EK.in_ret | apply EK.then_ret | apply EK.then_exit))
    refine EC.draw 7 (by kernel_rfl) ?_
    simp only [List.take_succ_cons, List.take_zero, List.drop_succ_cons, List.drop_zero]
    repeat
      (first
       | (apply H_lookup; exact hg; exact rfl; (first | exact I0 | exact I1 | exact I2); (iterate 5 exact rfl)) | (apply H_bin; (iterate 2 exact rfl); exact hn; (iterate 2 exact rfl))
       | (apply H_move; (iterate 3 exact rfl)) | (apply H_field; (iterate 6 exact rfl))
       | (apply H_load; exact rfl; (first | exact I0 | exact I1 | exact I2 | exact I3 | exact I4 | exact I5 | exact I6); (iterate 4 exact rfl)) | (apply H_nilck; (iterate 3 exact rfl))
       | ((with_reducible apply EH.nil); exact rfl))
    repeat
      (first
       | apply EL.nil | ((with_reducible apply EK.then_normal); apply EK.code) | (apply EC.cond_false; exact rfl)
       | (with_reducible first | apply EC.seq | apply EC.region | apply EC.skip | apply EC.label | apply EC.block | apply EC.exit | apply EC.ret | apply EK.in_normal | apply EK.in_same | apply EK.in_ret | apply EK.then_ret | apply EK.then_exit))
    refine EC.draw 6 (by kernel_rfl) ?_
    simp only [List.take_succ_cons, List.take_zero, List.drop_succ_cons, List.drop_zero]
    repeat
      (first
       | (apply H_lookup; exact hg; exact rfl; (first | exact I0 | exact I1 | exact I2); (iterate 5 exact rfl)) | (apply H_move; (iterate 3 exact rfl)) | (apply H_field; (iterate 6 exact rfl))
       | (apply H_load; exact rfl; (first | exact I0 | exact I1 | exact I2 | exact I3 | exact I4 | exact I5 | exact I6); (iterate 4 exact rfl)) | (apply H_nilck; (iterate 3 exact rfl))
       | ((with_reducible apply EH.nil); exact rfl))
    repeat
      (first
       | (apply P_assign; (iterate 3 exact rfl)) | apply EL.nil | ((with_reducible apply EK.then_normal); apply EK.code)
       | (with_reducible first | apply EC.seq | apply EC.region | apply EC.skip | apply EC.label | apply EC.block | apply EC.exit | apply EC.ret | apply EK.in_normal | apply EK.in_same | apply EK.in_ret | apply EK.then_ret | apply EK.then_exit))
    exact EK.retM1s [stO g m u k n, smO m c es, unO u us, mkO k []] rfl rfl (by (repeat first | exact List.nil_sublist _ | apply List.Sublist.cons_cons | apply List.Sublist.cons)) ⟨u, rfl, rfl⟩
  · have hU : undid ks us (.ifc T d) = us ++ [.ifc T d] := if_neg hk
    rw [hU]
    repeat
      (first
       | (apply P_move; (iterate 3 exact rfl)) | (apply P_assign; (iterate 3 exact rfl)) | (apply P_field; (iterate 6 exact rfl))
       | (apply P_load; exact rfl; (first | exact I0 | exact I1 | exact I2 | exact I3 | exact I4 | exact I5 | exact I6); (iterate 4 exact rfl))
       | (apply P_cmp (b := true); (iterate 2 exact rfl); (focus (first | (simp [cmpI]; done) | (simp [cmpI]; omega))); (iterate 2 exact rfl))
       | (apply P_lenrow; exact rfl; (first | exact I0 | exact I1 | exact I2 | exact I3 | exact I4 | exact I5 | exact I6); (iterate 3 exact rfl)) | (apply P_lit; (iterate 9 exact rfl))
       | (apply P_nilck; (iterate 3 exact rfl)) | (apply P_box; exact rfl; exact rfl; exact rfl; intro _)
       | (apply P_store; exact rfl; (focus (repeat first | exact .z | apply SetAt.s | apply SetAtF.s)); (iterate 4 exact rfl))
       | ((apply P_append; exact rfl; (focus (repeat first | exact .z | apply SetAt.s | apply SetAtF.s)); (iterate 5 exact rfl); (focus (constructor <;> (first | (simp; done) | (simp; omega))))); intro _)
       | apply EL.nil | ((with_reducible apply EK.then_normal); apply EK.code) | (apply EC.cond_true; exact rfl)
       | (with_reducible first | apply EC.seq | apply EC.region | apply EC.skip | apply EC.label | apply EC.block | apply EC.exit | apply EC.ret | apply EK.in_normal | apply EK.in_same | apply EK.in_ret | apply EK.then_ret | apply EK.then_exit))
    rename_i u'
    refine EC.draw 7 (by kernel_rfl) ?_
    simp only [List.take_succ_cons, List.take_zero, List.drop_succ_cons, List.drop_zero]
    repeat
      (first
       | (apply H_lookup; exact hg; exact rfl; (first | exact I0 | exact I1 | exact I2); (iterate 5 exact rfl)) | (apply H_bin; (iterate 2 exact rfl); exact hn; (iterate 2 exact rfl))
       | (apply H_move; (iterate 3 exact rfl)) | (apply H_field; (iterate 6 exact rfl))
       | (apply H_load; exact rfl; (first | exact I0 | exact I1 | exact I2 | exact I3 | exact I4 | exact I5 | exact I6); (iterate 4 exact rfl)) | (apply H_nilck; (iterate 3 exact rfl))
       | ((with_reducible apply EH.nil); exact rfl))
    repeat
      (first
       | apply EL.nil | ((with_reducible apply EK.then_normal); apply EK.code) | (apply EC.cond_false; exact rfl)
       | (with_reducible first | apply EC.seq | apply EC.region | apply EC.skip | apply EC.label | apply EC.block | apply EC.exit | apply EC.ret | apply EK.in_normal | apply EK.in_same | apply EK.in_ret | apply EK.then_ret | apply EK.then_exit))
    refine EC.draw 6 (by kernel_rfl) ?_
    simp only [List.take_succ_cons, List.take_zero, List.drop_succ_cons, List.drop_zero]
    repeat
      (first
       | (apply H_lookup; exact hg; exact rfl; (first | exact I0 | exact I1 | exact I2); (iterate 5 exact rfl)) | (apply H_move; (iterate 3 exact rfl)) | (apply H_field; (iterate 6 exact rfl))
       | (apply H_load; exact rfl; (first | exact I0 | exact I1 | exact I2 | exact I3 | exact I4 | exact I5 | exact I6); (iterate 4 exact rfl)) | (apply H_nilck; (iterate 3 exact rfl))
       | ((with_reducible apply EH.nil); exact rfl))
    repeat
      (first
       | (apply P_assign; (iterate 3 exact rfl)) | apply EL.nil | ((with_reducible apply EK.then_normal); apply EK.code)
       | (with_reducible first | apply EC.seq | apply EC.region | apply EC.skip | apply EC.label | apply EC.block | apply EC.exit | apply EC.ret | apply EK.in_normal | apply EK.in_same | apply EK.in_ret | apply EK.then_ret | apply EK.then_exit))
    exact EK.retM1s [stO g m u' k n, smO m c es, unO u' (us ++ [.ifc T d]), mkO k ks] rfl rfl (by (repeat first | exact List.nil_sublist _ | apply List.Sublist.cons_cons | apply List.Sublist.cons)) ⟨u', rfl, rfl⟩
set_option maxRecDepth 20000 in
set_option maxHeartbeats 4000000 in
theorem change_out (h : getE es a = none) (hu : us.length < 1099511627776) : FnM 106 [.v (ptr g), .arr 20 a, .ifc T d] [stO g m u k n, smO m c es, unO u us, mkO k ks] (fun r os' => ∃ u' ga gs, r = .val (.v (ptr ga)) ∧ os' = [acO ga 0 zero32 [] (.map (some gs)), .map gs 32 0 [], stO g m u' k n, smO m (tickE c es a) (putE c es a (.v (ptr ga))), unO u' (undid ks us (.ifc T d)), mkO k ks]) := by
  have hg : (getE es a).getD (.v (.pointer none)) = .v (.pointer none) := by rw [h]; rfl
  have hg2 : ∀ ga, (getE (putE c es a (.v (ptr ga))) a).getD (.v (.pointer none)) = .v (ptr ga) := fun ga => by rw [getE_putE, if_pos rfl]; rfl
  have hn := (bin_nil (T := 111) rfl none).1
  refine FnM.walk 44 Tryz.func106 rfl Tryz.ntmps106 (by simp) fun X => ?_
  by_cases hk : ks.length = 0
  · obtain rfl : ks = [] := List.eq_nil_of_length_eq_zero hk
    rw [show undid [] us (.ifc T d) = us from rfl]
    repeat
      (first
       | (apply P_move; (iterate 3 exact rfl)) | (apply P_assign; (iterate 3 exact rfl)) | (apply P_field; (iterate 6 exact rfl))
       | (apply P_load; exact rfl; (first | exact I0 | exact I1 | exact I2 | exact I3 | exact I4 | exact I5 | exact I6); (iterate 4 exact rfl))
       | (apply P_cmp (b := false); (iterate 2 exact rfl); (focus (first | (simp [cmpI]; done) | (simp [cmpI]; omega))); (iterate 2 exact rfl))
       | (apply P_lenrow; exact rfl; (first | exact I0 | exact I1 | exact I2 | exact I3 | exact I4 | exact I5 | exact I6); (iterate 3 exact rfl)) | (apply P_nilck; (iterate 3 exact rfl))
       | (apply P_box; exact rfl; exact rfl; exact rfl; intro _) | apply EL.nil | ((with_reducible apply EK.then_normal); apply EK.code) | (apply EC.cond_false; exact rfl)
       | (with_reducible first | apply EC.seq | apply EC.region | apply EC.skip | apply EC.label | apply EC.block | apply EC.exit | apply EC.ret | apply EK.in_normal | apply EK.in_same | apply EK.in_ret | apply EK.then_ret | apply EK.then_exit))
    refine EC.draw 7 (by kernel_rfl) ?_
    simp only [List.take_succ_cons, List.take_zero, List.drop_succ_cons, List.drop_zero]
    repeat
      (first
       | (apply H_lookup; exact hg; exact rfl; (first | exact I0 | exact I1 | exact I2); (iterate 5 exact rfl)) | (apply H_bin; (iterate 2 exact rfl); exact hn; (iterate 2 exact rfl))
       | (apply H_move; (iterate 3 exact rfl)) | (apply H_field; (iterate 6 exact rfl))
       | (apply H_load; exact rfl; (first | exact I0 | exact I1 | exact I2 | exact I3 | exact I4 | exact I5 | exact I6); (iterate 4 exact rfl)) | (apply H_nilck; (iterate 3 exact rfl))
       | ((with_reducible apply EH.nil); exact rfl))
    repeat
      (first
       | apply EL.nil | ((with_reducible apply EK.then_normal); apply EK.code) | (apply EC.cond_true; exact rfl))
    refine EC.drawC 8 [0, 1, 2, 3, 4] [5, 6, 7] [] _ (by kernel_rfl) (by kernel_rfl) rfl ?_
    simp only [pickL, List.filterMap_cons, List.filterMap_nil, List.getElem?_cons_zero, List.getElem?_cons_succ]
    repeat
      (first
       | (apply H_move; (iterate 3 exact rfl)) | (apply H_field; (iterate 6 exact rfl))
       | (apply H_load; exact rfl; (first | exact I0 | exact I1 | exact I2 | exact I3 | exact I4 | exact I5 | exact I6); (iterate 4 exact rfl)) | (apply H_nilck; (iterate 3 exact rfl)))
    refine EM.nil ?_
    repeat (first | rw [List.cons_append] | rw [List.nil_append])
    refine CH.mut (os := []) (rest := []) rfl rfl (m_makeMap rfl rfl) ?_
    rintro _ _ ⟨gs, rfl, rfl⟩
    try simp only [St.put]
    repeat (first | rw [List.cons_append] | rw [List.nil_append])
    refine CH.cut 1 ?_
    simp only [List.take_succ_cons, List.take_zero, List.drop_succ_cons, List.drop_zero]
    repeat
      (first
       | (apply H_build; (iterate 7 exact rfl)))
    refine EM.nil ?_
    repeat (first | rw [List.cons_append] | rw [List.nil_append])
    refine CH.mut (os := []) (rest := [_]) rfl rfl (m_box rfl rfl) ?_
    rintro _ _ ⟨ga, rfl, rfl⟩
    try simp only [St.put]
    repeat (first | rw [List.cons_append] | rw [List.nil_append])
    refine CH.nil ?_
    try simp only [List.drop_succ_cons, List.drop_zero]
    repeat
      (first
       | (apply P_mapUpd; exact rfl; (focus (repeat first | exact .z | apply SetAt.s | apply SetAtF.s)); (iterate 4 exact rfl)) | apply EL.nil | ((with_reducible apply EK.then_normal); apply EK.code)
       | (with_reducible first | apply EC.seq | apply EC.region | apply EC.skip | apply EC.label | apply EC.block | apply EC.exit | apply EC.ret | apply EK.in_normal | apply EK.in_same | apply EK.in_ret | apply EK.then_ret | apply EK.then_exit))
    refine EC.draw 6 (by kernel_rfl) ?_
    simp only [List.take_succ_cons, List.take_zero, List.drop_succ_cons, List.drop_zero]
    repeat
      (first
       | (apply H_lookup; exact hg2 ga; exact rfl; (first | exact I0 | exact I1 | exact I2 | exact I3 | exact I4 | exact I5); (iterate 5 exact rfl)) | (apply H_move; (iterate 3 exact rfl))
       | (apply H_field; (iterate 6 exact rfl)) | (apply H_load; exact rfl; (first | exact I0 | exact I1 | exact I2 | exact I3 | exact I4 | exact I5 | exact I6); (iterate 4 exact rfl))
       | (apply H_nilck; (iterate 3 exact rfl)) | ((with_reducible apply EH.nil); exact rfl))
    repeat
      (first
       | (apply P_assign; (iterate 3 exact rfl)) | apply EL.nil | ((with_reducible apply EK.then_normal); apply EK.code)
       | (with_reducible first | apply EC.seq | apply EC.region | apply EC.skip | apply EC.label | apply EC.block | apply EC.exit | apply EC.ret | apply EK.in_normal | apply EK.in_same | apply EK.in_ret | apply EK.then_ret | apply EK.then_exit))
    refine EK.le (Le.varR (d' := .tup [.v (.int .i64 0), .arr 32 zero32, .bs [], .v (.map (some gs))]) ?_) ?_
    · exact Rf.tup (RL.cons Rf.same (RL.cons Rf.same (RL.cons Rf.bs0 (RL.cons Rf.same RL.nil))))
    exact EK.retM1s [acO ga 0 zero32 [] (.map (some gs)), .map gs 32 0 [], stO g m u k n, smO m (tickE c es a) (putE c es a (.v (ptr ga))), unO u us, mkO k []] rfl rfl (by (repeat first | exact List.nil_sublist _ | apply List.Sublist.cons_cons | apply List.Sublist.cons)) ⟨u, ga, gs, rfl, rfl⟩
  · have hU : undid ks us (.ifc T d) = us ++ [.ifc T d] := if_neg hk
    rw [hU]
    repeat
      (first
       | (apply P_move; (iterate 3 exact rfl)) | (apply P_assign; (iterate 3 exact rfl)) | (apply P_field; (iterate 6 exact rfl))
       | (apply P_load; exact rfl; (first | exact I0 | exact I1 | exact I2 | exact I3 | exact I4 | exact I5 | exact I6); (iterate 4 exact rfl))
       | (apply P_cmp (b := true); (iterate 2 exact rfl); (focus (first | (simp [cmpI]; done) | (simp [cmpI]; omega))); (iterate 2 exact rfl))
       | (apply P_lenrow; exact rfl; (first | exact I0 | exact I1 | exact I2 | exact I3 | exact I4 | exact I5 | exact I6); (iterate 3 exact rfl)) | (apply P_lit; (iterate 9 exact rfl))
       | (apply P_nilck; (iterate 3 exact rfl)) | (apply P_box; exact rfl; exact rfl; exact rfl; intro _)
       | (apply P_store; exact rfl; (focus (repeat first | exact .z | apply SetAt.s | apply SetAtF.s)); (iterate 4 exact rfl))
       | ((apply P_append; exact rfl; (focus (repeat first | exact .z | apply SetAt.s | apply SetAtF.s)); (iterate 5 exact rfl); (focus (constructor <;> (first | (simp; done) | (simp; omega))))); intro _)
       | apply EL.nil | ((with_reducible apply EK.then_normal); apply EK.code) | (apply EC.cond_true; exact rfl)
       | (with_reducible first | apply EC.seq | apply EC.region | apply EC.skip | apply EC.label | apply EC.block | apply EC.exit | apply EC.ret | apply EK.in_normal | apply EK.in_same | apply EK.in_ret | apply EK.then_ret | apply EK.then_exit))
    rename_i u'
    refine EC.draw 7 (by kernel_rfl) ?_
    simp only [List.take_succ_cons, List.take_zero, List.drop_succ_cons, List.drop_zero]
    repeat
      (first
       | (apply H_lookup; exact hg; exact rfl; (first | exact I0 | exact I1 | exact I2); (iterate 5 exact rfl)) | (apply H_bin; (iterate 2 exact rfl); exact hn; (iterate 2 exact rfl))
       | (apply H_move; (iterate 3 exact rfl)) | (apply H_field; (iterate 6 exact rfl))
       | (apply H_load; exact rfl; (first | exact I0 | exact I1 | exact I2 | exact I3 | exact I4 | exact I5 | exact I6); (iterate 4 exact rfl)) | (apply H_nilck; (iterate 3 exact rfl))
       | ((with_reducible apply EH.nil); exact rfl))
    repeat
      (first
       | apply EL.nil | ((with_reducible apply EK.then_normal); apply EK.code) | (apply EC.cond_true; exact rfl))
    refine EC.drawC 8 [0, 1, 2, 3, 4] [5, 6, 7] [] _ (by kernel_rfl) (by kernel_rfl) rfl ?_
    simp only [pickL, List.filterMap_cons, List.filterMap_nil, List.getElem?_cons_zero, List.getElem?_cons_succ]
    repeat
      (first
       | (apply H_move; (iterate 3 exact rfl)) | (apply H_field; (iterate 6 exact rfl))
       | (apply H_load; exact rfl; (first | exact I0 | exact I1 | exact I2 | exact I3 | exact I4 | exact I5 | exact I6); (iterate 4 exact rfl)) | (apply H_nilck; (iterate 3 exact rfl)))
    refine EM.nil ?_
    repeat (first | rw [List.cons_append] | rw [List.nil_append])
    refine CH.mut (os := []) (rest := []) rfl rfl (m_makeMap rfl rfl) ?_
    rintro _ _ ⟨gs, rfl, rfl⟩
    try simp only [St.put]
    repeat (first | rw [List.cons_append] | rw [List.nil_append])
    refine CH.cut 1 ?_
    simp only [List.take_succ_cons, List.take_zero, List.drop_succ_cons, List.drop_zero]
    repeat
      (first
       | (apply H_build; (iterate 7 exact rfl)))
    refine EM.nil ?_
    repeat (first | rw [List.cons_append] | rw [List.nil_append])
    refine CH.mut (os := []) (rest := [_]) rfl rfl (m_box rfl rfl) ?_
    rintro _ _ ⟨ga, rfl, rfl⟩
    try simp only [St.put]
    repeat (first | rw [List.cons_append] | rw [List.nil_append])
    refine CH.nil ?_
    try simp only [List.drop_succ_cons, List.drop_zero]
    repeat
      (first
       | (apply P_mapUpd; exact rfl; (focus (repeat first | exact .z | apply SetAt.s | apply SetAtF.s)); (iterate 4 exact rfl)) | apply EL.nil | ((with_reducible apply EK.then_normal); apply EK.code)
       | (with_reducible first | apply EC.seq | apply EC.region | apply EC.skip | apply EC.label | apply EC.block | apply EC.exit | apply EC.ret | apply EK.in_normal | apply EK.in_same | apply EK.in_ret | apply EK.then_ret | apply EK.then_exit))
    refine EC.draw 6 (by kernel_rfl) ?_
    simp only [List.take_succ_cons, List.take_zero, List.drop_succ_cons, List.drop_zero]
    repeat
      (first
       | (apply H_lookup; exact hg2 ga; exact rfl; (first | exact I0 | exact I1 | exact I2 | exact I3 | exact I4 | exact I5); (iterate 5 exact rfl)) | (apply H_move; (iterate 3 exact rfl))
       | (apply H_field; (iterate 6 exact rfl)) | (apply H_load; exact rfl; (first | exact I0 | exact I1 | exact I2 | exact I3 | exact I4 | exact I5 | exact I6); (iterate 4 exact rfl))
       | (apply H_nilck; (iterate 3 exact rfl)) | ((with_reducible apply EH.nil); exact rfl))
    repeat
      (first
       | (apply P_assign; (iterate 3 exact rfl)) | apply EL.nil | ((with_reducible apply EK.then_normal); apply EK.code)
       | (with_reducible first | apply EC.seq | apply EC.region | apply EC.skip | apply EC.label | apply EC.block | apply EC.exit | apply EC.ret | apply EK.in_normal | apply EK.in_same | apply EK.in_ret | apply EK.then_ret | apply EK.then_exit))
    refine EK.le (Le.varR (d' := .tup [.v (.int .i64 0), .arr 32 zero32, .bs [], .v (.map (some gs))]) ?_) ?_
    · exact Rf.tup (RL.cons Rf.same (RL.cons Rf.same (RL.cons Rf.bs0 (RL.cons Rf.same RL.nil))))
    exact EK.retM1s [acO ga 0 zero32 [] (.map (some gs)), .map gs 32 0 [], stO g m u' k n, smO m (tickE c es a) (putE c es a (.v (ptr ga))), unO u' (us ++ [.ifc T d]), mkO k ks] rfl rfl (by (repeat first | exact List.nil_sublist _ | apply List.Sublist.cons_cons | apply List.Sublist.cons)) ⟨u', ga, gs, rfl, rfl⟩
end
end E
end Go.Proofs.YtdhicdnmgmkpkaaGreat
/-
  Pieces in another order; functions with pieces that they do not touch.
  Conditions: none.
-/
namespace Go.Proofs.YtdhicdnmgmkpkaaGreat
set_option linter.unusedVariables false
open Go.RowKit Mono Rlp
namespace E
theorem range_filterMap {α : Type} : ∀ l : List α, (List.range l.length).filterMap (fun i => l[i]?) = l
  | [] => rfl
  | x :: l => by
    rw [List.length_cons, List.range_succ_eq_map, List.filterMap_cons]
    simp only [List.getElem?_cons_zero, List.filterMap_map]
    congr 1
    exact range_filterMap l
theorem pick_perm {os : List Obj} (l : List Nat) (hn : os.length = l.length) (h : l.Perm (List.range l.length)) : os.Perm (l.filterMap fun i => os[i]?) := by
  have := h.filterMap fun i => os[i]?
  rw [← hn, range_filterMap] at this
  exact this.symm
theorem Le.pick {N : Nat} {X : Cx N} {rs : List (Tmp × R)} {os : List Obj} {fs : List (Value × D)} (l : List Nat) (os' : List Obj) (hn : os.length = l.length) (h : l.Perm (List.range l.length)) (hp : (l.filterMap fun i => os[i]?) = os') : Le X ⟨rs, os, fs⟩ ⟨rs, os', fs⟩ := hp ▸ Le.perm (pick_perm l hn h)
theorem FnM.pick {f : FuncId} {ds : List D} {os : List Obj} {Φ : R → List Obj → Prop} (hF : FnM f ds os Φ) (l : List Nat) (hn : os.length = l.length) (h : l.Perm (List.range l.length)) : FnM f ds (l.filterMap fun i => os[i]?) Φ := hF.perm (pick_perm l hn h)
theorem FnM.out {f : FuncId} {ds : List D} {os : List Obj} {Φ Ψ : R → List Obj → Prop} (hF : FnM f ds os Φ) (k : ∀ r os', Φ r os' → ∃ os2, os'.Perm os2 ∧ Ψ r os2) : FnM f ds os Ψ := ⟨fun ok w xs h1 h2 h3 => (hF.go ok w xs h1 h2 h3).mono fun e w' ⟨v, r, os', e1, e2, e3, e4⟩ => by
  obtain ⟨os2, hp, hΨ⟩ := k r os' e2
  have hok : okM ok os w os' w' = okM ok os w os2 w' := funext fun b => propext ⟨fun h => ⟨h.1, h.2.1, fun o ho => h.2.2 o (hp.mem_iff.2 ho)⟩, fun h => ⟨h.1, h.2.1, fun o ho => h.2.2 o (hp.mem_iff.1 ho)⟩⟩
  exact ⟨v, r, os2, e1, hΨ, ⟨e3.gr, e3.apart.perm hp, fun o ho => hok ▸ e3.at_ o (hp.mem_iff.2 ho)⟩, hok ▸ e4⟩⟩
theorem FnM.frame {f : FuncId} {ds : List D} {os : List Obj} {Φ : R → List Obj → Prop} (hF : FnM f ds os Φ) (rest : List Obj) : FnM f ds (os ++ rest) (fun r os' => ∃ os2, Φ r os2 ∧ os' = os2 ++ rest) := by
  constructor
  intro ok w xs hok hown hr
  have hap := List.pairwise_append.1 hown.apart
  have hown1 : Own ok os w := ⟨fun o ho => hown.at_ o (List.mem_append_left _ ho), hap.1, fun b ⟨o, ho, e⟩ => hown.off b ⟨o, List.mem_append_left _ ho, e⟩⟩
  refine (hF.go ok w xs hok hown1 hr).mono ?_
  rintro e w' ⟨v, r, os', rfl, hΦ, ht, hv⟩
  have hrest : ∀ o ∈ rest, ∀ b, o.blk = some b → b < w.heap.size := fun o ho b e => (Obj.blk_lt (hown.at_ o (List.mem_append_right _ ho)) e).2
  have hoff : ∀ b, (ok b ∨ Blks os b ∨ w.heap.size ≤ b) → ∀ o ∈ rest, o.blk ≠ some b := fun b hb o ho e => by
    rcases hb with h | ⟨o', ho', e'⟩ | h
    · exact hown.off b ⟨o, List.mem_append_right _ ho, e⟩ h
    · exact hap.2.2 o' ho' o ho b e' e
    · have := hrest o ho b e
      omega
  have hbl : ∀ b, Blks os b → Blks (os ++ rest) b := fun b ⟨o, ho, e⟩ => ⟨o, List.mem_append_left _ ho, e⟩
  have hz : ∀ b, okM ok os w os' w' b → okM ok (os ++ rest) w (os' ++ rest) w' b := fun b hb => ⟨hb.1.imp id (Or.imp (hbl b) id), hb.2.1, fun o ho => by
    rcases List.mem_append.1 ho with ho | ho
    · exact hb.2.2 o ho
    · exact hoff b hb.1 o ho⟩
  have hblk : ∀ o ∈ os', ∀ b, o.blk = some b → Blks os b ∨ w.heap.size ≤ b := fun o ho b e => (Obj.blk_lt (ht.at_ o ho) e).1
  have hnew : ∀ b, ok b → ∀ o ∈ os', o.blk ≠ some b := fun b hb o ho e => by
    rcases hblk o ho b e with h | h
    · exact hown1.off b h hb
    · have := hok b hb
      omega
  refine ⟨v, r, os' ++ rest, rfl, ⟨os', hΦ, rfl⟩, ⟨?_, List.pairwise_append.2 ⟨ht.apart, hap.2.1, fun o ho p hp b e e' => ?_⟩, fun o ho => ?_⟩, ReadR.mono hz (fun _ _ => rfl) hv⟩
  · exact (GrE.refl w).step ht.gr fun b hb => .inl (hbl b hb)
  · exact hoff b (.inr (hblk o ho b e)) p hp e'
  · rcases List.mem_append.1 ho with ho | ho
    · exact ((ht.at_ o ho).move hz (fun _ _ => rfl) fun _ _ => rfl).rebase fun b e => (hblk o ho b e).imp (hbl b) id
    · have hat := hown.at_ o (List.mem_append_right _ ho)
      refine (hat.move (z' := okM ok (os ++ rest) w (os' ++ rest) w') (fun b hb => hz b ⟨.inl hb, Nat.lt_of_lt_of_le (hok b hb) ht.gr.size, hnew b hb⟩) (fun p hp => ht.gr.cell (hok _ hp) fun hb => hown1.off _ hb hp) fun g e => ht.gr.block g (hrest o ho g e) fun hb => hoff g (.inr (.inl hb)) o ho e).rebase fun b e => .inl ⟨o, List.mem_append_right _ ho, e⟩
section
variable {S : St} {ops : Array Oper} {o : Oper}
theorem m_append {T e z y' : Nat} {s x : Operand} {v : Value} {ds es : List D} (ho : o.op = .call { callee := .builtin .append, args := #[s, x], argTypes := #[T, T] }) (hT : assoc slL T = some (e, z, y')) (hz : Nat.blt 0 z = true) (hs : ev S s = some (.val (.v v))) (hx : ev S x = some (.val (.sl z es))) (hlen : (ds.length + es.length) * y' ≤ 140737488355328 ∧ ds.length + es.length ≤ 9223372036854775807) :
    Muts ops S o [.row v e z ds] (fun r os' => ∃ v', r = .val (.v v') ∧ os' = [.row v' e z (ds ++ es)]) := .mk fun base ok a w ha hown => by
  have hs' := ev_v ha hs fun t e => looks_of e (by rw [ho]; simp [Op.operands, Call.operands])
  obtain ⟨A, c, rows', h1, h2, h3, h4, h5, h6⟩ := sl_ex (ha.ev hx fun t e => looks_of e (by rw [ho]; simp [Op.operands, Call.operands]))
  obtain ⟨rows, h7, h8⟩ := hown.at_ (.row v e z ds) List.mem_cons_self
  obtain ⟨hl1, hl2⟩ := ReadsRows.lens es rows' h6
  have hlen' : rows'.flatten.length = es.length * z := by
    have : ∀ rows : List (List Value), (∀ r ∈ rows, r.length = z) → rows.flatten.length = rows.length * z := by
      intro rows
      induction rows with
      | nil => simp
      | cons r rows ih =>
        intro h
        rw [List.flatten_cons, List.length_append, h r (by simp), ih fun r hr => h r (by simp [hr]), List.length_cons, Nat.add_mul, Nat.one_mul, Nat.add_comm]
    rw [this rows' hl2, hl1]
  have hrd : Rd w w.heap.size A rows'.flatten := fun hn => by
    obtain ⟨b, n, e, hb, hc⟩ := h5 hn
    exact ⟨b, n, e, ha.lt b hb, hc⟩
  obtain ⟨A', c', w', hrun, hown', hgr, hblk⟩ := run_append_rd (P := Tryz.prog) (ty := o.type) (c := c) (slTI hT hz) h7.1 hlen' hrd (ReadsRows.one es rows' h6) (by simp only [maxLen]; exact hlen.2) hlen.1 (Nat.zero_le _)
  have hoff : ∀ b, ok b → v.ownBlock ≠ some b := fun b hb e => hown.off b ⟨_, List.mem_cons_self, e⟩ hb
  have hblk' : ∀ b, (Value.slice A' (ds.length + es.length) c').ownBlock = some b → v.ownBlock = some b ∨ w.heap.size ≤ b := fun b e' => by
    rcases hblk with h | h
    · exact .inl (h ▸ e')
    · rw [h] at e'
      cases e'
      exact .inr (Nat.le_refl _)
  have hz' : ∀ b, ok b → okM ok [.row v e z ds] w [.row (.slice A' (ds.length + es.length) c') e z (ds ++ es)] w' b := fun b hb => ⟨.inl hb, Nat.lt_of_lt_of_le (ha.lt b hb) hgr.size, fun o' ho' e' => by
    obtain rfl : o' = _ := by simpa using ho'
    rcases hblk' b e' with h | h
    · exact hoff b hb h
    · have := ha.lt b hb
      omega⟩
  have hcell : ∀ p : Addr, ok p.block → w'.cell? p = w.cell? p := fun p hp => World.cell?_of_block (hgr.block _ (ha.lt _ hp) fun e' => hoff _ hp e'.symm)
  unfold execOp
  simp only [ho, resolve, invoke, builtin, Sem.run_bind, Sem.run_pure, Result.andThen_ok, List.map_toArray, List.map_cons, List.map_nil, hs', h1, hrun, setsTo]
  refine ⟨.val (.v (.slice A' (ds.length + es.length) c')), [.row (.slice A' (ds.length + es.length) c') e z (ds ++ es)], ⟨_, rfl, rfl⟩, ⟨⟨hgr.os, hgr.tape, hgr.output, hgr.size, fun k hk hn => hgr.block k hk fun e' => hn ⟨_, List.mem_cons_self, e'.symm⟩⟩, by simp, fun o' ho' => ?_⟩, ?_⟩
  · obtain rfl : o' = _ := by simpa using ho'
    refine ⟨rows ++ rows', ?_, ReadsRows.append ds es rows rows' (ReadsRows.mono hz' hcell z ds rows h8) (ReadsRows.mono hz' hcell z es rows' h6)⟩
    rw [List.flatten_append, List.length_append]
    refine ⟨hown', fun b hb => ?_⟩
    rcases hblk' b hb with h | h
    · exact .inl ⟨_, List.mem_cons_self, h⟩
    · exact .inr h
  · exact readV_v.2 ⟨rfl, rfl⟩
end
end E
end Go.Proofs.YtdhicdnmgmkpkaaGreat
/-
  The state: SetBalance, SetNonce.
  Conditions: none.
-/
namespace Go.Proofs.YtdhicdnmgmkpkaaGreat
set_option linter.unusedVariables false
open Go.RowKit Mono Rlp Wd
namespace E
section
variable {g m c ga gs T : Nat} {u k : Value} {n : Int} {es : List Ent} {a w cd : List UInt8} {us ks : List D} {d : D} {b : Int} {sv : Value}
abbrev wasB (a w : List UInt8) : D := .ifc 174 (.tup [.arr 20 a, .arr 32 w])
abbrev wasN (a : List UInt8) (n : Int) : D := .ifc 171 (.tup [.arr 20 a, .v (.int .i64 n)])
theorem change_inA (h : getE es a = some (.v (ptr ga))) (hu : us.length < 1099511627776) : FnM 106 [.v (ptr g), .arr 20 a, .ifc T d] [stO g m u k n, smO m c es, acO ga b w cd sv, unO u us, mkO k ks] (fun r os' => ∃ u', r = .val (.v (ptr ga)) ∧ os' = [stO g m u' k n, smO m c es, unO u' (undid ks us (.ifc T d)), mkO k ks, acO ga b w cd sv]) := by
  have h1 := ((change_in (g := g) (m := m) (c := c) (u := u) (k := k) (n := n) (ks := ks) (T := T) (d := d) h hu).frame [acO ga b w cd sv]).pick [0, 1, 4, 2, 3] rfl (by decide)
  refine FnM.mono h1 ?_
  rintro r _ ⟨_, ⟨u', rfl, rfl⟩, rfl⟩
  exact ⟨u', rfl, rfl⟩
set_option maxRecDepth 20000 in
set_option maxHeartbeats 4000000 in
theorem setBalance_in {w' : List UInt8} (h : getE es a = some (.v (ptr ga))) (hu : us.length < 1099511627776) : FnM 51 [.v (ptr g), .arr 20 a, .arr 32 w'] [stO g m u k n, smO m c es, unO u us, mkO k ks, acO ga b w cd sv] (fun r os' => r = .tpl [] ∧ ∃ u', os' = [stO g m u' k n, smO m c es, unO u' (undid ks us (wasB a w)), mkO k ks, acO ga b w' cd sv]) := by
  have h1 := balance_in (g := g) (m := m) (c := c) (u := u) (k := k) (n := n) (b := b) (w := w) (cd := cd) (sv := sv) h
  have h2 := change_inA (g := g) (m := m) (c := c) (u := u) (k := k) (n := n) (ks := ks) (T := 174) (d := .tup [.arr 20 a, .arr 32 w]) (b := b) (w := w) (cd := cd) (sv := sv) h hu
  refine FnM.walk 18 Tryz.func51 rfl Tryz.ntmps51 (by simp) fun X => ?_
  repeat
    (first
     | (apply P_box; exact rfl; exact rfl; exact rfl; intro _) | apply EL.nil | ((with_reducible apply EK.then_normal); apply EK.code)
     | (with_reducible first | apply EC.seq | apply EC.region | apply EC.skip | apply EC.label | apply EC.block | apply EC.exit | apply EC.ret | apply EK.in_normal | apply EK.in_same | apply EK.in_ret | apply EK.then_ret | apply EK.then_exit))
  refine EC.le (Le.pick [2, 3, 6, 4, 5, 0, 1] [_, _, _, _, _, _, _] rfl (by decide) rfl) ?_
  refine EC.drawC 10 [0, 1, 2, 3, 4, 9] [5, 6, 7, 8] [_, _, _, _, _] _ (by kernel_rfl) (by kernel_rfl) rfl ?_
  simp only [pickL, List.filterMap_cons, List.filterMap_nil, List.getElem?_cons_zero, List.getElem?_cons_succ]
  repeat
    (first
     | (apply H_move; (iterate 3 exact rfl)) | (apply H_load; exact rfl; (first | exact I0 | exact I1 | exact I2 | exact I3 | exact I4 | exact I5 | exact I6); (iterate 4 exact rfl)))
  refine EM.nil ?_
  repeat (first | rw [List.cons_append] | rw [List.nil_append])
  refine CH.callM (rest := [_, _]) h1 rfl rfl (RefineL.refl _ _) (by intro _ _; simp [go_sem]) rfl rfl ?_
  rintro _ _ ⟨rfl, rfl⟩
  try simp only [St.put]
  repeat (first | rw [List.cons_append] | rw [List.nil_append])
  refine CH.cut 2 ?_
  simp only [List.take_succ_cons, List.take_zero, List.drop_succ_cons, List.drop_zero]
  repeat
    (first
     | (apply H_build; (iterate 7 exact rfl)) | (apply H_mkifc; (iterate 4 exact rfl)))
  refine EM.nil ?_
  repeat (first | rw [List.cons_append] | rw [List.nil_append])
  refine CH.callM (rest := []) h2 rfl rfl (RefineL.refl _ _) (by intro _ _; simp [go_sem]) rfl rfl ?_
  rintro _ _ ⟨u', rfl, rfl⟩
  try simp only [St.put]
  repeat (first | rw [List.cons_append] | rw [List.nil_append])
  refine CH.nil ?_
  try simp only [List.drop_succ_cons, List.drop_zero]
  repeat
    (first
     | (apply P_field; (iterate 6 exact rfl)) | (apply P_nilck; (iterate 3 exact rfl)) | (apply P_store; exact rfl; (focus (repeat first | exact .z | apply SetAt.s | apply SetAtF.s)); (iterate 4 exact rfl))
     | apply EL.nil)
  exact EK.retM0n [stO g m u' k n, smO m c es, unO u' (undid ks us (wasB a w)), mkO k ks, acO ga b w' cd sv] rfl (by (repeat first | exact List.nil_sublist _ | apply List.Sublist.cons_cons | apply List.Sublist.cons)) ⟨rfl, u', rfl⟩
set_option maxRecDepth 20000 in
set_option maxHeartbeats 4000000 in
theorem setBalance_out {w' : List UInt8} (h : getE es a = none) (hu : us.length < 1099511627776) : FnM 51 [.v (ptr g), .arr 20 a, .arr 32 w'] [stO g m u k n, smO m c es, unO u us, mkO k ks] (fun r os' => r = .tpl [] ∧ ∃ u' ga gs, os' = [stO g m u' k n, smO m (tickE c es a) (putE c es a (.v (ptr ga))), unO u' (undid ks us (wasB a zero32)), mkO k ks, acO ga 0 w' [] (.map (some gs)), .map gs 32 0 []]) := by
  have h1 := balance_out (g := g) (m := m) (c := c) (u := u) (k := k) (n := n) h
  have h2 := change_out (g := g) (m := m) (c := c) (u := u) (k := k) (n := n) (ks := ks) (T := 174) (d := .tup [.arr 20 a, .arr 32 zero32]) h hu
  refine FnM.walk 18 Tryz.func51 rfl Tryz.ntmps51 (by simp) fun X => ?_
  repeat
    (first
     | (apply P_box; exact rfl; exact rfl; exact rfl; intro _) | apply EL.nil | ((with_reducible apply EK.then_normal); apply EK.code)
     | (with_reducible first | apply EC.seq | apply EC.region | apply EC.skip | apply EC.label | apply EC.block | apply EC.exit | apply EC.ret | apply EK.in_normal | apply EK.in_same | apply EK.in_ret | apply EK.then_ret | apply EK.then_exit))
  refine EC.le (Le.pick [2, 3, 4, 5, 0, 1] [_, _, _, _, _, _] rfl (by decide) rfl) ?_
  refine EC.drawC 10 [0, 1, 2, 3, 4, 9] [5, 6, 7, 8] [_, _, _, _] _ (by kernel_rfl) (by kernel_rfl) rfl ?_
  simp only [pickL, List.filterMap_cons, List.filterMap_nil, List.getElem?_cons_zero, List.getElem?_cons_succ]
  repeat
    (first
     | (apply H_move; (iterate 3 exact rfl)) | (apply H_load; exact rfl; (first | exact I0 | exact I1 | exact I2 | exact I3 | exact I4 | exact I5 | exact I6); (iterate 4 exact rfl)))
  refine EM.nil ?_
  repeat (first | rw [List.cons_append] | rw [List.nil_append])
  refine CH.callM (rest := [_, _]) h1 rfl rfl (RefineL.refl _ _) (by intro _ _; simp [go_sem]) rfl rfl ?_
  rintro _ _ ⟨rfl, rfl⟩
  try simp only [St.put]
  repeat (first | rw [List.cons_append] | rw [List.nil_append])
  refine CH.cut 2 ?_
  simp only [List.take_succ_cons, List.take_zero, List.drop_succ_cons, List.drop_zero]
  repeat
    (first
     | (apply H_build; (iterate 7 exact rfl)) | (apply H_mkifc; (iterate 4 exact rfl)))
  refine EM.nil ?_
  repeat (first | rw [List.cons_append] | rw [List.nil_append])
  refine CH.callM (rest := []) h2 rfl rfl (RefineL.refl _ _) (by intro _ _; simp [go_sem]) rfl rfl ?_
  rintro _ _ ⟨u', ga, gs, rfl, rfl⟩
  try simp only [St.put]
  repeat (first | rw [List.cons_append] | rw [List.nil_append])
  refine CH.nil ?_
  try simp only [List.drop_succ_cons, List.drop_zero]
  repeat
    (first
     | (apply P_field; (iterate 6 exact rfl)) | (apply P_nilck; (iterate 3 exact rfl)) | (apply P_store; exact rfl; (focus (repeat first | exact .z | apply SetAt.s | apply SetAtF.s)); (iterate 4 exact rfl))
     | apply EL.nil)
  refine EK.le (Le.pick [2, 3, 4, 5, 0, 1, 6, 7] [_, _, _, _, _, _, _, _] rfl (by decide) rfl) ?_
  exact EK.retM0n [stO g m u' k n, smO m (tickE c es a) (putE c es a (.v (ptr ga))), unO u' (undid ks us (wasB a zero32)), mkO k ks, acO ga 0 w' [] (.map (some gs)), .map gs 32 0 []] rfl (by (repeat first | exact List.nil_sublist _ | apply List.Sublist.cons_cons | apply List.Sublist.cons)) ⟨rfl, u', ga, gs, rfl⟩
set_option maxRecDepth 20000 in
set_option maxHeartbeats 4000000 in
theorem setNonce_in {n' : Int} (h : getE es a = some (.v (ptr ga))) (hu : us.length < 1099511627776) : FnM 50 [.v (ptr g), .arr 20 a, .v (.int .i64 n')] [stO g m u k n, smO m c es, unO u us, mkO k ks, acO ga b w cd sv] (fun r os' => r = .tpl [] ∧ ∃ u', os' = [stO g m u' k n, smO m c es, unO u' (undid ks us (wasN a b)), mkO k ks, acO ga (if n' > 0 then n' else 0) w cd sv]) := by
  have h1 := nonce_in (g := g) (m := m) (c := c) (u := u) (k := k) (n := n) (b := b) (w := w) (cd := cd) (sv := sv) h
  have h2 := change_inA (g := g) (m := m) (c := c) (u := u) (k := k) (n := n) (ks := ks) (T := 171) (d := .tup [.arr 20 a, .v (.int .i64 b)]) (b := b) (w := w) (cd := cd) (sv := sv) h hu
  refine FnM.walk 19 Tryz.func50 rfl Tryz.ntmps50 (by simp) fun X => ?_
  repeat
    (first
     | (apply P_box; exact rfl; exact rfl; exact rfl; intro _) | apply EL.nil | ((with_reducible apply EK.then_normal); apply EK.code)
     | (with_reducible first | apply EC.seq | apply EC.region | apply EC.skip | apply EC.label | apply EC.block | apply EC.exit | apply EC.ret | apply EK.in_normal | apply EK.in_same | apply EK.in_ret | apply EK.then_ret | apply EK.then_exit))
  refine EC.le (Le.pick [1, 2, 5, 3, 4, 0] [_, _, _, _, _, _] rfl (by decide) rfl) ?_
  refine EC.drawC 11 [0, 1, 2, 3, 4, 9, 10] [5, 6, 7, 8] [_, _, _, _, _] _ (by kernel_rfl) (by kernel_rfl) rfl ?_
  simp only [pickL, List.filterMap_cons, List.filterMap_nil, List.getElem?_cons_zero, List.getElem?_cons_succ]
  repeat
    (first
     | (apply H_move; (iterate 3 exact rfl)) | (apply H_load; exact rfl; (first | exact I0 | exact I1 | exact I2 | exact I3 | exact I4 | exact I5 | exact I6); (iterate 4 exact rfl))
     | (apply H_max; (iterate 4 exact rfl)))
  refine EM.nil ?_
  repeat (first | rw [List.cons_append] | rw [List.nil_append])
  refine CH.callM (rest := [_, _]) h1 rfl rfl (RefineL.refl _ _) (by intro _ _; simp [go_sem]) rfl rfl ?_
  rintro _ _ ⟨rfl, rfl⟩
  try simp only [St.put]
  repeat (first | rw [List.cons_append] | rw [List.nil_append])
  refine CH.cut 2 ?_
  simp only [List.take_succ_cons, List.take_zero, List.drop_succ_cons, List.drop_zero]
  repeat
    (first
     | (apply H_build; (iterate 7 exact rfl)) | (apply H_mkifc; (iterate 4 exact rfl)))
  refine EM.nil ?_
  repeat (first | rw [List.cons_append] | rw [List.nil_append])
  refine CH.callM (rest := []) h2 rfl rfl (RefineL.refl _ _) (by intro _ _; simp [go_sem]) rfl rfl ?_
  rintro _ _ ⟨u', rfl, rfl⟩
  try simp only [St.put]
  repeat (first | rw [List.cons_append] | rw [List.nil_append])
  refine CH.nil ?_
  try simp only [List.drop_succ_cons, List.drop_zero]
  repeat
    (first
     | (apply P_field; (iterate 6 exact rfl)) | (apply P_nilck; (iterate 3 exact rfl)) | (apply P_store; exact rfl; (focus (repeat first | exact .z | apply SetAt.s | apply SetAtF.s)); (iterate 4 exact rfl))
     | apply EL.nil)
  exact EK.retM0n [stO g m u' k n, smO m c es, unO u' (undid ks us (wasN a b)), mkO k ks, acO ga (if n' > 0 then n' else 0) w cd sv] rfl (by (repeat first | exact List.nil_sublist _ | apply List.Sublist.cons_cons | apply List.Sublist.cons)) ⟨rfl, u', rfl⟩
set_option maxRecDepth 20000 in
set_option maxHeartbeats 4000000 in
theorem setNonce_out {n' : Int} (h : getE es a = none) (hu : us.length < 1099511627776) : FnM 50 [.v (ptr g), .arr 20 a, .v (.int .i64 n')] [stO g m u k n, smO m c es, unO u us, mkO k ks] (fun r os' => r = .tpl [] ∧ ∃ u' ga gs, os' = [stO g m u' k n, smO m (tickE c es a) (putE c es a (.v (ptr ga))), unO u' (undid ks us (wasN a 0)), mkO k ks, acO ga (if n' > 0 then n' else 0) zero32 [] (.map (some gs)), .map gs 32 0 []]) := by
  have h1 := nonce_out (g := g) (m := m) (c := c) (u := u) (k := k) (n := n) h
  have h2 := change_out (g := g) (m := m) (c := c) (u := u) (k := k) (n := n) (ks := ks) (T := 171) (d := .tup [.arr 20 a, .v (.int .i64 0)]) h hu
  refine FnM.walk 19 Tryz.func50 rfl Tryz.ntmps50 (by simp) fun X => ?_
  repeat
    (first
     | (apply P_box; exact rfl; exact rfl; exact rfl; intro _) | apply EL.nil | ((with_reducible apply EK.then_normal); apply EK.code)
     | (with_reducible first | apply EC.seq | apply EC.region | apply EC.skip | apply EC.label | apply EC.block | apply EC.exit | apply EC.ret | apply EK.in_normal | apply EK.in_same | apply EK.in_ret | apply EK.then_ret | apply EK.then_exit))
  refine EC.le (Le.pick [1, 2, 3, 4, 0] [_, _, _, _, _] rfl (by decide) rfl) ?_
  refine EC.drawC 11 [0, 1, 2, 3, 4, 9, 10] [5, 6, 7, 8] [_, _, _, _] _ (by kernel_rfl) (by kernel_rfl) rfl ?_
  simp only [pickL, List.filterMap_cons, List.filterMap_nil, List.getElem?_cons_zero, List.getElem?_cons_succ]
  repeat
    (first
     | (apply H_move; (iterate 3 exact rfl)) | (apply H_load; exact rfl; (first | exact I0 | exact I1 | exact I2 | exact I3 | exact I4 | exact I5 | exact I6); (iterate 4 exact rfl))
     | (apply H_max; (iterate 4 exact rfl)))
  refine EM.nil ?_
  repeat (first | rw [List.cons_append] | rw [List.nil_append])
  refine CH.callM (rest := [_, _]) h1 rfl rfl (RefineL.refl _ _) (by intro _ _; simp [go_sem]) rfl rfl ?_
  rintro _ _ ⟨rfl, rfl⟩
  try simp only [St.put]
  repeat (first | rw [List.cons_append] | rw [List.nil_append])
  refine CH.cut 2 ?_
  simp only [List.take_succ_cons, List.take_zero, List.drop_succ_cons, List.drop_zero]
  repeat
    (first
     | (apply H_build; (iterate 7 exact rfl)) | (apply H_mkifc; (iterate 4 exact rfl)))
  refine EM.nil ?_
  repeat (first | rw [List.cons_append] | rw [List.nil_append])
  refine CH.callM (rest := []) h2 rfl rfl (RefineL.refl _ _) (by intro _ _; simp [go_sem]) rfl rfl ?_
  rintro _ _ ⟨u', ga, gs, rfl, rfl⟩
  try simp only [St.put]
  repeat (first | rw [List.cons_append] | rw [List.nil_append])
  refine CH.nil ?_
  try simp only [List.drop_succ_cons, List.drop_zero]
  repeat
    (first
     | (apply P_field; (iterate 6 exact rfl)) | (apply P_nilck; (iterate 3 exact rfl)) | (apply P_store; exact rfl; (focus (repeat first | exact .z | apply SetAt.s | apply SetAtF.s)); (iterate 4 exact rfl))
     | apply EL.nil)
  refine EK.le (Le.pick [2, 3, 4, 5, 0, 1, 6] [_, _, _, _, _, _, _] rfl (by decide) rfl) ?_
  exact EK.retM0n [stO g m u' k n, smO m (tickE c es a) (putE c es a (.v (ptr ga))), unO u' (undid ks us (wasN a 0)), mkO k ks, acO ga (if n' > 0 then n' else 0) zero32 [] (.map (some gs)), .map gs 32 0 []] rfl (by (repeat first | exact List.nil_sublist _ | apply List.Sublist.cons_cons | apply List.Sublist.cons)) ⟨rfl, u', ga, gs, rfl⟩
end
end E
end Go.Proofs.YtdhicdnmgmkpkaaGreat
/-
  The abstract machine at regions that draw their order: reads, new memory, new variables, and calls that leave the pieces as they tell them ('visits'), in whatever order.
  Conditions: none.
-/
namespace Go.Proofs.YtdhicdnmgmkpkaaGreat
set_option linter.unusedVariables false
open Go.RowKit Mono Rlp
namespace E
def Visit (ops : Array Oper) (S : St) (o : Oper) (r : R) : Prop := ∃ os rest, S.objs.Perm (os ++ rest) ∧ Muts ops ⟨S.regs, rest, S.facts⟩ o os (fun r' os' => r' = r ∧ os' = os)
def OkV (N : Nat) (ops : Array Oper) (S : St) (o : Oper) (i : Inf) : Prop := OkI N ops S o i ∨ ∃ r, i = .grow r ∧ guardOf ops S o = some true ∧ Visit ops S o r
def EV (N : Nat) (ops : Array Oper) (T : St → List Fr → Prop) : List Oper → St → List Fr → Prop
  | [], S, E => T S E
  | o :: l, S, E => ∃ inf : Inf, inf.noPut = true ∧ offB N o.dst E = true ∧ ((∃ T d, inf = .new T d) → o.dst ≠ none) ∧ OkV N ops S o inf ∧ EV N ops T l (S.put o.dst inf.reg) (nextE E o.dst inf)
section
variable {N : Nat} {X : Cx N} {S S' : St} {a : Act} {w w' : World} {ops : Array Oper} {o : Oper} {Q : Exit → Act → World → Prop} {l : List Oper} {T : St → List Fr → Prop} {E : List Fr}
theorem EV.nil (h : T S E) : EV N ops T [] S E := h
theorem EV.seg {l2 : List Oper} : ∀ (l1 : List Oper) (S : St) (E : List Fr), EM N ops (fun S' E' => EV N ops T l2 S' E') l1 S E → EV N ops T (l1 ++ l2) S E
  | [], S, E, h => h
  | o :: l1, S, E, ⟨inf, h0, h1, h2, h3, h4⟩ => ⟨inf, h0, h1, h2, .inl h3, EV.seg l1 _ _ h4⟩
theorem EV.cut (k : Nat) (h : EM N ops (fun S' E' => EV N ops T (l.drop k) S' E') (l.take k) S E) : EV N ops T l S E := by
  have := EV.seg _ _ _ h
  rwa [List.take_append_drop] at this
theorem Mem.perm {os os' : List Obj} {fs : List (Value × D)} (h : os.Perm os') (hm : Mem X os fs w) : Mem X os' fs w :=
  ((Le.perm (X := X) (rs := []) (fs := fs) h) ⟨Array.replicate N undef, []⟩ w ⟨hm, (fun t r hr => by cases hr), by simp, rfl⟩).mem
abbrev Nw := Nat × Nat × TypeId × D
def Nw.pc (e : Nw) : Obj := .var e.2.1 e.2.2.1 e.2.2.2
structure RV (X : Cx N) (S : St) (a : Act) (infs : List Inf) (L : Nat → Prop) (vs : Nat → Value) (u : World) (nw : List Nw) : Prop where
  nd : (nw.map (·.1)).Nodup
  ok : ∀ e ∈ nw, L e.1 ∧ infs[e.1]? = some (.new e.2.2.1 e.2.2.2) ∧ vs e.1 = .pointer (some ⟨e.2.1, 0, none⟩)
  all : ∀ j T d, L j → infs[j]? = some (.new T d) → ∃ e ∈ nw, e.1 = j
  mem : Mem X (nw.map Nw.pc ++ S.objs) S.facts u
  val : ∀ j i, L j → infs[j]? = some i → ReadR (X.ok (nw.map Nw.pc ++ S.objs) u) u i.reg (vs j)
  old : ∀ t r, look S.regs t = some r → ReadR (X.ok (nw.map Nw.pc ++ S.objs) u) u r (a.tmps.getD t undef)
theorem RV.same {infs : List Inf} {L : Nat → Prop} {vs : Nat → Value} {u u' : World} {nw : List Nw} (h : RV X S a infs L vs u nw) {k : Nat} {i : Inf} (hk : ¬ L k) (hi : infs[k]? = some i) (hn : ∀ T d, i ≠ .new T d) (v : Value) (hm : Mem X (nw.map Nw.pc ++ S.objs) S.facts u') (hok : ∀ b, X.ok (nw.map Nw.pc ++ S.objs) u b → X.ok (nw.map Nw.pc ++ S.objs) u' b) (hc : ∀ p : Addr, X.ok (nw.map Nw.pc ++ S.objs) u p.block → u'.cell? p = u.cell? p) (hv : ReadR (X.ok (nw.map Nw.pc ++ S.objs) u') u' i.reg v) : RV X S a infs (fun j => j = k ∨ L j) (fun j => if j = k then v else vs j) u' nw := by
  refine ⟨h.nd, fun e he => ?_, fun j T d hj hij => ?_, hm, fun j i' hj hij => ?_, fun t r hr => (h.old t r hr).mono hok hc⟩
  · obtain ⟨h1, h2, h3⟩ := h.ok e he
    exact ⟨.inr h1, h2, by rw [if_neg (show ¬ e.1 = k from fun e' => hk (by rw [← e']; exact h1))]; exact h3⟩
  · rcases hj with rfl | hj
    · exact absurd (Option.some.inj (hi.symm.trans hij)) (hn T d)
    · exact h.all j T d hj hij
  · by_cases e : j = k
    · subst e
      rw [if_pos rfl]
      obtain rfl : i' = i := Option.some.inj (hij.symm.trans hi)
      exact hv
    · rw [if_neg e]
      exact (h.val j i' (hj.resolve_left e) hij).mono hok hc
theorem RV.new {infs : List Inf} {L : Nat → Prop} {vs : Nat → Value} {u : World} {nw : List Nw} (h : RV X S a infs L vs u nw) {k : Nat} {Ty : TypeId} {d : D} {cs : List Value} (hk : ¬ L k) (hi : infs[k]? = some (.new Ty d)) (hcs : Reads (X.ok (nw.map Nw.pc ++ S.objs) u) u d cs) : RV X S a infs (fun j => j = k ∨ L j) (fun j => if j = k then .pointer (some ⟨u.heap.size, 0, none⟩) else vs j) (u.alloc (.cells cs.toArray Ty)) ((k, u.heap.size, Ty, d) :: nw) := by
  have hgr := gr_alloc u (.cells cs.toArray Ty)
  have hok : ∀ b, X.ok (nw.map Nw.pc ++ S.objs) u b → X.ok (((k, u.heap.size, Ty, d) :: nw : List Nw).map Nw.pc ++ S.objs) (u.alloc (.cells cs.toArray Ty)) b := fun b hb => ⟨hb.1, Nat.lt_of_lt_of_le hb.2.1 hgr.size, fun o ho e => by
    rw [List.map_cons, List.cons_append] at ho
    rcases List.mem_cons.1 ho with rfl | ho
    · cases e
      exact absurd hb.2.1 (Nat.lt_irrefl _)
    · exact hb.2.2 o ho e⟩
  have hc : ∀ p : Addr, X.ok (nw.map Nw.pc ++ S.objs) u p.block → (u.alloc (.cells cs.toArray Ty)).cell? p = u.cell? p := fun p hp => hgr.cell hp.2.1
  refine ⟨?_, fun e he => ?_, fun j T' d' hj hij => ?_, ?_, fun j i' hj hij => ?_, fun t r hr => (h.old t r hr).mono hok hc⟩
  · rw [List.map_cons]
    refine List.nodup_cons.2 ⟨fun hm => ?_, h.nd⟩
    obtain ⟨e, he, e'⟩ := List.mem_map.1 hm
    have e2 : e.1 = k := e'
    exact hk (by rw [← e2]; exact (h.ok e he).1)
  · rcases List.mem_cons.1 he with rfl | he
    · exact ⟨.inl rfl, hi, if_pos rfl⟩
    · obtain ⟨h1, h2, h3⟩ := h.ok e he
      exact ⟨.inr h1, h2, by rw [if_neg (show ¬ e.1 = k from fun e' => hk (by rw [← e']; exact h1))]; exact h3⟩
  · rcases hj with rfl | hj
    · exact ⟨_, List.mem_cons_self, rfl⟩
    · obtain ⟨e, he, e'⟩ := h.all j T' d' hj hij
      exact ⟨e, List.mem_cons_of_mem _ he, e'⟩
  · have hat : At X ⟨[], nw.map Nw.pc ++ S.objs, S.facts⟩ ⟨Array.replicate N undef, []⟩ u := ⟨h.mem, (fun t r hr => by cases hr), by simp, rfl⟩
    exact (hat.new (q := .var u.heap.size Ty d) rfl ⟨.inr h.mem.gr.size, cs, heap_alloc_new u _, Reads.mono hok hc _ _ hcs⟩).mem
  · by_cases e : j = k
    · subst e
      obtain rfl : i' = .new Ty d := Option.some.inj (hij.symm.trans hi)
      trivial
    · rw [if_neg e]
      exact (h.val j i' (hj.resolve_left e) hij).mono hok hc
theorem EV.nil1 {l' : List Oper} {t : Tmp} {Ty : TypeId} {d : D} {rs : List (Tmp × R)} {os : List Obj} {fs : List (Value × D)} (h : ∀ g, EL X ops Q l' ⟨(t, .val (.v (.pointer (some ⟨g, 0, none⟩)))) :: rs, .var g Ty d :: os, fs⟩) : EV N ops (fun S' E => openF (EL X ops Q l') E S') [] ⟨rs, os, fs⟩ [(t, Ty, d)] := h
theorem P_callV {l' : List Oper} {t ty f : Nat} {pos : String} {af : Array Edge} {gd : Option (Nat × Bool)} {args : Array Operand} {tys : Array TypeId} {ds ds' : List D} {r : R} {rs : List (Tmp × R)} {os os0 : List Obj} {fs : List (Value × D)} (hF : FnM f ds' os (fun r' os' => r' = r ∧ os' = os)) (ix : List Nat) (rest : List Obj) (hn : os0.length = ix.length) (hp : ix.Perm (List.range ix.length)) (hq : (ix.filterMap fun i => os0[i]?) = os ++ rest)
    (hx : evs (⟨rs, rest, fs⟩ : St) args.toList = some ds) (hR : RefineL fs ds ds') (hf : Enters f) (hg : guardOf ops ⟨rs, os ++ rest, fs⟩ ⟨some t, .call { callee := .value (.func f), args := args, argTypes := tys }, ty, pos, af, gd⟩ = some true) (hN : Nat.blt t N = true) (k : EL X ops Q l' ⟨(t, r) :: rs, os0, fs⟩) : EL X ops Q (⟨some t, .call { callee := .value (.func f), args := args, argTypes := tys }, ty, pos, af, gd⟩ :: l') ⟨rs, os0, fs⟩ := by
  have hpp : os0.Perm (os ++ rest) := hq ▸ pick_perm ix hn hp
  refine EL.le (Le.perm hpp) ?_
  refine P_callMD hF rfl hx hR hf hg hN ?_
  exact EL.le (Le.perm hpp.symm) k
end
end E
end Go.Proofs.YtdhicdnmgmkpkaaGreat
/-
  Arrays of bytes within a row or a variable, cut whole and told as strings.
  Conditions: none.
-/
namespace Go.Proofs.YtdhicdnmgmkpkaaGreat
set_option linter.unusedVariables false
open Go.RowKit Mono Rlp
namespace E
def slAt (v : Value) (n m : Nat) : Value :=
  match v with
  | .slice (some a) _ _ => .slice (some ⟨a.block, a.off + n, none⟩) m m
  | _ => .slice none 0 0
theorem slAt_one (v : Value) (n m : Nat) : (slAt v n m).oneCell' = true := by
  unfold slAt
  split <;> rfl
section
variable {N : Nat} {X : Cx N} {S : St} {ops : Array Oper} {o : Oper} {Q : Exit → Act → World → Prop} {l' : List Oper} {TT : St → List Fr → Prop} {EE : List Fr} {rs : List (Tmp × R)} {os : List Obj} {fs : List (Value × D)} {w : World} {ok : Nat → Prop}
theorem g_slrow {x : Operand} {T n m e z : Nat} {v : Value} {ds : List D} (hA : SliceA T m) (ho : o.op = .slice T x none none none) (hx : ev S x = some (.val (.v (elemPtr v n)))) (i : Nat) (hi : S.objs[i]? = some (.row v e z ds)) (hk0 : 0 < ds.length) : Still ops S o (.val (.v (slAt v n m))) := fun base ok a w ha => by
  have hx' := ev_v ha hx (looks_op (by rw [ho]; simp [Op.operands]))
  obtain ⟨g, c, cur, rows, H⟩ := row_in (ha.objs _ (List.mem_of_getElem? hi)) hk0
  refine ⟨_, ?_, v_mk (slAt_one _ _ _)⟩
  unfold execOp
  have e1 : elemPtr v n = .pointer (some ⟨g, n, none⟩) := by rw [H.val]; simp [elemPtr]
  have e2 : slAt v n m = .slice (some ⟨g, n, none⟩) m m := by rw [H.val]; simp [slAt]
  simp only [ho, hx', e1, e2, Option.map_none, Sem.run_bind, hA.ok w g n, Result.andThen_ok, Sem.run_pure]
theorem isB_range {g n m : Nat} {l : List UInt8} {mid : List Value} (hm : Nat.ble m 4096 = true) (hg : g < w.heap.size) (hr : w.rangeAt g n mid) (h : Reads ok w (.arr m l) mid) : IsB w (.slice (some ⟨g, n, none⟩) m m) l := by
  obtain ⟨h1, h2⟩ : l.length = m ∧ mid = bvs l := by
    rw [Reads] at h
    exact ⟨h.1, h.2⟩
  subst h1 h2
  have := Nat.le_of_ble_eq_true hm
  exact ⟨_, l.length, rfl, Nat.le_refl _, by simp only [maxLen]; omega, fun _ => ⟨g, n, rfl, hg, hr⟩⟩
theorem g_strrow {x : Operand} {n m k off e z : Nat} {v : Value} {ds : List D} {d : D} {l : List UInt8} (hm : Nat.ble m 4096 = true) (hk : n = k * z + off ∧ ds[k]? = some d) (hs : d.sub off m true = some (.arr m l)) (ho : o.op = .convert 35 9 x) (hx : ev S x = some (.val (.v (slAt v n m)))) (i : Nat) (hi : S.objs[i]? = some (.row v e z ds)) : Still ops S o (.val (.v (.string (Go.Proofs.YtdhicdnmgmkpkaaGreat.bs l)))) := fun base ok a w ha => by
  have hx' := ev_v ha hx (looks_op (by rw [ho]; simp [Op.operands]))
  have hat := ha.objs _ (List.mem_of_getElem? hi)
  obtain ⟨g, c, cur, rows, H⟩ := row_in hat (by have := (List.getElem?_eq_some_iff.1 hk.2).1; omega)
  obtain ⟨r, A, B, h1, h2, h3, h4, h5, _⟩ := H.elem hk.2
  obtain ⟨e1, e2, pre, mid, post, rfl, e3, e4⟩ := sub_spec d off m true _ r hs h3
  have hh : w.heap[g]? = some (.cells (A ++ (pre ++ mid ++ post) ++ B).toArray e (0, 0)) := by rw [← h4]; exact H.heap
  have hr := range_of_row hh
  rw [show A ++ (pre ++ mid ++ post) ++ B = (A ++ pre) ++ mid ++ (post ++ B) by simp] at hr
  have hr := range_part hr
  rw [Nat.zero_add, List.length_append, h5, e3, ← hk.1] at hr
  have hg : g < w.heap.size := (Array.getElem?_eq_some_iff.1 hh).1
  have e5 : slAt v n m = .slice (some ⟨g, n, none⟩) m m := by rw [H.val]; simp [slAt]
  have hb : IsB w (a.eval x) l := by rw [hx', e5]; exact isB_range hm hg hr e4
  refine ⟨_, ?_, v_mk rfl⟩
  unfold execOp
  simp only [ho, Sem.run_bind, conv_bytes hb, Result.andThen_ok, Sem.run_pure]
theorem g_strvar {x : Operand} {g n m : Nat} {t : TypeId} {d : D} {l : List UInt8} (hm : Nat.ble m 4096 = true) (hs : d.sub n m true = some (.arr m l)) (ho : o.op = .convert 35 9 x) (hx : ev S x = some (.val (.v (.slice (some ⟨g, n, none⟩) m m)))) (i : Nat) (hi : S.objs[i]? = some (.var g t d)) : Still ops S o (.val (.v (.string (Go.Proofs.YtdhicdnmgmkpkaaGreat.bs l)))) := fun base ok a w ha => by
  have hx' := ev_v ha hx (looks_op (by rw [ho]; simp [Op.operands]))
  obtain ⟨_, cs, hh, hr⟩ := ha.objs _ (List.mem_of_getElem? hi)
  obtain ⟨e1, e2, pre, mid, post, rfl, e3, e4⟩ := sub_spec d n m true _ cs hs hr
  have hr := range_part (range_of_row hh)
  rw [Nat.zero_add, e3] at hr
  have hb : IsB w (a.eval x) l := by rw [hx']; exact isB_range hm (Array.getElem?_eq_some_iff.1 hh).1 hr e4
  refine ⟨_, ?_, v_mk rfl⟩
  unfold execOp
  simp only [ho, Sem.run_bind, conv_bytes hb, Result.andThen_ok, Sem.run_pure]
theorem H_slrow {t ty : Nat} {pos : String} {af : Array Edge} {gd : Option (Nat × Bool)} {x : Operand} {T n m e z i : Nat} {v : Value} {ds : List D} (hA : SliceA T m) (hx : ev (⟨rs, os, fs⟩ : St) x = some (.val (.v (elemPtr v n)))) (hi : os[i]? = some (.row v e z ds)) (hk0 : 0 < ds.length) (hg : guardOf ops ⟨rs, os, fs⟩ ⟨some t, .slice T x none none none, ty, pos, af, gd⟩ = some true) (hoff : offB N (some t) EE = true) (kk : EM N ops TT l' ⟨(t, .val (.v (slAt v n m))) :: rs, os, fs⟩ EE) : EM N ops TT (⟨some t, .slice T x none none none, ty, pos, af, gd⟩ :: l') ⟨rs, os, fs⟩ EE := EH.still (g_slrow hA rfl hx i hi hk0) hg rfl hoff kk
theorem H_strrow {t ty : Nat} {pos : String} {af : Array Edge} {gd : Option (Nat × Bool)} {x : Operand} {n m k off e z i : Nat} {v : Value} {ds : List D} {d : D} {l : List UInt8} (hx : ev (⟨rs, os, fs⟩ : St) x = some (.val (.v (slAt v n m)))) (hi : os[i]? = some (.row v e z ds)) (hk : n = k * z + off ∧ ds[k]? = some d) (hs : d.sub off m true = some (.arr m l)) (hm : Nat.ble m 4096 = true) (hg : guardOf ops ⟨rs, os, fs⟩ ⟨some t, .convert 35 9 x, ty, pos, af, gd⟩ = some true) (hoff : offB N (some t) EE = true) (kk : EM N ops TT l' ⟨(t, .val (.v (.string (Go.Proofs.YtdhicdnmgmkpkaaGreat.bs l)))) :: rs, os, fs⟩ EE) : EM N ops TT (⟨some t, .convert 35 9 x, ty, pos, af, gd⟩ :: l') ⟨rs, os, fs⟩ EE := EH.still (g_strrow hm hk hs rfl hx i hi) hg rfl hoff kk
theorem H_strvar {t ty : Nat} {pos : String} {af : Array Edge} {gd : Option (Nat × Bool)} {x : Operand} {g n m i : Nat} {T : TypeId} {d : D} {l : List UInt8} (hx : ev (⟨rs, os, fs⟩ : St) x = some (.val (.v (.slice (some ⟨g, n, none⟩) m m)))) (hi : os[i]? = some (.var g T d)) (hs : d.sub n m true = some (.arr m l)) (hm : Nat.ble m 4096 = true) (hg : guardOf ops ⟨rs, os, fs⟩ ⟨some t, .convert 35 9 x, ty, pos, af, gd⟩ = some true) (hoff : offB N (some t) EE = true) (kk : EM N ops TT l' ⟨(t, .val (.v (.string (Go.Proofs.YtdhicdnmgmkpkaaGreat.bs l)))) :: rs, os, fs⟩ EE) : EM N ops TT (⟨some t, .convert 35 9 x, ty, pos, af, gd⟩ :: l') ⟨rs, os, fs⟩ EE := EH.still (g_strvar hm hs rfl hx i hi) hg rfl hoff kk
end
end E
end Go.Proofs.YtdhicdnmgmkpkaaGreat
