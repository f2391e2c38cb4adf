/-
  Merged (wip/tools/merge.py): SU7, SU8, SU9.
  Conditions: none.
-/
import Derived.Test.YtdhicdnmgmkpkaaGreatZC17
/-
  The program's state: its accounts, as a list.
  Conditions: none.
-/
namespace Go.Proofs.YtdhicdnmgmkpkaaGreat
set_option linter.unusedVariables false
open Go.RowKit Mono Rlp Wd Go.Sort
namespace E
theorem enters_c1 : ∀ args w, (callFunc 76 args).run Tryz.prog w = .ok (.enter 76 args) w := enters_of Tryz.func76 (by kernel_rfl) rfl
theorem enters_tc : ∀ args w, (callFunc 81 args).run Tryz.prog w = .ok (.enter 81 args) w := enters_of Tryz.func81 (by kernel_rfl) rfl
theorem perm_front {l rest p rest2 : List Obj} (h : rest.Perm (p ++ rest2)) : (l ++ rest).Perm (p ++ (l ++ rest2)) := by
  refine (List.Perm.append_left l h).trans ?_
  rw [← List.append_assoc, ← List.append_assoc]
  exact List.Perm.append_right _ List.perm_append_comm
set_option maxRecDepth 20000 in
set_option maxHeartbeats 16000000 in
theorem accounts0 {g m c M : Nat} {es : List Ent} {u k : Value} {n : Int} {us : List D} {ps : List PA} {A : As} (hi : PInv es ps A M) (hM : M ≤ 1000000) : FnM 21 [.v (ptr g)] (stO g m u k n :: smO m c es :: unO u us :: mkO k [] :: ps.flatMap PA.os) (fun r os' => (∃ L, Canon A L ∧ L.length ≤ M ∧ (∀ x ∈ L, x.sl.length ≤ M) ∧ r = .val (.sl 55 (L.map dAcL))) ∧ os' = stO g m u k n :: smO m c es :: unO u us :: mkO k [] :: ps.flatMap PA.os) := by
  have hlen := hi.len
  have h1 := keys_addr m
  have h2 := fun gk => sorted_addr 76 cmp_addr enters_c1 gk m c es (by omega)
  have hKl : (sortL (es.map (·.2.1))).length = es.length := by rw [(sortL_perm _).length_eq, List.length_map]
  have hKm : ∀ a, a ∈ sortL (es.map (·.2.1)) ↔ a ∈ es.map (·.2.1) := fun a => (sortL_perm _).mem_iff
  have hKo := sortL_lt hi.nod
  have hKc : ∀ a, A a ≠ Ac.zero → a ∈ sortL (es.map (·.2.1)) := fun a ha => (hKm a).2 (Classical.byContradiction fun hn => ha (hi.out a ((getE_none _ _).2 hn)))
  generalize hrest : ps.flatMap PA.os = rest
  generalize sortL (es.map (·.2.1)) = K at h2 hKl hKm hKo hKc
  have hml : (K.map (D.arr 20)).length = K.length := List.length_map _
  refine FnM.walk 75 Tryz.func21 rfl Tryz.ntmps21 (by simp) fun X => ?_
  repeat
    (first
     | (apply P_callM (os := []) h1; (iterate 2 exact rfl); exact RefineL.refl _ _; (focus (intro _ _; simp [go_sem]; done)); (iterate 2 exact rfl); rintro _ _ ⟨gk, rfl, rfl⟩)
     | (apply P_move; (iterate 3 exact rfl)) | (apply P_assign; (iterate 3 exact rfl)) | (apply P_field; (iterate 6 exact rfl))
     | (apply P_load; exact rfl; (first | exact I0 | exact I1 | exact I2 | exact I3 | exact I4 | exact I5 | exact I6); (iterate 4 exact rfl)) | (apply P_nilck; (iterate 3 exact rfl)) | apply EL.nil
     | ((with_reducible apply EK.then_normal); apply EK.code)
     | (with_reducible first | apply EC.seq | apply EC.region | apply EC.skip | apply EC.label | apply EC.block | apply EC.exit | apply EC.ret | apply EK.in_normal | apply EK.in_same | apply EK.in_ret | apply EK.then_ret | apply EK.then_exit))
  refine EL.le (Le.pickT [0, 2, 1, 3, 4] [_, _, _, _, _] [_, _, _, _, _] (rest) rfl rfl (by decide) rfl) ?_
  try simp only [List.cons_append, List.nil_append]
  repeat
    (first
     | (apply P_callM (os := [.var gk 106 (.v (.map (some m))), smO m c es]) (h2 gk); (iterate 2 exact rfl); exact RefineL.refl _ _; (focus (intro _ _; simp [go_sem]; done)); (iterate 2 exact rfl); rintro _ _ ⟨kv, rfl, rfl⟩; refine EL.le (Le.freeze (pre := []) rfl) ?_; refine EL.le (Le.refine (t := 15) (d' := .sl 20 (K.map (D.arr 20))) rfl (Rf.fact (by simp) rfl)) ?_; simp only [List.nil_append])
     | (apply P_move; (iterate 3 exact rfl)) | (apply P_lensl; (iterate 4 exact rfl)) | apply EL.nil | ((with_reducible apply EK.then_normal); apply EK.code)
     | (with_reducible first | apply EC.seq | apply EC.region | apply EC.skip | apply EC.label | apply EC.block | apply EC.exit | apply EC.ret | apply EK.in_normal | apply EK.in_same | apply EK.in_ret | apply EK.then_ret | apply EK.then_exit))
  refine EC.le (Le.pickT [2, 1, 3, 4, 0] [_, _, _, _, _] [_, _, _, _, _] (rest) rfl rfl (by decide) rfl) ?_
  try simp only [List.cons_append, List.nil_append]
  refine EC.le (Le.row 74 55) ?_
  refine EC.loop (ι := {x : Nat × List AcL × Value // x.1 ≤ K.length ∧ CU A (K.take x.1) x.2.1 ∧ x.2.1.length ≤ x.1 ∧ ∀ y ∈ x.2.1, y.sl.length ≤ M})
    (fun x => ⟨[(17, .val (.v (.int .i64 (x.1.1 : Int)))), (16, .val (.v (.int .i64 (K.map (D.arr 20)).length))), (15, .val (.sl 20 (K.map (D.arr 20)))), (3, .val (.v x.1.2.2)), (0, .val (.v (ptr g)))], .row x.1.2.2 74 55 (x.1.2.1.map dAcL) :: stO g m u k n :: smO m c es :: unO u us :: mkO k [] :: rest, []⟩)
    (fun x => K.length - x.1.1) ⟨(0, [], nilS), Nat.zero_le _, CU.nil, Nat.le_refl _, fun y hy => by simp at hy⟩ ?_ ?_
  · exact (Le.keep (by repeat first | exact trivial | refine ⟨rfl, ?_⟩) (by repeat first | exact List.Sublist.refl _ | apply List.Sublist.cons_cons | apply List.Sublist.cons) (by simp))
  rintro ⟨⟨i, L, v⟩, hiK, hCU, hLl, hsl⟩
  dsimp only at hiK hCU hLl hsl ⊢
  by_cases hlt : i < K.length
  · have hd : (K.map (D.arr 20))[i]? = some (D.arr 20 K[i]) := by rw [List.getElem?_map, List.getElem?_eq_getElem hlt]; rfl
    obtain ⟨d, hge⟩ := getE_some ((hKm K[i]).1 (List.getElem_mem hlt))
    obtain ⟨p, hp, rfl, his⟩ := hi.inn _ _ hge
    obtain ⟨ps1, ps2, rfl⟩ := List.append_of_mem hp
    have hg : (getE es K[i]).getD (.v (.pointer none)) = .v (ptr p.g) := by rw [hge]; rfl
    have hperm : rest.Perm (p.os ++ (ps1 ++ ps2).flatMap PA.os) := hrest ▸ flat_perm ps1 ps2 p
    generalize hrest2 : (ps1 ++ ps2).flatMap PA.os = rest2 at hperm
    have hsp := his.list K[i]
    have hse := his.sl
    have hempty := his.empty_iff
    have hem := empty_ p
    obtain ⟨pg, pn, pw, pc, pgs, psc, pss⟩ := p
    dsimp only at hg hsp hse
    refine EC.le (Le.perm (perm_front (l := [.row v 74 55 (L.map dAcL), stO g m u k n, smO m c es, unO u us, mkO k []]) hperm)) ?_
    simp only [PA.os, List.cons_append, List.nil_append]
    repeat
      (first
       | (apply P_loadpd; (iterate 5 exact rfl)) | (apply P_cmp (b := true); (iterate 2 exact rfl); (focus (first | (simp [cmpI]; done) | (simp [cmpI]; omega))); (iterate 2 exact rfl))
       | (apply P_index; (iterate 4 exact rfl); (focus (first | exact ⟨by decide, rfl⟩ | (refine ⟨by omega, ?_⟩; rw [Int.toNat_natCast]; assumption))); (iterate 2 exact rfl))
       | (apply P_alloc; exact rfl; exact rfl; exact rfl; intro _) | (apply P_store; exact rfl; (focus (repeat first | exact .z | apply SetAt.s | apply SetAtF.s)); (iterate 4 exact rfl)) | apply EL.nil
       | ((with_reducible apply EK.then_normal); apply EK.code) | (apply EC.cond_true; exact rfl)
       | (with_reducible first | apply EC.seq | apply EC.region | apply EC.skip | apply EC.label | apply EC.block | apply EC.exit | apply EC.ret | apply EK.in_normal | apply EK.in_same | apply EK.in_ret | apply EK.then_ret | apply EK.then_exit))
    rename_i g5
    refine EC.draw 6 (by kernel_rfl) ?_
    simp only [List.take_succ_cons, List.take_zero, List.drop_succ_cons, List.drop_zero]
    repeat
      (first
       | (apply H_lookup; exact hg; exact rfl; (first | exact I0 | exact I1 | exact I2 | exact I3 | exact I4 | exact I5); (iterate 5 exact rfl)) | (apply H_move; (iterate 3 exact rfl))
       | (apply H_field; (iterate 6 exact rfl)) | (apply H_load; exact rfl; (first | exact I0 | exact I1 | exact I2 | exact I3 | exact I4 | exact I5 | exact I6); (iterate 4 exact rfl))
       | (apply H_nilck; (iterate 3 exact rfl)) | ((with_reducible apply EH.nil); exact rfl))
    cases hpe : PA.empty ⟨pg, pn, pw, pc, pgs, psc, pss⟩ with
    | true =>
      rw [hpe] at hem
      repeat
        (first
         | (apply P_callAt hem [_] _ rfl rfl (RefineL.refl _ _) (by intro _ _; simp [go_sem]) rfl rfl; rintro _ _ ⟨rfl, rfl⟩; simp only [PA.os, List.cons_append, List.nil_append])
         | (apply P_move; (iterate 3 exact rfl)) | (apply P_assign; (iterate 3 exact rfl)) | (apply P_ar; (iterate 3 exact rfl); (focus omega); (focus omega); (iterate 2 exact rfl)) | apply EL.nil
         | ((with_reducible apply EK.then_normal); apply EK.code) | (apply EC.cond_true; exact rfl)
         | (with_reducible first | apply EC.seq | apply EC.region | apply EC.skip | apply EC.label | apply EC.block | apply EC.exit | apply EC.ret | apply EK.in_normal | apply EK.in_same | apply EK.in_ret | apply EK.then_ret | apply EK.then_exit))
      refine EK.le (Le.perm ((perm_front (l := [.row v 74 55 (L.map dAcL), stO g m u k n, smO m c es, unO u us, mkO k []]) hperm).symm.cons _)) ?_
      refine EK.again ⟨(i + 1, L, v), hlt, ?_, Nat.le_succ_of_le hLl, hsl⟩ (by dsimp only; omega) ?_
      · rw [List.take_succ_eq_append_getElem hlt]
        exact hCU.skip (hempty.1 hpe)
      · simp only [Int.natCast_add, List.cons_append, List.nil_append]
        exact (Le.keep (by repeat first | exact trivial | refine ⟨rfl, ?_⟩) (by repeat first | exact List.Sublist.refl _ | apply List.Sublist.cons_cons | apply List.Sublist.cons) (by simp))
    | false =>
      rw [hpe] at hem
      repeat
        (first
         | (apply P_callAt hem [_] _ rfl rfl (RefineL.refl _ _) (by intro _ _; simp [go_sem]) rfl rfl; rintro _ _ ⟨rfl, rfl⟩; simp only [PA.os, List.cons_append, List.nil_append])
         | (apply P_move; (iterate 3 exact rfl)) | (apply P_assign; (iterate 3 exact rfl)) | apply EL.nil | ((with_reducible apply EK.then_normal); apply EK.code) | (apply EC.cond_false; exact rfl)
         | (with_reducible first | apply EC.seq | apply EC.region | apply EC.skip | apply EC.label | apply EC.block | apply EC.exit | apply EC.ret | apply EK.in_normal | apply EK.in_same | apply EK.in_ret | apply EK.then_ret | apply EK.then_exit))
      have hcl := f_Clone pc his.cl
      refine EC.draw 16 (by kernel_rfl) ?_
      simp only [List.take_succ_cons, List.take_zero, List.drop_succ_cons, List.drop_zero]
      repeat
        (first
         | (apply H_call (hcl); exact rfl; (focus (repeat first | exact RefineL.refl _ _ | exact RL.nil | exact Rf.same | exact Rf.bs0 | exact Rf.sl0 | (apply Rf.fact; (focus (simp; done)); exact rfl) | apply Rf.tup | apply RL.cons)); (focus (intro _ _; simp [go_sem]; done)); (iterate 2 exact rfl))
         | (apply H_move; (iterate 3 exact rfl)) | (apply H_field; (iterate 6 exact rfl))
         | (apply H_load; exact rfl; (first | exact I0 | exact I1 | exact I2 | exact I3 | exact I4 | exact I5 | exact I6); (iterate 4 exact rfl)) | (apply H_build; (iterate 7 exact rfl))
         | (apply H_nilck; (iterate 3 exact rfl)) | (apply H_alloc; (iterate 3 exact rfl)) | ((with_reducible apply EH.nil1); exact rfl; intro _))
      have hpl := his.len
      dsimp only at hpl
      have h3 := keys_word pgs
      have h4 := fun gk => sorted_word 81 cmp_word enters_tc gk pgs psc pss (by omega)
      have hK2l : (sortL (pss.map (·.2.1))).length = pss.length := by rw [(sortL_perm _).length_eq, List.length_map]
      have hsx : slots (A K[i]) pss = (sortL (pss.map (·.2.1))).map fun k => (k, (A K[i]).sl k) := rfl
      generalize sortL (pss.map (·.2.1)) = K2 at h4 hK2l hsx
      have hm2 : (K2.map (D.arr 32)).length = K2.length := List.length_map _
      rename_i gy
      repeat
        (first
         | (apply P_callM (os := []) h3; (iterate 2 exact rfl); exact RefineL.refl _ _; (focus (intro _ _; simp [go_sem]; done)); (iterate 2 exact rfl); rintro _ _ ⟨gk2, rfl, rfl⟩; refine EL.le (Le.pickT [0, 4, 1, 2, 3] [_, _, _, _, _] [_, _, _, _, _] _ rfl rfl (by decide) rfl) ?_; simp only [List.cons_append, List.nil_append]; apply P_callM (os := [.var gk2 113 (.v (.map (some pgs))), .map pgs 32 psc pss]) (h4 gk2); (iterate 2 exact rfl); exact RefineL.refl _ _; (focus (intro _ _; simp [go_sem]; done)); (iterate 2 exact rfl); rintro _ _ ⟨kv2, rfl, rfl⟩; refine EL.le (Le.freeze (pre := []) rfl) ?_; refine EL.le (Le.refine (t := 49) (d' := .sl 32 (K2.map (D.arr 32))) rfl (Rf.fact (by simp) rfl)) ?_; simp only [List.nil_append])
         | (apply P_move; (iterate 3 exact rfl)) | (apply P_field; (iterate 6 exact rfl))
         | (apply P_load; exact rfl; (first | exact I0 | exact I1 | exact I2 | exact I3 | exact I4 | exact I5 | exact I6); (iterate 4 exact rfl)) | (apply P_lensl; (iterate 4 exact rfl))
         | (apply P_nilck; (iterate 3 exact rfl)) | (apply P_store; exact rfl; (focus (repeat first | exact .z | apply SetAt.s | apply SetAtF.s)); (iterate 4 exact rfl)) | apply EL.nil
         | ((with_reducible apply EK.then_normal); apply EK.code)
         | (with_reducible first | apply EC.seq | apply EC.region | apply EC.skip | apply EC.label | apply EC.block | apply EC.exit | apply EC.ret | apply EK.in_normal | apply EK.in_same | apply EK.in_ret | apply EK.then_ret | apply EK.then_exit))
      refine EC.le (Le.pickT [2, 1, 4, 0, 3] [_, _, _, _, _] [_, _, _, _, _] (_) rfl rfl (by decide) rfl) ?_
      try simp only [List.cons_append, List.nil_append]
      refine EC.le (Le.row 103 64) ?_
      refine EC.loop (ι := {x : Nat × Value // x.1 ≤ K2.length})
        (fun x => ⟨[(51, .val (.v (.int .i64 (x.1.1 : Int)))), (50, .val (.v (.int .i64 (K2.map (D.arr 32)).length))), (49, .val (.sl 32 (K2.map (D.arr 32)))), (17, .val (.v (.int .i64 (i : Int)))), (16, .val (.v (.int .i64 (K.map (D.arr 20)).length))), (15, .val (.sl 20 (K.map (D.arr 20)))), (7, .val (.v (ptr gy))), (6, .val (.v (ptr pg))), (3, .val (.v v)), (0, .val (.v (ptr g)))],
          .row x.1.2 103 64 ((K2.take x.1.1).map fun k => dSlL (k, (A K[i]).sl k)) :: .var gy 74 (.tup [.arr 20 K[i], .v (.int .i64 pn), .arr 32 pw, .bs pc, .v x.1.2]) :: .map pgs 32 psc pss :: acO pg pn pw pc (.map (some pgs)) :: .row v 74 55 (L.map dAcL) :: stO g m u k n :: smO m c es :: unO u us :: mkO k [] :: rest2, []⟩)
        (fun x => K2.length - x.1.1) ⟨(0, nilS), Nat.zero_le _⟩ ?_ ?_
      · exact (Le.keep (by repeat first | exact trivial | refine ⟨rfl, ?_⟩) (by repeat first | exact List.Sublist.refl _ | apply List.Sublist.cons_cons | apply List.Sublist.cons) (by simp))
      rintro ⟨⟨j, sv⟩, hjK⟩
      dsimp only at hjK ⊢
      by_cases hlj : j < K2.length
      · have hd2 : (K2.map (D.arr 32))[j]? = some (D.arr 32 K2[j]) := by rw [List.getElem?_map, List.getElem?_eq_getElem hlj]; rfl
        have hg2 : (getE pss K2[j]).getD (.arr 32 zero32) = .arr 32 ((A K[i]).sl K2[j]) := hse K2[j]
        repeat
          (first
           | (apply P_loadpd; (iterate 5 exact rfl)) | (apply P_cmp (b := true); (iterate 2 exact rfl); (focus (first | (simp [cmpI]; done) | (simp [cmpI]; omega))); (iterate 2 exact rfl))
           | (apply P_index; (iterate 4 exact rfl); (focus (first | exact ⟨by decide, rfl⟩ | (refine ⟨by omega, ?_⟩; rw [Int.toNat_natCast]; assumption))); (iterate 2 exact rfl))
           | (apply P_alloc; exact rfl; exact rfl; exact rfl; intro _) | (apply P_store; exact rfl; (focus (repeat first | exact .z | apply SetAt.s | apply SetAtF.s)); (iterate 4 exact rfl)) | apply EL.nil
           | ((with_reducible apply EK.then_normal); apply EK.code) | (apply EC.cond_true; exact rfl)
           | (with_reducible first | apply EC.seq | apply EC.region | apply EC.skip | apply EC.label | apply EC.block | apply EC.exit | apply EC.ret | apply EK.in_normal | apply EK.in_same | apply EK.in_ret | apply EK.then_ret | apply EK.then_exit))
        rename_i g9
        refine EC.le (Le.pickT [1, 0] [_, _] [_, _] (_) rfl rfl (by decide) rfl) ?_
        try simp only [List.cons_append, List.nil_append]
        refine EC.drawC 12 [0, 1, 2, 3, 4, 5, 6, 7, 8, 9] [10, 11] [_] _ (by kernel_rfl) (by kernel_rfl) rfl ?_
        simp only [pickL, List.filterMap_cons, List.filterMap_nil, List.getElem?_cons_zero, List.getElem?_cons_succ]
        repeat
          (first
           | (apply H_lookup; exact hg2; exact rfl; (first | exact I0 | exact I1 | exact I2 | exact I3 | exact I4 | exact I5); (iterate 5 exact rfl)) | (apply H_move; (iterate 3 exact rfl))
           | (apply H_field; (iterate 6 exact rfl)) | (apply H_load; exact rfl; (first | exact I0 | exact I1 | exact I2 | exact I3 | exact I4 | exact I5 | exact I6); (iterate 4 exact rfl))
           | (apply H_build; (iterate 7 exact rfl)) | (apply H_nilck; (iterate 3 exact rfl)))
        refine EM.nil ?_
        repeat (first | rw [List.cons_append] | rw [List.nil_append])
        refine CH.cut 1 ?_
        simp only [List.take_succ_cons, List.take_zero, List.drop_succ_cons, List.drop_zero]
        repeat
          (first
           | (apply H_lit; (iterate 9 exact rfl)))
        refine EM.nil ?_
        repeat (first | rw [List.cons_append] | rw [List.nil_append])
        have hl3 : ((K2.take j).map fun k => dSlL (k, (A K[i]).sl k)).length = j := by rw [List.length_map, List.length_take]; omega
        refine CH.mut (os := [_]) (rest := []) rfl rfl (m_append rfl rfl rfl rfl rfl ?_) ?_
        · rw [hl3]
          constructor <;> (simp; omega)
        rintro _ _ ⟨sv', rfl, rfl⟩
        try simp only [St.put]
        repeat (first | rw [List.cons_append] | rw [List.nil_append])
        refine CH.nil ?_
        try simp only [List.drop_succ_cons, List.drop_zero]
        repeat
          (first
           | (apply P_move; (iterate 3 exact rfl)) | (apply P_field; (iterate 6 exact rfl)) | (apply P_ar; (iterate 3 exact rfl); (focus omega); (focus omega); (iterate 2 exact rfl))
           | (apply P_store; exact rfl; (focus (repeat first | exact .z | apply SetAt.s | apply SetAtF.s)); (iterate 4 exact rfl)) | apply EL.nil | ((with_reducible apply EK.then_normal); apply EK.code)
           | (with_reducible first | apply EC.seq | apply EC.region | apply EC.skip | apply EC.label | apply EC.block | apply EC.exit | apply EC.ret | apply EK.in_normal | apply EK.in_same | apply EK.in_ret | apply EK.then_ret | apply EK.then_exit))
        refine EK.again ⟨(j + 1, sv'), hlj⟩ (by dsimp only; omega) ?_
        have htk : (K2.take (j + 1)).map (fun k => dSlL (k, (A K[i]).sl k)) = (K2.take j).map (fun k => dSlL (k, (A K[i]).sl k)) ++ [dSlL (K2[j], (A K[i]).sl K2[j])] := by rw [List.take_succ_eq_append_getElem hlj, List.map_append]; rfl
        dsimp only
        rw [htk]
        simp only [Int.natCast_add]
        exact (Le.keep (by repeat first | exact trivial | refine ⟨rfl, ?_⟩) (by repeat first | exact List.Sublist.refl _ | apply List.Sublist.cons_cons | apply List.Sublist.cons) (by simp))
      · have hjE : j = K2.length := by omega
        subst hjE
        refine EC.le (Le.freeze (pre := []) rfl) ?_
        simp only [List.nil_append]
        refine EC.le (Le.varR (d' := .tup [.arr 20 K[i], .v (.int .i64 pn), .arr 32 pw, .bs pc, .sl 64 ((K2.take K2.length).map fun k => dSlL (k, (A K[i]).sl k))]) (Rf.tup (RL.cons Rf.same (RL.cons Rf.same (RL.cons Rf.same (RL.cons Rf.same (RL.cons (Rf.fact (by simp) rfl) RL.nil))))))) ?_
        repeat
          (first
           | (apply P_move; (iterate 3 exact rfl)) | (apply P_assign; (iterate 3 exact rfl))
           | (apply P_load; exact rfl; (first | exact I0 | exact I1 | exact I2 | exact I3 | exact I4 | exact I5 | exact I6); (iterate 4 exact rfl))
           | (apply P_cmp (b := false); (iterate 2 exact rfl); (focus (first | (simp [cmpI]; done) | (simp [cmpI]; omega))); (iterate 2 exact rfl))
           | (apply P_ar; (iterate 3 exact rfl); (focus omega); (focus omega); (iterate 2 exact rfl)) | (apply P_lit; (iterate 9 exact rfl))
           | ((apply P_append; exact rfl; (focus (repeat first | exact .z | apply SetAt.s | apply SetAtF.s)); (iterate 5 exact rfl); (focus (constructor <;> (first | (simp; done) | (simp; omega))))); intro _)
           | apply EL.nil | ((with_reducible apply EK.then_normal); apply EK.code) | (apply EC.cond_false; exact rfl)
           | (with_reducible first | apply EC.seq | apply EC.region | apply EC.skip | apply EC.label | apply EC.block | apply EC.exit | apply EC.ret | apply EK.in_normal | apply EK.in_same | apply EK.in_ret | apply EK.then_ret | apply EK.then_exit))
        rename_i v'
        refine EK.le (Le.pickT [0, 2, 1] [_, _, _] [_, _, _] (_) rfl rfl (by decide) rfl) ?_
        try simp only [List.cons_append, List.nil_append]
        refine EK.le (Le.perm ((perm_front (l := [.row v' 74 55 (L.map dAcL ++ [.tup [.arr 20 K[i], .v (.int .i64 pn), .arr 32 pw, .bs pc, .sl 64 ((K2.take K2.length).map fun k => dSlL (k, (A K[i]).sl k))]]), stO g m u k n, smO m c es, unO u us, mkO k []]) hperm).symm.cons _)) ?_
        have hne : A K[i] ≠ Ac.zero := fun e => by
          have := hempty.2 e
          rw [hpe] at this
          cases this
        refine EK.again ⟨(i + 1, L ++ [⟨K[i], pn, pw, pc, slots (A K[i]) pss⟩], v'), hlt, ?_, ?_, ?_⟩ (by dsimp only; omega) ?_
        · rw [List.take_succ_eq_append_getElem hlt]
          refine hCU.take hsp hne fun b hb => ?_
          obtain ⟨j, hj, rfl⟩ := List.getElem_of_mem hb
          rw [List.length_take] at hj
          rw [List.getElem_take]
          exact List.pairwise_iff_getElem.1 hKo j i (by omega) hlt (by omega)
        · simp
          omega
        · intro y hy
          rcases List.mem_append.1 hy with hy | hy
          · exact hsl y hy
          · obtain rfl : y = _ := by simpa using hy
            show (slots (A K[i]) pss).length ≤ M
            rw [hsx, List.length_map, hK2l]
            exact hpl
        have hmp : (L ++ [(⟨K[i], pn, pw, pc, slots (A K[i]) pss⟩ : AcL)]).map dAcL = L.map dAcL ++ [.tup [.arr 20 K[i], .v (.int .i64 pn), .arr 32 pw, .bs pc, .sl 64 ((K2.take K2.length).map fun k => dSlL (k, (A K[i]).sl k))]] := by
          rw [List.map_append, List.take_length]
          simp only [List.map_cons, List.map_nil, dAcL]
          rw [hsx, List.map_map]
          rfl
        dsimp only
        rw [hmp]
        simp only [Int.natCast_add, List.cons_append, List.nil_append]
        exact (Le.keep (by repeat first | exact trivial | refine ⟨rfl, ?_⟩) (by repeat first | exact List.Sublist.refl _ | apply List.Sublist.cons_cons | apply List.Sublist.cons) (by simp))
  · have hiE : i = K.length := by omega
    subst hiE
    repeat
      (first
       | (apply P_move; (iterate 3 exact rfl)) | (apply P_assign; (iterate 3 exact rfl))
       | (apply P_cmp (b := false); (iterate 2 exact rfl); (focus (first | (simp [cmpI]; done) | (simp [cmpI]; omega))); (iterate 2 exact rfl)) | apply EL.nil
       | ((with_reducible apply EK.then_normal); apply EK.code) | (apply EC.cond_false; exact rfl)
       | (with_reducible first | apply EC.seq | apply EC.region | apply EC.skip | apply EC.label | apply EC.block | apply EC.exit | apply EC.ret | apply EK.in_normal | apply EK.in_same | apply EK.in_ret | apply EK.then_ret | apply EK.then_exit))
    refine EK.le (Le.freeze (pre := []) rfl) ?_
    refine EK.retM1k (stO g m u k n :: smO m c es :: unO u us :: mkO k [] :: rest) rfl rfl (RL.cons (Rf.fact (by simp) rfl) RL.nil) (by repeat first | exact List.Sublist.refl _ | apply List.Sublist.cons_cons | apply List.Sublist.cons) ⟨⟨L, ?_, by omega, hsl, rfl⟩, rfl⟩
    rw [List.take_length] at hCU
    exact hCU.canon hKc
theorem ps_accounts {g N : Nat} {A : As} {os : List Obj} (h : PSt g A N os) (hN : N ≤ 1000000) : FnM 21 [.v (ptr g)] os (fun r os' => (∃ L, Canon A L ∧ L.length ≤ N ∧ (∀ x ∈ L, x.sl.length ≤ N) ∧ r = .val (.sl 55 (L.map dAcL))) ∧ os' = os) := by
  obtain ⟨m, c, es, u, k, n, us, ps, rfl, hi, hu⟩ := h
  exact accounts0 hi hN
end E
end Go.Proofs.YtdhicdnmgmkpkaaGreat
/-
  The program's state: made of accounts.
  Conditions: none.
-/
namespace Go.Proofs.YtdhicdnmgmkpkaaGreat
set_option linter.unusedVariables false
open Go.RowKit Mono Rlp Wd Go.Sort
namespace E
def slF (sl : List (List UInt8 × List UInt8)) : List UInt8 → List UInt8 := sl.foldl (fun f p => fun k => if p.1 = k then p.2 else f k) fun _ => zero32
def AcL.take (x : AcL) : Ac := ⟨if x.n > 0 then x.n else 0, x.w, x.cd, slF x.sl⟩
def newA (l : List AcL) : As := l.foldl (fun A x => A.upd x.a x.take) fun _ => Ac.zero
theorem newA_snoc (l : List AcL) (x : AcL) : newA (l ++ [x]) = (newA l).upd x.a x.take := by unfold newA; rw [List.foldl_append]; rfl
theorem slF_snoc (l : List (List UInt8 × List UInt8)) (p : List UInt8 × List UInt8) : slF (l ++ [p]) = fun k => if p.1 = k then p.2 else slF l k := by unfold slF; rw [List.foldl_append]; rfl
structure SlIs (ss : List Ent) (f : List UInt8 → List UInt8) (N : Nat) : Prop where
  sl : ∀ k, slE ss k = .arr 32 (f k)
  ent : ∀ e ∈ ss, ∃ v, e.2.2 = .arr 32 v ∧ v ≠ zero32
  nod : (ss.map (·.2.1)).Nodup
  len : ss.length ≤ N
theorem SlIs.nil : SlIs [] (slF []) 0 := ⟨fun k => rfl, fun e he => by simp at he, List.nodup_nil, Nat.le_refl _⟩
theorem set_any {ga gs sc N : Nat} {b : Int} {w cd : List UInt8} {ss : List Ent} {f : List UInt8 → List UInt8} (h : SlIs ss f N) (q v : List UInt8) : FnM 60 [.v (ptr ga), .arr 32 q, .arr 32 v] [acO ga b w cd (.map (some gs)), .map gs 32 sc ss] (fun r os' => r = .tpl [] ∧ ∃ sc' ss', SlIs ss' (fun k => if q = k then v else f k) (N + 1) ∧ os' = [acO ga b w cd (.map (some gs)), .map gs 32 sc' ss']) := by
  by_cases hv : v = zero32
  · subst hv
    refine FnM.mono set_del ?_
    rintro r _ ⟨rfl, rfl⟩
    refine ⟨rfl, sc, _, ⟨fun k => ?_, fun e he => h.ent e ((delE_sub _ _).subset he), h.nod.sublist ((delE_sub _ _).map _), Nat.le_trans (delE_length _ _) (Nat.le_succ_of_le h.len)⟩, rfl⟩
    rw [slE_del _ _ _ h.nod, h.sl k]
    split <;> rfl
  · refine FnM.mono (set_put (by simpa using hv)) ?_
    rintro r _ ⟨rfl, rfl⟩
    refine ⟨rfl, _, _, ⟨fun k => ?_, fun e he => ?_, putE_nodup _ _ _ _ h.nod, Nat.le_trans (putE_length _ _ _ _) (Nat.succ_le_succ h.len)⟩, rfl⟩
    · rw [slE_put, h.sl k]
      split <;> rfl
    · rcases mem_putE _ _ _ _ _ he with he | he
      · exact h.ent e he
      · exact ⟨v, he, hv⟩
theorem EK.apart {N : Nat} {X : Cx N} {K : Act → World → Prop} {S : St} (h : Apart S.objs → EK X K S) : EK X K S := ⟨fun a w ha => (h ha.mem.apart).go a w ha⟩
set_option maxRecDepth 20000 in
set_option maxHeartbeats 16000000 in
theorem new0 (l : List AcL) (B : Nat) (hll : l.length ≤ 1000000) (hB : ∀ x ∈ l, x.sl.length ≤ B ∧ x.cd.length ≤ 140737488355328) (hB2 : B ≤ 1000000) : FnM 13 [.sl 55 (l.map dAcL)] [] (fun r os' => ∃ g, r = .val (.v (ptr g)) ∧ PSt g (newA l) (B + l.length) os') := by
  have hml : (l.map dAcL).length = l.length := List.length_map _
  refine FnM.walk 52 Tryz.func13 rfl Tryz.ntmps13 (by simp) fun X => ?_
  repeat
    (first
     | (apply P_move; (iterate 3 exact rfl)) | (apply P_assign; (iterate 3 exact rfl)) | (apply P_lensl; (iterate 4 exact rfl)) | (apply P_build; (iterate 7 exact rfl))
     | (apply P_makeMap; exact rfl; exact rfl; exact rfl; intro _) | (apply P_box; exact rfl; exact rfl; exact rfl; intro _) | apply EL.nil | ((with_reducible apply EK.then_normal); apply EK.code)
     | (with_reducible first | apply EC.seq | apply EC.region | apply EC.skip | apply EC.label | apply EC.block | apply EC.exit | apply EC.ret | apply EK.in_normal | apply EK.in_same | apply EK.in_ret | apply EK.then_ret | apply EK.then_exit))
  rename_i m g
  refine EC.loop (ι := {x : Nat × Nat × List Ent × List PA // x.1 ≤ l.length ∧ PInv x.2.2.1 x.2.2.2 (newA (l.take x.1)) (B + x.1)})
    (fun x => ⟨[(14, .val (.v (.int .i64 (x.1.1 : Int)))), (13, .val (.v (.int .i64 (l.map dAcL).length))), (12, .val (.sl 55 (l.map dAcL))), (3, .val (.v (ptr g)))], stO g m nilS nilS 0 :: smO m x.1.2.1 x.1.2.2.1 :: x.1.2.2.2.flatMap PA.os, []⟩)
    (fun x => l.length - x.1.1) ⟨(0, 0, [], []), Nat.zero_le _, ⟨fun a h => rfl, fun a d h => by simp [getE] at h, fun a b d h => by simp [getE] at h, List.nodup_nil, Nat.zero_le _⟩⟩ ?_ ?_
  · exact (Le.keep (by repeat first | exact trivial | refine ⟨rfl, ?_⟩) (by repeat first | exact List.Sublist.refl _ | apply List.Sublist.cons_cons | apply List.Sublist.cons) (by simp))
  rintro ⟨⟨i, c, es, ps⟩, hil, hi⟩
  dsimp only at hil hi ⊢
  by_cases hlt : i < l.length
  · have hd : (l.map dAcL)[i]? = some (dAcL l[i]) := by rw [List.getElem?_map, List.getElem?_eq_getElem hlt]; rfl
    have hBi := hB l[i] (List.getElem_mem hlt)
    have htk : l.take (i + 1) = l.take i ++ [l[i]] := List.take_succ_eq_append_getElem hlt
    generalize l[i] = x at hd hBi htk
    obtain ⟨xa, xn, xw, xc, xs⟩ := x
    unfold dAcL at hd
    dsimp only at hd hBi
    have hcl := f_Clone xc hBi.2
    repeat
      (first
       | (apply P_loadpd; (iterate 5 exact rfl)) | (apply P_cmp (b := true); (iterate 2 exact rfl); (focus (first | (simp [cmpI]; done) | (simp [cmpI]; omega))); (iterate 2 exact rfl))
       | (apply P_index; (iterate 4 exact rfl); (focus (first | exact ⟨by decide, rfl⟩ | (refine ⟨by omega, ?_⟩; rw [Int.toNat_natCast]; assumption))); (iterate 2 exact rfl))
       | (apply P_alloc; exact rfl; exact rfl; exact rfl; intro _) | (apply P_store; exact rfl; (focus (repeat first | exact .z | apply SetAt.s | apply SetAtF.s)); (iterate 4 exact rfl)) | apply EL.nil
       | ((with_reducible apply EK.then_normal); apply EK.code) | (apply EC.cond_true; exact rfl)
       | (with_reducible first | apply EC.seq | apply EC.region | apply EC.skip | apply EC.label | apply EC.block | apply EC.exit | apply EC.ret | apply EK.in_normal | apply EK.in_same | apply EK.in_ret | apply EK.then_ret | apply EK.then_exit))
    rename_i g5
    refine EC.drawC 11 [0, 1, 2, 3, 4, 5, 6, 7] [8, 9, 10] [] _ (by kernel_rfl) (by kernel_rfl) rfl ?_
    simp only [pickL, List.filterMap_cons, List.filterMap_nil, List.getElem?_cons_zero, List.getElem?_cons_succ]
    repeat
      (first
       | (apply H_call (hcl); exact rfl; (focus (repeat first | exact RefineL.refl _ _ | exact RL.nil | exact Rf.same | exact Rf.bs0 | exact Rf.sl0 | (apply Rf.fact; (focus (simp; done)); exact rfl) | apply Rf.tup | apply RL.cons)); (focus (intro _ _; simp [go_sem]; done)); (iterate 2 exact rfl))
       | (apply H_field; (iterate 6 exact rfl)) | (apply H_load; exact rfl; (first | exact I0 | exact I1 | exact I2 | exact I3 | exact I4 | exact I5 | exact I6); (iterate 4 exact rfl))
       | (apply H_max; (iterate 4 exact rfl)))
    refine EM.nil ?_
    repeat (first | rw [List.cons_append] | rw [List.nil_append])
    refine CH.mut (os := []) (rest := []) rfl rfl (m_makeMap rfl rfl) ?_
    rintro _ _ ⟨gs, rfl, rfl⟩
    try simp only [St.put]
    repeat (first | rw [List.cons_append] | rw [List.nil_append])
    refine CH.cut 1 ?_
    simp only [List.take_succ_cons, List.take_zero, List.drop_succ_cons, List.drop_zero]
    repeat
      (first
       | (apply H_build; (iterate 7 exact rfl)))
    refine EM.nil ?_
    repeat (first | rw [List.cons_append] | rw [List.nil_append])
    refine CH.mut (os := []) (rest := [_]) rfl rfl (m_box rfl rfl) ?_
    rintro _ _ ⟨gx, rfl, rfl⟩
    try simp only [St.put]
    repeat (first | rw [List.cons_append] | rw [List.nil_append])
    refine CH.nil ?_
    try simp only [List.drop_succ_cons, List.drop_zero]
    repeat
      (first
       | (apply P_move; (iterate 3 exact rfl)) | (apply P_assign; (iterate 3 exact rfl)) | (apply P_field; (iterate 6 exact rfl))
       | (apply P_load; exact rfl; (first | exact I0 | exact I1 | exact I2 | exact I3 | exact I4 | exact I5 | exact I6); (iterate 4 exact rfl)) | (apply P_lensl; (iterate 4 exact rfl)) | apply EL.nil
       | ((with_reducible apply EK.then_normal); apply EK.code)
       | (with_reducible first | apply EC.seq | apply EC.region | apply EC.skip | apply EC.label | apply EC.block | apply EC.exit | apply EC.ret | apply EK.in_normal | apply EK.in_same | apply EK.in_ret | apply EK.then_ret | apply EK.then_exit))
    have hmx : (xs.map dSlL).length = xs.length := List.length_map _
    refine EC.loop (ι := {x : Nat × Nat × List Ent // x.1 ≤ xs.length ∧ SlIs x.2.2 (slF (xs.take x.1)) x.1})
      (fun x => ⟨[(32, .val (.v (.int .i64 (x.1.1 : Int)))), (31, .val (.v (.int .i64 (xs.map dSlL).length))), (30, .val (.sl 64 (xs.map dSlL))), (14, .val (.v (.int .i64 (i : Int)))), (13, .val (.v (.int .i64 (l.map dAcL).length))), (12, .val (.sl 55 (l.map dAcL))), (6, .val (.v (ptr gx))), (5, .val (.v (ptr g5))), (3, .val (.v (ptr g)))], acO gx (if xn > 0 then xn else 0) xw xc (.map (some gs)) :: .map gs 32 x.1.2.1 x.1.2.2 :: .var g5 74 (.tup [.arr 20 xa, .v (.int .i64 xn), .arr 32 xw, .bs xc, .sl 64 (xs.map dSlL)]) :: stO g m nilS nilS 0 :: smO m c es :: ps.flatMap PA.os, []⟩)
      (fun x => xs.length - x.1.1) ⟨(0, 0, []), Nat.zero_le _, SlIs.nil⟩ ?_ ?_
    · exact (Le.keep (by repeat first | exact trivial | refine ⟨rfl, ?_⟩) (by repeat first | exact List.Sublist.refl _ | apply List.Sublist.cons_cons | apply List.Sublist.cons) (by simp))
    rintro ⟨⟨j, sc, ss⟩, hjl, hss⟩
    dsimp only at hjl hss ⊢
    by_cases hlj : j < xs.length
    · have hd2 : (xs.map dSlL)[j]? = some (dSlL xs[j]) := by rw [List.getElem?_map, List.getElem?_eq_getElem hlj]; rfl
      have htk2 : xs.take (j + 1) = xs.take j ++ [xs[j]] := List.take_succ_eq_append_getElem hlj
      generalize xs[j] = y at hd2 htk2
      obtain ⟨q, v⟩ := y
      unfold dSlL at hd2
      dsimp only at hd2
      have hset := set_any (ga := gx) (gs := gs) (sc := sc) (b := if xn > 0 then xn else 0) (w := xw) (cd := xc) hss q v
      repeat
        (first
         | (apply P_callAt hset [_] _ rfl rfl (RefineL.refl _ _) (by intro _ _; simp [go_sem]) rfl rfl; rintro _ _ ⟨rfl, sc', ss', hss', rfl⟩; simp only [List.cons_append, List.nil_append])
         | (apply P_move; (iterate 3 exact rfl)) | (apply P_field; (iterate 6 exact rfl)) | (apply P_loadpd; (iterate 5 exact rfl))
         | (apply P_load; exact rfl; (first | exact I0 | exact I1 | exact I2 | exact I3 | exact I4 | exact I5 | exact I6); (iterate 4 exact rfl))
         | (apply P_cmp (b := true); (iterate 2 exact rfl); (focus (first | (simp [cmpI]; done) | (simp [cmpI]; omega))); (iterate 2 exact rfl))
         | (apply P_ar; (iterate 3 exact rfl); (focus omega); (focus omega); (iterate 2 exact rfl))
         | (apply P_index; (iterate 4 exact rfl); (focus (first | exact ⟨by decide, rfl⟩ | (refine ⟨by omega, ?_⟩; rw [Int.toNat_natCast]; assumption))); (iterate 2 exact rfl))
         | (apply P_alloc; exact rfl; exact rfl; exact rfl; intro _) | (apply P_store; exact rfl; (focus (repeat first | exact .z | apply SetAt.s | apply SetAtF.s)); (iterate 4 exact rfl)) | apply EL.nil
         | ((with_reducible apply EK.then_normal); apply EK.code) | (apply EC.cond_true; exact rfl)
         | (with_reducible first | apply EC.seq | apply EC.region | apply EC.skip | apply EC.label | apply EC.block | apply EC.exit | apply EC.ret | apply EK.in_normal | apply EK.in_same | apply EK.in_ret | apply EK.then_ret | apply EK.then_exit))
      refine EK.again ⟨(j + 1, sc', ss'), hlj, by rw [htk2, slF_snoc]; exact hss'⟩ (by dsimp only; omega) ?_
      simp only [Int.natCast_add]
      exact (Le.keep (by repeat first | exact trivial | refine ⟨rfl, ?_⟩) (by repeat first | exact List.Sublist.refl _ | apply List.Sublist.cons_cons | apply List.Sublist.cons) (by simp))
    · have hjE : j = xs.length := by omega
      subst hjE
      rw [List.take_length] at hss
      repeat
        (first
         | (apply P_cmp (b := false); (iterate 2 exact rfl); (focus (first | (simp [cmpI]; done) | (simp [cmpI]; omega))); (iterate 2 exact rfl)) | apply EL.nil
         | ((with_reducible apply EK.then_normal); apply EK.code) | (apply EC.cond_false; exact rfl)
         | (with_reducible first | apply EC.seq | apply EC.region | apply EC.skip | apply EC.label | apply EC.block | apply EC.exit | apply EC.ret | apply EK.in_normal | apply EK.in_same | apply EK.in_ret | apply EK.then_ret | apply EK.then_exit))
      refine EC.draw 7 (by kernel_rfl) ?_
      simp only [List.take_succ_cons, List.take_zero, List.drop_succ_cons, List.drop_zero]
      repeat
        (first
         | (apply H_move; (iterate 3 exact rfl)) | (apply H_field; (iterate 6 exact rfl))
         | (apply H_load; exact rfl; (first | exact I0 | exact I1 | exact I2 | exact I3 | exact I4 | exact I5 | exact I6); (iterate 4 exact rfl)) | (apply H_nilck; (iterate 3 exact rfl))
         | ((with_reducible apply EH.nil); exact rfl))
      repeat
        (first
         | (apply P_move; (iterate 3 exact rfl)) | (apply P_ar; (iterate 3 exact rfl); (focus omega); (focus omega); (iterate 2 exact rfl))
         | (apply P_mapUpd; exact rfl; (focus (repeat first | exact .z | apply SetAt.s | apply SetAtF.s)); (iterate 4 exact rfl)) | apply EL.nil | ((with_reducible apply EK.then_normal); apply EK.code)
         | (with_reducible first | apply EC.seq | apply EC.region | apply EC.skip | apply EC.label | apply EC.block | apply EC.exit | apply EC.ret | apply EK.in_normal | apply EK.in_same | apply EK.in_ret | apply EK.then_ret | apply EK.then_exit))
      refine EK.le (Le.pickT [3, 4, 0, 1, 2] [_, _, _, _, _] [_, _, _, _, _] (_) rfl rfl (by decide) rfl) ?_
      try simp only [List.cons_append, List.nil_append]
      refine EK.apart fun hap => ?_
      have hnew : ∀ q ∈ ps, q.g ≠ gx := fun q hq e => by
        have hap' : Apart (stO g m nilS nilS 0 :: smO m (tickE c es xa) (putE c es xa (.v (ptr gx))) :: acO gx (if xn > 0 then xn else 0) xw xc (.map (some gs)) :: .map gs 32 sc ss :: .var g5 74 (.tup [.arr 20 xa, .v (.int .i64 xn), .arr 32 xw, .bs xc, .sl 64 (xs.map dSlL)]) :: ps.flatMap PA.os) := hap
        have h1 := (List.pairwise_cons.1 (List.pairwise_cons.1 (List.pairwise_cons.1 hap').2).2).1 (acO q.g q.n q.w q.cd (.map (some q.gs))) (List.mem_cons_of_mem _ (List.mem_cons_of_mem _ (List.mem_flatMap.2 ⟨q, hq, by simp [PA.os]⟩))) gx rfl
        exact h1 (by simp [Obj.blk, e])
      refine EK.again ⟨(i + 1, tickE c es xa, putE c es xa (.v (ptr gx)), ⟨gx, if xn > 0 then xn else 0, xw, xc, gs, sc, ss⟩ :: ps), hlt, ?_⟩ (by dsimp only; omega) ?_
      · rw [htk, newA_snoc]
        exact hi.fresh (a := xa) (p' := ⟨gx, if xn > 0 then xn else 0, xw, xc, gs, sc, ss⟩) (x := AcL.take ⟨xa, xn, xw, xc, xs⟩) (fun b => getE_putE c es xa b _) (putE_nodup _ _ _ _ hi.nod) (Nat.le_trans (putE_length _ _ _ _) (Nat.succ_le_succ hi.len)) ⟨rfl, rfl, rfl, hss.sl, hss.ent, hss.nod, by have := hss.len; dsimp only; omega, hBi.2⟩ hnew
      · simp only [Int.natCast_add, List.flatMap_cons, PA.os, List.cons_append, List.nil_append]
        exact (Le.keep (by repeat first | exact trivial | refine ⟨rfl, ?_⟩) (by repeat first | exact List.Sublist.refl _ | apply List.Sublist.cons_cons | apply List.Sublist.cons) (by simp))
  · have hiE : i = l.length := by omega
    subst hiE
    rw [List.take_length] at hi
    repeat
      (first
       | (apply P_move; (iterate 3 exact rfl)) | (apply P_assign; (iterate 3 exact rfl))
       | (apply P_cmp (b := false); (iterate 2 exact rfl); (focus (first | (simp [cmpI]; done) | (simp [cmpI]; omega))); (iterate 2 exact rfl)) | apply EL.nil
       | ((with_reducible apply EK.then_normal); apply EK.code) | (apply EC.cond_false; exact rfl)
       | (with_reducible first | apply EC.seq | apply EC.region | apply EC.skip | apply EC.label | apply EC.block | apply EC.exit | apply EC.ret | apply EK.in_normal | apply EK.in_same | apply EK.in_ret | apply EK.then_ret | apply EK.then_exit))
    refine EK.le (Le.row 128 1) ?_
    refine EK.le (Le.row 121 2) ?_
    refine EK.le (Le.pickT [2, 3, 1, 0] [_, _, _, _] [_, _, _, _] (_) rfl rfl (by decide) rfl) ?_
    try simp only [List.cons_append, List.nil_append]
    exact EK.retM1s (psO g m c es nilS nilS 0 [] ps) rfl rfl (List.Sublist.refl _) ⟨g, rfl, m, c, es, nilS, nilS, 0, [], ps, rfl, hi, by decide⟩
end E
end Go.Proofs.YtdhicdnmgmkpkaaGreat
/-
  The program's snap.Apply: changes of accounts.
  Conditions: none.
-/
namespace Go.Proofs.YtdhicdnmgmkpkaaGreat
set_option linter.unusedVariables false
open Go.RowKit Mono Rlp Wd Go.Sort
namespace E
section
variable {N : Nat} {X : Cx N} {ops : Array Oper} {Q : Exit → Act → World → Prop}
theorem P_callT {l' : List Oper} {t ty f : Nat} {pos : String} {af : Array Edge} {gd : Option (Nat × Bool)} {args : Array Operand} {tys : Array TypeId} {ds ds' : List D} {Φ : R → List Obj → Prop} {rs : List (Tmp × R)} {os os0 : List Obj} {fs : List (Value × D)} (hF : FnM f ds' os Φ) (l1 : List Obj) (hos : os0 = l1 ++ os)
    (hx : evs (⟨rs, l1, fs⟩ : St) args.toList = some ds) (hR : RefineL fs ds ds') (hf : Enters f) (hg : guardOf ops ⟨rs, os ++ l1, fs⟩ ⟨some t, .call { callee := .value (.func f), args := args, argTypes := tys }, ty, pos, af, gd⟩ = some true) (hN : Nat.blt t N = true) (k : ∀ r os', Φ r os' → EL X ops Q l' ⟨(t, r) :: rs, l1 ++ os', fs⟩) : EL X ops Q (⟨some t, .call { callee := .value (.func f), args := args, argTypes := tys }, ty, pos, af, gd⟩ :: l') ⟨rs, os0, fs⟩ := by
  subst hos
  exact EL.le (Le.perm List.perm_append_comm) (P_callM hF rfl hx hR hf hg hN fun r os' h => EL.le (Le.perm List.perm_append_comm) (k r os' h))
end
theorem PA.Is.mono {p : PA} {x : Ac} {N M : Nat} (h : p.Is x N) (hm : N ≤ M) : p.Is x M := ⟨h.n, h.w, h.cd, h.sl, h.ent, h.nod, Nat.le_trans h.len hm, h.cl⟩
theorem PSt.mono {g N M : Nat} {A : As} {os : List Obj} (h : PSt g A N os) (hm : N ≤ M) : PSt g A M os := by
  obtain ⟨m, c, es, u, k, n, us, ps, h1, hi, hu⟩ := h
  exact ⟨m, c, es, u, k, n, us, ps, h1, ⟨hi.out, fun a d h => by obtain ⟨p, h1, h2, h3⟩ := hi.inn a d h; exact ⟨p, h1, h2, h3.mono hm⟩, hi.inj, hi.nod, Nat.le_trans hi.len hm⟩, hu⟩
structure ChL where
  a : List UInt8
  gone : Bool
  n : Int
  w : List UInt8
  cd : List UInt8
  sl : List (List UInt8 × List UInt8)
def dChL (c : ChL) : D := .tup [.arr 20 c.a, .v (.bool c.gone), .v (.int .i64 c.n), .arr 32 c.w, .bs c.cd, .sl 64 (c.sl.map dSlL)]
def ChL.base (c : ChL) (A : As) : As :=
  let A1 := if c.gone = true then A.upd c.a Ac.zero else A
  let A2 := A1.upd c.a {A1 c.a with n := if c.n > 0 then c.n else 0}
  let A3 := A2.upd c.a {A2 c.a with w := c.w}
  A3.upd c.a {A3 c.a with cd := c.cd}
def slots1 (a : List UInt8) (sl : List (List UInt8 × List UInt8)) (A : As) : As := sl.foldl (fun A p => A.upd a ((A a).slot p.1 p.2)) A
def ChL.of (c : ChL) (A : As) : As := slots1 c.a c.sl (c.base A)
theorem slots1_snoc (a : List UInt8) (sl : List (List UInt8 × List UInt8)) (p : List UInt8 × List UInt8) (A : As) : slots1 a (sl ++ [p]) A = (slots1 a sl A).upd a ((slots1 a sl A a).slot p.1 p.2) := by unfold slots1; rw [List.foldl_append]; rfl
set_option maxRecDepth 20000 in
set_option maxHeartbeats 16000000 in
theorem apply1 {g N : Nat} {A : As} {os : List Obj} (h : PSt g A N os) (c : ChL) (hc : c.cd.length ≤ 140737488355328) (hs : c.sl.length ≤ 1000000) : FnM 101 [.v (ptr g), dChL c] os (fun r os' => r = .tpl [] ∧ PSt g (c.of A) (N + 4 + c.sl.length) os') := by
  obtain ⟨ca, cg, cn, cw, cc, cs⟩ := c
  dsimp only at hc hs
  have hml : (cs.map dSlL).length = cs.length := List.length_map _
  unfold dChL ChL.of
  dsimp only
  refine FnM.walk 46 Tryz.func101 rfl Tryz.ntmps101 (by simp) fun X => ?_
  cases cg with
  | true =>
    repeat
      (first
       | (apply P_callT (ps_kill h (a := ca)) [_] rfl rfl (RefineL.refl _ _) (by intro _ _; simp [go_sem]) rfl rfl; rintro _ os1 ⟨rfl, h1⟩; simp only [List.cons_append, List.nil_append])
       | (apply P_callT (ps_setNonce h1 (a := ca) cn) [_] rfl rfl (RefineL.refl _ _) (by intro _ _; simp [go_sem]) rfl rfl; rintro _ os2 ⟨rfl, h2⟩; simp only [List.cons_append, List.nil_append])
       | (apply P_callT (ps_setBalance h2 (a := ca) cw) [_] rfl rfl (RefineL.refl _ _) (by intro _ _; simp [go_sem]) rfl rfl; rintro _ os3 ⟨rfl, h3⟩; simp only [List.cons_append, List.nil_append])
       | (apply P_callT (ps_setCode h3 (a := ca) cc hc) [_] rfl rfl (RefineL.refl _ _) (by intro _ _; simp [go_sem]) rfl rfl; rintro _ os4 ⟨rfl, h4⟩; simp only [List.cons_append, List.nil_append])
       | (apply P_move; (iterate 3 exact rfl)) | (apply P_field; (iterate 6 exact rfl))
       | (apply P_load; exact rfl; (first | exact I0 | exact I1 | exact I2 | exact I3 | exact I4 | exact I5 | exact I6); (iterate 4 exact rfl)) | (apply P_lensl; (iterate 4 exact rfl))
       | (apply P_box; exact rfl; exact rfl; exact rfl; intro _) | apply EL.nil | ((with_reducible apply EK.then_normal); apply EK.code) | (apply EC.cond_true; exact rfl)
       | (with_reducible first | apply EC.seq | apply EC.region | apply EC.skip | apply EC.label | apply EC.block | apply EC.exit | apply EC.ret | apply EK.in_normal | apply EK.in_same | apply EK.in_ret | apply EK.then_ret | apply EK.then_exit))
    have h5 : PSt g (ChL.base ⟨ca, true, cn, cw, cc, cs⟩ A) (N + 4) os4 := h4
    generalize ChL.base ⟨ca, true, cn, cw, cc, cs⟩ A = A4 at h5 ⊢
    clear h1 h2 h3 h4
    rename_i g3
    refine EC.loop (ι := {x : Nat × List Obj // x.1 ≤ cs.length ∧ PSt g (slots1 ca (cs.take x.1) A4) (N + 4 + x.1) x.2})
      (fun x => ⟨[(33, .val (.v (.int .i64 (x.1.1 : Int)))), (32, .val (.v (.int .i64 (cs.map dSlL).length))), (31, .val (.sl 64 (cs.map dSlL))), (3, .val (.v (ptr g3))), (0, .val (.v (ptr g)))], .var g3 150 (.tup [.arr 20 ca, .v (.bool true), .v (.int .i64 cn), .arr 32 cw, .bs cc, .sl 64 (cs.map dSlL)]) :: x.1.2, []⟩)
      (fun x => cs.length - x.1.1) ⟨(0, os4), Nat.zero_le _, h5⟩ ?_ ?_
    · exact (Le.keep (by repeat first | exact trivial | refine ⟨rfl, ?_⟩) (by repeat first | exact List.Sublist.refl _ | apply List.Sublist.cons_cons | apply List.Sublist.cons) (by simp))
    rintro ⟨⟨j, os5⟩, hjl, h6⟩
    dsimp only at hjl h6 ⊢
    by_cases hlj : j < cs.length
    · have hd2 : (cs.map dSlL)[j]? = some (dSlL cs[j]) := by rw [List.getElem?_map, List.getElem?_eq_getElem hlj]; rfl
      have htk2 : cs.take (j + 1) = cs.take j ++ [cs[j]] := List.take_succ_eq_append_getElem hlj
      generalize cs[j] = y at hd2 htk2
      obtain ⟨q, v⟩ := y
      unfold dSlL at hd2
      dsimp only at hd2
      repeat
        (first
         | (apply P_callT (ps_setSlot h6 (a := ca) q v) [_, _] rfl rfl (RefineL.refl _ _) (by intro _ _; simp [go_sem]) rfl rfl; rintro _ os6 ⟨rfl, h7⟩; simp only [List.cons_append, List.nil_append])
         | (apply P_move; (iterate 3 exact rfl)) | (apply P_field; (iterate 6 exact rfl)) | (apply P_loadpd; (iterate 5 exact rfl))
         | (apply P_load; exact rfl; (first | exact I0 | exact I1 | exact I2 | exact I3 | exact I4 | exact I5 | exact I6); (iterate 4 exact rfl))
         | (apply P_cmp (b := true); (iterate 2 exact rfl); (focus (first | (simp [cmpI]; done) | (simp [cmpI]; omega))); (iterate 2 exact rfl))
         | (apply P_ar; (iterate 3 exact rfl); (focus omega); (focus omega); (iterate 2 exact rfl))
         | (apply P_index; (iterate 4 exact rfl); (focus (first | exact ⟨by decide, rfl⟩ | (refine ⟨by omega, ?_⟩; rw [Int.toNat_natCast]; assumption))); (iterate 2 exact rfl))
         | (apply P_alloc; exact rfl; exact rfl; exact rfl; intro _) | (apply P_store; exact rfl; (focus (repeat first | exact .z | apply SetAt.s | apply SetAtF.s)); (iterate 4 exact rfl)) | apply EL.nil
         | ((with_reducible apply EK.then_normal); apply EK.code) | (apply EC.cond_true; exact rfl)
         | (with_reducible first | apply EC.seq | apply EC.region | apply EC.skip | apply EC.label | apply EC.block | apply EC.exit | apply EC.ret | apply EK.in_normal | apply EK.in_same | apply EK.in_ret | apply EK.then_ret | apply EK.then_exit))
      refine EK.again ⟨(j + 1, os6), hlj, by rw [htk2, slots1_snoc]; exact h7⟩ (by dsimp only; omega) ?_
      simp only [Int.natCast_add]
      exact (Le.keep (by repeat first | exact trivial | refine ⟨rfl, ?_⟩) (by repeat first | exact List.Sublist.refl _ | apply List.Sublist.cons_cons | apply List.Sublist.cons) (by simp))
    · have hjE : j = cs.length := by omega
      subst hjE
      rw [List.take_length] at h6
      repeat
        (first
         | (apply P_cmp (b := false); (iterate 2 exact rfl); (focus (first | (simp [cmpI]; done) | (simp [cmpI]; omega))); (iterate 2 exact rfl)) | apply EL.nil
         | ((with_reducible apply EK.then_normal); apply EK.code) | (apply EC.cond_false; exact rfl)
         | (with_reducible first | apply EC.seq | apply EC.region | apply EC.skip | apply EC.label | apply EC.block | apply EC.exit | apply EC.ret | apply EK.in_normal | apply EK.in_same | apply EK.in_ret | apply EK.then_ret | apply EK.then_exit))
      exact EK.retM0n os5 rfl (by (repeat first | exact List.Sublist.refl _ | apply List.Sublist.cons_cons | apply List.Sublist.cons)) ⟨rfl, h6⟩
  | false =>
    repeat
      (first
       | (apply P_callT (ps_setNonce h (a := ca) cn) [_] rfl rfl (RefineL.refl _ _) (by intro _ _; simp [go_sem]) rfl rfl; rintro _ os2 ⟨rfl, h2⟩; simp only [List.cons_append, List.nil_append])
       | (apply P_callT (ps_setBalance h2 (a := ca) cw) [_] rfl rfl (RefineL.refl _ _) (by intro _ _; simp [go_sem]) rfl rfl; rintro _ os3 ⟨rfl, h3⟩; simp only [List.cons_append, List.nil_append])
       | (apply P_callT (ps_setCode h3 (a := ca) cc hc) [_] rfl rfl (RefineL.refl _ _) (by intro _ _; simp [go_sem]) rfl rfl; rintro _ os4 ⟨rfl, h4⟩; simp only [List.cons_append, List.nil_append])
       | (apply P_move; (iterate 3 exact rfl)) | (apply P_field; (iterate 6 exact rfl))
       | (apply P_load; exact rfl; (first | exact I0 | exact I1 | exact I2 | exact I3 | exact I4 | exact I5 | exact I6); (iterate 4 exact rfl)) | (apply P_lensl; (iterate 4 exact rfl))
       | (apply P_box; exact rfl; exact rfl; exact rfl; intro _) | apply EL.nil | ((with_reducible apply EK.then_normal); apply EK.code) | (apply EC.cond_false; exact rfl)
       | (with_reducible first | apply EC.seq | apply EC.region | apply EC.skip | apply EC.label | apply EC.block | apply EC.exit | apply EC.ret | apply EK.in_normal | apply EK.in_same | apply EK.in_ret | apply EK.then_ret | apply EK.then_exit))
    have h5 : PSt g (ChL.base ⟨ca, false, cn, cw, cc, cs⟩ A) (N + 4) os4 := h4.mono (by omega)
    generalize ChL.base ⟨ca, false, cn, cw, cc, cs⟩ A = A4 at h5 ⊢
    clear h2 h3 h4
    rename_i g3
    refine EC.loop (ι := {x : Nat × List Obj // x.1 ≤ cs.length ∧ PSt g (slots1 ca (cs.take x.1) A4) (N + 4 + x.1) x.2})
      (fun x => ⟨[(33, .val (.v (.int .i64 (x.1.1 : Int)))), (32, .val (.v (.int .i64 (cs.map dSlL).length))), (31, .val (.sl 64 (cs.map dSlL))), (3, .val (.v (ptr g3))), (0, .val (.v (ptr g)))], .var g3 150 (.tup [.arr 20 ca, .v (.bool false), .v (.int .i64 cn), .arr 32 cw, .bs cc, .sl 64 (cs.map dSlL)]) :: x.1.2, []⟩)
      (fun x => cs.length - x.1.1) ⟨(0, os4), Nat.zero_le _, h5⟩ ?_ ?_
    · exact (Le.keep (by repeat first | exact trivial | refine ⟨rfl, ?_⟩) (by repeat first | exact List.Sublist.refl _ | apply List.Sublist.cons_cons | apply List.Sublist.cons) (by simp))
    rintro ⟨⟨j, os5⟩, hjl, h6⟩
    dsimp only at hjl h6 ⊢
    by_cases hlj : j < cs.length
    · have hd2 : (cs.map dSlL)[j]? = some (dSlL cs[j]) := by rw [List.getElem?_map, List.getElem?_eq_getElem hlj]; rfl
      have htk2 : cs.take (j + 1) = cs.take j ++ [cs[j]] := List.take_succ_eq_append_getElem hlj
      generalize cs[j] = y at hd2 htk2
      obtain ⟨q, v⟩ := y
      unfold dSlL at hd2
      dsimp only at hd2
      repeat
        (first
         | (apply P_callT (ps_setSlot h6 (a := ca) q v) [_, _] rfl rfl (RefineL.refl _ _) (by intro _ _; simp [go_sem]) rfl rfl; rintro _ os6 ⟨rfl, h7⟩; simp only [List.cons_append, List.nil_append])
         | (apply P_move; (iterate 3 exact rfl)) | (apply P_field; (iterate 6 exact rfl)) | (apply P_loadpd; (iterate 5 exact rfl))
         | (apply P_load; exact rfl; (first | exact I0 | exact I1 | exact I2 | exact I3 | exact I4 | exact I5 | exact I6); (iterate 4 exact rfl))
         | (apply P_cmp (b := true); (iterate 2 exact rfl); (focus (first | (simp [cmpI]; done) | (simp [cmpI]; omega))); (iterate 2 exact rfl))
         | (apply P_ar; (iterate 3 exact rfl); (focus omega); (focus omega); (iterate 2 exact rfl))
         | (apply P_index; (iterate 4 exact rfl); (focus (first | exact ⟨by decide, rfl⟩ | (refine ⟨by omega, ?_⟩; rw [Int.toNat_natCast]; assumption))); (iterate 2 exact rfl))
         | (apply P_alloc; exact rfl; exact rfl; exact rfl; intro _) | (apply P_store; exact rfl; (focus (repeat first | exact .z | apply SetAt.s | apply SetAtF.s)); (iterate 4 exact rfl)) | apply EL.nil
         | ((with_reducible apply EK.then_normal); apply EK.code) | (apply EC.cond_true; exact rfl)
         | (with_reducible first | apply EC.seq | apply EC.region | apply EC.skip | apply EC.label | apply EC.block | apply EC.exit | apply EC.ret | apply EK.in_normal | apply EK.in_same | apply EK.in_ret | apply EK.then_ret | apply EK.then_exit))
      refine EK.again ⟨(j + 1, os6), hlj, by rw [htk2, slots1_snoc]; exact h7⟩ (by dsimp only; omega) ?_
      simp only [Int.natCast_add]
      exact (Le.keep (by repeat first | exact trivial | refine ⟨rfl, ?_⟩) (by repeat first | exact List.Sublist.refl _ | apply List.Sublist.cons_cons | apply List.Sublist.cons) (by simp))
    · have hjE : j = cs.length := by omega
      subst hjE
      rw [List.take_length] at h6
      repeat
        (first
         | (apply P_cmp (b := false); (iterate 2 exact rfl); (focus (first | (simp [cmpI]; done) | (simp [cmpI]; omega))); (iterate 2 exact rfl)) | apply EL.nil
         | ((with_reducible apply EK.then_normal); apply EK.code) | (apply EC.cond_false; exact rfl)
         | (with_reducible first | apply EC.seq | apply EC.region | apply EC.skip | apply EC.label | apply EC.block | apply EC.exit | apply EC.ret | apply EK.in_normal | apply EK.in_same | apply EK.in_ret | apply EK.then_ret | apply EK.then_exit))
      exact EK.retM0n os5 rfl (by (repeat first | exact List.Sublist.refl _ | apply List.Sublist.cons_cons | apply List.Sublist.cons)) ⟨rfl, h6⟩
end E
end Go.Proofs.YtdhicdnmgmkpkaaGreat
