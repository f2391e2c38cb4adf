/-
  Merged (wip/tools/merge.py): SPB, RT7, SN6, SPC, RT8, SNB.
  Conditions: none.
-/
import Derived.Test.YtdhicdnmgmkpkaaGreatZC28
import Derived.Test.YtdhicdnmgmkpkaaGreatZC23
import Derived.Test.YtdhicdnmgmkpkaaGreatZC27
import Derived.Test.YtdhicdnmgmkpkaaGreatZC17
import Derived.Test.YtdhicdnmgmkpkaaGreatZC18
/-
  The program's snap.Tree: Accounts; from, of any tree.
  Conditions: none.
-/
namespace Go.Proofs.YtdhicdnmgmkpkaaGreat
set_option linter.unusedVariables false
open Go.RowKit Mono Rlp Wd Go.Sort
namespace E
set_option maxRecDepth 20000 in
set_option maxHeartbeats 8000000 in
theorem copies_ (L : List AcL) (hl : L.length ≤ 1000000) (hb : ∀ x ∈ L, x.sl.length ≤ 1000000 ∧ x.cd.length ≤ 140737488355328) : FnM 88 [.sl 55 (L.map dAcL)] [] (fun r os' => r = .val (.sl 55 (L.map dAcL)) ∧ os' = []) := by
  have hml : (L.map dAcL).length = L.length := List.length_map _
  refine FnM.walk 19 Tryz.func88 rfl Tryz.ntmps88 (by simp) fun X => ?_
  repeat
    (first
     | (apply P_move; (iterate 3 exact rfl)) | (apply P_assign; (iterate 3 exact rfl)) | (apply P_lensl; (iterate 4 exact rfl)) | apply EL.nil | ((with_reducible apply EK.then_normal); apply EK.code)
     | (with_reducible first | apply EC.seq | apply EC.region | apply EC.skip | apply EC.label | apply EC.block | apply EC.exit | apply EC.ret | apply EK.in_normal | apply EK.in_same | apply EK.in_ret | apply EK.then_ret | apply EK.then_exit))
  refine EC.le (Le.row 74 55) ?_
  refine EC.loop (ι := {x : Nat × Value // x.1 ≤ L.length})
    (fun x => ⟨[(8, .val (.v (.int .i64 (x.1.1 : Int)))), (7, .val (.v (.int .i64 (L.map dAcL).length))), (6, .val (.sl 55 (L.map dAcL))), (3, .val (.v x.1.2))], [.row x.1.2 74 55 ((L.take x.1.1).map dAcL)], []⟩)
    (fun x => L.length - x.1.1) ⟨(0, nilS), Nat.zero_le _⟩ ?_ ?_
  · exact (Le.keep (by repeat first | exact trivial | refine ⟨rfl, ?_⟩) (by repeat first | exact List.nil_sublist _ | apply List.Sublist.cons_cons | apply List.Sublist.cons) (by simp))
  rintro ⟨⟨i, v⟩, hi⟩
  dsimp only at hi ⊢
  by_cases hlt : i < L.length
  · have hd : (L.map dAcL)[i]? = some (dAcL L[i]) := by rw [List.getElem?_map, List.getElem?_eq_getElem hlt]; rfl
    have htk : (L.take (i + 1)).map dAcL = (L.take i).map dAcL ++ [dAcL L[i]] := by rw [List.take_succ_eq_append_getElem hlt, List.map_append]; rfl
    have hlen : ((L.take i).map dAcL).length = i := by rw [List.length_map, List.length_take]; omega
    have hbi := hb _ (List.getElem_mem hlt)
    have hc := f_acopy L[i] hbi.1 hbi.2
    generalize L[i] = x at hd htk hc
    have hx : dAcL x = .tup [.arr 20 x.a, .v (.int .i64 x.n), .arr 32 x.w, .bs x.cd, .sl 64 (x.sl.map dSlL)] := rfl
    rw [hx] at hd htk hc
    repeat
      (first
       | ((apply P_callMD (hc); (iterate 2 exact rfl); (focus (repeat first | exact RefineL.refl _ _ | exact RL.nil | exact Rf.same | exact Rf.bs0 | exact Rf.sl0 | (apply Rf.fact; (focus (simp; done)); exact rfl) | apply Rf.tup | apply RL.cons)); (focus (intro _ _; simp [go_sem]; done)); (iterate 2 exact rfl)))
       | (apply P_move; (iterate 3 exact rfl)) | (apply P_assign; (iterate 3 exact rfl)) | (apply P_loadpd; (iterate 5 exact rfl))
       | (apply P_load; exact rfl; (first | exact I0 | exact I1 | exact I2 | exact I3 | exact I4 | exact I5 | exact I6); (iterate 4 exact rfl))
       | (apply P_cmp (b := true); (iterate 2 exact rfl); (focus (first | (simp [cmpI]; done) | (simp [cmpI]; omega))); (iterate 2 exact rfl))
       | (apply P_ar; (iterate 3 exact rfl); (focus omega); (focus omega); (iterate 2 exact rfl))
       | (apply P_index; (iterate 4 exact rfl); (focus (first | exact ⟨by decide, rfl⟩ | (refine ⟨by omega, ?_⟩; rw [Int.toNat_natCast]; assumption))); (iterate 2 exact rfl))
       | (apply P_lit; (iterate 9 exact rfl)) | (apply P_alloc; exact rfl; exact rfl; exact rfl; intro _)
       | (apply P_store; exact rfl; (focus (repeat first | exact .z | apply SetAt.s | apply SetAtF.s)); (iterate 4 exact rfl))
       | ((apply P_append; exact rfl; (focus (repeat first | exact .z | apply SetAt.s | apply SetAtF.s)); (iterate 5 exact rfl); (focus (constructor <;> (first | (simp; done) | (simp; omega))))); intro _)
       | apply EL.nil | ((with_reducible apply EK.then_normal); apply EK.code) | (apply EC.cond_true; exact rfl)
       | (with_reducible first | apply EC.seq | apply EC.region | apply EC.skip | apply EC.label | apply EC.block | apply EC.exit | apply EC.ret | apply EK.in_normal | apply EK.in_same | apply EK.in_ret | apply EK.then_ret | apply EK.then_exit))
    rename_i v'
    refine EK.again ⟨(i + 1, v'), hlt⟩ (by dsimp only; omega) ?_
    dsimp only
    rw [htk]
    simp only [Int.natCast_add]
    exact (Le.keep (by repeat first | exact trivial | refine ⟨rfl, ?_⟩) (by repeat first | exact List.nil_sublist _ | apply List.Sublist.cons_cons | apply List.Sublist.cons) (by simp))
  · have hiE : i = L.length := by omega
    subst hiE
    rw [List.take_length]
    repeat
      (first
       | (apply P_move; (iterate 3 exact rfl)) | (apply P_assign; (iterate 3 exact rfl))
       | (apply P_cmp (b := false); (iterate 2 exact rfl); (focus (first | (simp [cmpI]; done) | (simp [cmpI]; omega))); (iterate 2 exact rfl)) | apply EL.nil
       | ((with_reducible apply EK.then_normal); apply EK.code) | (apply EC.cond_false; exact rfl)
       | (with_reducible first | apply EC.seq | apply EC.region | apply EC.skip | apply EC.label | apply EC.block | apply EC.exit | apply EC.ret | apply EK.in_normal | apply EK.in_same | apply EK.in_ret | apply EK.then_ret | apply EK.then_exit))
    refine EK.le (Le.freeze (pre := []) rfl) ?_
    exact EK.retM1k [] rfl rfl (RL.cons (Rf.fact List.mem_cons_self rfl) RL.nil) (List.nil_sublist _) ⟨rfl, rfl⟩
section
variable {g m c : Nat} {base id p : List UInt8} {es : List Ent} {L : List AcL}
set_option maxRecDepth 20000 in
set_option maxHeartbeats 8000000 in
theorem tacc_some (h : getE es id = some (dLay p L)) (hl : L.length ≤ 1000000) (hb : ∀ x ∈ L, x.sl.length ≤ 1000000 ∧ x.cd.length ≤ 140737488355328) : FnM 33 [.v (ptr g), .arr 32 id] [tO g m base, .map m 32 c es] (fun r os' => r = .tpl [.sl 55 (L.map dAcL), .v (.int .i64 0)] ∧ os' = [tO g m base, .map m 32 c es]) := by
  have hz : (getE es id).getD (.tup [.arr 32 zero32, .v nilS]) = .tup [.arr 32 p, .sl 55 (L.map dAcL)] ∧ (getE es id).isSome = true := by rw [h]; exact ⟨rfl, rfl⟩
  have hc := copies_ L hl hb
  refine FnM.walk 22 Tryz.func33 rfl Tryz.ntmps33 (by simp) fun X => ?_
  repeat
    (first
     | (apply P_assign; (iterate 3 exact rfl)) | (apply P_box; exact rfl; exact rfl; exact rfl; intro _) | apply EL.nil | ((with_reducible apply EK.then_normal); apply EK.code)
     | (with_reducible first | apply EC.seq | apply EC.region | apply EC.skip | apply EC.label | apply EC.block | apply EC.exit | apply EC.ret | apply EK.in_normal | apply EK.in_same | apply EK.in_ret | apply EK.then_ret | apply EK.then_exit))
  refine EC.drawC 11 [0, 1, 2, 3, 4, 5, 6, 7, 8] [9, 10] [] _ (by kernel_rfl) (by kernel_rfl) rfl ?_
  simp only [pickL, List.filterMap_cons, List.filterMap_nil, List.getElem?_cons_zero, List.getElem?_cons_succ]
  repeat
    (first
     | (apply H_lookup2; exact hz; exact rfl; (first | exact I0 | exact I1 | exact I2 | exact I3 | exact I4 | exact I5); (iterate 5 exact rfl)) | (apply H_move; (iterate 3 exact rfl))
     | (apply H_field; (iterate 6 exact rfl)) | (apply H_extract; (iterate 4 exact rfl))
     | (apply H_load; exact rfl; (first | exact I0 | exact I1 | exact I2 | exact I3 | exact I4 | exact I5 | exact I6); (iterate 4 exact rfl)) | (apply H_nilck; (iterate 3 exact rfl)))
  refine EM.nil ?_
  repeat (first | rw [List.cons_append] | rw [List.nil_append])
  refine CH.mut (os := []) (rest := []) rfl rfl (m_alloc rfl rfl) ?_
  rintro _ _ ⟨g6, rfl, rfl⟩
  try simp only [St.put]
  repeat (first | rw [List.cons_append] | rw [List.nil_append])
  refine CH.mut (os := [_]) (rest := []) rfl rfl (m_put (put_store rfl rfl rfl rfl rfl)) ?_
  rintro _ _ ⟨rfl, rfl⟩
  try simp only [St.put]
  repeat (first | rw [List.cons_append] | rw [List.nil_append])
  refine CH.nil ?_
  try simp only [List.drop_succ_cons, List.drop_zero]
  repeat
    (first
     | ((apply P_callMD (hc); (iterate 2 exact rfl); (focus (repeat first | exact RefineL.refl _ _ | exact RL.nil | exact Rf.same | exact Rf.bs0 | exact Rf.sl0 | (apply Rf.fact; (focus (simp; done)); exact rfl) | apply Rf.tup | apply RL.cons)); (focus (intro _ _; simp [go_sem]; done)); (iterate 2 exact rfl)))
     | (apply P_move; (iterate 3 exact rfl)) | (apply P_assign; (iterate 3 exact rfl)) | (apply P_field; (iterate 6 exact rfl)) | (apply P_not; (iterate 3 exact rfl))
     | (apply P_load; exact rfl; (first | exact I0 | exact I1 | exact I2 | exact I3 | exact I4 | exact I5 | exact I6); (iterate 4 exact rfl)) | apply EL.nil
     | ((with_reducible apply EK.then_normal); apply EK.code) | (apply EC.cond_false; exact rfl)
     | (with_reducible first | apply EC.seq | apply EC.region | apply EC.skip | apply EC.label | apply EC.block | apply EC.exit | apply EC.ret | apply EK.in_normal | apply EK.in_same | apply EK.in_ret | apply EK.then_ret | apply EK.then_exit))
  exact EK.retM2k [tO g m base, .map m 32 c es] rfl rfl rfl (RefineL.refl _ _) (by (repeat first | exact List.nil_sublist _ | apply List.Sublist.cons_cons | apply List.Sublist.cons)) ⟨rfl, rfl⟩
set_option maxRecDepth 20000 in
set_option maxHeartbeats 8000000 in
theorem tacc_none (h : getE es id = none) : FnM 33 [.v (ptr g), .arr 32 id] [tO g m base, .map m 32 c es] (fun r os' => r = .tpl [.sl 55 [], .v (.int .i64 6)] ∧ os' = [tO g m base, .map m 32 c es]) := by
  have hz : (getE es id).getD (.tup [.arr 32 zero32, .v nilS]) = .tup [.arr 32 zero32, .v nilS] ∧ (getE es id).isSome = false := by rw [h]; exact ⟨rfl, rfl⟩
  refine FnM.walk 22 Tryz.func33 rfl Tryz.ntmps33 (by simp) fun X => ?_
  repeat
    (first
     | (apply P_assign; (iterate 3 exact rfl)) | (apply P_box; exact rfl; exact rfl; exact rfl; intro _) | apply EL.nil | ((with_reducible apply EK.then_normal); apply EK.code)
     | (with_reducible first | apply EC.seq | apply EC.region | apply EC.skip | apply EC.label | apply EC.block | apply EC.exit | apply EC.ret | apply EK.in_normal | apply EK.in_same | apply EK.in_ret | apply EK.then_ret | apply EK.then_exit))
  refine EC.drawC 11 [0, 1, 2, 3, 4, 5, 6, 7, 8] [9, 10] [] _ (by kernel_rfl) (by kernel_rfl) rfl ?_
  simp only [pickL, List.filterMap_cons, List.filterMap_nil, List.getElem?_cons_zero, List.getElem?_cons_succ]
  repeat
    (first
     | (apply H_lookup2; exact hz; exact rfl; (first | exact I0 | exact I1 | exact I2 | exact I3 | exact I4 | exact I5); (iterate 5 exact rfl)) | (apply H_move; (iterate 3 exact rfl))
     | (apply H_field; (iterate 6 exact rfl)) | (apply H_extract; (iterate 4 exact rfl))
     | (apply H_load; exact rfl; (first | exact I0 | exact I1 | exact I2 | exact I3 | exact I4 | exact I5 | exact I6); (iterate 4 exact rfl)) | (apply H_nilck; (iterate 3 exact rfl)))
  refine EM.nil ?_
  repeat (first | rw [List.cons_append] | rw [List.nil_append])
  refine CH.mut (os := []) (rest := []) rfl rfl (m_alloc rfl rfl) ?_
  rintro _ _ ⟨g6, rfl, rfl⟩
  try simp only [St.put]
  repeat (first | rw [List.cons_append] | rw [List.nil_append])
  refine CH.mut (os := [_]) (rest := []) rfl rfl (m_put (put_store rfl rfl rfl rfl rfl)) ?_
  rintro _ _ ⟨rfl, rfl⟩
  try simp only [St.put]
  repeat (first | rw [List.cons_append] | rw [List.nil_append])
  refine CH.nil ?_
  try simp only [List.drop_succ_cons, List.drop_zero]
  repeat
    (first
     | (apply P_move; (iterate 3 exact rfl)) | (apply P_assign; (iterate 3 exact rfl)) | (apply P_not; (iterate 3 exact rfl)) | apply EL.nil | ((with_reducible apply EK.then_normal); apply EK.code)
     | (apply EC.cond_true; exact rfl)
     | (with_reducible first | apply EC.seq | apply EC.region | apply EC.skip | apply EC.label | apply EC.block | apply EC.exit | apply EC.ret | apply EK.in_normal | apply EK.in_same | apply EK.in_ret | apply EK.then_ret | apply EK.then_exit))
  refine EK.retM2k [tO g m base, .map m 32 c es] rfl rfl rfl ?_ (by (repeat first | exact List.nil_sublist _ | apply List.Sublist.cons_cons | apply List.Sublist.cons)) ⟨rfl, rfl⟩
  (repeat first | exact RefineL.refl _ _ | exact RL.nil | exact Rf.same | exact Rf.bs0 | exact Rf.sl0 | (apply Rf.fact; (focus (simp; done)); exact rfl) | apply Rf.tup | apply RL.cons)
set_option maxRecDepth 20000 in
set_option maxHeartbeats 8000000 in
theorem from_gen {to : List UInt8} (F : List UInt8 → Bool) (In : List UInt8 → Nat → Prop) (hto : F to = true) (hb : base ≠ to → F base = false) (hs : ∀ k r, In k r → k ≠ to → k ≠ base → ∃ p L r', getE es k = some (dLay p L) ∧ F p = F k ∧ r' < r ∧ In p r') (k : List UInt8) (r : Nat) (hk : In k r) :
    FnM 85 [.v (ptr g), .arr 32 k, .arr 32 to] [tO g m base, .map m 32 c es] (fun r os' => r = .val (.v (.bool (F k))) ∧ os' = [tO g m base, .map m 32 c es]) := by
  refine FnM.walk 23 Tryz.func85 rfl Tryz.ntmps85 (by simp) fun X => ?_
  repeat
    (first
     | (apply P_assign; (iterate 3 exact rfl)) | (apply P_box; exact rfl; exact rfl; exact rfl; intro _) | apply EL.nil | ((with_reducible apply EK.then_normal); apply EK.code)
     | (with_reducible first | apply EC.seq | apply EC.region | apply EC.skip | apply EC.label | apply EC.block | apply EC.exit | apply EC.ret | apply EK.in_normal | apply EK.in_same | apply EK.in_ret | apply EK.then_ret | apply EK.then_exit))
  rename_i g4 g5
  refine EC.loop (ι := {x : List UInt8 × Nat // In x.1 x.2 ∧ F x.1 = F k})
    (fun x => ⟨[(5, .val (.v (ptr g5))), (4, .val (.v (ptr g4))), (0, .val (.v (ptr g)))], [.var g5 34 (.arr 32 to), .var g4 34 (.arr 32 x.1.1), tO g m base, .map m 32 c es], []⟩)
    (fun x => x.1.2) ⟨(k, r), hk, rfl⟩ ?_ ?_
  · exact (Le.keep (by repeat first | exact trivial | refine ⟨rfl, ?_⟩) (by repeat first | exact List.nil_sublist _ | apply List.Sublist.cons_cons | apply List.Sublist.cons) (by simp))
  rintro ⟨⟨q, s⟩, hq, hF⟩
  dsimp only at hq hF ⊢
  have hn := (bin_word q to).2
  by_cases e : q = to
  · rw [show (q != to) = false by simp [e]] at hn
    repeat
      (first
       | (apply P_bin; (iterate 2 exact rfl); exact hn; (iterate 2 exact rfl)) | (apply P_assign; (iterate 3 exact rfl))
       | (apply P_load; exact rfl; (first | exact I0 | exact I1 | exact I2 | exact I3 | exact I4 | exact I5 | exact I6); (iterate 4 exact rfl)) | apply EL.nil
       | ((with_reducible apply EK.then_normal); apply EK.code) | (apply EC.cond_false; exact rfl)
       | (with_reducible first | apply EC.seq | apply EC.region | apply EC.skip | apply EC.label | apply EC.block | apply EC.exit | apply EC.ret | apply EK.in_normal | apply EK.in_same | apply EK.in_ret | apply EK.then_ret | apply EK.then_exit))
    exact EK.retM1s [tO g m base, .map m 32 c es] rfl rfl (by (repeat first | exact List.nil_sublist _ | apply List.Sublist.cons_cons | apply List.Sublist.cons)) ⟨by rw [← hF, e, hto], rfl⟩
  · rw [show (q != to) = true by simpa using e] at hn
    have he := (bin_word q base).1
    by_cases eb : q = base
    · rw [show (q == base) = true by simp [eb]] at he
      repeat
        (first
         | (apply P_bin; (iterate 2 exact rfl); exact hn; (iterate 2 exact rfl))
         | (apply P_load; exact rfl; (first | exact I0 | exact I1 | exact I2 | exact I3 | exact I4 | exact I5 | exact I6); (iterate 4 exact rfl)) | apply EL.nil
         | ((with_reducible apply EK.then_normal); apply EK.code) | (apply EC.cond_true; exact rfl)
         | (with_reducible first | apply EC.seq | apply EC.region | apply EC.skip | apply EC.label | apply EC.block | apply EC.exit | apply EC.ret | apply EK.in_normal | apply EK.in_same | apply EK.in_ret | apply EK.then_ret | apply EK.then_exit))
      refine EC.draw 6 (by kernel_rfl) ?_
      simp only [List.take_succ_cons, List.take_zero, List.drop_succ_cons, List.drop_zero]
      repeat
        (first
         | (apply H_bin; (iterate 2 exact rfl); exact he; (iterate 2 exact rfl)) | (apply H_move; (iterate 3 exact rfl)) | (apply H_field; (iterate 6 exact rfl))
         | (apply H_load; exact rfl; (first | exact I0 | exact I1 | exact I2 | exact I3 | exact I4 | exact I5 | exact I6); (iterate 4 exact rfl)) | (apply H_nilck; (iterate 3 exact rfl))
         | ((with_reducible apply EH.nil); exact rfl))
      repeat
        (first
         | (apply P_assign; (iterate 3 exact rfl)) | apply EL.nil | ((with_reducible apply EK.then_normal); apply EK.code) | (apply EC.cond_true; exact rfl)
         | (with_reducible first | apply EC.seq | apply EC.region | apply EC.skip | apply EC.label | apply EC.block | apply EC.exit | apply EC.ret | apply EK.in_normal | apply EK.in_same | apply EK.in_ret | apply EK.then_ret | apply EK.then_exit))
      exact EK.retM1s [tO g m base, .map m 32 c es] rfl rfl (by (repeat first | exact List.nil_sublist _ | apply List.Sublist.cons_cons | apply List.Sublist.cons)) ⟨by rw [← hF, eb, hb (eb ▸ e)], rfl⟩
    · rw [show (q == base) = false by simpa using eb] at he
      obtain ⟨p, L, s', h1, h2, h3, h4⟩ := hs q s hq e eb
      have hg : (getE es q).getD (.tup [.arr 32 zero32, .v nilS]) = .tup [.arr 32 p, .sl 55 (L.map dAcL)] := by rw [h1]; rfl
      repeat
        (first
         | (apply P_bin; (iterate 2 exact rfl); exact hn; (iterate 2 exact rfl))
         | (apply P_load; exact rfl; (first | exact I0 | exact I1 | exact I2 | exact I3 | exact I4 | exact I5 | exact I6); (iterate 4 exact rfl)) | apply EL.nil
         | ((with_reducible apply EK.then_normal); apply EK.code) | (apply EC.cond_true; exact rfl)
         | (with_reducible first | apply EC.seq | apply EC.region | apply EC.skip | apply EC.label | apply EC.block | apply EC.exit | apply EC.ret | apply EK.in_normal | apply EK.in_same | apply EK.in_ret | apply EK.then_ret | apply EK.then_exit))
      refine EC.draw 6 (by kernel_rfl) ?_
      simp only [List.take_succ_cons, List.take_zero, List.drop_succ_cons, List.drop_zero]
      repeat
        (first
         | (apply H_bin; (iterate 2 exact rfl); exact he; (iterate 2 exact rfl)) | (apply H_move; (iterate 3 exact rfl)) | (apply H_field; (iterate 6 exact rfl))
         | (apply H_load; exact rfl; (first | exact I0 | exact I1 | exact I2 | exact I3 | exact I4 | exact I5 | exact I6); (iterate 4 exact rfl)) | (apply H_nilck; (iterate 3 exact rfl))
         | ((with_reducible apply EH.nil); exact rfl))
      repeat
        (first
         | apply EL.nil | ((with_reducible apply EK.then_normal); apply EK.code) | (apply EC.cond_false; exact rfl)
         | (with_reducible first | apply EC.seq | apply EC.region | apply EC.skip | apply EC.label | apply EC.block | apply EC.exit | apply EC.ret | apply EK.in_normal | apply EK.in_same | apply EK.in_ret | apply EK.then_ret | apply EK.then_exit))
      refine EC.draw 7 (by kernel_rfl) ?_
      simp only [List.take_succ_cons, List.take_zero, List.drop_succ_cons, List.drop_zero]
      repeat
        (first
         | (apply H_lookup; exact hg; exact rfl; (first | exact I0 | exact I1 | exact I2 | exact I3 | exact I4 | exact I5); (iterate 5 exact rfl)) | (apply H_fieldv; (iterate 8 exact rfl))
         | (apply H_move; (iterate 3 exact rfl)) | (apply H_field; (iterate 6 exact rfl))
         | (apply H_load; exact rfl; (first | exact I0 | exact I1 | exact I2 | exact I3 | exact I4 | exact I5 | exact I6); (iterate 4 exact rfl)) | (apply H_nilck; (iterate 3 exact rfl))
         | ((with_reducible apply EH.nil); exact rfl))
      repeat
        (first
         | (apply P_store; exact rfl; (focus (repeat first | exact .z | apply SetAt.s | apply SetAtF.s)); (iterate 4 exact rfl)) | apply EL.nil
         | (with_reducible first | apply EC.seq | apply EC.region | apply EC.skip | apply EC.label | apply EC.block | apply EC.exit | apply EC.ret | apply EK.in_normal | apply EK.in_same | apply EK.in_ret | apply EK.then_ret | apply EK.then_exit))
      refine EK.again ⟨(p, s'), h4, h2.trans hF⟩ h3 ?_
      exact (Le.keep (by repeat first | exact trivial | refine ⟨rfl, ?_⟩) (by repeat first | exact List.nil_sublist _ | apply List.Sublist.cons_cons | apply List.Sublist.cons) (by simp))
end
end E
end Go.Proofs.YtdhicdnmgmkpkaaGreat
/-
  The reference's ApplyDiff.
  Conditions: none.
-/
namespace Go.Proofs.YtdhicdnmgmkpkaaGreat
set_option linter.unusedVariables false
open Go.RowKit Mono Rlp Wd
namespace E
end E
end Go.Proofs.YtdhicdnmgmkpkaaGreat
/-
  The law's alive (chapter 25).
  Conditions: none.
-/
namespace Go.Proofs.YtdhicdnmgmkpkaaGreat
set_option linter.unusedVariables false
open Go.RowKit Mono Rlp Wd Go.Sort
namespace E
theorem canon_nil {L : List AcL} (h : Canon (newA []) L) : L = [] := by
  refine List.eq_nil_iff_forall_not_mem.2 fun x hx => ?_
  exact (h.mem x hx).2 rfl
theorem of12 : (ofW 1 == ofW 2) = false := by decide
abbrev al1 : List Ent := [(0, ofW 1, dLay zero32 [])]
abbrev al2 : List Ent := [(0, ofW 1, dLay zero32 []), (1, ofW 2, dLay (ofW 1) [])]
theorem put_al1 : putE 0 [] (ofW 1) (dLay zero32 []) = al1 := rfl
theorem tick_al1 : tickE 0 [] (ofW 1) = 1 := rfl
theorem has_al1 : hasE al1 (ofW 2) = false := by simp [hasE, of12]
theorem put_al2 : putE 1 al1 (ofW 2) (dLay (ofW 1) []) = al2 := by unfold putE; rw [has_al1]; rfl
theorem tick_al2 : tickE 1 al1 (ofW 2) = 2 := by unfold tickE; rw [has_al1]; rfl
theorem sort_one (k : List UInt8) : sortL [k] = [k] := by simp [sortL]
set_option maxRecDepth 20000 in
set_option maxHeartbeats 8000000 in
theorem alive25 : FnM 23 [] [] (fun r os' => r = .val (.v (.bool true)) ∧ os' = []) := by
  have o1 : Fn 47 [.v (.int .i64 1)] (· = .val (.arr 32 (ofW 1))) := f_Of 1 (by omega)
  have o2 : Fn 47 [.v (.int .i64 2)] (· = .val (.arr 32 (ofW 2))) := f_Of 2 (by omega)
  have n0 := f_num 0
  have hnew := snew [] (ofW 1) (by simp) (by simp)
  refine FnM.walk 38 Tryz.func23 rfl Tryz.ntmps23 (by simp) fun X => ?_
  repeat
    (first
     | (apply P_call (o1); exact rfl; (focus (repeat first | exact RefineL.refl _ _ | exact RL.nil | exact Rf.same | exact Rf.bs0 | exact Rf.sl0 | (apply Rf.fact; (focus (simp; done)); exact rfl) | apply Rf.tup | apply RL.cons)); (focus (intro _ _; simp [go_sem]; done)); (iterate 2 exact rfl))
     | (apply P_assign; (iterate 3 exact rfl)) | apply EL.nil | ((with_reducible apply EK.then_normal); apply EK.code)
     | (with_reducible first | apply EC.seq | apply EC.region | apply EC.skip | apply EC.label | apply EC.block | apply EC.exit | apply EC.ret | apply EK.in_normal | apply EK.in_same | apply EK.in_ret | apply EK.then_ret | apply EK.then_exit))
  refine P_callM (os := []) hnew rfl rfl (by (repeat first | exact RefineL.refl _ _ | exact RL.nil | exact Rf.same | exact Rf.bs0 | exact Rf.sl0 | (apply Rf.fact; (focus (simp; done)); exact rfl) | apply Rf.tup | apply RL.cons)) (by intro _ _; simp [go_sem]) rfl rfl ?_
  rintro _ _ ⟨g, m, L, hL, _, _, rfl, rfl⟩
  obtain rfl := canon_nil hL
  simp only [List.cons_append, List.nil_append]
  rw [put_al1, tick_al1]
  have hnn := (bin_nil (T := 48) (by kernel_rfl) (some ⟨g, 0, none⟩)).1
  have e1 : getE al1 (ofW 2) = none := by simp [getE, of12]
  have e2 : getE al1 (ofW 1) = some (dLay zero32 []) := by simp [getE]
  have hadd := sadd (g := g) (m := m) (c := 1) (base := ofW 1) [] e1 e2 (by simp) (by simp) (by simp) (by simp)
  have e3 : getE al2 (ofW 2) = some (dLay (ofW 1) []) := by simp [getE, of12]
  have hfl := sflat (g := g) (m := m) (c := 2) (base := ofW 1) (id := ofW 2) (es := al2) (fun k => k == ofW 2) (fun e he => by
    simp only [List.mem_cons, List.not_mem_nil, or_false] at he
    rcases he with rfl | rfl
    · rw [of12]
      exact from_base (by simp [bne, of12])
    · rw [beq_self_eq_true]
      exact from_same) e3 (by simp)
  have hf1 : (al2.filter fun e => !(e.2.1 == ofW 2)) = [(0, ofW 1, dLay zero32 [])] := by simp [of12]
  have hf2 : (al2.filter fun e => e.2.1 == ofW 2) = [(1, ofW 2, dLay (ofW 1) [])] := by simp [of12]
  rw [hf1, hf2, List.map_cons, List.map_nil, sort_one] at hfl
  have hly := slayers (g := g) (m := m) (c := 2) (base := ofW 2) (es := [(1, ofW 2, dLay (ofW 1) [])]) (K1 := []) (K2 := []) (by rw [List.map_cons, List.map_nil, sort_one]; rfl) (by simp) (by simp)
  have hbs := sbase (g := g) (m := m) (c := 2) (base := ofW 2) (es := [(1, ofW 2, dLay (ofW 1) [])])
  have heq := (bin_word (ofW 2) (ofW 2)).1
  rw [beq_self_eq_true] at heq
  repeat
    (first
     | (apply P_call (o1); exact rfl; (focus (repeat first | exact RefineL.refl _ _ | exact RL.nil | exact Rf.same | exact Rf.bs0 | exact Rf.sl0 | (apply Rf.fact; (focus (simp; done)); exact rfl) | apply Rf.tup | apply RL.cons)); (focus (intro _ _; simp [go_sem]; done)); (iterate 2 exact rfl))
     | (apply P_call (o2); exact rfl; (focus (repeat first | exact RefineL.refl _ _ | exact RL.nil | exact Rf.same | exact Rf.bs0 | exact Rf.sl0 | (apply Rf.fact; (focus (simp; done)); exact rfl) | apply Rf.tup | apply RL.cons)); (focus (intro _ _; simp [go_sem]; done)); (iterate 2 exact rfl))
     | (apply P_bin; (iterate 2 exact rfl); exact hnn; (iterate 2 exact rfl)) | (apply P_move; (iterate 3 exact rfl)) | (apply P_assign; (iterate 3 exact rfl)) | (apply P_build; (iterate 7 exact rfl))
     | apply EL.nil | ((with_reducible apply EK.then_normal); apply EK.code) | (apply EC.cond_false; exact rfl)
     | (with_reducible first | apply EC.seq | apply EC.region | apply EC.skip | apply EC.label | apply EC.block | apply EC.exit | apply EC.ret | apply EK.in_normal | apply EK.in_same | apply EK.in_ret | apply EK.then_ret | apply EK.then_exit))
  refine P_callM (os := [tO g m (ofW 1), .map m 32 1 al1]) hadd rfl rfl (by (repeat first | exact RefineL.refl _ _ | exact RL.nil | exact Rf.same | exact Rf.bs0 | exact Rf.sl0 | (apply Rf.fact; (focus (simp; done)); exact rfl) | apply Rf.tup | apply RL.cons)) (by intro _ _; simp [go_sem]) rfl rfl ?_
  rintro _ _ ⟨L', hL', _, _, rfl, rfl⟩
  obtain rfl := canon_nil (show Canon (newA []) L' from hL')
  simp only [List.cons_append, List.nil_append]
  rw [put_al2, tick_al2]
  repeat
    (first
     | (apply P_call (o2); exact rfl; (focus (repeat first | exact RefineL.refl _ _ | exact RL.nil | exact Rf.same | exact Rf.bs0 | exact Rf.sl0 | (apply Rf.fact; (focus (simp; done)); exact rfl) | apply Rf.tup | apply RL.cons)); (focus (intro _ _; simp [go_sem]; done)); (iterate 2 exact rfl))
     | (apply P_move; (iterate 3 exact rfl)) | (apply P_assign; (iterate 3 exact rfl)) | apply EL.nil | ((with_reducible apply EK.then_normal); apply EK.code)
     | (with_reducible first | apply EC.seq | apply EC.region | apply EC.skip | apply EC.label | apply EC.block | apply EC.exit | apply EC.ret | apply EK.in_normal | apply EK.in_same | apply EK.in_ret | apply EK.then_ret | apply EK.then_exit))
  refine P_callM (os := [tO g m (ofW 1), .map m 32 2 al2]) hfl rfl rfl (by (repeat first | exact RefineL.refl _ _ | exact RL.nil | exact Rf.same | exact Rf.bs0 | exact Rf.sl0 | (apply Rf.fact; (focus (simp; done)); exact rfl) | apply Rf.tup | apply RL.cons)) (by intro _ _; simp [go_sem]) rfl rfl ?_
  rintro _ _ ⟨rfl, rfl⟩
  simp only [List.cons_append, List.nil_append]
  repeat
    (first
     | (apply P_call (o2); exact rfl; (focus (repeat first | exact RefineL.refl _ _ | exact RL.nil | exact Rf.same | exact Rf.bs0 | exact Rf.sl0 | (apply Rf.fact; (focus (simp; done)); exact rfl) | apply Rf.tup | apply RL.cons)); (focus (intro _ _; simp [go_sem]; done)); (iterate 2 exact rfl))
     | (apply P_call (n0); exact rfl; (focus (repeat first | exact RefineL.refl _ _ | exact RL.nil | exact Rf.same | exact Rf.bs0 | exact Rf.sl0 | (apply Rf.fact; (focus (simp; done)); exact rfl) | apply Rf.tup | apply RL.cons)); (focus (intro _ _; simp [go_sem]; done)); (iterate 2 exact rfl))
     | (apply P_bin; (iterate 2 exact rfl); exact heq; (iterate 2 exact rfl)) | (apply P_callV hbs [0, 1] [] rfl (by decide) rfl rfl (RefineL.refl _ _) (by intro _ _; simp [go_sem]) rfl rfl)
     | (apply P_callV hly [0, 1] [] rfl (by decide) rfl rfl (RefineL.refl _ _) (by intro _ _; simp [go_sem]) rfl rfl) | (apply P_move; (iterate 3 exact rfl)) | (apply P_assign; (iterate 3 exact rfl))
     | (apply P_extract; (iterate 4 exact rfl)) | (apply P_pick; (iterate 4 exact rfl))
     | (apply P_cmp (b := true); (iterate 2 exact rfl); (focus (first | (simp [cmpI]; done) | (simp [cmpI]; omega))); (iterate 2 exact rfl))
     | (apply P_ar; (iterate 3 exact rfl); (focus omega); (focus omega); (iterate 2 exact rfl)) | (apply P_lensl; (iterate 4 exact rfl)) | apply EL.nil
     | ((with_reducible apply EK.then_normal); apply EK.code)
     | (with_reducible first | apply EC.seq | apply EC.region | apply EC.skip | apply EC.label | apply EC.block | apply EC.exit | apply EC.ret | apply EK.in_normal | apply EK.in_same | apply EK.in_ret | apply EK.then_ret | apply EK.then_exit))
  exact EK.retM1s [] rfl rfl (List.nil_sublist _) ⟨rfl, rfl⟩
end E
end Go.Proofs.YtdhicdnmgmkpkaaGreat
/-
  Chains of layers: what the map of a chain holds (plain facts).
  Conditions: none.
-/
namespace Go.Proofs.YtdhicdnmgmkpkaaGreat
set_option linter.unusedVariables false
open Go.RowKit Mono Rlp Wd Go.Sort
namespace E
theorem ofW_inj : ∀ i < 10, ∀ j < 10, ofW i = ofW j → i = j := by decide
theorem ofW_le : ∀ i < 10, ∀ j < 10, i ≤ j → ofW i ≤ ofW j := by decide
structure Chn (ll : List (List AcL)) (i : Nat) (es : List Ent) : Prop where
  at_ : ∀ j (h : j < ll.length), j < i → ∃ p L, getE es (ofW j) = some (dLay p L) ∧ Canon (newA ll[j]) L ∧ (0 < j → p = ofW (j - 1))
  keys : ∀ e ∈ es, ∃ j < i, e.2.1 = ofW j
  len : es.length ≤ i
theorem Chn.none {ll : List (List AcL)} {i j : Nat} {es : List Ent} (h : Chn ll i es) (hi : i ≤ j) (hj : j < 10) : getE es (ofW j) = none := (getE_none es _).2 fun hm => by
  obtain ⟨e, he, h1⟩ := List.mem_map.1 hm
  obtain ⟨k, hk, h2⟩ := h.keys e he
  have := ofW_inj k (by omega) j hj (h2.symm.trans h1)
  omega
theorem Chn.first {ll : List (List AcL)} (h0 : 0 < ll.length) {L : List AcL} (hL : Canon (newA ll[0]) L) : Chn ll 1 (putE 0 [] (ofW 0) (dLay zero32 L)) := by
  refine ⟨fun j hj h1 => ?_, fun e he => ?_, putE_length _ _ _ _⟩
  · obtain rfl : j = 0 := by omega
    exact ⟨zero32, L, by rw [getE_putE, if_pos rfl], hL, fun h => absurd h (Nat.lt_irrefl _)⟩
  · have : e = (0, ofW 0, dLay zero32 L) := by simpa [putE, hasE, getE] using he
    exact ⟨0, Nat.one_pos, by rw [this]⟩
theorem Chn.next {ll : List (List AcL)} {i c : Nat} {es : List Ent} (h : Chn ll i es) (h1 : 1 ≤ i) (hi : i < ll.length) (hn : ll.length ≤ 10) {L : List AcL} (hL : Canon (newA ll[i]) L) : Chn ll (i + 1) (putE c es (ofW i) (dLay (ofW (i - 1)) L)) := by
  refine ⟨fun j hj hji => ?_, fun e he => ?_, Nat.le_trans (putE_length _ _ _ _) (Nat.succ_le_succ h.len)⟩
  · by_cases e : j = i
    · subst e
      exact ⟨_, L, by rw [getE_putE, if_pos rfl], hL, fun _ => rfl⟩
    · obtain ⟨p, M, g1, g2, g3⟩ := h.at_ j hj (by omega)
      exact ⟨p, M, by rw [getE_putE, if_neg fun e' => e (ofW_inj i (by omega) j (by omega) e').symm, g1], g2, g3⟩
  · have hn := h.none (Nat.le_refl i) (by omega)
    have hh : hasE es (ofW i) = false := by
      cases hx : hasE es (ofW i) with
      | false => rfl
      | true =>
        rw [hasE_iff] at hx
        rw [hn] at hx
        cases hx
    unfold putE at he
    rw [hh] at he
    simp only [Bool.false_eq_true, if_false, List.mem_append, List.mem_singleton] at he
    rcases he with he | rfl
    · obtain ⟨j, hj, e⟩ := h.keys e he
      exact ⟨j, Nat.lt_succ_of_lt hj, e⟩
    · exact ⟨i, Nat.lt_succ_self i, rfl⟩
def fromB (b : Nat) (k : List UInt8) : Bool := (List.range 10).any fun j => decide (b ≤ j) && (k == ofW j)
theorem fromB_at {b j : Nat} (hj : j < 10) : fromB b (ofW j) = decide (b ≤ j) := by
  unfold fromB
  rw [Bool.eq_iff_iff, List.any_eq_true, decide_eq_true_eq]
  constructor
  · rintro ⟨q, hq, h⟩
    simp only [Bool.and_eq_true, decide_eq_true_eq, beq_iff_eq] at h
    have := ofW_inj j hj q (by simpa using hq) h.2
    omega
  · intro h
    exact ⟨j, by simpa using hj, by simp [h]⟩
theorem keys_perm {ll : List (List AcL)} {n : Nat} {es : List Ent} (h : Chn ll n es) (hn : n ≤ ll.length) (h10 : n ≤ 10) (hN : (es.map (·.2.1)).Nodup) (q : Nat → Bool) (F : List UInt8 → Bool) (hF : ∀ j < 10, F (ofW j) = q j) : sortL ((es.filter fun e => F e.2.1).map (·.2.1)) = ((List.range n).filter q).map ofW := by
  refine (sortL_eq ?_ ?_).symm
  · have n1 : (((List.range n).filter q).map ofW).Nodup := by
      unfold List.Nodup
      rw [List.pairwise_map]
      refine List.Pairwise.imp_of_mem ?_ (List.nodup_range.filter q)
      intro a b ha hb hne e
      exact hne (ofW_inj a (by have := List.mem_range.1 (List.mem_filter.1 ha).1; omega) b (by have := List.mem_range.1 (List.mem_filter.1 hb).1; omega) e)
    have n2 : ((es.filter fun e => F e.2.1).map (·.2.1)).Nodup := hN.sublist (List.filter_sublist.map _)
    refine (List.perm_ext_iff_of_nodup n1 n2).2 fun k => ?_
    rw [List.mem_map, List.mem_map]
    constructor
    · rintro ⟨j, hj, rfl⟩
      obtain ⟨h1, h2⟩ := List.mem_filter.1 hj
      have hj' := List.mem_range.1 h1
      obtain ⟨p, L, g1, _⟩ := h.at_ j (by omega) hj'
      obtain ⟨e, he, g2, _⟩ := getE_mem _ _ _ g1
      exact ⟨e, List.mem_filter.2 ⟨he, by rw [g2, hF j (by omega)]; exact h2⟩, g2⟩
    · rintro ⟨e, he, rfl⟩
      obtain ⟨h1, h2⟩ := List.mem_filter.1 he
      obtain ⟨j, hj, g⟩ := h.keys e h1
      rw [g] at h2 ⊢
      rw [hF j (by omega)] at h2
      exact ⟨j, List.mem_filter.2 ⟨List.mem_range.2 hj, h2⟩, rfl⟩
  · rw [List.pairwise_map]
    refine List.Pairwise.imp_of_mem ?_ (List.pairwise_lt_range.filter q)
    intro a b ha hb hab
    exact ofW_le a (by have := List.mem_range.1 (List.mem_filter.1 ha).1; omega) b (by have := List.mem_range.1 (List.mem_filter.1 hb).1; omega) (by omega)
theorem range_lt {b n : Nat} (h : b ≤ n) : (List.range n).filter (fun j => !decide (b ≤ j)) = List.range b := by
  obtain ⟨d, rfl⟩ : ∃ d, n = b + d := ⟨n - b, by omega⟩
  clear h
  induction d with
  | zero => exact List.filter_eq_self.2 fun j hj => by have := List.mem_range.1 hj; simp; omega
  | succ d ih =>
    rw [← Nat.add_assoc, List.range_succ, List.filter_append, ih]
    simp
theorem range_ge {b n : Nat} (h : b < n) : (List.range n).filter (fun j => decide (b ≤ j)) = b :: (List.range' (b + 1) (n - 1 - b)) := by
  obtain ⟨d, rfl⟩ : ∃ d, n = b + 1 + d := ⟨n - (b + 1), by omega⟩
  clear h
  rw [show b + 1 + d - 1 - b = d by omega]
  induction d with
  | zero =>
    rw [Nat.add_zero, List.range_succ, List.filter_append]
    have : (List.range b).filter (fun j => decide (b ≤ j)) = [] := List.filter_eq_nil_iff.2 fun j hj => by have := List.mem_range.1 hj; simp; omega
    rw [this]
    simp
  | succ d ih =>
    rw [← Nat.add_assoc, List.range_succ, List.filter_append, ih, List.range'_concat]
    simp
    omega
theorem getE_filter (F : List UInt8 → Bool) (k : List UInt8) : ∀ es : List Ent, getE (es.filter fun e => F e.2.1) k = if F k = true then getE es k else none
  | [] => by simp [getE]
  | x :: es => by
    have ih := getE_filter F k es
    by_cases hx : (x.2.1 == k) = true
    · have hk : x.2.1 = k := by simpa using hx
      have e1 : getE (x :: es) k = some x.2.2 := by rw [getE, if_pos hx]
      rw [e1, List.filter_cons]
      by_cases hF : F k = true
      · rw [if_pos (by rw [hk]; exact hF), if_pos hF, getE, if_pos hx]
      · rw [if_neg (by rw [hk]; exact hF), if_neg hF, ih, if_neg hF]
    · have e1 : getE (x :: es) k = getE es k := by rw [getE, if_neg hx]
      rw [e1, ← ih, List.filter_cons]
      split
      · rw [getE, if_neg hx]
      · rfl
end E
end Go.Proofs.YtdhicdnmgmkpkaaGreat
/-
  The reference's SameAccount, SameAccounts: of one account, of one list.
  Conditions: none.
-/
namespace Go.Proofs.YtdhicdnmgmkpkaaGreat
set_option linter.unusedVariables false
open Go.RowKit Mono Rlp Wd
namespace E
def slC1 (p : List UInt8 × List UInt8) : List Value := bvs p.1 ++ bvs p.2
def slOk1 (p : List UInt8 × List UInt8) : Prop := p.1.length = 32 ∧ p.2.length = 32
theorem slot1_of {ok : Nat → Prop} {w : World} {s : List UInt8 × List UInt8} {v : Value} (h : ReadV ok w (dSlL s) v) : v = .agg (slC1 s).toArray ∧ slOk1 s := by
  obtain ⟨cs, h', rfl⟩ := (readV_agg rfl).1 h
  unfold dSlL at h'
  rw [Reads, ReadsL] at h'
  obtain ⟨c1, c2, rfl, h1, h2⟩ := h'
  rw [ReadsL] at h2
  obtain ⟨c3, c4, rfl, h3, h4⟩ := h2
  rw [ReadsL] at h4
  rw [Reads] at h1 h3
  rw [h1.2, h3.2, h4, List.append_nil]
  exact ⟨rfl, h1.1, h3.1⟩
theorem eq_slot1 (w : World) (s : List UInt8 × List UInt8) (hs : slOk1 s) : (Op.equalIn 10000 103 (.agg (slC1 s).toArray) (.agg (slC1 s).toArray)).run Tryz.prog w = .ok true w := by
  rw [show (10000 : Nat) = 9999 + 1 from rfl, run_equalIn_struct w 9999 103 _ _ (by kernel_rfl) (by kernel_rfl)]
  simp only [Program.fieldsOf, Tryz.underlying103]
  have hp : ∀ (x : List UInt8 × List UInt8) (o : Nat) (l : List UInt8), slOk1 x → (o = 0 ∧ l = x.1 ∨ o = 32 ∧ l = x.2) → ∀ w, (part 34 (slC1 x).toArray o).run Tryz.prog w = .ok (arrV l) w := by
    intro x o l hx ho w
    have h1 : (part 34 (slC1 x).toArray o).run Tryz.prog w = .ok (.agg ((slC1 x).toArray.extract o (o + 32))) w := by
      kernel_rfl
    rw [h1]
    have hk : (slC1 x).toArray.extract o (o + 32) = (bvs l).toArray := by
      apply Array.ext'
      rw [Array.toList_extract]
      unfold slC1
      rcases ho with ⟨rfl, rfl⟩ | ⟨rfl, rfl⟩
      · rw [List.extract_eq_take_drop, List.drop_zero, List.take_left' (by rw [bvs_length, hx.1])]
      · rw [List.extract_eq_take_drop, List.drop_left' (by rw [bvs_length, hx.1]), List.take_of_length_le (by rw [bvs_length, hx.2]; decide)]
    rw [hk]
    rfl
  have hW := fun w l hl => eq_arr' (T := 34) (n := 32) 9997 Tryz.underlying34 Tryz.underlying5 (fun w => by kernel_rfl) w l l hl hl
  simp only [Op.eqFields, ne_eq, String.reduceEq, not_false_eq_true, if_true, Sem.run_bind, hp s 0 s.1 hs (.inl ⟨rfl, rfl⟩), Result.andThen_ok, hW _ _ hs.1, beq_self_eq_true]
  simp [hW _ _ hs.2, Sem.run_bind, hp s 32 s.2 hs (.inr ⟨rfl, rfl⟩)]
theorem bin_slot1 (s : List UInt8 × List UInt8) : Bin .neq 103 (dSlL s) (dSlL s) (.bool false) := by
  refine ⟨rfl, fun ok w p q hp hq => ?_⟩
  obtain ⟨rfl, h1⟩ := slot1_of hp
  obtain ⟨rfl, h2⟩ := slot1_of hq
  refine ⟨fun x y => run_eqGuard_agg w _ _ _ _ _ _ (by kernel_rfl), ?_⟩
  rw [run_neq_struct, eq_slot1 w s h1]
  rfl
set_option maxRecDepth 20000 in
set_option maxHeartbeats 8000000 in
theorem f_sameAccount (x : AcL) (hx : x.sl.length ≤ 1099511627776) : Fn 38 [dAcL x, dAcL x] (· = .val (.v (.bool true))) := by
  obtain ⟨a1, a2, a3, a4, a5⟩ := x
  unfold dAcL
  dsimp only at hx ⊢
  have h1 := (bin_addr a1 a1).2
  have h3 := (bin_word a3 a3).2
  have h4 := (bin_string a4 a4).2
  rw [bne_self_eq_false] at h1 h3 h4
  have hl : (a5.map dSlL).length = a5.length := List.length_map _
  refine Fn.walk 61 Tryz.func38 rfl Tryz.ntmps38 (by simp) fun X => ?_
  repeat
    (first
     | (apply P_bin; (iterate 2 exact rfl); exact h1; (iterate 2 exact rfl)) | (apply P_bin; (iterate 2 exact rfl); exact h3; (iterate 2 exact rfl))
     | (apply P_bin; (iterate 2 exact rfl); exact h4; (iterate 2 exact rfl)) | (apply P_move; (iterate 3 exact rfl)) | (apply P_assign; (iterate 3 exact rfl)) | (apply P_field; (iterate 6 exact rfl))
     | (apply P_pick; (iterate 4 exact rfl)) | (apply P_load; exact rfl; (first | exact I0 | exact I1 | exact I2 | exact I3 | exact I4 | exact I5 | exact I6); (iterate 4 exact rfl))
     | (apply P_cmp (b := false); (iterate 2 exact rfl); (focus (first | (simp [cmpI]; done) | (simp [cmpI]; omega))); (iterate 2 exact rfl)) | (apply P_lensl; (iterate 4 exact rfl))
     | (apply P_str; (iterate 3 exact rfl)) | (apply P_box; exact rfl; exact rfl; exact rfl; intro _) | apply EL.nil | ((with_reducible apply EK.then_normal); apply EK.code)
     | (apply EC.cond_false; exact rfl)
     | (with_reducible first | apply EC.seq | apply EC.region | apply EC.skip | apply EC.label | apply EC.block | apply EC.exit | apply EC.ret | apply EK.in_normal | apply EK.in_same | apply EK.in_ret | apply EK.then_ret | apply EK.then_exit))
  rename_i g2 g3
  refine EC.loop (ι := {k : Nat // k ≤ a5.length})
    (fun k => ⟨[(5, .val (.v (.int .i64 (k.1 : Int)))), (2, .val (.v (.pointer (some ⟨g2, 0, none⟩)))), (3, .val (.v (.pointer (some ⟨g3, 0, none⟩))))],
      [.var g3 74 (.tup [.arr 20 a1, .v (.int .i64 a2), .arr 32 a3, .bs a4, .sl 64 (a5.map dSlL)]), .var g2 74 (.tup [.arr 20 a1, .v (.int .i64 a2), .arr 32 a3, .bs a4, .sl 64 (a5.map dSlL)])], []⟩)
    (fun k => a5.length - k.1) ⟨0, by omega⟩ ?_ ?_
  · exact (Le.keep (by repeat first | exact trivial | refine ⟨rfl, ?_⟩) (by repeat first | exact List.nil_sublist _ | apply List.Sublist.cons_cons | apply List.Sublist.cons) (by simp))
  rintro ⟨k, hk⟩
  dsimp only at hk ⊢
  by_cases hlt : k < a5.length
  · have hy : (a5.map dSlL)[k]? = some (dSlL a5[k]) := by rw [List.getElem?_map, List.getElem?_eq_getElem hlt]; rfl
    generalize a5[k] = s at hy
    have hb := bin_slot1 s
    repeat
      (first
       | (apply P_move; (iterate 3 exact rfl)) | (apply P_field; (iterate 6 exact rfl))
       | (apply P_load; exact rfl; (first | exact I0 | exact I1 | exact I2 | exact I3 | exact I4 | exact I5 | exact I6); (iterate 4 exact rfl))
       | (apply P_cmp (b := true); (iterate 2 exact rfl); (focus (first | (simp [cmpI]; done) | (simp [cmpI]; omega))); (iterate 2 exact rfl)) | (apply P_lensl; (iterate 4 exact rfl)) | apply EL.nil
       | ((with_reducible apply EK.then_normal); apply EK.code) | (apply EC.cond_true; exact rfl)
       | (with_reducible first | apply EC.seq | apply EC.region | apply EC.skip | apply EC.label | apply EC.block | apply EC.exit | apply EC.ret | apply EK.in_normal | apply EK.in_same | apply EK.in_ret | apply EK.then_ret | apply EK.then_exit))
    refine EC.draw 11 (by kernel_rfl) ?_
    simp only [List.take_succ_cons, List.take_zero, List.drop_succ_cons, List.drop_zero]
    repeat
      (first
       | (apply H_bin; (iterate 2 exact rfl); exact hb; (iterate 2 exact rfl)) | (apply H_move; (iterate 3 exact rfl)) | (apply H_field; (iterate 6 exact rfl)) | (apply H_loadpd; (iterate 5 exact rfl))
       | (apply H_load; exact rfl; (first | exact I0 | exact I1 | exact I2 | exact I3 | exact I4 | exact I5 | exact I6); (iterate 4 exact rfl))
       | (apply H_index; (iterate 4 exact rfl); (focus (first | exact ⟨by decide, rfl⟩ | (refine ⟨by omega, ?_⟩; rw [Int.toNat_natCast]; assumption))); (iterate 2 exact rfl))
       | ((with_reducible apply EH.nil); exact rfl))
    repeat
      (first
       | (apply P_move; (iterate 3 exact rfl)) | (apply P_assign; (iterate 3 exact rfl)) | (apply P_ar; (iterate 3 exact rfl); (focus omega); (focus omega); (iterate 2 exact rfl)) | apply EL.nil
       | ((with_reducible apply EK.then_normal); apply EK.code) | (apply EC.cond_false; exact rfl)
       | (with_reducible first | apply EC.seq | apply EC.region | apply EC.skip | apply EC.label | apply EC.block | apply EC.exit | apply EC.ret | apply EK.in_normal | apply EK.in_same | apply EK.in_ret | apply EK.then_ret | apply EK.then_exit))
    refine EK.again ⟨k + 1, hlt⟩ (by dsimp only; omega) ?_
    simp only [Int.natCast_add]
    exact (Le.keep (by repeat first | exact trivial | refine ⟨rfl, ?_⟩) (by repeat first | exact List.nil_sublist _ | apply List.Sublist.cons_cons | apply List.Sublist.cons) (by simp))
  · skip
    repeat
      (first
       | (apply P_move; (iterate 3 exact rfl)) | (apply P_assign; (iterate 3 exact rfl)) | (apply P_field; (iterate 6 exact rfl))
       | (apply P_load; exact rfl; (first | exact I0 | exact I1 | exact I2 | exact I3 | exact I4 | exact I5 | exact I6); (iterate 4 exact rfl))
       | (apply P_cmp (b := false); (iterate 2 exact rfl); (focus (first | (simp [cmpI]; done) | (simp [cmpI]; omega))); (iterate 2 exact rfl)) | (apply P_lensl; (iterate 4 exact rfl)) | apply EL.nil
       | ((with_reducible apply EK.then_normal); apply EK.code) | (apply EC.cond_false; exact rfl)
       | (with_reducible first | apply EC.seq | apply EC.region | apply EC.skip | apply EC.label | apply EC.block | apply EC.exit | apply EC.ret | apply EK.in_normal | apply EK.in_same | apply EK.in_ret | apply EK.then_ret | apply EK.then_exit))
    exact EK.ret1 rfl rfl rfl
set_option maxRecDepth 20000 in
set_option maxHeartbeats 8000000 in
theorem f_sameAccounts (l : List AcL) (hl : l.length ≤ 1099511627776) (hx : ∀ x ∈ l, x.sl.length ≤ 1099511627776) : Fn 20 [.sl 55 (l.map dAcL), .sl 55 (l.map dAcL)] (· = .val (.v (.bool true))) := by
  have hml : (l.map dAcL).length = l.length := List.length_map _
  refine Fn.walk 27 Tryz.func20 rfl Tryz.ntmps20 (by simp) fun X => ?_
  repeat
    (first
     | (apply P_move; (iterate 3 exact rfl)) | (apply P_assign; (iterate 3 exact rfl))
     | (apply P_cmp (b := false); (iterate 2 exact rfl); (focus (first | (simp [cmpI]; done) | (simp [cmpI]; omega))); (iterate 2 exact rfl)) | (apply P_lensl; (iterate 4 exact rfl)) | apply EL.nil
     | ((with_reducible apply EK.then_normal); apply EK.code) | (apply EC.cond_false; exact rfl)
     | (with_reducible first | apply EC.seq | apply EC.region | apply EC.skip | apply EC.label | apply EC.block | apply EC.exit | apply EC.ret | apply EK.in_normal | apply EK.in_same | apply EK.in_ret | apply EK.then_ret | apply EK.then_exit))
  refine EC.loop (ι := {k : Nat // k ≤ l.length})
    (fun k => ⟨[(5, .val (.v (.int .i64 (k.1 : Int)))), (0, .val (.sl 55 (l.map dAcL))), (1, .val (.sl 55 (l.map dAcL)))], [], []⟩)
    (fun k => l.length - k.1) ⟨0, by omega⟩ ?_ ?_
  · exact (Le.keep (by repeat first | exact trivial | refine ⟨rfl, ?_⟩) (by repeat first | exact List.nil_sublist _ | apply List.Sublist.cons_cons | apply List.Sublist.cons) (by simp))
  rintro ⟨k, hk⟩
  dsimp only at hk ⊢
  by_cases hlt : k < l.length
  · have hy : (l.map dAcL)[k]? = some (dAcL l[k]) := by rw [List.getElem?_map, List.getElem?_eq_getElem hlt]; rfl
    have hc := f_sameAccount l[k] (hx _ (List.getElem_mem hlt))
    generalize l[k] = s at hy hc
    repeat
      (first
       | (apply P_move; (iterate 3 exact rfl)) | (apply P_cmp (b := true); (iterate 2 exact rfl); (focus (first | (simp [cmpI]; done) | (simp [cmpI]; omega))); (iterate 2 exact rfl))
       | (apply P_lensl; (iterate 4 exact rfl)) | apply EL.nil | ((with_reducible apply EK.then_normal); apply EK.code) | (apply EC.cond_true; exact rfl)
       | (with_reducible first | apply EC.seq | apply EC.region | apply EC.skip | apply EC.label | apply EC.block | apply EC.exit | apply EC.ret | apply EK.in_normal | apply EK.in_same | apply EK.in_ret | apply EK.then_ret | apply EK.then_exit))
    refine EC.draw 10 (by kernel_rfl) ?_
    simp only [List.take_succ_cons, List.take_zero, List.drop_succ_cons, List.drop_zero]
    repeat
      (first
       | (apply H_call (hc); exact rfl; (focus (repeat first | exact RefineL.refl _ _ | exact RL.nil | exact Rf.same | exact Rf.bs0 | exact Rf.sl0 | (apply Rf.fact; (focus (simp; done)); exact rfl) | apply Rf.tup | apply RL.cons)); (focus (intro _ _; simp [go_sem]; done)); (iterate 2 exact rfl))
       | (apply H_move; (iterate 3 exact rfl)) | (apply H_loadpd; (iterate 5 exact rfl)) | (apply H_not; (iterate 3 exact rfl))
       | (apply H_index; (iterate 4 exact rfl); (focus (first | exact ⟨by decide, rfl⟩ | (refine ⟨by omega, ?_⟩; rw [Int.toNat_natCast]; assumption))); (iterate 2 exact rfl))
       | ((with_reducible apply EH.nil); exact rfl))
    repeat
      (first
       | (apply P_move; (iterate 3 exact rfl)) | (apply P_assign; (iterate 3 exact rfl)) | (apply P_ar; (iterate 3 exact rfl); (focus omega); (focus omega); (iterate 2 exact rfl)) | apply EL.nil
       | ((with_reducible apply EK.then_normal); apply EK.code) | (apply EC.cond_false; exact rfl)
       | (with_reducible first | apply EC.seq | apply EC.region | apply EC.skip | apply EC.label | apply EC.block | apply EC.exit | apply EC.ret | apply EK.in_normal | apply EK.in_same | apply EK.in_ret | apply EK.then_ret | apply EK.then_exit))
    refine EK.again ⟨k + 1, hlt⟩ (by dsimp only; omega) ?_
    simp only [Int.natCast_add]
    exact (Le.keep (by repeat first | exact trivial | refine ⟨rfl, ?_⟩) (by repeat first | exact List.nil_sublist _ | apply List.Sublist.cons_cons | apply List.Sublist.cons) (by simp))
  · skip
    repeat
      (first
       | (apply P_move; (iterate 3 exact rfl)) | (apply P_assign; (iterate 3 exact rfl))
       | (apply P_cmp (b := false); (iterate 2 exact rfl); (focus (first | (simp [cmpI]; done) | (simp [cmpI]; omega))); (iterate 2 exact rfl)) | (apply P_lensl; (iterate 4 exact rfl)) | apply EL.nil
       | ((with_reducible apply EK.then_normal); apply EK.code) | (apply EC.cond_false; exact rfl)
       | (with_reducible first | apply EC.seq | apply EC.region | apply EC.skip | apply EC.label | apply EC.block | apply EC.exit | apply EC.ret | apply EK.in_normal | apply EK.in_same | apply EK.in_ret | apply EK.then_ret | apply EK.then_exit))
    exact EK.ret1 rfl rfl rfl
end E
end Go.Proofs.YtdhicdnmgmkpkaaGreat
/-
  The laws' Big.
  Conditions: none.
-/
namespace Go.Proofs.YtdhicdnmgmkpkaaGreat
set_option linter.unusedVariables false
open Go.RowKit Mono Rlp Wd Go.Sort
namespace E
def bigA (l : List AcL) : Bool := decide (20 < l.length) || l.any fun x => decide (300 < x.cd.length) || decide (20 < x.sl.length)
theorem any_at {α : Type} {p : α → Bool} {l : List α} {i : Nat} (h : i < l.length) (hp : p l[i] = true) : l.any p = true := List.any_eq_true.2 ⟨l[i], List.getElem_mem h, hp⟩
set_option maxRecDepth 20000 in
set_option maxHeartbeats 8000000 in
theorem f_bigA (l : List AcL) : Fn 12 [.sl 55 (l.map dAcL)] (· = .val (.v (.bool (bigA l)))) := by
  have hml : (l.map dAcL).length = l.length := List.length_map _
  refine Fn.walk 29 Tryz.func12 rfl Tryz.ntmps12 (by simp) fun X => ?_
  unfold bigA
  by_cases h20 : 20 < l.length
  · rw [show decide (20 < l.length) = true by simp [h20], Bool.true_or]
    repeat
      (first
       | (apply P_move; (iterate 3 exact rfl)) | (apply P_assign; (iterate 3 exact rfl))
       | (apply P_cmp (b := true); (iterate 2 exact rfl); (focus (first | (simp [cmpI]; done) | (simp [cmpI]; omega))); (iterate 2 exact rfl)) | (apply P_lensl; (iterate 4 exact rfl)) | apply EL.nil
       | ((with_reducible apply EK.then_normal); apply EK.code) | (apply EC.cond_true; exact rfl)
       | (with_reducible first | apply EC.seq | apply EC.region | apply EC.skip | apply EC.label | apply EC.block | apply EC.exit | apply EC.ret | apply EK.in_normal | apply EK.in_same | apply EK.in_ret | apply EK.then_ret | apply EK.then_exit))
    exact EK.ret1 rfl rfl rfl
  · rw [show decide (20 < l.length) = false by simp [h20], Bool.false_or]
    repeat
      (first
       | (apply P_move; (iterate 3 exact rfl)) | (apply P_assign; (iterate 3 exact rfl))
       | (apply P_cmp (b := false); (iterate 2 exact rfl); (focus (first | (simp [cmpI]; done) | (simp [cmpI]; omega))); (iterate 2 exact rfl)) | (apply P_lensl; (iterate 4 exact rfl)) | apply EL.nil
       | ((with_reducible apply EK.then_normal); apply EK.code) | (apply EC.cond_false; exact rfl)
       | (with_reducible first | apply EC.seq | apply EC.region | apply EC.skip | apply EC.label | apply EC.block | apply EC.exit | apply EC.ret | apply EK.in_normal | apply EK.in_same | apply EK.in_ret | apply EK.then_ret | apply EK.then_exit))
    refine EC.loop (ι := {i : Nat // i ≤ l.length ∧ (l.take i).any (fun x => decide (300 < x.cd.length) || decide (20 < x.sl.length)) = false})
      (fun i => ⟨[(3, .val (.v (.int .i64 (i.1 : Int)))), (0, .val (.sl 55 (l.map dAcL)))], [], []⟩)
      (fun i => l.length - i.1) ⟨0, Nat.zero_le _, rfl⟩ ?_ ?_
    · exact (Le.keep (by repeat first | exact trivial | refine ⟨rfl, ?_⟩) (by repeat first | exact List.nil_sublist _ | apply List.Sublist.cons_cons | apply List.Sublist.cons) (by simp))
    rintro ⟨i, hi, hno⟩
    dsimp only at hi ⊢
    by_cases hlt : i < l.length
    · have hd : (l.map dAcL)[i]? = some (dAcL l[i]) := by rw [List.getElem?_map, List.getElem?_eq_getElem hlt]; rfl
      have htk : l.take (i + 1) = l.take i ++ [l[i]] := List.take_succ_eq_append_getElem hlt
      have hat := any_at (p := fun x : AcL => decide (300 < x.cd.length) || decide (20 < x.sl.length)) hlt
      generalize l[i] = x at hd htk hat
      have hsl : (x.sl.map dSlL).length = x.sl.length := List.length_map _
      unfold dAcL at hd
      by_cases hc : 300 < x.cd.length
      · rw [hat (by simp [hc])]
        repeat
          (first
           | (apply P_skip; (iterate 2 exact rfl)) | (apply P_move; (iterate 3 exact rfl)) | (apply P_assign; (iterate 3 exact rfl)) | (apply P_fieldpd; (iterate 7 exact rfl))
           | (apply P_loadpd; (iterate 5 exact rfl)) | (apply P_pick; (iterate 4 exact rfl))
           | (apply P_cmp (b := true); (iterate 2 exact rfl); (focus (first | (simp [cmpI]; done) | (simp [cmpI]; omega))); (iterate 2 exact rfl)) | (apply P_lenbs; (iterate 4 exact rfl))
           | (apply P_lensl; (iterate 4 exact rfl))
           | (apply P_index; (iterate 4 exact rfl); (focus (first | exact ⟨by decide, rfl⟩ | (refine ⟨by omega, ?_⟩; rw [Int.toNat_natCast]; assumption))); (iterate 2 exact rfl)) | apply EL.nil
           | ((with_reducible apply EK.then_normal); apply EK.code) | (apply EC.cond_true; exact rfl)
           | (with_reducible first | apply EC.seq | apply EC.region | apply EC.skip | apply EC.label | apply EC.block | apply EC.exit | apply EC.ret | apply EK.in_normal | apply EK.in_same | apply EK.in_ret | apply EK.then_ret | apply EK.then_exit))
        exact EK.ret1 rfl rfl rfl
      · by_cases hs : 20 < x.sl.length
        · rw [hat (by simp [hs])]
          repeat
            (first
             | (apply P_move; (iterate 3 exact rfl)) | (apply P_assign; (iterate 3 exact rfl)) | (apply P_fieldpd; (iterate 7 exact rfl)) | (apply P_loadpd; (iterate 5 exact rfl))
             | (apply P_pick; (iterate 4 exact rfl)) | (apply P_cmp (b := true); (iterate 2 exact rfl); (focus (first | (simp [cmpI]; done) | (simp [cmpI]; omega))); (iterate 2 exact rfl))
             | (apply P_cmp (b := false); (iterate 2 exact rfl); (focus (first | (simp [cmpI]; done) | (simp [cmpI]; omega))); (iterate 2 exact rfl)) | (apply P_lenbs; (iterate 4 exact rfl))
             | (apply P_lensl; (iterate 4 exact rfl))
             | (apply P_index; (iterate 4 exact rfl); (focus (first | exact ⟨by decide, rfl⟩ | (refine ⟨by omega, ?_⟩; rw [Int.toNat_natCast]; assumption))); (iterate 2 exact rfl)) | apply EL.nil
             | ((with_reducible apply EK.then_normal); apply EK.code) | (apply EC.cond_true; exact rfl)
             | (with_reducible first | apply EC.seq | apply EC.region | apply EC.skip | apply EC.label | apply EC.block | apply EC.exit | apply EC.ret | apply EK.in_normal | apply EK.in_same | apply EK.in_ret | apply EK.then_ret | apply EK.then_exit))
          exact EK.ret1 rfl rfl rfl
        · skip
          repeat
            (first
             | (apply P_move; (iterate 3 exact rfl)) | (apply P_assign; (iterate 3 exact rfl)) | (apply P_fieldpd; (iterate 7 exact rfl)) | (apply P_loadpd; (iterate 5 exact rfl))
             | (apply P_pick; (iterate 4 exact rfl)) | (apply P_cmp (b := true); (iterate 2 exact rfl); (focus (first | (simp [cmpI]; done) | (simp [cmpI]; omega))); (iterate 2 exact rfl))
             | (apply P_cmp (b := false); (iterate 2 exact rfl); (focus (first | (simp [cmpI]; done) | (simp [cmpI]; omega))); (iterate 2 exact rfl))
             | (apply P_ar; (iterate 3 exact rfl); (focus omega); (focus omega); (iterate 2 exact rfl)) | (apply P_lenbs; (iterate 4 exact rfl)) | (apply P_lensl; (iterate 4 exact rfl))
             | (apply P_index; (iterate 4 exact rfl); (focus (first | exact ⟨by decide, rfl⟩ | (refine ⟨by omega, ?_⟩; rw [Int.toNat_natCast]; assumption))); (iterate 2 exact rfl)) | apply EL.nil
             | ((with_reducible apply EK.then_normal); apply EK.code) | (apply EC.cond_true; exact rfl) | (apply EC.cond_false; exact rfl)
             | (with_reducible first | apply EC.seq | apply EC.region | apply EC.skip | apply EC.label | apply EC.block | apply EC.exit | apply EC.ret | apply EK.in_normal | apply EK.in_same | apply EK.in_ret | apply EK.then_ret | apply EK.then_exit))
          refine EK.again ⟨i + 1, hlt, ?_⟩ (by dsimp only; omega) ?_
          · rw [htk, List.any_append, hno]
            simp [hc, hs]
          · simp only [Int.natCast_add]
            exact (Le.keep (by repeat first | exact trivial | refine ⟨rfl, ?_⟩) (by repeat first | exact List.nil_sublist _ | apply List.Sublist.cons_cons | apply List.Sublist.cons) (by simp))
    · have hiE : i = l.length := by omega
      subst hiE
      rw [List.take_length] at hno
      rw [hno]
      repeat
        (first
         | (apply P_move; (iterate 3 exact rfl)) | (apply P_assign; (iterate 3 exact rfl))
         | (apply P_cmp (b := false); (iterate 2 exact rfl); (focus (first | (simp [cmpI]; done) | (simp [cmpI]; omega))); (iterate 2 exact rfl)) | (apply P_lensl; (iterate 4 exact rfl)) | apply EL.nil
         | ((with_reducible apply EK.then_normal); apply EK.code) | (apply EC.cond_false; exact rfl)
         | (with_reducible first | apply EC.seq | apply EC.region | apply EC.skip | apply EC.label | apply EC.block | apply EC.exit | apply EC.ret | apply EK.in_normal | apply EK.in_same | apply EK.in_ret | apply EK.then_ret | apply EK.then_exit))
      exact EK.ret1 rfl rfl rfl
theorem small_A {l : List AcL} (h : bigA l = false) : l.length ≤ 20 ∧ ∀ x ∈ l, x.cd.length ≤ 300 ∧ x.sl.length ≤ 20 := by
  unfold bigA at h
  rw [Bool.or_eq_false_iff, decide_eq_false_iff_not, List.any_eq_false] at h
  refine ⟨by omega, fun x hx => ?_⟩
  have := h.2 x hx
  simp only [Bool.or_eq_true, decide_eq_true_eq, not_or] at this
  omega
end E
end Go.Proofs.YtdhicdnmgmkpkaaGreat
