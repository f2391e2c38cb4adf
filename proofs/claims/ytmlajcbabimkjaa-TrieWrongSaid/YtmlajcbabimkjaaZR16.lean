/-
  Merged (wip/tools/merge.py): AN2, AN3, SK1, SW2.
  Conditions: none.
-/
import Derived.Test.YtmlajcbabimkjaaZR15
import Derived.Test.YtmlajcbabimkjaaZR11
import Derived.RangeFuncNested
import Derived.RangeFuncLeaves
import Derived.RangeFuncBound
import Derived.Maps.RangeRun
import Derived.Maps.AppendAt
import Derived.Sort.MapsRangeIn
import Derived.Shelf.Abstract
import Derived.OwnWalkIn
import Derived.TacticsInMore
import Derived.RegionIn
import Derived.LoopNIn
import Derived.LoopIn
import Derived.WalkKit
/-
  slices.DeleteFunc and slices.Clone at rows of nodes; shape.Kids.
  Conditions: none.
-/
namespace Go.Proofs.Ytmlajcbabimkjaa
set_option linter.unusedVariables false
open Go.RowKit Mono Rlp
namespace E
def keepN (ts : List Tn) : List Tn := ts.filter fun t => !t.isNil
structure Dlt (ts R : List Tn) (k i : Nat) : Prop where
  len : R.length = ts.length
  ki : k < i
  le : i ≤ ts.length
  hd : R.take k = keepN (ts.take i)
  tl : R.drop i = ts.drop i
theorem Dlt.at_ {ts R : List Tn} {k i : Nat} (h : Dlt ts R k i) (hi : i < ts.length) : R[i]? = some ts[i] := by
  have h1 := congrArg (fun l => l[0]?) h.tl
  simp only [List.getElem?_drop, Nat.add_zero] at h1
  rw [h1, List.getElem?_eq_getElem hi]
theorem Dlt.skip {ts R : List Tn} {k i : Nat} (h : Dlt ts R k i) (hi : i < ts.length) (hn : ts[i].isNil = true) : Dlt ts R k (i + 1) :=
  ⟨h.len, by have := h.ki; omega, hi, by
    rw [h.hd, List.take_succ_eq_append_getElem hi]
    unfold keepN
    rw [List.filter_append, List.filter_cons_of_neg (by simp [hn]), List.filter_nil, List.append_nil], by
    have := congrArg (List.drop 1) h.tl
    rwa [List.drop_drop, List.drop_drop] at this⟩
theorem Dlt.keep {ts R : List Tn} {k i : Nat} (h : Dlt ts R k i) (hi : i < ts.length) (hn : ts[i].isNil = false) : Dlt ts (R.set k ts[i]) (k + 1) (i + 1) :=
  ⟨by rw [List.length_set, h.len], by have := h.ki; omega, hi, by
    have hk : k < R.length := by rw [h.len]; have := h.ki; omega
    rw [List.take_succ_eq_append_getElem (by rw [List.length_set]; exact hk), List.getElem_set_self, List.take_set_of_le (Nat.le_refl _), h.hd, List.take_succ_eq_append_getElem hi]
    unfold keepN
    rw [List.filter_append, List.filter_cons_of_pos (by simp [hn]), List.filter_nil], by
    have := congrArg (List.drop 1) h.tl
    rw [List.drop_drop, List.drop_drop] at this
    rw [List.drop_set_of_lt (by have := h.ki; omega)]
    exact this⟩
set_option maxRecDepth 20000 in
set_option maxHeartbeats 8000000 in
theorem delete_nd (v : Value) (ts : List Tn) (hl : ts.length ≤ 1000000) : FnM 100 [.v v, .v ndF] [ndO v ts] (fun r os' => ∃ v', r = .val (.v v') ∧ os' = [ndO v' (keepN ts)]) := by
  have hix := index_nd v ts hl
  refine FnM.walk 42 Try.func100 rfl Try.ntmps100 (by simp) fun X => ?_
  by_cases hnone : nilAt ts 0 = -1
  · rw [hnone] at hix
    have hk : keepN ts = ts := nilAt_none ts 0 hnone
    rw [hk]
    repeat
      (first
       | ((apply P_callMD (hix); (iterate 2 exact rfl); (focus (repeat first | exact RefineL.refl _ _ | exact RL.nil | exact Rf.same | exact Rf.bs0 | exact Rf.sl0 | (apply Rf.fact; (focus (simp; done)); exact rfl) | apply Rf.tup | apply RL.cons)); (focus (intro _ _; simp [go_sem]; done)); (iterate 2 exact rfl)))
       | (apply P_move; (iterate 3 exact rfl)) | (apply P_assign; (iterate 3 exact rfl))
       | (apply P_cmp (b := true); (iterate 2 exact rfl); (focus (first | (simp [cmpI]; done) | (simp [cmpI]; omega))); (iterate 2 exact rfl)) | apply EL.nil
       | ((with_reducible apply EK.then_normal); apply EK.code) | (apply EC.cond_true; exact rfl)
       | (with_reducible first | apply EC.seq | apply EC.region | apply EC.skip | apply EC.label | apply EC.block | apply EC.exit | apply EC.ret | apply EK.in_normal | apply EK.in_same | apply EK.in_ret | apply EK.then_ret | apply EK.then_exit))
    exact EK.retM1s [ndO v ts] rfl rfl (by (repeat first | exact List.nil_sublist _ | apply List.Sublist.cons_cons | apply List.Sublist.cons)) ⟨v, rfl, rfl⟩
  · obtain ⟨j, h1, h2, h3⟩ := nilAt_some ts 0 hnone
    rw [Nat.zero_add] at h1
    rw [h1] at hix
    repeat
      (first
       | ((apply P_callMD (hix); (iterate 2 exact rfl); (focus (repeat first | exact RefineL.refl _ _ | exact RL.nil | exact Rf.same | exact Rf.bs0 | exact Rf.sl0 | (apply Rf.fact; (focus (simp; done)); exact rfl) | apply Rf.tup | apply RL.cons)); (focus (intro _ _; simp [go_sem]; done)); (iterate 2 exact rfl)))
       | (apply P_move; (iterate 3 exact rfl)) | (apply P_assign; (iterate 3 exact rfl))
       | (apply P_cmp (b := false); (iterate 2 exact rfl); (focus (first | (simp [cmpI]; done) | (simp [cmpI]; omega))); (iterate 2 exact rfl))
       | (apply P_ar; (iterate 3 exact rfl); (focus omega); (focus omega); (iterate 2 exact rfl)) | apply EL.nil | ((with_reducible apply EK.then_normal); apply EK.code) | (apply EC.cond_false; exact rfl)
       | (with_reducible first | apply EC.seq | apply EC.region | apply EC.skip | apply EC.label | apply EC.block | apply EC.exit | apply EC.ret | apply EK.in_normal | apply EK.in_same | apply EK.in_ret | apply EK.then_ret | apply EK.then_exit))
    refine EC.loop (ι := {x : Nat × Nat × List Tn // Dlt ts x.2.2 x.2.1 x.1})
      (fun x => ⟨[(6, .val (.v (.int .i64 (x.1.1 : Int)))), (5, .val (.v (.int .i64 (x.1.2.1 : Int)))), (1, .val (.v ndF)), (0, .val (.v v))], [ndO v x.1.2.2], []⟩)
      (fun x => ts.length - x.1.1) ⟨(j + 1, j, ts), rfl, by dsimp only; omega, h2, h3.symm, rfl⟩ ?_ ?_
    · simp only [Int.natCast_add]
      exact (Le.keep (by repeat first | exact trivial | refine ⟨rfl, ?_⟩) (by repeat first | exact List.nil_sublist _ | apply List.Sublist.cons_cons | apply List.Sublist.cons) (by simp))
    rintro ⟨⟨i, k, R⟩, hD⟩
    dsimp only at hD ⊢
    have hRl : (R.map dT).length = ts.length := by rw [List.length_map, hD.len]
    have hRn : R.length = ts.length := hD.len
    have hki := hD.ki
    have hil := hD.le
    by_cases hlt : i < ts.length
    · have hd : (R.map dT)[i]? = some (dT ts[i]) := by rw [List.getElem?_map, hD.at_ hlt]; rfl
      have hsub := sub_Tn ts[i]
      have hb := f_isNil ts[i]
      cases hn : ts[i].isNil with
      | true =>
        rw [hn] at hb
        have hD2 := hD.skip hlt hn
        repeat
          (first
           | (apply P_rowload (k := i) (off := 0) (d := dT ts[i]) (d' := dT ts[i]); exact rfl; exact I0; exact ⟨by simp, hd⟩; exact rfl; exact hsub; (iterate 2 exact rfl))
           | (apply P_callMV (os := []) (caps := []) (ds' := [dT ts[i]]) (cds := []) hb.toMT; (exact fun base ok L a w _ => rfl); (iterate 3 exact rfl); exact RefineL.refl _ _; (focus (intro _ _; simp [go_sem]; done)); (iterate 2 exact rfl); rintro _ _ ⟨rfl, rfl⟩; simp only [List.nil_append])
           | (apply P_move; (iterate 3 exact rfl)) | (apply P_assign; (iterate 3 exact rfl)) | (apply P_not; (iterate 3 exact rfl))
           | (apply P_cmp (b := true); (iterate 2 exact rfl); (focus (first | (simp [cmpI]; done) | (simp [cmpI]; omega))); (iterate 2 exact rfl))
           | (apply P_ar; (iterate 3 exact rfl); (focus omega); (focus omega); (iterate 2 exact rfl))
           | (apply P_lenrow; exact rfl; (first | exact I0 | exact I1 | exact I2 | exact I3 | exact I4 | exact I5 | exact I6); (iterate 3 exact rfl))
           | (apply P_rowidx; exact rfl; (first | exact I0 | exact I1 | exact I2 | exact I3 | exact I4 | exact I5 | exact I6); (iterate 2 exact rfl); (focus (first | assumption | omega | (constructor <;> (first | (simp; done) | (simp; omega))))); (iterate 2 exact rfl))
           | apply EL.nil | ((with_reducible apply EK.then_normal); apply EK.code) | (apply EC.cond_true; exact rfl) | (apply EC.cond_false; exact rfl)
           | (with_reducible first | apply EC.seq | apply EC.region | apply EC.skip | apply EC.label | apply EC.block | apply EC.exit | apply EC.ret | apply EK.in_normal | apply EK.in_same | apply EK.in_ret | apply EK.then_ret | apply EK.then_exit))
        refine EK.again ⟨(i + 1, k, R), hD2⟩ (by dsimp only; omega) ?_
        simp only [Int.natCast_add]
        exact (Le.keep (by repeat first | exact trivial | refine ⟨rfl, ?_⟩) (by repeat first | exact List.nil_sublist _ | apply List.Sublist.cons_cons | apply List.Sublist.cons) (by simp))
      | false =>
        rw [hn] at hb
        have hD2 := hD.keep hlt hn
        have hkR : k < R.length := by rw [hD.len]; omega
        have hd2 : (R.map dT)[k]? = some (dT R[k]) := by rw [List.getElem?_map, List.getElem?_eq_getElem hkR]; rfl
        have hset : (R.map dT).set k (dT ts[i]) = (R.set k ts[i]).map dT := by rw [List.map_set]
        repeat
          (first
           | (apply P_rowload (k := i) (off := 0) (d := dT ts[i]) (d' := dT ts[i]); exact rfl; exact I0; exact ⟨by simp, hd⟩; exact rfl; exact hsub; (iterate 2 exact rfl))
           | (apply P_callMV (os := []) (caps := []) (ds' := [dT ts[i]]) (cds := []) hb.toMT; (exact fun base ok L a w _ => rfl); (iterate 3 exact rfl); exact RefineL.refl _ _; (focus (intro _ _; simp [go_sem]; done)); (iterate 2 exact rfl); rintro _ _ ⟨rfl, rfl⟩; simp only [List.nil_append])
           | (apply P_rowstore (k := k) (off := 0) (d := dT R[k]) (d' := dT ts[i]) (d'' := dT ts[i]); exact rfl; exact .z; exact ⟨by simp, hd2⟩; exact rfl; (rw [(dT_one ts[i]).1, (dT_one ts[i]).2]; exact rfl); exact upd_Tn _ _; exact rfl)
           | (apply P_move; (iterate 3 exact rfl)) | (apply P_assign; (iterate 3 exact rfl)) | (apply P_not; (iterate 3 exact rfl))
           | (apply P_cmp (b := true); (iterate 2 exact rfl); (focus (first | (simp [cmpI]; done) | (simp [cmpI]; omega))); (iterate 2 exact rfl))
           | (apply P_ar; (iterate 3 exact rfl); (focus omega); (focus omega); (iterate 2 exact rfl))
           | (apply P_lenrow; exact rfl; (first | exact I0 | exact I1 | exact I2 | exact I3 | exact I4 | exact I5 | exact I6); (iterate 3 exact rfl))
           | (apply P_rowidx; exact rfl; (first | exact I0 | exact I1 | exact I2 | exact I3 | exact I4 | exact I5 | exact I6); (iterate 2 exact rfl); (focus (first | assumption | omega | (constructor <;> (first | (simp; done) | (simp; omega))))); (iterate 2 exact rfl))
           | apply EL.nil | ((with_reducible apply EK.then_normal); apply EK.code) | (apply EC.cond_true; exact rfl)
           | (with_reducible first | apply EC.seq | apply EC.region | apply EC.skip | apply EC.label | apply EC.block | apply EC.exit | apply EC.ret | apply EK.in_normal | apply EK.in_same | apply EK.in_ret | apply EK.then_ret | apply EK.then_exit))
        rw [hset]
        refine EK.again ⟨(i + 1, k + 1, R.set k ts[i]), hD2⟩ (by dsimp only; omega) ?_
        simp only [Int.natCast_add]
        exact (Le.keep (by repeat first | exact trivial | refine ⟨rfl, ?_⟩) (by repeat first | exact List.nil_sublist _ | apply List.Sublist.cons_cons | apply List.Sublist.cons) (by simp))
    · obtain rfl : i = ts.length := by omega
      have hkd := hD.hd
      rw [List.take_length] at hkd
      repeat
        (first
         | (apply P_rowsuf; exact rfl; exact I0; (iterate 2 exact rfl); (focus (constructor <;> (first | omega | (rw [Int.toNat_natCast, hRl]; omega)))); (iterate 2 exact rfl))
         | (apply P_move; (iterate 3 exact rfl)) | (apply P_cmp (b := false); (iterate 2 exact rfl); (focus (first | (simp [cmpI]; done) | (simp [cmpI]; omega))); (iterate 2 exact rfl))
         | (apply P_lenrow; exact rfl; (first | exact I0 | exact I1 | exact I2 | exact I3 | exact I4 | exact I5 | exact I6); (iterate 3 exact rfl)) | apply EL.nil
         | ((with_reducible apply EK.then_normal); apply EK.code) | (apply EC.cond_false; exact rfl)
         | (with_reducible first | apply EC.seq | apply EC.region | apply EC.skip | apply EC.label | apply EC.block | apply EC.exit | apply EC.ret | apply EK.in_normal | apply EK.in_same | apply EK.in_ret | apply EK.then_ret | apply EK.then_exit))
      rw [Int.toNat_natCast]
      repeat
        (first
         | (apply P_clearN (k := k) (dz := .v .nilIface); exact rfl; exact .z; (rw [hRl]; omega); (iterate 6 exact rfl)) | (apply P_move; (iterate 3 exact rfl)) | apply EL.nil
         | ((with_reducible apply EK.then_normal); apply EK.code)
         | (with_reducible first | apply EC.seq | apply EC.region | apply EC.skip | apply EC.label | apply EC.block | apply EC.exit | apply EC.ret | apply EK.in_normal | apply EK.in_same | apply EK.in_ret | apply EK.then_ret | apply EK.then_exit))
      have hcl : ((R.map dT).take k ++ List.replicate ((R.map dT).length - k) (D.v .nilIface)).length = ts.length := by
        rw [List.length_append, List.length_take, List.length_replicate, hRl]
        omega
      have hct : ((R.map dT).take k ++ List.replicate ((R.map dT).length - k) (D.v .nilIface)).take k = (keepN ts).map dT := by
        rw [List.take_left' (by rw [List.length_take, hRl]; omega), ← List.map_take, hkd]
      generalize (R.map dT).take k ++ List.replicate ((R.map dT).length - k) (D.v .nilIface) = Z at hcl hct ⊢
      repeat
        (first
         | (apply P_rowcut; exact rfl; exact I0; (iterate 2 exact rfl); (focus (constructor <;> (first | omega | (rw [Int.toNat_natCast, hcl]; omega)))); (iterate 2 exact rfl))
         | (apply P_assign; (iterate 3 exact rfl)) | apply EL.nil | ((with_reducible apply EK.then_normal); apply EK.code)
         | (with_reducible first | apply EC.seq | apply EC.region | apply EC.skip | apply EC.label | apply EC.block | apply EC.exit | apply EC.ret | apply EK.in_normal | apply EK.in_same | apply EK.in_ret | apply EK.then_ret | apply EK.then_exit))
      rw [Int.toNat_natCast]
      refine EK.le (Le.cutRow (k := k) (by rw [hcl]; omega) .z) ?_
      rw [hct]
      exact EK.retM1s [ndO (cutV v k) (keepN ts)] rfl rfl (by (repeat first | exact List.nil_sublist _ | apply List.Sublist.cons_cons | apply List.Sublist.cons)) ⟨_, rfl, rfl⟩
set_option maxRecDepth 20000 in
set_option maxHeartbeats 4000000 in
theorem clone_nd (ts : List Tn) (hl : ts.length = 16) : FnM 101 [.sl 1 (ts.map dT)] [] (fun r os' => ∃ v, r = .val (.v v) ∧ os' = [ndO v ts]) := by
  have hml : (ts.map dT).length = 16 := by rw [List.length_map, hl]
  refine FnM.walk 8 Try.func101 rfl Try.ntmps101 (by simp) fun X => ?_
  repeat
    (first
     | (apply P_slnil; (iterate 6 exact rfl); intro v hv) | (apply P_move; (iterate 3 exact rfl)) | (apply P_assign; (iterate 3 exact rfl)) | apply EL.nil
     | ((with_reducible apply EK.then_normal); apply EK.code)
     | (with_reducible first | apply EC.seq | apply EC.region | apply EC.skip | apply EC.label | apply EC.block | apply EC.exit | apply EC.ret | apply EK.in_normal | apply EK.in_same | apply EK.in_ret | apply EK.then_ret | apply EK.then_exit))
  cases v with
  | true =>
    have h0 := hv rfl
    rw [h0] at hml
    cases hml
  | false =>
    repeat
      (first
       | (refine EL.mut (os := []) (rest := []) rfl (dst_lt rfl rfl) (m_lit0 rfl rfl rfl) ?_; rintro _ _ ⟨v, rfl, rfl⟩; simp only [St.put, List.cons_append, List.nil_append])
       | (apply P_move; (iterate 3 exact rfl)) | (apply P_assign; (iterate 3 exact rfl))
       | ((apply P_append; exact rfl; (focus (repeat first | exact .z | apply SetAt.s | apply SetAtF.s)); (iterate 5 exact rfl); (focus (constructor <;> (first | (simp; done) | (simp; omega))))); intro _)
       | apply EL.nil | ((with_reducible apply EK.then_normal); apply EK.code) | (apply EC.cond_false; exact rfl)
       | (with_reducible first | apply EC.seq | apply EC.region | apply EC.skip | apply EC.label | apply EC.block | apply EC.exit | apply EC.ret | apply EK.in_normal | apply EK.in_same | apply EK.in_ret | apply EK.then_ret | apply EK.then_exit))
    rename_i v'
    exact EK.retM1s [ndO v' ts] rfl rfl (by (repeat first | exact List.nil_sublist _ | apply List.Sublist.cons_cons | apply List.Sublist.cons)) ⟨v', rfl, rfl⟩
def kidsT : Tn → List Tn
  | .ext _ k => [k]
  | .br ks _ => keepN ((List.range 16).map ks)
  | _ => []
set_option maxRecDepth 20000 in
set_option maxHeartbeats 8000000 in
theorem f_Kids (t : Tn) (hn : t.isNil = false) : Fn 67 [dT t] (· = .val (.sl 1 ((kidsT t).map dT))) := by
  refine FnM.toFn ?_
  refine FnM.walk 23 Try.func67 rfl Try.ntmps67 (by simp) fun X => ?_
  cases t with
  | nil => cases hn
  | leaf p v =>
    unfold dT kidsT
    repeat
      (first
       | (apply P_move; (iterate 3 exact rfl)) | (apply P_assign; (iterate 3 exact rfl)) | (apply P_extract; (iterate 4 exact rfl)) | (apply P_asNo; (iterate 6 exact rfl)) | apply EL.nil
       | ((with_reducible apply EK.then_normal); apply EK.code) | (apply EC.cond_false; exact rfl)
       | (with_reducible first | apply EC.seq | apply EC.region | apply EC.skip | apply EC.label | apply EC.block | apply EC.exit | apply EC.ret | apply EK.in_normal | apply EK.in_same | apply EK.in_ret | apply EK.then_ret | apply EK.then_exit))
    refine EK.retM1k [] rfl rfl (RL.cons Rf.sl0 RL.nil) (List.nil_sublist _) ⟨rfl, rfl⟩
  | ext p k =>
    unfold kidsT
    cases k with
    | nil =>
      unfold dT
      repeat
        (first
         | (apply P_move; (iterate 3 exact rfl)) | (apply P_assign; (iterate 3 exact rfl)) | (apply P_fieldpd; (iterate 7 exact rfl)) | (apply P_extract; (iterate 4 exact rfl))
         | (apply P_loadpd; (iterate 5 exact rfl)) | (apply P_lit; (iterate 9 exact rfl)) | (apply P_nilckpd; (iterate 3 exact rfl)) | (apply P_asYes; (iterate 4 exact rfl)) | apply EL.nil
         | ((with_reducible apply EK.then_normal); apply EK.code) | (apply EC.cond_true; exact rfl)
         | (with_reducible first | apply EC.seq | apply EC.region | apply EC.skip | apply EC.label | apply EC.block | apply EC.exit | apply EC.ret | apply EK.in_normal | apply EK.in_same | apply EK.in_ret | apply EK.then_ret | apply EK.then_exit))
      exact EK.retM1s [] rfl rfl (List.nil_sublist _) ⟨rfl, rfl⟩
    | leaf a b =>
      unfold dT
      repeat
        (first
         | (apply P_move; (iterate 3 exact rfl)) | (apply P_assign; (iterate 3 exact rfl)) | (apply P_fieldpd; (iterate 7 exact rfl)) | (apply P_extract; (iterate 4 exact rfl))
         | (apply P_loadpd; (iterate 5 exact rfl)) | (apply P_lit; (iterate 9 exact rfl)) | (apply P_nilckpd; (iterate 3 exact rfl)) | (apply P_asYes; (iterate 4 exact rfl)) | apply EL.nil
         | ((with_reducible apply EK.then_normal); apply EK.code) | (apply EC.cond_true; exact rfl)
         | (with_reducible first | apply EC.seq | apply EC.region | apply EC.skip | apply EC.label | apply EC.block | apply EC.exit | apply EC.ret | apply EK.in_normal | apply EK.in_same | apply EK.in_ret | apply EK.then_ret | apply EK.then_exit))
      exact EK.retM1s [] rfl rfl (List.nil_sublist _) ⟨rfl, rfl⟩
    | ext a b =>
      unfold dT
      repeat
        (first
         | (apply P_move; (iterate 3 exact rfl)) | (apply P_assign; (iterate 3 exact rfl)) | (apply P_fieldpd; (iterate 7 exact rfl)) | (apply P_extract; (iterate 4 exact rfl))
         | (apply P_loadpd; (iterate 5 exact rfl)) | (apply P_lit; (iterate 9 exact rfl)) | (apply P_nilckpd; (iterate 3 exact rfl)) | (apply P_asYes; (iterate 4 exact rfl)) | apply EL.nil
         | ((with_reducible apply EK.then_normal); apply EK.code) | (apply EC.cond_true; exact rfl)
         | (with_reducible first | apply EC.seq | apply EC.region | apply EC.skip | apply EC.label | apply EC.block | apply EC.exit | apply EC.ret | apply EK.in_normal | apply EK.in_same | apply EK.in_ret | apply EK.then_ret | apply EK.then_exit))
      exact EK.retM1s [] rfl rfl (List.nil_sublist _) ⟨rfl, rfl⟩
    | br a b =>
      unfold dT
      repeat
        (first
         | (apply P_move; (iterate 3 exact rfl)) | (apply P_assign; (iterate 3 exact rfl)) | (apply P_fieldpd; (iterate 7 exact rfl)) | (apply P_extract; (iterate 4 exact rfl))
         | (apply P_loadpd; (iterate 5 exact rfl)) | (apply P_lit; (iterate 9 exact rfl)) | (apply P_nilckpd; (iterate 3 exact rfl)) | (apply P_asYes; (iterate 4 exact rfl)) | apply EL.nil
         | ((with_reducible apply EK.then_normal); apply EK.code) | (apply EC.cond_true; exact rfl)
         | (with_reducible first | apply EC.seq | apply EC.region | apply EC.skip | apply EC.label | apply EC.block | apply EC.exit | apply EC.ret | apply EK.in_normal | apply EK.in_same | apply EK.in_ret | apply EK.then_ret | apply EK.then_exit))
      exact EK.retM1s [] rfl rfl (List.nil_sublist _) ⟨rfl, rfl⟩
  | br ks v =>
    have hsz : D.sizes ((List.range 16).map fun i => dT (ks i)) = 16 := by rw [sizes_T, List.length_range]
    have hc := clone_nd ((List.range 16).map ks) (by simp)
    have hall : ∀ d ∈ ((List.range 16).map fun i => dT (ks i)), d.size = 1 := fun d hd => by
      obtain ⟨i, _, rfl⟩ := List.mem_map.1 hd
      exact (dT_one _).1
    have hlen : ((List.range 16).map fun i => dT (ks i)).length = 16 := by simp
    rw [List.map_map, show (dT ∘ ks) = (fun i => dT (ks i)) from rfl] at hc
    unfold dT kidsT
    generalize hE : ((List.range 16).map fun i => dT (ks i)) = K at *
    repeat
      (first
       | (apply P_fieldpd; (iterate 4 exact rfl); exact sub_br0 _ hsz; (iterate 2 exact rfl)) | (apply P_sltup sl_kids rfl; exact rfl; exact hlen; exact hall; (iterate 2 exact rfl))
       | (apply P_callM (os := []) hc; (iterate 2 exact rfl); exact RefineL.refl _ _; (focus (intro _ _; simp [go_sem]; done)); (iterate 2 exact rfl); rintro _ _ ⟨u, rfl, rfl⟩; simp only [List.cons_append, List.nil_append])
       | (apply P_move; (iterate 3 exact rfl)) | (apply P_assign; (iterate 3 exact rfl)) | (apply P_extract; (iterate 4 exact rfl)) | (apply P_nilckpd; (iterate 3 exact rfl))
       | (apply P_asYes; (iterate 4 exact rfl)) | (apply P_asNo; (iterate 6 exact rfl)) | apply EL.nil | ((with_reducible apply EK.then_normal); apply EK.code) | (apply EC.cond_true; exact rfl)
       | (apply EC.cond_false; exact rfl)
       | (with_reducible first | apply EC.seq | apply EC.region | apply EC.skip | apply EC.label | apply EC.block | apply EC.exit | apply EC.ret | apply EK.in_normal | apply EK.in_same | apply EK.in_ret | apply EK.then_ret | apply EK.then_exit))
    refine P_callM (os := [ndO u ((List.range 16).map ks)]) (delete_nd u ((List.range 16).map ks) (by simp)) rfl rfl (RefineL.refl _ _) (by intro _ _; simp [go_sem]) rfl rfl ?_
    rintro _ _ ⟨u', rfl, rfl⟩
    simp only [List.cons_append, List.nil_append]
    refine EL.le (Le.freeze (pre := []) rfl) ?_
    repeat
      (first
       | (apply P_assign; (iterate 3 exact rfl)) | apply EL.nil | ((with_reducible apply EK.then_normal); apply EK.code)
       | (with_reducible first | apply EC.seq | apply EC.region | apply EC.skip | apply EC.label | apply EC.block | apply EC.exit | apply EC.ret | apply EK.in_normal | apply EK.in_same | apply EK.in_ret | apply EK.then_ret | apply EK.then_exit))
    refine EK.retM1k [] rfl rfl (RL.cons (Rf.fact List.mem_cons_self rfl) RL.nil) (List.nil_sublist _) ⟨rfl, rfl⟩
end E
end Go.Proofs.Ytmlajcbabimkjaa
/-
  trie.collect.
  Conditions: none.
-/
namespace Go.Proofs.Ytmlajcbabimkjaa
set_option linter.unusedVariables false
open Go.RowKit Mono Rlp
namespace E
theorem item_nil : Fn 99 [dT .nil] (· = .val (dItem (itemT .nil))) := by
  unfold dT
  refine Fn.walk 85 Try.func99 rfl Try.ntmps99 (by simp) fun X => ?_
  repeat
    (first
     | (apply P_move; (iterate 3 exact rfl)) | (apply P_extract; (iterate 4 exact rfl))
     | (apply P_load; exact rfl; (first | exact I0 | exact I1 | exact I2 | exact I3 | exact I4 | exact I5 | exact I6); (iterate 4 exact rfl)) | (apply P_build; (iterate 7 exact rfl))
     | (apply P_asNil; (iterate 5 exact rfl)) | (apply P_alloc; exact rfl; exact rfl; exact rfl; intro _)
     | (apply P_store; exact rfl; (focus (repeat first | exact .z | apply SetAt.s | apply SetAtF.s)); (iterate 4 exact rfl)) | apply EL.nil | ((with_reducible apply EK.then_normal); apply EK.code)
     | (apply EC.cond_false; exact rfl)
     | (with_reducible first | apply EC.seq | apply EC.region | apply EC.skip | apply EC.label | apply EC.block | apply EC.exit | apply EC.ret | apply EK.in_normal | apply EK.in_same | apply EK.in_ret | apply EK.then_ret | apply EK.then_exit))
  refine EK.retc1r 1 rfl rfl rfl rfl ?_ rfl
  (repeat first | exact RefineL.refl _ _ | exact RL.nil | exact Rf.same | exact Rf.bs0 | exact Rf.sl0 | (apply Rf.fact; (focus (simp; done)); exact rfl) | apply Rf.tup | apply RL.cons)
theorem f_BytesN (t : Tn) (h : t.ok) : Fn 64 [dT t] (· = .val (.bs (pkB (itemT t)))) := by
  cases hn : t.isNil with
  | false => exact f_Bytes t h hn
  | true =>
    cases t with
    | nil => exact f_Bytes_of .nil item_nil
    | leaf _ _ => cases hn
    | ext _ _ => cases hn
    | br _ _ => cases hn
theorem f_KidsN (t : Tn) : Fn 67 [dT t] (· = .val (.sl 1 ((kidsT t).map dT))) := by
  cases hn : t.isNil with
  | false => exact f_Kids t hn
  | true =>
    cases t with
    | nil =>
      refine FnM.toFn ?_
      refine FnM.walk 23 Try.func67 rfl Try.ntmps67 (by simp) fun X => ?_
      unfold dT kidsT
      repeat
        (first
         | (apply P_move; (iterate 3 exact rfl)) | (apply P_assign; (iterate 3 exact rfl)) | (apply P_extract; (iterate 4 exact rfl)) | (apply P_asNil; (iterate 5 exact rfl)) | apply EL.nil
         | ((with_reducible apply EK.then_normal); apply EK.code) | (apply EC.cond_false; exact rfl)
         | (with_reducible first | apply EC.seq | apply EC.region | apply EC.skip | apply EC.label | apply EC.block | apply EC.exit | apply EC.ret | apply EK.in_normal | apply EK.in_same | apply EK.in_ret | apply EK.then_ret | apply EK.then_exit))
      exact EK.retM1k [] rfl rfl (RL.cons Rf.sl0 RL.nil) (List.nil_sublist _) ⟨rfl, rfl⟩
    | leaf _ _ => cases hn
    | ext _ _ => cases hn
    | br _ _ => cases hn
abbrev Mp := Nat × List Ent
def ifput (t : Tn) (root : Bool) (s : Mp) : Mp :=
  if root || decide (32 ≤ (pkB (itemT t)).length) then (tickE s.1 s.2 (hash (pkB (itemT t))), putE s.1 s.2 (hash (pkB (itemT t))) (.bs (pkB (itemT t)))) else s
def colT : Tn → Bool → Mp → Mp
  | .nil, r, s => ifput .nil r s
  | .leaf p v, r, s => ifput (.leaf p v) r s
  | .ext p k, r, s => colT k false (ifput (.ext p k) r s)
  | .br ks v, r, s => (List.range 16).foldl (fun s i => if (ks i).isNil then s else colT (ks i) false s) (ifput (.br ks v) r s)
theorem fold_keep {α : Type} (f : α → Tn) (g : Mp → Tn → Mp) : ∀ (l : List α) (s : Mp), (keepN (l.map f)).foldl g s = l.foldl (fun s a => if (f a).isNil then s else g s (f a)) s
  | [], s => rfl
  | a :: l, s => by
    have ih := fold_keep f g l
    unfold keepN at ih ⊢
    rw [List.map_cons, List.foldl_cons]
    cases h : (f a).isNil with
    | true =>
      rw [List.filter_cons_of_neg (by simp [h]), ih]
      simp
    | false =>
      rw [List.filter_cons_of_pos (by simp [h]), List.foldl_cons, ih]
      simp
theorem colT_kids (t : Tn) (r : Bool) (s : Mp) : colT t r s = (kidsT t).foldl (fun s k => colT k false s) (ifput t r s) := by
  cases t with
  | nil => rfl
  | leaf p v => rfl
  | ext p k => rfl
  | br ks v =>
    unfold kidsT
    rw [fold_keep ks (fun s k => colT k false s)]
    rfl
abbrev mpO (m : Nat) (s : Mp) : Obj := .map m 32 s.1 s.2
set_option maxRecDepth 20000 in
set_option maxHeartbeats 8000000 in
theorem collect_of (m : Nat) (t : Tn) (h : t.ok) (root : Bool) (s : Mp) (hkl : (kidsT t).length ≤ 16)
    (H : ∀ k ∈ kidsT t, ∀ s : Mp, FnM 37 [dT k, .v (.bool false), .v (.map (some m))] [mpO m s] (fun r os' => r = .tpl [] ∧ os' = [mpO m (colT k false s)])) :
    FnM 37 [dT t, .v (.bool root), .v (.map (some m))] [mpO m s] (fun r os' => r = .tpl [] ∧ os' = [mpO m (colT t root s)]) := by
  have hB := f_BytesN t h
  have hK := f_KidsN t
  have hS := f_kSum1 (pkB (itemT t))
  rw [colT_kids]
  generalize hL : kidsT t = L at *
  have hml : (L.map dT).length = L.length := List.length_map _
  obtain ⟨s1, hs1⟩ : ∃ s1, ifput t root s = s1 := ⟨_, rfl⟩
  have hs1' := hs1
  rw [hs1]
  unfold ifput at hs1'
  obtain ⟨s1c, s1e⟩ := s1
  obtain ⟨sc, se⟩ := s
  dsimp only at hs1'
  refine FnM.walk 33 Try.func37 rfl Try.ntmps37 (by simp) fun X => ?_
  refine EC.cut (ι := Unit) (fun _ => ⟨[(0, .val (dT t)), (2, .val (.v (.map (some m))))], [mpO m (s1c, s1e)], []⟩) ?_ ?_
  · by_cases hp : root = true ∨ 32 ≤ (pkB (itemT t)).length
    · rw [if_pos (by simpa using hp)] at hs1'
      obtain ⟨rfl, rfl⟩ := Prod.mk.inj hs1'
      clear hs1 hs1'
      generalize pkB (itemT t) = pb at hB hS hp
      cases root with
      | true =>
        repeat
          (first
           | (apply P_skip; (iterate 2 exact rfl))
           | (apply P_call (hB); exact rfl; (focus (repeat first | exact RefineL.refl _ _ | exact RL.nil | exact Rf.same | exact Rf.bs0 | exact Rf.sl0 | (apply Rf.fact; (focus (simp; done)); exact rfl) | apply Rf.tup | apply RL.cons)); (focus (intro _ _; simp [go_sem]; done)); (iterate 2 exact rfl))
           | (apply P_call (hS); exact rfl; (focus (repeat first | exact RefineL.refl _ _ | exact RL.nil | exact Rf.same | exact Rf.bs0 | exact Rf.sl0 | (apply Rf.fact; (focus (simp; done)); exact rfl) | apply Rf.tup | apply RL.cons)); (focus (intro _ _; simp [go_sem]; done)); (iterate 2 exact rfl))
           | (apply P_move; (iterate 3 exact rfl)) | (apply P_assign; (iterate 3 exact rfl)) | (apply P_pick; (iterate 4 exact rfl)) | (apply P_lit; (iterate 9 exact rfl))
           | (apply P_mapUpd; exact rfl; (focus (repeat first | exact .z | apply SetAt.s | apply SetAtF.s)); (iterate 4 exact rfl)) | apply EL.nil | ((with_reducible apply EK.then_normal); apply EK.code)
           | (apply EC.cond_true; exact rfl)
           | (with_reducible first | apply EC.seq | apply EC.region | apply EC.skip | apply EC.label | apply EC.block | apply EC.exit | apply EC.ret | apply EK.in_normal | apply EK.in_same | apply EK.in_ret | apply EK.then_ret | apply EK.then_exit))
        refine EK.then_normal (EK.meet () ?_)
        exact (Le.keep (by repeat first | exact trivial | refine ⟨rfl, ?_⟩) (by repeat first | exact List.nil_sublist _ | apply List.Sublist.cons_cons | apply List.Sublist.cons) (by simp))
      | false =>
        have hp : 32 ≤ pb.length := by simpa using hp
        repeat
          (first
           | (apply P_call (hB); exact rfl; (focus (repeat first | exact RefineL.refl _ _ | exact RL.nil | exact Rf.same | exact Rf.bs0 | exact Rf.sl0 | (apply Rf.fact; (focus (simp; done)); exact rfl) | apply Rf.tup | apply RL.cons)); (focus (intro _ _; simp [go_sem]; done)); (iterate 2 exact rfl))
           | (apply P_call (hS); exact rfl; (focus (repeat first | exact RefineL.refl _ _ | exact RL.nil | exact Rf.same | exact Rf.bs0 | exact Rf.sl0 | (apply Rf.fact; (focus (simp; done)); exact rfl) | apply Rf.tup | apply RL.cons)); (focus (intro _ _; simp [go_sem]; done)); (iterate 2 exact rfl))
           | (apply P_move; (iterate 3 exact rfl)) | (apply P_assign; (iterate 3 exact rfl)) | (apply P_pick; (iterate 4 exact rfl))
           | (apply P_cmp (b := true); (iterate 2 exact rfl); (focus (first | (simp [cmpI]; done) | (simp [cmpI]; omega))); (iterate 2 exact rfl)) | (apply P_lenbs; (iterate 4 exact rfl))
           | (apply P_lit; (iterate 9 exact rfl)) | (apply P_mapUpd; exact rfl; (focus (repeat first | exact .z | apply SetAt.s | apply SetAtF.s)); (iterate 4 exact rfl)) | apply EL.nil
           | ((with_reducible apply EK.then_normal); apply EK.code) | (apply EC.cond_true; exact rfl)
           | (with_reducible first | apply EC.seq | apply EC.region | apply EC.skip | apply EC.label | apply EC.block | apply EC.exit | apply EC.ret | apply EK.in_normal | apply EK.in_same | apply EK.in_ret | apply EK.then_ret | apply EK.then_exit))
        refine EK.then_normal (EK.meet () ?_)
        exact (Le.keep (by repeat first | exact trivial | refine ⟨rfl, ?_⟩) (by repeat first | exact List.nil_sublist _ | apply List.Sublist.cons_cons | apply List.Sublist.cons) (by simp))
    · rw [if_neg (by simpa using hp)] at hs1'
      obtain ⟨rfl, rfl⟩ := Prod.mk.inj hs1'
      clear hs1 hs1'
      generalize pkB (itemT t) = pb at hB hS hp
      cases root with
      | true => exact absurd (Or.inl rfl) hp
      | false =>
        have hp : ¬ 32 ≤ pb.length := by simpa using hp
        repeat
          (first
           | (apply P_call (hB); exact rfl; (focus (repeat first | exact RefineL.refl _ _ | exact RL.nil | exact Rf.same | exact Rf.bs0 | exact Rf.sl0 | (apply Rf.fact; (focus (simp; done)); exact rfl) | apply Rf.tup | apply RL.cons)); (focus (intro _ _; simp [go_sem]; done)); (iterate 2 exact rfl))
           | (apply P_move; (iterate 3 exact rfl)) | (apply P_assign; (iterate 3 exact rfl)) | (apply P_pick; (iterate 4 exact rfl))
           | (apply P_cmp (b := false); (iterate 2 exact rfl); (focus (first | (simp [cmpI]; done) | (simp [cmpI]; omega))); (iterate 2 exact rfl)) | (apply P_lenbs; (iterate 4 exact rfl)) | apply EL.nil
           | ((with_reducible apply EK.then_normal); apply EK.code) | (apply EC.cond_false; exact rfl)
           | (with_reducible first | apply EC.seq | apply EC.region | apply EC.skip | apply EC.label | apply EC.block | apply EC.exit | apply EC.ret | apply EK.in_normal | apply EK.in_same | apply EK.in_ret | apply EK.then_ret | apply EK.then_exit))
        refine EK.then_normal (EK.meet () ?_)
        exact (Le.keep (by repeat first | exact trivial | refine ⟨rfl, ?_⟩) (by repeat first | exact List.nil_sublist _ | apply List.Sublist.cons_cons | apply List.Sublist.cons) (by simp))
  · rintro ⟨⟩
    clear hs1 hs1' hS hB
    repeat
      (first
       | (apply P_call (hK); exact rfl; (focus (repeat first | exact RefineL.refl _ _ | exact RL.nil | exact Rf.same | exact Rf.bs0 | exact Rf.sl0 | (apply Rf.fact; (focus (simp; done)); exact rfl) | apply Rf.tup | apply RL.cons)); (focus (intro _ _; simp [go_sem]; done)); (iterate 2 exact rfl))
       | (apply P_move; (iterate 3 exact rfl)) | (apply P_lensl; (iterate 4 exact rfl)) | apply EL.nil | ((with_reducible apply EK.then_normal); apply EK.code)
       | (with_reducible first | apply EC.seq | apply EC.region | apply EC.skip | apply EC.label | apply EC.block | apply EC.exit | apply EC.ret | apply EK.in_normal | apply EK.in_same | apply EK.in_ret | apply EK.then_ret | apply EK.then_exit))
    refine EC.loop (ι := {i : Nat // i ≤ L.length})
      (fun i => ⟨[(25, .val (.v (.int .i64 (i.1 : Int)))), (24, .val (.v (.int .i64 ((L.map dT).length : Int)))), (23, .val (.sl 1 (L.map dT))), (2, .val (.v (.map (some m))))], [mpO m ((L.take i.1).foldl (fun s k => colT k false s) (s1c, s1e))], []⟩)
      (fun i => L.length - i.1) ⟨0, Nat.zero_le _⟩ ?_ ?_
    · exact (Le.keep (by repeat first | exact trivial | refine ⟨rfl, ?_⟩) (by repeat first | exact List.nil_sublist _ | apply List.Sublist.cons_cons | apply List.Sublist.cons) (by simp))
    rintro ⟨i, hi⟩
    dsimp only at hi ⊢
    by_cases hlt : i < L.length
    · have hd : (L.map dT)[i]? = some (dT L[i]) := by rw [List.getElem?_map, List.getElem?_eq_getElem hlt]; rfl
      have hk := H L[i] (List.getElem_mem hlt) ((L.take i).foldl (fun s k => colT k false s) (s1c, s1e))
      have hfold : (L.take (i + 1)).foldl (fun s k => colT k false s) (s1c, s1e) = colT L[i] false ((L.take i).foldl (fun s k => colT k false s) (s1c, s1e)) := by
        rw [List.take_succ_eq_append_getElem hlt, List.foldl_append]
        rfl
      have hsub := sub_Tn L[i]
      repeat
        (first
         | ((apply P_callMD (hk); (iterate 2 exact rfl); (focus (repeat first | exact RefineL.refl _ _ | exact RL.nil | exact Rf.same | exact Rf.bs0 | exact Rf.sl0 | (apply Rf.fact; (focus (simp; done)); exact rfl) | apply Rf.tup | apply RL.cons)); (focus (intro _ _; simp [go_sem]; done)); (iterate 2 exact rfl)))
         | (apply P_loadpd; (iterate 2 exact rfl); exact hsub; (iterate 2 exact rfl)) | (apply P_move; (iterate 3 exact rfl)) | (apply P_assign; (iterate 3 exact rfl))
         | (apply P_cmp (b := true); (iterate 2 exact rfl); (focus (first | (simp [cmpI]; done) | (simp [cmpI]; omega))); (iterate 2 exact rfl))
         | (apply P_ar; (iterate 3 exact rfl); (focus omega); (focus omega); (iterate 2 exact rfl))
         | (apply P_index; (iterate 4 exact rfl); (focus (first | exact ⟨by decide, rfl⟩ | (refine ⟨by omega, ?_⟩; rw [Int.toNat_natCast]; assumption))); (iterate 2 exact rfl)) | apply EL.nil
         | ((with_reducible apply EK.then_normal); apply EK.code) | (apply EC.cond_true; exact rfl)
         | (with_reducible first | apply EC.seq | apply EC.region | apply EC.skip | apply EC.label | apply EC.block | apply EC.exit | apply EC.ret | apply EK.in_normal | apply EK.in_same | apply EK.in_ret | apply EK.then_ret | apply EK.then_exit))
      rw [← hfold]
      refine EK.again ⟨i + 1, hlt⟩ (by dsimp only; omega) ?_
      simp only [Int.natCast_add]
      exact (Le.keep (by repeat first | exact trivial | refine ⟨rfl, ?_⟩) (by repeat first | exact List.nil_sublist _ | apply List.Sublist.cons_cons | apply List.Sublist.cons) (by simp))
    · obtain rfl : i = L.length := by omega
      rw [List.take_length]
      repeat
        (first
         | (apply P_cmp (b := false); (iterate 2 exact rfl); (focus (first | (simp [cmpI]; done) | (simp [cmpI]; omega))); (iterate 2 exact rfl)) | apply EL.nil
         | ((with_reducible apply EK.then_normal); apply EK.code) | (apply EC.cond_false; exact rfl)
         | (with_reducible first | apply EC.seq | apply EC.region | apply EC.skip | apply EC.label | apply EC.block | apply EC.exit | apply EC.ret | apply EK.in_normal | apply EK.in_same | apply EK.in_ret | apply EK.then_ret | apply EK.then_exit))
      exact EK.retM0s [mpO m (L.foldl (fun s k => colT k false s) (s1c, s1e))] rfl (by (repeat first | exact List.nil_sublist _ | apply List.Sublist.cons_cons | apply List.Sublist.cons)) ⟨rfl, rfl⟩
theorem kids_len (t : Tn) : (kidsT t).length ≤ 16 := by
  cases t with
  | nil => decide
  | leaf p v => exact Nat.zero_le _
  | ext p k => exact Nat.le_of_ble_eq_true rfl
  | br ks v =>
    have h := List.length_filter_le (fun t : Tn => !t.isNil) ((List.range 16).map ks)
    rw [List.length_map, List.length_range] at h
    exact h
theorem f_collect (m : Nat) : ∀ t : Tn, t.ok → ∀ (root : Bool) (s : Mp), FnM 37 [dT t, .v (.bool root), .v (.map (some m))] [mpO m s] (fun r os' => r = .tpl [] ∧ os' = [mpO m (colT t root s)]) := by
  intro t
  induction t with
  | nil => exact fun h root s => collect_of m .nil h root s (kids_len _) fun k hk => by cases hk
  | leaf p v => exact fun h root s => collect_of m (.leaf p v) h root s (kids_len _) fun k hk => by cases hk
  | ext p k ih =>
    intro h root s
    refine collect_of m (.ext p k) h root s (kids_len _) fun k' hk s => ?_
    rw [List.mem_singleton.1 hk]
    exact ih h.2 false s
  | br ks v ih =>
    intro h root s
    refine collect_of m (.br ks v) h root s (kids_len _) fun k' hk s => ?_
    have hx := (List.mem_filter.1 hk).1
    have : ∃ i, ks i = k' := by
      obtain ⟨i, _, e⟩ := List.mem_map.1 hx
      exact ⟨i, e⟩
    obtain ⟨i, e⟩ := this
    rw [← e]
    exact ih i (h i) false s
end E
end Go.Proofs.Ytmlajcbabimkjaa
/-
  Ranges over maps whose keys are arrays of bytes, inside a fence: laws for the walk.
  Conditions: none.
-/
namespace Go.Proofs.Ytmlajcbabimkjaa
set_option linter.unusedVariables false
open Go.RowKit Mono Rlp
open Go.ChangeMaps (setBlock)
namespace E
abbrev Ky (n : Nat) := {l : List UInt8 // l.length = n}
def kv {n : Nat} (k : Ky n) : Value := arrV k.1
theorem perm_out {es : List MapEntry} (hn : (es.map (·.born)).Nodup) {e : MapEntry} (he : e ∈ es) : es.Perm (e :: es.filter fun x => x.born != e.born) := by
  induction es with
  | nil => cases he
  | cons y es ih =>
    simp only [List.map_cons, List.nodup_cons] at hn
    rcases List.mem_cons.1 he with rfl | he
    · have : es.filter (fun x => x.born != e.born) = es := List.filter_eq_self.2 fun x hx => by
        have : x.born ≠ e.born := fun h => hn.1 (h ▸ List.mem_map.2 ⟨x, hx, rfl⟩)
        simpa using this
      simp [this]
    · have hne : y.born ≠ e.born := fun h => hn.1 (h ▸ List.mem_map.2 ⟨e, he, rfl⟩)
      have : (y :: es).filter (fun x => x.born != e.born) = y :: es.filter (fun x => x.born != e.born) := by simp [hne]
      rw [this]
      exact ((ih hn.2 he).cons y).trans (List.Perm.swap e y _)
theorem leftOf_push (es : Array MapEntry) (seen : Array Nat) (b : Nat) : (leftOf es (seen.push b)).toList = (leftOf es seen).toList.filter fun x => x.born != b := by
  unfold leftOf
  rw [Array.toList_filter, Array.toList_filter, List.filter_filter]
  refine List.filter_congr fun x _ => ?_
  rw [contains_push]
  cases seen.contains x.born <;> cases h : x.born == b <;> simp [bne, h]
def Rng (w : World) (b r : Nat) (es : Array MapEntry) (clock : Nat) (ss : List Value) (cnt : Nat) : Prop :=
  ∃ since seen c0, w.heap[b]? = some (.map es clock) ∧ w.heap[r]? = some (.mapIter (some b) since seen c0) ∧ (∀ x ∈ es.toList, x.born < since) ∧ since ≤ c0 ∧ since ≤ clock ∧ (leftOf es seen).size = cnt ∧ (ss ++ (leftOf es seen).toList.map (·.key)).Perm (es.toList.map (·.key))
variable {w : World} {b r cnt clock : Nat} {es : Array MapEntry} {ss : List Value}
theorem Rng.left_eq (h : Rng w b r es clock ss cnt) : w.rangeLeft b r = cnt := by
  obtain ⟨since, seen, c0, hb, hr, _, _, _, hc, _⟩ := h
  simp only [World.rangeLeft, hb, hr]
  exact hc
theorem Rng.le (h : Rng w b r es clock ss cnt) : ss.length + cnt = es.size := by
  obtain ⟨since, seen, c0, _, _, _, _, _, hc, hp⟩ := h
  have := hp.length_eq
  simp at this
  omega
theorem Rng.iter (h : Rng w b r es clock ss cnt) : ∃ o : Go.Obj, w.heap[r]? = some o ∧ o.isWalk = true := by
  obtain ⟨since, seen, c0, _, hr, _⟩ := h
  exact ⟨_, hr, rfl⟩
theorem Rng.lt (h : Rng w b r es clock ss cnt) : b < w.heap.size ∧ r < w.heap.size := by
  obtain ⟨since, seen, c0, hb, hr, _⟩ := h
  exact ⟨(Array.getElem?_eq_some_iff.1 hb).1, (Array.getElem?_eq_some_iff.1 hr).1⟩
theorem Rng.kept {w' : World} (h : Rng w b r es clock ss cnt) (hb : w'.heap[b]? = w.heap[b]?) (hr : w'.heap[r]? = w.heap[r]?) : Rng w' b r es clock ss cnt := by
  obtain ⟨since, seen, c0, h1, h2, rest⟩ := h
  exact ⟨since, seen, c0, hb.trans h1, hr.trans h2, rest⟩
theorem Rng.walks {w' : World} (h : Rng w b r es clock ss cnt) (hk : KeepsWalks w w') : Rng w' b r es clock ss cnt := by
  obtain ⟨since, seen, c0, h1, h2, rest⟩ := h
  exact ⟨since, seen, c0, hk.same _ _ h1 rfl, hk.same _ _ h2 rfl, rest⟩
theorem Rng.start (hb : w.heap[b]? = some (.map es clock)) (hl : ∀ x ∈ es.toList, x.born < clock) : Rng (w.alloc (.mapIter (some b) clock #[] clock)) b w.heap.size es clock [] es.size := by
  have hlt := (Array.getElem?_eq_some_iff.1 hb).1
  refine ⟨clock, #[], clock, ((MapKept.heap_alloc w _).2 b hlt).trans hb, (MapKept.heap_alloc w _).1, hl, Nat.le_refl _, Nat.le_refl _, ?_, ?_⟩
  · simp [leftOf]
  · simp [leftOf]
    rw [List.filter_eq_self.2 fun _ _ => rfl]
theorem Rng.next (h : Rng w b r es clock ss cnt) (hn : (es.toList.map (·.born)).Nodup) (ty : TypeId) :
    (cnt = 0 ∧ ss.Perm (es.toList.map (·.key)) ∧ (Instr.next (.pointer (some ⟨r, 0, none⟩)) false ty).run Try.prog w = .ok (.tuple #[.bool false]) w) ∨
    ∃ e ∈ es.toList, ∃ w' cnt', (Instr.next (.pointer (some ⟨r, 0, none⟩)) false ty).run Try.prog w = .ok (.tuple #[.bool true, e.key, e.val]) w' ∧ Rng w' b r es clock (ss ++ [e.key]) cnt' ∧ cnt' < cnt ∧ w.grownBy w' (some r) ∧ w'.heap.size = w.heap.size ∧ (Instr.entry (.pointer (some ⟨r, 0, none⟩))).run Try.prog w' = .ok (.tuple #[e.key, e.val]) w' := by
  obtain ⟨since, seen, c0, hb, hr, hold, hsc, hsk, rfl, hp⟩ := h
  have hne : r ≠ b := fun e => by rw [e, hb] at hr; cases hr
  rcases run_next_at (P := Try.prog) w ty r b since c0 seen es clock hr hb hold hsc with ⟨h0, hrun⟩ | ⟨e, he, w1, hal, hrun⟩
  · refine .inl ⟨h0, ?_, hrun⟩
    have : leftOf es seen = #[] := Array.eq_empty_of_size_eq_zero h0
    rw [this] at hp
    simpa using hp
  · obtain ⟨hem, hes⟩ := mem_left he
    have hr1 : w1.heap[r]? = some (.mapIter (some b) since seen c0) := by rcases hal with rfl | rfl <;> exact hr
    have hb1 : w1.heap[b]? = some (.map es clock) := by rcases hal with rfl | rfl <;> exact hb
    have hset := MapKept.heap_set (o' := .mapIter (some b) since (seen.push e.born) clock) hr1
    have hb' : (setBlock w1 r (.mapIter (some b) since (seen.push e.born) clock)).heap[b]? = some (.map es clock) := (hset.2 b (fun e1 => hne e1.symm)).trans hb1
    refine .inr ⟨e, hem, _, _, hrun, ⟨since, seen.push e.born, clock, hb', hset.1, hold, hsk, hsk, rfl, ?_⟩, left_shrinks es seen e he, ?_, ?_, run_entry_at _ r b since seen es clock e hset.1 hb' hem hn⟩
    · have hnl : ((leftOf es seen).toList.map (·.born)).Nodup := by
        unfold leftOf
        rw [Array.toList_filter]
        exact hn.sublist (List.filter_sublist.map _)
      have h1 := (perm_out hnl he).map (·.key)
      rw [← leftOf_push] at h1
      refine List.Perm.trans ?_ hp
      rw [List.append_assoc]
      exact (List.Perm.append_left ss h1).symm
    · rcases hal with rfl | rfl <;> exact ⟨rfl, rfl, rfl, by simp [setBlock], fun i _ hi => hset.2 i (fun e1 => hi (by rw [e1]))⟩
    · rcases hal with rfl | rfl <;> simp [setBlock]
section
variable {n : Nat} {ops : Array Oper} {rest : List Oper} {o : Oper} {a : Act} {Q : Exit → Act → World → Prop} {F : Fence}
theorem in_val (hg : o.guard = none) (ha : ∀ f, o.about Try.prog w a.eval = some f → F.fn f) (hd : ∀ c, o.op ≠ .defer c) {v : Value} {w' : World} (hr : (execOp a.eval o).run Try.prog w = .ok (.value v) w') (k : wpListIn F n Try.prog ops Q rest (a.put o.dst v) w') : wpListIn F n Try.prog ops Q (o :: rest) a w := by
  refine wpListIn_plain hg fun K hK => ⟨ha, ?_⟩
  rw [Oper.semAt_plain F _ _ hd, hr]
  exact hK _ _ k
theorem in_range (hg : o.guard = none) (m : Operand) (t k e : TypeId) (hop : o.op = Op.range t m) (ht : Try.prog.underlying t = some (.map k e)) (hm : a.eval m = .map (some b)) (hb : w.heap[b]? = some (.map es clock))
    (K : wpListIn F n Try.prog ops Q rest (a.put o.dst (.pointer (some ⟨w.heap.size, 0, none⟩))) (w.alloc (.mapIter (some b) clock #[] clock))) : wpListIn F n Try.prog ops Q (o :: rest) a w := by
  refine in_val hg (by simp [Oper.about, hop]) (by rw [hop]; intro c h; cases h) ?_ K
  simp [execOp, hop, hm, run_range_map w t k e b es clock ht hb, Result.andThen]
theorem in_next (hg : o.guard = none) (it : Operand) (hop : o.op = Op.next it false) (hit : a.eval it = .pointer (some ⟨r, 0, none⟩)) (h : Rng w b r es clock ss cnt) (hn : (es.toList.map (·.born)).Nodup)
    (hDone : cnt = 0 → ss.Perm (es.toList.map (·.key)) → wpListIn F n Try.prog ops Q rest (a.put o.dst (.tuple #[.bool false])) w)
    (hMore : ∀ (e : MapEntry) (w' : World) (cnt' : Nat), e ∈ es.toList → Rng w' b r es clock (ss ++ [e.key]) cnt' → cnt' < cnt → w.grownBy w' (some r) → w'.heap.size = w.heap.size → (Instr.entry (.pointer (some ⟨r, 0, none⟩))).run Try.prog w' = .ok (.tuple #[e.key, e.val]) w' → wpListIn F n Try.prog ops Q rest (a.put o.dst (.tuple #[.bool true, e.key, e.val])) w') :
    wpListIn F n Try.prog ops Q (o :: rest) a w := by
  rcases h.next hn o.type with ⟨h0, hp, hrun⟩ | ⟨e, he, w', cnt', hrun, hrg, hlt, hgr, hsz, hen⟩
  · refine in_val hg (by simp [Oper.about, hop]) (by rw [hop]; intro c h; cases h) ?_ (hDone h0 hp)
    simp [execOp, hop, hit, hrun, Result.andThen]
  · refine in_val hg (by simp [Oper.about, hop]) (by rw [hop]; intro c h; cases h) ?_ (hMore e w' cnt' he hrg hlt hgr hsz hen)
    simp [execOp, hop, hit, hrun, Result.andThen]
theorem in_store {g t : Nat} {l : List UInt8} {cs : List Value} (hg : o.guard = none) (T : TypeId) (x y : Operand) (hop : o.op = Op.store T x y) (hT : assoc tyL T = some (l.length, true)) (hx : a.eval x = .pointer (some ⟨g, 0, none⟩)) (hy : a.eval y = arrV l) (hb : w.heap[g]? = some (.cells cs.toArray t (0, 0))) (hs : cs.length = l.length)
    (K : ∀ w', w'.heap[g]? = some (.cells (bvs l).toArray t (0, 0)) → w.grownBy w' (some g) → w'.heap.size = w.heap.size → wpListIn F n Try.prog ops Q rest (a.put o.dst undef) w') : wpListIn F n Try.prog ops Q (o :: rest) a w := by
  have hr : Reads (fun _ => True) w (.arr l.length l) (bvs l) := by rw [Reads]; exact ⟨rfl, rfl⟩
  obtain ⟨_, _, _, hT'⟩ := tyI hT
  have hrun := run_storeAt (T := T) (n := 0) (pre := []) (mid := cs) (post := []) (by rw [hT', Reads.len _ _ hr]; rfl) hr (by simpa using hb) rfl (by rw [bvs_length, hs])
  have hset := setCells_row (bvs l) [] cs [] w (by rw [bvs_length, hs]) (by simpa using hb)
  simp only [List.length_nil, List.nil_append, List.append_nil] at hset
  have hsz : (w.setCells g 0 (bvs l)).heap.size = w.heap.size := by
    have h : ∀ (vs : List Value) (k : Nat) (w : World), (w.setCells g k vs).heap.size = w.heap.size := fun vs => by
      induction vs with
      | nil => intro k w; rfl
      | cons v vs ih =>
        intro k w
        rw [World.setCells, ih]
        show (w.heap.modify _ _).size = _
        rw [Array.size_modify]
    exact h _ _ _
  refine wpListIn_plain hg fun K' hK => ⟨by simp [Oper.about, hop], ?_⟩
  rw [Oper.semAt_plain F _ _ (by rw [hop]; intro c h; cases h)]
  have hrun' : (Instr.storeAt T (.pointer (some ⟨g, 0, none⟩)) (arrV l)).run Try.prog w = .ok () (w.setCells g 0 (bvs l)) := hrun
  simp only [execOp, hop, hx, hy, Sem.run_bind, hrun', Result.andThen_ok, Sem.run_pure]
  exact hK _ _ (K _ hset (grownBy_setCells g (bvs l) 0 w) hsz)
theorem in_load {g t : Nat} {l : List UInt8} (hg : o.guard = none) (T : TypeId) (x : Operand) (hop : o.op = Op.load T x) (hT : assoc tyL T = some (l.length, true)) (hx : a.eval x = .pointer (some ⟨g, 0, none⟩)) (hb : w.heap[g]? = some (.cells (bvs l).toArray t (0, 0)))
    (K : wpListIn F n Try.prog ops Q rest (a.put o.dst (arrV l)) w) : wpListIn F n Try.prog ops Q (o :: rest) a w := by
  have hr : Reads (fun _ => True) w (.arr l.length l) (bvs l) := by rw [Reads]; exact ⟨rfl, rfl⟩
  refine in_val hg (by simp [Oper.about, hop]) (by rw [hop]; intro c h; cases h) ?_ K
  have hrun : (Instr.loadAt T (.pointer (some ⟨g, 0, none⟩))).run Try.prog w = .ok (arrV l) w := run_loadAt (d := .arr l.length l) (tyI hT) hr (range_of_row hb)
  simp only [execOp, hop, hx, Sem.run_bind, hrun, Result.andThen_ok, Sem.run_pure]
end
end E
end Go.Proofs.Ytmlajcbabimkjaa
/-
  The iterator of maps.Keys, at keys that are arrays of bytes.
  Conditions: none.
-/
namespace Go.Proofs.Ytmlajcbabimkjaa
set_option linter.unusedVariables false
open Go.RowKit Mono Rlp
open Go.ChangeMaps (setBlock)
namespace E
set_option maxRecDepth 100000 in
set_option maxHeartbeats 2000000 in
theorem keys1_word (n l Bm b : Nat) (hn1 : 1 ≤ n) (es : Array MapEntry) (clock : Nat) (J Jx : List (Ky 32) → World → Prop)
    (hY : ∀ pre x W, J pre W → pre.length < es.size → YieldAt Fence.wide (n - 1) Try.prog l #[kv x] W fun e W' => (e = .returned (.bool true) ∧ J (pre ++ [x]) W' ∧ KeepsWalks W W') ∨ (e = .returned (.bool false) ∧ Jx (pre ++ [x]) W'))
    (W : World) (hJ : AbidesFrom W.heap.size J) (hm : W.cell? ⟨Bm, 0, none⟩ = some (.map (some b))) (hb : W.heap[b]? = some (.map es clock)) (hn : (es.toList.map (·.born)).Nodup) (hl : ∀ x ∈ es.toList, x.born < clock) (hkey : ∀ x ∈ es.toList, ∃ k : Ky 32, x.key = kv k) (h0 : J [] W) :
    CallsIn Fence.wide n Try.prog 105 #[.func (.yield l) #[] #[], .pointer (some ⟨Bm, 0, none⟩)] W fun e W' => (∃ v, e = .returned v) ∧ ((∃ ss : List (Ky 32), (ss.map kv).Perm (es.toList.map (·.key)) ∧ J ss W') ∨ (∃ pre : List (Ky 32), True ∧ Jx pre W')) := by
  refine callsIn_of_wp Try.func105 rfl trivial ?_ rfl
  simp only [Try.ntmps105, List.size_toArray, List.length_cons, List.length_nil, Nat.reduceAdd, Nat.reduceSub, Array.replicate_succ, Array.replicate_zero, List.push_toArray, List.append_toArray, List.nil_append, List.cons_append]
  have hrg0 := Rng.start hb hl
  have hJ0 := hJ [] W _ none h0 (World.grownBy_alloc W (.mapIter (some b) clock #[] clock) none) (fun r e => by cases e)
  have hlt0 : W.heap.size < (W.alloc (.mapIter (some b) clock #[] clock)).heap.size := by simp
  gi_wp2_with (first
    | (gi_at_range; refine in_range rfl _ 92 32 23 rfl Try.underlying92 rfl hb ?_)
    | gi_in)
  go_frame
  generalize W.alloc (.mapIter (some b) clock #[] clock) = w0 at hrg0 hJ0 hlt0 ⊢
  gi_loopw [3] (fun _ wr => ∃ (cnt : Nat) (ss : List (Ky 32)), Rng wr b W.heap.size es clock (ss.map kv) cnt ∧ J ss wr)
    (fun _ wr => wr.rangeLeft b W.heap.size)
  case atStart =>
    exact ⟨_, [], hrg0, hJ0⟩
  case round =>
    obtain ⟨cnt, ss, hrg, hJs⟩ := hrel
    gi_wp2_with (first
      | (gi_at_next; refine in_next rfl _ rfl rfl hrg hn ?_ ?_)
      | gi_in)
    · intro hc0 hp
      gi_wp2
      go_end0
      exact ⟨⟨_, rfl⟩, .inl ⟨ss, hp, hJs⟩⟩
    · intro e w2 cnt2 he hrg2 hlt hg2 hs2 hen
      obtain ⟨x, hx⟩ := hkey e (by simpa using he)
      have hlen : ss.length < es.size := by have := hrg.le; simp at this; omega
      have hJ2 : J ss w2 := hJ ss wr w2 (some W.heap.size) hJs hg2 (fun r e => by cases e; exact ⟨Nat.le_refl _, hrg.iter⟩)
      rw [hx] at hen hrg2 ⊢
      clear hs2
      have hlt2 := hrg2.lt
      gi_wp2_with (first
        | (guard_target = wpListIn _ _ _ _ _ (Oper.mk _ (Op.store _ _ _) _ _ _ _ :: _) _ _; refine in_store (l := x.1) (cs := List.replicate 32 (.int .u8 0)) rfl _ _ _ rfl (by rw [x.2]; rfl) rfl rfl (World.alloc_heap_new w2 _) (by rw [x.2]; rfl) ?_
           intro w4 hb4 hg4 hs4
           have hg24 : w2.grownBy w4 none := ⟨hg4.os.trans rfl, hg4.tape.trans rfl, hg4.output.trans rfl, by rw [hs4]; simp, fun i hi _ => (hg4.block i (by simp; omega) (fun e => by cases e; omega)).trans ((MapKept.heap_alloc w2 _).2 i hi)⟩
           have hJ4 : J ss w4 := hJ ss w2 w4 none hJ2 hg24 (fun r e => by cases e)
           have hrg4 := hrg2.kept (hg24.block b hlt2.1 (by simp)) (hg24.block W.heap.size hlt2.2 (by simp))
           obtain ⟨fn, tmps, assign, body, hy, hR⟩ := hY ss x w4 hJ4 hlen
           rw [show kv x = arrV x.1 from rfl] at hy
           have hb4' := Lib.hid hb4
           clear hb4 hs4 hg4 hg24)
        | (guard_target = wpListIn _ _ _ _ _ (Oper.mk _ (Op.load _ _) _ _ _ _ :: _) _ _; refine in_load (l := x.1) rfl _ _ rfl (by rw [x.2]; rfl) rfl hb4'.out ?_)
        | gi_in)
      refine hR.mono ?_
      rintro e W3 (⟨rfl, hJ3, hk3⟩ | ⟨rfl, hJx3⟩)
      · gi_wp2
        have hrg3 := hrg4.walks hk3
        go_roundw
        case rel => exact ⟨cnt2, ss ++ [x], by simpa using hrg3, hJ3⟩
        case measure => rw [hrg3.left_eq, hrg.left_eq]; exact hlt
      · gi_wp2
        refine bodyPost_ret (results_none rfl _ _ _) rfl ?_
        exact ⟨⟨_, rfl⟩, .inr ⟨ss ++ [x], trivial, hJx3⟩⟩
end E
end Go.Proofs.Ytmlajcbabimkjaa
