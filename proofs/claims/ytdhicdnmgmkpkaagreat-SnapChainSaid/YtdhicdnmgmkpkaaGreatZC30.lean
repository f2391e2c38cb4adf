/-
  Merged (wip/tools/merge.py): SPD, Open, OpenAll, OpenWord, OpenW, OpenSh, OpenAcc, OpenAcs.
  Conditions: none.
-/
import Derived.Test.YtdhicdnmgmkpkaaGreatZC29
import Derived.Test.YtdhicdnmgmkpkaaGreatZC2
import Derived.OpenShut
import Derived.Deep.Slices
import Derived.ChangeSame
import Derived.SizedLaws
import Derived.Test.YtdhicdnmgmkpkaaGreatZC18
/-
  SnapChain.
  Conditions: none.
-/
namespace Go.Proofs.YtdhicdnmgmkpkaaGreat
set_option linter.unusedVariables false
open Go.RowKit Mono Rlp Wd Go.Sort
namespace E
abbrev dAcs (l : List AcL) : D := .sl 55 (l.map dAcL)
set_option maxRecDepth 20000 in
set_option maxHeartbeats 16000000 in
theorem law_chain (ll : List (List AcL)) (base : Int) : FnM 7 [.sl 1 (ll.map dAcs), .v (.int .i64 base)] [] (fun r os' => r = .val (.v (.bool true)) ∧ os' = []) := by
  have hml : (ll.map dAcs).length = ll.length := List.length_map _
  refine FnM.walk 160 Tryz.func7 rfl Tryz.ntmps7 (by simp) fun X => ?_
  by_cases c1 : ll.length < 1
  · skip
    repeat
      (first
       | (apply P_skip; (iterate 2 exact rfl))
       | ((apply P_callMD (alive25); (iterate 2 exact rfl); (focus (repeat first | exact RefineL.refl _ _ | exact RL.nil | exact Rf.same | exact Rf.bs0 | exact Rf.sl0 | (apply Rf.fact; (focus (simp; done)); exact rfl) | apply Rf.tup | apply RL.cons)); (focus (intro _ _; simp [go_sem]; done)); (iterate 2 exact rfl)))
       | (apply P_move; (iterate 3 exact rfl)) | (apply P_assign; (iterate 3 exact rfl)) | (apply P_pick; (iterate 4 exact rfl)) | (apply P_not; (iterate 3 exact rfl))
       | (apply P_cmp (b := true); (iterate 2 exact rfl); (focus (first | (simp [cmpI]; done) | (simp [cmpI]; omega))); (iterate 2 exact rfl)) | (apply P_lensl; (iterate 4 exact rfl)) | apply EL.nil
       | ((with_reducible apply EK.then_normal); apply EK.code) | (apply EC.cond_true; exact rfl)
       | (with_reducible first | apply EC.seq | apply EC.region | apply EC.skip | apply EC.label | apply EC.block | apply EC.exit | apply EC.ret | apply EK.in_normal | apply EK.in_same | apply EK.in_ret | apply EK.then_ret | apply EK.then_exit))
    exact EK.retM1s [] rfl rfl (List.nil_sublist _) ⟨rfl, rfl⟩
  by_cases c2 : 10 < ll.length
  · skip
    repeat
      (first
       | (apply P_skip; (iterate 2 exact rfl))
       | ((apply P_callMD (alive25); (iterate 2 exact rfl); (focus (repeat first | exact RefineL.refl _ _ | exact RL.nil | exact Rf.same | exact Rf.bs0 | exact Rf.sl0 | (apply Rf.fact; (focus (simp; done)); exact rfl) | apply Rf.tup | apply RL.cons)); (focus (intro _ _; simp [go_sem]; done)); (iterate 2 exact rfl)))
       | (apply P_move; (iterate 3 exact rfl)) | (apply P_assign; (iterate 3 exact rfl)) | (apply P_pick; (iterate 4 exact rfl)) | (apply P_not; (iterate 3 exact rfl))
       | (apply P_cmp (b := true); (iterate 2 exact rfl); (focus (first | (simp [cmpI]; done) | (simp [cmpI]; omega))); (iterate 2 exact rfl))
       | (apply P_cmp (b := false); (iterate 2 exact rfl); (focus (first | (simp [cmpI]; done) | (simp [cmpI]; omega))); (iterate 2 exact rfl)) | (apply P_lensl; (iterate 4 exact rfl)) | apply EL.nil
       | ((with_reducible apply EK.then_normal); apply EK.code) | (apply EC.cond_true; exact rfl)
       | (with_reducible first | apply EC.seq | apply EC.region | apply EC.skip | apply EC.label | apply EC.block | apply EC.exit | apply EC.ret | apply EK.in_normal | apply EK.in_same | apply EK.in_ret | apply EK.then_ret | apply EK.then_exit))
    exact EK.retM1s [] rfl rfl (List.nil_sublist _) ⟨rfl, rfl⟩
  by_cases c3 : base < 0
  · skip
    repeat
      (first
       | (apply P_skip; (iterate 2 exact rfl))
       | ((apply P_callMD (alive25); (iterate 2 exact rfl); (focus (repeat first | exact RefineL.refl _ _ | exact RL.nil | exact Rf.same | exact Rf.bs0 | exact Rf.sl0 | (apply Rf.fact; (focus (simp; done)); exact rfl) | apply Rf.tup | apply RL.cons)); (focus (intro _ _; simp [go_sem]; done)); (iterate 2 exact rfl)))
       | (apply P_move; (iterate 3 exact rfl)) | (apply P_assign; (iterate 3 exact rfl)) | (apply P_pick; (iterate 4 exact rfl)) | (apply P_not; (iterate 3 exact rfl))
       | (apply P_cmp (b := true); (iterate 2 exact rfl); (focus (first | (simp [cmpI]; done) | (simp [cmpI]; omega))); (iterate 2 exact rfl))
       | (apply P_cmp (b := false); (iterate 2 exact rfl); (focus (first | (simp [cmpI]; done) | (simp [cmpI]; omega))); (iterate 2 exact rfl)) | (apply P_lensl; (iterate 4 exact rfl)) | apply EL.nil
       | ((with_reducible apply EK.then_normal); apply EK.code) | (apply EC.cond_true; exact rfl)
       | (with_reducible first | apply EC.seq | apply EC.region | apply EC.skip | apply EC.label | apply EC.block | apply EC.exit | apply EC.ret | apply EK.in_normal | apply EK.in_same | apply EK.in_ret | apply EK.then_ret | apply EK.then_exit))
    exact EK.retM1s [] rfl rfl (List.nil_sublist _) ⟨rfl, rfl⟩
  by_cases c4 : (ll.length : Int) ≤ base
  · skip
    repeat
      (first
       | ((apply P_callMD (alive25); (iterate 2 exact rfl); (focus (repeat first | exact RefineL.refl _ _ | exact RL.nil | exact Rf.same | exact Rf.bs0 | exact Rf.sl0 | (apply Rf.fact; (focus (simp; done)); exact rfl) | apply Rf.tup | apply RL.cons)); (focus (intro _ _; simp [go_sem]; done)); (iterate 2 exact rfl)))
       | (apply P_move; (iterate 3 exact rfl)) | (apply P_assign; (iterate 3 exact rfl)) | (apply P_pick; (iterate 4 exact rfl)) | (apply P_not; (iterate 3 exact rfl))
       | (apply P_cmp (b := true); (iterate 2 exact rfl); (focus (first | (simp [cmpI]; done) | (simp [cmpI]; omega))); (iterate 2 exact rfl))
       | (apply P_cmp (b := false); (iterate 2 exact rfl); (focus (first | (simp [cmpI]; done) | (simp [cmpI]; omega))); (iterate 2 exact rfl)) | (apply P_lensl; (iterate 4 exact rfl)) | apply EL.nil
       | ((with_reducible apply EK.then_normal); apply EK.code) | (apply EC.cond_true; exact rfl)
       | (with_reducible first | apply EC.seq | apply EC.region | apply EC.skip | apply EC.label | apply EC.block | apply EC.exit | apply EC.ret | apply EK.in_normal | apply EK.in_same | apply EK.in_ret | apply EK.then_ret | apply EK.then_exit))
    exact EK.retM1s [] rfl rfl (List.nil_sublist _) ⟨rfl, rfl⟩
  obtain ⟨b, rfl⟩ : ∃ b : Nat, base = (b : Int) := ⟨base.toNat, by omega⟩
  have hbn : b < ll.length := by omega
  clear c3 c4
  repeat
    (first
     | ((apply P_callMD (alive25); (iterate 2 exact rfl); (focus (repeat first | exact RefineL.refl _ _ | exact RL.nil | exact Rf.same | exact Rf.bs0 | exact Rf.sl0 | (apply Rf.fact; (focus (simp; done)); exact rfl) | apply Rf.tup | apply RL.cons)); (focus (intro _ _; simp [go_sem]; done)); (iterate 2 exact rfl)))
     | (apply P_move; (iterate 3 exact rfl)) | (apply P_assign; (iterate 3 exact rfl)) | (apply P_pick; (iterate 4 exact rfl)) | (apply P_not; (iterate 3 exact rfl))
     | (apply P_cmp (b := false); (iterate 2 exact rfl); (focus (first | (simp [cmpI]; done) | (simp [cmpI]; omega))); (iterate 2 exact rfl)) | (apply P_lensl; (iterate 4 exact rfl)) | apply EL.nil
     | ((with_reducible apply EK.then_normal); apply EK.code) | (apply EC.cond_false; exact rfl)
     | (with_reducible first | apply EC.seq | apply EC.region | apply EC.skip | apply EC.label | apply EC.block | apply EC.exit | apply EC.ret | apply EK.in_normal | apply EK.in_same | apply EK.in_ret | apply EK.then_ret | apply EK.then_exit))
  refine EC.loop (ι := {i : Nat // i ≤ ll.length ∧ ∀ j (h : j < ll.length), j < i → bigA ll[j] = false})
    (fun i => ⟨[(6, .val (.v (.int .i64 (i.1 : Int)))), (1, .val (.v (.int .i64 (b : Int)))), (0, .val (.sl 1 (ll.map dAcs)))], [], []⟩)
    (fun i => ll.length - i.1) ⟨0, Nat.zero_le _, fun j _ h => absurd h (Nat.not_lt_zero _)⟩ ?_ ?_
  · exact (Le.keep (by repeat first | exact trivial | refine ⟨rfl, ?_⟩) (by repeat first | exact List.nil_sublist _ | apply List.Sublist.cons_cons | apply List.Sublist.cons) (by simp))
  rintro ⟨i, hi, hB⟩
  dsimp only at hi hB ⊢
  by_cases hlt : i < ll.length
  · have hd : (ll.map dAcs)[i]? = some (dAcs ll[i]) := by rw [List.getElem?_map, List.getElem?_eq_getElem hlt]; rfl
    have hA := f_bigA ll[i]
    cases hba : bigA ll[i] with
    | true =>
      rw [hba] at hA
      repeat
        (first
         | (apply P_call (hA); exact rfl; (focus (repeat first | exact RefineL.refl _ _ | exact RL.nil | exact Rf.same | exact Rf.bs0 | exact Rf.sl0 | (apply Rf.fact; (focus (simp; done)); exact rfl) | apply Rf.tup | apply RL.cons)); (focus (intro _ _; simp [go_sem]; done)); (iterate 2 exact rfl))
         | (apply P_move; (iterate 3 exact rfl)) | (apply P_assign; (iterate 3 exact rfl)) | (apply P_loadpd; (iterate 5 exact rfl))
         | (apply P_cmp (b := true); (iterate 2 exact rfl); (focus (first | (simp [cmpI]; done) | (simp [cmpI]; omega))); (iterate 2 exact rfl)) | (apply P_lensl; (iterate 4 exact rfl))
         | (apply P_index; (iterate 4 exact rfl); (focus (first | exact ⟨by decide, rfl⟩ | (refine ⟨by omega, ?_⟩; rw [Int.toNat_natCast]; assumption))); (iterate 2 exact rfl)) | apply EL.nil
         | ((with_reducible apply EK.then_normal); apply EK.code) | (apply EC.cond_true; exact rfl)
         | (with_reducible first | apply EC.seq | apply EC.region | apply EC.skip | apply EC.label | apply EC.block | apply EC.exit | apply EC.ret | apply EK.in_normal | apply EK.in_same | apply EK.in_ret | apply EK.then_ret | apply EK.then_exit))
      exact EK.retM1s [] rfl rfl (List.nil_sublist _) ⟨rfl, rfl⟩
    | false =>
      rw [hba] at hA
      repeat
        (first
         | (apply P_call (hA); exact rfl; (focus (repeat first | exact RefineL.refl _ _ | exact RL.nil | exact Rf.same | exact Rf.bs0 | exact Rf.sl0 | (apply Rf.fact; (focus (simp; done)); exact rfl) | apply Rf.tup | apply RL.cons)); (focus (intro _ _; simp [go_sem]; done)); (iterate 2 exact rfl))
         | (apply P_move; (iterate 3 exact rfl)) | (apply P_assign; (iterate 3 exact rfl)) | (apply P_loadpd; (iterate 5 exact rfl))
         | (apply P_cmp (b := true); (iterate 2 exact rfl); (focus (first | (simp [cmpI]; done) | (simp [cmpI]; omega))); (iterate 2 exact rfl))
         | (apply P_ar; (iterate 3 exact rfl); (focus omega); (focus omega); (iterate 2 exact rfl)) | (apply P_lensl; (iterate 4 exact rfl))
         | (apply P_index; (iterate 4 exact rfl); (focus (first | exact ⟨by decide, rfl⟩ | (refine ⟨by omega, ?_⟩; rw [Int.toNat_natCast]; assumption))); (iterate 2 exact rfl)) | apply EL.nil
         | ((with_reducible apply EK.then_normal); apply EK.code) | (apply EC.cond_true; exact rfl) | (apply EC.cond_false; exact rfl)
         | (with_reducible first | apply EC.seq | apply EC.region | apply EC.skip | apply EC.label | apply EC.block | apply EC.exit | apply EC.ret | apply EK.in_normal | apply EK.in_same | apply EK.in_ret | apply EK.then_ret | apply EK.then_exit))
      refine EK.again ⟨i + 1, hlt, fun j hj hji => ?_⟩ (by dsimp only; omega) ?_
      · by_cases e : j = i
        · subst e
          exact hba
        · exact hB j hj (by omega)
      simp only [Int.natCast_add]
      exact (Le.keep (by repeat first | exact trivial | refine ⟨rfl, ?_⟩) (by repeat first | exact List.nil_sublist _ | apply List.Sublist.cons_cons | apply List.Sublist.cons) (by simp))
  have hiE : i = ll.length := by omega
  subst hiE
  have hsm : ∀ j (h : j < ll.length), ll[j].length ≤ 20 ∧ ∀ x ∈ ll[j], x.sl.length ≤ 20 ∧ x.cd.length ≤ 140737488355328 := fun j h => by
    obtain ⟨h1, h2⟩ := small_A (hB j h h)
    exact ⟨h1, fun x hx => by have := h2 x hx; omega⟩
  have h0 : 0 < ll.length := by omega
  have o0 : Fn 47 [.v (.int .i64 0)] (· = .val (.arr 32 (ofW 0))) := f_Of 0 (by omega)
  have hd0 : (ll.map dAcs)[0]? = some (dAcs ll[0]) := by rw [List.getElem?_map, List.getElem?_eq_getElem h0]; rfl
  have hnew := snew ll[0] (ofW 0) (by have := (hsm 0 h0).1; omega) (fun x hx => by have := (hsm 0 h0).2 x hx; omega)
  repeat
    (first
     | (apply P_move; (iterate 3 exact rfl)) | (apply P_cmp (b := false); (iterate 2 exact rfl); (focus (first | (simp [cmpI]; done) | (simp [cmpI]; omega))); (iterate 2 exact rfl))
     | (apply P_lensl; (iterate 4 exact rfl)) | apply EL.nil | ((with_reducible apply EK.then_normal); apply EK.code) | (apply EC.cond_false; exact rfl)
     | (with_reducible first | apply EC.seq | apply EC.region | apply EC.skip | apply EC.label | apply EC.block | apply EC.exit | apply EC.ret | apply EK.in_normal | apply EK.in_same | apply EK.in_ret | apply EK.then_ret | apply EK.then_exit))
  refine EC.drawC 5 [0, 1, 2, 3] [4] [] _ (by kernel_rfl) (by kernel_rfl) rfl ?_
  simp only [pickL, List.filterMap_cons, List.filterMap_nil, List.getElem?_cons_zero, List.getElem?_cons_succ]
  repeat
    (first
     | (apply H_call (o0); exact rfl; (focus (repeat first | exact RefineL.refl _ _ | exact RL.nil | exact Rf.same | exact Rf.bs0 | exact Rf.sl0 | (apply Rf.fact; (focus (simp; done)); exact rfl) | apply Rf.tup | apply RL.cons)); (focus (intro _ _; simp [go_sem]; done)); (iterate 2 exact rfl))
     | (apply H_index (d := dAcs ll[0]); (iterate 4 exact rfl); exact ⟨by decide, hd0⟩; (iterate 2 exact rfl)) | (apply H_move; (iterate 3 exact rfl)) | (apply H_loadpd; (iterate 5 exact rfl)))
  refine EM.nil ?_
  repeat (first | rw [List.cons_append] | rw [List.nil_append])
  refine CH.callM (os := []) (rest := []) hnew rfl rfl (RefineL.refl _ _) (by intro _ _; simp [go_sem]) rfl rfl ?_
  rintro _ _ ⟨g, m, L, hL, _, _, rfl, rfl⟩
  try simp only [St.put]
  repeat (first | rw [List.cons_append] | rw [List.nil_append])
  refine CH.nil ?_
  try simp only [List.drop_succ_cons, List.drop_zero]
  have hC0 := Chn.first h0 hL
  generalize putE 0 [] (ofW 0) (dLay zero32 L) = es0 at hC0 ⊢
  generalize tickE 0 [] (ofW 0) = c0
  clear hL
  repeat
    (first
     | (apply P_assign; (iterate 3 exact rfl)) | apply EL.nil | ((with_reducible apply EK.then_normal); apply EK.code)
     | (with_reducible first | apply EC.seq | apply EC.region | apply EC.skip | apply EC.label | apply EC.block | apply EC.exit | apply EC.ret | apply EK.in_normal | apply EK.in_same | apply EK.in_ret | apply EK.then_ret | apply EK.then_exit))
  refine EC.loop (ι := {x : Nat × Nat × List Ent // 1 ≤ x.1 ∧ x.1 ≤ ll.length ∧ Chn ll x.1 x.2.2})
    (fun x => ⟨[(9, .val (.v (.int .i64 (x.1.1 : Int)))), (8, .val (.v (ptr g))), (1, .val (.v (.int .i64 (b : Int)))), (0, .val (.sl 1 (ll.map dAcs)))], [tO g m (ofW 0), .map m 32 x.1.2.1 x.1.2.2], []⟩)
    (fun x => ll.length - x.1.1) ⟨(1, c0, es0), Nat.le_refl _, by omega, hC0⟩ ?_ ?_
  · exact (Le.keep (by repeat first | exact trivial | refine ⟨rfl, ?_⟩) (by repeat first | exact List.nil_sublist _ | apply List.Sublist.cons_cons | apply List.Sublist.cons) (by simp))
  rintro ⟨⟨i, c, es⟩, h1i, hi2, hC⟩
  dsimp only at h1i hi2 hC ⊢
  by_cases hlt2 : i < ll.length
  · have hd : (ll.map dAcs)[i]? = some (dAcs ll[i]) := by rw [List.getElem?_map, List.getElem?_eq_getElem hlt2]; rfl
    have hdm : (ll.map dAcs)[i - 1]? = some (dAcs (ll[i - 1]'(by omega))) := by rw [List.getElem?_map, List.getElem?_eq_getElem (by omega)]; rfl
    have o1 := f_Of i (by omega)
    have o2 := f_Of (i - 1) (by omega)
    rw [show ((i - 1 : Nat) : Int) = (i : Int) - 1 by omega] at o2
    have em : ((i : Int) - 1).toNat = i - 1 := by omega
    obtain ⟨s1, s2⟩ := hsm i hlt2
    obtain ⟨s3, s4⟩ := hsm (i - 1) (by omega)
    obtain ⟨p, L0, g1, g2, _⟩ := hC.at_ (i - 1) (by omega) (by omega)
    have g3 := hC.none (Nat.le_refl i) (by omega)
    have hbt := between_ (ll[i - 1]'(by omega)) ll[i] 20 (by omega) (by omega) (by omega) s4 s2
    have hnx := fun c (L : List AcL) => hC.next (c := c) (L := L) h1i hlt2 (by omega)
    have hnn := newA_nn (ll[i - 1]'(by omega))
    have hnm := newA_nn ll[i]
    generalize ll[i - 1]'(by omega) = la at hdm s3 s4 g2 hbt hnn
    generalize ll[i] = lb at hd s1 s2 hbt hnx hnm
    have n0 := f_num 0
    repeat
      (first
       | (apply P_move; (iterate 3 exact rfl)) | (apply P_cmp (b := true); (iterate 2 exact rfl); (focus (first | (simp [cmpI]; done) | (simp [cmpI]; omega))); (iterate 2 exact rfl))
       | (apply P_lensl; (iterate 4 exact rfl)) | apply EL.nil | ((with_reducible apply EK.then_normal); apply EK.code) | (apply EC.cond_true; exact rfl)
       | (with_reducible first | apply EC.seq | apply EC.region | apply EC.skip | apply EC.label | apply EC.block | apply EC.exit | apply EC.ret | apply EK.in_normal | apply EK.in_same | apply EK.in_ret | apply EK.then_ret | apply EK.then_exit))
    refine EC.drawC 18 [0, 1, 2, 3, 4, 5, 6, 7, 8, 9, 10, 11, 12, 13, 14] [15, 16, 17] [_, _] _ (by kernel_rfl) (by kernel_rfl) rfl ?_
    simp only [pickL, List.filterMap_cons, List.filterMap_nil, List.getElem?_cons_zero, List.getElem?_cons_succ]
    repeat
      (first
       | (apply H_call (o1); exact rfl; (focus (repeat first | exact RefineL.refl _ _ | exact RL.nil | exact Rf.same | exact Rf.bs0 | exact Rf.sl0 | (apply Rf.fact; (focus (simp; done)); exact rfl) | apply Rf.tup | apply RL.cons)); (focus (intro _ _; simp [go_sem]; done)); (iterate 2 exact rfl))
       | (apply H_call (o2); exact rfl; (focus (repeat first | exact RefineL.refl _ _ | exact RL.nil | exact Rf.same | exact Rf.bs0 | exact Rf.sl0 | (apply Rf.fact; (focus (simp; done)); exact rfl) | apply Rf.tup | apply RL.cons)); (focus (intro _ _; simp [go_sem]; done)); (iterate 2 exact rfl))
       | (apply H_index (d := dAcs la); (iterate 4 exact rfl); exact ⟨by omega, by rw [em]; exact hdm⟩; (iterate 2 exact rfl)) | (apply H_move; (iterate 3 exact rfl)) | (apply H_loadpd; (iterate 5 exact rfl))
       | (apply H_ar; (iterate 3 exact rfl); (focus omega); (focus omega); (iterate 2 exact rfl))
       | (apply H_index; (iterate 4 exact rfl); (focus (first | exact ⟨by decide, rfl⟩ | (refine ⟨by omega, ?_⟩; rw [Int.toNat_natCast]; assumption))); (iterate 2 exact rfl)))
    refine EM.nil ?_
    repeat (first | rw [List.cons_append] | rw [List.nil_append])
    refine CH.callM (os := []) (rest := [_, _]) hbt rfl rfl (RefineL.refl _ _) (by intro _ _; simp [go_sem]) rfl rfl ?_
    rintro _ _ ⟨⟨D, hD, hDs, rfl⟩, rfl⟩
    try simp only [St.put]
    repeat (first | rw [List.cons_append] | rw [List.nil_append])
    refine CH.cut 1 ?_
    simp only [List.take_succ_cons, List.take_zero, List.drop_succ_cons, List.drop_zero]
    repeat
      (first
       | (apply H_build; (iterate 7 exact rfl)))
    refine EM.nil ?_
    repeat (first | rw [List.cons_append] | rw [List.nil_append])
    have g2l := g2.length_le
    have g2s := g2.small s4
    have hadd := sadd (g := g) (m := m) (c := c) (base := ofW 0) (id := ofW i) (par := ofW (i - 1)) D g3 g1 (by omega) (fun x hx => ⟨by have := (g2s x hx).1; omega, (g2s x hx).2⟩) (by have := hDs.len; omega) (fun x hx => ⟨by have := (hDs.sl x hx).1; omega, (hDs.sl x hx).2⟩)
    rw [g2.new hnn, hD.apply hnm] at hadd
    refine CH.callM (os := [_, _]) (rest := []) hadd rfl rfl (RefineL.refl _ _) (by intro _ _; simp [go_sem]) rfl rfl ?_
    rintro _ _ ⟨L', hL', _, _, rfl, rfl⟩
    try simp only [St.put]
    repeat (first | rw [List.cons_append] | rw [List.nil_append])
    refine CH.nil ?_
    try simp only [List.drop_succ_cons, List.drop_zero]
    repeat
      (first
       | (apply P_call (n0); exact rfl; (focus (repeat first | exact RefineL.refl _ _ | exact RL.nil | exact Rf.same | exact Rf.bs0 | exact Rf.sl0 | (apply Rf.fact; (focus (simp; done)); exact rfl) | apply Rf.tup | apply RL.cons)); (focus (intro _ _; simp [go_sem]; done)); (iterate 2 exact rfl))
       | (apply P_move; (iterate 3 exact rfl)) | (apply P_assign; (iterate 3 exact rfl))
       | (apply P_cmp (b := false); (iterate 2 exact rfl); (focus (first | (simp [cmpI]; done) | (simp [cmpI]; omega))); (iterate 2 exact rfl))
       | (apply P_ar; (iterate 3 exact rfl); (focus omega); (focus omega); (iterate 2 exact rfl)) | apply EL.nil | ((with_reducible apply EK.then_normal); apply EK.code) | (apply EC.cond_false; exact rfl)
       | (with_reducible first | apply EC.seq | apply EC.region | apply EC.skip | apply EC.label | apply EC.block | apply EC.exit | apply EC.ret | apply EK.in_normal | apply EK.in_same | apply EK.in_ret | apply EK.then_ret | apply EK.then_exit))
    refine EK.again ⟨(i + 1, tickE c es (ofW i), putE c es (ofW i) (dLay (ofW (i - 1)) L')), by omega, hlt2, hnx c L' hL'⟩ (by dsimp only; omega) ?_
    simp only [Int.natCast_add]
    exact (Le.keep (by repeat first | exact trivial | refine ⟨rfl, ?_⟩) (by repeat first | exact List.nil_sublist _ | apply List.Sublist.cons_cons | apply List.Sublist.cons) (by simp))
  have hiE : i = ll.length := by omega
  subst hiE
  refine EC.mapOf 1 rfl fun hE _ => ?_
  have hn10 : ll.length ≤ 10 := by omega
  have ob := f_Of b (by omega)
  have n0 := f_num 0
  have n6 := f_num 6
  have hfrom : ∀ e ∈ es, FnM 85 [.v (ptr g), .arr 32 e.2.1, .arr 32 (ofW b)] [tO g m (ofW 0), .map m 32 c es] (fun r os' => r = .val (.v (.bool (fromB b e.2.1))) ∧ os' = [tO g m (ofW 0), .map m 32 c es]) := fun e he => by
    obtain ⟨j, hj, ej⟩ := hC.keys e he
    rw [ej]
    refine from_gen (fromB b) (fun k r => k = ofW r ∧ r < ll.length) ?_ (fun hne => ?_) (fun k r hk hne hnb => ?_) (ofW j) j ⟨rfl, hj⟩
    · rw [fromB_at (by omega)]
      simp
    · rw [fromB_at (by omega)]
      have : b ≠ 0 := fun e => hne (by rw [e])
      simp
      omega
    · obtain ⟨rfl, hr⟩ := hk
      have h1 : r ≠ 0 := fun e => hnb (by rw [e])
      have h2 : r ≠ b := fun e => hne (by rw [e])
      obtain ⟨p, L, g1, _, g3⟩ := hC.at_ r hr hr
      rw [g3 (by omega)] at g1
      refine ⟨_, L, r - 1, g1, ?_, by omega, rfl, by omega⟩
      rw [fromB_at (by omega), fromB_at (by omega), decide_eq_decide]
      omega
  obtain ⟨pb, Lb, gb, _, _⟩ := hC.at_ b hbn hbn
  have hfl := sflat (fromB b) hfrom gb (by have := hC.len; omega)
  have kp1 := keys_perm hC (Nat.le_refl _) hn10 hE.keys (fun j => !decide (b ≤ j)) (fun k => !fromB b k) (fun j hj => by rw [fromB_at hj])
  rw [range_lt (Nat.le_of_lt hbn)] at kp1
  have kp2 := keys_perm hC (Nat.le_refl _) hn10 hE.keys (fun j => decide (b ≤ j)) (fromB b) (fun j hj => fromB_at hj)
  rw [range_ge hbn, List.map_cons] at kp2
  rw [kp1] at hfl
  have hat2 : ∀ j (h : j < ll.length), b ≤ j → ∃ p L, getE (es.filter fun e => fromB b e.2.1) (ofW j) = some (dLay p L) ∧ Canon (newA ll[j]) L := fun j h hbj => by
    obtain ⟨p, L, g1, g2, _⟩ := hC.at_ j h h
    exact ⟨p, L, by rw [getE_filter, fromB_at (by omega), if_pos (by simpa using hbj)]; exact g1, g2⟩
  have hno2 : ∀ j, j < b → getE (es.filter fun e => fromB b e.2.1) (ofW j) = none := fun j h => by
    rw [getE_filter, fromB_at (by omega), if_neg (by simp; omega)]
  have hnd2 : ((es.filter fun e => fromB b e.2.1).map (·.2.1)).Nodup := hE.keys.sublist (List.filter_sublist.map _)
  have hl2 : (es.filter fun e => fromB b e.2.1).length ≤ 10 := Nat.le_trans (List.length_filter_le _ _) (by have := hC.len; omega)
  generalize (es.filter fun e => fromB b e.2.1) = es2 at hfl kp2 hat2 hno2 hnd2 hl2
  have hly := slayers (g := g) (m := m) (c := c) (base := ofW b) (es := es2) (K1 := []) (K2 := (List.range' (b + 1) (ll.length - 1 - b)).map ofW) kp2 hnd2 (by omega)
  have hbs := sbase (g := g) (m := m) (c := c) (base := ofW b) (es := es2)
  have hGl : (((List.range b).map ofW).map (D.arr 32)).length = b := by simp
  have hKl : ((([] : List (List UInt8)) ++ (List.range' (b + 1) (ll.length - 1 - b)).map ofW).map (D.arr 32)).length = ll.length - 1 - b := by simp
  have hGa : ∀ j, j < b → (((List.range b).map ofW).map (D.arr 32))[j]? = some (.arr 32 (ofW j)) := fun j hj => by simp [hj]
  generalize ((List.range b).map ofW).map (D.arr 32) = G at hfl hGl hGa
  generalize ((([] : List (List UInt8)) ++ (List.range' (b + 1) (ll.length - 1 - b)).map ofW).map (D.arr 32)) = K2 at hly hKl
  have hbb := (bin_word (ofW b) (ofW b)).2
  rw [bne_self_eq_false] at hbb
  repeat
    (first
     | (apply P_call (ob); exact rfl; (focus (repeat first | exact RefineL.refl _ _ | exact RL.nil | exact Rf.same | exact Rf.bs0 | exact Rf.sl0 | (apply Rf.fact; (focus (simp; done)); exact rfl) | apply Rf.tup | apply RL.cons)); (focus (intro _ _; simp [go_sem]; done)); (iterate 2 exact rfl))
     | ((apply P_callMD (hfl); (iterate 2 exact rfl); (focus (repeat first | exact RefineL.refl _ _ | exact RL.nil | exact Rf.same | exact Rf.bs0 | exact Rf.sl0 | (apply Rf.fact; (focus (simp; done)); exact rfl) | apply Rf.tup | apply RL.cons)); (focus (intro _ _; simp [go_sem]; done)); (iterate 2 exact rfl)))
     | (apply P_call (n0); exact rfl; (focus (repeat first | exact RefineL.refl _ _ | exact RL.nil | exact Rf.same | exact Rf.bs0 | exact Rf.sl0 | (apply Rf.fact; (focus (simp; done)); exact rfl) | apply Rf.tup | apply RL.cons)); (focus (intro _ _; simp [go_sem]; done)); (iterate 2 exact rfl))
     | (apply P_bin; (iterate 2 exact rfl); exact hbb; (iterate 2 exact rfl)) | (apply P_callV hbs [0, 1] [] rfl (by decide) rfl rfl (RefineL.refl _ _) (by intro _ _; simp [go_sem]) rfl rfl)
     | (apply P_callV hly [0, 1] [] rfl (by decide) rfl rfl (RefineL.refl _ _) (by intro _ _; simp [go_sem]) rfl rfl) | (apply P_move; (iterate 3 exact rfl)) | (apply P_assign; (iterate 3 exact rfl))
     | (apply P_extract; (iterate 4 exact rfl)) | (apply P_pick; (iterate 4 exact rfl))
     | (apply P_cmp (b := false); (iterate 2 exact rfl); (focus (first | (simp [cmpI]; done) | (simp [cmpI]; omega))); (iterate 2 exact rfl))
     | (apply P_ar; (iterate 3 exact rfl); (focus omega); (focus omega); (iterate 2 exact rfl)) | (apply P_lensl; (iterate 4 exact rfl)) | apply EL.nil
     | ((with_reducible apply EK.then_normal); apply EK.code) | (apply EC.cond_false; exact rfl)
     | (with_reducible first | apply EC.seq | apply EC.region | apply EC.skip | apply EC.label | apply EC.block | apply EC.exit | apply EC.ret | apply EK.in_normal | apply EK.in_same | apply EK.in_ret | apply EK.then_ret | apply EK.then_exit))
  refine EC.loop (ι := {i : Nat // i ≤ ll.length})
    (fun i => ⟨[(13, .val (.v (.int .i64 (i.1 : Int)))), (11, .val (.sl 32 G)), (8, .val (.v (ptr g))), (1, .val (.v (.int .i64 (b : Int)))), (0, .val (.sl 1 (ll.map dAcs)))], [tO g m (ofW b), .map m 32 c es2], []⟩)
    (fun i => ll.length - i.1) ⟨0, Nat.zero_le _⟩ ?_ ?_
  · exact (Le.keep (by repeat first | exact trivial | refine ⟨rfl, ?_⟩) (by repeat first | exact List.nil_sublist _ | apply List.Sublist.cons_cons | apply List.Sublist.cons) (by simp))
  rintro ⟨i, hi3⟩
  dsimp only at hi3 ⊢
  by_cases hlt3 : i < ll.length
  · have oi := f_Of i (by omega)
    by_cases hib : i < b
    · have hta := tacc_none (g := g) (m := m) (c := c) (base := ofW b) (hno2 i hib)
      have hgi := hGa i hib
      have hbi := (bin_word (ofW i) (ofW i)).2
      rw [bne_self_eq_false] at hbi
      repeat
        (first
         | (apply P_call (oi); exact rfl; (focus (repeat first | exact RefineL.refl _ _ | exact RL.nil | exact Rf.same | exact Rf.bs0 | exact Rf.sl0 | (apply Rf.fact; (focus (simp; done)); exact rfl) | apply Rf.tup | apply RL.cons)); (focus (intro _ _; simp [go_sem]; done)); (iterate 2 exact rfl))
         | ((apply P_callMD (hta); (iterate 2 exact rfl); (focus (repeat first | exact RefineL.refl _ _ | exact RL.nil | exact Rf.same | exact Rf.bs0 | exact Rf.sl0 | (apply Rf.fact; (focus (simp; done)); exact rfl) | apply Rf.tup | apply RL.cons)); (focus (intro _ _; simp [go_sem]; done)); (iterate 2 exact rfl)))
         | (apply P_move; (iterate 3 exact rfl)) | (apply P_assign; (iterate 3 exact rfl)) | (apply P_extract; (iterate 4 exact rfl))
         | (apply P_cmp (b := true); (iterate 2 exact rfl); (focus (first | (simp [cmpI]; done) | (simp [cmpI]; omega))); (iterate 2 exact rfl)) | (apply P_lensl; (iterate 4 exact rfl)) | apply EL.nil
         | ((with_reducible apply EK.then_normal); apply EK.code) | (apply EC.cond_true; exact rfl)
         | (with_reducible first | apply EC.seq | apply EC.region | apply EC.skip | apply EC.label | apply EC.block | apply EC.exit | apply EC.ret | apply EK.in_normal | apply EK.in_same | apply EK.in_ret | apply EK.then_ret | apply EK.then_exit))
      refine EC.draw 12 (by kernel_rfl) ?_
      simp only [List.take_succ_cons, List.take_zero, List.drop_succ_cons, List.drop_zero]
      repeat
        (first
         | (apply H_call (n6); exact rfl; (focus (repeat first | exact RefineL.refl _ _ | exact RL.nil | exact Rf.same | exact Rf.bs0 | exact Rf.sl0 | (apply Rf.fact; (focus (simp; done)); exact rfl) | apply Rf.tup | apply RL.cons)); (focus (intro _ _; simp [go_sem]; done)); (iterate 2 exact rfl))
         | (apply H_call (oi); exact rfl; (focus (repeat first | exact RefineL.refl _ _ | exact RL.nil | exact Rf.same | exact Rf.bs0 | exact Rf.sl0 | (apply Rf.fact; (focus (simp; done)); exact rfl) | apply Rf.tup | apply RL.cons)); (focus (intro _ _; simp [go_sem]; done)); (iterate 2 exact rfl))
         | (apply H_bin; (iterate 2 exact rfl); exact hbi; (iterate 2 exact rfl)) | (apply H_move; (iterate 3 exact rfl)) | (apply H_loadpd; (iterate 5 exact rfl)) | (apply H_pick; (iterate 4 exact rfl))
         | (apply H_cmp (b := false); (iterate 2 exact rfl); (focus (first | (simp [cmpI]; done) | (simp [cmpI]; omega))); (iterate 2 exact rfl))
         | (apply H_index; (iterate 4 exact rfl); (focus (first | exact ⟨by decide, rfl⟩ | (refine ⟨by omega, ?_⟩; rw [Int.toNat_natCast]; assumption))); (iterate 2 exact rfl))
         | ((with_reducible apply EH.nil); exact rfl))
      repeat
        (first
         | (apply P_move; (iterate 3 exact rfl)) | (apply P_assign; (iterate 3 exact rfl)) | (apply P_ar; (iterate 3 exact rfl); (focus omega); (focus omega); (iterate 2 exact rfl)) | apply EL.nil
         | ((with_reducible apply EK.then_normal); apply EK.code) | (apply EC.cond_false; exact rfl)
         | (with_reducible first | apply EC.seq | apply EC.region | apply EC.skip | apply EC.label | apply EC.block | apply EC.exit | apply EC.ret | apply EK.in_normal | apply EK.in_same | apply EK.in_ret | apply EK.then_ret | apply EK.then_exit))
      refine EK.again ⟨i + 1, hlt3⟩ (by dsimp only; omega) ?_
      simp only [Int.natCast_add]
      exact (Le.keep (by repeat first | exact trivial | refine ⟨rfl, ?_⟩) (by repeat first | exact List.nil_sublist _ | apply List.Sublist.cons_cons | apply List.Sublist.cons) (by simp))
    · obtain ⟨p, L, g1, g2⟩ := hat2 i hlt3 (by omega)
      obtain ⟨s1, s2⟩ := hsm i hlt3
      have hd : (ll.map dAcs)[i]? = some (dAcs ll[i]) := by rw [List.getElem?_map, List.getElem?_eq_getElem hlt3]; rfl
      have g2l := g2.length_le
      have g2s := g2.small s2
      have hta := tacc_some (g := g) (m := m) (c := c) (base := ofW b) g1 (by omega) (fun x hx => ⟨by have := (g2s x hx).1; omega, (g2s x hx).2⟩)
      have h1 := rnew ll[i] (by omega) (fun x hx => ⟨by have := (s2 x hx).1; omega, (s2 x hx).2⟩)
      have h4 := f_sameAccounts L (by omega) fun x hx => by have := (g2s x hx).1; omega
      generalize ll[i] = la at hd g2 s1 h1 g2l
      repeat
        (first
         | (apply P_call (oi); exact rfl; (focus (repeat first | exact RefineL.refl _ _ | exact RL.nil | exact Rf.same | exact Rf.bs0 | exact Rf.sl0 | (apply Rf.fact; (focus (simp; done)); exact rfl) | apply Rf.tup | apply RL.cons)); (focus (intro _ _; simp [go_sem]; done)); (iterate 2 exact rfl))
         | ((apply P_callMD (hta); (iterate 2 exact rfl); (focus (repeat first | exact RefineL.refl _ _ | exact RL.nil | exact Rf.same | exact Rf.bs0 | exact Rf.sl0 | (apply Rf.fact; (focus (simp; done)); exact rfl) | apply Rf.tup | apply RL.cons)); (focus (intro _ _; simp [go_sem]; done)); (iterate 2 exact rfl)))
         | (apply P_call (n0); exact rfl; (focus (repeat first | exact RefineL.refl _ _ | exact RL.nil | exact Rf.same | exact Rf.bs0 | exact Rf.sl0 | (apply Rf.fact; (focus (simp; done)); exact rfl) | apply Rf.tup | apply RL.cons)); (focus (intro _ _; simp [go_sem]; done)); (iterate 2 exact rfl))
         | (apply P_call (h4); exact rfl; (focus (repeat first | exact RefineL.refl _ _ | exact RL.nil | exact Rf.same | exact Rf.bs0 | exact Rf.sl0 | (apply Rf.fact; (focus (simp; done)); exact rfl) | apply Rf.tup | apply RL.cons)); (focus (intro _ _; simp [go_sem]; done)); (iterate 2 exact rfl))
         | (apply P_callM (os := []) h1; (iterate 2 exact rfl); exact RefineL.refl _ _; (focus (intro _ _; simp [go_sem]; done)); (iterate 2 exact rfl); rintro _ os1 ⟨g3, rfl, hp⟩; refine P_callM (os := os1) (rest := [_, _]) (rs_accounts hp (by omega)).drop rfl rfl (RefineL.refl _ _) (by intro _ _; simp [go_sem]) rfl rfl ?_; rintro _ _ ⟨⟨_, ⟨L2, hL2, _, rfl⟩, rfl⟩, rfl⟩; obtain rfl := hL2.eq g2; simp only [List.nil_append])
         | (apply P_move; (iterate 3 exact rfl)) | (apply P_assign; (iterate 3 exact rfl)) | (apply P_extract; (iterate 4 exact rfl)) | (apply P_loadpd; (iterate 5 exact rfl))
         | (apply P_pick; (iterate 4 exact rfl)) | (apply P_not; (iterate 3 exact rfl))
         | (apply P_cmp (b := true); (iterate 2 exact rfl); (focus (first | (simp [cmpI]; done) | (simp [cmpI]; omega))); (iterate 2 exact rfl))
         | (apply P_cmp (b := false); (iterate 2 exact rfl); (focus (first | (simp [cmpI]; done) | (simp [cmpI]; omega))); (iterate 2 exact rfl))
         | (apply P_ar; (iterate 3 exact rfl); (focus omega); (focus omega); (iterate 2 exact rfl)) | (apply P_lensl; (iterate 4 exact rfl))
         | (apply P_index; (iterate 4 exact rfl); (focus (first | exact ⟨by decide, rfl⟩ | (refine ⟨by omega, ?_⟩; rw [Int.toNat_natCast]; assumption))); (iterate 2 exact rfl)) | apply EL.nil
         | ((with_reducible apply EK.then_normal); apply EK.code) | (apply EC.cond_true; exact rfl) | (apply EC.cond_false; exact rfl)
         | (with_reducible first | apply EC.seq | apply EC.region | apply EC.skip | apply EC.label | apply EC.block | apply EC.exit | apply EC.ret | apply EK.in_normal | apply EK.in_same | apply EK.in_ret | apply EK.then_ret | apply EK.then_exit))
      refine EK.again ⟨i + 1, hlt3⟩ (by dsimp only; omega) ?_
      simp only [Int.natCast_add]
      exact (Le.keep (by repeat first | exact trivial | refine ⟨rfl, ?_⟩) (by repeat first | exact List.nil_sublist _ | apply List.Sublist.cons_cons | apply List.Sublist.cons) (by simp))
  · skip
    repeat
      (first
       | (apply P_move; (iterate 3 exact rfl)) | (apply P_assign; (iterate 3 exact rfl))
       | (apply P_cmp (b := false); (iterate 2 exact rfl); (focus (first | (simp [cmpI]; done) | (simp [cmpI]; omega))); (iterate 2 exact rfl)) | (apply P_lensl; (iterate 4 exact rfl)) | apply EL.nil
       | ((with_reducible apply EK.then_normal); apply EK.code) | (apply EC.cond_false; exact rfl)
       | (with_reducible first | apply EC.seq | apply EC.region | apply EC.skip | apply EC.label | apply EC.block | apply EC.exit | apply EC.ret | apply EK.in_normal | apply EK.in_same | apply EK.in_ret | apply EK.then_ret | apply EK.then_exit))
    exact EK.retM1s [] rfl rfl (List.nil_sublist _) ⟨rfl, rfl⟩
end E
end Go.Proofs.YtdhicdnmgmkpkaaGreat
/-
  What a slice of bytes that comes in reads as.
  Conditions: none.
-/
namespace Go.Proofs.YtdhicdnmgmkpkaaGreat
open Go.RowKit Mono
end Go.Proofs.YtdhicdnmgmkpkaaGreat
/-
  What data that come in read as: bytes, lists of bytes, arrays of bytes.
  Conditions: none.
-/
namespace Go.Proofs.YtdhicdnmgmkpkaaGreat
open Go.RowKit Mono Go.ChangeShapes Go.WideShapes Go.Deep
theorem cell_spot {w : World} {p : Addr} {v : Value} (h : w.cell? p = some v) : p.block < w.heap.size ∧ ∃ b o, p = ⟨b, o, none⟩ := by
  obtain ⟨blk, off, spot⟩ := p
  have hspot : spot = none := by
    simp only [World.cell?] at h
    cases spot with
    | none => rfl
    | some s =>
      simp at h
      split at h <;> simp at h
  subst hspot
  refine ⟨?_, blk, off, rfl⟩
  rcases Nat.lt_or_ge blk w.heap.size with hlt | hge
  · exact hlt
  · simp [World.cell?, Array.getElem?_eq_none hge] at h
theorem flat_get {n : Nat} {u : Value} : ∀ (rows : List (List Value)) (j : Nat), (∀ r ∈ rows, r.length = n) → rows.flatten[j]? = some u → ∃ i r row, j = i * n + r ∧ r < n ∧ rows[i]? = some row ∧ row[r]? = some u
  | [], j, _, h => by simp at h
  | row :: rows, j, hn, h => by
    have hr : row.length = n := hn row (by simp)
    rw [List.flatten_cons] at h
    by_cases hj : j < n
    · rw [List.getElem?_append_left (by omega)] at h
      exact ⟨0, j, row, by simp, hj, rfl, h⟩
    · rw [List.getElem?_append_right (by omega), hr] at h
      obtain ⟨i, r, row', h1, h2, h3, h4⟩ := flat_get rows (j - n) (fun r hr => hn r (by simp [hr])) h
      exact ⟨i + 1, r, row', by rw [Nat.add_mul]; omega, h2, by simpa using h3, h4⟩
section
variable {H : Type} {enc : TypeId × Value → H} {w : World} {spare : Nat → Bool} {held : Bool}
theorem int_of_trod {t : TypeId} {k : IntKind} {fuel : Nat} {cs : List Value} {x : DataW H × List MemPlace} (ht : Tryz.prog.underlying t = some (.int k)) (h : DataW.trod enc Tryz.prog w 0 spare held fuel t cs = some x) : ∃ n, cs = [.int k n] ∧ (Lit.int k n).wf = true := by
  obtain ⟨n, h1, _, h2⟩ := DataW.trod_int ht h
  exact ⟨n, h1, h2⟩
theorem u8_of_trod {fuel : Nat} {cs : List Value} {x : DataW H × List MemPlace} (h : DataW.trod enc Tryz.prog w 0 spare held fuel 5 cs = some x) : ∃ b : UInt8, cs = [bv b] := by
  obtain ⟨n, rfl, hw⟩ := int_of_trod Tryz.underlying5 h
  have hb := bounds_u8 hw
  refine ⟨UInt8.ofNat n.toNat, ?_⟩
  unfold bv
  rw [UInt8.toNat_ofNat']
  have : ((n.toNat % 2 ^ 8 : Nat) : Int) = n := by omega
  rw [this]
theorem bytes_of_rows {rows : List (List Value)} (h : ∀ r ∈ rows, ∃ b : UInt8, r = [bv b]) : ∃ l : List UInt8, l.length = rows.length ∧ rows.flatten = bvs l := by
  induction rows with
  | nil => exact ⟨[], rfl, rfl⟩
  | cons r rows ih =>
    obtain ⟨l, h1, h2⟩ := ih fun r hr => h r (by simp [hr])
    obtain ⟨b, rfl⟩ := h r (by simp)
    exact ⟨b :: l, by simp [h1], by simp [h2, bvs]⟩
/-! ### A parameter, by its type -/
set_option maxRecDepth 100000
variable {r : Reach} {b0 : Nat} {v : Value} {d : DataW H} {ps : List MemPlace}
theorem o_int (hv : Value.okWide Tryz.prog w r b0 3 v) (h : DataW.Trod enc Tryz.prog w 0 spare held 3 v d ps) : ∃ n : Int, v = .int .i64 n ∧ -9223372036854775808 ≤ n ∧ n ≤ 9223372036854775807 := by
  obtain ⟨n, rfl, _, _, hw⟩ := open_int Tryz.underlying3 hv h
  exact ⟨n, rfl, bounds_i64 hw⟩
end
end Go.Proofs.YtdhicdnmgmkpkaaGreat
/-
  What data that come in read as: words and addresses.
  Conditions: none.
-/
namespace Go.Proofs.YtdhicdnmgmkpkaaGreat
set_option linter.unusedVariables false
set_option maxRecDepth 100000
open Go.RowKit Mono Go.ChangeShapes Go.WideShapes Go.Deep
section
variable {H : Type} {enc : TypeId × Value → H} {w : World} {spare : Nat → Bool} {held : Bool}
theorem bvs_of (cs : List Value) (h : ∀ u ∈ cs, ∃ b : UInt8, u = bv b) : ∃ l : List UInt8, cs = bvs l := by
  induction cs with
  | nil => exact ⟨[], rfl⟩
  | cons u cs ih =>
    obtain ⟨l, hl⟩ := ih fun u hu => h u (by simp [hu])
    obtain ⟨b, rfl⟩ := h u (by simp)
    exact ⟨b :: l, by rw [hl]; rfl⟩
theorem arr_of_trod {t : TypeId} {n fuel : Nat} {cs : List Value} {x : DataW H × List MemPlace} (ht : Tryz.prog.underlying t = some (.array n 5)) (hc : Tryz.prog.cellsOf t = n) (h : DataW.trod enc Tryz.prog w 0 spare held fuel t cs = some x) :
    ∃ l : List UInt8, l.length = n ∧ cs = bvs l := by
  obtain ⟨xs, m, _, _, hl, hxl, hg⟩ := DataW.trod_array ht h
  rw [hc] at hl
  obtain ⟨l, rfl⟩ := bvs_of cs fun u hu => by
    obtain ⟨i, hi, rfl⟩ := List.getElem_of_mem hu
    have h1 := hg i (by omega)
    rw [(by kernel_rfl : Tryz.prog.cellsOf 5 = 1), Nat.mul_one, List.drop_eq_getElem_cons hi, List.take_succ_cons, List.take_zero, List.getElem?_eq_getElem (by omega)] at h1
    obtain ⟨b, hb⟩ := u8_of_trod h1
    exact ⟨b, by simpa using hb⟩
  exact ⟨l, by rw [← hl, bvs_length], rfl⟩
variable {r : Reach} {b0 : Nat} {v : Value} {d : DataW H} {ps : List MemPlace}
end
end Go.Proofs.YtdhicdnmgmkpkaaGreat
/-
  What data that come in read as: slices, with a bound on what they weigh.
  Conditions: none.
-/
namespace Go.Proofs.YtdhicdnmgmkpkaaGreat
set_option linter.unusedVariables false
open Go.RowKit Mono Go.ChangeShapes Go.WideShapes Go.Deep
section
variable {H : Type} {enc : TypeId × Value → H} {w : World} {spare : Nat → Bool} {held : Bool}
theorem weights_all {P : Program} {e : TypeId} {d : DataW H} {k : Nat} : ∀ {ds : List (DataW H)}, d ∈ ds → k ∈ d.weights P e → k ∈ DataW.weightsAll P e ds
  | [], h, _ => by cases h
  | x :: xs, h, hk => by
    rw [DataW.weightsAll]
    rcases List.mem_cons.1 h with rfl | h
    · exact List.mem_append_left _ hk
    · exact List.mem_append_right _ (weights_all h hk)
theorem slice_rowsW {t e n : TypeId} {fuel : Nat} {v : Value} {x : DataW H × List MemPlace} (ht : Tryz.prog.underlying t = some (.slice e)) (hn : Tryz.prog.cellsOf e = n) (h : DataW.trod enc Tryz.prog w 0 spare held fuel t [v] = some x) :
    ∃ (A : Option Addr) (c f : Nat) (rows : List (List Value)), v = .slice A rows.length c ∧ rows.length ≤ c ∧ c ≤ maxLen ∧ Rd w w.heap.size A rows.flatten ∧ (∀ r ∈ rows, r.length = n) ∧ (A = none → rows = [] ∧ c = 0) ∧ (rows ≠ [] → f < fuel) ∧ (∀ r ∈ rows, ∃ y, DataW.trod enc Tryz.prog w 0 spare held f e r = some y ∧ ∀ k ∈ y.1.weights Tryz.prog e, k ∈ x.1.weights Tryz.prog t) ∧ (rows ≠ [] → ∃ k ∈ x.1.weights Tryz.prog t, rows.length * Tryz.prog.bytesOf e ≤ k) := by
  rcases DataW.trod_slice ht h with ⟨hcs, hx⟩ | ⟨a, len, cap, elems, rest, f, hfu, hcs, hx, _, hl, hm, hel, hi, _⟩
  · simp at hcs
    subst hcs
    exact ⟨none, 0, 0, [], rfl, Nat.le_refl _, by simp [maxLen], Rd.nil, by simp, fun _ => ⟨rfl, rfl⟩, fun hne => absurd rfl hne, by simp, fun hne => absurd rfl hne⟩
  · simp at hcs
    subst hcs
    rw [hn] at hi
    let row : Nat → List Value := fun i => (w.cells? 0 (a.add (i * n)) n).getD []
    have hrow : ∀ i, i < len → w.cells? 0 (a.add (i * n)) n = some (row i) ∧ ∃ y, DataW.trod enc Tryz.prog w 0 spare held f e (row i) = some y ∧ ∀ k ∈ y.1.weights Tryz.prog e, k ∈ x.1.weights Tryz.prog t := fun i hil => by
      have h1 := hi i hil
      rw [List.getElem?_eq_getElem (by omega)] at h1
      cases hc : w.cells? 0 (a.add (i * n)) n with
      | none => rw [hc] at h1; cases h1
      | some cs' =>
        rw [hc] at h1
        have : row i = cs' := by simp only [row]; rw [hc]; rfl
        rw [this]
        refine ⟨rfl, _, h1, fun k hk => ?_⟩
        rw [hx, DataW.weights, ht]
        exact List.mem_cons_of_mem _ (List.mem_append_left _ (weights_all (List.mem_map_of_mem (List.getElem_mem (by omega))) hk))
    have hmem : ∀ r ∈ (List.range len).map row, ∃ i, i < len ∧ r = row i := fun r hr => by
      obtain ⟨i, h1, h2⟩ := List.mem_map.1 hr
      exact ⟨i, List.mem_range.1 h1, h2.symm⟩
    have hlen : ∀ r ∈ (List.range len).map row, r.length = n := fun r hr => by
      obtain ⟨i, h1, rfl⟩ := hmem r hr
      exact (World.cells?_some (hrow i h1).1).2.1
    refine ⟨some a, cap, f, (List.range len).map row, by simp, by simpa using hl, hm, ?_, hlen, (fun e => by cases e), fun _ => by omega, fun r hr => ?_, fun _ => ⟨(elems.length + rest.length) * Tryz.prog.bytesOf e, ?_, ?_⟩⟩
    · have hcell : ∀ j u, ((List.range len).map row).flatten[j]? = some u → w.cell? (a.add j) = some u := fun j u hu => by
        obtain ⟨i, r, row', rfl, h2, h3, h4⟩ := flat_get _ j hlen hu
        have hil : i < len := by
          have := (List.getElem?_eq_some_iff.1 h3).1
          simpa using this
        have h5 : row' = row i := by
          rw [List.getElem?_map, List.getElem?_range hil] at h3
          exact (Option.some.inj h3).symm
        subst h5
        have h6 := (World.cells?_some (hrow i hil).1).2.2 r h2
        rw [h4, Go.Deep.add_add] at h6
        exact h6
      intro hne
      obtain ⟨u0, rest, he⟩ := List.exists_cons_of_ne_nil hne
      have h0 := hcell 0 u0 (by rw [he]; rfl)
      rw [show a.add 0 = a from if_pos rfl] at h0
      obtain ⟨h1, b, o, rfl⟩ := cell_spot h0
      refine ⟨b, o, rfl, h1, fun j u hu => ?_⟩
      have := hcell j u hu
      rw [add_none] at this
      exact this
    · obtain ⟨i, h1, rfl⟩ := hmem r hr
      exact (hrow i h1).2
    · rw [hx, DataW.weights, ht]
      simp
    · rw [List.length_map, List.length_range]
      exact Nat.mul_le_mul_right _ (by omega)
end
end Go.Proofs.YtdhicdnmgmkpkaaGreat
/-
  What data that come in read as, by their shape: numbers, bools, arrays of bytes, bytes, slices and structs of these.
  Conditions: none.
-/
namespace Go.Proofs.YtdhicdnmgmkpkaaGreat
set_option linter.unusedVariables false
set_option maxRecDepth 100000
open Go.RowKit Mono Go.ChangeShapes Go.WideShapes Go.Deep
namespace E
inductive Sh where
  | bool
  | int (k : IntKind)
  | arr (n : Nat)
  | bytes
  | slice (b : Nat) (s : Sh)
  | struct (ss : List Sh)
mutual
def Sh.size : Sh → Nat
  | .arr n => n
  | .struct ss => Sh.sizes ss
  | _ => 1
def Sh.sizes : List Sh → Nat
  | [] => 0
  | s :: ss => s.size + Sh.sizes ss
end
def Sh.agg : Sh → Bool
  | .arr _ => true
  | .struct _ => true
  | _ => false
mutual
def Sh.Is : Sh → TypeId → Prop
  | .bool, t => Tryz.prog.underlying t = some .bool ∧ Tryz.prog.cellsOf t = 1
  | .int k, t => Tryz.prog.underlying t = some (.int k) ∧ Tryz.prog.cellsOf t = 1
  | .arr n, t => Tryz.prog.underlying t = some (.array n 5) ∧ Tryz.prog.cellsOf t = n
  | .bytes, t => Tryz.prog.underlying t = some (.slice 5) ∧ Tryz.prog.cellsOf t = 1
  | .slice b s, t => Tryz.prog.cellsOf t = 1 ∧ ∃ e, Tryz.prog.underlying t = some (.slice e) ∧ Tryz.prog.bytesOf e = b ∧ s.Is e
  | .struct ss, t => ∃ fs : Array Field, Tryz.prog.underlying t = some (.struct fs) ∧ Tryz.prog.cellsOf t = Sh.sizes ss ∧ Sh.IsF ss 0 fs.toList
def Sh.IsF : List Sh → Nat → List Field → Prop
  | [], _, fs => fs = []
  | s :: ss, o, fs => ∃ f rest, fs = f :: rest ∧ f.offset = o ∧ s.Is f.type ∧ Sh.IsF ss (o + s.size) rest
end
mutual
def Sh.Of (N : Nat) : Sh → D → Prop
  | .bool, d => ∃ b, d = .v (.bool b)
  | .int k, d => ∃ n, d = .v (.int k n) ∧ (Lit.int k n).wf = true
  | .arr n, d => ∃ l : List UInt8, l.length = n ∧ d = .arr n l
  | .bytes, d => ∃ l : List UInt8, l.length ≤ N ∧ d = .bs l
  | .slice b s, d => ∃ ds : List D, ds.length * b ≤ N ∧ d = .sl s.size ds ∧ ∀ x ∈ ds, s.Of N x
  | .struct ss, d => ∃ ds, d = .tup ds ∧ Sh.OfL N ss ds
def Sh.OfL (N : Nat) : List Sh → List D → Prop
  | [], ds => ds = []
  | s :: ss, ds => ∃ d rest, ds = d :: rest ∧ s.Of N d ∧ Sh.OfL N ss rest
end
theorem Sh.Is.cells : ∀ {s : Sh} {t : TypeId}, s.Is t → Tryz.prog.cellsOf t = s.size
  | .bool, t, h => by rw [Sh.Is] at h; exact h.2
  | .int k, t, h => by rw [Sh.Is] at h; exact h.2
  | .arr n, t, h => by rw [Sh.Is] at h; exact h.2
  | .bytes, t, h => by rw [Sh.Is] at h; exact h.2
  | .slice b s, t, h => by rw [Sh.Is] at h; exact h.1
  | .struct ss, t, h => by
    rw [Sh.Is] at h
    obtain ⟨fs, _, h2, _⟩ := h
    exact h2
theorem rows_mk {ok : Nat → Prop} {w : World} {z : Nat} {Q : D → Prop} : ∀ {rows : List (List Value)}, (∀ r ∈ rows, r.length = z ∧ ∃ d, Q d ∧ Reads ok w d r) → ∃ ds, ds.length = rows.length ∧ (∀ x ∈ ds, Q x) ∧ ReadsRows ok w z ds rows
  | [], _ => ⟨[], rfl, by simp, by rw [ReadsRows]⟩
  | r :: rows, h => by
    obtain ⟨ds, h1, h2, h3⟩ := rows_mk (rows := rows) fun r hr => h r (by simp [hr])
    obtain ⟨hz, d, hd, hr⟩ := h r (by simp)
    refine ⟨d :: ds, by simp [h1], fun x hx => ?_, by rw [ReadsRows]; exact ⟨r, rows, rfl, hz, hr, h3⟩⟩
    rcases List.mem_cons.1 hx with rfl | hx
    · exact hd
    · exact h2 x hx
section
variable {H : Type} {enc : TypeId × Value → H} {w : World} {spare : Nat → Bool} {held : Bool} {N : Nat}
mutual
theorem sh_trod : ∀ (s : Sh) (t : TypeId) (fuel : Nat) (cs : List Value) (x : DataW H × List MemPlace), s.Is t → DataW.trod enc Tryz.prog w 0 spare held fuel t cs = some x → (∀ k ∈ x.1.weights Tryz.prog t, k ≤ N) → ∃ d, s.Of N d ∧ Reads (fun b => b < w.heap.size) w d cs
  | .bool, t, fuel, cs, x, hs, h, hN => by
    rw [Sh.Is] at hs
    obtain ⟨b, rfl, _⟩ := DataW.trod_bool hs.1 h
    exact ⟨.v (.bool b), by rw [Sh.Of]; exact ⟨b, rfl⟩, by rw [Reads]; exact ⟨rfl, rfl⟩⟩
  | .int k, t, fuel, cs, x, hs, h, hN => by
    rw [Sh.Is] at hs
    obtain ⟨n, rfl, _, hw⟩ := DataW.trod_int hs.1 h
    exact ⟨.v (.int k n), by rw [Sh.Of]; exact ⟨n, rfl, hw⟩, by rw [Reads]; exact ⟨rfl, rfl⟩⟩
  | .arr n, t, fuel, cs, x, hs, h, hN => by
    rw [Sh.Is] at hs
    obtain ⟨l, hl, rfl⟩ := arr_of_trod hs.1 hs.2 h
    exact ⟨.arr n l, by rw [Sh.Of]; exact ⟨l, hl, rfl⟩, by rw [Reads]; exact ⟨hl, rfl⟩⟩
  | .bytes, t, fuel, cs, x, hs, h, hN => by
    rw [Sh.Is] at hs
    have hl : ∃ v, cs = [v] := by
      rcases DataW.trod_slice hs.1 h with ⟨hcs, _⟩ | ⟨a, len, cap, elems, rest, f, hfu, hcs, _⟩
      · exact ⟨_, hcs⟩
      · exact ⟨_, hcs⟩
    obtain ⟨v, rfl⟩ := hl
    obtain ⟨A, c, f, rows, rfl, h1, h2, h3, _, _, _, h5, h8⟩ := slice_rowsW hs.1 (by kernel_rfl : Tryz.prog.cellsOf 5 = 1) h
    obtain ⟨l, h6, h7⟩ := bytes_of_rows fun r hr => by
      obtain ⟨y, hy, _⟩ := h5 r hr
      exact u8_of_trod hy
    rw [h7] at h3
    have hl : l.length ≤ N := by
      rw [h6]
      by_cases hr : rows = []
      · rw [hr]; simp
      · obtain ⟨k, hk, hk2⟩ := h8 hr
        rw [(by kernel_rfl : Tryz.prog.bytesOf 5 = 1), Nat.mul_one] at hk2
        exact Nat.le_trans hk2 (hN k hk)
    exact ⟨.bs l, by rw [Sh.Of]; exact ⟨l, hl, rfl⟩, by rw [Reads]; exact ⟨_, rfl, A, c, by rw [h6], by rw [h6]; exact h1, h2, h3⟩⟩
  | .slice b s, t, fuel, cs, x, hs, h, hN => by
    rw [Sh.Is] at hs
    obtain ⟨_, e, hu, hb, he⟩ := hs
    have hl : ∃ v, cs = [v] := by
      rcases DataW.trod_slice hu h with ⟨hcs, _⟩ | ⟨a, len, cap, elems, rest, f, hfu, hcs, _⟩
      · exact ⟨_, hcs⟩
      · exact ⟨_, hcs⟩
    obtain ⟨v, rfl⟩ := hl
    obtain ⟨A, c, f, rows, rfl, h1, h2, h3, h4, h5, _, h6, h8⟩ := slice_rowsW hu he.cells h
    obtain ⟨ds, g1, g2, g3⟩ := rows_mk (ok := fun b => b < w.heap.size) (w := w) (z := s.size) (Q := s.Of N) fun r hr => by
      obtain ⟨y, hy, hk⟩ := h6 r hr
      exact ⟨h4 r hr, sh_trod s e f r y he hy fun k hk' => hN k (hk k hk')⟩
    have hl : ds.length * b ≤ N := by
      rw [g1, ← hb]
      by_cases hr : rows = []
      · rw [hr]; simp
      · obtain ⟨k, hk, hk2⟩ := h8 hr
        exact Nat.le_trans hk2 (hN k hk)
    refine ⟨.sl s.size ds, by rw [Sh.Of]; exact ⟨ds, hl, rfl, g2⟩, ?_⟩
    rw [Reads]
    exact ⟨A, c, rows, by rw [g1], by rw [g1]; exact h1, h2, fun e => by rw [g1, (h5 e).1]; exact ⟨rfl, (h5 e).2⟩, h3, g3⟩
  | .struct ss, t, fuel, cs, x, hs, h, hN => by
    rw [Sh.Is] at hs
    obtain ⟨fs, hu, hc, hf⟩ := hs
    obtain ⟨xs, n, _, hx, hl, hxl, hg⟩ := DataW.trod_struct hu h
    obtain ⟨ds, h1, h2⟩ := sh_trods ss 0 n cs fs.toList hf (by rw [hl, hc, Nat.zero_add]) fun f hm => by
      obtain ⟨i, hi, rfl⟩ := List.getElem_of_mem hm
      have hi' : i < fs.size := by simpa using hi
      have := hg i fs[i] (by rw [Array.getElem?_eq_getElem hi'])
      rw [List.getElem?_eq_getElem (by omega)] at this
      refine ⟨_, this, fun k hk => hN k ?_⟩
      rw [hx]
      simp only [DataW.weights, hu]
      exact DataW.weights_mem_each (j := i) (t := fs[i].type) (d := xs[i].1) (by simp [Array.getElem?_eq_getElem hi']) (by rw [List.getElem?_map, List.getElem?_eq_getElem (by omega)]; rfl) k hk
    exact ⟨.tup ds, by rw [Sh.Of]; exact ⟨ds, rfl, h1⟩, by rw [Reads]; simpa using h2⟩
theorem sh_trods : ∀ (ss : List Sh) (o n : Nat) (cs : List Value) (fs : List Field), Sh.IsF ss o fs → cs.length = o + Sh.sizes ss → (∀ f ∈ fs, ∃ y, DataW.trod enc Tryz.prog w 0 spare held n f.type ((cs.drop f.offset).take (Tryz.prog.cellsOf f.type)) = some y ∧ ∀ k ∈ y.1.weights Tryz.prog f.type, k ≤ N) →
    ∃ ds, Sh.OfL N ss ds ∧ ReadsL (fun b => b < w.heap.size) w ds (cs.drop o)
  | [], o, n, cs, fs, hf, hl, h => ⟨[], by rw [Sh.OfL], by
    rw [ReadsL]
    rw [Sh.sizes] at hl
    exact List.drop_eq_nil_of_le (by omega)⟩
  | s :: ss, o, n, cs, fs, hf, hl, h => by
    rw [Sh.IsF] at hf
    obtain ⟨f, rest, rfl, rfl, hs, hf⟩ := hf
    rw [Sh.sizes] at hl
    obtain ⟨y, hy, hk⟩ := h f (by simp)
    rw [hs.cells] at hy
    obtain ⟨d, h1, h2⟩ := sh_trod s f.type n _ y hs hy hk
    obtain ⟨ds, h3, h4⟩ := sh_trods ss (f.offset + s.size) n cs rest hf (by omega) fun g hg => h g (by simp [hg])
    refine ⟨d :: ds, by rw [Sh.OfL]; exact ⟨d, ds, rfl, h1, h3⟩, ?_⟩
    rw [ReadsL]
    refine ⟨_, _, ?_, h2, h4⟩
    rw [← List.drop_drop, List.take_append_drop]
end
theorem sh_agg {s : Sh} {d : D} (h : s.Of N d) : d.agg = s.agg := by
  cases s <;> rw [Sh.Of] at h
  · obtain ⟨_, rfl⟩ := h
    rfl
  · obtain ⟨_, rfl, _⟩ := h
    rfl
  · obtain ⟨_, _, rfl⟩ := h
    rfl
  · obtain ⟨_, _, rfl⟩ := h
    rfl
  · obtain ⟨_, _, rfl, _⟩ := h
    rfl
  · obtain ⟨_, rfl, _⟩ := h
    rfl
variable {r : Reach} {b0 : Nat} {v : Value} {d : DataW H} {ps : List MemPlace}
theorem sh_value {s : Sh} {t : TypeId} (hs : s.Is t) (hv : Value.okWide Tryz.prog w r b0 t v) (h : DataW.Trod enc Tryz.prog w 0 spare held t v d ps) : v = if s.agg then .agg v.cells else v.cells.toList.headD undef := by
  cases s <;> rw [Sh.Is] at hs
  · obtain ⟨b, rfl, _⟩ := open_bool hs.1 hv h
    rfl
  · obtain ⟨n, rfl, _⟩ := open_int hs.1 hv h
    rfl
  · simp only [Value.okWide, hs.1] at hv
    obtain ⟨cs, rfl, _⟩ := hv
    rfl
  · obtain ⟨a, n, c, rfl⟩ := okWide_slice hs.1 hv
    rfl
  · obtain ⟨_, e, hu, _, _⟩ := hs
    obtain ⟨a, n, c, rfl⟩ := okWide_slice hu hv
    rfl
  · obtain ⟨fs, hu, _⟩ := hs
    simp only [Value.okWide, hu] at hv
    obtain ⟨cs, rfl, _⟩ := hv
    rfl
theorem o_sh {s : Sh} {t : TypeId} (hs : s.Is t) (hv : Value.okWide Tryz.prog w r b0 t v) (h : DataW.Trod enc Tryz.prog w 0 spare held t v d ps) (hN : ∀ k ∈ d.weights Tryz.prog t, k ≤ N) : ∃ D, s.Of N D ∧ ReadV (fun b => b < w.heap.size) w D v := by
  have h3 := sh_value hs hv h
  obtain ⟨fuel, hf⟩ := h
  obtain ⟨D, h1, h2⟩ := sh_trod s t fuel _ _ hs hf hN
  refine ⟨D, h1, _, h2, ?_⟩
  unfold form
  rw [sh_agg h1]
  simpa using h3
end
end E
end Go.Proofs.YtdhicdnmgmkpkaaGreat
/-
  What data that come in read as: lists of accounts, lists of changes.
  Conditions: none.
-/
namespace Go.Proofs.YtdhicdnmgmkpkaaGreat
set_option linter.unusedVariables false
set_option maxRecDepth 100000
open Go.RowKit Mono Go.ChangeShapes Go.WideShapes Go.Deep
namespace E
def shSl : Sh := .struct [.arr 32, .arr 32]
def shAc : Sh := .struct [.arr 20, .int .i64, .arr 32, .bytes, .slice 64 shSl]
theorem is_slot : shSl.Is 103 := by
  unfold shSl
  rw [Sh.Is]
  refine ⟨_, Tryz.underlying103, by kernel_rfl, ?_⟩
  simp only [Sh.IsF, Sh.Is]
  exact ⟨_, _, rfl, rfl, ⟨Tryz.underlying34, by kernel_rfl⟩, _, _, rfl, rfl, ⟨Tryz.underlying34, by kernel_rfl⟩, rfl⟩
theorem is_account : shAc.Is 74 := by
  unfold shAc
  rw [Sh.Is]
  refine ⟨_, Tryz.underlying74, by kernel_rfl, ?_⟩
  simp only [Sh.IsF, Sh.Is]
  exact ⟨_, _, rfl, rfl, ⟨Tryz.underlying32, by kernel_rfl⟩, _, _, rfl, rfl, ⟨Tryz.underlying2, by kernel_rfl⟩, _, _, rfl, rfl, ⟨Tryz.underlying34, by kernel_rfl⟩, _, _, rfl, rfl, ⟨Tryz.underlying35, by kernel_rfl⟩, _, _, rfl, rfl, ⟨by kernel_rfl, _, Tryz.underlying72, by kernel_rfl, is_slot⟩, rfl⟩
theorem is_accounts : (Sh.slice 112 shAc).Is 22 := by
  rw [Sh.Is]
  exact ⟨by kernel_rfl, _, Tryz.underlying22, by kernel_rfl, is_account⟩
theorem maps_of {α : Type} {Q : D → Prop} {f : α → D} (h : ∀ d, Q d → ∃ a, d = f a) : ∀ {ds : List D}, (∀ x ∈ ds, Q x) → ∃ rs : List α, ds = rs.map f
  | [], _ => ⟨[], rfl⟩
  | d :: ds, hd => by
    obtain ⟨a, rfl⟩ := h d (hd d (by simp))
    obtain ⟨rs, rfl⟩ := maps_of h fun x hx => hd x (List.mem_cons_of_mem _ hx)
    exact ⟨a :: rs, rfl⟩
variable {N : Nat}
theorem of_slot {d : D} (h : shSl.Of N d) : ∃ s, d = dSlL s := by
  unfold shSl at h
  simp only [Sh.Of, Sh.OfL] at h
  obtain ⟨_, rfl, _, _, rfl, ⟨k, h1, rfl⟩, _, _, rfl, ⟨v, h2, rfl⟩, rfl⟩ := h
  exact ⟨(k, v), rfl⟩
theorem of_account {d : D} (h : shAc.Of N d) : ∃ c : AcL, d = dAcL c := by
  unfold shAc at h
  simp only [Sh.Of, Sh.OfL] at h
  obtain ⟨_, rfl, _, _, rfl, ⟨a, h1, rfl⟩, _, _, rfl, ⟨n, rfl, hn⟩, _, _, rfl, ⟨b, h2, rfl⟩, _, _, rfl, ⟨c, hc, rfl⟩, _, _, rfl, ⟨ss, hl, rfl, hs⟩, rfl⟩ := h
  obtain ⟨ss, rfl⟩ := maps_of (fun _ => of_slot) hs
  exact ⟨⟨a, n, b, c, ss⟩, rfl⟩
theorem le_sum (l : List Nat) : ∀ k ∈ l, k ≤ l.sum := by
  induction l with
  | nil => intro k hk; cases hk
  | cons a l ih =>
    intro k hk
    rw [List.sum_cons]
    rcases List.mem_cons.1 hk with rfl | hk
    · omega
    · have := ih k hk
      omega
end E
end Go.Proofs.YtdhicdnmgmkpkaaGreat
/-
  What data that come in read as: lists of lists of accounts.
  Conditions: none.
-/
namespace Go.Proofs.YtdhicdnmgmkpkaaGreat
set_option linter.unusedVariables false
set_option maxRecDepth 100000
open Go.RowKit Mono Go.ChangeShapes Go.WideShapes Go.Deep
namespace E
theorem is_acss : (Sh.slice 24 (Sh.slice 112 shAc)).Is 91 := by
  rw [Sh.Is]
  exact ⟨by kernel_rfl, _, Tryz.underlying91, by kernel_rfl, is_accounts⟩
theorem of_accs {N : Nat} {d : D} (h : (Sh.slice 112 shAc).Of N d) : ∃ l : List AcL, d = .sl 55 (l.map dAcL) := by
  rw [Sh.Of] at h
  obtain ⟨ds, _, rfl, h3⟩ := h
  obtain ⟨l, rfl⟩ := maps_of (fun _ => of_account) h3
  exact ⟨l, rfl⟩
end E
def o_acss_says (w : World) (v : Value) : Prop := ∃ ll : List (List E.AcL), E.ReadV (fun b => b < w.heap.size) w (.sl 1 (ll.map fun l => .sl 55 (l.map E.dAcL))) v
section
variable {H : Type} {enc : TypeId × Value → H} {w : World} {spare : Nat → Bool} {held : Bool} {r : Reach} {b0 : Nat} {v : Value} {d : DataW H} {ps : List MemPlace}
theorem o_acss (hv : Value.okWide Tryz.prog w r b0 91 v) (h : DataW.Trod enc Tryz.prog w 0 spare held 91 v d ps) : o_acss_says w v := by
  obtain ⟨D, h1, h2⟩ := E.o_sh E.is_acss hv h (E.le_sum _)
  rw [E.Sh.Of] at h1
  obtain ⟨ds, _, rfl, h3⟩ := h1
  obtain ⟨ll, rfl⟩ := E.maps_of (fun _ => E.of_accs) h3
  exact ⟨ll, h2⟩
end
end Go.Proofs.YtdhicdnmgmkpkaaGreat
