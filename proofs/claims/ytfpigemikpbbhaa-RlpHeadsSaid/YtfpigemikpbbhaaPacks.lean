/-
  Pack, the program's and the reference's: one answer.
  Conditions: none.
-/
import Derived.Test.YtfpigemikpbbhaaRefPack2
namespace Go.Proofs.Ytfpigemikpbbhaa
set_option linter.unusedVariables false
open Go.RowKit Mono Rlp

/-- What Pack tells; the bytes are the call's own. -/
def PackV (base : Nat) (r : Raw) : VP := fun v w => match packed r with
  | some b => ∃ vb, v = .tuple #[vb, .int .i64 0] ∧ OwnB w base vb b
  | none => v = .tuple #[.slice none 0 0, .int .i64 3]
def PackV2 (r : Raw) : VP := fun v w => match packed r with
  | some b => ∃ vb, v = .tuple #[vb, .int .i64 0] ∧ IsB w vb b
  | none => v = .tuple #[.slice none 0 0, .int .i64 3]
theorem packed_le {r : Raw} {b : List UInt8} (h : packed r = some b) : b = E r ∧ b.length ≤ most := by
  unfold packed at h
  cases hm : meas r 0 with
  | none => rw [hm] at h; cases h
  | some n =>
    rw [hm] at h
    dsimp only at h
    split at h
    · cases h
    · cases h
      have := meas_E r 0 n hm
      exact ⟨rfl, by omega⟩

set_option maxHeartbeats 2000000 in
set_option maxRecDepth 20000 in
theorem rlp_pack (v : Value) (x : Raw) (w : World) (h : IsItem w v x) : Calls Try.prog 33 #[v] w (Ret (fun v w' => PackV w.heap.size x v w') w) := by
  have hx := h
  obtain ⟨lst, bs, xs⟩ := x
  obtain ⟨vb, vl, rfl, ⟨A9, c9, rfl, _⟩, A, c, rows, rfl, _⟩ := isItem_form h
  clear h
  generalize hr : Raw.mk lst bs xs = r at hx ⊢
  have HX := Lib.hid hx
  clear hx
  go_enter Try.func33, Try.ntmps33
  go_wp2_with fail
  refine (rlp_of _ r _ (HX.out.gr (gr_alloc w _))).mono ?_
  rintro e w1 ⟨v1, rfl, hg1, ho1⟩
  have HG1 := Lib.hid ((gr_alloc w _).trans hg1)
  have HO1 := Lib.hid ho1
  clear hg1 ho1 HX
  go_wp2_with fail
  refine (rlp_measure 32 0 rfl r v1 _ HO1.out).mono ?_
  rintro e w2 ⟨v2, rfl, hg2, hm2⟩
  have HG2 := Lib.hid (HG1.out.trans hg2)
  have HO2 := Lib.hid (HO1.out.gr hg2)
  unfold MeasV at hm2
  clear hg2 HO1 HG1 hr
  cases hmx : meas r 0 with
  | none =>
    rw [hmx] at hm2
    obtain ⟨z, rfl⟩ := hm2
    have HP := Lib.hid (show packed r = none by unfold packed; rw [hmx])
    clear hmx
    go_wp2_with fail
    refine bodyPost_ret (results_tmp2 rfl _ _ _) rfl ?_
    refine ⟨_, rfl, HG2.out, ?_⟩
    unfold PackV
    rw [HP.out]
    rfl
  | some n =>
    rw [hmx] at hm2
    dsimp only at hm2
    subst hm2
    have hn := meas_le _ _ _ hmx
    simp only [most] at hn
    by_cases h3 : n > most
    · have HP := Lib.hid (show packed r = none by unfold packed; rw [hmx]; dsimp only; rw [if_pos h3])
      simp only [most] at h3
      clear hmx
      go_wp2_with fail
      refine bodyPost_ret (results_tmp2 rfl _ _ _) rfl ?_
      refine ⟨_, rfl, HG2.out, ?_⟩
      unfold PackV
      rw [HP.out]
      rfl
    · have HP := Lib.hid (show packed r = some (E r) by unfold packed; rw [hmx]; dsimp only; rw [if_neg h3])
      have hl := (packed_le HP.out).2
      simp only [most] at h3
      have h4 : n ≤ 16777216 := by omega
      clear hmx h3
      go_wp2_with fail
      refine (rlp_write _ r v1 _ (Nat.lt_succ_self _) hl HO2.out).mono ?_
      rintro e w3 ⟨v3, rfl, hg3, ho3⟩
      have HG3 := Lib.hid (HG2.out.trans hg3)
      have HO3 := Lib.hid (own_base ho3 HG2.out.size)
      clear hg3 ho3
      go_wp2_with fail
      refine bodyPost_ret (results_tmp2 rfl _ _ _) rfl ?_
      refine ⟨_, rfl, HG3.out, ?_⟩
      unfold PackV
      rw [HP.out]
      exact ⟨v3, rfl, HO3.out⟩

set_option maxHeartbeats 2000000 in
set_option maxRecDepth 20000 in
theorem ref_Pack (v : Value) (x : Raw) (w : World) (h : IsItem w v x) : Calls Try.prog 45 #[v] w (Ret (PackV2 x) w) := by
  have hx := h
  obtain ⟨lst, bs, xs⟩ := x
  obtain ⟨vb, vl, rfl, ⟨A9, c9, rfl, _⟩, A, c, rows, rfl, _⟩ := isItem_form h
  clear h
  generalize hr : Raw.mk lst bs xs = r at hx ⊢
  have hpr := packed_ref r
  have HX := Lib.hid (hx.gr (gr_alloc w (.cells #[.bool lst, .slice A9 bs.length c9, .slice A xs.length c] 45)))
  have hdl := deepR_le 32 r
  clear hx hr
  go_enter Try.func45, Try.ntmps45
  go_wp2_with fail
  refine (ref_deep 32 r _ _ (Nat.le_refl _) HX.out).mono ?_
  rintro e w1 ⟨_, rfl, hg1, rfl⟩
  have HG1 := Lib.hid ((gr_alloc w _).trans hg1)
  have HX1 := Lib.hid (HX.out.gr hg1)
  have e0 := hg1.cell (p := ⟨w.heap.size, 0, none⟩) (by simp)
  have e1 := hg1.cell (p := ⟨w.heap.size, 1, none⟩) (by simp)
  have e2 := hg1.cell (p := ⟨w.heap.size, 2, none⟩) (by simp)
  rw [cell_of_row (w.alloc _) _ _ _ _ (0, 0) (heap_alloc_new w _)] at e0 e1 e2
  simp at e0 e1 e2
  clear hg1 HX
  by_cases h3 : deepR r 32 > 32
  · have HP := Lib.hid (show packed r = none by rw [hpr, if_pos h3])
    clear hpr
    go_wp2_with fail
    refine bodyPost_ret (results_tmp2 rfl _ _ _) rfl ?_
    refine ⟨_, rfl, HG1.out, ?_⟩
    unfold PackV2
    rw [HP.out]
    rfl
  · rw [if_neg h3] at hpr
    have HPR := Lib.hid hpr
    have h4 : deepR r 32 ≤ 32 := by omega
    clear h3 hpr
    go_wp2_with fail
    refine (ref_pack _ r _ _ (Nat.lt_succ_self _) HX1.out).mono ?_
    rintro e w2 ⟨v2, rfl, hg2, hp2⟩
    have HG2 := Lib.hid (HG1.out.trans hg2)
    unfold PackRV at hp2
    clear hg2 HX1 e0 e1 e2
    cases hpx : packR r with
    | none =>
      rw [hpx] at hp2 HPR
      dsimp only at hp2
      subst hp2
      have HP := Lib.hid (show packed r = none from HPR.out)
      clear hpx HPR
      go_wp2_with fail
      refine bodyPost_ret (results_tmp2 rfl _ _ _) rfl ?_
      refine ⟨_, rfl, HG2.out, ?_⟩
      unfold PackV2
      rw [HP.out]
      rfl
    | some b =>
      rw [hpx] at hp2 HPR
      obtain ⟨vb2, rfl, A4, c4, rfl, he1, he2, hr4⟩ := hp2
      have hbx := packR_le _ _ hpx
      simp only [most] at hbx
      have HR4 := Lib.hid hr4
      have he2' := Lib.hid he2
      unfold maxLen at he2
      clear hr4 hpx
      by_cases h5 : b.length > most
      · have HP := Lib.hid (show packed r = none by rw [HPR.out]; dsimp only; rw [if_pos h5])
        simp only [most] at h5
        clear HPR
        go_wp2_with fail
        refine bodyPost_ret (results_tmp2 rfl _ _ _) rfl ?_
        refine ⟨_, rfl, HG2.out, ?_⟩
        unfold PackV2
        rw [HP.out]
        rfl
      · have HP := Lib.hid (show packed r = some b by rw [HPR.out]; dsimp only; rw [if_neg h5])
        have h6 : b.length ≤ 16777216 := by simp only [most] at h5; omega
        clear HPR h5
        go_wp2_with fail
        refine bodyPost_ret (results_tmp2 rfl _ _ _) rfl ?_
        refine ⟨_, rfl, HG2.out, ?_⟩
        unfold PackV2
        rw [HP.out]
        exact ⟨_, rfl, _, _, rfl, he1, he2'.out, HR4.out⟩
end Go.Proofs.Ytfpigemikpbbhaa
