/-
  RlpWrong: which bytes are no item, though they look like one. (Printed by wip/tools/wrong.py.)
  Conditions: none.
-/
import Derived.Test.YtfpigemikpbbhaaRlpPacks
import Derived.Test.YtfpigemikpbbhaaStrBytes
namespace Go.Proofs.Ytfpigemikpbbhaa
set_option linter.unusedVariables false
open Go.RowKit Mono Rlp

theorem wr_0 : readE [] = 4 ∧ readX [] = .mk false [] [] := ⟨by decide +kernel, by kernel_rfl⟩
set_option maxRecDepth 20000 in
set_option maxHeartbeats 1000000 in
theorem wrong_0 (w : World) : Calls Try.prog 16 #[.int .i64 0] w (Ret (eqV (.bool true)) w) := by
  have HE := Lib.hid wr_0
  go_enter Try.func16, Try.ntmps16
  go_wp2_with fail
  refine (rlp_alive _).mono ?_
  rintro e w1 ⟨_, rfl, hg1, rfl⟩
  have HG1 := Lib.hid hg1
  clear hg1
  have kc := fun (x : World) => conv_str x ⟨#[]⟩
  go_wp2_with fail
  clear kc
  refine (rlp_Read _ [] _ (isB_bytesWorld' _ ⟨#[]⟩ [] 0 _ _ rfl rfl (by simp [maxLen]) (by simp) rfl)).mono ?_
  rintro e w2 ⟨v2, rfl, hg2, hv2⟩
  obtain ⟨vi, rfl, hi⟩ := readV_both hv2
  have hi' := hi.is fun k hk => hk.2
  have hgb := (gr_bytesWorld _ _).trans hg2
  have hgs := hgb.size
  simp only [size_new] at hgs
  rw [HE.out.2] at hi'
  rw [HE.out.1]
  obtain ⟨vb, vl, rfl, ⟨A, c, rfl, _⟩, A2, c2, rows, rfl, _⟩ := isItem_form hi'
  have q1 : (w2.alloc (.cells #[.bool false, .slice A ([] : List UInt8).length c, .slice A2 ([] : List Raw).length c2] 45)).cell? ⟨w1.heap.size + 1, 0, none⟩ = some (.bool false) := by
    rw [cell_of_row _ _ _ _ _ (0, 0) ((heap_old _ _ _ (by omega)).trans ((hgb.block (w1.heap.size + 1) (by simp)).trans (heap_at (w1.alloc _) _ _ (by simp))))]
    rfl
  have HG2 := Lib.hid ((((HG1.out.trans (gr_alloc _ _)).trans (gr_alloc _ _)).trans hgb).trans (gr_alloc w2 (.cells #[.bool false, .slice A ([] : List UInt8).length c, .slice A2 ([] : List Raw).length c2] 45)))
  clear hg2 hv2 hi hi' hgb HG1 HE
  simp only [List.length_nil] at q1 HG2 ⊢
  go_wp2_with (go_at_call 34; refine (law_num _ _).mono ?_; rintro e w' ⟨rfl, rfl⟩)
  refine bodyPost_ret (results_tmp rfl _ _ _) rfl ⟨_, rfl, HG2.out, ?_⟩
  simp [eqV]

theorem wr_1 : readE [129, 5] = 4 ∧ readX [129, 5] = .mk false [] [] := ⟨by decide +kernel, by kernel_rfl⟩
set_option maxRecDepth 20000 in
set_option maxHeartbeats 1000000 in
theorem wrong_1 (w : World) : Calls Try.prog 16 #[.int .i64 1] w (Ret (eqV (.bool true)) w) := by
  have HE := Lib.hid wr_1
  go_enter Try.func16, Try.ntmps16
  go_wp2_with fail
  refine (rlp_alive _).mono ?_
  rintro e w1 ⟨_, rfl, hg1, rfl⟩
  have HG1 := Lib.hid hg1
  clear hg1
  have kc := fun (x : World) => conv_str x ⟨#[129, 5]⟩
  go_wp2_with fail
  clear kc
  refine (rlp_Read _ [129, 5] _ (isB_bytesWorld' _ ⟨#[129, 5]⟩ [129, 5] 2 _ _ rfl rfl (by simp [maxLen]) (by simp) rfl)).mono ?_
  rintro e w2 ⟨v2, rfl, hg2, hv2⟩
  obtain ⟨vi, rfl, hi⟩ := readV_both hv2
  have hi' := hi.is fun k hk => hk.2
  have hgb := (gr_bytesWorld _ _).trans hg2
  have hgs := hgb.size
  simp only [size_new] at hgs
  rw [HE.out.2] at hi'
  rw [HE.out.1]
  obtain ⟨vb, vl, rfl, ⟨A, c, rfl, _⟩, A2, c2, rows, rfl, _⟩ := isItem_form hi'
  have q1 : (w2.alloc (.cells #[.bool false, .slice A ([] : List UInt8).length c, .slice A2 ([] : List Raw).length c2] 45)).cell? ⟨w1.heap.size + 1, 1, none⟩ = some (.bool false) := by
    rw [cell_of_row _ _ _ _ _ (0, 0) ((heap_old _ _ _ (by omega)).trans ((hgb.block (w1.heap.size + 1) (by simp)).trans (heap_at (w1.alloc _) _ _ (by simp))))]
    rfl
  have HG2 := Lib.hid ((((HG1.out.trans (gr_alloc _ _)).trans (gr_alloc _ _)).trans hgb).trans (gr_alloc w2 (.cells #[.bool false, .slice A ([] : List UInt8).length c, .slice A2 ([] : List Raw).length c2] 45)))
  clear hg2 hv2 hi hi' hgb HG1 HE
  simp only [List.length_nil] at q1 HG2 ⊢
  go_wp2_with (go_at_call 34; refine (law_num _ _).mono ?_; rintro e w' ⟨rfl, rfl⟩)
  refine bodyPost_ret (results_tmp rfl _ _ _) rfl ⟨_, rfl, HG2.out, ?_⟩
  simp [eqV]

theorem wr_2 : readE [129, 128] = 0 ∧ packed (readX [129, 128]) = some [129, 128] := ⟨by decide +kernel, by decide +kernel⟩
set_option maxRecDepth 20000 in
set_option maxHeartbeats 1000000 in
theorem wrong_2 (w : World) : Calls Try.prog 16 #[.int .i64 2] w (Ret (eqV (.bool true)) w) := by
  have HE := Lib.hid wr_2
  go_enter Try.func16, Try.ntmps16
  go_wp2_with fail
  refine (rlp_alive _).mono ?_
  rintro e w1 ⟨_, rfl, hg1, rfl⟩
  have HG1 := Lib.hid hg1
  clear hg1
  have kc := fun (x : World) => conv_str x ⟨#[129, 128]⟩
  go_wp2_with fail
  clear kc
  refine (rlp_Read _ [129, 128] _ (isB_bytesWorld' _ ⟨#[129, 128]⟩ [129, 128] 2 _ _ rfl rfl (by simp [maxLen]) (by simp) rfl)).mono ?_
  rintro e w2 ⟨v2, rfl, hg2, hv2⟩
  obtain ⟨vi, rfl, hi⟩ := readV_both hv2
  have hi' := hi.is fun k hk => hk.2
  have hgb := (gr_bytesWorld _ _).trans hg2
  have hgs := hgb.size
  simp only [size_new] at hgs
  rw [HE.out.1]
  obtain ⟨cs, rfl, hat⟩ := hi
  obtain ⟨f, A, n, c, A2, n2, c2, rfl⟩ := hat.len
  have q0 : (w2.alloc (.cells #[.bool f, .slice A n c, .slice A2 n2 c2] 45)).cell? ⟨w1.heap.size, 2, none⟩ = some (.string ⟨#[129, 128]⟩) := by
    rw [cell_of_row _ _ _ _ _ (0, 0) ((heap_old _ _ _ (by omega)).trans ((hgb.block w1.heap.size (by simp; omega)).trans ((heap_old (w1.alloc _) _ _ (by simp)).trans (heap_alloc_new w1 _))))]
    rfl
  have q1 : (w2.alloc (.cells #[.bool f, .slice A n c, .slice A2 n2 c2] 45)).cell? ⟨w1.heap.size + 1, 2, none⟩ = some (.bool true) := by
    rw [cell_of_row _ _ _ _ _ (0, 0) ((heap_old _ _ _ (by omega)).trans ((hgb.block (w1.heap.size + 1) (by simp)).trans (heap_at (w1.alloc _) _ _ (by simp))))]
    rfl
  have HG2 := Lib.hid ((((HG1.out.trans (gr_alloc _ _)).trans (gr_alloc _ _)).trans hgb).trans (gr_alloc w2 (.cells #[.bool f, .slice A n c, .slice A2 n2 c2] 45)))
  have HI := Lib.hid (hi'.gr (gr_alloc w2 (.cells #[.bool f, .slice A n c, .slice A2 n2 c2] 45)))
  clear hg2 hv2 hi' hat hgb HG1
  go_wp2_with fail
  refine (rlp_pack _ _ _ HI.out).mono ?_
  rintro e w3 ⟨v3, rfl, hg3, hv3⟩
  obtain ⟨vb3, rfl, ho3⟩ := packV_some HE.out.2 hv3
  have hb3 := OwnB.isB ho3
  have k1 := conv_later hb3
  obtain ⟨A3, c3, he3, hd1, hd2, _⟩ := hb3
  rw [show ([129, 128] : List UInt8).length = 2 from rfl] at he3
  subst he3
  have HG3 := Lib.hid (HG2.out.trans hg3)
  have hs3 := hg3.size
  simp only [size_new] at hs3
  have q3 := later_cell (w := w3) (p := ⟨w1.heap.size, 2, none⟩) (by dsimp only; omega) ((hg3.cell (p := ⟨w1.heap.size, 2, none⟩) (by simp; omega)).trans q0)
  clear hg3 hv3 ho3 q0 q1 HG2 HI HE
  go_wp2_with fail
  refine wp_region_N 15 (by kernel_rfl) (by kernel_rfl) (by kernel_rfl) ?_
  simp only [List.take_succ_cons, List.take_zero, List.drop_succ_cons, List.drop_zero]
  refine wpN_quiet 1 (by kernel_rfl) ?_
  simp only [List.take_succ_cons, List.take_zero, List.drop_succ_cons, List.drop_zero]
  repeat (go_big_quiet_step (fail))
  refine wpQuiet_nil ?_
  refine wpN_val (.int .i64 0) rfl (by kernel_rfl) (by kernel_rfl) (fun xw => ?_) ?_
  · refine growsTo_call (args := #[.int .i64 0]) (by simp [go_sem]) ((law_num _ _).mono ?_)
    rintro e w' ⟨rfl, rfl⟩
    exact ⟨_, rfl, Gr.refl _, rfl⟩
  simp only [Act.put, List.setIfInBounds_toArray, List.set_cons_succ, List.set_cons_zero]
  refine wpN_quiet 1 (by kernel_rfl) ?_
  simp only [List.take_succ_cons, List.take_zero, List.drop_succ_cons, List.drop_zero]
  repeat (go_big_quiet_step (fail))
  refine wpQuiet_nil ?_
  refine wpN_val (.int .i64 0) rfl (by kernel_rfl) (by kernel_rfl) (fun xw => ?_) ?_
  · refine growsTo_call (args := #[.int .i64 0]) (by simp [go_sem]) ((law_num _ _).mono ?_)
    rintro e w' ⟨rfl, rfl⟩
    exact ⟨_, rfl, Gr.refl _, rfl⟩
  simp only [Act.put, List.setIfInBounds_toArray, List.set_cons_succ, List.set_cons_zero]
  refine wpN_quiet 11 (by kernel_rfl) ?_
  simp only [List.take_succ_cons, List.take_zero, List.drop_succ_cons, List.drop_zero]
  repeat (go_big_quiet_step (fail))
  refine wpQuiet_nil ?_
  refine wpN_nil (by kernel_rfl) ?_
  intro W hW
  replace hW := hW.gr
  unfold finN
  have HG4 := Lib.hid (HG3.out.trans hW)
  go_wp2_with fail
  refine bodyPost_ret (results_tmp rfl _ _ _) rfl ⟨_, rfl, HG4.out, ?_⟩
  simp [eqV, bs_toList]

theorem wr_3 : readE [184, 1, 128] = 4 ∧ readX [184, 1, 128] = .mk false [] [] := ⟨by decide +kernel, by kernel_rfl⟩
set_option maxRecDepth 20000 in
set_option maxHeartbeats 1000000 in
theorem wrong_3 (w : World) : Calls Try.prog 16 #[.int .i64 3] w (Ret (eqV (.bool true)) w) := by
  have HE := Lib.hid wr_3
  go_enter Try.func16, Try.ntmps16
  go_wp2_with fail
  refine (rlp_alive _).mono ?_
  rintro e w1 ⟨_, rfl, hg1, rfl⟩
  have HG1 := Lib.hid hg1
  clear hg1
  have kc := fun (x : World) => conv_str x ⟨#[184, 1, 128]⟩
  go_wp2_with fail
  clear kc
  refine (rlp_Read _ [184, 1, 128] _ (isB_bytesWorld' _ ⟨#[184, 1, 128]⟩ [184, 1, 128] 3 _ _ rfl rfl (by simp [maxLen]) (by simp) rfl)).mono ?_
  rintro e w2 ⟨v2, rfl, hg2, hv2⟩
  obtain ⟨vi, rfl, hi⟩ := readV_both hv2
  have hi' := hi.is fun k hk => hk.2
  have hgb := (gr_bytesWorld _ _).trans hg2
  have hgs := hgb.size
  simp only [size_new] at hgs
  rw [HE.out.2] at hi'
  rw [HE.out.1]
  obtain ⟨vb, vl, rfl, ⟨A, c, rfl, _⟩, A2, c2, rows, rfl, _⟩ := isItem_form hi'
  have q1 : (w2.alloc (.cells #[.bool false, .slice A ([] : List UInt8).length c, .slice A2 ([] : List Raw).length c2] 45)).cell? ⟨w1.heap.size + 1, 3, none⟩ = some (.bool false) := by
    rw [cell_of_row _ _ _ _ _ (0, 0) ((heap_old _ _ _ (by omega)).trans ((hgb.block (w1.heap.size + 1) (by simp)).trans (heap_at (w1.alloc _) _ _ (by simp))))]
    rfl
  have HG2 := Lib.hid ((((HG1.out.trans (gr_alloc _ _)).trans (gr_alloc _ _)).trans hgb).trans (gr_alloc w2 (.cells #[.bool false, .slice A ([] : List UInt8).length c, .slice A2 ([] : List Raw).length c2] 45)))
  clear hg2 hv2 hi hi' hgb HG1 HE
  simp only [List.length_nil] at q1 HG2 ⊢
  go_wp2_with (go_at_call 34; refine (law_num _ _).mono ?_; rintro e w' ⟨rfl, rfl⟩)
  refine bodyPost_ret (results_tmp rfl _ _ _) rfl ⟨_, rfl, HG2.out, ?_⟩
  simp [eqV]

theorem wr_4 : readE [184, 55] = 4 ∧ readX [184, 55] = .mk false [] [] := ⟨by decide +kernel, by kernel_rfl⟩
set_option maxRecDepth 20000 in
set_option maxHeartbeats 1000000 in
theorem wrong_4 (w : World) : Calls Try.prog 16 #[.int .i64 4] w (Ret (eqV (.bool true)) w) := by
  have HE := Lib.hid wr_4
  go_enter Try.func16, Try.ntmps16
  go_wp2_with fail
  refine (rlp_alive _).mono ?_
  rintro e w1 ⟨_, rfl, hg1, rfl⟩
  have HG1 := Lib.hid hg1
  clear hg1
  have kc := fun (x : World) => conv_str x ⟨#[184, 55]⟩
  go_wp2_with fail
  clear kc
  refine (rlp_Read _ [184, 55] _ (isB_bytesWorld' _ ⟨#[184, 55]⟩ [184, 55] 2 _ _ rfl rfl (by simp [maxLen]) (by simp) rfl)).mono ?_
  rintro e w2 ⟨v2, rfl, hg2, hv2⟩
  obtain ⟨vi, rfl, hi⟩ := readV_both hv2
  have hi' := hi.is fun k hk => hk.2
  have hgb := (gr_bytesWorld _ _).trans hg2
  have hgs := hgb.size
  simp only [size_new] at hgs
  rw [HE.out.2] at hi'
  rw [HE.out.1]
  obtain ⟨vb, vl, rfl, ⟨A, c, rfl, _⟩, A2, c2, rows, rfl, _⟩ := isItem_form hi'
  have q1 : (w2.alloc (.cells #[.bool false, .slice A ([] : List UInt8).length c, .slice A2 ([] : List Raw).length c2] 45)).cell? ⟨w1.heap.size + 1, 4, none⟩ = some (.bool false) := by
    rw [cell_of_row _ _ _ _ _ (0, 0) ((heap_old _ _ _ (by omega)).trans ((hgb.block (w1.heap.size + 1) (by simp)).trans (heap_at (w1.alloc _) _ _ (by simp))))]
    rfl
  have HG2 := Lib.hid ((((HG1.out.trans (gr_alloc _ _)).trans (gr_alloc _ _)).trans hgb).trans (gr_alloc w2 (.cells #[.bool false, .slice A ([] : List UInt8).length c, .slice A2 ([] : List Raw).length c2] 45)))
  clear hg2 hv2 hi hi' hgb HG1 HE
  simp only [List.length_nil] at q1 HG2 ⊢
  go_wp2_with (go_at_call 34; refine (law_num _ _).mono ?_; rintro e w' ⟨rfl, rfl⟩)
  refine bodyPost_ret (results_tmp rfl _ _ _) rfl ⟨_, rfl, HG2.out, ?_⟩
  simp [eqV]

theorem wr_5 : readE [130, 97] = 4 ∧ readX [130, 97] = .mk false [] [] := ⟨by decide +kernel, by kernel_rfl⟩
set_option maxRecDepth 20000 in
set_option maxHeartbeats 1000000 in
theorem wrong_5 (w : World) : Calls Try.prog 16 #[.int .i64 5] w (Ret (eqV (.bool true)) w) := by
  have HE := Lib.hid wr_5
  go_enter Try.func16, Try.ntmps16
  go_wp2_with fail
  refine (rlp_alive _).mono ?_
  rintro e w1 ⟨_, rfl, hg1, rfl⟩
  have HG1 := Lib.hid hg1
  clear hg1
  have kc := fun (x : World) => conv_str x ⟨#[130, 97]⟩
  go_wp2_with fail
  clear kc
  refine (rlp_Read _ [130, 97] _ (isB_bytesWorld' _ ⟨#[130, 97]⟩ [130, 97] 2 _ _ rfl rfl (by simp [maxLen]) (by simp) rfl)).mono ?_
  rintro e w2 ⟨v2, rfl, hg2, hv2⟩
  obtain ⟨vi, rfl, hi⟩ := readV_both hv2
  have hi' := hi.is fun k hk => hk.2
  have hgb := (gr_bytesWorld _ _).trans hg2
  have hgs := hgb.size
  simp only [size_new] at hgs
  rw [HE.out.2] at hi'
  rw [HE.out.1]
  obtain ⟨vb, vl, rfl, ⟨A, c, rfl, _⟩, A2, c2, rows, rfl, _⟩ := isItem_form hi'
  have q1 : (w2.alloc (.cells #[.bool false, .slice A ([] : List UInt8).length c, .slice A2 ([] : List Raw).length c2] 45)).cell? ⟨w1.heap.size + 1, 5, none⟩ = some (.bool false) := by
    rw [cell_of_row _ _ _ _ _ (0, 0) ((heap_old _ _ _ (by omega)).trans ((hgb.block (w1.heap.size + 1) (by simp)).trans (heap_at (w1.alloc _) _ _ (by simp))))]
    rfl
  have HG2 := Lib.hid ((((HG1.out.trans (gr_alloc _ _)).trans (gr_alloc _ _)).trans hgb).trans (gr_alloc w2 (.cells #[.bool false, .slice A ([] : List UInt8).length c, .slice A2 ([] : List Raw).length c2] 45)))
  clear hg2 hv2 hi hi' hgb HG1 HE
  simp only [List.length_nil] at q1 HG2 ⊢
  go_wp2_with (go_at_call 34; refine (law_num _ _).mono ?_; rintro e w' ⟨rfl, rfl⟩)
  refine bodyPost_ret (results_tmp rfl _ _ _) rfl ⟨_, rfl, HG2.out, ?_⟩
  simp [eqV]

theorem wr_6 : readE [193] = 4 ∧ readX [193] = .mk false [] [] := ⟨by decide +kernel, by kernel_rfl⟩
set_option maxRecDepth 20000 in
set_option maxHeartbeats 1000000 in
theorem wrong_6 (w : World) : Calls Try.prog 16 #[.int .i64 6] w (Ret (eqV (.bool true)) w) := by
  have HE := Lib.hid wr_6
  go_enter Try.func16, Try.ntmps16
  go_wp2_with fail
  refine (rlp_alive _).mono ?_
  rintro e w1 ⟨_, rfl, hg1, rfl⟩
  have HG1 := Lib.hid hg1
  clear hg1
  have kc := fun (x : World) => conv_str x ⟨#[193]⟩
  go_wp2_with fail
  clear kc
  refine (rlp_Read _ [193] _ (isB_bytesWorld' _ ⟨#[193]⟩ [193] 1 _ _ rfl rfl (by simp [maxLen]) (by simp) rfl)).mono ?_
  rintro e w2 ⟨v2, rfl, hg2, hv2⟩
  obtain ⟨vi, rfl, hi⟩ := readV_both hv2
  have hi' := hi.is fun k hk => hk.2
  have hgb := (gr_bytesWorld _ _).trans hg2
  have hgs := hgb.size
  simp only [size_new] at hgs
  rw [HE.out.2] at hi'
  rw [HE.out.1]
  obtain ⟨vb, vl, rfl, ⟨A, c, rfl, _⟩, A2, c2, rows, rfl, _⟩ := isItem_form hi'
  have q1 : (w2.alloc (.cells #[.bool false, .slice A ([] : List UInt8).length c, .slice A2 ([] : List Raw).length c2] 45)).cell? ⟨w1.heap.size + 1, 6, none⟩ = some (.bool false) := by
    rw [cell_of_row _ _ _ _ _ (0, 0) ((heap_old _ _ _ (by omega)).trans ((hgb.block (w1.heap.size + 1) (by simp)).trans (heap_at (w1.alloc _) _ _ (by simp))))]
    rfl
  have HG2 := Lib.hid ((((HG1.out.trans (gr_alloc _ _)).trans (gr_alloc _ _)).trans hgb).trans (gr_alloc w2 (.cells #[.bool false, .slice A ([] : List UInt8).length c, .slice A2 ([] : List Raw).length c2] 45)))
  clear hg2 hv2 hi hi' hgb HG1 HE
  simp only [List.length_nil] at q1 HG2 ⊢
  go_wp2_with (go_at_call 34; refine (law_num _ _).mono ?_; rintro e w' ⟨rfl, rfl⟩)
  refine bodyPost_ret (results_tmp rfl _ _ _) rfl ⟨_, rfl, HG2.out, ?_⟩
  simp [eqV]

theorem wr_7 : readE [193, 128] = 0 ∧ packed (readX [193, 128]) = some [193, 128] := ⟨by decide +kernel, by decide +kernel⟩
set_option maxRecDepth 20000 in
set_option maxHeartbeats 1000000 in
theorem wrong_7 (w : World) : Calls Try.prog 16 #[.int .i64 7] w (Ret (eqV (.bool true)) w) := by
  have HE := Lib.hid wr_7
  go_enter Try.func16, Try.ntmps16
  go_wp2_with fail
  refine (rlp_alive _).mono ?_
  rintro e w1 ⟨_, rfl, hg1, rfl⟩
  have HG1 := Lib.hid hg1
  clear hg1
  have kc := fun (x : World) => conv_str x ⟨#[193, 128]⟩
  go_wp2_with fail
  clear kc
  refine (rlp_Read _ [193, 128] _ (isB_bytesWorld' _ ⟨#[193, 128]⟩ [193, 128] 2 _ _ rfl rfl (by simp [maxLen]) (by simp) rfl)).mono ?_
  rintro e w2 ⟨v2, rfl, hg2, hv2⟩
  obtain ⟨vi, rfl, hi⟩ := readV_both hv2
  have hi' := hi.is fun k hk => hk.2
  have hgb := (gr_bytesWorld _ _).trans hg2
  have hgs := hgb.size
  simp only [size_new] at hgs
  rw [HE.out.1]
  obtain ⟨cs, rfl, hat⟩ := hi
  obtain ⟨f, A, n, c, A2, n2, c2, rfl⟩ := hat.len
  have q0 : (w2.alloc (.cells #[.bool f, .slice A n c, .slice A2 n2 c2] 45)).cell? ⟨w1.heap.size, 7, none⟩ = some (.string ⟨#[193, 128]⟩) := by
    rw [cell_of_row _ _ _ _ _ (0, 0) ((heap_old _ _ _ (by omega)).trans ((hgb.block w1.heap.size (by simp; omega)).trans ((heap_old (w1.alloc _) _ _ (by simp)).trans (heap_alloc_new w1 _))))]
    rfl
  have q1 : (w2.alloc (.cells #[.bool f, .slice A n c, .slice A2 n2 c2] 45)).cell? ⟨w1.heap.size + 1, 7, none⟩ = some (.bool true) := by
    rw [cell_of_row _ _ _ _ _ (0, 0) ((heap_old _ _ _ (by omega)).trans ((hgb.block (w1.heap.size + 1) (by simp)).trans (heap_at (w1.alloc _) _ _ (by simp))))]
    rfl
  have HG2 := Lib.hid ((((HG1.out.trans (gr_alloc _ _)).trans (gr_alloc _ _)).trans hgb).trans (gr_alloc w2 (.cells #[.bool f, .slice A n c, .slice A2 n2 c2] 45)))
  have HI := Lib.hid (hi'.gr (gr_alloc w2 (.cells #[.bool f, .slice A n c, .slice A2 n2 c2] 45)))
  clear hg2 hv2 hi' hat hgb HG1
  go_wp2_with fail
  refine (rlp_pack _ _ _ HI.out).mono ?_
  rintro e w3 ⟨v3, rfl, hg3, hv3⟩
  obtain ⟨vb3, rfl, ho3⟩ := packV_some HE.out.2 hv3
  have hb3 := OwnB.isB ho3
  have k1 := conv_later hb3
  obtain ⟨A3, c3, he3, hd1, hd2, _⟩ := hb3
  rw [show ([193, 128] : List UInt8).length = 2 from rfl] at he3
  subst he3
  have HG3 := Lib.hid (HG2.out.trans hg3)
  have hs3 := hg3.size
  simp only [size_new] at hs3
  have q3 := later_cell (w := w3) (p := ⟨w1.heap.size, 7, none⟩) (by dsimp only; omega) ((hg3.cell (p := ⟨w1.heap.size, 7, none⟩) (by simp; omega)).trans q0)
  clear hg3 hv3 ho3 q0 q1 HG2 HI HE
  go_wp2_with fail
  refine wp_region_N 15 (by kernel_rfl) (by kernel_rfl) (by kernel_rfl) ?_
  simp only [List.take_succ_cons, List.take_zero, List.drop_succ_cons, List.drop_zero]
  refine wpN_quiet 1 (by kernel_rfl) ?_
  simp only [List.take_succ_cons, List.take_zero, List.drop_succ_cons, List.drop_zero]
  repeat (go_big_quiet_step (fail))
  refine wpQuiet_nil ?_
  refine wpN_val (.int .i64 0) rfl (by kernel_rfl) (by kernel_rfl) (fun xw => ?_) ?_
  · refine growsTo_call (args := #[.int .i64 0]) (by simp [go_sem]) ((law_num _ _).mono ?_)
    rintro e w' ⟨rfl, rfl⟩
    exact ⟨_, rfl, Gr.refl _, rfl⟩
  simp only [Act.put, List.setIfInBounds_toArray, List.set_cons_succ, List.set_cons_zero]
  refine wpN_quiet 1 (by kernel_rfl) ?_
  simp only [List.take_succ_cons, List.take_zero, List.drop_succ_cons, List.drop_zero]
  repeat (go_big_quiet_step (fail))
  refine wpQuiet_nil ?_
  refine wpN_val (.int .i64 0) rfl (by kernel_rfl) (by kernel_rfl) (fun xw => ?_) ?_
  · refine growsTo_call (args := #[.int .i64 0]) (by simp [go_sem]) ((law_num _ _).mono ?_)
    rintro e w' ⟨rfl, rfl⟩
    exact ⟨_, rfl, Gr.refl _, rfl⟩
  simp only [Act.put, List.setIfInBounds_toArray, List.set_cons_succ, List.set_cons_zero]
  refine wpN_quiet 11 (by kernel_rfl) ?_
  simp only [List.take_succ_cons, List.take_zero, List.drop_succ_cons, List.drop_zero]
  repeat (go_big_quiet_step (fail))
  refine wpQuiet_nil ?_
  refine wpN_nil (by kernel_rfl) ?_
  intro W hW
  replace hW := hW.gr
  unfold finN
  have HG4 := Lib.hid (HG3.out.trans hW)
  go_wp2_with fail
  refine bodyPost_ret (results_tmp rfl _ _ _) rfl ⟨_, rfl, HG4.out, ?_⟩
  simp [eqV, bs_toList]

theorem wr_8 : readE [192, 192] = 4 ∧ readX [192, 192] = .mk false [] [] := ⟨by decide +kernel, by kernel_rfl⟩
set_option maxRecDepth 20000 in
set_option maxHeartbeats 1000000 in
theorem wrong_8 (w : World) : Calls Try.prog 16 #[.int .i64 8] w (Ret (eqV (.bool true)) w) := by
  have HE := Lib.hid wr_8
  go_enter Try.func16, Try.ntmps16
  go_wp2_with fail
  refine (rlp_alive _).mono ?_
  rintro e w1 ⟨_, rfl, hg1, rfl⟩
  have HG1 := Lib.hid hg1
  clear hg1
  have kc := fun (x : World) => conv_str x ⟨#[192, 192]⟩
  go_wp2_with fail
  clear kc
  refine (rlp_Read _ [192, 192] _ (isB_bytesWorld' _ ⟨#[192, 192]⟩ [192, 192] 2 _ _ rfl rfl (by simp [maxLen]) (by simp) rfl)).mono ?_
  rintro e w2 ⟨v2, rfl, hg2, hv2⟩
  obtain ⟨vi, rfl, hi⟩ := readV_both hv2
  have hi' := hi.is fun k hk => hk.2
  have hgb := (gr_bytesWorld _ _).trans hg2
  have hgs := hgb.size
  simp only [size_new] at hgs
  rw [HE.out.2] at hi'
  rw [HE.out.1]
  obtain ⟨vb, vl, rfl, ⟨A, c, rfl, _⟩, A2, c2, rows, rfl, _⟩ := isItem_form hi'
  have q1 : (w2.alloc (.cells #[.bool false, .slice A ([] : List UInt8).length c, .slice A2 ([] : List Raw).length c2] 45)).cell? ⟨w1.heap.size + 1, 8, none⟩ = some (.bool false) := by
    rw [cell_of_row _ _ _ _ _ (0, 0) ((heap_old _ _ _ (by omega)).trans ((hgb.block (w1.heap.size + 1) (by simp)).trans (heap_at (w1.alloc _) _ _ (by simp))))]
    rfl
  have HG2 := Lib.hid ((((HG1.out.trans (gr_alloc _ _)).trans (gr_alloc _ _)).trans hgb).trans (gr_alloc w2 (.cells #[.bool false, .slice A ([] : List UInt8).length c, .slice A2 ([] : List Raw).length c2] 45)))
  clear hg2 hv2 hi hi' hgb HG1 HE
  simp only [List.length_nil] at q1 HG2 ⊢
  go_wp2_with (go_at_call 34; refine (law_num _ _).mono ?_; rintro e w' ⟨rfl, rfl⟩)
  refine bodyPost_ret (results_tmp rfl _ _ _) rfl ⟨_, rfl, HG2.out, ?_⟩
  simp [eqV]

theorem wr_9 : readE [248, 1, 128] = 4 ∧ readX [248, 1, 128] = .mk false [] [] := ⟨by decide +kernel, by kernel_rfl⟩
set_option maxRecDepth 20000 in
set_option maxHeartbeats 1000000 in
theorem wrong_9 (w : World) : Calls Try.prog 16 #[.int .i64 9] w (Ret (eqV (.bool true)) w) := by
  have HE := Lib.hid wr_9
  go_enter Try.func16, Try.ntmps16
  go_wp2_with fail
  refine (rlp_alive _).mono ?_
  rintro e w1 ⟨_, rfl, hg1, rfl⟩
  have HG1 := Lib.hid hg1
  clear hg1
  have kc := fun (x : World) => conv_str x ⟨#[248, 1, 128]⟩
  go_wp2_with fail
  clear kc
  refine (rlp_Read _ [248, 1, 128] _ (isB_bytesWorld' _ ⟨#[248, 1, 128]⟩ [248, 1, 128] 3 _ _ rfl rfl (by simp [maxLen]) (by simp) rfl)).mono ?_
  rintro e w2 ⟨v2, rfl, hg2, hv2⟩
  obtain ⟨vi, rfl, hi⟩ := readV_both hv2
  have hi' := hi.is fun k hk => hk.2
  have hgb := (gr_bytesWorld _ _).trans hg2
  have hgs := hgb.size
  simp only [size_new] at hgs
  rw [HE.out.2] at hi'
  rw [HE.out.1]
  obtain ⟨vb, vl, rfl, ⟨A, c, rfl, _⟩, A2, c2, rows, rfl, _⟩ := isItem_form hi'
  have q1 : (w2.alloc (.cells #[.bool false, .slice A ([] : List UInt8).length c, .slice A2 ([] : List Raw).length c2] 45)).cell? ⟨w1.heap.size + 1, 9, none⟩ = some (.bool false) := by
    rw [cell_of_row _ _ _ _ _ (0, 0) ((heap_old _ _ _ (by omega)).trans ((hgb.block (w1.heap.size + 1) (by simp)).trans (heap_at (w1.alloc _) _ _ (by simp))))]
    rfl
  have HG2 := Lib.hid ((((HG1.out.trans (gr_alloc _ _)).trans (gr_alloc _ _)).trans hgb).trans (gr_alloc w2 (.cells #[.bool false, .slice A ([] : List UInt8).length c, .slice A2 ([] : List Raw).length c2] 45)))
  clear hg2 hv2 hi hi' hgb HG1 HE
  simp only [List.length_nil] at q1 HG2 ⊢
  go_wp2_with (go_at_call 34; refine (law_num _ _).mono ?_; rintro e w' ⟨rfl, rfl⟩)
  refine bodyPost_ret (results_tmp rfl _ _ _) rfl ⟨_, rfl, HG2.out, ?_⟩
  simp [eqV]

theorem wr_10 : readE [185, 0, 56] = 4 ∧ readX [185, 0, 56] = .mk false [] [] := ⟨by decide +kernel, by kernel_rfl⟩
set_option maxRecDepth 20000 in
set_option maxHeartbeats 1000000 in
theorem wrong_10 (w : World) : Calls Try.prog 16 #[.int .i64 10] w (Ret (eqV (.bool true)) w) := by
  have HE := Lib.hid wr_10
  go_enter Try.func16, Try.ntmps16
  go_wp2_with fail
  refine (rlp_alive _).mono ?_
  rintro e w1 ⟨_, rfl, hg1, rfl⟩
  have HG1 := Lib.hid hg1
  clear hg1
  have kc := fun (x : World) => conv_str x ⟨#[185, 0, 56]⟩
  go_wp2_with fail
  clear kc
  refine (rlp_Read _ [185, 0, 56] _ (isB_bytesWorld' _ ⟨#[185, 0, 56]⟩ [185, 0, 56] 3 _ _ rfl rfl (by simp [maxLen]) (by simp) rfl)).mono ?_
  rintro e w2 ⟨v2, rfl, hg2, hv2⟩
  obtain ⟨vi, rfl, hi⟩ := readV_both hv2
  have hi' := hi.is fun k hk => hk.2
  have hgb := (gr_bytesWorld _ _).trans hg2
  have hgs := hgb.size
  simp only [size_new] at hgs
  rw [HE.out.2] at hi'
  rw [HE.out.1]
  obtain ⟨vb, vl, rfl, ⟨A, c, rfl, _⟩, A2, c2, rows, rfl, _⟩ := isItem_form hi'
  have q1 : (w2.alloc (.cells #[.bool false, .slice A ([] : List UInt8).length c, .slice A2 ([] : List Raw).length c2] 45)).cell? ⟨w1.heap.size + 1, 10, none⟩ = some (.bool false) := by
    rw [cell_of_row _ _ _ _ _ (0, 0) ((heap_old _ _ _ (by omega)).trans ((hgb.block (w1.heap.size + 1) (by simp)).trans (heap_at (w1.alloc _) _ _ (by simp))))]
    rfl
  have HG2 := Lib.hid ((((HG1.out.trans (gr_alloc _ _)).trans (gr_alloc _ _)).trans hgb).trans (gr_alloc w2 (.cells #[.bool false, .slice A ([] : List UInt8).length c, .slice A2 ([] : List Raw).length c2] 45)))
  clear hg2 hv2 hi hi' hgb HG1 HE
  simp only [List.length_nil] at q1 HG2 ⊢
  go_wp2_with (go_at_call 34; refine (law_num _ _).mono ?_; rintro e w' ⟨rfl, rfl⟩)
  refine bodyPost_ret (results_tmp rfl _ _ _) rfl ⟨_, rfl, HG2.out, ?_⟩
  simp [eqV]

theorem wr_11 : readE [194, 129, 127] = 4 ∧ readX [194, 129, 127] = .mk false [] [] := ⟨by decide +kernel, by kernel_rfl⟩
set_option maxRecDepth 20000 in
set_option maxHeartbeats 1000000 in
theorem wrong_11 (w : World) : Calls Try.prog 16 #[.int .i64 11] w (Ret (eqV (.bool true)) w) := by
  have HE := Lib.hid wr_11
  go_enter Try.func16, Try.ntmps16
  go_wp2_with fail
  refine (rlp_alive _).mono ?_
  rintro e w1 ⟨_, rfl, hg1, rfl⟩
  have HG1 := Lib.hid hg1
  clear hg1
  have kc := fun (x : World) => conv_str x ⟨#[194, 129, 127]⟩
  go_wp2_with fail
  clear kc
  refine (rlp_Read _ [194, 129, 127] _ (isB_bytesWorld' _ ⟨#[194, 129, 127]⟩ [194, 129, 127] 3 _ _ rfl rfl (by simp [maxLen]) (by simp) rfl)).mono ?_
  rintro e w2 ⟨v2, rfl, hg2, hv2⟩
  obtain ⟨vi, rfl, hi⟩ := readV_both hv2
  have hi' := hi.is fun k hk => hk.2
  have hgb := (gr_bytesWorld _ _).trans hg2
  have hgs := hgb.size
  simp only [size_new] at hgs
  rw [HE.out.2] at hi'
  rw [HE.out.1]
  obtain ⟨vb, vl, rfl, ⟨A, c, rfl, _⟩, A2, c2, rows, rfl, _⟩ := isItem_form hi'
  have q1 : (w2.alloc (.cells #[.bool false, .slice A ([] : List UInt8).length c, .slice A2 ([] : List Raw).length c2] 45)).cell? ⟨w1.heap.size + 1, 11, none⟩ = some (.bool false) := by
    rw [cell_of_row _ _ _ _ _ (0, 0) ((heap_old _ _ _ (by omega)).trans ((hgb.block (w1.heap.size + 1) (by simp)).trans (heap_at (w1.alloc _) _ _ (by simp))))]
    rfl
  have HG2 := Lib.hid ((((HG1.out.trans (gr_alloc _ _)).trans (gr_alloc _ _)).trans hgb).trans (gr_alloc w2 (.cells #[.bool false, .slice A ([] : List UInt8).length c, .slice A2 ([] : List Raw).length c2] 45)))
  clear hg2 hv2 hi hi' hgb HG1 HE
  simp only [List.length_nil] at q1 HG2 ⊢
  go_wp2_with (go_at_call 34; refine (law_num _ _).mono ?_; rintro e w' ⟨rfl, rfl⟩)
  refine bodyPost_ret (results_tmp rfl _ _ _) rfl ⟨_, rfl, HG2.out, ?_⟩
  simp [eqV]

theorem wr_12 : readE [128, 128] = 4 ∧ readX [128, 128] = .mk false [] [] := ⟨by decide +kernel, by kernel_rfl⟩
set_option maxRecDepth 20000 in
set_option maxHeartbeats 1000000 in
theorem wrong_12 (w : World) : Calls Try.prog 16 #[.int .i64 12] w (Ret (eqV (.bool true)) w) := by
  have HE := Lib.hid wr_12
  go_enter Try.func16, Try.ntmps16
  go_wp2_with fail
  refine (rlp_alive _).mono ?_
  rintro e w1 ⟨_, rfl, hg1, rfl⟩
  have HG1 := Lib.hid hg1
  clear hg1
  have kc := fun (x : World) => conv_str x ⟨#[128, 128]⟩
  go_wp2_with fail
  clear kc
  refine (rlp_Read _ [128, 128] _ (isB_bytesWorld' _ ⟨#[128, 128]⟩ [128, 128] 2 _ _ rfl rfl (by simp [maxLen]) (by simp) rfl)).mono ?_
  rintro e w2 ⟨v2, rfl, hg2, hv2⟩
  obtain ⟨vi, rfl, hi⟩ := readV_both hv2
  have hi' := hi.is fun k hk => hk.2
  have hgb := (gr_bytesWorld _ _).trans hg2
  have hgs := hgb.size
  simp only [size_new] at hgs
  rw [HE.out.2] at hi'
  rw [HE.out.1]
  obtain ⟨vb, vl, rfl, ⟨A, c, rfl, _⟩, A2, c2, rows, rfl, _⟩ := isItem_form hi'
  have q1 : (w2.alloc (.cells #[.bool false, .slice A ([] : List UInt8).length c, .slice A2 ([] : List Raw).length c2] 45)).cell? ⟨w1.heap.size + 1, 12, none⟩ = some (.bool false) := by
    rw [cell_of_row _ _ _ _ _ (0, 0) ((heap_old _ _ _ (by omega)).trans ((hgb.block (w1.heap.size + 1) (by simp)).trans (heap_at (w1.alloc _) _ _ (by simp))))]
    rfl
  have HG2 := Lib.hid ((((HG1.out.trans (gr_alloc _ _)).trans (gr_alloc _ _)).trans hgb).trans (gr_alloc w2 (.cells #[.bool false, .slice A ([] : List UInt8).length c, .slice A2 ([] : List Raw).length c2] 45)))
  clear hg2 hv2 hi hi' hgb HG1 HE
  simp only [List.length_nil] at q1 HG2 ⊢
  go_wp2_with (go_at_call 34; refine (law_num _ _).mono ?_; rintro e w' ⟨rfl, rfl⟩)
  refine bodyPost_ret (results_tmp rfl _ _ _) rfl ⟨_, rfl, HG2.out, ?_⟩
  simp [eqV]

theorem wr_13 : readE [0] = 0 ∧ packed (readX [0]) = some [0] := ⟨by decide +kernel, by decide +kernel⟩
set_option maxRecDepth 20000 in
set_option maxHeartbeats 1000000 in
theorem wrong_13 (w : World) : Calls Try.prog 16 #[.int .i64 13] w (Ret (eqV (.bool true)) w) := by
  have HE := Lib.hid wr_13
  go_enter Try.func16, Try.ntmps16
  go_wp2_with fail
  refine (rlp_alive _).mono ?_
  rintro e w1 ⟨_, rfl, hg1, rfl⟩
  have HG1 := Lib.hid hg1
  clear hg1
  have kc := fun (x : World) => conv_str x ⟨#[0]⟩
  go_wp2_with fail
  clear kc
  refine (rlp_Read _ [0] _ (isB_bytesWorld' _ ⟨#[0]⟩ [0] 1 _ _ rfl rfl (by simp [maxLen]) (by simp) rfl)).mono ?_
  rintro e w2 ⟨v2, rfl, hg2, hv2⟩
  obtain ⟨vi, rfl, hi⟩ := readV_both hv2
  have hi' := hi.is fun k hk => hk.2
  have hgb := (gr_bytesWorld _ _).trans hg2
  have hgs := hgb.size
  simp only [size_new] at hgs
  rw [HE.out.1]
  obtain ⟨cs, rfl, hat⟩ := hi
  obtain ⟨f, A, n, c, A2, n2, c2, rfl⟩ := hat.len
  have q0 : (w2.alloc (.cells #[.bool f, .slice A n c, .slice A2 n2 c2] 45)).cell? ⟨w1.heap.size, 13, none⟩ = some (.string ⟨#[0]⟩) := by
    rw [cell_of_row _ _ _ _ _ (0, 0) ((heap_old _ _ _ (by omega)).trans ((hgb.block w1.heap.size (by simp; omega)).trans ((heap_old (w1.alloc _) _ _ (by simp)).trans (heap_alloc_new w1 _))))]
    rfl
  have q1 : (w2.alloc (.cells #[.bool f, .slice A n c, .slice A2 n2 c2] 45)).cell? ⟨w1.heap.size + 1, 13, none⟩ = some (.bool true) := by
    rw [cell_of_row _ _ _ _ _ (0, 0) ((heap_old _ _ _ (by omega)).trans ((hgb.block (w1.heap.size + 1) (by simp)).trans (heap_at (w1.alloc _) _ _ (by simp))))]
    rfl
  have HG2 := Lib.hid ((((HG1.out.trans (gr_alloc _ _)).trans (gr_alloc _ _)).trans hgb).trans (gr_alloc w2 (.cells #[.bool f, .slice A n c, .slice A2 n2 c2] 45)))
  have HI := Lib.hid (hi'.gr (gr_alloc w2 (.cells #[.bool f, .slice A n c, .slice A2 n2 c2] 45)))
  clear hg2 hv2 hi' hat hgb HG1
  go_wp2_with fail
  refine (rlp_pack _ _ _ HI.out).mono ?_
  rintro e w3 ⟨v3, rfl, hg3, hv3⟩
  obtain ⟨vb3, rfl, ho3⟩ := packV_some HE.out.2 hv3
  have hb3 := OwnB.isB ho3
  have k1 := conv_later hb3
  obtain ⟨A3, c3, he3, hd1, hd2, _⟩ := hb3
  rw [show ([0] : List UInt8).length = 1 from rfl] at he3
  subst he3
  have HG3 := Lib.hid (HG2.out.trans hg3)
  have hs3 := hg3.size
  simp only [size_new] at hs3
  have q3 := later_cell (w := w3) (p := ⟨w1.heap.size, 13, none⟩) (by dsimp only; omega) ((hg3.cell (p := ⟨w1.heap.size, 13, none⟩) (by simp; omega)).trans q0)
  clear hg3 hv3 ho3 q0 q1 HG2 HI HE
  go_wp2_with fail
  refine wp_region_N 15 (by kernel_rfl) (by kernel_rfl) (by kernel_rfl) ?_
  simp only [List.take_succ_cons, List.take_zero, List.drop_succ_cons, List.drop_zero]
  refine wpN_quiet 1 (by kernel_rfl) ?_
  simp only [List.take_succ_cons, List.take_zero, List.drop_succ_cons, List.drop_zero]
  repeat (go_big_quiet_step (fail))
  refine wpQuiet_nil ?_
  refine wpN_val (.int .i64 0) rfl (by kernel_rfl) (by kernel_rfl) (fun xw => ?_) ?_
  · refine growsTo_call (args := #[.int .i64 0]) (by simp [go_sem]) ((law_num _ _).mono ?_)
    rintro e w' ⟨rfl, rfl⟩
    exact ⟨_, rfl, Gr.refl _, rfl⟩
  simp only [Act.put, List.setIfInBounds_toArray, List.set_cons_succ, List.set_cons_zero]
  refine wpN_quiet 1 (by kernel_rfl) ?_
  simp only [List.take_succ_cons, List.take_zero, List.drop_succ_cons, List.drop_zero]
  repeat (go_big_quiet_step (fail))
  refine wpQuiet_nil ?_
  refine wpN_val (.int .i64 0) rfl (by kernel_rfl) (by kernel_rfl) (fun xw => ?_) ?_
  · refine growsTo_call (args := #[.int .i64 0]) (by simp [go_sem]) ((law_num _ _).mono ?_)
    rintro e w' ⟨rfl, rfl⟩
    exact ⟨_, rfl, Gr.refl _, rfl⟩
  simp only [Act.put, List.setIfInBounds_toArray, List.set_cons_succ, List.set_cons_zero]
  refine wpN_quiet 11 (by kernel_rfl) ?_
  simp only [List.take_succ_cons, List.take_zero, List.drop_succ_cons, List.drop_zero]
  repeat (go_big_quiet_step (fail))
  refine wpQuiet_nil ?_
  refine wpN_nil (by kernel_rfl) ?_
  intro W hW
  replace hW := hW.gr
  unfold finN
  have HG4 := Lib.hid (HG3.out.trans hW)
  go_wp2_with fail
  refine bodyPost_ret (results_tmp rfl _ _ _) rfl ⟨_, rfl, HG4.out, ?_⟩
  simp [eqV, bs_toList]

theorem wr_14 : readE [127] = 0 ∧ packed (readX [127]) = some [127] := ⟨by decide +kernel, by decide +kernel⟩
set_option maxRecDepth 20000 in
set_option maxHeartbeats 1000000 in
theorem wrong_14 (w : World) : Calls Try.prog 16 #[.int .i64 14] w (Ret (eqV (.bool true)) w) := by
  have HE := Lib.hid wr_14
  go_enter Try.func16, Try.ntmps16
  go_wp2_with fail
  refine (rlp_alive _).mono ?_
  rintro e w1 ⟨_, rfl, hg1, rfl⟩
  have HG1 := Lib.hid hg1
  clear hg1
  have kc := fun (x : World) => conv_str x ⟨#[127]⟩
  go_wp2_with fail
  clear kc
  refine (rlp_Read _ [127] _ (isB_bytesWorld' _ ⟨#[127]⟩ [127] 1 _ _ rfl rfl (by simp [maxLen]) (by simp) rfl)).mono ?_
  rintro e w2 ⟨v2, rfl, hg2, hv2⟩
  obtain ⟨vi, rfl, hi⟩ := readV_both hv2
  have hi' := hi.is fun k hk => hk.2
  have hgb := (gr_bytesWorld _ _).trans hg2
  have hgs := hgb.size
  simp only [size_new] at hgs
  rw [HE.out.1]
  obtain ⟨cs, rfl, hat⟩ := hi
  obtain ⟨f, A, n, c, A2, n2, c2, rfl⟩ := hat.len
  have q0 : (w2.alloc (.cells #[.bool f, .slice A n c, .slice A2 n2 c2] 45)).cell? ⟨w1.heap.size, 14, none⟩ = some (.string ⟨#[127]⟩) := by
    rw [cell_of_row _ _ _ _ _ (0, 0) ((heap_old _ _ _ (by omega)).trans ((hgb.block w1.heap.size (by simp; omega)).trans ((heap_old (w1.alloc _) _ _ (by simp)).trans (heap_alloc_new w1 _))))]
    rfl
  have q1 : (w2.alloc (.cells #[.bool f, .slice A n c, .slice A2 n2 c2] 45)).cell? ⟨w1.heap.size + 1, 14, none⟩ = some (.bool true) := by
    rw [cell_of_row _ _ _ _ _ (0, 0) ((heap_old _ _ _ (by omega)).trans ((hgb.block (w1.heap.size + 1) (by simp)).trans (heap_at (w1.alloc _) _ _ (by simp))))]
    rfl
  have HG2 := Lib.hid ((((HG1.out.trans (gr_alloc _ _)).trans (gr_alloc _ _)).trans hgb).trans (gr_alloc w2 (.cells #[.bool f, .slice A n c, .slice A2 n2 c2] 45)))
  have HI := Lib.hid (hi'.gr (gr_alloc w2 (.cells #[.bool f, .slice A n c, .slice A2 n2 c2] 45)))
  clear hg2 hv2 hi' hat hgb HG1
  go_wp2_with fail
  refine (rlp_pack _ _ _ HI.out).mono ?_
  rintro e w3 ⟨v3, rfl, hg3, hv3⟩
  obtain ⟨vb3, rfl, ho3⟩ := packV_some HE.out.2 hv3
  have hb3 := OwnB.isB ho3
  have k1 := conv_later hb3
  obtain ⟨A3, c3, he3, hd1, hd2, _⟩ := hb3
  rw [show ([127] : List UInt8).length = 1 from rfl] at he3
  subst he3
  have HG3 := Lib.hid (HG2.out.trans hg3)
  have hs3 := hg3.size
  simp only [size_new] at hs3
  have q3 := later_cell (w := w3) (p := ⟨w1.heap.size, 14, none⟩) (by dsimp only; omega) ((hg3.cell (p := ⟨w1.heap.size, 14, none⟩) (by simp; omega)).trans q0)
  clear hg3 hv3 ho3 q0 q1 HG2 HI HE
  go_wp2_with fail
  refine wp_region_N 15 (by kernel_rfl) (by kernel_rfl) (by kernel_rfl) ?_
  simp only [List.take_succ_cons, List.take_zero, List.drop_succ_cons, List.drop_zero]
  refine wpN_quiet 1 (by kernel_rfl) ?_
  simp only [List.take_succ_cons, List.take_zero, List.drop_succ_cons, List.drop_zero]
  repeat (go_big_quiet_step (fail))
  refine wpQuiet_nil ?_
  refine wpN_val (.int .i64 0) rfl (by kernel_rfl) (by kernel_rfl) (fun xw => ?_) ?_
  · refine growsTo_call (args := #[.int .i64 0]) (by simp [go_sem]) ((law_num _ _).mono ?_)
    rintro e w' ⟨rfl, rfl⟩
    exact ⟨_, rfl, Gr.refl _, rfl⟩
  simp only [Act.put, List.setIfInBounds_toArray, List.set_cons_succ, List.set_cons_zero]
  refine wpN_quiet 1 (by kernel_rfl) ?_
  simp only [List.take_succ_cons, List.take_zero, List.drop_succ_cons, List.drop_zero]
  repeat (go_big_quiet_step (fail))
  refine wpQuiet_nil ?_
  refine wpN_val (.int .i64 0) rfl (by kernel_rfl) (by kernel_rfl) (fun xw => ?_) ?_
  · refine growsTo_call (args := #[.int .i64 0]) (by simp [go_sem]) ((law_num _ _).mono ?_)
    rintro e w' ⟨rfl, rfl⟩
    exact ⟨_, rfl, Gr.refl _, rfl⟩
  simp only [Act.put, List.setIfInBounds_toArray, List.set_cons_succ, List.set_cons_zero]
  refine wpN_quiet 11 (by kernel_rfl) ?_
  simp only [List.take_succ_cons, List.take_zero, List.drop_succ_cons, List.drop_zero]
  repeat (go_big_quiet_step (fail))
  refine wpQuiet_nil ?_
  refine wpN_nil (by kernel_rfl) ?_
  intro W hW
  replace hW := hW.gr
  unfold finN
  have HG4 := Lib.hid (HG3.out.trans hW)
  go_wp2_with fail
  refine bodyPost_ret (results_tmp rfl _ _ _) rfl ⟨_, rfl, HG4.out, ?_⟩
  simp [eqV, bs_toList]

theorem wr_15 : readE [191, 255, 255, 255, 255, 255, 255, 255, 255] = 4 ∧ readX [191, 255, 255, 255, 255, 255, 255, 255, 255] = .mk false [] [] := ⟨by decide +kernel, by kernel_rfl⟩
set_option maxRecDepth 20000 in
set_option maxHeartbeats 1000000 in
theorem wrong_15 (w : World) : Calls Try.prog 16 #[.int .i64 15] w (Ret (eqV (.bool true)) w) := by
  have HE := Lib.hid wr_15
  go_enter Try.func16, Try.ntmps16
  go_wp2_with fail
  refine (rlp_alive _).mono ?_
  rintro e w1 ⟨_, rfl, hg1, rfl⟩
  have HG1 := Lib.hid hg1
  clear hg1
  have kc := fun (x : World) => conv_str x ⟨#[191, 255, 255, 255, 255, 255, 255, 255, 255]⟩
  go_wp2_with fail
  clear kc
  refine (rlp_Read _ [191, 255, 255, 255, 255, 255, 255, 255, 255] _ (isB_bytesWorld' _ ⟨#[191, 255, 255, 255, 255, 255, 255, 255, 255]⟩ [191, 255, 255, 255, 255, 255, 255, 255, 255] 9 _ _ rfl rfl (by simp [maxLen]) (by simp) rfl)).mono ?_
  rintro e w2 ⟨v2, rfl, hg2, hv2⟩
  obtain ⟨vi, rfl, hi⟩ := readV_both hv2
  have hi' := hi.is fun k hk => hk.2
  have hgb := (gr_bytesWorld _ _).trans hg2
  have hgs := hgb.size
  simp only [size_new] at hgs
  rw [HE.out.2] at hi'
  rw [HE.out.1]
  obtain ⟨vb, vl, rfl, ⟨A, c, rfl, _⟩, A2, c2, rows, rfl, _⟩ := isItem_form hi'
  have q1 : (w2.alloc (.cells #[.bool false, .slice A ([] : List UInt8).length c, .slice A2 ([] : List Raw).length c2] 45)).cell? ⟨w1.heap.size + 1, 15, none⟩ = some (.bool false) := by
    rw [cell_of_row _ _ _ _ _ (0, 0) ((heap_old _ _ _ (by omega)).trans ((hgb.block (w1.heap.size + 1) (by simp)).trans (heap_at (w1.alloc _) _ _ (by simp))))]
    rfl
  have HG2 := Lib.hid ((((HG1.out.trans (gr_alloc _ _)).trans (gr_alloc _ _)).trans hgb).trans (gr_alloc w2 (.cells #[.bool false, .slice A ([] : List UInt8).length c, .slice A2 ([] : List Raw).length c2] 45)))
  clear hg2 hv2 hi hi' hgb HG1 HE
  simp only [List.length_nil] at q1 HG2 ⊢
  go_wp2_with (go_at_call 34; refine (law_num _ _).mono ?_; rintro e w' ⟨rfl, rfl⟩)
  refine bodyPost_ret (results_tmp rfl _ _ _) rfl ⟨_, rfl, HG2.out, ?_⟩
  simp [eqV]

theorem wr_16 : readE [195, 130, 97, 98] = 0 ∧ packed (readX [195, 130, 97, 98]) = some [195, 130, 97, 98] := ⟨by decide +kernel, by decide +kernel⟩
set_option maxRecDepth 20000 in
set_option maxHeartbeats 1000000 in
theorem wrong_16 (w : World) : Calls Try.prog 16 #[.int .i64 16] w (Ret (eqV (.bool true)) w) := by
  have HE := Lib.hid wr_16
  go_enter Try.func16, Try.ntmps16
  go_wp2_with fail
  refine (rlp_alive _).mono ?_
  rintro e w1 ⟨_, rfl, hg1, rfl⟩
  have HG1 := Lib.hid hg1
  clear hg1
  have kc := fun (x : World) => conv_str x ⟨#[195, 130, 97, 98]⟩
  go_wp2_with fail
  clear kc
  refine (rlp_Read _ [195, 130, 97, 98] _ (isB_bytesWorld' _ ⟨#[195, 130, 97, 98]⟩ [195, 130, 97, 98] 4 _ _ rfl rfl (by simp [maxLen]) (by simp) rfl)).mono ?_
  rintro e w2 ⟨v2, rfl, hg2, hv2⟩
  obtain ⟨vi, rfl, hi⟩ := readV_both hv2
  have hi' := hi.is fun k hk => hk.2
  have hgb := (gr_bytesWorld _ _).trans hg2
  have hgs := hgb.size
  simp only [size_new] at hgs
  rw [HE.out.1]
  obtain ⟨cs, rfl, hat⟩ := hi
  obtain ⟨f, A, n, c, A2, n2, c2, rfl⟩ := hat.len
  have q0 : (w2.alloc (.cells #[.bool f, .slice A n c, .slice A2 n2 c2] 45)).cell? ⟨w1.heap.size, 16, none⟩ = some (.string ⟨#[195, 130, 97, 98]⟩) := by
    rw [cell_of_row _ _ _ _ _ (0, 0) ((heap_old _ _ _ (by omega)).trans ((hgb.block w1.heap.size (by simp; omega)).trans ((heap_old (w1.alloc _) _ _ (by simp)).trans (heap_alloc_new w1 _))))]
    rfl
  have q1 : (w2.alloc (.cells #[.bool f, .slice A n c, .slice A2 n2 c2] 45)).cell? ⟨w1.heap.size + 1, 16, none⟩ = some (.bool true) := by
    rw [cell_of_row _ _ _ _ _ (0, 0) ((heap_old _ _ _ (by omega)).trans ((hgb.block (w1.heap.size + 1) (by simp)).trans (heap_at (w1.alloc _) _ _ (by simp))))]
    rfl
  have HG2 := Lib.hid ((((HG1.out.trans (gr_alloc _ _)).trans (gr_alloc _ _)).trans hgb).trans (gr_alloc w2 (.cells #[.bool f, .slice A n c, .slice A2 n2 c2] 45)))
  have HI := Lib.hid (hi'.gr (gr_alloc w2 (.cells #[.bool f, .slice A n c, .slice A2 n2 c2] 45)))
  clear hg2 hv2 hi' hat hgb HG1
  go_wp2_with fail
  refine (rlp_pack _ _ _ HI.out).mono ?_
  rintro e w3 ⟨v3, rfl, hg3, hv3⟩
  obtain ⟨vb3, rfl, ho3⟩ := packV_some HE.out.2 hv3
  have hb3 := OwnB.isB ho3
  have k1 := conv_later hb3
  obtain ⟨A3, c3, he3, hd1, hd2, _⟩ := hb3
  rw [show ([195, 130, 97, 98] : List UInt8).length = 4 from rfl] at he3
  subst he3
  have HG3 := Lib.hid (HG2.out.trans hg3)
  have hs3 := hg3.size
  simp only [size_new] at hs3
  have q3 := later_cell (w := w3) (p := ⟨w1.heap.size, 16, none⟩) (by dsimp only; omega) ((hg3.cell (p := ⟨w1.heap.size, 16, none⟩) (by simp; omega)).trans q0)
  clear hg3 hv3 ho3 q0 q1 HG2 HI HE
  go_wp2_with fail
  refine wp_region_N 15 (by kernel_rfl) (by kernel_rfl) (by kernel_rfl) ?_
  simp only [List.take_succ_cons, List.take_zero, List.drop_succ_cons, List.drop_zero]
  refine wpN_quiet 1 (by kernel_rfl) ?_
  simp only [List.take_succ_cons, List.take_zero, List.drop_succ_cons, List.drop_zero]
  repeat (go_big_quiet_step (fail))
  refine wpQuiet_nil ?_
  refine wpN_val (.int .i64 0) rfl (by kernel_rfl) (by kernel_rfl) (fun xw => ?_) ?_
  · refine growsTo_call (args := #[.int .i64 0]) (by simp [go_sem]) ((law_num _ _).mono ?_)
    rintro e w' ⟨rfl, rfl⟩
    exact ⟨_, rfl, Gr.refl _, rfl⟩
  simp only [Act.put, List.setIfInBounds_toArray, List.set_cons_succ, List.set_cons_zero]
  refine wpN_quiet 1 (by kernel_rfl) ?_
  simp only [List.take_succ_cons, List.take_zero, List.drop_succ_cons, List.drop_zero]
  repeat (go_big_quiet_step (fail))
  refine wpQuiet_nil ?_
  refine wpN_val (.int .i64 0) rfl (by kernel_rfl) (by kernel_rfl) (fun xw => ?_) ?_
  · refine growsTo_call (args := #[.int .i64 0]) (by simp [go_sem]) ((law_num _ _).mono ?_)
    rintro e w' ⟨rfl, rfl⟩
    exact ⟨_, rfl, Gr.refl _, rfl⟩
  simp only [Act.put, List.setIfInBounds_toArray, List.set_cons_succ, List.set_cons_zero]
  refine wpN_quiet 11 (by kernel_rfl) ?_
  simp only [List.take_succ_cons, List.take_zero, List.drop_succ_cons, List.drop_zero]
  repeat (go_big_quiet_step (fail))
  refine wpQuiet_nil ?_
  refine wpN_nil (by kernel_rfl) ?_
  intro W hW
  replace hW := hW.gr
  unfold finN
  have HG4 := Lib.hid (HG3.out.trans hW)
  go_wp2_with fail
  refine bodyPost_ret (results_tmp rfl _ _ _) rfl ⟨_, rfl, HG4.out, ?_⟩
  simp [eqV, bs_toList]

set_option maxRecDepth 20000 in
set_option maxHeartbeats 1000000 in
theorem wrong_out (z : Int) (w : World) (h1 : -9223372036854775808 ≤ z) (h2 : z ≤ 9223372036854775807) (h : z < 0 ∨ 17 ≤ z) : Calls Try.prog 16 #[.int .i64 z] w (Ret (eqV (.bool true)) w) := by
  rcases h with h | h
  · go_enter Try.func16, Try.ntmps16
    go_wp2_with fail
    refine (rlp_alive _).mono ?_
    rintro e w1 ⟨_, rfl, hg1, rfl⟩
    go_wp2_with fail
    refine bodyPost_ret (results_tmp rfl _ _ _) rfl ⟨_, rfl, (hg1.trans (gr_alloc _ _)).trans (gr_alloc _ _), ?_⟩
    simp [eqV]
  · have h3 : 0 ≤ z := by omega
    go_enter Try.func16, Try.ntmps16
    go_wp2_with fail
    refine (rlp_alive _).mono ?_
    rintro e w1 ⟨_, rfl, hg1, rfl⟩
    go_wp2_with fail
    refine bodyPost_ret (results_tmp rfl _ _ _) rfl ⟨_, rfl, (hg1.trans (gr_alloc _ _)).trans (gr_alloc _ _), ?_⟩
    simp [eqV]
theorem wrong_all (z : Int) (w : World) (h1 : -9223372036854775808 ≤ z) (h2 : z ≤ 9223372036854775807) : Calls Try.prog 16 #[.int .i64 z] w (Ret (eqV (.bool true)) w) := by
  by_cases h : z < 0 ∨ 17 ≤ z
  · exact wrong_out z w h1 h2 h
  · have hz : z = 0 ∨ z = 1 ∨ z = 2 ∨ z = 3 ∨ z = 4 ∨ z = 5 ∨ z = 6 ∨ z = 7 ∨ z = 8 ∨ z = 9 ∨ z = 10 ∨ z = 11 ∨ z = 12 ∨ z = 13 ∨ z = 14 ∨ z = 15 ∨ z = 16 := by omega
    rcases hz with rfl | rfl | rfl | rfl | rfl | rfl | rfl | rfl | rfl | rfl | rfl | rfl | rfl | rfl | rfl | rfl | rfl
    · exact wrong_0 w
    · exact wrong_1 w
    · exact wrong_2 w
    · exact wrong_3 w
    · exact wrong_4 w
    · exact wrong_5 w
    · exact wrong_6 w
    · exact wrong_7 w
    · exact wrong_8 w
    · exact wrong_9 w
    · exact wrong_10 w
    · exact wrong_11 w
    · exact wrong_12 w
    · exact wrong_13 w
    · exact wrong_14 w
    · exact wrong_15 w
    · exact wrong_16 w
end Go.Proofs.Ytfpigemikpbbhaa
