/-
  Words of items: the reference's WordOf.
  Conditions: none.
-/
import Derived.Test.YtfpigemikpbbhaaNum2
namespace Go.Proofs.Ytfpigemikpbbhaa
set_option linter.unusedVariables false
open Go.RowKit Mono Rlp

theorem copy_src {w w' : World} {A : Option Addr} {l : List UInt8} (hr : Rd w w.heap.size A (bvs l)) (hg : Gr w w') (h0 : 0 < (bvs l).length) : ∃ ad, A = some ad ∧ ∀ j v, (bvs l)[j]? = some v → w'.cell? (ad.add j) = some v := by
  obtain ⟨b, o, e, hb, hc⟩ := (hr.gr hg) (fun e => by rw [e] at h0; simp at h0)
  exact ⟨_, e, fun j v hv => by rw [add_none]; exact hc j v hv⟩
theorem splice_pad (bs : List UInt8) (h9 : bs.length ≤ 32) : splice (bvs zero32) (32 - bs.length) (bvs bs) = bvs (pad bs) := by
  unfold splice pad zero32 bvs
  rw [List.map_append, ← List.map_take, ← List.map_drop, List.take_replicate, List.drop_replicate, List.length_map]
  rw [show min (32 - bs.length) 32 = 32 - bs.length by omega, show 32 - (32 - bs.length + bs.length) = 0 by omega]
  simp
set_option maxRecDepth 20000 in
set_option maxHeartbeats 1000000 in
theorem ref_WordOf (v : Value) (x : Raw) (w : World) (h : IsItem w v x) : Calls Try.prog 39 #[v] w (Ret (eqV (wordV x)) w) := by
  have HX := Lib.hid h
  obtain ⟨lx, bx, xs⟩ := x
  obtain ⟨vb1, vl1, rfl, ⟨A0, c0, rfl, hc0, hm0, hr0⟩, A1, c1, rows1, rfl, hc1, hm1, _⟩ := isItem_form h
  have HR := Lib.hid hr0
  unfold maxLen at hm0 hm1
  clear h hr0
  generalize xs.length = n1 at HX hc1 ⊢
  cases lx with
  | true =>
    have HI := Lib.hid (wordV_none (x := .mk true bx xs) rfl)
    go_enter Try.func39, Try.ntmps39
    go_wp2_with first
      | (guard_target = wpList _ _ _ (Oper.mk _ (Op.alloc _) _ _ _ _ :: _) _ _; refine wpL_alloc_word (w.heap.size + 2) (by rw [hs0]) rfl rfl ?_; intro w1 hA1 hG1 hs1; have HG1 := Lib.hid (HG0.out.trans hG1.out); have HA0 := Lib.hid (hA0.out.gr hG1.out); obtain ⟨q0, q1, q2⟩ := cells_of3 (((hG0.out.trans hG1.out).block w.heap.size (by simp)).trans (heap_alloc_new w _)))
      | (guard_target = wpList _ _ _ (Oper.mk _ (Op.alloc _) _ _ _ _ :: _) _ _; refine wpL_alloc_word (w.heap.size + 1) (by simp) rfl rfl ?_; intro w0 hA0 hG0 hs0; have HG0 := Lib.hid ((gr_alloc w (.cells #[.bool true, .slice A0 bx.length c0, .slice A1 n1 c1] 45)).trans hG0.out))
      | (guard_target = wpList _ _ _ (Oper.mk _ (Op.load _ _) _ _ _ _ :: _) _ _; refine wpList_load_row rfl 36 (.tmp 4) rfl (w.heap.size + 2) rfl 36 (bvs zero32).toArray (0, 0) _ hA1.out rfl rfl (arr_info _ zero32_length) ?_)
      | (guard_target = wpList _ _ _ (Oper.mk _ (Op.store _ _ _) _ _ _ _ :: _) _ _; refine wpList_store_row rfl 36 (.tmp 2) (.tmp 26) rfl (w.heap.size + 1) (bvs zero32).toArray rfl rfl 36 _ HA0.out (arr_info _ zero32_length) rfl (arr_one _) ?_)
    refine bodyPost_ret (results_word2 rfl _ _ (w.heap.size + 1) 36 zero32 rfl (arr_setRow HA0.out) zero32_length) rfl ?_
    exact ⟨_, rfl, gr_setRow HG1.out _ _ (by omega), by unfold eqV; rw [HI.out]; rfl⟩
  | false =>
    have HN : Hid (numB (.mk false bx xs) = if bx.head? = some 0 then none else some bx) := Lib.hid rfl
    by_cases h8 : 32 < bx.length
    · have HI := Lib.hid (wordV_none (show wordR (.mk false bx xs) = none by unfold wordR; rw [HN.out]; split; rfl; rw [Option.bind_some, if_neg (by omega)]))
      go_enter Try.func39, Try.ntmps39
      go_wp2_with first
        | (guard_target = wpList _ _ _ (Oper.mk _ (Op.alloc _) _ _ _ _ :: _) _ _; refine wpL_alloc_word (w.heap.size + 2) (by rw [hs0]) rfl rfl ?_; intro w1 hA1 hG1 hs1; have HG1 := Lib.hid (HG0.out.trans hG1.out); have HA0 := Lib.hid (hA0.out.gr hG1.out); obtain ⟨q0, q1, q2⟩ := cells_of3 (((hG0.out.trans hG1.out).block w.heap.size (by simp)).trans (heap_alloc_new w _)))
        | (guard_target = wpList _ _ _ (Oper.mk _ (Op.alloc _) _ _ _ _ :: _) _ _; refine wpL_alloc_word (w.heap.size + 1) (by simp) rfl rfl ?_; intro w0 hA0 hG0 hs0; have HG0 := Lib.hid ((gr_alloc w (.cells #[.bool false, .slice A0 bx.length c0, .slice A1 n1 c1] 45)).trans hG0.out))
        | (guard_target = wpList _ _ _ (Oper.mk _ (Op.load _ _) _ _ _ _ :: _) _ _; refine wpList_load_row rfl 36 (.tmp 4) rfl (w.heap.size + 2) rfl 36 (bvs zero32).toArray (0, 0) _ hA1.out rfl rfl (arr_info _ zero32_length) ?_)
        | (guard_target = wpList _ _ _ (Oper.mk _ (Op.store _ _ _) _ _ _ _ :: _) _ _; refine wpList_store_row rfl 36 (.tmp 2) (.tmp 26) rfl (w.heap.size + 1) (bvs zero32).toArray rfl rfl 36 _ HA0.out (arr_info _ zero32_length) rfl (arr_one _) ?_)
      refine bodyPost_ret (results_word2 rfl _ _ (w.heap.size + 1) 36 zero32 rfl (arr_setRow HA0.out) zero32_length) rfl ?_
      exact ⟨_, rfl, gr_setRow HG1.out _ _ (by omega), by unfold eqV; rw [HI.out]; rfl⟩
    · have h9 : bx.length ≤ 32 := by omega
      clear h8
      by_cases hz : bx.head? = some 0
      · obtain ⟨l, rfl⟩ : ∃ l, bx = 0 :: l := by
          cases bx with
          | nil => cases hz
          | cons b l => simp at hz; exact ⟨l, by rw [hz]⟩
        have HI := Lib.hid (wordV_none (show wordR (.mk false (0 :: l) xs) = none by unfold wordR; rw [HN.out]; rfl))
        obtain ⟨bl, o, rfl, hbl, hcell⟩ := isB_at HR.out 0 (by simp)
        have hcell' : w.cell? ⟨bl, o, none⟩ = some (.int .u8 0) := hcell
        have HCELL := Lib.hid hcell'
        have hlen : (0 :: l : List UInt8).length = l.length + 1 := rfl
        rw [hlen] at hc0 HX h9 ⊢
        clear hz HN hcell hcell' hlen
        go_enter Try.func39, Try.ntmps39
        go_wp2_with first
          | (guard_target = wpList _ _ _ (Oper.mk _ (Op.alloc _) _ _ _ _ :: _) _ _; refine wpL_alloc_word (w.heap.size + 2) (by rw [hs0]) rfl rfl ?_; intro w1 hA1 hG1 hs1; have HG1 := Lib.hid (HG0.out.trans hG1.out); have HA0 := Lib.hid (hA0.out.gr hG1.out); obtain ⟨q0, q1, q2⟩ := cells_of3 (((hG0.out.trans hG1.out).block w.heap.size (by simp)).trans (heap_alloc_new w _)); have q3 := (HG1.out.cell (p := ⟨bl, o, none⟩) hbl).trans HCELL.out)
          | (guard_target = wpList _ _ _ (Oper.mk _ (Op.alloc _) _ _ _ _ :: _) _ _; refine wpL_alloc_word (w.heap.size + 1) (by simp) rfl rfl ?_; intro w0 hA0 hG0 hs0; have HG0 := Lib.hid ((gr_alloc w (.cells #[.bool false, .slice (some ⟨bl, o, none⟩) (l.length + 1) c0, .slice A1 n1 c1] 45)).trans hG0.out))
          | (guard_target = wpList _ _ _ (Oper.mk _ (Op.load _ _) _ _ _ _ :: _) _ _; refine wpList_load_row rfl 36 (.tmp 4) rfl (w.heap.size + 2) rfl 36 (bvs zero32).toArray (0, 0) _ hA1.out rfl rfl (arr_info _ zero32_length) ?_)
          | (guard_target = wpList _ _ _ (Oper.mk _ (Op.store _ _ _) _ _ _ _ :: _) _ _; refine wpList_store_row rfl 36 (.tmp 2) (.tmp 26) rfl (w.heap.size + 1) (bvs zero32).toArray rfl rfl 36 _ HA0.out (arr_info _ zero32_length) rfl (arr_one _) ?_)
        refine bodyPost_ret (results_word2 rfl _ _ (w.heap.size + 1) 36 zero32 rfl (arr_setRow HA0.out) zero32_length) rfl ?_
        exact ⟨_, rfl, gr_setRow HG1.out _ _ (by omega), by unfold eqV; rw [HI.out]; rfl⟩
      · rcases bx with _ | ⟨b, l⟩
        · clear hz HN
          have HI := Lib.hid (wordV_some (show wordR (.mk false [] xs) = some (pad []) from rfl))
          simp only [List.length_nil] at hc0 HX h9 ⊢
          have HSP : Hid (splice (bvs zero32) (32 - 0) (bvs []) = bvs (pad [])) := Lib.hid (splice_pad ([] : List UInt8) h9)
          have HP := Lib.hid (pad_length ([] : List UInt8) h9)
          go_enter Try.func39, Try.ntmps39
          go_wp2_with first
            | (guard_target = wpList _ _ _ (Oper.mk _ (Op.alloc _) _ _ _ _ :: _) _ _; refine wpL_alloc_word (w.heap.size + 2) (by rw [hs0]) rfl rfl ?_; intro w1 hA1 hG1 hs1; have HG1 := Lib.hid (HG0.out.trans hG1.out); have HA0 := Lib.hid (hA0.out.gr hG1.out); obtain ⟨q0, q1, q2⟩ := cells_of3 (((hG0.out.trans hG1.out).block w.heap.size (by simp)).trans (heap_alloc_new w _)))
            | (guard_target = wpList _ _ _ (Oper.mk _ (Op.alloc _) _ _ _ _ :: _) _ _; refine wpL_alloc_word (w.heap.size + 1) (by simp) rfl rfl ?_; intro w0 hA0 hG0 hs0; have HG0 := Lib.hid ((gr_alloc w (.cells #[.bool false, .slice A0 0 c0, .slice A1 n1 c1] 45)).trans hG0.out))
          have k1 := later_cell (w := w1) (p := ⟨w.heap.size, 1, none⟩) (by show w.heap.size < _; omega) q1
          refine wp_region_N 7 (by kernel_rfl) (by kernel_rfl) (by kernel_rfl) ?_
          simp only [List.take_succ_cons, List.take_zero, List.drop_succ_cons, List.drop_zero]
          refine wpN_quiet 7 (by kernel_rfl) ?_
          simp only [List.take_succ_cons, List.take_zero, List.drop_succ_cons, List.drop_zero]
          repeat (go_big_quiet_step (fail))
          refine wpQuiet_nil ?_
          refine wpN_nil (by kernel_rfl) ?_
          intro W hW
          replace hW := hW.gr
          unfold finN
          have hs2 := hW.size
          go_wp2_with first
            | (guard_target = wpList _ _ _ (Oper.mk _ (Op.call _) _ _ _ _ :: _) _ _; refine wpList_copy_splice rfl (.tmp 31) (.tmp 33) 22 22 rfl 5 Try.underlying22 (by kernel_rfl) (some ⟨w.heap.size + 2, 0, none⟩) A0 (0) (0) (0) c0 rfl rfl (w.heap.size + 2) (32 - (0)) (bvs zero32) 36 (hA1.out.gr hW) (bvs ([] : List UInt8)) (by simp [bvs]) (fun h0 => absurd h0 (by simp [bvs])) (by simp [bvs, zero32]; try omega) (bvs_one _) (w.heap.size + 2) W (Below.refl _ _) (Nat.le_refl _) ?_; intro w3 hA3 hG3; rw [HSP.out] at hA3; have HG3 : Hid (Gr w w3) := Lib.hid (Below.trans (HG1.out.trans hW) (hG3.mono (show w.heap.size ≤ w.heap.size + 2 by omega))); have HA3 : Hid (Arr w3 (w.heap.size + 1) 36 zero32) := Lib.hid ((hG3.block (w.heap.size + 1) (by omega)).trans (HA0.out.gr hW)))
            | (guard_target = wpList _ _ _ (Oper.mk _ (Op.load _ _) _ _ _ _ :: _) _ _; refine wpList_load_row rfl 36 (.tmp 4) rfl (w.heap.size + 2) rfl 36 (bvs (pad ([] : List UInt8))).toArray (0, 0) _ hA3.out rfl rfl (arr_info _ HP.out) ?_)
            | (guard_target = wpList _ _ _ (Oper.mk _ (Op.store _ _ _) _ _ _ _ :: _) _ _; refine wpList_store_row rfl 36 (.tmp 2) (.tmp 35) rfl (w.heap.size + 1) (bvs (pad ([] : List UInt8))).toArray rfl rfl 36 _ HA3.out (arr_info _ HP.out) (by rw [arr_size _ HP.out]; rfl) (arr_one _) ?_)
          refine bodyPost_ret (results_word2 rfl _ _ (w.heap.size + 1) 36 (pad ([] : List UInt8)) rfl (arr_setRow HA3.out) HP.out) rfl ?_
          exact ⟨_, rfl, gr_setRow HG3.out _ _ (by omega), by unfold eqV; rw [HI.out]; rfl⟩
        · skip
          have hb : b ≠ 0 := fun e => hz (by rw [e]; rfl)
          have hI : wordR (.mk false (b :: l) xs) = some (pad (b :: l)) := by
            unfold wordR
            rw [HN.out, if_neg hz, Option.bind_some, if_pos h9]
          have HI := Lib.hid (wordV_some hI)
          obtain ⟨bl, o, rfl, hbl, hcell⟩ := isB_at HR.out 0 (by simp)
          have hcell' : w.cell? ⟨bl, o, none⟩ = some (.int .u8 (b.toNat : Int)) := hcell
          have HCELL := Lib.hid hcell'
          have hn : ((b.toNat : Int) == 0) = false := by
            rw [Bool.eq_false_iff]
            intro e
            have e2 : (b.toNat : Int) = 0 := by simpa using e
            exact hb (UInt8.toNat_inj.1 (by rw [show (0 : UInt8).toNat = 0 from rfl]; omega))
          simp only [List.length_cons] at hc0 HX h9 ⊢
          clear hz HN hcell hcell' hI hb
          obtain ⟨dp, hsl, hdp⟩ := slice_word_end (w.heap.size + 2) (l.length + 1) (32 - ((l.length : Int) + 1)) (by simp; try omega) h9
          have HDP := Lib.hid hdp
          have HSL := Lib.hid hsl
          clear hdp hsl
          have hsrc : ∀ w' : World, Gr w w' → 0 < (bvs (b :: l)).length → dp = some ⟨w.heap.size + 2, 32 - (l.length + 1), none⟩ ∧ ∃ ad, (some (⟨bl, o, none⟩ : Addr)) = some ad ∧ ∀ j v, (bvs (b :: l))[j]? = some v → w'.cell? (ad.add j) = some v := fun w' hg h0 => ⟨HDP.out (by simp), copy_src HR.out hg h0⟩
          have HSRC := Lib.hid hsrc
          have HSP : Hid (splice (bvs zero32) (32 - (l.length + 1)) (bvs (b :: l)) = bvs (pad (b :: l))) := Lib.hid (splice_pad (b :: l) h9)
          have HP := Lib.hid (pad_length (b :: l) h9)
          clear hsrc
          go_enter Try.func39, Try.ntmps39
          go_wp2_with first
            | (guard_target = wpList _ _ _ (Oper.mk _ (Op.alloc _) _ _ _ _ :: _) _ _; refine wpL_alloc_word (w.heap.size + 2) (by rw [hs0]) rfl rfl ?_; intro w1 hA1 hG1 hs1; have HG1 := Lib.hid (HG0.out.trans hG1.out); have HA0 := Lib.hid (hA0.out.gr hG1.out); obtain ⟨q0, q1, q2⟩ := cells_of3 (((hG0.out.trans hG1.out).block w.heap.size (by simp)).trans (heap_alloc_new w _)); have q3 := (HG1.out.cell (p := ⟨bl, o, none⟩) hbl).trans HCELL.out)
            | (guard_target = wpList _ _ _ (Oper.mk _ (Op.alloc _) _ _ _ _ :: _) _ _; refine wpL_alloc_word (w.heap.size + 1) (by simp) rfl rfl ?_; intro w0 hA0 hG0 hs0; have HG0 := Lib.hid ((gr_alloc w (.cells #[.bool false, .slice (some ⟨bl, o, none⟩) (l.length + 1) c0, .slice A1 n1 c1] 45)).trans hG0.out))
          have k1 := later_cell (w := w1) (p := ⟨w.heap.size, 1, none⟩) (by show w.heap.size < _; omega) q1
          have k2 : ∀ x : Later w1, _ := fun x => HSL.out x.1
          refine wp_region_N 7 (by kernel_rfl) (by kernel_rfl) (by kernel_rfl) ?_
          simp only [List.take_succ_cons, List.take_zero, List.drop_succ_cons, List.drop_zero]
          refine wpN_quiet 7 (by kernel_rfl) ?_
          simp only [List.take_succ_cons, List.take_zero, List.drop_succ_cons, List.drop_zero]
          repeat (go_big_quiet_step (fail))
          refine wpQuiet_nil ?_
          refine wpN_nil (by kernel_rfl) ?_
          intro W hW
          replace hW := hW.gr
          unfold finN
          have hs2 := hW.size
          go_wp2_with first
            | (guard_target = wpList _ _ _ (Oper.mk _ (Op.call _) _ _ _ _ :: _) _ _; refine wpList_copy_splice rfl (.tmp 31) (.tmp 33) 22 22 rfl 5 Try.underlying22 (by kernel_rfl) dp (some ⟨bl, o, none⟩) ((l.length + 1)) ((l.length + 1)) ((l.length + 1)) c0 rfl rfl (w.heap.size + 2) (32 - ((l.length + 1))) (bvs zero32) 36 (hA1.out.gr hW) (bvs (b :: l)) (by simp [bvs]) (HSRC.out W (HG1.out.trans hW)) (by simp [bvs, zero32]; try omega) (bvs_one _) (w.heap.size + 2) W (Below.refl _ _) (Nat.le_refl _) ?_; intro w3 hA3 hG3; rw [HSP.out] at hA3; have HG3 : Hid (Gr w w3) := Lib.hid (Below.trans (HG1.out.trans hW) (hG3.mono (show w.heap.size ≤ w.heap.size + 2 by omega))); have HA3 : Hid (Arr w3 (w.heap.size + 1) 36 zero32) := Lib.hid ((hG3.block (w.heap.size + 1) (by omega)).trans (HA0.out.gr hW)))
            | (guard_target = wpList _ _ _ (Oper.mk _ (Op.load _ _) _ _ _ _ :: _) _ _; refine wpList_load_row rfl 36 (.tmp 4) rfl (w.heap.size + 2) rfl 36 (bvs (pad (b :: l))).toArray (0, 0) _ hA3.out rfl rfl (arr_info _ HP.out) ?_)
            | (guard_target = wpList _ _ _ (Oper.mk _ (Op.store _ _ _) _ _ _ _ :: _) _ _; refine wpList_store_row rfl 36 (.tmp 2) (.tmp 35) rfl (w.heap.size + 1) (bvs (pad (b :: l))).toArray rfl rfl 36 _ HA3.out (arr_info _ HP.out) (by rw [arr_size _ HP.out]; rfl) (arr_one _) ?_)
          refine bodyPost_ret (results_word2 rfl _ _ (w.heap.size + 1) 36 (pad (b :: l)) rfl (arr_setRow HA3.out) HP.out) rfl ?_
          exact ⟨_, rfl, gr_setRow HG3.out _ _ (by omega), by unfold eqV; rw [HI.out]; rfl⟩
end Go.Proofs.Ytfpigemikpbbhaa
