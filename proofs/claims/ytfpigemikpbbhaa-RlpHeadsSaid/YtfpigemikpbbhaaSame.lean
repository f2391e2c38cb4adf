/-
  The reference: are two items one?
  Conditions: none.
-/
import Derived.Test.YtfpigemikpbbhaaReads
namespace Go.Proofs.Ytfpigemikpbbhaa
set_option linter.unusedVariables false
open Go.RowKit Mono Rlp

theorem sameL_step (xs ys : List Raw) (k : Nat) (h1 : k < xs.length) (h2 : k < ys.length) : sameL (xs.drop k) (ys.drop k) = (sameR xs[k] ys[k] && sameL (xs.drop (k + 1)) (ys.drop (k + 1))) := by
  rw [List.drop_eq_getElem_cons h1, List.drop_eq_getElem_cons h2, sameL]

set_option maxHeartbeats 4000000 in
set_option maxRecDepth 20000 in
theorem same_item : ∀ (n : Nat) (x y : Raw) (v1 v2 : Value) (w : World), cnt x < n → IsItem w v1 x → IsItem w v2 y → Calls Try.prog 40 #[v1, v2] w (Ret (eqV (.bool (sameR x y))) w)
  | 0, x, y, v1, v2, w, hn, _, _ => by omega
  | n + 1, .mk lx bx xs, .mk ly by_ ys, v1, v2, w, hn, hx, hy => by
    have ih := Lib.hid (same_item n)
    obtain ⟨vb1, vl1, rfl, hb1, A1, c1, rows1, rfl, hc1, hm1, _, hr1, hi1⟩ := isItem_form hx
    obtain ⟨vb2, vl2, rfl, hb2, A2, c2, rows2, rfl, hc2, hm2, _, hr2, hi2⟩ := isItem_form hy
    have HR1 := Lib.hid hr1
    have HR2 := Lib.hid hr2
    have HI1 := Lib.hid hi1
    have HI2 := Lib.hid hi2
    have HB1 := Lib.hid hb1
    have HB2 := Lib.hid hb2
    have hS : sameR (.mk lx bx xs) (.mk ly by_ ys) = if lx ≠ ly then false else if lx = false then decide (bx = by_) else if xs.length ≠ ys.length then false else sameL xs ys := by rw [sameR]
    have HS := Lib.hid hS
    rw [cnt] at hn
    unfold maxLen at hm1 hm2
    clear hx hy hr1 hr2 hi1 hi2 hS
    cases lx <;> cases ly
    · -- two byte strings
      have HF := Lib.hid (show sameR (.mk false bx xs) (.mk false by_ ys) = decide (bx = by_) by rw [HS.out]; rfl)
      have k1 := conv_bytes ((HB1.out.gr (gr_alloc w (.cells #[.bool false, vb1, .slice A1 xs.length c1] 45))).gr (gr_alloc _ (.cells #[.bool false, vb2, .slice A2 ys.length c2] 45)))
      have k2 := conv_bytes ((HB2.out.gr (gr_alloc w (.cells #[.bool false, vb1, .slice A1 xs.length c1] 45))).gr (gr_alloc _ (.cells #[.bool false, vb2, .slice A2 ys.length c2] 45)))
      clear HS hb1 hb2
      go_enter Try.func40, Try.ntmps40
      go_wp2_with fail
      refine bodyPost_ret (results_tmp rfl _ _ _) rfl ⟨_, rfl, (gr_alloc w _).trans (gr_alloc _ _), ?_⟩
      rw [HF.out, ← bs_beq]
      rfl
    · have HF := Lib.hid (show sameR (.mk false bx xs) (.mk true by_ ys) = false by rw [HS.out]; rfl)
      clear HS hb1 hb2
      go_enter Try.func40, Try.ntmps40
      go_wp2_with fail
      refine bodyPost_ret (results_tmp rfl _ _ _) rfl ⟨_, rfl, (gr_alloc w _).trans (gr_alloc _ _), ?_⟩
      rw [HF.out]
      rfl
    · have HF := Lib.hid (show sameR (.mk true bx xs) (.mk false by_ ys) = false by rw [HS.out]; rfl)
      clear HS hb1 hb2
      go_enter Try.func40, Try.ntmps40
      go_wp2_with fail
      refine bodyPost_ret (results_tmp rfl _ _ _) rfl ⟨_, rfl, (gr_alloc w _).trans (gr_alloc _ _), ?_⟩
      rw [HF.out]
      rfl
    · by_cases hlen : xs.length = ys.length
      · have HF := Lib.hid (show sameR (.mk true bx xs) (.mk true by_ ys) = sameL xs ys by rw [HS.out, if_neg (by simp), if_neg (by simp), if_neg (by simp [hlen])])
        have hne : ((xs.length : Int) != (ys.length : Int)) = false := by simp; omega
        have HLEN := Lib.hid hlen
        clear HS hb1 hb2 hlen
        go_enter Try.func40, Try.ntmps40
        go_wp2_with fail
        go_loopw [5] (fun i wr => ∃ k : Nat, k ≤ xs.length ∧ i = .int .i64 k ∧ sameL xs ys = sameL (xs.drop k) (ys.drop k) ∧ Gr ((w.alloc (.cells #[.bool true, vb1, .slice A1 xs.length c1] 45)).alloc (.cells #[.bool true, vb2, .slice A2 ys.length c2] 45)) wr) (fun i _ => xs.length - (intOf i).toNat)
        case atStart => exact ⟨0, by omega, rfl, rfl, Gr.refl _⟩
        case round =>
          obtain ⟨k, hk, rfl, hM, hb⟩ := hrel
          have HM := Lib.hid hM
          have hgw : Gr w wr := ((gr_alloc w _).trans (gr_alloc _ _)).trans hb
          have HGW := Lib.hid hgw
          have HB := Lib.hid hb
          have hbs := hb.size
          simp only [size_new] at hbs
          have q1 : wr.cell? ⟨w.heap.size, 2, none⟩ = some (.slice A1 xs.length c1) := by
            rw [hb.cell (p := ⟨w.heap.size, 2, none⟩) (by simp; omega), cell_of_row _ _ _ _ _ (0, 0) ((heap_old _ _ _ (by simp)).trans (heap_alloc_new w _))]; rfl
          have q2 : wr.cell? ⟨w.heap.size + 1, 2, none⟩ = some (.slice A2 ys.length c2) := by
            rw [hb.cell (p := ⟨w.heap.size + 1, 2, none⟩) (by simp), cell_of_row _ _ _ _ _ (0, 0) (heap_at _ _ _ (by simp))]; rfl
          clear hM hb hgw
          by_cases h1 : k < xs.length
          · have h2 : k < ys.length := by have := HLEN.out; omega
            obtain ⟨bl, o, f, vb, vl, rfl, hbl, e1, e2, e3, hx, ⟨A3, n3, c3, rfl⟩, A4, n4, c4, rfl⟩ := items_at HR1.out HI1.out k h1
            obtain ⟨bl2, o2, f2, vb', vl', rfl, hbl2, g1, g2, g3, hy, ⟨A5, n5, c5, rfl⟩, A6, n6, c6, rfl⟩ := items_at HR2.out HI2.out k h2
            have p1 := later_cell (w := wr) (p := ⟨w.heap.size, 2, none⟩) (by dsimp only; omega) q1
            have p2 := later_cell (w := wr) (p := ⟨w.heap.size + 1, 2, none⟩) (by dsimp only; omega) q2
            have d1 := later_cell (w := wr) (p := ⟨bl, o + k * 3, none⟩) (by dsimp only; omega) ((HGW.out.cell (p := ⟨bl, o + k * 3, none⟩) hbl).trans e1)
            have d2 := later_cell (w := wr) (p := ⟨bl, o + k * 3 + 1, none⟩) (by dsimp only; omega) ((HGW.out.cell (p := ⟨bl, o + k * 3 + 1, none⟩) hbl).trans e2)
            have d3 := later_cell (w := wr) (p := ⟨bl, o + k * 3 + 2, none⟩) (by dsimp only; omega) ((HGW.out.cell (p := ⟨bl, o + k * 3 + 2, none⟩) hbl).trans e3)
            have d4 := later_cell (w := wr) (p := ⟨bl2, o2 + k * 3, none⟩) (by dsimp only; omega) ((HGW.out.cell (p := ⟨bl2, o2 + k * 3, none⟩) hbl2).trans g1)
            have d5 := later_cell (w := wr) (p := ⟨bl2, o2 + k * 3 + 1, none⟩) (by dsimp only; omega) ((HGW.out.cell (p := ⟨bl2, o2 + k * 3 + 1, none⟩) hbl2).trans g2)
            have d6 := later_cell (w := wr) (p := ⟨bl2, o2 + k * 3 + 2, none⟩) (by dsimp only; omega) ((HGW.out.cell (p := ⟨bl2, o2 + k * 3 + 2, none⟩) hbl2).trans g3)
            have HX := Lib.hid (hx.gr HGW.out)
            have HY := Lib.hid (hy.gr HGW.out)
            have hcnt := cnt_get xs k h1
            have HM2 := Lib.hid (show sameL xs ys = (sameR xs[k] ys[k] && sameL (xs.drop (k + 1)) (ys.drop (k + 1))) by rw [HM.out, sameL_step xs ys k h1 h2])
            clear e1 e2 e3 g1 g2 g3 hx hy HM
            go_wp2_with fail
            refine wp_region_N 12 (by kernel_rfl) (by kernel_rfl) (by kernel_rfl) ?_
            simp only [List.take_succ_cons, List.take_zero, List.drop_succ_cons, List.drop_zero]
            refine wpN_quiet 10 (by kernel_rfl) ?_
            simp only [List.take_succ_cons, List.take_zero, List.drop_succ_cons, List.drop_zero]
            repeat (go_big_quiet_step (fail))
            refine wpQuiet_nil ?_
            refine wpN_val (.bool (sameR xs[k] ys[k])) rfl (by kernel_rfl) (by kernel_rfl) (fun xw => ?_) ?_
            · refine growsTo_call (by simp [go_sem]) ((ih.out xs[k] ys[k] _ _ _ (by omega) (HX.out.gr xw.2) (HY.out.gr xw.2)).mono ?_)
              rintro e w' ⟨_, rfl, hg, rfl⟩
              exact ⟨_, rfl, hg, rfl⟩
            simp only [Act.put, List.setIfInBounds_toArray, List.set_cons_succ, List.set_cons_zero]
            refine wpN_quiet 1 (by kernel_rfl) ?_
            simp only [List.take_succ_cons, List.take_zero, List.drop_succ_cons, List.drop_zero]
            repeat (go_big_quiet_step (fail))
            refine wpQuiet_nil ?_
            refine wpN_nil (by kernel_rfl) ?_
            intro W hW
            replace hW := hW.gr
            unfold finN
            have HG3 := Lib.hid (HGW.out.trans hW)
            have HG4 := Lib.hid (HB.out.trans hW)
            clear p1 p2 d1 d2 d3 d4 d5 d6 hcnt
            cases hs : sameR xs[k] ys[k] with
            | false =>
              have HF2 := Lib.hid (show sameR (.mk true bx xs) (.mk true by_ ys) = false by rw [HF.out, HM2.out, hs]; rfl)
              clear hs HM2
              go_wp2_with fail
              refine bodyPost_ret (results_tmp rfl _ _ _) rfl ⟨_, rfl, HG3.out, ?_⟩
              rw [HF2.out]
              rfl
            | true =>
              have HM3 := Lib.hid (show sameL xs ys = sameL (xs.drop (k + 1)) (ys.drop (k + 1)) by rw [HM2.out, hs, Bool.true_and])
              clear hs HM2
              go_wp2_with fail
              go_roundw
              case rel => exact ⟨k + 1, by omega, by go_num, HM3.out, HG4.out⟩
              case measure => simp [intOf]; omega
          · have h2 : xs.length ≤ k := by omega
            have HF2 := Lib.hid (show sameR (.mk true bx xs) (.mk true by_ ys) = true by rw [HF.out, HM.out, List.drop_eq_nil_of_le h2, sameL])
            clear h1 HM
            go_wp2_with fail
            refine bodyPost_ret (results_tmp rfl _ _ _) rfl ⟨_, rfl, HGW.out, ?_⟩
            rw [HF2.out]
            rfl
      · have HF := Lib.hid (show sameR (.mk true bx xs) (.mk true by_ ys) = false by rw [HS.out, if_neg (by simp), if_neg (by simp), if_pos (by simpa using hlen)])
        have hne : ((xs.length : Int) != (ys.length : Int)) = true := by simp; omega
        clear HS hb1 hb2 hlen
        go_enter Try.func40, Try.ntmps40
        go_wp2_with fail
        refine bodyPost_ret (results_tmp rfl _ _ _) rfl ⟨_, rfl, (gr_alloc w _).trans (gr_alloc _ _), ?_⟩
        rw [HF.out]
        rfl
end Go.Proofs.Ytfpigemikpbbhaa
