/-
  path.Join.
  Conditions: at most 2 to the 30th half bytes.
-/
import Derived.Test.YtfpigemikpbbhaaJoin2
namespace Go.Proofs.Ytfpigemikpbbhaa
open Go.RowKit Mono

theorem joinL_big : ∀ (p : List UInt8), (p.any fun x => decide (15 < x.toNat)) = true → joinL p = none
  | [], h => by simp at h
  | [_], _ => rfl
  | x :: y :: r, h => by
    rw [joinL]
    split
    · rename_i hc
      rw [joinL_big r (by
        simp only [List.any_cons, Bool.or_eq_true, decide_eq_true_eq] at h
        rcases h with h | h | h
        · omega
        · omega
        · exact h)]
      rfl
    · rfl
theorem small_at (p : List UInt8) (h : (p.any fun x => decide (15 < x.toNat)) = false) (k : Nat) (hk : k < p.length) : p[k].toNat ≤ 15 := by
  rw [List.any_eq_false] at h
  have := h p[k] (List.getElem_mem hk)
  simpa using this

set_option maxHeartbeats 400000 in
theorem path_join (v1 : Value) (p : List UInt8) (w : World) (h1 : IsB w v1 p) (hlen : p.length ≤ 1073741824) :
    Calls Try.prog 22 #[v1] w (Ret (JoinV w.heap.size p) w) := by
  have hf := path_fine v1 p w h1
  obtain ⟨A, c, rfl, hl1, hl2, hA⟩ := h1
  clear hl1 hl2
  have HA := Lib.hid hA
  clear hA
  by_cases hodd : p.length % 2 = 1
  · have HJ := Lib.hid (joinL_odd p hodd)
    have hoddI : (p.length : Int) % 2 = 1 := by omega
    clear hf hodd
    go_enter Try.func22, Try.ntmps22
    go_wp2_with fail
    refine bodyPost_ret (results_tmp2 rfl _ _ _) rfl ?_
    refine ⟨_, rfl, Below.refl _ _, .slice none 0 0, ?_, ?_⟩
    · rw [HJ.out]; rfl
    · rw [HJ.out]; exact OwnB.nil _ _
  · have hev : p.length % 2 = 0 := by omega
    clear hodd
    have hevI : (p.length : Int) % 2 = 0 := by omega
    by_cases hbig : (p.any fun x => decide (15 < x.toNat)) = true
    · rw [hbig] at hf
      have HJ := Lib.hid (joinL_big p hbig)
      have HF := Lib.hid hf
      clear hf hbig
      go_enter Try.func22, Try.ntmps22
      go_wp2_with (go_at_call 48; refine HF.out.mono ?_; rintro e w' ⟨rfl, q, rfl⟩)
      refine bodyPost_ret (results_tmp2 rfl _ _ _) rfl ?_
      refine ⟨_, rfl, below_drewN (Below.refl _ _) q, .slice none 0 0, ?_, ?_⟩
      · rw [HJ.out]; rfl
      · rw [HJ.out]; exact OwnB.nil _ _
    · have hbig' : (p.any fun x => decide (15 < x.toNat)) = false := by simpa using hbig
      rw [hbig'] at hf
      have HF := Lib.hid hf
      have HS0 := Lib.hid (small_at p hbig')
      clear hf hbig hbig'
      go_enter Try.func22, Try.ntmps22
      go_wp2_with (go_at_call 48; refine HF.out.mono ?_; rintro e w' ⟨rfl, q, rfl⟩)
      clear hevI
      go_loopw [4, 5] (fun v i wr => ∃ (j : Nat) (pre : List UInt8), 2 * j ≤ p.length ∧ i = .int .i64 (2 * j : Nat) ∧ pre.length = j ∧ OwnB wr w.heap.size v pre ∧ Below w.heap.size w wr ∧ Hid (joinL p = (joinL (p.drop (2 * j))).map (pre ++ ·))) (fun _ i _ => p.length - (intOf i).toNat)
      case atStart => exact ⟨0, [], by omega, rfl, rfl, OwnB.nil _ w.heap.size, below_drewN (Below.refl _ _) q, Lib.hid (by simp)⟩
      case round =>
        obtain ⟨j, pre, hj, rfl, hpre, hown, hb, hJ⟩ := hrel
        obtain ⟨A', c', rfl, hc1, hc2⟩ := own_form hown
        have hbs := hb.size
        have HO := Lib.hid hown
        have HB := Lib.hid hb
        have HP := Lib.hid hpre
        have hpl : pre.length ≤ j := by omega
        clear hown hb hpre
        by_cases h1 : 2 * j < p.length
        · have h2 : 2 * j + 1 < p.length := by omega
          obtain ⟨b1, o1, rfl, hb1, c1⟩ := HA.out (by intro e; have := bvs_length p; rw [e] at this; simp at this; omega)
          have hbw : b1 < wr.heap.size := by omega
          have r1 := (HB.out.cell (p := ⟨b1, o1 + 2 * j, none⟩) hb1).trans (c1 (2 * j) _ (bvs_at p (2 * j) h1))
          have r2 := (HB.out.cell (p := ⟨b1, o1 + (2 * j + 1), none⟩) hb1).trans (c1 (2 * j + 1) _ (bvs_at p (2 * j + 1) h2))
          have d1 := later_cell (w := wr) (p := ⟨b1, o1 + 2 * j, none⟩) hbw r1
          have d2 := later_cell (w := wr) (p := ⟨b1, o1 + (2 * j + 1), none⟩) hbw r2
          clear c1 r1 r2
          unfold bv at d1 d2
          have HS := Lib.hid (joinL_step p (2 * j) h1 h2)
          have hcx := HS0.out (2 * j) h1
          have hcy := HS0.out (2 * j + 1) h2
          obtain ⟨x, hx⟩ : ∃ x, x = p[2 * j].toNat := ⟨_, rfl⟩
          obtain ⟨y, hy⟩ : ∃ y, y = p[2 * j + 1].toNat := ⟨_, rfl⟩
          rw [← hx] at d1 hcx
          rw [← hy] at d2 hcy
          have HX := Lib.hid hx
          have HY := Lib.hid hy
          clear hx hy
          go_wp2
          refine wp_region_N 13 (by kernel_rfl) (by kernel_rfl) (by kernel_rfl) ?_
          simp only [List.take_succ_cons, List.take_zero, List.drop_succ_cons, List.drop_zero]
          refine wpN_quiet 12 (by kernel_rfl) ?_
          simp only [List.take_succ_cons, List.take_zero, List.drop_succ_cons, List.drop_zero]
          repeat (go_big_quiet_step (fail))
          refine wpQuiet_nil ?_
          refine wpN_gen 33 (fun v w => IsB w v [p[2 * j] <<< 4 ||| p[2 * j + 1]]) rfl rfl (by kernel_rfl) (by kernel_rfl) (stable_isB _) (fun xw => ?_) ?_
          · simp [go_sem, growsTo]
            rw [orBits x y hcx hcy]
            refine ⟨gr_alloc _ _, isB_new _ _ [p[2 * j] <<< 4 ||| p[2 * j + 1]] ?_ (by simp [maxLen])⟩
            simp [bvs, bv, orNib x y hcx hcy _ _ HX.out.symm HY.out.symm]
          refine wpN_nil (by kernel_rfl) ?_
          intro W hW
          replace hW := hW.gr
          have hbs2 := hW.size
          intro v22 h22
          obtain ⟨A22, c22, rfl, _, _, hrd⟩ := h22
          unfold finN
          go_wp2_with (at_builtin; refine wpL_append _ _ 22 slT_bytes _ _ _ _ _ _ _ (bvs [p[2 * j] <<< 4 ||| p[2 * j + 1]]) rfl rfl rfl rfl (own_gr HO.out hW) hrd (by simp [bvs]) (bvs_one _) (by simp only [maxLen]; simp; omega) (by simp; omega) (by omega) ?_; intro A2 c2 w2 hown2 hg2 _)
          go_roundw
          case rel =>
            refine ⟨j + 1, pre ++ [p[2 * j] <<< 4 ||| p[2 * j + 1]], by omega, by go_num, by simp [HP.out], ?_, (HB.out.trans (hW.mono hbs)).grown hg2 (by omega) fun j hj => own_block_ge HO.out j hj, Lib.hid ?_⟩
            · unfold OwnB
              rw [bvs_append, List.length_append]
              exact hown2
            · rw [hJ.out, HS.out, if_pos ⟨by rw [← HX.out]; exact hcx, by rw [← HY.out]; exact hcy⟩, show 2 * (j + 1) = 2 * j + 2 by omega]
              cases joinL (p.drop (2 * j + 2)) <;> simp
          case measure => simp [intOf]; omega
        · have hd := Lib.hid (List.drop_eq_nil_of_le (Nat.le_of_not_lt h1))
          go_wp2
          refine bodyPost_ret (results_tmp2 rfl _ _ _) rfl ?_
          refine ⟨_, rfl, HB.out, .slice A' pre.length c', ?_, ?_⟩
          · rw [hJ.out, hd.out]; rfl
          · rw [hJ.out, hd.out]; simpa [joinL] using HO.out
end Go.Proofs.Ytfpigemikpbbhaa
