/-
  The reference's ReadPath.
  Conditions: at most 2 to the 29th bytes.
-/
import Derived.Test.YtfpigemikpbbhaaRead
namespace Go.Proofs.Ytfpigemikpbbhaa
open Go.RowKit Mono

set_option maxHeartbeats 400000 in
theorem ref_read (v1 : Value) (b : List UInt8) (w : World) (h1 : IsB w v1 b) (hlen : b.length ≤ 536870912) :
    Calls Try.prog 25 #[v1] w (Ret (ReadV b) w) := by
  have hs := ref_split v1 b w h1 (by omega)
  cases b with
  | nil =>
    have HS := Lib.hid hs
    clear hs h1
    go_enter Try.func25, Try.ntmps25
    go_wp2_with fail
    refine HS.out.mono ?_
    rintro e w1 ⟨v2, rfl, hg1, ho1⟩
    obtain ⟨A2, c2, rfl, _, _⟩ := own_form ho1
    go_wp2
    refine bodyPost_ret (results_tmp3 rfl _ _ _) rfl ?_
    exact ⟨_, rfl, hg1, .slice none 0 0, rfl, IsB.nil _⟩
  | cons c b =>
    have HS := Lib.hid hs
    have HR := Lib.hid (read_cons c b)
    clear hs h1
    go_enter Try.func25, Try.ntmps25
    go_wp2_with fail
    refine HS.out.mono ?_
    rintro e w1 ⟨v2, rfl, hg1, ho1⟩
    obtain ⟨A2, c2, rfl, hc1, hc2⟩ := own_form ho1
    have hsl : (split (c :: b)).length = 2 * b.length + 2 := by rw [split_length]; simp; omega
    have h1 : (c >>> 4).toNat = c.toNat / 16 := by rw [UInt8.toNat_shiftRight]; simp [Nat.shiftRight_eq_div_pow]
    have h2 : (c &&& 15).toNat = c.toNat % 16 := by rw [UInt8.toNat_and]; exact Nat.and_two_pow_sub_one_eq_mod _ 4
    have hrd := Rd.of_own ho1
    have hsp : bvs (split (c :: b)) = bv (c >>> 4) :: bv (c &&& 15) :: bvs (split b) := rfl
    obtain ⟨b1, o1, rfl, hb1, cc⟩ := hrd (by rw [hsp]; simp)
    have d1 := cc 0 (bv (c >>> 4)) (by rw [hsp]; rfl)
    have d2 := cc 1 (bv (c &&& 15)) (by rw [hsp]; rfl)
    unfold bv at d1 d2
    rw [h1] at d1
    rw [h2] at d2
    have H1 := Lib.hid h1
    have H2 := Lib.hid h2
    have HD := Lib.hid hrd
    have HN := Lib.hid hsl
    have hlc := bv_lt c
    have hn1 : 2 ≤ (split (c :: b)).length := by omega
    have hn2 : (split (c :: b)).length ≤ 1073741824 := by simp at hlen; omega
    clear h1 h2 cc hrd hsl hsp ho1 HS hlen
    generalize (split (c :: b)).length = n at *
    unfold maxLen at hc2
    simp only [Nat.add_zero] at d1
    generalize hx : c.toNat / 16 = x at *
    generalize hy : c.toNat % 16 = y at *
    have hx0 : x < 16 := by omega
    have hy0 : y < 16 := by omega
    have HX := Lib.hid hx
    have HY := Lib.hid hy
    clear hx hy
    have hn0 : ((n : Int) == 0) = false := beq_eq_false_iff_ne.2 (by omega)
    by_cases g1 : 3 < x
    · go_wp2
      refine bodyPost_ret (results_tmp3 rfl _ _ _) rfl ?_
      exact ⟨_, rfl, hg1, .slice none 0 0, by rw [HR.out, if_pos g1]; rfl, by rw [HR.out, if_pos g1]; exact IsB.nil _⟩
    · have g1' : x ≤ 3 := by omega
      have hlen2 : n = 2 * b.length + 2 := HN.out
      have HN2 := Lib.hid hlen2
      clear hlen2
      by_cases g2 : x % 2 = 1
      · have HR' := HR.out
        rw [if_neg g1, if_pos g2] at HR'
        have HR2 := Lib.hid HR'
        have hx13 : x = 1 ∨ x = 3 := by omega
        clear HR' HR g2 g1 d2
        have hl := isB_cut' 1 HD.out (n := n) (c := c2) (by rw [split_length, HN2.out]; simp; omega) hc1 (by simp only [maxLen]; omega) (by omega) (by omega)
        have hl0 : ∀ xw : Later w1, xw.1.cell? ⟨b1, o1, none⟩ = some (.int .u8 x) := later_cell (p := ⟨b1, o1, none⟩) hb1 d1
        rcases hx13 with rfl | rfl
        all_goals
          go_wp2
          refine wp_region_N 10 (by kernel_rfl) (by kernel_rfl) (by kernel_rfl) ?_
          simp only [List.take_succ_cons, List.take_zero, List.drop_succ_cons, List.drop_zero]
          refine wpN_quiet 2 (by kernel_rfl) ?_
          simp only [List.take_succ_cons, List.take_zero, List.drop_succ_cons, List.drop_zero]
          repeat (go_big_quiet_step (fail))
          refine wpQuiet_nil ?_
          refine wpN_gen 37 (fun v w' => IsB w' v ((c &&& 15) :: split b)) rfl rfl (by kernel_rfl) (by kernel_rfl) (stable_isB _) (fun xw => ?_) ?_
          · have h := hl.gr xw.2
            exact growsTo_append_nil slT_bytes rfl rfl h (by have := HN2.out; simp [split_length]; omega)
          refine wpN_quiet 4 (by kernel_rfl) ?_
          simp only [List.take_succ_cons, List.take_zero, List.drop_succ_cons, List.drop_zero]
          repeat (go_big_quiet_step (fail))
          refine wpQuiet_nil ?_
          refine wpN_copy 2 37 _ rfl (.inr rfl) rfl rfl (stable_isB _) ?_
          refine wpN_quiet 2 (by kernel_rfl) ?_
          simp only [List.take_succ_cons, List.take_zero, List.drop_succ_cons, List.drop_zero]
          repeat (go_big_quiet_step (fail))
          refine wpQuiet_nil ?_
          refine wpN_nil (by kernel_rfl) ?_
          intro W hW
          replace hW := hW.gr
          intro v2 h2v v3 _
          try unfold finN
          go_wp2
          refine bodyPost_ret (results_tmp3 rfl _ _ _) rfl ?_
          refine ⟨_, rfl, hg1.trans hW, v2, ?_, ?_⟩
          · rw [HR2.out]; rfl
          · rw [HR2.out]; exact h2v
      · by_cases g3 : y ≠ 0
        · have hy1 : ((y : Int) != 0) = true := by rw [bne_iff_ne]; omega
          have HR' := HR.out
          rw [if_neg g1, if_neg g2, if_pos g3] at HR'
          have HR2 := Lib.hid HR'
          have hx13 : x = 0 ∨ x = 2 := by omega
          clear HR' HR g2 g1 g3
          rcases hx13 with rfl | rfl
          all_goals
            go_wp2
            refine bodyPost_ret (results_tmp3 rfl _ _ _) rfl ?_
            exact ⟨_, rfl, hg1, .slice none 0 0, by rw [HR2.out]; rfl, by rw [HR2.out]; exact IsB.nil _⟩
        · have hy1 : ((y : Int) != 0) = false := by rw [bne_eq_false_iff_eq]; omega
          have HR' := HR.out
          rw [if_neg g1, if_neg g2, if_neg g3] at HR'
          have HR2 := Lib.hid HR'
          have hx13 : x = 0 ∨ x = 2 := by omega
          clear HR' HR g2 g1 g3
          have hl0 : ∀ xw : Later w1, xw.1.cell? ⟨b1, o1, none⟩ = some (.int .u8 x) := later_cell (p := ⟨b1, o1, none⟩) hb1 d1
          by_cases hcc : c2 = 2
          · have hl := isB_cut 2 HD.out (n := n) (c := c2) (by rw [split_length, HN2.out]; simp; omega) hc1 (by simp only [maxLen]; omega) (by omega)
            rw [if_pos hcc] at hl
            subst hcc
            obtain rfl : n = 2 := by omega
            simp only [Nat.sub_self] at hl
            rcases hx13 with rfl | rfl
            all_goals
              go_wp2
              refine wp_region_N 10 (by kernel_rfl) (by kernel_rfl) (by kernel_rfl) ?_
              simp only [List.take_succ_cons, List.take_zero, List.drop_succ_cons, List.drop_zero]
              refine wpN_quiet 2 (by kernel_rfl) ?_
              simp only [List.take_succ_cons, List.take_zero, List.drop_succ_cons, List.drop_zero]
              repeat (go_big_quiet_step (fail))
              refine wpQuiet_nil ?_
              refine wpN_gen 44 (fun v w' => IsB w' v (split b)) rfl rfl (by kernel_rfl) (by kernel_rfl) (stable_isB _) (fun xw => ?_) ?_
              · have h := hl.gr xw.2
                exact growsTo_append_nil slT_bytes rfl rfl h (by have := HN2.out; simp [split_length]; omega)
              refine wpN_quiet 4 (by kernel_rfl) ?_
              simp only [List.take_succ_cons, List.take_zero, List.drop_succ_cons, List.drop_zero]
              repeat (go_big_quiet_step (fail))
              refine wpQuiet_nil ?_
              refine wpN_copy 2 44 _ rfl (.inr rfl) rfl rfl (stable_isB _) ?_
              refine wpN_quiet 2 (by kernel_rfl) ?_
              simp only [List.take_succ_cons, List.take_zero, List.drop_succ_cons, List.drop_zero]
              repeat (go_big_quiet_step (fail))
              refine wpQuiet_nil ?_
              refine wpN_nil (by kernel_rfl) ?_
              intro W hW
              replace hW := hW.gr
              intro v2 h2v v3 _
              try unfold finN
              go_wp2
              refine bodyPost_ret (results_tmp3 rfl _ _ _) rfl ?_
              refine ⟨_, rfl, hg1.trans hW, v2, ?_, ?_⟩
              · rw [HR2.out]; rfl
              · rw [HR2.out]; exact h2v
          · have hl := isB_cut' 2 HD.out (n := n) (c := c2) (by rw [split_length, HN2.out]; simp; omega) hc1 (by simp only [maxLen]; omega) (by omega) hcc
            have hcc' : 2 < c2 := by omega
            clear hcc
            rcases hx13 with rfl | rfl
            all_goals
              go_wp2
              refine wp_region_N 10 (by kernel_rfl) (by kernel_rfl) (by kernel_rfl) ?_
              simp only [List.take_succ_cons, List.take_zero, List.drop_succ_cons, List.drop_zero]
              refine wpN_quiet 2 (by kernel_rfl) ?_
              simp only [List.take_succ_cons, List.take_zero, List.drop_succ_cons, List.drop_zero]
              repeat (go_big_quiet_step (fail))
              refine wpQuiet_nil ?_
              refine wpN_gen 44 (fun v w' => IsB w' v (split b)) rfl rfl (by kernel_rfl) (by kernel_rfl) (stable_isB _) (fun xw => ?_) ?_
              · have h := hl.gr xw.2
                exact growsTo_append_nil slT_bytes rfl rfl h (by have := HN2.out; simp [split_length]; omega)
              refine wpN_quiet 4 (by kernel_rfl) ?_
              simp only [List.take_succ_cons, List.take_zero, List.drop_succ_cons, List.drop_zero]
              repeat (go_big_quiet_step (fail))
              refine wpQuiet_nil ?_
              refine wpN_copy 2 44 _ rfl (.inr rfl) rfl rfl (stable_isB _) ?_
              refine wpN_quiet 2 (by kernel_rfl) ?_
              simp only [List.take_succ_cons, List.take_zero, List.drop_succ_cons, List.drop_zero]
              repeat (go_big_quiet_step (fail))
              refine wpQuiet_nil ?_
              refine wpN_nil (by kernel_rfl) ?_
              intro W hW
              replace hW := hW.gr
              intro v2 h2v v3 _
              try unfold finN
              go_wp2
              refine bodyPost_ret (results_tmp3 rfl _ _ _) rfl ?_
              refine ⟨_, rfl, hg1.trans hW, v2, ?_, ?_⟩
              · rw [HR2.out]; rfl
              · rw [HR2.out]; exact h2v
end Go.Proofs.Ytfpigemikpbbhaa
