/-
  PathBack: paths come back as they went.
  Conditions: none; the lengths are tested by the law itself.
-/
import Derived.Test.YtfpigemikpbbhaaPathTells
import Derived.Test.YtfpigemikpbbhaaPathPlain
namespace Go.Proofs.Ytfpigemikpbbhaa
open Go.RowKit Mono

set_option maxRecDepth 100000 in
set_option maxHeartbeats 2000000 in
theorem back_small (v1 : Value) (b : List UInt8) (k : Nat) (leaf : Bool) (w : World) (h1 : IsB w v1 b) (hb : b.length ≤ 500) (hk : k ≤ 2 * b.length) :
    Calls Try.prog 4 #[v1, .int .i64 k, .bool leaf] w (Ret (eqV (.bool true)) w) := by
  have h1' := h1
  obtain ⟨A, c, rfl, ha1, ha2, hA⟩ := h1
  have HA := Lib.hid h1'
  clear h1' hA ha1 ha2
  obtain ⟨m, hm, hrd, hml⟩ := pack_back ((split b).take k) leaf fun x hx => split_small b x (List.mem_of_mem_take hx)
  have hmk : m.length = k / 2 + 1 := by rw [hml, List.length_take, split_length]; congr 2; omega
  have HM := Lib.hid hm
  have HR := Lib.hid hrd
  have HK := Lib.hid hmk
  have HJ := Lib.hid (join_split b)
  clear hm hrd hml hmk
  go_enter Try.func4, Try.ntmps4
  go_wp2_with fail
  refine (path_alive _).mono ?_
  rintro e w1 ⟨_, rfl, hg1, rfl⟩
  go_wp2_with fail
  refine (path_split _ _ _ (HA.out.gr hg1) (by omega)).mono ?_
  rintro e w2 ⟨v8, rfl, hg2, h8⟩
  have G2 := hg1.trans hg2
  have I8 := h8.isB
  go_wp2_with fail
  refine (path_join _ _ _ I8 (by rw [split_length]; omega)).mono ?_
  rintro e w3 ⟨_, rfl, hg3, v9, rfl, h9⟩
  have G3 := Gr.trans G2 hg3
  rw [HJ.out] at h9 ⊢
  have I83 := I8.gr hg3
  obtain ⟨A8, c8, rfl, hc8, hm8, hr8⟩ := I8
  have hcut : IsB w3 (.slice A8 k c8) ((split b).take k) := by
    refine ⟨A8, c8, by rw [List.length_take, split_length, Nat.min_eq_left hk], by rw [List.length_take, split_length]; rw [split_length] at hc8; omega, hm8, ?_⟩
    rw [bvs_take]
    exact (hr8.gr hg3).take k
  rw [split_length] at hc8
  unfold maxLen at hm8
  go_wp2_with fail
  refine (path_pack _ _ _ _ hcut (by rw [List.length_take, split_length]; omega)).mono ?_
  rintro e w4 ⟨_, rfl, hg4, v11, rfl, h11⟩
  have G4 := Gr.trans G3 hg4
  rw [HM.out] at h11 ⊢
  simp only [Option.isSome_some, Option.getD_some] at h9 h11 ⊢
  have I11 := h11.isB
  go_wp2_with fail
  refine (path_read _ _ _ I11 (by rw [HK.out]; omega)).mono ?_
  rintro e w5 ⟨_, rfl, hg5, v13, rfl, h13⟩
  have G5 := Gr.trans G4 hg5
  rw [HR.out] at h13 ⊢
  simp only [Option.map_some, Option.isSome_some, Option.getD_some] at h13 ⊢
  have k9 := conv_later (h9.isB.gr (Gr.trans hg4 hg5))
  have k0 := conv_later (HA.out.gr G5)
  have k13 := conv_later h13
  have kcut := conv_later (hcut.gr (Gr.trans hg4 hg5))
  obtain ⟨A11, c11, rfl, _, _, _⟩ := I11
  have hK := HK.out
  have HK2 := Lib.hid hK
  clear hg2 hg3 hg4 hg5 G2 G3 G4 h8 I83 hcut h9 h11 h13 hK hr8
  rw [HK2.out]
  go_wp2
  refine wp_region_N 37 (by kernel_rfl) (by kernel_rfl) (by kernel_rfl) ?_
  simp only [List.take_succ_cons, List.take_zero, List.drop_succ_cons, List.drop_zero]
  refine wpN_quiet 37 (by kernel_rfl) ?_
  simp only [List.take_succ_cons, List.take_zero, List.drop_succ_cons, List.drop_zero]
  repeat (go_big_quiet_step (fail))
  refine wpQuiet_nil ?_
  refine wpN_nil (by kernel_rfl) ?_
  intro W hW
  replace hW := hW.gr
  unfold finN
  go_wp2
  refine bodyPost_ret (results_tmp rfl _ _ _) rfl ?_
  exact ⟨_, rfl, Gr.trans G5 hW, rfl⟩

/-- The law, whatever comes in. -/
theorem back_all (v1 : Value) (b : List UInt8) (cut : Int) (leaf : Bool) (w : World) (h1 : IsB w v1 b) (hcl : -9223372036854775808 ≤ cut) (hch : cut ≤ 9223372036854775807) :
    Calls Try.prog 4 #[v1, .int .i64 cut, .bool leaf] w (Ret (eqV (.bool true)) w) := by
  by_cases hb : b.length ≤ 500
  · by_cases hc : 0 ≤ cut
    · obtain ⟨k, rfl⟩ := Int.eq_ofNat_of_zero_le hc
      by_cases hk : k ≤ 2 * b.length
      · exact back_small v1 b k leaf w h1 hb hk
      · obtain ⟨A, c, rfl, _, ha2, _⟩ := h1
        unfold maxLen at ha2
        have hk' : 2 * b.length < k := by omega
        clear hk
        go_enter Try.func4, Try.ntmps4
        go_wp2_with fail
        refine (path_alive _).mono ?_
        rintro e w1 ⟨_, rfl, hg1, rfl⟩
        go_wp2_with fail
        refine bodyPost_ret (results_tmp rfl _ _ _) rfl ?_
        exact ⟨_, rfl, hg1, rfl⟩
    · obtain ⟨A, c, rfl, _, ha2, _⟩ := h1
      unfold maxLen at ha2
      have hc' : cut < 0 := by omega
      clear hc
      go_enter Try.func4, Try.ntmps4
      go_wp2_with fail
      refine (path_alive _).mono ?_
      rintro e w1 ⟨_, rfl, hg1, rfl⟩
      go_wp2_with fail
      refine bodyPost_ret (results_tmp rfl _ _ _) rfl ?_
      exact ⟨_, rfl, hg1, rfl⟩
  · obtain ⟨A, c, rfl, _, ha2, _⟩ := h1
    unfold maxLen at ha2
    have hb' : 500 < b.length := by omega
    clear hb
    go_enter Try.func4, Try.ntmps4
    go_wp2_with fail
    refine (path_alive _).mono ?_
    rintro e w1 ⟨_, rfl, hg1, rfl⟩
    go_wp2_with fail
    refine bodyPost_ret (results_tmp rfl _ _ _) rfl ?_
    exact ⟨_, rfl, hg1, rfl⟩
end Go.Proofs.Ytfpigemikpbbhaa
