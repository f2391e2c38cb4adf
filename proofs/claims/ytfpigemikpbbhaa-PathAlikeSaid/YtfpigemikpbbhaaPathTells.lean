/-
  PathTells: the half bytes of any bytes, what any path is packed as, and what any bytes are a path's.
  Conditions: none; the lengths are tested by the law itself.
-/
import Derived.Test.YtfpigemikpbbhaaPathAlive
import Derived.Test.YtfpigemikpbbhaaRead2
namespace Go.Proofs.Ytfpigemikpbbhaa
open Go.RowKit Mono

theorem stable_own (base : Nat) (l : List UInt8) : Stable fun v w => OwnB w base v l := fun _ _ _ hg h => own_gr h hg

set_option maxRecDepth 100000 in
set_option maxHeartbeats 2000000 in
theorem tells_small (v1 v2 : Value) (b p : List UInt8) (leaf : Bool) (w : World) (h1 : IsB w v1 b) (h2 : IsB w v2 p) (hb : b.length ≤ 500) (hp : p.length ≤ 500) :
    Calls Try.prog 5 #[v1, v2, .bool leaf] w (Ret (eqV (.bool true)) w) := by
  have h1' := h1
  have h2' := h2
  obtain ⟨A, c, rfl, ha1, ha2, hA⟩ := h1
  obtain ⟨B, d, rfl, hb1, hb2, hB⟩ := h2
  have HA := Lib.hid h1'
  have HB := Lib.hid h2'
  clear h1' h2' hA hB ha1 ha2 hb1 hb2
  go_enter Try.func5, Try.ntmps5
  go_wp2_with fail
  refine (path_alive _).mono ?_
  rintro e w1 ⟨_, rfl, hg1, rfl⟩
  go_wp2_with fail
  refine (path_split _ _ _ (HA.out.gr hg1) (by omega)).mono ?_
  rintro e w2 ⟨v8, rfl, hg2, h8⟩
  have G2 := hg1.trans hg2
  have I8 := h8.isB
  go_wp2_with fail
  refine (path_join _ _ _ (HB.out.gr G2) (by omega)).mono ?_
  rintro e w3 ⟨_, rfl, hg3, v9, rfl, h9⟩
  have G3 := Gr.trans G2 hg3
  go_wp2_with fail
  refine (ref_join _ _ _ (HB.out.gr G3) (by omega)).mono ?_
  rintro e w4 ⟨_, rfl, hg4, v11, rfl, h11⟩
  have G4 := Gr.trans G3 hg4
  go_wp2_with fail
  refine (path_pack _ _ _ _ (HB.out.gr G4) (by omega)).mono ?_
  rintro e w5 ⟨_, rfl, hg5, v13, rfl, h13⟩
  have G5 := Gr.trans G4 hg5
  go_wp2_with fail
  refine (ref_pack _ _ _ _ (HB.out.gr G5) (by omega)).mono ?_
  rintro e w6 ⟨_, rfl, hg6, v15, rfl, h15⟩
  have G6 := Gr.trans G5 hg6
  go_wp2_with fail
  refine (path_read _ _ _ (HA.out.gr G6) (by omega)).mono ?_
  rintro e w7 ⟨_, rfl, hg7, v17, rfl, h17⟩
  have G7 := Gr.trans G6 hg7
  go_wp2_with fail
  refine (ref_read _ _ _ (HA.out.gr G7) (by omega)).mono ?_
  rintro e w8 ⟨_, rfl, hg8, v20, rfl, h20⟩
  have G8 := Gr.trans G7 hg8
  have g78 := Gr.trans hg7 hg8
  have g68 := Gr.trans hg6 g78
  have g58 := Gr.trans hg5 g68
  have g48 := Gr.trans hg4 g58
  have g38 := Gr.trans hg3 g48
  have c8 := conv_later (I8.gr g38)
  have c9 := conv_later (h9.isB.gr g48)
  have c11 := conv_later (h11.isB.gr g58)
  have c13 := conv_later (h13.isB.gr g68)
  have c15 := conv_later (h15.isB.gr g78)
  have c17 := conv_later (h17.gr hg8)
  have c20 := conv_later h20
  have k1 := HA.out.gr G8
  have k2 := HB.out.gr G8
  have K1 := Lib.hid k1
  have K2 := Lib.hid k2
  clear hg2 hg3 hg4 hg5 hg6 hg7 hg8 G2 G3 G4 G5 G6 G7 g78 g68 g58 g48 g38 h8 I8 h9 h11 h13 h15 h17 h20 k1 k2 HA HB
  go_wp2
  refine wp_region_N 57 (by kernel_rfl) (by kernel_rfl) (by kernel_rfl) ?_
  simp only [List.take_succ_cons, List.take_zero, List.drop_succ_cons, List.drop_zero]
  refine wpN_quiet 3 (by kernel_rfl) ?_
  simp only [List.take_succ_cons, List.take_zero, List.drop_succ_cons, List.drop_zero]
  repeat (go_big_quiet_step (fail))
  refine wpQuiet_nil ?_
  refine wpN_gen 76 (fun v w => IsB w v (split b)) rfl rfl (by kernel_rfl) (by kernel_rfl) (stable_isB _) (fun xw => ?_) ?_
  · refine growsTo_call (by simp [go_sem]) ((ref_split _ b _ (K1.out.gr xw.2) (by omega)).mono ?_)
    rintro e w' ⟨v, rfl, hg, ho⟩
    exact ⟨v, rfl, hg, ho.isB⟩
  refine wpN_conv 76 _ (.string (bs (split b))) (by decide) rfl (by kernel_rfl) (by kernel_rfl) (fun b w _ h => conv_slot rfl b w h) ?_
  simp only [Act.put, List.setIfInBounds_toArray, List.set_cons_succ, List.set_cons_zero]
  refine wpN_quiet 45 (by kernel_rfl) ?_
  simp only [List.take_succ_cons, List.take_zero, List.drop_succ_cons, List.drop_zero]
  repeat (go_big_quiet_step (fail))
  refine wpQuiet_nil ?_
  refine wpN_val (.int .i64 (common b p)) rfl (by kernel_rfl) (by kernel_rfl) (fun xw => ?_) ?_
  · refine growsTo_call (by simp [go_sem]) ((path_common _ _ b p _ (K1.out.gr xw.2) (K2.out.gr xw.2)).mono ?_)
    rintro e w' ⟨rfl, k, rfl⟩
    exact ⟨_, rfl, below_drewN (Gr.refl _) k, rfl⟩
  simp only [Act.put, List.setIfInBounds_toArray, List.set_cons_succ, List.set_cons_zero]
  refine wpN_quiet 2 (by kernel_rfl) ?_
  simp only [List.take_succ_cons, List.take_zero, List.drop_succ_cons, List.drop_zero]
  repeat (go_big_quiet_step (fail))
  refine wpQuiet_nil ?_
  refine wpN_val (.int .i64 (common b p)) rfl (by kernel_rfl) (by kernel_rfl) (fun xw => ?_) ?_
  · refine growsTo_call (by simp [go_sem]) ((ref_common _ _ b p _ (K1.out.gr xw.2) (K2.out.gr xw.2)).mono ?_)
    rintro e w' ⟨rfl, k, rfl⟩
    exact ⟨_, rfl, below_drewN (Gr.refl _) k, rfl⟩
  simp only [Act.put, List.setIfInBounds_toArray, List.set_cons_succ, List.set_cons_zero]
  refine wpN_quiet 3 (by kernel_rfl) ?_
  simp only [List.take_succ_cons, List.take_zero, List.drop_succ_cons, List.drop_zero]
  repeat (go_big_quiet_step (fail))
  refine wpQuiet_nil ?_
  refine wpN_nil (by kernel_rfl) ?_
  intro W hW
  replace hW := hW.gr
  intro v76 _
  unfold finN
  go_wp2
  refine bodyPost_ret (results_tmp rfl _ _ _) rfl ?_
  exact ⟨_, rfl, Gr.trans G8 hW, rfl⟩

/-- The law, whatever the bytes. -/
theorem tells_all (v1 v2 : Value) (b p : List UInt8) (leaf : Bool) (w : World) (h1 : IsB w v1 b) (h2 : IsB w v2 p) :
    Calls Try.prog 5 #[v1, v2, .bool leaf] w (Ret (eqV (.bool true)) w) := by
  by_cases hb : b.length ≤ 500
  · by_cases hp : p.length ≤ 500
    · exact tells_small v1 v2 b p leaf w h1 h2 hb hp
    · obtain ⟨A, c, rfl, _, ha2, _⟩ := h1
      obtain ⟨B, d, rfl, _, hb2, _⟩ := h2
      unfold maxLen at ha2 hb2
      go_enter Try.func5, Try.ntmps5
      go_wp2_with fail
      refine (path_alive _).mono ?_
      rintro e w1 ⟨_, rfl, hg1, rfl⟩
      have hp' : 500 < p.length := by omega
      clear hp
      go_wp2_with fail
      refine bodyPost_ret (results_tmp rfl _ _ _) rfl ?_
      exact ⟨_, rfl, hg1, rfl⟩
  · obtain ⟨A, c, rfl, _, ha2, _⟩ := h1
    obtain ⟨B, d, rfl, _, hb2, _⟩ := h2
    unfold maxLen at ha2 hb2
    go_enter Try.func5, Try.ntmps5
    go_wp2_with fail
    refine (path_alive _).mono ?_
    rintro e w1 ⟨_, rfl, hg1, rfl⟩
    have hb' : 500 < b.length := by omega
    clear hb
    go_wp2_with fail
    refine bodyPost_ret (results_tmp rfl _ _ _) rfl ?_
    exact ⟨_, rfl, hg1, rfl⟩
end Go.Proofs.Ytfpigemikpbbhaa
