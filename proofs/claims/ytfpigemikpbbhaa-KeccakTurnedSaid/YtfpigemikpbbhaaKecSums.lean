/-
  KeccakSums: the hash of any lists of bytes, as of one.
  Conditions: none.
-/
import Derived.Test.YtfpigemikpbbhaaKecAlive
import Derived.Test.YtfpigemikpbbhaaKecKeccak
namespace Go.Proofs.Ytfpigemikpbbhaa
open Go.RowKit Mono
theorem enter_sum (args : Array Value) (w : World) : (callFunc 30 args).run Try.prog w = .ok (.enter 30 args) w := by simp [go_sem]

set_option maxRecDepth 20000 in
set_option maxHeartbeats 1000000 in
theorem sums_small (v : Value) (ms : List (List UInt8)) (w : World) (h : IsBB w v ms) (hn : ms.length ≤ 30) : Calls Try.prog 6 #[v] w (Ret (eqV (.bool true)) w) := by
  have HV := Lib.hid h
  obtain ⟨A, c, vals, rfl, hc1, hc2, hlen, hrd, hel⟩ := h
  unfold maxLen at hc2
  have HRD := Lib.hid hrd
  have HEL := Lib.hid hel
  have HLEN := Lib.hid hlen
  clear hrd hel hlen
  go_enter Try.func6, Try.ntmps6
  go_wp2_with fail
  refine (kec_alive _).mono ?_
  rintro e w1 ⟨_, rfl, hg1, rfl⟩
  have HG1 := Lib.hid hg1
  clear hg1
  go_wp2_with fail
  go_loopw [4, 5] (fun v i wr => ∃ (k : Nat) (F : List UInt8), k ≤ ms.length ∧ i = .int .i64 k ∧ F = (ms.take k).flatten ∧ OwnB wr w.heap.size v F ∧ F.length ≤ 1000 * k ∧ Gr w wr) (fun _ i _ => ms.length - (intOf i).toNat)
  case atStart => exact ⟨0, [], by omega, rfl, rfl, OwnB.nil _ _, by simp, HG1.out⟩
  case round =>
    clear HG1
    obtain ⟨k, F, hk, rfl, hF, hown, hfl, hb⟩ := hrel
    have HF := Lib.hid hF
    clear hF
    obtain ⟨A', c', rfl, hd1, hd2⟩ := own_form hown
    have hbs := hb.size
    have HO := Lib.hid hown
    have HB := Lib.hid hb
    clear hown hb
    unfold maxLen at hd2
    by_cases h1 : k < ms.length
    · obtain ⟨b, o, x, rfl, hbl, hcell, hx⟩ := IsBB.at HLEN.out HRD.out HEL.out k h1
      have hcell' := (HB.out.cell (p := ⟨b, o + k, none⟩) hbl).trans hcell
      clear hcell
      obtain ⟨A2, c2, rfl, he1, he2, hr2⟩ := hx
      have HR2 := Lib.hid (hr2.below HB.out)
      clear hr2
      unfold maxLen at he2
      by_cases h2 : ms[k].length ≤ 1000
      · have HF2 := Lib.hid (take_flat ms k h1)
        go_wp2_with (at_builtin; refine wpL_append _ _ 22 slT_bytes _ _ _ _ _ _ _ (bvs ms[k]) rfl rfl rfl rfl HO.out HR2.out (by simp [bvs]) (bvs_one _) (by simp only [maxLen]; omega) (by omega) (by omega) ?_; intro A3 c3 w2 hown2 hg2 _)
        go_roundw
        case rel =>
          refine ⟨k + 1, F ++ ms[k], by omega, by go_num, by rw [HF.out, HF2.out], ?_, ?_, HB.out.grown hg2 (by omega) fun j hj => own_block_ge HO.out j hj⟩
          · unfold OwnB
            rw [bvs_append, List.length_append]
            exact hown2
          · rw [List.length_append]
            omega
        case measure => simp [intOf]; omega
      · have h3 : 1000 < ms[k].length := by omega
        clear h2
        go_wp2_with fail
        refine bodyPost_ret (results_tmp rfl _ _ _) rfl ?_
        exact ⟨_, rfl, HB.out, rfl⟩
    · have hf := Lib.hid (show F = ms.flatten by rw [HF.out, List.take_of_length_le (by omega)])
      have h5 : ms.length ≤ k := by omega
      clear h1 HF
      have hi := OwnB.isB HO.out
      go_wp2_with fail
      refine (ref_keccak _ _ _ hi (by omega)).mono ?_
      rintro e w2 ⟨_, rfl, hg2, rfl⟩
      have hz := hash_length F
      have HH := Lib.hid hz
      have HI := Lib.hid (hi.gr hg2)
      have HG2 := Lib.hid (HB.out.trans hg2)
      clear hi hg2 HB HO
      go_wp2_with (refine wpList_store_row rfl 36 (.tmp 6) (.tmp 35) rfl w2.heap.size (bvs (hash F)).toArray rfl rfl 36 _ (heap_alloc_new w2 _) (arr_info _ HH.out) (by rw [arr_size _ HH.out]; rfl) (arr_one _) ?_; rw [World.setRow_alloc_new])
      go_frame
      have HB2 := Lib.hid (HV.out.gr (HG2.out.trans (gr_alloc w2 (.cells (bvs (hash F)).toArray 36))))
      have HA2 : Hid (Arr (w2.alloc (.cells (bvs (hash F)).toArray 36)) w2.heap.size 36 (hash F)) := Lib.hid (heap_alloc_new w2 _)
      have HI2 := Lib.hid (HI.out.gr (gr_alloc w2 (.cells (bvs (hash F)).toArray 36)))
      have HG3 := Lib.hid (HG2.out.trans (gr_alloc w2 (.cells (bvs (hash F)).toArray 36)))
      have he : ∀ w : World, (binOp .eql 36 (arrV (hash F)) (arrV (hash F))).run Try.prog w = .ok (.bool true) w := fun w => by rw [run_eql_word w _ _ HH.out HH.out]; simp
      have hq := fun (w : World) (x y : Operand) => guard_eql_word w x y (hash F) (hash F)
      clear HI HV HG2
      refine wp_region_N 12 (by kernel_rfl) (by kernel_rfl) (by kernel_rfl) ?_
      simp only [List.take_succ_cons, List.take_zero, List.drop_succ_cons, List.drop_zero]
      refine wpN_quiet 1 (by kernel_rfl) ?_
      simp only [List.take_succ_cons, List.take_zero, List.drop_succ_cons, List.drop_zero]
      repeat (go_big_quiet_step (fail))
      refine wpQuiet_nil ?_
      refine wpN_val (arrV (hash ms.flatten)) rfl (by kernel_rfl) (by kernel_rfl) (fun xw => ?_) ?_
      · refine growsTo_call (by simp [go_sem]) ((sum_all _ ms _ (HB2.out.gr xw.2)).mono ?_)
        rintro e w' ⟨_, rfl, hg, rfl⟩
        exact ⟨_, rfl, hg, rfl⟩
      simp only [Act.put, List.setIfInBounds_toArray, List.set_cons_succ, List.set_cons_zero]
      rw [← hf.out]
      refine wpN_val (arrV (hash F)) rfl (by kernel_rfl) (by kernel_rfl) (fun xw => growsTo_load_word (HA2.out.gr xw.2) HH.out rfl rfl) ?_
      simp only [Act.put, List.setIfInBounds_toArray, List.set_cons_succ, List.set_cons_zero]
      refine wpN_quiet 3 (by kernel_rfl) ?_
      simp only [List.take_succ_cons, List.take_zero, List.drop_succ_cons, List.drop_zero]
      repeat (go_big_quiet_step (fail))
      refine wpQuiet_nil ?_
      refine wpN_gen 42 (fun v w => IsBB w v [F]) rfl rfl (by kernel_rfl) (by kernel_rfl) (fun _ _ _ hg h => h.gr hg) (fun x => ?_) ?_
      · simp [go_sem, growsTo]
        exact ⟨gr_alloc _ _, isBB_one (heap_alloc_new _ _) ((HI2.out.gr x.2).gr (gr_alloc _ _))⟩
      refine wpN_conv 42 _ (arrV (hash F)) (by decide) rfl (by kernel_rfl) (by kernel_rfl) (fun b w _ h => growsTo_call1 rfl enter_sum ((sum_all _ _ _ h).mono ?_)) ?_
      · rintro e w' ⟨_, rfl, hg, rfl⟩
        exact ⟨_, rfl, hg, by simp [eqV]⟩
      simp only [Act.put, List.setIfInBounds_toArray, List.set_cons_succ, List.set_cons_zero]
      refine wpN_val (arrV (hash F)) rfl (by kernel_rfl) (by kernel_rfl) (fun xw => growsTo_load_word (HA2.out.gr xw.2) HH.out rfl rfl) ?_
      simp only [Act.put, List.setIfInBounds_toArray, List.set_cons_succ, List.set_cons_zero]
      refine wpN_quiet 3 (by kernel_rfl) ?_
      simp only [List.take_succ_cons, List.take_zero, List.drop_succ_cons, List.drop_zero]
      repeat (go_big_quiet_step (fail))
      refine wpQuiet_nil ?_
      refine wpN_nil (by kernel_rfl) ?_
      intro W hW
      replace hW := hW.gr
      intro v42 _
      unfold finN
      go_wp2
      refine bodyPost_ret (results_tmp rfl _ _ _) rfl ?_
      exact ⟨_, rfl, HG3.out.trans hW, rfl⟩

/-- The law, whatever the lists. -/
theorem sums_all (v : Value) (ms : List (List UInt8)) (w : World) (h : IsBB w v ms) : Calls Try.prog 6 #[v] w (Ret (eqV (.bool true)) w) := by
  by_cases hn : ms.length ≤ 30
  · exact sums_small v ms w h hn
  · obtain ⟨A, c, vals, rfl, hc1, hc2, _, _, _⟩ := h
    unfold maxLen at hc2
    have hn' : 30 < ms.length := by omega
    clear hn
    go_enter Try.func6, Try.ntmps6
    go_wp2_with fail
    refine (kec_alive _).mono ?_
    rintro e w1 ⟨_, rfl, hg1, rfl⟩
    go_wp2_with fail
    refine bodyPost_ret (results_tmp rfl _ _ _) rfl ?_
    exact ⟨_, rfl, hg1, rfl⟩
end Go.Proofs.Ytfpigemikpbbhaa
