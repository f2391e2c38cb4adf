/-
  KeccakTurned: the hash of bytes of which one is another one, of any beginning, and of a list that is cut.
  Conditions: none.
-/
import Derived.Test.YtfpigemikpbbhaaKecSums
namespace Go.Proofs.Ytfpigemikpbbhaa
open Go.RowKit Mono

theorem u8_xor (x y : UInt8) : bits .xor .u8 (x.toNat : Int) (y.toNat : Int) = ((x ^^^ y).toNat : Int) := by
  rw [u8_xor_nat _ _ x.toNat_lt y.toNat_lt]
  simp

set_option maxRecDepth 20000 in
set_option maxHeartbeats 1000000 in
theorem turned_small (v : Value) (l : List UInt8) (at_ : Nat) (by_ : UInt8) (w : World) (h : IsB w v l) (h1 : 1 ≤ l.length) (h2 : l.length ≤ 1000) (h3 : at_ ≤ 9223372036854775807) (h4 : by_ ≠ 0) :
    Calls Try.prog 8 #[v, .int .i64 at_, .int .u8 by_.toNat] w (Ret (eqV (.bool true)) w) := by
  have HV := Lib.hid h
  obtain ⟨A, c, rfl, hc1, hc2, hr⟩ := h
  unfold maxLen at hc2
  have HR := Lib.hid hr
  obtain ⟨b, o, rfl, hbl, _⟩ := hr (by intro e; have := bvs_length l; rw [e] at this; simp at this; omega)
  clear hr
  have hby := bv_lt by_
  have hby0 : 0 < by_.toNat := by
    rcases Nat.eq_zero_or_pos by_.toNat with h0 | h0
    · exact absurd (UInt8.toNat_inj.1 (by rw [h0]; rfl)) h4
    · exact h0
  clear h4
  have d1 : decide ((l.length : Int) < 1) = false := by simp; omega
  have d2 : decide ((1000 : Int) < (l.length : Int)) = false := by simp; omega
  have d3 : decide ((at_ : Int) < 0) = false := by simp
  have d4 : ((by_.toNat : Int) == 0) = false := by simp; omega
  go_enter Try.func8, Try.ntmps8
  go_wp2_with fail
  refine (kec_alive _).mono ?_
  rintro e w1 ⟨_, rfl, hg1, rfl⟩
  have HG1 := Lib.hid hg1
  have hs1 := hg1.size
  clear hg1
  have hkl : at_ % l.length < l.length := Nat.mod_lt _ (by omega)
  have hxl := bv_lt l[at_ % l.length]
  have HR1 := Lib.hid ((HR.out.gr HG1.out))
  go_wp2_with (at_builtin; go_loud (refine wpL_append (.const (.slice none 0 0)) (.tmp 37) 22 slT_bytes (base := w.heap.size) _ 0 [] _ l.length c w1.heap.size (bvs l) rfl rfl rfl rfl (OwnB.nil _ _) HR1.out (by simp [bvs]) (bvs_one _) (by simp only [maxLen]; omega) (by simp; omega) (by omega) ?_; intro A2 c2 w2 hown2 hg2 _; simp only [Nat.zero_add, List.nil_append] at hown2; have hg3 : Gr w w2 := HG1.out.grown hg2 (by omega) (fun j hj => by cases hj); have HO2 := Lib.hid hown2; have HG2 := Lib.hid hg3; clear hown2 hg2 hg3 HG1; rw [Nat.zero_add]; obtain ⟨g, rfl, hgb, hgl⟩ := own_some HO2.out (by omega); have e1 := HO2.out.cellAt (at_ % l.length) (by omega); have e2 := HO2.out.frozenAt (at_ % l.length); rw [bvs_at l _ hkl] at e1; unfold bv at e1))
  obtain ⟨m, hm⟩ : ∃ m : List UInt8, m = l.set (at_ % l.length) (l[at_ % l.length] ^^^ by_) := ⟨_, rfl⟩
  have hml : m.length = l.length := by rw [hm, List.length_set]
  obtain ⟨w3, hw3⟩ : ∃ w3 : World, w3 = w2.setCell ⟨g, at_ % l.length, none⟩ (.int .u8 (bits .xor .u8 (l[at_ % l.length].toNat : Int) (by_.toNat : Int))) := ⟨_, rfl⟩
  have hst := HO2.out.stored (at_ % l.length) (bv (l[at_ % l.length] ^^^ by_))
  have hg3 : Gr w w3 := by rw [hw3]; exact HG2.out.setCell hgb _
  have hc3 : IsB w3 (.slice (some ⟨g, 0, none⟩) l.length c2) m := by
    have h1 := hst.1
    rw [bvs_set, ← hm] at h1
    have h2 : OwnB (w2.setCell ⟨g, at_ % l.length, none⟩ (bv (l[at_ % l.length] ^^^ by_))) w.heap.size (.slice (some ⟨g, 0, none⟩) l.length c2) m := by
      unfold OwnB
      rw [hml]
      exact h1
    have h3 := h2.isB
    unfold bv at h3
    rw [hw3, u8_xor]
    exact h3
  have hs3 : w2.heap.size = w3.heap.size := by rw [hw3]; simp
  rw [← hw3]
  have HC3 := Lib.hid hc3
  have HG3 := Lib.hid hg3
  have HML := Lib.hid hml
  clear hst hg3 hc3 hm hw3 e1 e2 HO2 HG2 d1 d2 d3 d4 hml HR1
  have hv3 := HV.out.gr HG3.out
  rw [hs3]
  refine (sum_all _ [l] _ (isBB_one (heap_alloc_new _ _) (hv3.gr (gr_alloc _ _)))).mono ?_
  rintro e w4 ⟨_, rfl, hg4, rfl⟩
  rw [show ([l] : List (List UInt8)).flatten = l by simp]
  have hz := hash_length l
  have HZ := Lib.hid hz
  have HG4 := Lib.hid ((gr_alloc _ _).trans hg4)
  clear hz hg4 hv3
  go_wp2_with (refine wpList_store_row rfl 36 (.tmp 10) (.tmp 50) rfl w4.heap.size (bvs (hash l)).toArray rfl rfl 36 _ (heap_alloc_new w4 _) (arr_info _ HZ.out) (by rw [arr_size _ HZ.out]; rfl) (arr_one _) ?_; rw [World.setRow_alloc_new])
  go_frame
  have hki : ((at_ : Int) % (l.length : Int)) = ((at_ % l.length : Nat) : Int) := by simp
  rw [hki]
  clear hki
  generalize l[at_ % l.length].toNat = x at hxl ⊢
  generalize at_ % l.length = k at hkl ⊢
  have hr4 := HR.out.gr (HG3.out.trans HG4.out)
  have HVW := Lib.hid ((HV.out.gr (HG3.out.trans HG4.out)).gr (gr_alloc w4 (.cells (bvs (hash l)).toArray 36)))
  have HTW : Hid (IsB (w4.alloc (.cells (bvs (hash l)).toArray 36)) (.slice (some ⟨b, o, none⟩) k c) (l.take k)) := by
    refine Lib.hid ⟨_, c, by rw [List.length_take, Nat.min_eq_left (by omega)], by rw [List.length_take]; omega, by simp only [maxLen]; omega, ?_⟩
    rw [bvs_take]
    exact (hr4.gr (gr_alloc w4 _)).take k
  have HDW : Hid (IsB (w4.alloc (.cells (bvs (hash l)).toArray 36)) (.slice (some ⟨b, o + k, none⟩) (l.length - k) (c - k)) (l.drop k)) := by
    refine Lib.hid (isB_cut' k (hr4.gr (gr_alloc w4 _)) rfl hc1 (by simp only [maxLen]; omega) (by omega) (by omega))
  have HCW := Lib.hid ((HC3.out.gr HG4.out).gr (gr_alloc w4 (.cells (bvs (hash l)).toArray 36)))
  have HA2 : Hid (Arr (w4.alloc (.cells (bvs (hash l)).toArray 36)) w4.heap.size 36 (hash l)) := Lib.hid (heap_alloc_new w4 _)
  have HGW := Lib.hid ((HG3.out.trans HG4.out).trans (gr_alloc w4 (.cells (bvs (hash l)).toArray 36)))
  have hzm := hash_length m
  have hzt := hash_length (l.take k)
  have HZM := Lib.hid hzm
  have HZT := Lib.hid hzt
  clear hr4 HV HR HC3 HG3 HG4 hzm hzt
  have he1 : ∀ w : World, (binOp .eql 36 (arrV (hash l)) (arrV (hash l))).run Try.prog w = .ok (.bool true) w := fun w => by rw [run_eql_word w _ _ HZ.out HZ.out]; simp
  have hq1 := fun (w : World) (x y : Operand) => guard_eql_word w x y (hash l) (hash l)
  have he2 : ∀ w : World, (binOp .eql 36 (arrV (hash m)) (arrV (hash m))).run Try.prog w = .ok (.bool true) w := fun w => by rw [run_eql_word w _ _ HZM.out HZM.out]; simp
  have hq2 := fun (w : World) (x y : Operand) => guard_eql_word w x y (hash m) (hash m)
  have he3 : ∀ w : World, (binOp .eql 36 (arrV (hash (l.take k))) (arrV (hash (l.take k)))).run Try.prog w = .ok (.bool true) w := fun w => by rw [run_eql_word w _ _ HZT.out HZT.out]; simp
  have hq3 := fun (w : World) (x y : Operand) => guard_eql_word w x y (hash (l.take k)) (hash (l.take k))
  refine wp_region_N 44 (by kernel_rfl) (by kernel_rfl) (by kernel_rfl) ?_
  simp only [List.take_succ_cons, List.take_zero, List.drop_succ_cons, List.drop_zero]
  refine wpN_val (arrV (hash l)) rfl (by kernel_rfl) (by kernel_rfl) (fun xw => growsTo_load_word (HA2.out.gr xw.2) HZ.out rfl rfl) ?_
  simp only [Act.put, List.setIfInBounds_toArray, List.set_cons_succ, List.set_cons_zero]
  refine wpN_quiet 1 (by kernel_rfl) ?_
  simp only [List.take_succ_cons, List.take_zero, List.drop_succ_cons, List.drop_zero]
  repeat (go_big_quiet_step (fail))
  refine wpQuiet_nil ?_
  refine wpN_val (arrV (hash l)) rfl (by kernel_rfl) (by kernel_rfl) (fun xw => ?_) ?_
  · refine growsTo_call (by simp [go_sem]) ((ref_keccak _ _ _ (HVW.out.gr xw.2) (by omega)).mono ?_)
    rintro e w' ⟨_, rfl, hg, rfl⟩
    exact ⟨_, rfl, hg, rfl⟩
  simp only [Act.put, List.setIfInBounds_toArray, List.set_cons_succ, List.set_cons_zero]
  refine wpN_quiet 3 (by kernel_rfl) ?_
  simp only [List.take_succ_cons, List.take_zero, List.drop_succ_cons, List.drop_zero]
  repeat (go_big_quiet_step (fail))
  refine wpQuiet_nil ?_
  refine wpN_gen 57 (fun v w => IsBB w v [m]) rfl rfl (by kernel_rfl) (by kernel_rfl) (fun _ _ _ hg h => h.gr hg) (fun x => ?_) ?_
  · simp [go_sem, growsTo]
    exact ⟨gr_alloc _ _, isBB_one (heap_alloc_new _ _) ((HCW.out.gr x.2).gr (gr_alloc _ _))⟩
  refine wpN_conv 57 _ (arrV (hash m)) (by decide) rfl (by kernel_rfl) (by kernel_rfl) (fun b w _ h => growsTo_call1 rfl enter_sum ((sum_all _ _ _ h).mono ?_)) ?_
  · rintro e w' ⟨_, rfl, hg, rfl⟩
    exact ⟨_, rfl, hg, by simp [eqV]⟩
  simp only [Act.put, List.setIfInBounds_toArray, List.set_cons_succ, List.set_cons_zero]
  refine wpN_quiet 1 (by kernel_rfl) ?_
  simp only [List.take_succ_cons, List.take_zero, List.drop_succ_cons, List.drop_zero]
  repeat (go_big_quiet_step (fail))
  refine wpQuiet_nil ?_
  refine wpN_val (arrV (hash m)) rfl (by kernel_rfl) (by kernel_rfl) (fun xw => ?_) ?_
  · refine growsTo_call (by simp [go_sem]) ((ref_keccak _ _ _ (HCW.out.gr xw.2) (by have := HML.out; omega)).mono ?_)
    rintro e w' ⟨_, rfl, hg, rfl⟩
    exact ⟨_, rfl, hg, rfl⟩
  simp only [Act.put, List.setIfInBounds_toArray, List.set_cons_succ, List.set_cons_zero]
  refine wpN_quiet 6 (by kernel_rfl) ?_
  simp only [List.take_succ_cons, List.take_zero, List.drop_succ_cons, List.drop_zero]
  repeat (go_big_quiet_step (fail))
  refine wpQuiet_nil ?_
  refine wpN_gen 67 (fun v w => IsBB w v [l.take k]) rfl rfl (by kernel_rfl) (by kernel_rfl) (fun _ _ _ hg h => h.gr hg) (fun x => ?_) ?_
  · simp [go_sem, growsTo]
    exact ⟨gr_alloc _ _, isBB_one (heap_alloc_new _ _) ((HTW.out.gr x.2).gr (gr_alloc _ _))⟩
  refine wpN_conv 67 _ (arrV (hash (l.take k))) (by decide) rfl (by kernel_rfl) (by kernel_rfl) (fun b w _ h => growsTo_call1 rfl enter_sum ((sum_all _ _ _ h).mono ?_)) ?_
  · rintro e w' ⟨_, rfl, hg, rfl⟩
    exact ⟨_, rfl, hg, by simp [eqV]⟩
  simp only [Act.put, List.setIfInBounds_toArray, List.set_cons_succ, List.set_cons_zero]
  refine wpN_quiet 3 (by kernel_rfl) ?_
  simp only [List.take_succ_cons, List.take_zero, List.drop_succ_cons, List.drop_zero]
  repeat (go_big_quiet_step (fail))
  refine wpQuiet_nil ?_
  refine wpN_val (arrV (hash (l.take k))) rfl (by kernel_rfl) (by kernel_rfl) (fun xw => ?_) ?_
  · refine growsTo_call (by simp [go_sem]) ((ref_keccak _ _ _ (HTW.out.gr xw.2) (by rw [List.length_take]; omega)).mono ?_)
    rintro e w' ⟨_, rfl, hg, rfl⟩
    exact ⟨_, rfl, hg, rfl⟩
  simp only [Act.put, List.setIfInBounds_toArray, List.set_cons_succ, List.set_cons_zero]
  refine wpN_quiet 3 (by kernel_rfl) ?_
  simp only [List.take_succ_cons, List.take_zero, List.drop_succ_cons, List.drop_zero]
  repeat (go_big_quiet_step (fail))
  refine wpQuiet_nil ?_
  refine wpN_val (arrV (hash l)) rfl (by kernel_rfl) (by kernel_rfl) (fun xw => growsTo_load_word (HA2.out.gr xw.2) HZ.out rfl rfl) ?_
  simp only [Act.put, List.setIfInBounds_toArray, List.set_cons_succ, List.set_cons_zero]
  refine wpN_quiet 6 (by kernel_rfl) ?_
  simp only [List.take_succ_cons, List.take_zero, List.drop_succ_cons, List.drop_zero]
  repeat (go_big_quiet_step (fail))
  refine wpQuiet_nil ?_
  refine wpN_gen 83 (fun v w => IsBB w v [l.take k, l.drop k]) rfl rfl (by kernel_rfl) (by kernel_rfl) (fun _ _ _ hg h => h.gr hg) (fun x => ?_) ?_
  · simp [go_sem, growsTo]
    refine ⟨gr_alloc _ _, isBB_block (ms := [l.take k, l.drop k]) (vals := [_, _]) (heap_alloc_new _ _) rfl (by simp [maxLen]) fun i x' m' hx hm => ?_⟩
    match i with
    | 0 => simp at hx hm; subst hx hm; exact (HTW.out.gr x.2).gr (gr_alloc _ _)
    | 1 => simp at hx hm; subst hx hm; exact (HDW.out.gr x.2).gr (gr_alloc _ _)
    | i + 2 => simp at hx
  refine wpN_conv 83 _ (arrV (hash l)) (by decide) rfl (by kernel_rfl) (by kernel_rfl) (fun b w _ h => growsTo_call1 rfl enter_sum ((sum_all _ _ _ h).mono ?_)) ?_
  · rintro e w' ⟨_, rfl, hg, rfl⟩
    exact ⟨_, rfl, hg, by simp [eqV]⟩
  simp only [Act.put, List.setIfInBounds_toArray, List.set_cons_succ, List.set_cons_zero]
  refine wpN_quiet 3 (by kernel_rfl) ?_
  simp only [List.take_succ_cons, List.take_zero, List.drop_succ_cons, List.drop_zero]
  repeat (go_big_quiet_step (fail))
  refine wpQuiet_nil ?_
  refine wpN_val (arrV (hash l)) rfl (by kernel_rfl) (by kernel_rfl) (fun xw => growsTo_load_word (HA2.out.gr xw.2) HZ.out rfl rfl) ?_
  simp only [Act.put, List.setIfInBounds_toArray, List.set_cons_succ, List.set_cons_zero]
  refine wpN_quiet 1 (by kernel_rfl) ?_
  simp only [List.take_succ_cons, List.take_zero, List.drop_succ_cons, List.drop_zero]
  repeat (go_big_quiet_step (fail))
  refine wpQuiet_nil ?_
  refine wpN_gen 90 (fun v w => IsBB w v [[], l, []]) rfl rfl (by kernel_rfl) (by kernel_rfl) (fun _ _ _ hg h => h.gr hg) (fun x => ?_) ?_
  · simp [go_sem, growsTo]
    refine ⟨gr_alloc _ _, isBB_block (ms := [[], l, []]) (vals := [_, _, _]) (heap_alloc_new _ _) rfl (by simp [maxLen]) fun i x' m' hx hm => ?_⟩
    match i with
    | 0 => simp at hx hm; subst hx hm; exact IsB.nil _
    | 1 => simp at hx hm; subst hx hm; exact (HVW.out.gr x.2).gr (gr_alloc _ _)
    | 2 => simp at hx hm; subst hx hm; exact IsB.nil _
    | i + 3 => simp at hx
  refine wpN_conv 90 _ (arrV (hash l)) (by decide) rfl (by kernel_rfl) (by kernel_rfl) (fun b w _ h => growsTo_call1 rfl enter_sum ((sum_all _ _ _ h).mono ?_)) ?_
  · rintro e w' ⟨_, rfl, hg, rfl⟩
    exact ⟨_, rfl, hg, by simp [eqV]⟩
  simp only [Act.put, List.setIfInBounds_toArray, List.set_cons_succ, List.set_cons_zero]
  refine wpN_quiet 3 (by kernel_rfl) ?_
  simp only [List.take_succ_cons, List.take_zero, List.drop_succ_cons, List.drop_zero]
  repeat (go_big_quiet_step (fail))
  refine wpQuiet_nil ?_
  refine wpN_nil (by kernel_rfl) ?_
  intro W hW
  replace hW := hW.gr
  intro v90 _
  intro v83 _
  intro v67 _
  intro v57 _
  unfold finN
  go_wp2
  refine bodyPost_ret (results_tmp rfl _ _ _) rfl ?_
  exact ⟨_, rfl, HGW.out.trans hW, rfl⟩

set_option maxHeartbeats 400000 in
theorem turned_out (v : Value) (l : List UInt8) (at_ by_ : Int) (w : World) (h : IsB w v l) (ha0 : -9223372036854775808 ≤ at_) (ha1 : at_ ≤ 9223372036854775807) (hb0 : 0 ≤ by_) (hb1 : by_ ≤ 255)
    (hout : l.length < 1 ∨ 1000 < l.length ∨ at_ < 0 ∨ by_ = 0) : Calls Try.prog 8 #[v, .int .i64 at_, .int .u8 by_] w (Ret (eqV (.bool true)) w) := by
  obtain ⟨A, c, rfl, hc1, hc2, _⟩ := h
  unfold maxLen at hc2
  by_cases c1 : l.length < 1
  · clear hout
    go_enter Try.func8, Try.ntmps8
    go_wp2_with fail
    refine (kec_alive _).mono ?_
    rintro e w1 ⟨_, rfl, hg1, rfl⟩
    go_wp2_with fail
    refine bodyPost_ret (results_tmp rfl _ _ _) rfl ?_
    exact ⟨_, rfl, hg1, rfl⟩
  by_cases c2 : 1000 < l.length
  · have c1' : 1 ≤ l.length := by omega
    clear hout c1
    go_enter Try.func8, Try.ntmps8
    go_wp2_with fail
    refine (kec_alive _).mono ?_
    rintro e w1 ⟨_, rfl, hg1, rfl⟩
    go_wp2_with fail
    refine bodyPost_ret (results_tmp rfl _ _ _) rfl ?_
    exact ⟨_, rfl, hg1, rfl⟩
  by_cases c3 : at_ < 0
  · have c1' : 1 ≤ l.length := by omega
    have c2' : l.length ≤ 1000 := by omega
    clear hout c1 c2
    go_enter Try.func8, Try.ntmps8
    go_wp2_with fail
    refine (kec_alive _).mono ?_
    rintro e w1 ⟨_, rfl, hg1, rfl⟩
    go_wp2_with fail
    refine bodyPost_ret (results_tmp rfl _ _ _) rfl ?_
    exact ⟨_, rfl, hg1, rfl⟩
  · have c4 : by_ = 0 := by omega
    have c1' : 1 ≤ l.length := by omega
    have c2' : l.length ≤ 1000 := by omega
    have c3' : 0 ≤ at_ := by omega
    clear hout c1 c2 c3 hb0 hb1
    subst c4
    go_enter Try.func8, Try.ntmps8
    go_wp2_with fail
    refine (kec_alive _).mono ?_
    rintro e w1 ⟨_, rfl, hg1, rfl⟩
    go_wp2_with fail
    refine bodyPost_ret (results_tmp rfl _ _ _) rfl ?_
    exact ⟨_, rfl, hg1, rfl⟩
/-- The law, whatever the bytes. -/
theorem turned_all (v : Value) (l : List UInt8) (at_ by_ : Int) (w : World) (h : IsB w v l) (ha0 : -9223372036854775808 ≤ at_) (ha1 : at_ ≤ 9223372036854775807) (hb0 : 0 ≤ by_) (hb1 : by_ ≤ 255) :
    Calls Try.prog 8 #[v, .int .i64 at_, .int .u8 by_] w (Ret (eqV (.bool true)) w) := by
  by_cases hout : l.length < 1 ∨ 1000 < l.length ∨ at_ < 0 ∨ by_ = 0
  · exact turned_out v l at_ by_ w h ha0 ha1 hb0 hb1 hout
  · have hb : ((UInt8.ofNat by_.toNat).toNat : Int) = by_ := by
      rw [UInt8.toNat_ofNat']
      omega
    have := turned_small v l at_.toNat (UInt8.ofNat by_.toNat) w h (by omega) (by omega) (by omega) (fun e => by
      rw [e] at hb
      have : (0 : Int) = by_ := hb
      omega)
    rw [hb, Int.toNat_of_nonneg (by omega)] at this
    exact this
end Go.Proofs.Ytfpigemikpbbhaa
