/-
  RlpDeep: how deep lists may stand within lists.
  Conditions: none.
-/
import Derived.Test.YtfpigemikpbbhaaDeepPlain
namespace Go.Proofs.Ytfpigemikpbbhaa
set_option linter.unusedVariables false
open Go.RowKit Mono Rlp

set_option maxRecDepth 20000 in
set_option maxHeartbeats 4000000 in
theorem deep_in (n : Nat) (w : World) (h1 : 1 ≤ n) (h2 : n ≤ 60) : Calls Try.prog 14 #[.int .i64 n] w (Ret (eqV (.bool true)) w) := by
  go_enter Try.func14, Try.ntmps14
  go_wp2_with fail
  refine (rlp_alive _).mono ?_
  rintro e w1 ⟨_, rfl, hg1, rfl⟩
  have HG1 := Lib.hid (hg1.trans (gr_alloc w1 (.cells #[.bool true, .slice none 0 0, .slice none 0 0] 45)))
  have hs1 := hg1.size
  clear hg1
  go_wp2_with fail
  go_loopw [5] (fun i wr => ∃ (k : Nat) (A : Option Addr) (m c : Nat), 1 ≤ k ∧ k ≤ n ∧ i = .int .i64 k ∧ wr.heap[w1.heap.size]? = some (.cells #[.bool true, .slice none 0 0, .slice A m c] 45 (0, 0)) ∧
    ItemIn (fun j => j ≠ w1.heap.size ∧ j < wr.heap.size) wr (.agg #[.bool true, .slice none 0 0, .slice A m c]) (nest (k - 1)) ∧ Gr w wr) (fun i _ => n - (intOf i).toNat)
  case atStart =>
    refine ⟨1, none, 0, 0, by omega, by omega, rfl, heap_alloc_new w1 _, ⟨_, rfl, ?_⟩, HG1.out⟩
    show ItemAtP _ _ (.mk true [] []) _
    rw [ItemAtP]
    exact ⟨.slice none 0 0, none, 0, [], rfl, ⟨none, 0, rfl, Nat.le_refl _, by simp [maxLen], fun hn => absurd rfl hn⟩, Nat.le_refl _, by simp [maxLen], fun _ => ⟨rfl, rfl⟩, fun hn => absurd rfl hn, by rw [ItemsAtP]⟩
  case round =>
    obtain ⟨k, A, m, c, hk1, hk2, rfl, hrow, hit, hgw⟩ := hrel
    obtain ⟨q0, q1, q2⟩ := cells3 hrow
    have HROW := Lib.hid hrow
    have HIT := Lib.hid hit
    have HGW := Lib.hid hgw
    have hlt := (Array.getElem?_eq_some_iff.1 hrow).1
    clear hrow hit hgw
    by_cases h3 : k < n
    · go_wp2_with (refine wpList_store_row rfl 45 (.tmp 4) (.tmp 33) rfl w1.heap.size #[.bool true, .slice none 0 0, .slice (some ⟨wr.heap.size, 0, none⟩) 1 1] rfl rfl 45 _ ((heap_old _ _ _ hlt).trans HROW.out) (by kernel_rfl) (by kernel_rfl) (by simp [Value.oneCell']) ?_)
      go_roundw
      case rel =>
        have hr2 := setRow_heap _ w1.heap.size _ #[.bool true, .slice none 0 0, .slice (some ⟨wr.heap.size, 0, none⟩) 1 1] _ _ ((heap_old wr (.cells #[.bool true, .slice none 0 0, .slice A m c] 45) _ hlt).trans HROW.out)
        refine ⟨k + 1, some ⟨wr.heap.size, 0, none⟩, 1, 1, by omega, by omega, by go_num, hr2, ⟨_, rfl, ?_⟩, gr_setRow (HGW.out.trans (gr_alloc _ _)) _ _ (by omega)⟩
        have hk3 : k + 1 - 1 = (k - 1) + 1 := by omega
        rw [hk3, nest]
        show ItemAtP _ _ (.mk true [] [nest (k - 1)]) _
        rw [ItemAtP]
        obtain ⟨cs, hcs, hat⟩ := HIT.out
        obtain rfl : [.bool true, .slice none 0 0, .slice A m c] = cs := by
          have := congrArg Value.cells hcs
          simpa [Value.cells] using congrArg Array.toList this
        refine ⟨.slice none 0 0, some ⟨wr.heap.size, 0, none⟩, 1, [[.bool true, .slice none 0 0, .slice A m c]], rfl, ⟨none, 0, rfl, Nat.le_refl _, by simp [maxLen], fun hn => absurd rfl hn⟩, Nat.le_refl _, by simp [maxLen], (fun e => by cases e), fun _ => ⟨_, 0, rfl, ⟨by omega, by simp⟩, fun j u hu => ?_⟩, ?_⟩
        · rw [cell_setRow (by show wr.heap.size ≠ w1.heap.size; omega), Nat.zero_add, cell_of_row _ _ _ _ _ (0, 0) (heap_alloc_new wr _)]
          simpa using hu
        · rw [ItemsAtP]
          refine ⟨_, [], rfl, ItemAtP.mono (fun j hj => ⟨hj.1, by simp; omega⟩) (fun p hp => ?_) _ _ hat, by rw [ItemsAtP]⟩
          rw [cell_setRow hp.1]
          exact (gr_alloc wr _).cell hp.2
      case measure => simp [intOf]; omega
    · have hkn : k = n := by omega
      have HI := Lib.hid (HIT.out.is fun j hj => hj.2)
      clear h3 hk1 hk2
      rw [hkn] at HI ⊢
      clear hkn HIT
      go_wp2_with fail
      refine (rlp_pack _ _ _ HI.out).mono ?_
      rintro e w2 ⟨v2, rfl, hg2, hv2⟩
      have hv : ∃ A6 m6 c6, v2 = .tuple #[.slice A6 m6 c6, .int .i64 (if n - 1 < 32 then 0 else 3 : Int)] := by
        by_cases h4 : n - 1 < 32
        · obtain ⟨vb, rfl, ho⟩ := packV_some (packed_nest _ h4) hv2
          obtain ⟨A, c, rfl, _⟩ := own_form ho
          rw [if_pos h4]
          exact ⟨_, _, _, rfl⟩
        · rw [if_neg h4]
          exact ⟨_, _, _, packV_none (packed_nest_none _ (by omega)) hv2⟩
      obtain ⟨A6, m6, c6, rfl⟩ := hv
      have HG2 := Lib.hid ((HGW.out.trans hg2).trans (gr_alloc w2 (.cells #[.int .u8 192] 5)))
      have hs2 := hg2.size
      clear hg2 hv2 HI HROW q0 q1 q2 HGW
      obtain ⟨ee, hee⟩ : ∃ ee : Int, ee = (if n - 1 < 32 then 0 else 3 : Int) := ⟨_, rfl⟩
      rw [← hee]
      have HEE := Lib.hid hee
      clear hee
      have hO2 : OwnB (w2.alloc (.cells #[.int .u8 192] 5)) w2.heap.size (.slice (some ⟨w2.heap.size, 0, none⟩) 1 1) (E (nest 0)) := by
        rw [E_nest_zero]
        exact ownB_of (own_lit w2 #[.int .u8 192] 5 1 1 w2.heap.size w2.heap.size rfl (Nat.le_refl _) (by simp [maxLen]) rfl) rfl
      have HO2 := Lib.hid hO2
      clear hO2
      go_wp2_with fail
      go_loopw [8, 9] (fun bv i wr => ∃ (k : Nat), 1 ≤ k ∧ k ≤ n ∧ i = .int .i64 k ∧ IsB wr bv (E (nest (k - 1))) ∧ Gr w wr) (fun _ i _ => n - (intOf i).toNat)
      case atStart => exact ⟨1, by omega, by omega, rfl, OwnB.isB HO2.out, HG2.out⟩
      case round =>
        obtain ⟨k, hk1, hk2, rfl, hob, hgw⟩ := hrel
        have hle := E_nest_le (k - 1) (by omega)
        have HSUC := Lib.hid (E_nest_succ (k - 1) (by omega))
        have HL : Hid (E (nest (k - 1)) = E (nest (k - 1))) := Lib.hid rfl
        generalize hl : E (nest (k - 1)) = l at hob hle HSUC
        have HLL := Lib.hid hl
        have HB := Lib.hid hob
        obtain ⟨A7, c7, rfl, hd1, hd2, hr⟩ := hob
        have HR := Lib.hid hr
        have HGW := Lib.hid hgw
        have hl2 : l.length ≤ 119 := by omega
        unfold maxLen at hd2
        clear hr hgw hl HL hle HO2 HG2
        by_cases h3 : k < n
        · by_cases h4 : l.length < 56
          · have HS2 := Lib.hid (show E (nest (k - 1 + 1)) = UInt8.ofNat (192 + l.length) :: l by rw [HSUC.out, if_pos h4])
            clear HSUC
            go_wp2_with (at_builtin; refine wpL_append (.tmp 52) (.tmp 53) 22 slT_bytes (base := wr.heap.size) _ 1 [.int .u8 (192 + (l.length : Int))] _ l.length c7 wr.heap.size (bvs l) rfl rfl rfl rfl (own_lit wr #[.int .u8 (192 + (l.length : Int))] 5 1 1 wr.heap.size wr.heap.size rfl (Nat.le_refl _) (by simp [maxLen]) rfl) (HR.out.below ((Below.refl _ _).alloc (Nat.le_refl _) _)) (by simp [bvs]) (bvs_one _) (by simp only [maxLen]; omega) (by omega) (by simp) ?_; intro A2 c2 w3 hown3 hg3 _; have HW3 := Lib.hid hown3; have HG3 : Hid (Gr w w3) := Lib.hid (HGW.out.trans (((Below.refl _ _).alloc (Nat.le_refl _) _).grown hg3 (by simp) (fun j hj => by cases hj; exact Nat.le_refl _))); clear hown3 hg3)
            go_roundw
            case rel =>
              refine ⟨k + 1, by omega, by omega, by go_num, ?_, HG3.out⟩
              rw [show k + 1 - 1 = k - 1 + 1 by omega, HS2.out]
              refine OwnB.isB (ownB_of HW3.out ?_)
              rw [show (192 + (l.length : Int)) = ((192 + l.length : Nat) : Int) by omega, bv_small _ (by omega)]
              rfl
            case measure => simp [intOf]; omega
          · have HS2 := Lib.hid (show E (nest (k - 1 + 1)) = 248 :: UInt8.ofNat l.length :: l by rw [HSUC.out, if_neg h4])
            have h5 : 56 ≤ l.length := by omega
            clear HSUC h4
            go_wp2_with (at_builtin; refine wpL_append (.tmp 57) (.tmp 58) 22 slT_bytes (base := wr.heap.size) _ 2 [.int .u8 248, .int .u8 (l.length : Int)] _ l.length c7 wr.heap.size (bvs l) rfl rfl rfl rfl (own_lit wr #[.int .u8 248, .int .u8 (l.length : Int)] 5 1 2 wr.heap.size wr.heap.size rfl (Nat.le_refl _) (by simp [maxLen]) rfl) (HR.out.below ((Below.refl _ _).alloc (Nat.le_refl _) _)) (by simp [bvs]) (bvs_one _) (by simp only [maxLen]; omega) (by omega) (by simp) ?_; intro A2 c2 w3 hown3 hg3 _; have HW3 := Lib.hid hown3; have HG3 : Hid (Gr w w3) := Lib.hid (HGW.out.trans (((Below.refl _ _).alloc (Nat.le_refl _) _).grown hg3 (by simp) (fun j hj => by cases hj; exact Nat.le_refl _))); clear hown3 hg3)
            go_roundw
            case rel =>
              refine ⟨k + 1, by omega, by omega, by go_num, ?_, HG3.out⟩
              rw [show k + 1 - 1 = k - 1 + 1 by omega, HS2.out]
              refine OwnB.isB (ownB_of HW3.out ?_)
              rw [bv_small _ (by omega)]
              rfl
            case measure => simp [intOf]; omega
        · have hkn : k = n := by omega
          have HRE := Lib.hid (readE_nest (n - 1) (by omega))
          rw [hkn] at HLL
          rw [HLL.out] at HRE
          clear hk1 hk2 HSUC
          go_wp2_with fail
          refine (rlp_Read _ l _ HB.out).mono ?_
          rintro e w4 ⟨v4, rfl, hg4, hv4⟩
          obtain ⟨vi, rfl, hi⟩ := readV_both hv4
          obtain ⟨cs, rfl, hat⟩ := hi
          obtain ⟨f, A8, n8, c8, A9, n9, c9, rfl⟩ := hat.len
          have HG4 := Lib.hid ((HGW.out.trans hg4).trans (gr_alloc w4 (.cells #[.bool f, .slice A8 n8 c8, .slice A9 n9 c9] 45)))
          rw [HRE.out]
          clear hg4 hv4 hat
          by_cases h5 : n - 1 < 32
          · have h6 : n ≤ 32 := by omega
            obtain rfl : ee = 0 := by rw [HEE.out, if_pos h5]
            rw [if_pos h5]
            clear h5
            go_wp2_with (go_at_call 34; refine (law_num _ _).mono ?_; rintro e w' ⟨rfl, rfl⟩)
            refine bodyPost_ret (results_tmp rfl _ _ _) rfl ⟨_, rfl, HG4.out, ?_⟩
            simp [eqV]
          · have h6 : 32 < n := by omega
            obtain rfl : ee = 3 := by rw [HEE.out, if_neg h5]
            rw [if_neg h5]
            clear h5
            go_wp2_with (go_at_call 34; refine (law_num _ _).mono ?_; rintro e w' ⟨rfl, rfl⟩)
            refine bodyPost_ret (results_tmp rfl _ _ _) rfl ⟨_, rfl, HG4.out, ?_⟩
            simp [eqV]
set_option maxRecDepth 20000 in
set_option maxHeartbeats 1000000 in
theorem deep_all (z : Int) (w : World) (h1 : -9223372036854775808 ≤ z) (h2 : z ≤ 9223372036854775807) : Calls Try.prog 14 #[.int .i64 z] w (Ret (eqV (.bool true)) w) := by
  by_cases h3 : z < 1
  · go_enter Try.func14, Try.ntmps14
    go_wp2_with fail
    refine (rlp_alive _).mono ?_
    rintro e w1 ⟨_, rfl, hg1, rfl⟩
    go_wp2_with fail
    refine bodyPost_ret (results_tmp rfl _ _ _) rfl ⟨_, rfl, hg1, ?_⟩
    simp [eqV]
  · by_cases h4 : 60 < z
    · have h5 : 1 ≤ z := by omega
      clear h3
      go_enter Try.func14, Try.ntmps14
      go_wp2_with fail
      refine (rlp_alive _).mono ?_
      rintro e w1 ⟨_, rfl, hg1, rfl⟩
      go_wp2_with fail
      refine bodyPost_ret (results_tmp rfl _ _ _) rfl ⟨_, rfl, hg1, ?_⟩
      simp [eqV]
    · obtain ⟨n, rfl⟩ := Int.eq_ofNat_of_zero_le (show 0 ≤ z by omega)
      exact deep_in n w (by omega) (by omega)
end Go.Proofs.Ytfpigemikpbbhaa
