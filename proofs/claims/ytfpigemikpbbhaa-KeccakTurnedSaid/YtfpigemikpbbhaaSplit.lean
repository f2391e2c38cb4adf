/-
  path.Split and the reference's Split: the half bytes.
  Conditions: at most 2 to the 30th bytes.
-/
import Derived.Test.YtfpigemikpbbhaaPath
namespace Go.Proofs.Ytfpigemikpbbhaa
open Go.RowKit Mono

def split (l : List UInt8) : List UInt8 := l.flatMap fun (x : UInt8) => [x >>> 4, x &&& 15]
theorem split_length (l : List UInt8) : (split l).length = 2 * l.length := by
  induction l with
  | nil => rfl
  | cons x l ih => unfold split at *; rw [List.flatMap_cons, List.length_append, ih]; simp; omega
theorem split_take (l : List UInt8) (k : Nat) (h : k < l.length) : split (l.take (k + 1)) = split (l.take k) ++ [l[k] >>> 4, l[k] &&& 15] := by
  rw [List.take_succ_eq_append_getElem h, split, List.flatMap_append]; rfl

theorem nibs (x : UInt8) : bvs [x >>> 4, x &&& 15] = [.int .u8 ((x.toNat : Int) / 16), .int .u8 ((x.toNat : Int) % 16)] := by
  have h1 : (x >>> 4).toNat = x.toNat / 16 := by rw [UInt8.toNat_shiftRight]; simp [Nat.shiftRight_eq_div_pow]
  have h2 : (x &&& 15).toNat = x.toNat % 16 := by rw [UInt8.toNat_and]; exact Nat.and_two_pow_sub_one_eq_mod _ 4
  simp [bvs, bv, h1, h2]

set_option maxHeartbeats 400000 in
theorem path_split (v1 : Value) (l : List UInt8) (w : World) (h1 : IsB w v1 l) (hlen : l.length ≤ 1073741824) :
    Calls Try.prog 21 #[v1] w (Ret (fun v w' => OwnB w' w.heap.size v (split l)) w) := by
  obtain ⟨A, c, rfl, hl1, hl2, hA⟩ := h1
  clear hl1 hl2
  have HA := Lib.hid hA
  clear hA
  go_enter Try.func21, Try.ntmps21
  go_wp2
  go_loopw [3, 8] (fun v i wr => ∃ k : Nat, k ≤ l.length ∧ i = .int .i64 k ∧ OwnB wr w.heap.size v (split (l.take k)) ∧ Below w.heap.size w wr) (fun _ i _ => l.length - (intOf i).toNat)
  case atStart => exact ⟨0, by omega, rfl, OwnB.nil w w.heap.size, Below.refl _ _⟩
  case round =>
    obtain ⟨k, hk1, rfl, hown, hb⟩ := hrel
    obtain ⟨A', c', rfl, hc1, hc2⟩ := own_form hown
    have hsl : (split (l.take k)).length ≤ 2 * k := by rw [split_length, List.length_take]; omega
    have hbs := hb.size
    have HO := Lib.hid hown
    have HB := Lib.hid hb
    clear hown hb
    by_cases h1 : k < l.length
    · obtain ⟨b1, o1, rfl, hb1, c1⟩ := HA.out (by intro e; have := bvs_length l; rw [e] at this; simp at this; omega)
      have d1 := (HB.out.cell (p := ⟨b1, o1 + k, none⟩) hb1).trans (c1 k _ (bvs_at l k h1))
      clear c1
      unfold bv at d1
      have hlx := bv_lt l[k]
      have HS := Lib.hid (split_take l k h1)
      have HN := Lib.hid (nibs l[k])
      generalize l[k].toNat = x at d1 hlx HN
      go_wp2_with (at_builtin; refine wpL_append _ _ 22 slT_bytes _ _ _ _ _ _ (wr.heap.size + 1) [.int .u8 (↑x / 16), .int .u8 (↑x % 16)] rfl rfl rfl rfl (HO.out.alloc _) (Rd.new _ _ _) rfl (by simp [Value.oneCell']) (by simp only [maxLen]; omega) (by omega) (by simp; omega) ?_; intro A2 c2 w2 hown2 hg2 _)
      go_roundw
      case rel =>
        refine ⟨k + 1, by omega, by go_num, ?_, ?_⟩
        · unfold OwnB
          rw [HS.out, bvs_append, List.length_append]
          have e := HN.out
          rw [← e] at hown2
          exact hown2
        · exact (HB.out.alloc hbs _).grown hg2 (by simp; omega) fun j hj => own_block_ge HO.out j hj
      case measure => simp [intOf]; omega
    · go_wp2
      refine bodyPost_ret (results_tmp rfl _ _ _) rfl ?_
      refine ⟨_, rfl, HB.out, ?_⟩
      have h := HO.out
      rw [List.take_of_length_le (by omega)] at h
      show OwnB _ _ (.slice A' (split (l.take k)).length c') _
      rw [List.take_of_length_le (by omega)]
      exact h

set_option maxHeartbeats 400000 in
theorem ref_split (v1 : Value) (l : List UInt8) (w : World) (h1 : IsB w v1 l) (hlen : l.length ≤ 1073741824) :
    Calls Try.prog 26 #[v1] w (Ret (fun v w' => OwnB w' w.heap.size v (split l)) w) := by
  obtain ⟨A, c, rfl, hl1, hl2, hA⟩ := h1
  clear hl1 hl2
  have HA := Lib.hid hA
  clear hA
  go_enter Try.func26, Try.ntmps26
  go_wp2
  go_loopw [3, 4] (fun v i wr => ∃ k : Nat, k ≤ l.length ∧ i = .int .i64 k ∧ OwnB wr w.heap.size v (split (l.take k)) ∧ Below w.heap.size w wr) (fun _ i _ => l.length - (intOf i).toNat)
  case atStart => exact ⟨0, by omega, rfl, OwnB.nil w w.heap.size, Below.refl _ _⟩
  case round =>
    obtain ⟨k, hk1, rfl, hown, hb⟩ := hrel
    obtain ⟨A', c', rfl, hc1, hc2⟩ := own_form hown
    have hsl : (split (l.take k)).length ≤ 2 * k := by rw [split_length, List.length_take]; omega
    have hbs := hb.size
    have HO := Lib.hid hown
    have HB := Lib.hid hb
    clear hown hb
    by_cases h1 : k < l.length
    · obtain ⟨b1, o1, rfl, hb1, c1⟩ := HA.out (by intro e; have := bvs_length l; rw [e] at this; simp at this; omega)
      have hbw : b1 < wr.heap.size := by omega
      have d1 := later_cell (w := wr) (p := ⟨b1, o1 + k, none⟩) hbw ((HB.out.cell (p := ⟨b1, o1 + k, none⟩) hb1).trans (c1 k _ (bvs_at l k h1)))
      clear c1
      unfold bv at d1
      have hlx := bv_lt l[k]
      have HS := Lib.hid (split_take l k h1)
      have HN := Lib.hid (nibs l[k])
      generalize l[k].toNat = x at d1 hlx HN
      go_wp2
      refine wp_region_N 12 (by kernel_rfl) (by kernel_rfl) (by kernel_rfl) ?_
      simp only [List.take_succ_cons, List.take_zero, List.drop_succ_cons, List.drop_zero]
      refine wpN_quiet 11 (by kernel_rfl) ?_
      simp only [List.take_succ_cons, List.take_zero, List.drop_succ_cons, List.drop_zero]
      repeat (go_big_quiet_step (fail))
      refine wpQuiet_nil ?_
      refine wpN_gen 22 (fun v w => IsB w v [l[k] >>> 4, l[k] &&& 15]) rfl rfl (by kernel_rfl) (by kernel_rfl) (stable_isB _) (fun x => ?_) ?_
      · simp [go_sem, growsTo]
        exact ⟨gr_alloc _ _, isB_new _ _ _ HN.out.symm (by simp [maxLen])⟩
      refine wpN_nil (by kernel_rfl) ?_
      intro W hW
      replace hW := hW.gr
      have hbs2 := hW.size
      intro v22 h22
      obtain ⟨A22, c22, rfl, _, _, hrd⟩ := h22
      unfold finN
      go_wp2_with (at_builtin; refine wpL_append _ _ 22 slT_bytes _ _ _ _ _ _ _ (bvs [l[k] >>> 4, l[k] &&& 15]) rfl rfl rfl rfl (own_gr HO.out hW) hrd (by simp [bvs]) (bvs_one _) (by simp only [maxLen]; simp; omega) (by simp; omega) (by omega) ?_; intro A2 c2 w2 hown2 hg2 _)
      go_roundw
      case rel =>
        refine ⟨k + 1, by omega, by go_num, ?_, ?_⟩
        · unfold OwnB
          rw [HS.out, bvs_append, List.length_append]
          exact hown2
        · exact (HB.out.trans (hW.mono hbs)).grown hg2 (by omega) fun j hj => own_block_ge HO.out j hj
      case measure => simp [intOf]; omega
    · go_wp2
      refine bodyPost_ret (results_tmp rfl _ _ _) rfl ?_
      refine ⟨_, rfl, HB.out, ?_⟩
      have h := HO.out
      rw [List.take_of_length_le (by omega)] at h
      show OwnB _ _ (.slice A' (split (l.take k)).length c') _
      rw [List.take_of_length_le (by omega)]
      exact h
end Go.Proofs.Ytfpigemikpbbhaa
