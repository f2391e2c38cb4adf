/-
  Bytes as a text of digits.
  Conditions: the bytes are at most 2^30.
-/
import Derived.Test.YtfpigemikpbbhaaStr
import Derived.Test.YtfpigemikpbbhaaSplit
import Derived.Test.YtfpigemikpbbhaaGrow
namespace Go.Proofs.Ytfpigemikpbbhaa
open Go.RowKit Mono

def digit (n : Nat) : UInt8 := [48, 49, 50, 51, 52, 53, 54, 55, 56, 57, 97, 98, 99, 100, 101, 102].getD n 0
def text (l : List UInt8) : List UInt8 := [48, 120] ++ l.flatMap fun b => [digit (b.toNat / 16), digit (b.toNat % 16)]
theorem text_snoc (l : List UInt8) (b : UInt8) : text (l ++ [b]) = text l ++ [digit (b.toNat / 16), digit (b.toNat % 16)] := by simp [text]
theorem text_length (l : List UInt8) : (text l).length = 2 + 2 * l.length := by
  induction l with
  | nil => rfl
  | cons b l ih =>
    have h : (text (b :: l)).length = (text l).length + 2 := by simp [text]
    rw [h, ih, List.length_cons]
    omega
theorem dig_index0 (w : World) : (Instr.index 9 (.string (ByteArray.mk #[48, 49, 50, 51, 52, 53, 54, 55, 56, 57, 97, 98, 99, 100, 101, 102])) (.int .u8 ((0 : Nat) : Int))).run Try.prog w = .ok (.int .u8 ((digit 0).toNat : Int)) w := by kernel_rfl
theorem dig_index1 (w : World) : (Instr.index 9 (.string (ByteArray.mk #[48, 49, 50, 51, 52, 53, 54, 55, 56, 57, 97, 98, 99, 100, 101, 102])) (.int .u8 ((1 : Nat) : Int))).run Try.prog w = .ok (.int .u8 ((digit 1).toNat : Int)) w := by kernel_rfl
theorem dig_index2 (w : World) : (Instr.index 9 (.string (ByteArray.mk #[48, 49, 50, 51, 52, 53, 54, 55, 56, 57, 97, 98, 99, 100, 101, 102])) (.int .u8 ((2 : Nat) : Int))).run Try.prog w = .ok (.int .u8 ((digit 2).toNat : Int)) w := by kernel_rfl
theorem dig_index3 (w : World) : (Instr.index 9 (.string (ByteArray.mk #[48, 49, 50, 51, 52, 53, 54, 55, 56, 57, 97, 98, 99, 100, 101, 102])) (.int .u8 ((3 : Nat) : Int))).run Try.prog w = .ok (.int .u8 ((digit 3).toNat : Int)) w := by kernel_rfl
theorem dig_index4 (w : World) : (Instr.index 9 (.string (ByteArray.mk #[48, 49, 50, 51, 52, 53, 54, 55, 56, 57, 97, 98, 99, 100, 101, 102])) (.int .u8 ((4 : Nat) : Int))).run Try.prog w = .ok (.int .u8 ((digit 4).toNat : Int)) w := by kernel_rfl
theorem dig_index5 (w : World) : (Instr.index 9 (.string (ByteArray.mk #[48, 49, 50, 51, 52, 53, 54, 55, 56, 57, 97, 98, 99, 100, 101, 102])) (.int .u8 ((5 : Nat) : Int))).run Try.prog w = .ok (.int .u8 ((digit 5).toNat : Int)) w := by kernel_rfl
theorem dig_index6 (w : World) : (Instr.index 9 (.string (ByteArray.mk #[48, 49, 50, 51, 52, 53, 54, 55, 56, 57, 97, 98, 99, 100, 101, 102])) (.int .u8 ((6 : Nat) : Int))).run Try.prog w = .ok (.int .u8 ((digit 6).toNat : Int)) w := by kernel_rfl
theorem dig_index7 (w : World) : (Instr.index 9 (.string (ByteArray.mk #[48, 49, 50, 51, 52, 53, 54, 55, 56, 57, 97, 98, 99, 100, 101, 102])) (.int .u8 ((7 : Nat) : Int))).run Try.prog w = .ok (.int .u8 ((digit 7).toNat : Int)) w := by kernel_rfl
theorem dig_index8 (w : World) : (Instr.index 9 (.string (ByteArray.mk #[48, 49, 50, 51, 52, 53, 54, 55, 56, 57, 97, 98, 99, 100, 101, 102])) (.int .u8 ((8 : Nat) : Int))).run Try.prog w = .ok (.int .u8 ((digit 8).toNat : Int)) w := by kernel_rfl
theorem dig_index9 (w : World) : (Instr.index 9 (.string (ByteArray.mk #[48, 49, 50, 51, 52, 53, 54, 55, 56, 57, 97, 98, 99, 100, 101, 102])) (.int .u8 ((9 : Nat) : Int))).run Try.prog w = .ok (.int .u8 ((digit 9).toNat : Int)) w := by kernel_rfl
theorem dig_index10 (w : World) : (Instr.index 9 (.string (ByteArray.mk #[48, 49, 50, 51, 52, 53, 54, 55, 56, 57, 97, 98, 99, 100, 101, 102])) (.int .u8 ((10 : Nat) : Int))).run Try.prog w = .ok (.int .u8 ((digit 10).toNat : Int)) w := by kernel_rfl
theorem dig_index11 (w : World) : (Instr.index 9 (.string (ByteArray.mk #[48, 49, 50, 51, 52, 53, 54, 55, 56, 57, 97, 98, 99, 100, 101, 102])) (.int .u8 ((11 : Nat) : Int))).run Try.prog w = .ok (.int .u8 ((digit 11).toNat : Int)) w := by kernel_rfl
theorem dig_index12 (w : World) : (Instr.index 9 (.string (ByteArray.mk #[48, 49, 50, 51, 52, 53, 54, 55, 56, 57, 97, 98, 99, 100, 101, 102])) (.int .u8 ((12 : Nat) : Int))).run Try.prog w = .ok (.int .u8 ((digit 12).toNat : Int)) w := by kernel_rfl
theorem dig_index13 (w : World) : (Instr.index 9 (.string (ByteArray.mk #[48, 49, 50, 51, 52, 53, 54, 55, 56, 57, 97, 98, 99, 100, 101, 102])) (.int .u8 ((13 : Nat) : Int))).run Try.prog w = .ok (.int .u8 ((digit 13).toNat : Int)) w := by kernel_rfl
theorem dig_index14 (w : World) : (Instr.index 9 (.string (ByteArray.mk #[48, 49, 50, 51, 52, 53, 54, 55, 56, 57, 97, 98, 99, 100, 101, 102])) (.int .u8 ((14 : Nat) : Int))).run Try.prog w = .ok (.int .u8 ((digit 14).toNat : Int)) w := by kernel_rfl
theorem dig_index15 (w : World) : (Instr.index 9 (.string (ByteArray.mk #[48, 49, 50, 51, 52, 53, 54, 55, 56, 57, 97, 98, 99, 100, 101, 102])) (.int .u8 ((15 : Nat) : Int))).run Try.prog w = .ok (.int .u8 ((digit 15).toNat : Int)) w := by kernel_rfl
theorem dig_index (n : Nat) (h : n < 16) (w : World) : (Instr.index 9 (.string (ByteArray.mk #[48, 49, 50, 51, 52, 53, 54, 55, 56, 57, 97, 98, 99, 100, 101, 102])) (.int .u8 (n : Int))).run Try.prog w = .ok (.int .u8 ((digit n).toNat : Int)) w := by
  match n, h with
  | 0, _ => exact dig_index0 w
  | 1, _ => exact dig_index1 w
  | 2, _ => exact dig_index2 w
  | 3, _ => exact dig_index3 w
  | 4, _ => exact dig_index4 w
  | 5, _ => exact dig_index5 w
  | 6, _ => exact dig_index6 w
  | 7, _ => exact dig_index7 w
  | 8, _ => exact dig_index8 w
  | 9, _ => exact dig_index9 w
  | 10, _ => exact dig_index10 w
  | 11, _ => exact dig_index11 w
  | 12, _ => exact dig_index12 w
  | 13, _ => exact dig_index13 w
  | 14, _ => exact dig_index14 w
  | 15, _ => exact dig_index15 w
  | n + 16, h => omega

set_option maxHeartbeats 400000 in
set_option maxRecDepth 20000 in
theorem ref_text (v1 : Value) (l : List UInt8) (w : World) (h1 : IsB w v1 l) (hlen : l.length ≤ 1073741824) :
    Calls Try.prog 49 #[v1] w (Ret (eqV (.string (bs (text l)))) w) := by
  obtain ⟨A, c, rfl, hl1, hl2, hA⟩ := h1
  clear hl1 hl2
  have HA := Lib.hid hA
  clear hA
  have kc := conv_const w
  go_enter Try.func49, Try.ntmps49
  go_wp2
  clear kc
  go_loopw [3, 4] (fun v i wr => ∃ k : Nat, k ≤ l.length ∧ i = .int .i64 k ∧ AppB wr w.heap.size v (text (l.take k)) ∧ Below w.heap.size w wr) (fun _ i _ => l.length - (intOf i).toNat)
  case atStart => exact ⟨0, by omega, rfl, .inr ⟨_, rfl, rfl, by rw [show (w.alloc (.cells #[.int .u8 48, .int .u8 120] 5 (2, 3))).heap.size = w.heap.size + 1 by simp]; exact rd_marked w #[.int .u8 48, .int .u8 120] 5 (2, 3)⟩, gr_alloc w _⟩
  case round =>
    obtain ⟨k, hk1, rfl, hown, hb⟩ := hrel
    have hsl : (text (l.take k)).length ≤ 2 + 2 * k := by rw [text_length, List.length_take]; omega
    obtain ⟨A', c', rfl, hc1, hc2⟩ := App.form hown (by simp only [maxLen]; omega)
    have hbs := hb.size
    have HO := Lib.hid hown
    have HB := Lib.hid hb
    clear hown hb
    by_cases h1 : k < l.length
    · obtain ⟨b1, o1, rfl, hb1, c1⟩ := HA.out (by intro e; have := bvs_length l; rw [e] at this; simp at this; omega)
      have hbw : b1 < wr.heap.size := by omega
      have d1 := later_cell (w := wr) (p := ⟨b1, o1 + k, none⟩) hbw ((HB.out.cell (p := ⟨b1, o1 + k, none⟩) hb1).trans (c1 k _ (bvs_at l k h1)))
      clear c1
      unfold bv at d1
      have hlx := bv_lt l[k]
      have HS : Hid (text (l.take (k + 1)) = text (l.take k) ++ [digit (l[k].toNat / 16), digit (l[k].toNat % 16)]) := by
        refine Lib.hid ?_
        rw [List.take_succ_eq_append_getElem h1, text_snoc]
      generalize l[k].toNat = n at d1 hlx HS
      have e1 : ∀ w : World, (Instr.index 9 (.string (ByteArray.mk #[48, 49, 50, 51, 52, 53, 54, 55, 56, 57, 97, 98, 99, 100, 101, 102])) (.int .u8 ((n : Int) / 16))).run Try.prog w = .ok (.int .u8 ((digit (n / 16)).toNat : Int)) w := fun w => dig_index (n / 16) (by omega) w
      have e2 : ∀ w : World, (Instr.index 9 (.string (ByteArray.mk #[48, 49, 50, 51, 52, 53, 54, 55, 56, 57, 97, 98, 99, 100, 101, 102])) (.int .u8 ((n : Int) % 16))).run Try.prog w = .ok (.int .u8 ((digit (n % 16)).toNat : Int)) w := fun w => dig_index (n % 16) (by omega) w
      go_wp2
      refine wp_region_N 14 (by kernel_rfl) (by kernel_rfl) (by kernel_rfl) ?_
      simp only [List.take_succ_cons, List.take_zero, List.drop_succ_cons, List.drop_zero]
      refine wpN_quiet 13 (by kernel_rfl) ?_
      simp only [List.take_succ_cons, List.take_zero, List.drop_succ_cons, List.drop_zero]
      repeat (go_big_quiet_step (fail))
      refine wpQuiet_nil ?_
      refine wpN_gen 26 (fun v w => IsB w v [digit (n / 16), digit (n % 16)]) rfl rfl (by kernel_rfl) (by kernel_rfl) (stable_isB _) (fun x => ?_) ?_
      · simp [go_sem, growsTo]
        exact ⟨gr_alloc _ _, isB_new _ _ [digit (n / 16), digit (n % 16)] rfl (by simp [maxLen])⟩
      refine wpN_nil (by kernel_rfl) ?_
      intro W hW
      replace hW := hW.gr
      have hbs2 := hW.size
      intro v22 h22
      obtain ⟨A22, c22, rfl, _, _, hrd⟩ := h22
      unfold finN
      go_wp2_with (at_builtin; refine wpL_app _ _ 22 slT_bytes _ (text (l.take k)).length _ _ 2 _ _ (bvs [digit (n / 16), digit (n % 16)]) rfl rfl rfl rfl (App.gr HO.out hW) (by simp) hrd (by simp [bvs]) (bvs_one _) (by simp only [maxLen]; simp; omega) (by simp; omega) (by omega) ?_; intro A2 c2 w2 hown2 hg2)
      go_roundw
      case rel =>
        refine ⟨k + 1, by omega, by go_num, ?_, ?_⟩
        · refine OwnB.app ?_
          unfold OwnB
          rw [HS.out, bvs_append, List.length_append]
          exact hown2
        · exact (HB.out.trans (hW.mono hbs)).trans hg2
      case measure => simp [intOf]; omega
    · have hc := conv_bytes (HO.out.isB (by simp only [maxLen]; omega))
      have ht : text (l.take k) = text l := by rw [List.take_of_length_le (by omega)]
      rw [ht] at hc ⊢
      clear ht
      go_wp2
      refine bodyPost_ret (results_tmp rfl _ _ _) rfl ?_
      exact ⟨_, rfl, HB.out, rfl⟩
end Go.Proofs.Ytfpigemikpbbhaa
