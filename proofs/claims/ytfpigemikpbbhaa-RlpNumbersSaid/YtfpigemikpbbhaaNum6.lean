/-
  Words as numbers: the reference's Int, IntOf.
  Conditions: none.
-/
import Derived.Test.YtfpigemikpbbhaaNum5
namespace Go.Proofs.Ytfpigemikpbbhaa
set_option linter.unusedVariables false
open Go.RowKit Mono Rlp

def wintV (l : List UInt8) : Value := .tuple #[.int .i64 (((wordInt l).getD 0 : Nat) : Int), .bool (wordInt l).isSome]
theorem wintV_none {l : List UInt8} (h : wordInt l = none) : wintV l = .tuple #[.int .i64 0, .bool false] := by unfold wintV; rw [h]; rfl
theorem wintV_some {l : List UInt8} {n : Nat} (h : wordInt l = some n) : wintV l = .tuple #[.int .i64 (n : Int), .bool true] := by unfold wintV; rw [h]; rfl
theorem i64_join2 (n x : Nat) (hn : n < 2 ^ 55) (hx : x < 256) : bits .or .i64 ((n : Int) * 256) (x : Int) = ((n * 256 + x : Nat) : Int) := by
  have := i64_or_nat (n * 256) x (by omega) (by omega)
  rw [nat_join 8 (n * 256) x (by omega) (by omega)] at this
  rw [← this]
  simp
set_option maxRecDepth 20000 in
set_option maxHeartbeats 1000000 in
theorem ref_Int (l : List UInt8) (hl : l.length = 32) (w : World) : Calls Try.prog 58 #[arrV l] w (Ret (eqV (wintV l)) w) := by
  go_enter Try.func58, Try.ntmps58
  go_wp2_with (guard_target = wpList _ _ _ (Oper.mk _ (Op.box _ _) _ _ _ _ :: _) _ _; refine wpL_box_word w.heap.size rfl (.tmp 0) l rfl rfl rfl ?_; intro w0 hA0 hG0 hs0)
  go_loopw [4] (fun i wr => ∃ k : Nat, k ≤ 24 ∧ i = .int .i64 k ∧ wr = w0 ∧ Hid (∀ j (hj : j < l.length), j < k → l[j] = 0)) (fun i _ => 24 - (intOf i).toNat)
  case atStart => exact ⟨0, by omega, rfl, rfl, Lib.hid (fun j hj h => absurd h (by omega))⟩
  case round =>
    obtain ⟨k, hk, rfl, rfl, HZ⟩ := hrel
    by_cases h1 : k < 24
    · have hc := arr_cell hA0.out k (by omega)
      by_cases hz : l[k] = 0
      · have HZ2 : Hid (∀ j (hj : j < l.length), j < k + 1 → l[j] = 0) := Lib.hid fun j hj h => by
          rcases Nat.lt_succ_iff_lt_or_eq.1 h with h2 | h2
          · exact HZ.out j hj h2
          · subst h2; exact hz
        rw [hz] at hc
        have hc2 : wr.cell? ⟨w.heap.size, k, none⟩ = some (.int .u8 0) := hc
        clear hc hz
        go_wp2_with fail
        go_roundw
        case rel => exact ⟨k + 1, by omega, by go_num, trivial, HZ2⟩
        case measure => simp [intOf]; omega
      · have hn := at_zero l k (by omega)
        rw [decide_eq_false hz] at hn
        have HI := Lib.hid (wintV_none (wordInt_high l hl k h1 hz))
        have hn2 : ((l[k].toNat : Int) != 0) = true := by simp [bne, hn]
        have hl2 := bv_lt l[k]
        generalize l[k].toNat = z at hc hn hn2 hl2
        clear hz
        go_wp2_with fail
        refine bodyPost_ret (results_tmp2 rfl _ _ _) rfl ⟨_, rfl, hG0.out, ?_⟩
        unfold eqV
        rw [HI.out]
        rfl
    · obtain rfl : k = 24 := by omega
      have hc := arr_cell hA0.out 24 (by omega)
      by_cases ht : 128 ≤ l[24].toNat
      · have HI := Lib.hid (wintV_none (wordInt_top l hl HZ.out ht))
        generalize l[24].toNat = z at hc ht
        go_wp2_with fail
        refine bodyPost_ret (results_tmp2 rfl _ _ _) rfl ⟨_, rfl, hG0.out, ?_⟩
        unfold eqV
        rw [HI.out]
        rfl
      · have HW := wordInt_low l hl HZ.out (by omega)
        have HI := Lib.hid (wintV_some HW.1)
        have HLE := Lib.hid HW.2
        have HT : Hid (l[24].toNat < 128) := Lib.hid (by omega)
        have hlt : l[24].toNat < 128 := HT.out
        clear HW
        generalize l[24].toNat = z at hc ht hlt
        go_wp2_with fail
        clear hc
        have hL : (l.drop 24).length = 8 := by rw [List.length_drop, hl]
        obtain ⟨wz, hwz⟩ : ∃ wz : World, wz = wr := ⟨_, rfl⟩
        rw [← hwz] at hA0 hG0 hs0 ⊢
        clear hwz
        go_loopw [5, 6] (fun n i wr => ∃ j : Nat, j ≤ 8 ∧ i = .int .i64 (24 + (j : Int)) ∧ n = .int .i64 (val ((l.drop 24).take j) : Nat) ∧ wr = wz) (fun _ i _ => (32 - intOf i).toNat)
        case atStart => exact ⟨0, by omega, rfl, rfl, rfl⟩
        case round =>
          obtain ⟨j, hj, rfl, rfl, rfl⟩ := hrel
          by_cases h2 : j < 8
          · have hq : val ((l.drop 24).take j) < 2 ^ 55 := by
              have h3 := val_parts (l.drop 24) j (by omega)
              rw [hL] at h3
              have h4 : 256 ^ 1 ≤ 256 ^ (8 - j) := Nat.pow_le_pow_right (by omega) (by omega)
              have h5 : val ((l.drop 24).take j) * 256 ^ 1 ≤ val ((l.drop 24).take j) * 256 ^ (8 - j) := Nat.mul_le_mul_left _ h4
              have h6 := HLE.out
              omega
            have HV := Lib.hid (val_take (l.drop 24) j (by omega))
            have hget : (l.drop 24)[j]'(by omega) = l[24 + j]'(by omega) := by simp
            have hcj := arr_cell hA0.out (24 + j) (by omega)
            rw [hget] at HV
            have hzl := bv_lt (l[24 + j]'(by omega))
            have HJ := Lib.hid (i64_join2 _ _ hq hzl)
            generalize val ((l.drop 24).take j) = q at hq HV HJ
            generalize (l[24 + j]'(by omega)).toNat = z at hcj HV HJ hzl
            clear hget
            go_wp2_with fail
            go_roundw
            case rel =>
              refine ⟨j + 1, by omega, by go_num, ?_, trivial⟩
              rw [HV.out, ← HJ.out]
            case measure => simp [intOf]; omega
          · obtain rfl : j = 8 := by omega
            have HTK : Hid ((l.drop 24).take 8 = l.drop 24) := Lib.hid (List.take_of_length_le (by omega))
            rw [HTK.out]
            clear HTK hL h2
            generalize val (l.drop 24) = q at HI HLE ⊢
            go_wp2_with fail
            refine bodyPost_ret (results_tmp2 rfl _ _ _) rfl ⟨_, rfl, hG0.out, ?_⟩
            unfold eqV
            rw [HI.out]
            rfl
theorem intV_word (x : Raw) : intV x = .tuple #[.int .i64 ((((wordInt ((wordR x).getD zero32)).getD 0 : Nat)) : Int), .bool ((wordR x).isSome && (wordInt ((wordR x).getD zero32)).isSome)] := by
  unfold intV
  rw [intR_word]
  cases wordR x with
  | none =>
    have : wordInt zero32 = some 0 := by unfold wordInt; rw [show val zero32 = 0 by decide]; rfl
    simp [this]
  | some l => simp
set_option maxRecDepth 20000 in
set_option maxHeartbeats 1000000 in
theorem ref_IntOf (v : Value) (x : Raw) (w : World) (h : IsItem w v x) : Calls Try.prog 37 #[v] w (Ret (eqV (intV x)) w) := by
  have HX := Lib.hid h
  obtain ⟨lx, bx, xs⟩ := x
  obtain ⟨vb1, vl1, rfl, ⟨A0, c0, rfl, hc0, hm0, _⟩, A1, c1, rows1, rfl, hc1, hm1, _⟩ := isItem_form h
  unfold maxLen at hm0 hm1
  clear h
  generalize bx.length = n0 at HX hc0 ⊢
  generalize xs.length = n1 at HX hc1 ⊢
  generalize Raw.mk lx bx xs = x at HX ⊢
  have HI := Lib.hid (intV_word x)
  have hl : ((wordR x).getD zero32).length = 32 := by
    cases hw : wordR x with
    | none => exact zero32_length
    | some l => exact wordR_length hw
  have HW : Hid (wordV x = .tuple #[arrV ((wordR x).getD zero32), .bool (wordR x).isSome]) := Lib.hid rfl
  generalize (wordR x).isSome = ok at HI HW
  generalize (wordR x).getD zero32 = l at HI HW hl
  have HL : Hid (wintV l = .tuple #[.int .i64 (((wordInt l).getD 0 : Nat) : Int), .bool (wordInt l).isSome]) := Lib.hid rfl
  generalize (wordInt l).isSome = fine at HI HL
  generalize (wordInt l).getD 0 = n at HI HL
  go_enter Try.func37, Try.ntmps37
  go_wp2_with first
    | (go_at_call 39; refine (ref_WordOf _ x _ (HX.out.gr (gr_alloc w _))).mono ?_; rintro e w2 ⟨v2, rfl, hg2, hv2⟩; rw [eqV, HW.out] at hv2; subst hv2; have HG2 := Lib.hid ((gr_alloc w _).trans hg2); have hs2 := hg2.size; clear hg2)
    | (guard_target = wpList _ _ _ (Oper.mk _ (Op.alloc _) _ _ _ _ :: _) _ _; refine wpL_alloc_word w2.heap.size rfl rfl rfl ?_; intro w3 hA3 hG3 hs3)
    | (guard_target = wpList _ _ _ (Oper.mk _ (Op.store _ _ _) _ _ _ _ :: _) _ _; refine wpList_store_row rfl 36 (.tmp 4) (.tmp 11) rfl w2.heap.size (bvs l).toArray rfl rfl 36 _ hA3.out (arr_info _ hl) (by rw [arr_size _ hl]; rfl) (arr_one _) ?_; have HA4 : Hid (Arr (w3.setRow w2.heap.size (bvs l).toArray) w2.heap.size 36 l) := Lib.hid (arr_setRow hA3.out); have HG4 : Hid (Gr w (w3.setRow w2.heap.size (bvs l).toArray)) := Lib.hid (gr_setRow (HG2.out.trans hG3.out) _ _ HG2.out.size); generalize w3.setRow w2.heap.size (bvs l).toArray = w4 at HA4 HG4 ⊢)
    | (guard_target = wpList _ _ _ (Oper.mk _ (Op.load _ _) _ _ _ _ :: _) _ _; refine wpList_load_row rfl 36 (.tmp 4) rfl w2.heap.size rfl 36 (bvs l).toArray (0, 0) _ HA4.out rfl rfl (arr_info _ hl) ?_)
    | (go_at_call 58; refine (ref_Int l hl _).mono ?_; rintro e w5 ⟨v5, rfl, hg5, hv5⟩; rw [eqV, HL.out] at hv5; subst hv5; have HG5 := Lib.hid (HG4.out.trans hg5); clear hg5)
  all_goals exact bodyPost_ret (results_tmp2 rfl _ _ _) rfl ⟨_, rfl, HG5.out, by unfold eqV; rw [HI.out]; simp_all⟩
end Go.Proofs.Ytfpigemikpbbhaa
