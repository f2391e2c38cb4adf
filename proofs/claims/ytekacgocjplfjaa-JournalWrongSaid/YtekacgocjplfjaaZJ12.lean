/-
  Merged (wip/tools/merge.py): Num6, Cmp, EItem, JPlain, JMem, Push.
  Conditions: none.
-/
import Derived.Test.YtekacgocjplfjaaZJ11
import Derived.Lib.Bytealg
import Derived.Lib.BytesEntry
import Derived.Test.YtekacgocjplfjaaZJ6
import Derived.Test.YtekacgocjplfjaaZJ10
import Derived.Test.YtekacgocjplfjaaZJ7
import Derived.Test.YtekacgocjplfjaaZJ5
import Derived.Deep.MidRow
import Derived.Test.YtekacgocjplfjaaZJ9
/-
  Words as numbers: the reference's Int, IntOf.
  Conditions: none.
-/
namespace Go.Proofs.Ytekacgocjplfjaa
set_option linter.unusedVariables false
open Go.RowKit Mono Rlp

def wintV (l : List UInt8) : Value := .tuple #[.int .i64 (((wordInt l).getD 0 : Nat) : Int), .bool (wordInt l).isSome]
theorem wintV_none {l : List UInt8} (h : wordInt l = none) : wintV l = .tuple #[.int .i64 0, .bool false] := by unfold wintV; rw [h]; rfl
theorem wintV_some {l : List UInt8} {n : Nat} (h : wordInt l = some n) : wintV l = .tuple #[.int .i64 (n : Int), .bool true] := by unfold wintV; rw [h]; rfl
theorem i64_join2 (n x : Nat) (hn : n < 2 ^ 55) (hx : x < 256) : bits .or .i64 ((n : Int) * 256) (x : Int) = ((n * 256 + x : Nat) : Int) := by
  have := i64_or_nat (n * 256) x (by omega) (by omega)
  rw [nat_join 8 (n * 256) x (by omega) (by omega)] at this
  rw [← this]
  simp
set_option maxRecDepth 20000 in
set_option maxHeartbeats 1000000 in
theorem ref_Int (l : List UInt8) (hl : l.length = 32) (w : World) : Calls Try.prog 59 #[arrV l] w (Ret (eqV (wintV l)) w) := by
  go_enter Try.func59, Try.ntmps59
  go_wp2_with (guard_target = wpList _ _ _ (Oper.mk _ (Op.box _ _) _ _ _ _ :: _) _ _; refine wpL_box_word w.heap.size rfl (.tmp 0) l rfl rfl rfl ?_; intro w0 hA0 hG0 hs0)
  go_loopw [4] (fun i wr => ∃ k : Nat, k ≤ 24 ∧ i = .int .i64 k ∧ wr = w0 ∧ Hid (∀ j (hj : j < l.length), j < k → l[j] = 0)) (fun i _ => 24 - (intOf i).toNat)
  case atStart => exact ⟨0, by omega, rfl, rfl, Lib.hid (fun j hj h => absurd h (by omega))⟩
  case round =>
    obtain ⟨k, hk, rfl, rfl, HZ⟩ := hrel
    by_cases h1 : k < 24
    · have hc := arr_cell hA0.out k (by omega)
      by_cases hz : l[k] = 0
      · have HZ2 : Hid (∀ j (hj : j < l.length), j < k + 1 → l[j] = 0) := Lib.hid fun j hj h => by
          rcases Nat.lt_succ_iff_lt_or_eq.1 h with h2 | h2
          · exact HZ.out j hj h2
          · subst h2; exact hz
        rw [hz] at hc
        have hc2 : wr.cell? ⟨w.heap.size, k, none⟩ = some (.int .u8 0) := hc
        clear hc hz
        go_wp2_with fail
        go_roundw
        case rel => exact ⟨k + 1, by omega, by go_num, trivial, HZ2⟩
        case measure => simp [intOf]; omega
      · have hn := at_zero l k (by omega)
        rw [decide_eq_false hz] at hn
        have HI := Lib.hid (wintV_none (wordInt_high l hl k h1 hz))
        have hn2 : ((l[k].toNat : Int) != 0) = true := by simp [bne, hn]
        have hl2 := bv_lt l[k]
        generalize l[k].toNat = z at hc hn hn2 hl2
        clear hz
        go_wp2_with fail
        refine bodyPost_ret (results_tmp2 rfl _ _ _) rfl ⟨_, rfl, hG0.out, ?_⟩
        unfold eqV
        rw [HI.out]
        rfl
    · obtain rfl : k = 24 := by omega
      have hc := arr_cell hA0.out 24 (by omega)
      by_cases ht : 128 ≤ l[24].toNat
      · have HI := Lib.hid (wintV_none (wordInt_top l hl HZ.out ht))
        generalize l[24].toNat = z at hc ht
        go_wp2_with fail
        refine bodyPost_ret (results_tmp2 rfl _ _ _) rfl ⟨_, rfl, hG0.out, ?_⟩
        unfold eqV
        rw [HI.out]
        rfl
      · have HW := wordInt_low l hl HZ.out (by omega)
        have HI := Lib.hid (wintV_some HW.1)
        have HLE := Lib.hid HW.2
        have HT : Hid (l[24].toNat < 128) := Lib.hid (by omega)
        have hlt : l[24].toNat < 128 := HT.out
        clear HW
        generalize l[24].toNat = z at hc ht hlt
        go_wp2_with fail
        clear hc
        have hL : (l.drop 24).length = 8 := by rw [List.length_drop, hl]
        obtain ⟨wz, hwz⟩ : ∃ wz : World, wz = wr := ⟨_, rfl⟩
        rw [← hwz] at hA0 hG0 hs0 ⊢
        clear hwz
        go_loopw [5, 6] (fun n i wr => ∃ j : Nat, j ≤ 8 ∧ i = .int .i64 (24 + (j : Int)) ∧ n = .int .i64 (val ((l.drop 24).take j) : Nat) ∧ wr = wz) (fun _ i _ => (32 - intOf i).toNat)
        case atStart => exact ⟨0, by omega, rfl, rfl, rfl⟩
        case round =>
          obtain ⟨j, hj, rfl, rfl, rfl⟩ := hrel
          by_cases h2 : j < 8
          · have hq : val ((l.drop 24).take j) < 2 ^ 55 := by
              have h3 := val_parts (l.drop 24) j (by omega)
              rw [hL] at h3
              have h4 : 256 ^ 1 ≤ 256 ^ (8 - j) := Nat.pow_le_pow_right (by omega) (by omega)
              have h5 : val ((l.drop 24).take j) * 256 ^ 1 ≤ val ((l.drop 24).take j) * 256 ^ (8 - j) := Nat.mul_le_mul_left _ h4
              have h6 := HLE.out
              omega
            have HV := Lib.hid (val_take (l.drop 24) j (by omega))
            have hget : (l.drop 24)[j]'(by omega) = l[24 + j]'(by omega) := by simp
            have hcj := arr_cell hA0.out (24 + j) (by omega)
            rw [hget] at HV
            have hzl := bv_lt (l[24 + j]'(by omega))
            have HJ := Lib.hid (i64_join2 _ _ hq hzl)
            generalize val ((l.drop 24).take j) = q at hq HV HJ
            generalize (l[24 + j]'(by omega)).toNat = z at hcj HV HJ hzl
            clear hget
            go_wp2_with fail
            go_roundw
            case rel =>
              refine ⟨j + 1, by omega, by go_num, ?_, trivial⟩
              rw [HV.out, ← HJ.out]
            case measure => simp [intOf]; omega
          · obtain rfl : j = 8 := by omega
            have HTK : Hid ((l.drop 24).take 8 = l.drop 24) := Lib.hid (List.take_of_length_le (by omega))
            rw [HTK.out]
            clear HTK hL h2
            generalize val (l.drop 24) = q at HI HLE ⊢
            go_wp2_with fail
            refine bodyPost_ret (results_tmp2 rfl _ _ _) rfl ⟨_, rfl, hG0.out, ?_⟩
            unfold eqV
            rw [HI.out]
            rfl
theorem intV_word (x : Raw) : intV x = .tuple #[.int .i64 ((((wordInt ((wordR x).getD zero32)).getD 0 : Nat)) : Int), .bool ((wordR x).isSome && (wordInt ((wordR x).getD zero32)).isSome)] := by
  unfold intV
  rw [intR_word]
  cases wordR x with
  | none =>
    have : wordInt zero32 = some 0 := by unfold wordInt; rw [show val zero32 = 0 by decide]; rfl
    simp [this]
  | some l => simp
set_option maxRecDepth 20000 in
set_option maxHeartbeats 1000000 in
theorem ref_IntOf (v : Value) (x : Raw) (w : World) (h : IsItem w v x) : Calls Try.prog 47 #[v] w (Ret (eqV (intV x)) w) := by
  have HX := Lib.hid h
  obtain ⟨lx, bx, xs⟩ := x
  obtain ⟨vb1, vl1, rfl, ⟨A0, c0, rfl, hc0, hm0, _⟩, A1, c1, rows1, rfl, hc1, hm1, _⟩ := isItem_form h
  unfold maxLen at hm0 hm1
  clear h
  generalize bx.length = n0 at HX hc0 ⊢
  generalize xs.length = n1 at HX hc1 ⊢
  generalize Raw.mk lx bx xs = x at HX ⊢
  have HI := Lib.hid (intV_word x)
  have hl : ((wordR x).getD zero32).length = 32 := by
    cases hw : wordR x with
    | none => exact zero32_length
    | some l => exact wordR_length hw
  have HW : Hid (wordV x = .tuple #[arrV ((wordR x).getD zero32), .bool (wordR x).isSome]) := Lib.hid rfl
  generalize (wordR x).isSome = ok at HI HW
  generalize (wordR x).getD zero32 = l at HI HW hl
  have HL : Hid (wintV l = .tuple #[.int .i64 (((wordInt l).getD 0 : Nat) : Int), .bool (wordInt l).isSome]) := Lib.hid rfl
  generalize (wordInt l).isSome = fine at HI HL
  generalize (wordInt l).getD 0 = n at HI HL
  go_enter Try.func47, Try.ntmps47
  go_wp2_with first
    | (go_at_call 48; refine (ref_WordOf _ x _ (HX.out.gr (gr_alloc w _))).mono ?_; rintro e w2 ⟨v2, rfl, hg2, hv2⟩; rw [eqV, HW.out] at hv2; subst hv2; have HG2 := Lib.hid ((gr_alloc w _).trans hg2); have hs2 := hg2.size; clear hg2)
    | (guard_target = wpList _ _ _ (Oper.mk _ (Op.alloc _) _ _ _ _ :: _) _ _; refine wpL_alloc_word w2.heap.size rfl rfl rfl ?_; intro w3 hA3 hG3 hs3)
    | (guard_target = wpList _ _ _ (Oper.mk _ (Op.store _ _ _) _ _ _ _ :: _) _ _; refine wpList_store_row rfl 23 (.tmp 4) (.tmp 11) rfl w2.heap.size (bvs l).toArray rfl rfl 23 _ hA3.out (arr_info _ hl) (by rw [arr_size _ hl]; rfl) (arr_one _) ?_; have HA4 : Hid (Arr (w3.setRow w2.heap.size (bvs l).toArray) w2.heap.size 23 l) := Lib.hid (arr_setRow hA3.out); have HG4 : Hid (Gr w (w3.setRow w2.heap.size (bvs l).toArray)) := Lib.hid (gr_setRow (HG2.out.trans hG3.out) _ _ HG2.out.size); generalize w3.setRow w2.heap.size (bvs l).toArray = w4 at HA4 HG4 ⊢)
    | (guard_target = wpList _ _ _ (Oper.mk _ (Op.load _ _) _ _ _ _ :: _) _ _; refine wpList_load_row rfl 23 (.tmp 4) rfl w2.heap.size rfl 23 (bvs l).toArray (0, 0) _ HA4.out rfl rfl (arr_info _ hl) ?_)
    | (go_at_call 59; refine (ref_Int l hl _).mono ?_; rintro e w5 ⟨v5, rfl, hg5, hv5⟩; rw [eqV, HL.out] at hv5; subst hv5; have HG5 := Lib.hid (HG4.out.trans hg5); clear hg5)
  all_goals exact bodyPost_ret (results_tmp2 rfl _ _ _) rfl ⟨_, rfl, HG5.out, by unfold eqV; rw [HI.out]; simp_all⟩
end Go.Proofs.Ytekacgocjplfjaa
/-
  bytes.Compare, trie.Compare, Less: the order of bytes.
  Conditions: none.
-/
namespace Go.Proofs.Ytekacgocjplfjaa
set_option linter.unusedVariables false
open Go.RowKit Mono Rlp

/-- -1, 0, 1: as bytes.Compare tells. -/
abbrev cmpB (l m : List UInt8) : Int := Lib.compareBytes l m
theorem less_cmp : ∀ a b : List UInt8, Op.bytesLess a b = decide (cmpB a b < 0)
  | [], [] => rfl
  | _ :: _, [] => rfl
  | [], _ :: _ => rfl
  | a :: x, b :: y => by
    rw [Op.bytesLess, cmpB, Lib.compareBytes, less_cmp x y]
    by_cases h1 : a < b
    · simp [h1]
    · by_cases h2 : b < a
      · have h3 : ¬ a = b := fun e => by subst e; exact h1 h2
        simp [h1, h2, h3]
      · have h3 : a = b := by
          apply UInt8.toNat_inj.1
          have := UInt8.not_lt.1 h1
          have := UInt8.not_lt.1 h2
          exact Nat.le_antisymm (UInt8.le_iff_toNat_le.1 (UInt8.not_lt.1 h2)) (UInt8.le_iff_toNat_le.1 (UInt8.not_lt.1 h1))
        subst h3
        simp [h1]
theorem cmpB_range : ∀ a b : List UInt8, -1 ≤ cmpB a b ∧ cmpB a b ≤ 1
  | [], [] => by simp [cmpB, Lib.compareBytes]
  | _ :: _, [] => by simp [cmpB, Lib.compareBytes]
  | [], _ :: _ => by simp [cmpB, Lib.compareBytes]
  | a :: x, b :: y => by
    rw [cmpB, Lib.compareBytes]
    split
    · omega
    · split
      · omega
      · exact cmpB_range x y
theorem run_bytesOf {w : World} {v : Value} {l : List UInt8} (h : IsB w v l) : (Extern.Bytes.bytesOf v).run Try.prog w = .ok (bs l) w := by
  obtain ⟨A, c, rfl, h1, h2, hr⟩ := h
  cases A with
  | none =>
    have : l = [] := by
      by_cases hl : bvs l = []
      · simpa [bvs] using hl
      · obtain ⟨b, o, e, _⟩ := hr hl
        cases e
    subst this
    rfl
  | some ad =>
    have := Lib.run_loadBytesX (P := Try.prog) (w := w) (l.map fun x => (x.toNat : Int)) ad .empty fun j x hx => by
      rw [List.getElem?_map] at hx
      obtain ⟨y, hy, rfl⟩ := Option.map_eq_some_iff.1 hx
      obtain ⟨b, o, e, _, hc⟩ := hr (fun e => by have := congrArg List.length e; rw [bvs_length] at this; simp at this; rw [this] at hy; simp at hy)
      injection e with e
      subst e
      rw [add_none]
      exact hc j _ (by simp [bvs, bv, hy])
    rw [List.length_map] at this
    show (Extern.Bytes.loadBytes ad l.length .empty).run Try.prog w = _
    rw [this]
    have h2 : Lib.bytesOf (l.map fun x => (x.toNat : Int)) = l := by
      simp only [Lib.bytesOf, List.map_map]
      refine (List.map_congr_left fun x _ => ?_).trans (List.map_id l)
      simp
    rw [h2]
    simp [bs]
theorem run_compare {w : World} {v u : Value} {l m : List UInt8} (h1 : IsB w v l) (h2 : IsB w u m) : (Extern.BytealgCompare.compare #[v, u]).run Try.prog w = .ok (.int .i64 (cmpB l m)) w := by
  change Sem.run Try.prog (do pure (goInt (Extern.BytealgCompare.cmp (← Extern.Bytes.bytesOf v) (← Extern.Bytes.bytesOf u)))) w = _
  simp only [Sem.run_bind, run_bytesOf h1, run_bytesOf h2, Result.andThen_ok, Sem.run_pure, Lib.cmp_eq]
  rfl
set_option maxRecDepth 20000 in
set_option maxHeartbeats 1000000 in
theorem bytes_Compare (v u : Value) (l m : List UInt8) (w : World) (h1 : IsB w v l) (h2 : IsB w u m) : Calls Try.prog 33 #[v, u] w (Ret (eqV (.int .i64 (cmpB l m))) w) := by
  have hr := run_compare h1 h2
  go_enter Try.func33, Try.ntmps33
  go_wp2_with fail
  rw [run_callFunc_extern Try.func50 (by kernel_rfl) (by kernel_rfl) (by kernel_rfl) (e := Extern.BytealgCompare.compare) (by kernel_rfl), hr]
  simp only [Result.andThen]
  rw [Oper.upon_value]
  go_wp2_with fail
  refine bodyPost_ret (results_tmp rfl _ _ _) rfl ⟨_, rfl, Gr.refl _, ?_⟩
  rfl
theorem isB_word {w : World} {g : Nat} {t : TypeId} {l : List UInt8} (h : Arr w g t l) (hl : l.length = 32) : IsB w (.slice (some ⟨g, 0, none⟩) 32 32) l := by
  have := isB_arr h 0 (Nat.zero_le _) (by simp [hl, maxLen]) 32 (by omega) (by simp [maxLen])
  simpa [hl] using this
theorem slice_word_all (w : World) (g : Nat) : (Instr.sliceAt 23 (.pointer (some ⟨g, 0, none⟩)) none none none).run Try.prog w = .ok (.slice (some ⟨g, 0, none⟩) 32 32) w := by kernel_rfl
set_option maxRecDepth 20000 in
set_option maxHeartbeats 1000000 in
theorem trie_Compare (l m : List UInt8) (hl : l.length = 32) (hm : m.length = 32) (w : World) : Calls Try.prog 34 #[arrV l, arrV m] w (Ret (eqV (.int .i64 (cmpB l m))) w) := by
  go_enter Try.func34, Try.ntmps34
  go_wp2_with first
    | (guard_target = wpList _ _ _ (Oper.mk _ (Op.box _ _) _ _ _ _ :: _) _ _; refine wpL_box_word (w.heap.size + 1) hs0 (.tmp 1) m rfl rfl rfl ?_; intro w1 hA1 hG1 hs1)
    | (guard_target = wpList _ _ _ (Oper.mk _ (Op.box _ _) _ _ _ _ :: _) _ _; refine wpL_box_word w.heap.size rfl (.tmp 0) l rfl rfl rfl ?_; intro w0 hA0 hG0 hs0)
  have HB0 := Lib.hid (isB_word (hA0.out.gr hG1.out) hl)
  have HB1 := Lib.hid (isB_word hA1.out hm)
  have k0 := fun x : Later w1 => slice_word_all x.1 w.heap.size
  have k1 := fun x : Later w1 => slice_word_all x.1 (w.heap.size + 1)
  refine wp_region_N 3 (by kernel_rfl) (by kernel_rfl) (by kernel_rfl) ?_
  simp only [List.take_succ_cons, List.take_zero, List.drop_succ_cons, List.drop_zero]
  refine wpN_quiet 2 (by kernel_rfl) ?_
  simp only [List.take_succ_cons, List.take_zero, List.drop_succ_cons, List.drop_zero]
  repeat (go_big_quiet_step (fail))
  refine wpQuiet_nil ?_
  refine wpN_val (.int .i64 (cmpB l m)) rfl (by kernel_rfl) (by kernel_rfl) (fun xw => growsTo_call (by simp [go_sem]) ((bytes_Compare _ _ l m _ (HB0.out.gr xw.2) (HB1.out.gr xw.2)).mono ?_)) ?_
  · rintro e w' ⟨v, rfl, hg, hv⟩
    exact ⟨_, rfl, hg, hv⟩
  simp only [Act.put, List.setIfInBounds_toArray, List.set_cons_succ, List.set_cons_zero]
  refine wpN_nil (by kernel_rfl) ?_
  intro W hW
  replace hW := hW.gr
  unfold finN
  go_wp2_with fail
  refine bodyPost_ret (results_tmp rfl _ _ _) rfl ⟨_, rfl, (hG0.out.trans hG1.out).trans hW, ?_⟩
  rfl
set_option maxRecDepth 20000 in
set_option maxHeartbeats 1000000 in
theorem ref_Less (l m : List UInt8) (hl : l.length = 32) (hm : m.length = 32) (w : World) : Calls Try.prog 22 #[arrV l, arrV m] w (Ret (eqV (.bool (decide (cmpB l m < 0)))) w) := by
  go_enter Try.func22, Try.ntmps22
  go_wp2_with first
    | (guard_target = wpList _ _ _ (Oper.mk _ (Op.box _ _) _ _ _ _ :: _) _ _; refine wpL_box_word (w.heap.size + 1) hs0 (.tmp 1) m rfl rfl rfl ?_; intro w1 hA1 hG1 hs1)
    | (guard_target = wpList _ _ _ (Oper.mk _ (Op.box _ _) _ _ _ _ :: _) _ _; refine wpL_box_word w.heap.size rfl (.tmp 0) l rfl rfl rfl ?_; intro w0 hA0 hG0 hs0)
  have HB0 := Lib.hid (isB_word (hA0.out.gr hG1.out) hl)
  have HB1 := Lib.hid (isB_word hA1.out hm)
  have k0 := fun x : Later w1 => slice_word_all x.1 w.heap.size
  have k1 := fun x : Later w1 => slice_word_all x.1 (w.heap.size + 1)
  have k2 := conv_later HB0.out
  have k3 := conv_later HB1.out
  refine wp_region_N 5 (by kernel_rfl) (by kernel_rfl) (by kernel_rfl) ?_
  simp only [List.take_succ_cons, List.take_zero, List.drop_succ_cons, List.drop_zero]
  refine wpN_quiet 5 (by kernel_rfl) ?_
  simp only [List.take_succ_cons, List.take_zero, List.drop_succ_cons, List.drop_zero]
  repeat (go_big_quiet_step (fail))
  refine wpQuiet_nil ?_
  refine wpN_nil (by kernel_rfl) ?_
  intro W hW
  replace hW := hW.gr
  unfold finN
  go_wp2_with fail
  refine bodyPost_ret (results_tmp rfl _ _ _) rfl ⟨_, rfl, (hG0.out.trans hG1.out).trans hW, ?_⟩
  show Value.bool _ = Value.bool _
  rw [bs_toList, bs_toList, less_cmp]
end Go.Proofs.Ytekacgocjplfjaa
/-
  Items, slots, changes, diffs as the abstract machine reads them; what the functions of rlp and of the reference yield of them.
  Conditions: none.
-/
namespace Go.Proofs.Ytekacgocjplfjaa
set_option linter.unusedVariables false
open Go.RowKit Mono Rlp
namespace E
mutual
def dItem : Raw → D
  | .mk b bs xs => .tup [.v (.bool b), .bs bs, .sl 3 (dItems xs)]
def dItems : List Raw → List D
  | [] => []
  | x :: xs => dItem x :: dItems xs
end
theorem dItems_map : ∀ xs : List Raw, dItems xs = xs.map dItem
  | [] => rfl
  | x :: xs => by rw [dItems, List.map_cons, dItems_map xs]
theorem dItems_length (xs : List Raw) : (dItems xs).length = xs.length := by rw [dItems_map, List.length_map]
theorem dItems_get (xs : List Raw) (k : Nat) : (dItems xs)[k]? = xs[k]?.map dItem := by rw [dItems_map, List.getElem?_map]
section
variable {ok : Nat → Prop} {w : World}
theorem dItem_size (x : Raw) : (dItem x).size = 3 := by
  obtain ⟨b, bs, xs⟩ := x
  rw [dItem]
  rfl
theorem dItem_agg (x : Raw) : (dItem x).agg = true := by
  obtain ⟨b, bs, xs⟩ := x
  rw [dItem]
  rfl
mutual
theorem reads_item : ∀ (x : Raw) (cs : List Value), Reads ok w (dItem x) cs ↔ ItemAtP ok w x cs
  | .mk b bs xs, cs => by
    rw [dItem, Reads, ItemAtP, ReadsL]
    constructor
    · rintro ⟨c1, c2, rfl, h1, h2⟩
      rw [ReadsL] at h2
      obtain ⟨c3, c4, rfl, h3, h4⟩ := h2
      rw [ReadsL] at h4
      obtain ⟨c5, c6, rfl, h5, h6⟩ := h4
      rw [ReadsL] at h6
      subst h6
      rw [Reads] at h1
      rw [Reads] at h3
      rw [Reads] at h5
      obtain ⟨u, rfl, h3⟩ := h3
      obtain ⟨A, c, rows, rfl, g2, g3, g4, g5, g6⟩ := h5
      rw [h1.2]
      rw [dItems_length] at *
      exact ⟨u, A, c, rows, rfl, h3, g2, g3, g4, g5, (reads_items xs rows).1 g6⟩
    · rintro ⟨vb, A, c, rows, rfl, g1, g2, g3, g4, g5, g6⟩
      refine ⟨[.bool b], [vb, .slice A xs.length c], rfl, by rw [Reads]; exact ⟨rfl, rfl⟩, ?_⟩
      rw [ReadsL]
      refine ⟨[vb], [.slice A xs.length c], rfl, by rw [Reads]; exact ⟨vb, rfl, g1⟩, ?_⟩
      rw [ReadsL]
      refine ⟨[.slice A xs.length c], [], rfl, ?_, by rw [ReadsL]⟩
      rw [Reads, dItems_length]
      exact ⟨A, c, rows, rfl, g2, g3, g4, g5, (reads_items xs rows).2 g6⟩
theorem reads_items : ∀ (xs : List Raw) (rows : List (List Value)), ReadsRows ok w 3 (dItems xs) rows ↔ ItemsAtP ok w xs rows
  | [], rows => by rw [dItems, ReadsRows, ItemsAtP]
  | x :: xs, rows => by
    rw [dItems, ReadsRows, ItemsAtP]
    constructor
    · rintro ⟨r, rest, rfl, h1, h2, h3⟩
      exact ⟨r, rest, rfl, (reads_item x r).1 h2, (reads_items xs rest).1 h3⟩
    · rintro ⟨r, rest, rfl, h2, h3⟩
      have h4 := (reads_item x r).2 h2
      exact ⟨r, rest, rfl, by rw [Reads.len _ _ h4, dItem_size], h4, (reads_items xs rest).2 h3⟩
end
theorem readV_item {x : Raw} {v : Value} : ReadV ok w (dItem x) v ↔ ItemIn ok w v x := by
  rw [readV_agg (dItem_agg x)]
  constructor
  · rintro ⟨cs, h, rfl⟩
    exact ⟨cs, rfl, (reads_item x cs).1 h⟩
  · rintro ⟨cs, rfl, h⟩
    exact ⟨cs, (reads_item x cs).2 h, rfl⟩
theorem one_arg {d : D} {xs : List Value} (h : ReadVs ok w [d] xs) : ∃ v, xs = [v] ∧ ReadV ok w d v := by
  obtain ⟨x, rest, rfl, h1, h2⟩ := h
  cases h2
  exact ⟨x, rfl, h1⟩
theorem two_args {d e : D} {xs : List Value} (h : ReadVs ok w [d, e] xs) : ∃ v u, xs = [v, u] ∧ ReadV ok w d v ∧ ReadV ok w e u := by
  obtain ⟨x, rest, rfl, h1, h2⟩ := h
  obtain ⟨y, rfl, h3⟩ := one_arg h2
  exact ⟨x, y, rfl, h1, h3⟩
theorem isItem_of (hok : ∀ b, ok b → b < w.heap.size) {x : Raw} {v : Value} (h : ReadV ok w (dItem x) v) : IsItem w v x := ItemIn.is (readV_item.1 h) hok
theorem isB_of (hok : ∀ b, ok b → b < w.heap.size) {l : List UInt8} {v : Value} (h : ReadV ok w (.bs l) v) : IsB w v l := by
  obtain ⟨A, c, h1, h2, h3, h4⟩ := bs_ex h
  exact ⟨A, c, h1, h2, h3, fun hn => by
    obtain ⟨b, n, e, hb, hc⟩ := h4 hn
    exact ⟨b, n, e, hok b hb, hc⟩⟩
theorem arrV_of {n : Nat} {l : List UInt8} {v : Value} (h : ReadV ok w (.arr n l) v) : l.length = n ∧ v = arrV l := by
  obtain ⟨cs, h1, rfl⟩ := (readV_agg rfl).1 h
  rw [Reads] at h1
  rw [h1.2]
  exact ⟨h1.1, rfl⟩
theorem arrV_mk {n : Nat} {l : List UInt8} (h : l.length = n) : ReadV ok w (.arr n l) (arrV l) := (readV_agg rfl).2 ⟨bvs l, by rw [Reads]; exact ⟨h, rfl⟩, rfl⟩
/-- Two values, as a call's results. -/
theorem tpl2 {d e : D} {x y : Value} (h1 : ReadV ok w d x) (h2 : ReadV ok w e y) : ReadR ok w (.tpl [d, e]) (.tuple #[x, y]) := ⟨[x, y], rfl, x, [y], rfl, h1, y, [], rfl, h2, rfl⟩
end
/-! ### What functions yield -/
/-- What an item of bytes, or none, and an error are. -/
def packD (o : Option (List UInt8)) : R := match o with
  | some b => .tpl [.bs b, .v (.int .i64 0)]
  | none => .tpl [.v (.slice none 0 0), .v (.int .i64 3)]
def wordD (x : Raw) : R := .tpl [.arr 32 ((wordR x).getD zero32), .v (.bool (wordR x).isSome)]
def intD (x : Raw) : R := .tpl [.v (.int .i64 (((intR x).getD 0 : Nat) : Int)), .v (.bool (intR x).isSome)]
def rdE (b : List UInt8) : Nat := match readR b with | .ok _ => 0 | .error e => e
def rdX (b : List UInt8) : Raw := match readR b with | .ok x => x | .error _ => .mk false [] []
theorem rd_both {B : Nat} {b : List UInt8} {v : Value} {w : World} (h : ReadRV B b v w) : ∃ vi, v = .tuple #[vi, .int .i64 (rdE b : Int)] ∧ ItemIn (fun k => B ≤ k ∧ k < w.heap.size) w vi (rdX b) := by
  unfold ReadRV at h
  unfold rdE rdX
  cases hr : readR b with
  | ok x => rw [hr] at h; exact h
  | error e =>
    rw [hr] at h
    exact ⟨zItem, h, itemIn_bytes (l := []) ⟨none, 0, rfl, Nat.le_refl _, by simp [maxLen], fun hn => absurd rfl hn⟩⟩
def readD (b : List UInt8) : R := .tpl [dItem (rdX b), .v (.int .i64 (rdE b : Int))]
theorem more_new {ok : Nat → Prop} {w w' : World} (b : Nat) (h : w.heap.size ≤ b ∧ b < w'.heap.size) : (ok b ∨ w.heap.size ≤ b) ∧ b < w'.heap.size := ⟨.inr h.1, h.2⟩
theorem word_lenD (x : Raw) : ((wordR x).getD zero32).length = 32 := by
  cases h : wordR x with
  | none => rfl
  | some l =>
    unfold wordR at h
    cases hn : numB x with
    | none => rw [hn] at h; cases h
    | some bs =>
      rw [hn, Option.bind_some] at h
      split at h
      · rename_i hlen
        cases h
        exact pad_length bs hlen
      · cases h
theorem f_Word (x : Raw) : Fn 57 [dItem x] (· = wordD x) := ⟨fun ok w xs hok hr => by
  obtain ⟨v, rfl, h⟩ := one_arg hr
  refine (rlp_Word v x w (isItem_of hok h)).mono ?_
  rintro e w' ⟨_, rfl, hg, rfl⟩
  exact ⟨hg, _, _, rfl, rfl, tpl2 (arrV_mk (word_lenD x)) (v_mk rfl)⟩⟩
theorem f_WordOf (x : Raw) : Fn 48 [dItem x] (· = wordD x) := ⟨fun ok w xs hok hr => by
  obtain ⟨v, rfl, h⟩ := one_arg hr
  refine (ref_WordOf v x w (isItem_of hok h)).mono ?_
  rintro e w' ⟨_, rfl, hg, rfl⟩
  exact ⟨hg, _, _, rfl, rfl, tpl2 (arrV_mk (word_lenD x)) (v_mk rfl)⟩⟩
theorem f_Int (x : Raw) : Fn 56 [dItem x] (· = intD x) := ⟨fun ok w xs hok hr => by
  obtain ⟨v, rfl, h⟩ := one_arg hr
  refine (rlp_Int v x w (isItem_of hok h)).mono ?_
  rintro e w' ⟨_, rfl, hg, rfl⟩
  exact ⟨hg, _, _, rfl, rfl, tpl2 (v_mk rfl) (v_mk rfl)⟩⟩
theorem f_IntOf (x : Raw) : Fn 47 [dItem x] (· = intD x) := ⟨fun ok w xs hok hr => by
  obtain ⟨v, rfl, h⟩ := one_arg hr
  refine (ref_IntOf v x w (isItem_of hok h)).mono ?_
  rintro e w' ⟨_, rfl, hg, rfl⟩
  exact ⟨hg, _, _, rfl, rfl, tpl2 (v_mk rfl) (v_mk rfl)⟩⟩
theorem f_Read (b : List UInt8) : Fn 28 [.bs b] (· = readD b) := ⟨fun ok w xs hok hr => by
  obtain ⟨v, rfl, h⟩ := one_arg hr
  refine (rlp_Read v b w (isB_of hok h)).mono ?_
  rintro e w' ⟨v', rfl, hg, hv⟩
  obtain ⟨vi, rfl, hi⟩ := rd_both hv
  exact ⟨hg, _, _, rfl, rfl, tpl2 (readV_item.2 (ItemIn.mono hi (fun b hb => more_new b hb) fun _ _ => rfl)) (v_mk rfl)⟩⟩
theorem f_ReadRef (b : List UInt8) : Fn 31 [.bs b] (· = readD b) := ⟨fun ok w xs hok hr => by
  obtain ⟨v, rfl, h⟩ := one_arg hr
  refine (ref_Read v b w (isB_of hok h)).mono ?_
  rintro e w' ⟨v', rfl, hg, hv⟩
  obtain ⟨vi, rfl, hi⟩ := rd_both hv
  exact ⟨hg, _, _, rfl, rfl, tpl2 (readV_item.2 (ItemIn.mono hi (fun b hb => more_new b hb) fun _ _ => rfl)) (v_mk rfl)⟩⟩
theorem f_Less (l m : List UInt8) : Fn 22 [.arr 32 l, .arr 32 m] (· = .val (.v (.bool (decide (cmpB l m < 0))))) := ⟨fun ok w xs hok hr => by
  obtain ⟨v, u, rfl, h1, h2⟩ := two_args hr
  obtain ⟨e1, rfl⟩ := arrV_of h1
  obtain ⟨e2, rfl⟩ := arrV_of h2
  refine (ref_Less l m e1 e2 w).mono ?_
  rintro e w' ⟨_, rfl, hg, rfl⟩
  exact ⟨hg, _, _, rfl, rfl, v_mk rfl⟩⟩
end E
end Go.Proofs.Ytekacgocjplfjaa
/-
  Changes as items (plain): what a diff is packed as, which items are diffs.
  Conditions: none. No program is named here.
-/
namespace Go.Proofs.Ytekacgocjplfjaa
set_option linter.unusedVariables false
open Rlp
namespace Jn

structure Sl where
  key : List UInt8
  val : List UInt8
structure Ch where
  addr : List UInt8
  gone : Bool
  nonce : Int
  bal : List UInt8
  code : List UInt8
  slots : List Sl
structure Df where
  id : List UInt8
  par : List UInt8
  chs : List Ch
def Sl.ok (s : Sl) : Prop := s.key.length = 32 ∧ s.val.length = 32
def Ch.ok (c : Ch) : Prop := c.addr.length = 20 ∧ c.bal.length = 32 ∧ -9223372036854775808 ≤ c.nonce ∧ c.nonce ≤ 9223372036854775807 ∧ ∀ s ∈ c.slots, s.ok
def Df.ok (d : Df) : Prop := d.id.length = 32 ∧ d.par.length = 32 ∧ ∀ c ∈ d.chs, c.ok

def bytesI (l : List UInt8) : Raw := .mk false l []
def listI (xs : List Raw) : Raw := .mk true [] xs
def numI (n : Nat) : Raw := bytesI (be n)
def wordI (l : List UInt8) : Raw := bytesI (strip l)
def slotI (s : Sl) : Raw := listI [wordI s.key, wordI s.val]
def chI (c : Ch) : Raw := listI [bytesI c.addr, numI (if c.gone then 1 else 0), numI c.nonce.toNat, wordI c.bal, bytesI c.code, listI (c.slots.map slotI)]
def dfI (d : Df) : Raw := listI [bytesI d.id, bytesI d.par, listI (d.chs.map chI)]

abbrev cmp (l m : List UInt8) : Int := Lib.compareBytes l m
/-- Do the keys rise? -/
def risesS : List Sl → Bool
  | [] => true
  | [_] => true
  | a :: b :: l => decide (cmp a.key b.key < 0) && risesS (b :: l)
def mayC (c : Ch) : Bool := decide (0 ≤ c.nonce) && risesS c.slots
def risesC : List Ch → Bool
  | [] => true
  | [_] => true
  | a :: b :: l => decide (cmp a.addr b.addr < 0) && risesC (b :: l)
def may (l : List Ch) : Bool := l.all mayC && risesC l
/-- The bytes of a diff, or the error. -/
def packD (d : Df) : Except Nat (List UInt8) := if may d.chs then (match packed (dfI d) with | some b => .ok b | none => .error 3) else .error 1

/-! ### Back -/
def isB : Raw → Option (List UInt8)
  | .mk false bs _ => some bs
  | .mk true _ _ => none
def isL : Raw → Option (List Raw)
  | .mk true _ xs => some xs
  | .mk false _ _ => none
def slotR (x : Raw) : Option Sl :=
  match isL x with
  | some [a, b] => match wordR a, wordR b with
    | some k, some v => some ⟨k, v⟩
    | _, _ => none
  | _ => none
def allR {α : Type} (f : Raw → Option α) : List Raw → Option (List α)
  | [] => some []
  | x :: xs => match f x with
    | none => none
    | some y => match allR f xs with
      | none => none
      | some ys => some (y :: ys)
def chR (x : Raw) : Option Ch :=
  match isL x with
  | some [a, g, n, w, c, s] =>
    match isB a, intR g, intR n, wordR w, isB c, isL s with
    | some a, some g, some n, some w, some c, some s => if a.length = 20 ∧ g ≤ 1 then (match allR slotR s with | some ss => some ⟨a, g == 1, n, w, c, ss⟩ | none => none) else none
    | _, _, _, _, _, _ => none
  | _ => none
def dfR (x : Raw) : Option Df :=
  match isL x with
  | some [i, p, l] =>
    match isB i, isB p, isL l with
    | some i, some p, some l => if i.length = 32 ∧ p.length = 32 then (match allR chR l with | some cs => some ⟨i, p, cs⟩ | none => none) else none
    | _, _, _ => none
  | _ => none
/-- The diff of bytes, or the error. -/
def readD (b : List UInt8) : Except Nat Df :=
  match readR b with
  | .error e => .error e
  | .ok x => match dfR x with
    | none => .error 4
    | some d => if may d.chs then .ok d else .error 4

/-! ### An item that is a diff's has the diff's bytes -/
theorem strip_pad (bs : List UInt8) (h : bs.head? ≠ some 0) : strip (pad bs) = bs := by
  unfold pad
  rw [strip_zeros]
  cases bs with
  | nil => rfl
  | cons b l => rw [strip, if_neg (by simpa using h)]
theorem wordR_E {x : Raw} {l : List UInt8} (h : wordR x = some l) : E (wordI l) = E x ∧ ∃ bs xs, x = .mk false bs xs ∧ bs.length ≤ 32 ∧ wordI l = bytesI bs := by
  unfold wordR at h
  cases hn : numB x with
  | none => rw [hn] at h; cases h
  | some bs =>
    have hh := numB_head hn
    rw [hn, Option.bind_some] at h
    split at h
    · rename_i hlen
      cases h
      obtain ⟨b, c, xs⟩ := x
      cases b
      · rw [numB] at hn
        split at hn
        · cases hn
        · cases hn
          unfold wordI
          rw [strip_pad _ hh]
          exact ⟨rfl, _, xs, rfl, hlen, rfl⟩
      · cases hn
    · cases h
theorem intR_E {x : Raw} {n : Nat} (h : intR x = some n) : E (numI n) = E x ∧ n ≤ 9223372036854775807 ∧ ∃ bs xs, x = .mk false bs xs ∧ bs.length ≤ 8 ∧ numI n = bytesI bs := by
  unfold intR at h
  cases hn : numB x with
  | none => rw [hn] at h; cases h
  | some bs =>
    have hh := numB_head hn
    rw [hn, Option.bind_some] at h
    split at h
    · rename_i hlen
      cases h
      obtain ⟨b, c, xs⟩ := x
      cases b
      · rw [numB] at hn
        split at hn
        · cases hn
        · cases hn
          unfold numI
          rw [be_val _ hh]
          exact ⟨rfl, hlen.2, _, xs, rfl, hlen.1, rfl⟩
      · cases hn
    · cases h
theorem isB_E {x : Raw} {l : List UInt8} (h : isB x = some l) : E (bytesI l) = E x ∧ ∃ xs, x = .mk false l xs := by
  obtain ⟨b, c, xs⟩ := x
  cases b
  · cases h; exact ⟨rfl, xs, rfl⟩
  · cases h
theorem isL_E {x : Raw} {l : List Raw} (h : isL x = some l) : ∃ bs, x = .mk true bs l := by
  obtain ⟨b, c, xs⟩ := x
  cases b
  · cases h
  · cases h; exact ⟨c, rfl⟩
theorem E_list (bs : List UInt8) (xs : List Raw) : E (.mk true bs xs) = head (EL xs).length 192 ++ EL xs := by rw [E]
theorem EL_congr {xs ys : List Raw} (h : EL xs = EL ys) (bs cs : List UInt8) : E (.mk true bs xs) = E (.mk true cs ys) := by rw [E_list, E_list, h]
theorem allR_E {α : Type} {f : Raw → Option α} {g : α → Raw} (hf : ∀ x y, f x = some y → E (g y) = E x) : ∀ (xs : List Raw) (ys : List α), allR f xs = some ys → EL (ys.map g) = EL xs
  | [], ys, h => by cases h; rfl
  | x :: xs, ys, h => by
    rw [allR] at h
    cases hx : f x with
    | none => rw [hx] at h; cases h
    | some y =>
      rw [hx] at h
      dsimp only at h
      cases ht : allR f xs with
      | none => rw [ht] at h; cases h
      | some zs =>
        rw [ht] at h
        cases h
        rw [List.map_cons, EL, EL, hf x y hx, allR_E hf xs zs ht]
theorem slotR_E (x : Raw) (s : Sl) (h : slotR x = some s) : E (slotI s) = E x := by
  unfold slotR at h
  split at h
  · rename_i a b hl
    obtain ⟨bs, rfl⟩ := isL_E hl
    split at h
    · rename_i k v hk hv
      cases h
      refine EL_congr ?_ _ _
      simp only [EL]
      rw [(wordR_E hk).1, (wordR_E hv).1]
    · cases h
  · cases h
theorem chR_E (x : Raw) (c : Ch) (h : chR x = some c) : E (chI c) = E x := by
  unfold chR at h
  split at h
  · rename_i a g n w c' s hl
    obtain ⟨bs, rfl⟩ := isL_E hl
    split at h
    · rename_i a2 g2 n2 w2 c2 s2 h1 h2 h3 h4 h5 h6
      split at h
      · rename_i hc
        split at h
        · rename_i ss hss
          cases h
          obtain ⟨bs2, rfl⟩ := isL_E h6
          have hg : E (numI (if (g2 == 1) = true then 1 else 0)) = E g := by
            rw [← (intR_E h2).1]
            have : (if (g2 == 1) = true then 1 else 0) = g2 := by
              have := hc.2
              by_cases e : g2 = 1
              · simp [e]
              · have : g2 = 0 := by omega
                simp [this]
            rw [this]
          have hs : E (listI (ss.map slotI)) = E (.mk true bs2 s2) := EL_congr (allR_E slotR_E s2 ss hss) _ _
          refine EL_congr ?_ _ _
          simp only [EL]
          rw [(isB_E h1).1, hg, show ((n2 : Int)).toNat = n2 from Int.toNat_natCast n2, (intR_E h3).1, (wordR_E h4).1, (isB_E h5).1, hs]
        · cases h
      · cases h
    · cases h
  · cases h
theorem dfR_E (x : Raw) (d : Df) (h : dfR x = some d) : E (dfI d) = E x := by
  unfold dfR at h
  split at h
  · rename_i i p l hl
    obtain ⟨bs, rfl⟩ := isL_E hl
    split at h
    · rename_i i2 p2 l2 h1 h2 h3
      split at h
      · split at h
        · rename_i cs hcs
          cases h
          obtain ⟨bs2, rfl⟩ := isL_E h3
          have hs : E (listI (cs.map chI)) = E (.mk true bs2 l2) := EL_congr (allR_E chR_E l2 cs hcs) _ _
          refine EL_congr ?_ _ _
          simp only [EL]
          rw [(isB_E h1).1, (isB_E h2).1, hs]
        · cases h
      · cases h
    · cases h
  · cases h

/-! ### What is small is packed -/
mutual
theorem packR_ok : ∀ x : Raw, (E x).length ≤ most → packR x = some (E x)
  | .mk false bs xs, h => by
    rw [E] at h ⊢
    rw [packR]
    have h2 : bs.length ≤ (EB bs).length := by unfold EB; split <;> simp
    rw [if_neg (by omega)]
  | .mk true bs xs, h => by
    rw [E_list] at h ⊢
    rw [List.length_append] at h
    rw [packR, packRL_ok xs [] (by simp; omega)]
    rfl
theorem packRL_ok : ∀ (xs : List Raw) (acc : List UInt8), acc.length + (EL xs).length ≤ most → packRL xs acc = some (acc ++ EL xs)
  | [], acc, h => by rw [packRL, EL, List.append_nil]
  | x :: xs, acc, h => by
    rw [EL, List.length_append] at h
    rw [packRL, packR_ok x (by omega), EL]
    dsimp only
    rw [if_neg (by omega), packRL_ok xs (acc ++ E x) (by rw [List.length_append]; omega), List.append_assoc]
end
theorem deep_list (xs : List Raw) (bs : List UInt8) (m k : Nat) (h : ∀ x ∈ xs, deepR x m ≤ k) : deepR (.mk true bs xs) (m + 1) ≤ k + 1 := by
  rw [deepR]
  have := (maxD_le xs m 0 k).2 ⟨Nat.zero_le _, h⟩
  omega
theorem deep_bytes (l : List UInt8) (m k : Nat) : deepR (bytesI l) m ≤ k := by unfold bytesI; rw [deepR]; omega
theorem deep_slot (s : Sl) (m : Nat) : deepR (slotI s) (m + 1) ≤ 1 := by
  refine deep_list _ _ m 0 fun x hx => ?_
  simp at hx
  rcases hx with rfl | rfl <;> exact deep_bytes _ _ _
theorem deep_ch (c : Ch) (m : Nat) : deepR (chI c) (m + 3) ≤ 3 := by
  refine deep_list _ _ (m + 2) 2 fun x hx => ?_
  simp at hx
  rcases hx with rfl | rfl | rfl | rfl | rfl | rfl
  · exact deep_bytes _ _ _
  · exact deep_bytes _ _ _
  · exact deep_bytes _ _ _
  · exact deep_bytes _ _ _
  · exact deep_bytes _ _ _
  · refine deep_list _ _ (m + 1) 1 fun x hx => ?_
    obtain ⟨s, _, rfl⟩ := List.mem_map.1 hx
    exact deep_slot s m
theorem deep_df (d : Df) : deepR (dfI d) 32 ≤ 5 := by
  refine deep_list _ _ 31 4 fun x hx => ?_
  simp at hx
  rcases hx with rfl | rfl | rfl
  · exact deep_bytes _ _ _
  · exact deep_bytes _ _ _
  · refine deep_list _ _ 30 3 fun x hx => ?_
    obtain ⟨c, _, rfl⟩ := List.mem_map.1 hx
    exact deep_ch c 27
theorem packed_df (d : Df) (h : (E (dfI d)).length ≤ most) : packed (dfI d) = some (E (dfI d)) := by
  have := deep_df d
  rw [packed_ref, if_neg (by omega), packR_ok _ h]
  dsimp only
  rw [if_neg (by omega)]
/-- What bytes are as a diff, they are a diff's bytes. -/
theorem packD_of_readD {b : List UInt8} {d : Df} (h : readD b = .ok d) : packD d = .ok b := by
  unfold readD at h
  cases hr : readR b with
  | error e => rw [hr] at h; cases h
  | ok x =>
    rw [hr] at h
    dsimp only at h
    have hb := readR_E hr
    have hlen : b.length ≤ most := by
      unfold readR at hr
      split at hr
      · cases hr
      · omega
    cases hx : dfR x with
    | none => rw [hx] at h; cases h
    | some d' =>
      rw [hx] at h
      dsimp only at h
      split at h
      · rename_i hm
        cases h
        have he := dfR_E x d hx
        unfold packD
        rw [if_pos hm, packed_df d (by rw [he, ← hb]; exact hlen), he, ← hb]
      · cases h

/-! ### A diff's item is the diff's -/
theorem wordR_I {l : List UInt8} (h : l.length = 32) (hp : ∀ l : List UInt8, l.length = 32 → pad (strip l) = l) : wordR (wordI l) = some l := by
  have hl := strip_length l
  unfold wordR wordI bytesI
  rw [numB, if_neg (strip_head l), Option.bind_some, if_pos (by omega), hp l h]
theorem intR_I {n : Nat} (h : n ≤ 9223372036854775807) : intR (numI n) = some n := by
  have hl := be_length 8 n (by omega)
  unfold intR numI bytesI
  rw [numB, if_neg, Option.bind_some, val_be, if_pos ⟨hl, h⟩]
  rcases Nat.eq_zero_or_pos n with h0 | h0
  · subst h0; rw [be_zero]; simp
  · obtain ⟨b, l, e, hb⟩ := be_head n h0
    rw [e]
    simpa using hb
theorem allR_I {α : Type} {f : Raw → Option α} {g : α → Raw} : ∀ (ys : List α), (∀ y ∈ ys, f (g y) = some y) → allR f (ys.map g) = some ys
  | [], _ => rfl
  | y :: ys, h => by
    rw [List.map_cons, allR, h y (by simp)]
    dsimp only
    rw [allR_I ys fun z hz => h z (by simp [hz])]
theorem slotR_I (hp : ∀ l : List UInt8, l.length = 32 → pad (strip l) = l) (s : Sl) (h : s.ok) : slotR (slotI s) = some s := by
  unfold slotR slotI listI isL
  dsimp only
  rw [wordR_I h.1 hp, wordR_I h.2 hp]
theorem chR_I (hp : ∀ l : List UInt8, l.length = 32 → pad (strip l) = l) (c : Ch) (h : c.ok) (hn : 0 ≤ c.nonce) : chR (chI c) = some c := by
  obtain ⟨h1, h2, h3, h4, h5⟩ := h
  unfold chR chI listI isL
  dsimp only
  rw [intR_I (by split <;> omega), intR_I (by omega), wordR_I h2 hp]
  simp only [isB, bytesI]
  rw [allR_I c.slots fun s hs => slotR_I hp s (h5 s hs), if_pos ⟨h1, by split <;> omega⟩]
  dsimp only
  obtain ⟨a, g, n, w, c', ss⟩ := c
  simp only at *
  congr 1
  rw [Int.toNat_of_nonneg hn]
  cases g <;> rfl
theorem dfR_I (hp : ∀ l : List UInt8, l.length = 32 → pad (strip l) = l) (d : Df) (h : d.ok) (hn : ∀ c ∈ d.chs, 0 ≤ c.nonce) : dfR (dfI d) = some d := by
  obtain ⟨h1, h2, h3⟩ := h
  unfold dfR dfI listI isL
  simp only [isB, bytesI]
  rw [if_pos ⟨h1, h2⟩, allR_I d.chs fun c hc => chR_I hp c (h3 c hc) (hn c hc)]
theorem may_nonce {l : List Ch} (h : may l = true) : ∀ c ∈ l, 0 ≤ c.nonce := by
  intro c hc
  unfold may at h
  simp only [Bool.and_eq_true] at h
  have := List.all_eq_true.1 h.1 c hc
  unfold mayC at this
  simp only [Bool.and_eq_true, decide_eq_true_eq] at this
  exact this.1
theorem normL_map {α : Type} (g : α → Raw) (hg : ∀ y, norm (g y) = g y) : ∀ ys : List α, normL (ys.map g) = ys.map g
  | [] => by rw [List.map_nil, normL]
  | y :: ys => by rw [List.map_cons, normL, hg y, normL_map g hg ys]
theorem norm_slot (s : Sl) : norm (slotI s) = slotI s := by simp [slotI, listI, wordI, bytesI, norm, normL]
theorem norm_ch (c : Ch) : norm (chI c) = chI c := by
  simp only [chI, listI, wordI, bytesI, numI, norm, normL]
  rw [normL_map slotI norm_slot]
theorem norm_df (d : Df) : norm (dfI d) = dfI d := by
  simp only [dfI, listI, bytesI, norm, normL]
  rw [normL_map chI norm_ch]
/-- What a diff is packed as is read as it. -/
theorem readD_of_packD (hp : ∀ l : List UInt8, l.length = 32 → pad (strip l) = l) {d : Df} {b : List UInt8} (hd : d.ok) (h : packD d = .ok b) : readD b = .ok d := by
  unfold packD at h
  split at h
  · rename_i hm
    cases hk : packed (dfI d) with
    | none => rw [hk] at h; cases h
    | some c =>
      rw [hk] at h
      cases h
      have hr := readR_of hk
      rw [norm_df] at hr
      unfold readD
      rw [hr]
      dsimp only
      rw [dfR_I hp d hd (may_nonce hm)]
      dsimp only
      rw [if_pos hm]
  · cases h
end Jn
end Go.Proofs.Ytekacgocjplfjaa
/-
  Slots, changes, diffs in memory.
  Conditions: none.
-/
namespace Go.Proofs.Ytekacgocjplfjaa
set_option linter.unusedVariables false
open Go.RowKit Mono Rlp Jn

/-! ### Ranges -/
theorem range_app {w : World} {b o : Nat} {xs ys : List Value} (h : w.rangeAt b o (xs ++ ys)) : w.rangeAt b o xs ∧ w.rangeAt b (o + xs.length) ys := by
  refine ⟨fun j v hv => h j v (by rw [List.getElem?_append_left ((List.getElem?_eq_some_iff.1 hv).1)]; exact hv), fun j v hv => ?_⟩
  rw [Nat.add_assoc]
  exact h (xs.length + j) v (by rw [List.getElem?_append_right (by omega), Nat.add_sub_cancel_left]; exact hv)
theorem range_one {w : World} {b o : Nat} {v : Value} {ys : List Value} (h : w.rangeAt b o (v :: ys)) : w.cell? ⟨b, o, none⟩ = some v ∧ w.rangeAt b (o + 1) ys :=
  ⟨by simpa using h 0 v rfl, fun j u hu => by have := h (j + 1) u (by simpa using hu); rwa [show o + (j + 1) = o + 1 + j by omega] at this⟩
theorem range_gr {w w' : World} {b o : Nat} {cs : List Value} (h : w.rangeAt b o cs) (hg : Gr w w') (hb : b < w.heap.size) : w'.rangeAt b o cs := fun j v hv => (hg.cell (p := ⟨b, o + j, none⟩) hb).trans (h j v hv)
theorem range_row {w : World} {g : Nat} {cs : List Value} {t : TypeId} (h : w.heap[g]? = some (.cells cs.toArray t (0, 0))) : w.rangeAt g 0 cs := fun j v hv => by
  rw [Nat.zero_add, cell_of_row w g j _ t (0, 0) h]
  simpa using hv
theorem isB_range {w : World} {b o n : Nat} {l : List UInt8} (h : w.rangeAt b o (bvs l)) (hb : b < w.heap.size) (hl : l.length = n) (hm : n ≤ maxLen) : IsB w (.slice (some ⟨b, o, none⟩) n n) l := by
  subst hl
  exact ⟨_, _, rfl, Nat.le_refl _, hm, fun _ => ⟨b, o, rfl, hb, fun j u hu => h j u hu⟩⟩
theorem word_size (l : List UInt8) (hl : l.length = 32) : (Try.prog.info? 23).map (·.size) = some (bvs l).length := by
  rw [bvs_length, hl]
  kernel_rfl
theorem growsTo_load_range {w : World} {b o : Nat} {l : List UInt8} (h : w.rangeAt b o (bvs l)) (hl : l.length = 32) {op : Oper} {a : Act} {x : Operand} (ho : op.op = .load 23 x) (hx : a.eval x = .pointer (some ⟨b, o, none⟩)) :
    growsTo Try.prog (eqV (arrV l)) w ((execOp a.eval op).run Try.prog w) := by
  have hr := run_loadAt_mid (P := Try.prog) w b o 23 (bvs l) _ h Try.underlying23 rfl (word_size l hl)
  unfold execOp
  simp only [ho, hx, Sem.run_bind, Sem.run_pure, Result.andThen_ok, hr]
  exact ⟨Gr.refl w, rfl⟩
theorem flat_range {ok : Nat → Prop} {w : World} {A : Option Addr} {n k : Nat} {rows : List (List Value)} {r : List Value} (hn : ∀ r ∈ rows, r.length = n) (hk : rows[k]? = some r) (hr : RdP ok w A rows.flatten) (h0 : r ≠ []) :
    ∃ bl o, A = some ⟨bl, o, none⟩ ∧ ok bl ∧ w.rangeAt bl (o + k * n) r := by
  have hget : ∀ (rows : List (List Value)) (k : Nat), (∀ r ∈ rows, r.length = n) → rows[k]? = some r → ∀ j v, r[j]? = some v → rows.flatten[k * n + j]? = some v := by
    intro rows
    induction rows with
    | nil => intro k _ hk; simp at hk
    | cons x xs ih =>
      intro k hn hk j v hv
      rw [List.flatten_cons]
      cases k with
      | zero =>
        simp at hk
        subst hk
        rw [Nat.zero_mul, Nat.zero_add, List.getElem?_append_left ((List.getElem?_eq_some_iff.1 hv).1)]
        exact hv
      | succ k =>
        have hx := hn x (by simp)
        rw [Nat.add_mul, Nat.one_mul, List.getElem?_append_right (by omega), hx, show k * n + n + j - n = k * n + j by omega]
        exact ih k (fun r hr => hn r (by simp [hr])) (by simpa using hk) j v hv
  obtain ⟨v0, r', rfl⟩ := List.exists_cons_of_ne_nil h0
  have h1 := hget rows k hn hk 0 v0 rfl
  obtain ⟨bl, o, e, hb, hc⟩ := hr (fun e => by rw [e] at h1; simp at h1)
  exact ⟨bl, o, e, hb, fun j v hv => by rw [Nat.add_assoc]; exact hc _ v (hget rows k hn hk j v hv)⟩

/-! ### What they look like -/
def slC (s : Sl) : List Value := bvs s.key ++ bvs s.val
def chC (c : Ch) (vc vs : Value) : List Value := bvs c.addr ++ ([.bool c.gone, .int .i64 c.nonce] ++ (bvs c.bal ++ [vc, vs]))
def dfC (d : Df) (vl : Value) : List Value := bvs d.id ++ (bvs d.par ++ [vl])
theorem slC_length {s : Sl} (h : s.ok) : (slC s).length = 64 := by simp [slC, bvs, h.1, h.2]
theorem chC_length {c : Ch} (h : c.ok) (vc vs : Value) : (chC c vc vs).length = 56 := by simp [chC, bvs, h.1, h.2.1]
theorem dfC_length {d : Df} (h : d.ok) (vl : Value) : (dfC d vl).length = 65 := by simp [dfC, bvs, h.1, h.2.1]
def IsSlP (ok : Nat → Prop) (w : World) (v : Value) (ss : List Sl) : Prop := ∃ A c, v = .slice A ss.length c ∧ ss.length ≤ c ∧ c ≤ maxLen ∧ RdP ok w A (ss.map slC).flatten ∧ ∀ s ∈ ss, s.ok
def ChAtP (ok : Nat → Prop) (w : World) (c : Ch) (cs : List Value) : Prop := ∃ vc vs, cs = chC c vc vs ∧ IsBP ok w vc c.code ∧ IsSlP ok w vs c.slots ∧ c.ok
def ChsAtP (ok : Nat → Prop) (w : World) : List Ch → List (List Value) → Prop
  | [], rows => rows = []
  | c :: l, rows => ∃ r rest, rows = r :: rest ∧ ChAtP ok w c r ∧ ChsAtP ok w l rest
def IsChsP (ok : Nat → Prop) (w : World) (v : Value) (l : List Ch) : Prop := ∃ A c rows, v = .slice A l.length c ∧ l.length ≤ c ∧ c ≤ maxLen ∧ RdP ok w A rows.flatten ∧ ChsAtP ok w l rows
abbrev IsSl (w : World) := IsSlP (fun b => b < w.heap.size) w
abbrev IsChs (w : World) := IsChsP (fun b => b < w.heap.size) w
def IsDf (w : World) (v : Value) (d : Df) : Prop := ∃ vl, v = .agg (dfC d vl).toArray ∧ IsChs w vl d.chs ∧ d.ok
section
variable {ok ok' : Nat → Prop} {w w' : World}
theorem IsSlP.mono {v : Value} {ss : List Sl} (h : IsSlP ok w v ss) (h1 : ∀ b, ok b → ok' b) (h2 : ∀ p : Addr, ok p.block → w'.cell? p = w.cell? p) : IsSlP ok' w' v ss := by
  obtain ⟨A, c, g1, g2, g3, g4, g5⟩ := h
  exact ⟨A, c, g1, g2, g3, g4.mono h1 h2, g5⟩
theorem ChAtP.mono {c : Ch} {cs : List Value} (h : ChAtP ok w c cs) (h1 : ∀ b, ok b → ok' b) (h2 : ∀ p : Addr, ok p.block → w'.cell? p = w.cell? p) : ChAtP ok' w' c cs := by
  obtain ⟨vc, vs, g1, g2, g3, g4⟩ := h
  exact ⟨vc, vs, g1, g2.mono h1 h2, g3.mono h1 h2, g4⟩
theorem ChsAtP.mono (h1 : ∀ b, ok b → ok' b) (h2 : ∀ p : Addr, ok p.block → w'.cell? p = w.cell? p) : ∀ (l : List Ch) (rows : List (List Value)), ChsAtP ok w l rows → ChsAtP ok' w' l rows
  | [], _, h => h
  | _ :: l, _, h => by
    obtain ⟨r, rest, g1, g2, g3⟩ := h
    exact ⟨r, rest, g1, g2.mono h1 h2, ChsAtP.mono h1 h2 l rest g3⟩
theorem IsChsP.mono {v : Value} {l : List Ch} (h : IsChsP ok w v l) (h1 : ∀ b, ok b → ok' b) (h2 : ∀ p : Addr, ok p.block → w'.cell? p = w.cell? p) : IsChsP ok' w' v l := by
  obtain ⟨A, c, rows, g1, g2, g3, g4, g5⟩ := h
  exact ⟨A, c, rows, g1, g2, g3, g4.mono h1 h2, g5.mono h1 h2⟩
theorem IsSl.gr {v : Value} {ss : List Sl} (h : IsSl w v ss) (hg : Gr w w') : IsSl w' v ss := h.mono (fun b hb => Nat.lt_of_lt_of_le hb hg.size) fun p hp => hg.cell hp
theorem IsChs.gr {v : Value} {l : List Ch} (h : IsChs w v l) (hg : Gr w w') : IsChs w' v l := h.mono (fun b hb => Nat.lt_of_lt_of_le hb hg.size) fun p hp => hg.cell hp
theorem IsDf.gr {v : Value} {d : Df} (h : IsDf w v d) (hg : Gr w w') : IsDf w' v d := by
  obtain ⟨vl, g1, g2, g3⟩ := h
  exact ⟨vl, g1, IsChs.gr g2 hg, g3⟩
theorem IsSlP.form {v : Value} {ss : List Sl} (h : IsSlP ok w v ss) : ∃ A c, v = .slice A ss.length c ∧ ss.length ≤ c ∧ c ≤ maxLen := by
  obtain ⟨A, c, g1, g2, g3, _⟩ := h
  exact ⟨A, c, g1, g2, g3⟩
theorem IsChsP.form {v : Value} {l : List Ch} (h : IsChsP ok w v l) : ∃ A c, v = .slice A l.length c ∧ l.length ≤ c ∧ c ≤ maxLen := by
  obtain ⟨A, c, _, g1, g2, g3, _⟩ := h
  exact ⟨A, c, g1, g2, g3⟩
theorem ChsAtP.rows : ∀ (l : List Ch) (rows : List (List Value)), ChsAtP ok w l rows → (∀ r ∈ rows, r.length = 56) ∧ rows.length = l.length ∧ ∀ k (hk : k < l.length), ∃ r, rows[k]? = some r ∧ ChAtP ok w l[k] r
  | [], rows, h => by
    obtain rfl : rows = [] := h
    exact ⟨by simp, rfl, fun k hk => absurd hk (by simp)⟩
  | c :: l, rows, h => by
    obtain ⟨r, rest, rfl, g2, g3⟩ := h
    obtain ⟨h1, h2, h3⟩ := ChsAtP.rows l rest g3
    refine ⟨fun x hx => ?_, by simp [h2], fun k hk => ?_⟩
    · rcases List.mem_cons.1 hx with rfl | hx
      · obtain ⟨vc, vs, rfl, _, _, hok⟩ := g2
        exact chC_length hok vc vs
      · exact h1 x hx
    · cases k with
      | zero => exact ⟨r, rfl, g2⟩
      | succ k => exact h3 k (by simpa using hk)
theorem ChsAtP.oks : ∀ (l : List Ch) (rows : List (List Value)), ChsAtP ok w l rows → ∀ c ∈ l, c.ok
  | [], _, _, c, hc => absurd hc (by simp)
  | x :: l, _, h, c, hc => by
    obtain ⟨r, rest, _, ⟨_, _, _, _, _, hx⟩, g3⟩ := h
    rcases List.mem_cons.1 hc with rfl | hc
    · exact hx
    · exact ChsAtP.oks l rest g3 c hc
/-- The cells of a slice's k-th change. -/
theorem IsChsP.at {A : Option Addr} {n c : Nat} {l : List Ch} (h : IsChsP ok w (.slice A n c) l) (k : Nat) (hk : k < l.length) :
    ∃ bl o vc vs, A = some ⟨bl, o, none⟩ ∧ ok bl ∧ w.rangeAt bl (o + k * 56) (chC l[k] vc vs) ∧ IsBP ok w vc l[k].code ∧ IsSlP ok w vs l[k].slots ∧ l[k].ok := by
  obtain ⟨A', c', rows, e, g2, g3, g4, g5⟩ := h
  injection e with e1 e2 e3
  subst e1
  obtain ⟨h1, h2, h3⟩ := ChsAtP.rows l rows g5
  obtain ⟨r, hr, vc, vs, rfl, hb, hs, hok⟩ := h3 k hk
  obtain ⟨bl, o, e, hb2, hrg⟩ := flat_range h1 hr g4 (fun e => by have := congrArg List.length e; rw [chC_length hok] at this; simp at this)
  exact ⟨bl, o, vc, vs, e, hb2, hrg, hb, hs, hok⟩
theorem IsSlP.at {A : Option Addr} {n c : Nat} {ss : List Sl} (h : IsSlP ok w (.slice A n c) ss) (k : Nat) (hk : k < ss.length) :
    ∃ bl o, A = some ⟨bl, o, none⟩ ∧ ok bl ∧ w.rangeAt bl (o + k * 64) (slC ss[k]) ∧ ss[k].ok := by
  obtain ⟨A', c', e, g2, g3, g4, g5⟩ := h
  injection e with e1 e2 e3
  subst e1
  have hok := g5 _ (List.getElem_mem hk)
  obtain ⟨bl, o, e, hb2, hrg⟩ := flat_range (n := 64) (k := k) (r := slC ss[k]) (fun r hr => by
    obtain ⟨s, hs, rfl⟩ := List.mem_map.1 hr
    exact slC_length (g5 s hs)) (by simp [hk]) g4 (fun e => by have := congrArg List.length e; rw [slC_length hok] at this; simp at this)
  exact ⟨bl, o, e, hb2, hrg, hok⟩
/-- A change's fields, cell by cell. -/
theorem ch_parts {b o : Nat} {c : Ch} {vc vs : Value} (h : w.rangeAt b o (chC c vc vs)) (hc : c.ok) :
    w.rangeAt b o (bvs c.addr) ∧ w.cell? ⟨b, o + 20, none⟩ = some (.bool c.gone) ∧ w.cell? ⟨b, o + 21, none⟩ = some (.int .i64 c.nonce) ∧ w.rangeAt b (o + 22) (bvs c.bal) ∧
      w.cell? ⟨b, o + 54, none⟩ = some vc ∧ w.cell? ⟨b, o + 55, none⟩ = some vs := by
  obtain ⟨h1, h2⟩ := range_app h
  rw [bvs_length, hc.1] at h2
  obtain ⟨h3, h4⟩ := range_app h2
  obtain ⟨h5, h6⟩ := range_one h3
  obtain ⟨h7, _⟩ := range_one h6
  simp only [List.length_cons, List.length_nil] at h4
  obtain ⟨h8, h9⟩ := range_app h4
  rw [bvs_length, hc.2.1] at h9
  obtain ⟨h10, h11⟩ := range_one h9
  obtain ⟨h12, _⟩ := range_one h11
  exact ⟨h1, h5, h7, h8, h10, h12⟩
theorem sl_parts {b o : Nat} {s : Sl} (h : w.rangeAt b o (slC s)) (hs : s.ok) : w.rangeAt b o (bvs s.key) ∧ w.rangeAt b (o + 32) (bvs s.val) := by
  obtain ⟨h1, h2⟩ := range_app h
  rw [bvs_length, hs.1] at h2
  exact ⟨h1, h2⟩
theorem df_parts {b o : Nat} {d : Df} {vl : Value} (h : w.rangeAt b o (dfC d vl)) (hd : d.ok) : w.rangeAt b o (bvs d.id) ∧ w.rangeAt b (o + 32) (bvs d.par) ∧ w.cell? ⟨b, o + 64, none⟩ = some vl := by
  obtain ⟨h1, h2⟩ := range_app h
  rw [bvs_length, hd.1] at h2
  obtain ⟨h3, h4⟩ := range_app h2
  rw [bvs_length, hd.2.1] at h4
  exact ⟨h1, h3, (range_one h4).1⟩
theorem chC_one {c : Ch} {vc vs : Value} (h1 : vc.oneCell' = true) (h2 : vs.oneCell' = true) : ∀ u ∈ chC c vc vs, u.oneCell' = true := by
  intro u hu
  simp only [chC, List.mem_append, List.mem_cons, List.not_mem_nil, or_false] at hu
  rcases hu with hu | (rfl | rfl) | hu | rfl | rfl
  · exact bvs_one _ u hu
  · rfl
  · rfl
  · exact bvs_one _ u hu
  · exact h1
  · exact h2
theorem slC_one (s : Sl) : ∀ u ∈ slC s, u.oneCell' = true := by
  intro u hu
  rcases List.mem_append.1 hu with hu | hu <;> exact bvs_one _ u hu
end
/-! ### Variables -/
/-- A new variable of a type whose zero is known. -/
theorem wpL_alloc_of {w : World} {ops : Array Oper} {rest : List Oper} {o : Oper} {a : Act} {Q : Exit → Act → World → Prop} {t : TypeId} {cs : Array Value} (hr : ∀ w : World, (Instr.alloc t true (.tuple #[])).run Try.prog w = .ok (.pointer (some ⟨w.heap.size, 0, none⟩)) (w.alloc (.cells cs t)))
    (g : Nat) (hg : w.heap.size = g) (hgd : o.guard = none) (ho : o.op = .alloc t)
    (h : ∀ w', Hid (w'.heap[g]? = some (.cells cs t (0, 0))) → Hid (Gr w w') → w'.heap.size = g + 1 → wpList Try.prog ops Q rest (a.put o.dst (.pointer (some ⟨g, 0, none⟩))) w') : wpList Try.prog ops Q (o :: rest) a w := by
  subst hg
  refine wpList_plain hgd fun _ hK => ?_
  have h1 := hK _ _ (h _ (Lib.hid (heap_alloc_new w _)) (Lib.hid (gr_alloc w _)) (by simp))
  unfold Oper.wp execOp
  simp only [ho, Sem.run_bind, hr, Result.andThen_ok, Sem.run_pure]
  exact h1
/-- A parameter that lies in memory. -/
theorem wpL_box_of {w : World} {ops : Array Oper} {rest : List Oper} {o : Oper} {a : Act} {Q : Exit → Act → World → Prop} {t : TypeId} {cs : Array Value} {v : Value} (hr : ∀ w : World, (Instr.box t v).run Try.prog w = .ok (.pointer (some ⟨w.heap.size, 0, none⟩)) (w.alloc (.cells cs t)))
    (g : Nat) (hg : w.heap.size = g) (x : Operand) (hgd : o.guard = none) (ho : o.op = .box t x) (hx : a.eval x = v)
    (h : ∀ w', Hid (w'.heap[g]? = some (.cells cs t (0, 0))) → Hid (Gr w w') → w'.heap.size = g + 1 → wpList Try.prog ops Q rest (a.put o.dst (.pointer (some ⟨g, 0, none⟩))) w') : wpList Try.prog ops Q (o :: rest) a w := by
  subst hg
  refine wpList_plain hgd fun _ hK => ?_
  have h1 := hK _ _ (h _ (Lib.hid (heap_alloc_new w _)) (Lib.hid (gr_alloc w _)) (by simp))
  unfold Oper.wp execOp
  simp only [ho, hx, Sem.run_bind, hr, Result.andThen_ok, Sem.run_pure]
  exact h1
def zeroS : Sl := ⟨zero32, zero32⟩
def zeroC : Ch := ⟨List.replicate 20 0, false, 0, zero32, [], []⟩
def zeroD : Df := ⟨zero32, zero32, []⟩
def nilV : Value := .slice none 0 0
set_option maxRecDepth 100000 in
theorem alloc_slot (w : World) : (Instr.alloc 48 true (.tuple #[])).run Try.prog w = .ok (.pointer (some ⟨w.heap.size, 0, none⟩)) (w.alloc (.cells (slC zeroS).toArray 48)) := by kernel_rfl
set_option maxRecDepth 100000 in
theorem alloc_change (w : World) : (Instr.alloc 51 true (.tuple #[])).run Try.prog w = .ok (.pointer (some ⟨w.heap.size, 0, none⟩)) (w.alloc (.cells (chC zeroC nilV nilV).toArray 51)) := by kernel_rfl
set_option maxRecDepth 100000 in
theorem alloc_diff (w : World) : (Instr.alloc 26 true (.tuple #[])).run Try.prog w = .ok (.pointer (some ⟨w.heap.size, 0, none⟩)) (w.alloc (.cells (dfC zeroD nilV).toArray 26)) := by kernel_rfl
theorem box_of (t : TypeId) (cs : Array Value) (w : World) : (Instr.box t (.agg cs)).run Try.prog w = .ok (.pointer (some ⟨w.heap.size, 0, none⟩)) (w.alloc (.cells cs t)) := by kernel_rfl
end Go.Proofs.Ytekacgocjplfjaa
/-
  An item's list that grows by one.
  Conditions: none.
-/
namespace Go.Proofs.Ytekacgocjplfjaa
set_option linter.unusedVariables false
open Go.RowKit Mono Rlp

/-- A list in a struct's third cell grows by one item: 'l.List = append(l.List, x)'. -/
theorem items_push {g B : Nat} {w0 wr w1 wB w5 : World} {done : List Raw} {x : Raw} {A' A5 : Option Addr} {c' c5 : Nat} {rows : List (List Value)} {r : List Value} (hgB0 : g < B) (hw0 : w0.heap.size ≤ g) (hsz : B ≤ wr.heap.size) (hg1 : Gr wr w1) (hgB : Gr w1 wB)
    (hown : wr.ownsRow B 56 3 (.slice A' done.length c') done.length rows.flatten) (hit : ItemsAtP (okL B g (.slice A' done.length c') wr.heap.size) wr done rows)
    (hix : ItemAtP (fun k => wr.heap.size ≤ k ∧ k < w1.heap.size) w1 x r) (hg5 : wB.grownBy w5 (Value.slice A' done.length c').ownBlock)
    (hown5 : w5.ownsRow B 56 3 (.slice A5 (done.length + 1) c5) (done.length + 1) (rows.flatten ++ r))
    (hbk5 : (Value.slice A5 (done.length + 1) c5).ownBlock = (Value.slice A' done.length c').ownBlock ∨ (Value.slice A5 (done.length + 1) c5).ownBlock = some wB.heap.size)
    (hrow : wr.heap[g]? = some (.cells #[.bool true, .slice none 0 0, .slice A' done.length c'] 56 (0, 0))) (hb : Gr w0 wr) :
    (w5.setCell ⟨g, 2, none⟩ (.slice A5 (done.length + 1) c5)).heap[g]? = some (.cells #[.bool true, .slice none 0 0, .slice A5 (done.length + 1) c5] 56 (0, 0)) ∧
    (w5.setCell ⟨g, 2, none⟩ (.slice A5 (done.length + 1) c5)).ownsRow B 56 3 (.slice A5 (done.length + 1) c5) (done.length + 1) (rows ++ [r]).flatten ∧
    ItemsAtP (okL B g (.slice A5 (done.length + 1) c5) (w5.setCell ⟨g, 2, none⟩ (.slice A5 (done.length + 1) c5)).heap.size) (w5.setCell ⟨g, 2, none⟩ (.slice A5 (done.length + 1) c5)) (done ++ [x]) (rows ++ [r]) ∧
    B ≤ (w5.setCell ⟨g, 2, none⟩ (.slice A5 (done.length + 1) c5)).heap.size ∧
    Gr w0 (w5.setCell ⟨g, 2, none⟩ (.slice A5 (done.length + 1) c5)) ∧
    (∀ j, j < wr.heap.size → j ≠ g → (Value.slice A' done.length c').ownBlock ≠ some j → (w5.setCell ⟨g, 2, none⟩ (.slice A5 (done.length + 1) c5)).heap[j]? = wr.heap[j]?) := by
  have hs1 := hg1.size
  have hsB := hgB.size
  have hs5 := hg5.size
  have hgs := lt_of_some hrow
  have hnb : (Value.slice A5 (done.length + 1) c5).ownBlock ≠ some g := fun e => by
    have := own_block_ge hown5 _ e
    omega
  have hnb' : (Value.slice A' done.length c').ownBlock ≠ some g := fun e => by
    have := own_block_ge hown _ e
    omega
  have ho5 : w5.heap[g]? = some (.cells #[.bool true, .slice none 0 0, .slice A' done.length c'] 56 (0, 0)) := by
    rw [hg5.block g (by omega) (fun e => hnb' e.symm), hgB.block g (by omega), hg1.block g hgs, hrow]
  have hblk : ∀ j, j < w1.heap.size → j ≠ g → (Value.slice A' done.length c').ownBlock ≠ some j → (w5.setCell ⟨g, 2, none⟩ (.slice A5 (done.length + 1) c5)).heap[j]? = w1.heap[j]? := fun j h1 h2 h3 => by
    rw [Below.heap_setCell _ _ _ _ h2, hg5.block j (by omega) (fun e => h3 e.symm), hgB.block j h1]
  have hcell : ∀ p : Addr, p.block < w1.heap.size → p.block ≠ g → (Value.slice A' done.length c').ownBlock ≠ some p.block → (w5.setCell ⟨g, 2, none⟩ (.slice A5 (done.length + 1) c5)).cell? p = w1.cell? p := fun p h1 h2 h3 => World.cell?_of_block (hblk p.block h1 h2 h3)
  have hsz5 : (w5.setCell ⟨g, 2, none⟩ (.slice A5 (done.length + 1) c5)).heap.size = w5.heap.size := by simp
  rw [hsz5]
  refine ⟨heap_setCell_same w5 g 2 _ _ _ ho5, ?_, ?_, by omega, ?_, ?_⟩
  · rw [List.flatten_append]
    simp only [List.flatten_cons, List.flatten_nil, List.append_nil]
    exact own_far hown5 hnb _
  · refine ItemsAtP.append done [x] rows [r] (ItemsAtP.mono (fun k hk => ?_) (fun p hp => ?_) _ _ hit) ?_
    · obtain ⟨h1, h2, h3, h4⟩ := hk
      refine ⟨h1, by omega, h3, fun e => ?_⟩
      rcases hbk5 with h5 | h5
      · exact h4 (h5 ▸ e)
      · rw [h5] at e
        injection e with e
        omega
    · obtain ⟨h1, h2, h3, h4⟩ := hp
      rw [hcell p (by omega) h3 h4]
      exact hg1.cell h2
    · rw [ItemsAtP]
      refine ⟨r, [], rfl, ItemAtP.mono (fun k hk => ?_) (fun p hp => ?_) _ _ hix, by rw [ItemsAtP]⟩
      · obtain ⟨h1, h2⟩ := hk
        refine ⟨by omega, by omega, by omega, fun e => ?_⟩
        rcases hbk5 with h5 | h5
        · rw [h5] at e
          have := (hown.lt k e).2
          omega
        · rw [h5] at e
          injection e with e
          omega
      · obtain ⟨h1, h2⟩ := hp
        refine hcell p h2 (by omega) fun e => ?_
        have := (hown.lt _ e).2
        omega
  · refine Below.setCell ?_ (by simpa using hw0) _
    refine (((hb.trans hg1).trans hgB)).grown hg5 ?_ fun j hj => ?_
    · have := hb.size; omega
    · have := own_block_ge hown j hj
      omega
  · intro j h1 h2 h3
    rw [hblk j (by omega) h2 h3, hg1.block j h1]
theorem list_item {g B : Nat} {wr : World} {done : List Raw} {A : Option Addr} {c : Nat} {rows : List (List Value)} (hown : wr.ownsRow B 56 3 (.slice A done.length c) done.length rows.flatten)
    (hit : ItemsAtP (okL B g (.slice A done.length c) wr.heap.size) wr done rows) : ItemIn (fun k => B ≤ k ∧ k < wr.heap.size) wr (.agg #[.bool true, .slice none 0 0, .slice A done.length c]) (.mk true [] done) := by
  obtain ⟨_, _, he, hc1, hc2⟩ := own_form hown
  injection he with he1 he2 he3
  subst he1 he3
  refine ⟨[.bool true, .slice none 0 0, .slice A done.length c], rfl, ?_⟩
  rw [ItemAtP]
  refine ⟨.slice none 0 0, A, c, rows, rfl, ⟨none, 0, rfl, Nat.le_refl _, by simp [maxLen], fun hn => absurd rfl hn⟩, hc1, hc2, fun e => ?_, own_RdP hown, ItemsAtP.mono (fun k hk => ⟨hk.1, hk.2.1⟩) (fun _ _ => rfl) _ _ hit⟩
  subst e
  exact own_none hown
end Go.Proofs.Ytekacgocjplfjaa
