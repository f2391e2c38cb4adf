/-
  Merged (wip/tools/merge.py): JRead, JOneP, EJ0, EJ1.
  Conditions: none.
-/
import Derived.Test.YtekacgocjplfjaaZP12
import Derived.Great.BuildSlice
import Derived.Test.YtekacgocjplfjaaZP6
import Derived.Test.YtekacgocjplfjaaZP11
/-
  journal: whole, slot.
  Conditions: none.
-/
namespace Go.Proofs.Ytekacgocjplfjaa
set_option linter.unusedVariables false
open Go.RowKit Mono Rlp Jn

theorem isBP_at {ok : Nat → Prop} {w : World} {A : Option Addr} {n c : Nat} {l : List UInt8} (h : IsBP ok w (.slice A n c) l) (h0 : 0 < l.length) : ∃ b o, A = some ⟨b, o, none⟩ ∧ ok b ∧ w.rangeAt b o (bvs l) := by
  obtain ⟨A', c', e, _, _, hr⟩ := h
  injection e with e1 e2 e3
  subst e1
  obtain ⟨b, o, e, hb, hc⟩ := hr (fun e => by have := congrArg List.length e; rw [bvs_length] at this; simp at this; rw [this] at h0; simp at h0)
  exact ⟨b, o, e, hb, fun j v hv => hc j v hv⟩
set_option maxRecDepth 100000 in
theorem build_word0 (w : World) : (Instr.build 23 #[]).run Try.prog w = .ok (arrV zero32) w := by kernel_rfl
theorem to_word (w : World) (A : Option Addr) (n c : Nat) (h : 32 ≤ n) : (Instr.arrayAt 23 (.slice A n c)).run Try.prog w = .ok (.pointer A) w := run_arrayAt _ _ _ 32 A n c Try.underlying23 h
/-- The 32 bytes of an item. -/
def wholeR (x : Raw) : Option (List UInt8) := match isB x with
  | some l => if l.length = 32 then some l else none
  | none => none
def wholeV (x : Raw) : Value := .tuple #[arrV ((wholeR x).getD zero32), .bool (wholeR x).isSome]
theorem wholeV_none {x : Raw} (h : wholeR x = none) : wholeV x = .tuple #[arrV zero32, .bool false] := by unfold wholeV; rw [h]; rfl
theorem wholeV_some {x : Raw} {l : List UInt8} (h : wholeR x = some l) : wholeV x = .tuple #[arrV l, .bool true] := by unfold wholeV; rw [h]; rfl
theorem whole_length {x : Raw} : ((wholeR x).getD zero32).length = 32 := by
  unfold wholeR
  split
  · split
    · assumption
    · rfl
  · rfl
set_option maxRecDepth 20000 in
set_option maxHeartbeats 1000000 in
theorem j_whole (v : Value) (x : Raw) (w : World) (h : IsItem w v x) : Calls Try.prog 44 #[v] w (Ret (eqV (wholeV x)) w) := by
  obtain ⟨lx, bx, xs⟩ := x
  obtain ⟨vb1, vl1, rfl, hb, A1, c1, rows1, rfl, hc1, hm1, _⟩ := isItem_form h
  have HB := Lib.hid hb
  obtain ⟨A0, c0, rfl, hc0, hm0, _⟩ := hb
  unfold maxLen at hm0 hm1
  clear h
  go_enter Try.func44, Try.ntmps44
  cases lx with
  | true =>
    have HI := Lib.hid (wholeV_none (x := .mk true bx xs) rfl)
    go_wp2_with first
      | (guard_target = wpList _ _ _ (Oper.mk _ (Op.alloc _) _ _ _ _ :: _) _ _; refine wpL_alloc_word (w.heap.size + 1) (by simp) rfl rfl ?_; intro w0 hA0 hG0 hs0; obtain ⟨q0, q1, q2⟩ := cells_of3 ((hG0.out.block w.heap.size (by simp)).trans (heap_alloc_new w _)))
      | (guard_target = wpList _ _ _ (Oper.mk _ (Op.build _ _) _ _ _ _ :: _) _ _; refine wpL_build #[] #[] (build_word0 _) rfl rfl (by simp) ?_)
      | (guard_target = wpList _ _ _ (Oper.mk _ (Op.store _ _ _) _ _ _ _ :: _) _ _; refine wpList_store_row rfl 23 (.tmp 2) (.tmp 12) rfl (w.heap.size + 1) (bvs zero32).toArray rfl rfl 23 _ hA0.out (arr_info _ zero32_length) rfl (arr_one _) ?_)
    have HG0 := Lib.hid ((gr_alloc w (.cells #[.bool true, .slice A0 bx.length c0, .slice A1 xs.length c1] 56)).trans hG0.out)
    refine bodyPost_ret (results_word2 rfl _ _ (w.heap.size + 1) 23 zero32 rfl (arr_setRow hA0.out) zero32_length) rfl ?_
    exact ⟨_, rfl, gr_setRow HG0.out _ _ (by omega), by unfold eqV; rw [HI.out]; rfl⟩
  | false =>
    by_cases hn : bx.length = 32
    · have HI := Lib.hid (wholeV_some (x := .mk false bx xs) (l := bx) (by unfold wholeR; simp [isB, hn]))
      have HN := Lib.hid hn
      obtain ⟨b, o, rfl, hbb, hrg⟩ := isBP_at HB.out (by omega)
      have HRG := Lib.hid hrg
      rw [hn] at hc0 ⊢
      clear hn hrg
      go_wp2_with first
        | (guard_target = wpList _ _ _ (Oper.mk _ (Op.alloc _) _ _ _ _ :: _) _ _; refine wpL_alloc_word (w.heap.size + 1) (by simp) rfl rfl ?_; intro w0 hA0 hG0 hs0; obtain ⟨q0, q1, q2⟩ := cells_of3 ((hG0.out.block w.heap.size (by simp)).trans (heap_alloc_new w _)); have HG0 := Lib.hid ((gr_alloc w (.cells #[.bool false, .slice (some ⟨b, o, none⟩) 32 c0, .slice A1 xs.length c1] 56)).trans hG0.out))
        | (guard_target = wpList _ _ _ (Oper.mk _ (Op.sliceToArrayPointer _ _) _ _ _ _ :: _) _ _; refine wpL_value (.pointer (some ⟨b, o, none⟩)) rfl (by simp [execOp, Act.eval, to_word]) ?_)
        | (guard_target = wpList _ _ _ (Oper.mk _ (Op.load _ _) _ _ _ _ :: _) _ _; refine wpList_load_mid rfl 23 (.tmp 15) rfl b o rfl (bvs bx) _ (range_gr HRG.out HG0.out hbb) Try.underlying23 rfl (word_size _ HN.out) ?_)
        | (guard_target = wpList _ _ _ (Oper.mk _ (Op.store _ _ _) _ _ _ _ :: _) _ _; refine wpList_store_row rfl 23 (.tmp 2) (.tmp 16) rfl (w.heap.size + 1) (bvs bx).toArray rfl rfl 23 _ hA0.out (arr_info _ HN.out) (by rw [arr_size _ HN.out]; rfl) (arr_one _) ?_)
      refine bodyPost_ret (results_word2 rfl _ _ (w.heap.size + 1) 23 bx rfl (arr_setRow hA0.out) HN.out) rfl ?_
      exact ⟨_, rfl, gr_setRow HG0.out _ _ (by omega), by unfold eqV; rw [HI.out]; rfl⟩
    · have HI := Lib.hid (wholeV_none (x := .mk false bx xs) (by unfold wholeR; simp [isB, hn]))
      go_wp2_with first
        | (guard_target = wpList _ _ _ (Oper.mk _ (Op.alloc _) _ _ _ _ :: _) _ _; refine wpL_alloc_word (w.heap.size + 1) (by simp) rfl rfl ?_; intro w0 hA0 hG0 hs0; obtain ⟨q0, q1, q2⟩ := cells_of3 ((hG0.out.block w.heap.size (by simp)).trans (heap_alloc_new w _)))
        | (guard_target = wpList _ _ _ (Oper.mk _ (Op.build _ _) _ _ _ _ :: _) _ _; refine wpL_build #[] #[] (build_word0 _) rfl rfl (by simp) ?_)
        | (guard_target = wpList _ _ _ (Oper.mk _ (Op.store _ _ _) _ _ _ _ :: _) _ _; refine wpList_store_row rfl 23 (.tmp 2) (.tmp 12) rfl (w.heap.size + 1) (bvs zero32).toArray rfl rfl 23 _ hA0.out (arr_info _ zero32_length) rfl (arr_one _) ?_)
      have HG0 := Lib.hid ((gr_alloc w (.cells #[.bool false, .slice A0 bx.length c0, .slice A1 xs.length c1] 56)).trans hG0.out)
      refine bodyPost_ret (results_word2 rfl _ _ (w.heap.size + 1) 23 zero32 rfl (arr_setRow hA0.out) zero32_length) rfl ?_
      exact ⟨_, rfl, gr_setRow HG0.out _ _ (by omega), by unfold eqV; rw [HI.out]; rfl⟩
/-- The slot that 'slot' tells. -/
def slotP (x : Raw) : Sl × Bool := match isL x with
  | some [a, b] => (⟨(wordR a).getD zero32, (wordR b).getD zero32⟩, (wordR a).isSome && (wordR b).isSome)
  | _ => (zeroS, false)
theorem word_len (x : Raw) : ((wordR x).getD zero32).length = 32 := by
  cases h : wordR x with
  | none => rfl
  | some l =>
    unfold wordR at h
    cases hn : numB x with
    | none => rw [hn] at h; cases h
    | some bs =>
      rw [hn, Option.bind_some] at h
      split at h
      · rename_i h9
        cases h
        exact pad_length bs h9
      · cases h
theorem slotP_ok (x : Raw) : (slotP x).1.ok := by
  unfold slotP
  split
  · exact ⟨word_len _, word_len _⟩
  · exact zeroS_ok
theorem slotP_some {x : Raw} {s : Sl} (h : slotR x = some s) : slotP x = (s, true) := by
  unfold slotR at h
  split at h
  · rename_i a b hl
    split at h
    · rename_i k v hk hv
      cases h
      unfold slotP
      rw [hl]
      dsimp only
      rw [hk, hv]
      rfl
    · cases h
  · cases h
theorem slotP_none {x : Raw} (h : slotR x = none) : (slotP x).2 = false := by
  unfold slotR at h
  split at h
  · rename_i a b hl
    split at h
    · cases h
    · rename_i hn
      unfold slotP
      rw [hl]
      dsimp only
      cases h1 : wordR a with
      | none => rfl
      | some k =>
        cases h2 : wordR b with
        | none => rfl
        | some v => exact absurd h2 (hn k v h1)
  · rename_i hn
    unfold slotP
    split
    · rename_i a b hl
      exact absurd hl (hn a b)
    · rfl
def slotV (x : Raw) : Value := .tuple #[.agg (slC (slotP x).1).toArray, .bool (slotP x).2]
theorem slotV_bad {x : Raw} (h : ∀ a b, isL x ≠ some [a, b]) : slotV x = .tuple #[.agg (slC zeroS).toArray, .bool false] := by
  unfold slotV slotP
  split
  · rename_i a b hl
    exact absurd hl (h a b)
  · rfl
set_option maxRecDepth 20000 in
set_option maxHeartbeats 2000000 in
theorem j_slot (v : Value) (x : Raw) (w : World) (h : IsItem w v x) : Calls Try.prog 58 #[v] w (Ret (eqV (slotV x)) w) := by
  obtain ⟨lx, bx, xs⟩ := x
  obtain ⟨vb1, vl1, rfl, ⟨A0, c0, rfl, hc0, hm0, _⟩, A1, c1, rows1, rfl, hc1, hm1, _, hrd, hit⟩ := isItem_form h
  unfold maxLen at hm0 hm1
  clear h
  have HRD := Lib.hid hrd
  have HIT := Lib.hid hit
  clear hrd hit
  generalize bx.length = n0 at hc0
  go_enter Try.func58, Try.ntmps58
  by_cases hl : lx = true ∧ xs.length = 2
  · obtain ⟨rfl, hl⟩ := hl
    obtain ⟨a, b, rfl⟩ : ∃ a b, xs = [a, b] := by
      match xs, hl with
      | [a, b], _ => exact ⟨a, b, rfl⟩
    clear hl
    simp only [List.length_cons, List.length_nil] at hc1 ⊢
    obtain ⟨bl, o, f, vb, vl, rfl, hbl, e1, e2, e3, hx, ⟨A3, n3, c3, rfl⟩, A4, n4, c4, rfl⟩ := items_at HRD.out HIT.out 0 (by simp)
    obtain ⟨bl2, o2, f2, vb2, vl2, e0, hbl2, g1, g2, g3, hy, ⟨A5, n5, c5, rfl⟩, A6, n6, c6, rfl⟩ := items_at HRD.out HIT.out 1 (by simp)
    injection e0 with e0
    injection e0 with e0 e0'
    subst e0 e0'
    simp only [Nat.zero_mul, Nat.add_zero, Nat.one_mul, List.getElem_cons_zero, List.getElem_cons_succ] at e1 e2 e3 hx g1 g2 g3 hy
    have HX := Lib.hid hx
    have HY := Lib.hid hy
    have E1 := Lib.hid e1
    have E2 := Lib.hid e2
    have E3 := Lib.hid e3
    have G1 := Lib.hid g1
    have G2 := Lib.hid g2
    have G3 := Lib.hid g3
    clear hx hy e1 e2 e3 g1 g2 g3 HRD HIT
    have HKA := Lib.hid (word_len a)
    have HKB := Lib.hid (word_len b)
    have HI : Hid (slotV (.mk true bx [a, b]) = .tuple #[.agg (slC ⟨(wordR a).getD zero32, (wordR b).getD zero32⟩).toArray, .bool ((wordR a).isSome && (wordR b).isSome)]) := Lib.hid rfl
    obtain ⟨ka, hka⟩ : ∃ k, k = (wordR a).getD zero32 := ⟨_, rfl⟩
    obtain ⟨oa, hoa⟩ : ∃ k, k = (wordR a).isSome := ⟨_, rfl⟩
    obtain ⟨kb, hkb⟩ : ∃ k, k = (wordR b).getD zero32 := ⟨_, rfl⟩
    obtain ⟨ob, hob⟩ : ∃ k, k = (wordR b).isSome := ⟨_, rfl⟩
    rw [← hka] at HKA
    rw [← hkb] at HKB
    rw [← hka, ← hkb, ← hoa, ← hob] at HI
    have HVA : Hid (wordV a = .tuple #[arrV ka, .bool oa]) := Lib.hid (by unfold wordV; rw [hka, hoa])
    have HVB : Hid (wordV b = .tuple #[arrV kb, .bool ob]) := Lib.hid (by unfold wordV; rw [hkb, hob])
    clear hka hkb hoa hob
    go_upto_region 4 with first
      | (guard_target = wpList _ _ _ (Oper.mk _ (Op.alloc _) _ _ _ _ :: _) _ _; refine wpL_alloc_of alloc_slot (w.heap.size + 1) (by simp) rfl rfl ?_; intro w0 hA0 hG0 hs0; have HG0 := Lib.hid ((gr_alloc w (.cells #[.bool true, .slice A0 n0 c0, .slice (some ⟨bl, o, none⟩) 2 c1] 56)).trans hG0.out); have HR0 := Lib.hid ((hG0.out.block w.heap.size (by simp)).trans (heap_alloc_new w _)); obtain ⟨q0, q1, q2⟩ := cells_of3 HR0.out; have e1 := (HG0.out.cell (p := ⟨bl, o, none⟩) hbl).trans E1.out; have e2 := (HG0.out.cell (p := ⟨bl, o + 1, none⟩) hbl).trans E2.out; have e3 := (HG0.out.cell (p := ⟨bl, o + 2, none⟩) hbl).trans E3.out)
      | (go_at_call 57; refine (rlp_Word _ a _ (HX.out.gr HG0.out)).mono ?_; rintro e w1 ⟨v1, rfl, hg1, hv1⟩; obtain rfl : v1 = .tuple #[arrV ka, .bool oa] := hv1.trans HVA.out; have HG1 := Lib.hid (HG0.out.trans hg1); have HA1 := Lib.hid ((hg1.block _ (lt_of_some hA0.out)).trans hA0.out); have HR1 := Lib.hid ((hg1.block _ (lt_of_some HR0.out)).trans HR0.out); have hs1 := hg1.size; clear hg1)
      | (guard_target = wpList _ _ _ (Oper.mk _ (Op.alloc _) _ _ _ _ :: _) _ _; refine wpL_alloc_word w1.heap.size rfl rfl rfl ?_; intro w2 hA2 hG2 hs2)
      | (guard_target = wpList _ _ _ (Oper.mk _ (Op.store _ _ _) _ _ _ _ :: _) _ _; refine wpList_store_row rfl 23 (.tmp 4) (.tmp 24) rfl w1.heap.size (bvs ka).toArray rfl rfl 23 _ hA2.out (arr_info _ HKA.out) (by rw [arr_size _ HKA.out]; rfl) (arr_one _) ?_)
    try go_frame
    have HA3 : Hid (Arr (w2.setRow w1.heap.size (bvs ka).toArray) w1.heap.size 23 ka) := Lib.hid (arr_setRow hA2.out)
    have HGv : Hid (Gr w1 (w2.setRow w1.heap.size (bvs ka).toArray)) := Lib.hid (gr_setRow hG2.out _ _ (Nat.le_refl _))
    have hs3 : (w2.setRow w1.heap.size (bvs ka).toArray).heap.size = w1.heap.size + 1 := by rw [size_setRow, hs2]
    generalize w2.setRow w1.heap.size (bvs ka).toArray = w3 at HA3 HGv hs3 ⊢
    have HG3 := Lib.hid (HG1.out.trans HGv.out)
    have HR3 := Lib.hid ((HGv.out.block _ (lt_of_some HR1.out)).trans HR1.out)
    have HZ3 := Lib.hid ((HGv.out.block _ (lt_of_some HA1.out)).trans HA1.out)
    clear hA2 hG2 hs2 q0 q1 q2 e1 e2 e3 HA1 HR1 HGv
    obtain ⟨q0, q1, q2⟩ := cells_of3 HR3.out
    have e1 := (HG3.out.cell (p := ⟨bl, o + 3, none⟩) hbl).trans G1.out
    have e2 := (HG3.out.cell (p := ⟨bl, o + 3 + 1, none⟩) hbl).trans G2.out
    have e3 := (HG3.out.cell (p := ⟨bl, o + 3 + 2, none⟩) hbl).trans G3.out
    go_upto_region 5 with first
      | (go_at_call 57; refine (rlp_Word _ b _ (HY.out.gr HG3.out)).mono ?_; rintro e w4 ⟨v4, rfl, hg4, hv4⟩; obtain rfl : v4 = .tuple #[arrV kb, .bool ob] := hv4.trans HVB.out; have HG4 := Lib.hid (HG3.out.trans hg4); have HA4 := Lib.hid (HA3.out.gr hg4); have HZ4 := Lib.hid ((hg4.block _ (lt_of_some HZ3.out)).trans HZ3.out); have hs4 := hg4.size; clear hg4)
      | (guard_target = wpList _ _ _ (Oper.mk _ (Op.alloc _) _ _ _ _ :: _) _ _; refine wpL_alloc_word w4.heap.size rfl rfl rfl ?_; intro w5 hA5 hG5 hs5)
      | (guard_target = wpList _ _ _ (Oper.mk _ (Op.store _ _ _) _ _ _ _ :: _) _ _; refine wpList_store_row rfl 23 (.tmp 6) (.tmp 32) rfl w4.heap.size (bvs kb).toArray rfl rfl 23 _ hA5.out (arr_info _ HKB.out) (by rw [arr_size _ HKB.out]; rfl) (arr_one _) ?_)
    try go_frame
    have HA6 : Hid (Arr (w5.setRow w4.heap.size (bvs kb).toArray) w4.heap.size 23 kb) := Lib.hid (arr_setRow hA5.out)
    have HGv : Hid (Gr w4 (w5.setRow w4.heap.size (bvs kb).toArray)) := Lib.hid (gr_setRow hG5.out _ _ (Nat.le_refl _))
    generalize w5.setRow w4.heap.size (bvs kb).toArray = w6 at HA6 HGv ⊢
    have HG6 := Lib.hid (HG4.out.trans HGv.out)
    have HA36 := Lib.hid (HA4.out.gr HGv.out)
    have HZ6 := Lib.hid ((HGv.out.block _ (lt_of_some HZ4.out)).trans HZ4.out)
    have hbs := Lib.hid (build_slot ka kb HKA.out HKB.out w6)
    have hsok : (Sl.mk ka kb).ok := ⟨HKA.out, HKB.out⟩
    have HOK := Lib.hid hsok
    clear hA5 hG5 hs5 q0 q1 q2 e1 e2 e3 HGv HA4 hsok
    cases oa <;> cases ob
    all_goals
      go_wp2_with first
        | (refine wpList_load_row rfl 23 (.tmp 4) rfl w1.heap.size rfl 23 (bvs ka).toArray (0, 0) _ HA36.out rfl rfl (arr_info _ HKA.out) ?_)
        | (refine wpList_load_row rfl 23 (.tmp 6) rfl w4.heap.size rfl 23 (bvs kb).toArray (0, 0) _ HA6.out rfl rfl (arr_info _ HKB.out) ?_)
        | (guard_target = wpList _ _ _ (Oper.mk _ (Op.build _ _) _ _ _ _ :: _) _ _; refine wpL_build #[(0, .tmp 34), (1, .tmp 35)] #[(0, arrV ka), (1, arrV kb)] hbs.out rfl rfl (by simp only [List.map_toArray, List.map_cons, List.map_nil, Act.eval]; rfl) ?_)
        | (guard_target = wpList _ _ _ (Oper.mk _ (Op.store _ _ _) _ _ _ _ :: _) _ _; refine wpList_store_row rfl 48 (.tmp 2) (.tmp 36) rfl (w.heap.size + 1) (slC ⟨ka, kb⟩).toArray rfl rfl 48 _ HZ6.out (slot_info' _ HOK.out) (slC_zero _ HOK.out) (all_oneCell_toArray (slC_one _)) ?_)
      refine bodyPost_ret (results_row2 rfl _ _ (w.heap.size + 1) 48 (slC ⟨ka, kb⟩).toArray rfl (heap_setRow_same _ _ _ _ _ HZ6.out) Try.underlying48 (slot_info' _ HOK.out)) rfl ?_
      exact ⟨_, rfl, gr_setRow HG6.out _ _ (by omega), by unfold eqV; rw [HI.out]; rfl⟩
  · have HI := Lib.hid (slotV_bad (x := .mk lx bx xs) (fun a b e => hl (by
      obtain ⟨c, e⟩ := isL_E e
      injection e with e1 e2 e3
      subst e1 e3
      exact ⟨rfl, rfl⟩)))
    cases lx with
    | false =>
      clear hl
      go_wp2_with first
        | (guard_target = wpList _ _ _ (Oper.mk _ (Op.alloc _) _ _ _ _ :: _) _ _; refine wpL_alloc_of alloc_slot (w.heap.size + 1) (by simp) rfl rfl ?_; intro w0 hA0 hG0 hs0; obtain ⟨q0, q1, q2⟩ := cells_of3 ((hG0.out.block w.heap.size (by simp)).trans (heap_alloc_new w _)))
        | (guard_target = wpList _ _ _ (Oper.mk _ (Op.build _ _) _ _ _ _ :: _) _ _; refine wpL_build #[] #[] (build_slot0 _) rfl rfl (by simp) ?_)
        | (guard_target = wpList _ _ _ (Oper.mk _ (Op.store _ _ _) _ _ _ _ :: _) _ _; refine wpList_store_row rfl 48 (.tmp 2) (.tmp 17) rfl (w.heap.size + 1) (slC zeroS).toArray rfl rfl 48 _ hA0.out (slot_info' _ zeroS_ok) rfl (all_oneCell_toArray (slC_one _)) ?_)
      have HG0 := Lib.hid ((gr_alloc w (.cells #[.bool false, .slice A0 n0 c0, .slice A1 xs.length c1] 56)).trans hG0.out)
      refine bodyPost_ret (results_row2 rfl _ _ (w.heap.size + 1) 48 (slC zeroS).toArray rfl (heap_setRow_same _ _ _ _ _ hA0.out) Try.underlying48 (slot_info' _ zeroS_ok)) rfl ?_
      exact ⟨_, rfl, gr_setRow HG0.out _ _ (by omega), by unfold eqV; rw [HI.out]; rfl⟩
    | true =>
      have h2 : ¬ xs.length = 2 := fun e => hl ⟨rfl, e⟩
      clear hl
      go_wp2_with first
        | (guard_target = wpList _ _ _ (Oper.mk _ (Op.alloc _) _ _ _ _ :: _) _ _; refine wpL_alloc_of alloc_slot (w.heap.size + 1) (by simp) rfl rfl ?_; intro w0 hA0 hG0 hs0; obtain ⟨q0, q1, q2⟩ := cells_of3 ((hG0.out.block w.heap.size (by simp)).trans (heap_alloc_new w _)))
        | (guard_target = wpList _ _ _ (Oper.mk _ (Op.build _ _) _ _ _ _ :: _) _ _; refine wpL_build #[] #[] (build_slot0 _) rfl rfl (by simp) ?_)
        | (guard_target = wpList _ _ _ (Oper.mk _ (Op.store _ _ _) _ _ _ _ :: _) _ _; refine wpList_store_row rfl 48 (.tmp 2) (.tmp 17) rfl (w.heap.size + 1) (slC zeroS).toArray rfl rfl 48 _ hA0.out (slot_info' _ zeroS_ok) rfl (all_oneCell_toArray (slC_one _)) ?_)
      have HG0 := Lib.hid ((gr_alloc w (.cells #[.bool true, .slice A0 n0 c0, .slice A1 xs.length c1] 56)).trans hG0.out)
      refine bodyPost_ret (results_row2 rfl _ _ (w.heap.size + 1) 48 (slC zeroS).toArray rfl (heap_setRow_same _ _ _ _ _ hA0.out) Try.underlying48 (slot_info' _ zeroS_ok)) rfl ?_
      exact ⟨_, rfl, gr_setRow HG0.out _ _ (by omega), by unfold eqV; rw [HI.out]; rfl⟩
end Go.Proofs.Ytekacgocjplfjaa
/-
  What 'one' and 'of' need: lists of parsed items, rows at an index, slice literals of one row, cells that are set.
  Conditions: none.
-/
namespace Go.Proofs.Ytekacgocjplfjaa
set_option linter.unusedVariables false
open Go.RowKit Mono Rlp Jn

namespace Jn
theorem allR_len {α : Type} {f : Raw → Option α} : ∀ (xs : List Raw) (ys : List α), allR f xs = some ys → ys.length = xs.length
  | [], ys, h => by cases h; rfl
  | x :: xs, ys, h => by
    rw [allR] at h
    cases hx : f x with
    | none => rw [hx] at h; cases h
    | some y =>
      rw [hx] at h
      dsimp only at h
      cases ht : allR f xs with
      | none => rw [ht] at h; cases h
      | some zs =>
        rw [ht] at h
        cases h
        simp [allR_len xs zs ht]
theorem allR_snoc {α : Type} {f : Raw → Option α} {x : Raw} {y : α} (hx : f x = some y) : ∀ (xs : List Raw) (ys : List α), allR f xs = some ys → allR f (xs ++ [x]) = some (ys ++ [y])
  | [], ys, h => by
    cases h
    simp [allR, hx]
  | a :: xs, ys, h => by
    rw [List.cons_append, allR]
    rw [allR] at h
    cases ha : f a with
    | none => rw [ha] at h; cases h
    | some b =>
      rw [ha] at h
      dsimp only at h ⊢
      cases ht : allR f xs with
      | none => rw [ht] at h; cases h
      | some zs =>
        rw [ht] at h
        cases h
        rw [allR_snoc hx xs zs ht]
        rfl
theorem allR_none {α : Type} {f : Raw → Option α} {x : Raw} (hx : f x = none) : ∀ (xs : List Raw), x ∈ xs → allR f xs = none
  | [], h => by simp at h
  | a :: xs, h => by
    rw [allR]
    rcases List.mem_cons.1 h with rfl | h
    · rw [hx]
    · cases ha : f a with
      | none => rfl
      | some b =>
        dsimp only
        rw [allR_none hx xs h]
theorem allR_take {α : Type} {f : Raw → Option α} {xs : List Raw} {ys : List α} {y : α} {k : Nat} (h : allR f (xs.take k) = some ys) (hk : k < xs.length) (hx : f xs[k] = some y) : allR f (xs.take (k + 1)) = some (ys ++ [y]) := by
  rw [← List.take_append_getElem hk]
  exact allR_snoc hx _ _ h
/-- What makes six items a change, but for its slots. -/
def goodC (f0 : Bool) (b0 : List UInt8) (i1 i2 i3 : Raw) (f4 f5 : Bool) : Bool := !f0 && (b0.length == 20) && (intR i1).isSome && decide ((intR i1).getD 0 ≤ 1) && (intR i2).isSome && (wordR i3).isSome && !f4 && f5
theorem chR_good {f0 f4 f5 : Bool} {b0 b4 b5 bx : List UInt8} {x0 x4 x5 : List Raw} {i1 i2 i3 : Raw} (h : goodC f0 b0 i1 i2 i3 f4 f5 = true) :
    chR (.mk true bx [.mk f0 b0 x0, i1, i2, i3, .mk f4 b4 x4, .mk f5 b5 x5]) = (allR slotR x5).map fun ss => ⟨b0, (intR i1).getD 0 == 1, ((intR i2).getD 0 : Nat), (wordR i3).getD zero32, b4, ss⟩ := by
  unfold goodC at h
  simp only [Bool.and_eq_true, Bool.not_eq_true', beq_iff_eq, decide_eq_true_eq] at h
  obtain ⟨⟨⟨⟨⟨⟨⟨h0, h20⟩, h1⟩, hg⟩, h2⟩, h3⟩, h4⟩, h5⟩ := h
  subst h0 h4 h5
  obtain ⟨n1, e1⟩ := Option.isSome_iff_exists.1 h1
  obtain ⟨n2, e2⟩ := Option.isSome_iff_exists.1 h2
  obtain ⟨n3, e3⟩ := Option.isSome_iff_exists.1 h3
  rw [e1] at hg
  simp only [chR, isL, isB, e1, e2, e3]
  rw [if_pos ⟨h20, hg⟩]
  cases allR slotR x5 <;> rfl
theorem chR_bad {f0 f4 f5 : Bool} {b0 b4 b5 bx : List UInt8} {x0 x4 x5 : List Raw} {i1 i2 i3 : Raw} (h : goodC f0 b0 i1 i2 i3 f4 f5 = false) :
    chR (.mk true bx [.mk f0 b0 x0, i1, i2, i3, .mk f4 b4 x4, .mk f5 b5 x5]) = none := by
  cases hc : chR (.mk true bx [.mk f0 b0 x0, i1, i2, i3, .mk f4 b4 x4, .mk f5 b5 x5]) with
  | none => rfl
  | some c =>
    exfalso
    unfold chR at hc
    simp only [isL] at hc
    cases f0 <;> cases f4 <;> cases f5 <;> simp only [isB] at hc <;> try (simp at hc; done)
    split at hc <;> try (cases hc; done)
    rename_i h0 h1 h2 h3 h4 h5
    split at hc <;> try (cases hc; done)
    rename_i hcond
    unfold goodC at h
    cases h0
    rw [h1, h2, h3] at h
    simp [hcond.1, hcond.2] at h
theorem chR_list {x : Raw} (h : ∀ a g n w c s, isL x ≠ some [a, g, n, w, c, s]) : chR x = none := by
  unfold chR
  split
  · rename_i a g n w c s hl
    exact absurd hl (h a g n w c s)
  · rfl
theorem intR_bound (x : Raw) : (intR x).getD 0 ≤ 9223372036854775807 := by
  cases h : intR x with
  | none => simp
  | some n => exact (intR_E h).2.1
theorem EL_len : ∀ xs : List Raw, xs.length ≤ (EL xs).length
  | [] => by simp [EL]
  | x :: xs => by
    rw [EL, List.length_append, List.length_cons]
    have := E_pos x
    have := EL_len xs
    omega
theorem E_list_len (bs : List UInt8) (xs : List Raw) : (EL xs).length ≤ (E (.mk true bs xs)).length := by
  rw [E_list, List.length_append]
  omega
theorem EL_mem : ∀ (xs : List Raw) (x : Raw), x ∈ xs → (E x).length ≤ (EL xs).length
  | [], x, h => by simp at h
  | a :: xs, x, h => by
    rw [EL, List.length_append]
    rcases List.mem_cons.1 h with rfl | h
    · omega
    · have := EL_mem xs x h
      omega
end Jn
theorem itemP_form {ok : Nat → Prop} {w : World} {b : Bool} {bs : List UInt8} {xs : List Raw} {cs : List Value} (h : ItemAtP ok w (.mk b bs xs) cs) :
    ∃ vb A c rows, cs = [.bool b, vb, .slice A xs.length c] ∧ IsBP ok w vb bs ∧ xs.length ≤ c ∧ c ≤ maxLen ∧ (A = none → xs.length = 0 ∧ c = 0) ∧ RdP ok w A rows.flatten ∧ ItemsAtP ok w xs rows := by
  rw [ItemAtP] at h
  exact h
theorem ItemsAtP.get {ok : Nat → Prop} {w : World} : ∀ (xs : List Raw) (rows : List (List Value)), ItemsAtP ok w xs rows → ∀ k (hk : k < xs.length), ∃ cs, ItemAtP ok w xs[k] cs ∧ ∀ j u, cs[j]? = some u → rows.flatten[k * 3 + j]? = some u
  | [], rows, _, k, hk => by simp at hk
  | x :: xs, rows, h, k, hk => by
    rw [ItemsAtP] at h
    obtain ⟨r, rest, rfl, h2, h3⟩ := h
    obtain ⟨b, A1, n1, c1, A, n, c, hr⟩ := h2.len
    have hr3 : r.length = 3 := by rw [hr]; rfl
    cases k with
    | zero =>
      refine ⟨r, h2, fun j u hu => ?_⟩
      have hj := (List.getElem?_eq_some_iff.1 hu).1
      rw [Nat.zero_mul, Nat.zero_add, List.flatten_cons, List.getElem?_append_left hj]
      exact hu
    | succ k =>
      obtain ⟨cs, h4, h5⟩ := ItemsAtP.get xs rest h3 k (by simpa using hk)
      refine ⟨cs, h4, fun j u hu => ?_⟩
      rw [List.flatten_cons, List.getElem?_append_right (by omega), hr3, ← h5 j u hu]
      congr 1
      omega
/-- The k-th item of a list. -/
theorem itemsP_at {ok : Nat → Prop} {w : World} {A : Option Addr} {xs : List Raw} {rows : List (List Value)} (hr : RdP ok w A rows.flatten) (h : ItemsAtP ok w xs rows) (k : Nat) (hk : k < xs.length) :
    ∃ bl o f A1 n1 c1 A2 n2 c2, A = some ⟨bl, o, none⟩ ∧ ok bl ∧ w.cell? ⟨bl, o + k * 3, none⟩ = some (.bool f) ∧ w.cell? ⟨bl, o + k * 3 + 1, none⟩ = some (.slice A1 n1 c1) ∧ w.cell? ⟨bl, o + k * 3 + 2, none⟩ = some (.slice A2 n2 c2) ∧ ItemAtP ok w xs[k] [.bool f, .slice A1 n1 c1, .slice A2 n2 c2] := by
  obtain ⟨cs, h1, h2⟩ := ItemsAtP.get xs rows h k hk
  obtain ⟨f, A1, n1, c1, A2, n2, c2, rfl⟩ := h1.len
  obtain ⟨bl, o, rfl, hb, hc⟩ := hr (fun e => by
    have := h2 0 _ rfl
    rw [e] at this
    simp at this)
  exact ⟨bl, o, f, A1, n1, c1, A2, n2, c2, rfl, hb, hc _ _ (h2 0 _ rfl), hc _ _ (h2 1 _ rfl), hc _ _ (h2 2 _ rfl), h1⟩
/-! ### Slice literals of one row -/
theorem fill_one {size : Nat} {v : Value} {vs M : List Value} (hv : v.cells = vs.toArray) (h1 : vs.length = size) (h2 : M.length = size) : Instr.fill (fun i => some (i * size, size)) M.toArray [(0, v)] = some vs.toArray := by
  have h := fill_cons (fun i => some (i * size, size)) 0 v vs [] M [] [] (by simp [h1]) hv (by omega)
  simp only [List.nil_append, List.append_nil] at h
  rw [h]
  rfl
theorem build1_slot (s : Sl) (h : s.ok) (w : World) : (Instr.buildSlice 49 1 #[(0, .agg (slC s).toArray)]).run Try.prog w = .ok (.slice (some ⟨w.heap.size, 0, none⟩) 1 1) (w.alloc (.cells (slC s).toArray 48)) := by
  obtain ⟨i, z, hi, hz, h1, h2, h3⟩ := slT_slots.info
  refine run_buildSlice w _ 48 1 _ _ i z Try.underlying49 hi hz (by rw [h1]; omega) (by rw [h1]; omega) ?_
  rw [h1]
  have := fill_one (v := .agg (slC s).toArray) (vs := slC s) (M := ((Array.range (1 * 64)).map (z.cells[· % z.cells.size]!)).toList) rfl (slC_length h) (by simp)
  rw [Array.toArray_toList] at this
  exact this
theorem build1_change (c : Ch) (vc vs : Value) (h : c.ok) (w : World) : (Instr.buildSlice 24 1 #[(0, .agg (chC c vc vs).toArray)]).run Try.prog w = .ok (.slice (some ⟨w.heap.size, 0, none⟩) 1 1) (w.alloc (.cells (chC c vc vs).toArray 51)) := by
  obtain ⟨i, z, hi, hz, h1, h2, h3⟩ := slT_changes.info
  refine run_buildSlice w _ 51 1 _ _ i z Try.underlying24 hi hz (by rw [h1]; omega) (by rw [h1]; omega) ?_
  rw [h1]
  have := fill_one (v := .agg (chC c vc vs).toArray) (vs := chC c vc vs) (M := ((Array.range (1 * 56)).map (z.cells[· % z.cells.size]!)).toList) rfl (chC_length h _ _) (by simp)
  rw [Array.toArray_toList] at this
  exact this
/-- Such a literal, as a step of the walk. -/
theorem wpL_build1 {w : World} {ops : Array Oper} {rest : List Oper} {o : Oper} {a : Act} {Q : Exit → Act → World → Prop} {t e : TypeId} {cs : Array Value} (x : Operand) (hr : (Instr.buildSlice t 1 #[(0, .agg cs)]).run Try.prog w = .ok (.slice (some ⟨w.heap.size, 0, none⟩) 1 1) (w.alloc (.cells cs e)))
    (g : Nat) (hg : w.heap.size = g) (hgd : o.guard = none) (ho : o.op = .buildSlice t 1 #[(0, x)]) (hx : a.eval x = .agg cs)
    (h : ∀ w', Hid (w'.heap[g]? = some (.cells cs e (0, 0))) → Hid (Gr w w') → w'.heap.size = g + 1 → wpList Try.prog ops Q rest (a.put o.dst (.slice (some ⟨g, 0, none⟩) 1 1)) w') : wpList Try.prog ops Q (o :: rest) a w := by
  subst hg
  refine wpList_plain hgd fun _ hK => ?_
  have h1 := hK _ _ (h _ (Lib.hid (heap_alloc_new w _)) (Lib.hid (gr_alloc w _)) (by simp))
  unfold Oper.wp execOp
  simp only [ho, List.map_toArray, List.map_cons, List.map_nil, hx, Sem.run_bind, hr, Result.andThen_ok, Sem.run_pure]
  exact h1
/-- A row in one block, read as a slice of one element. -/
theorem rd_row {w : World} {g : Nat} {cs : List Value} {t : TypeId} (h : w.heap[g]? = some (.cells cs.toArray t (0, 0))) : Rd w w.heap.size (some ⟨g, 0, none⟩) cs := fun _ =>
  ⟨g, 0, rfl, lt_of_some h, fun j u hu => by rw [Nat.zero_add, cell_of_row w g j _ t (0, 0) h]; simpa using hu⟩
/-! ### A cell of a struct that is set -/
theorem chC_set (c : Ch) (vc vs v : Value) (h : c.ok) : (chC c vc vs).toArray.setIfInBounds 55 v = (chC c vc v).toArray := by
  have h1 : chC c vc vs = (bvs c.addr ++ ([.bool c.gone, .int .i64 c.nonce] ++ (bvs c.bal ++ [vc]))) ++ [vs] := by simp [chC]
  have h2 : chC c vc v = (bvs c.addr ++ ([.bool c.gone, .int .i64 c.nonce] ++ (bvs c.bal ++ [vc]))) ++ [v] := by simp [chC]
  have h3 : (bvs c.addr ++ ([Value.bool c.gone, Value.int .i64 c.nonce] ++ (bvs c.bal ++ [vc]))).length = 55 := by simp [bvs, h.1, h.2.1]
  rw [h1, h2, List.setIfInBounds_toArray, ← h3, List.set_append_right _ _ (Nat.le_refl _), Nat.sub_self]
  rfl
theorem dfC_set (d : Df) (vl v : Value) (h : d.ok) : (dfC d vl).toArray.setIfInBounds 64 v = (dfC d v).toArray := by
  have h1 : dfC d vl = (bvs d.id ++ bvs d.par) ++ [vl] := by simp [dfC]
  have h2 : dfC d v = (bvs d.id ++ bvs d.par) ++ [v] := by simp [dfC]
  have h3 : (bvs d.id ++ bvs d.par).length = 64 := by simp [bvs, h.1, h.2.1]
  rw [h1, h2, List.setIfInBounds_toArray, ← h3, List.set_append_right _ _ (Nat.le_refl _), Nat.sub_self]
  rfl
end Go.Proofs.Ytekacgocjplfjaa
/-
  journal: slots, changes, diffs as data; slot.
  Conditions: none.
-/
namespace Go.Proofs.Ytekacgocjplfjaa
set_option linter.unusedVariables false
open Go.RowKit Mono Rlp Jn
namespace E
def dSl (s : Sl) : D := .tup [.arr 32 s.key, .arr 32 s.val]
def dCh (c : Ch) : D := .tup [.arr 20 c.addr, .v (.bool c.gone), .v (.int .i64 c.nonce), .arr 32 c.bal, .bs c.code, .sl 64 (c.slots.map dSl)]
def dDf (d : Df) : D := .tup [.arr 32 d.id, .arr 32 d.par, .sl 56 (d.chs.map dCh)]
def slotD (x : Raw) : R := .tpl [dSl (slotP x).1, .v (.bool (slotP x).2)]
theorem readV_sl {ok : Nat → Prop} {w : World} {s : Sl} (h : s.ok) : ReadV ok w (dSl s) (.agg (slC s).toArray) := (readV_agg rfl).2 ⟨slC s, by
  unfold dSl slC
  rw [Reads, ReadsL]
  refine ⟨_, _, rfl, by rw [Reads]; exact ⟨h.1, rfl⟩, ?_⟩
  rw [ReadsL]
  exact ⟨bvs s.val, [], by simp, by rw [Reads]; exact ⟨h.2, rfl⟩, by rw [ReadsL]⟩, rfl⟩
theorem f_slot (x : Raw) : Fn 58 [dItem x] (· = slotD x) := ⟨fun ok w xs hok hr => by
  obtain ⟨v, rfl, h⟩ := one_arg hr
  refine (j_slot v x w (isItem_of hok h)).mono ?_
  rintro e w' ⟨_, rfl, hg, rfl⟩
  exact ⟨hg, _, _, rfl, rfl, tpl2 (readV_sl (slotP_ok x)) (v_mk rfl)⟩⟩
def oneD (x : Raw) : R := .tpl [dCh ((chR x).getD zeroC), .v (.bool (chR x).isSome)]
theorem oneD_none {x : Raw} (h : chR x = none) : oneD x = .tpl [.tup [.arr 20 (List.replicate 20 0), .v (.bool false), .v (.int .i64 0), .arr 32 zero32, .bs [], .sl 64 []], .v (.bool false)] := by
  unfold oneD
  rw [h]
  rfl
end E
end Go.Proofs.Ytekacgocjplfjaa
/-
  journal: one.
  Conditions: none.
-/
namespace Go.Proofs.Ytekacgocjplfjaa
set_option linter.unusedVariables false
open Go.RowKit Mono Rlp Jn
namespace E
set_option maxRecDepth 20000 in
set_option maxHeartbeats 8000000 in
theorem f_one (x : Raw) (hE : (E x).length ≤ 16777216) : Fn 45 [dItem x] (· = oneD x) := by
  obtain ⟨lx, bx, xs⟩ := x
  by_cases hl : lx = true ∧ xs.length = 6
  · obtain ⟨rfl, hl⟩ := hl
    obtain ⟨⟨f0, b0, x0⟩, ⟨f1, b1, x1⟩, ⟨f2, b2, x2⟩, ⟨f3, b3, x3⟩, ⟨f4, b4, x4⟩, ⟨f5, b5, x5⟩, rfl⟩ : ∃ i0 i1 i2 i3 i4 i5, xs = [i0, i1, i2, i3, i4, i5] := by
      match xs, hl with
      | [a, b, c, d, e, f], _ => exact ⟨a, b, c, d, e, f, rfl⟩
    have hlen := dItems_length x5
    have h1 := f_Int (.mk f1 b1 x1)
    have h2 := f_Int (.mk f2 b2 x2)
    have h3 := f_Word (.mk f3 b3 x3)
    by_cases hg : goodC f0 b0 (.mk f1 b1 x1) (.mk f2 b2 x2) (.mk f3 b3 x3) f4 f5 = true
    · have hgood := chR_good (x0 := x0) (b4 := b4) (x4 := x4) (b5 := b5) (x5 := x5) (bx := bx) hg
      have hi := intR_bound (.mk f1 b1 x1)
      have hi2 := intR_bound (.mk f2 b2 x2)
      have hwl := word_lenD (.mk f3 b3 x3)
      unfold goodC at hg
      simp only [Bool.and_eq_true, Bool.not_eq_true', beq_iff_eq, decide_eq_true_eq] at hg
      obtain ⟨⟨⟨⟨⟨⟨⟨rfl, hb⟩, k1⟩, hn⟩, k2⟩, k3⟩, rfl⟩, rfl⟩ := hg
      obtain ⟨n, e1⟩ := Option.isSome_iff_exists.1 k1
      obtain ⟨m, e2⟩ := Option.isSome_iff_exists.1 k2
      obtain ⟨wl, e3⟩ := Option.isSome_iff_exists.1 k3
      have hx5 : x5.length ≤ 16777216 := by
        have := E_list_len bx [.mk false b0 x0, .mk f1 b1 x1, .mk f2 b2 x2, .mk f3 b3 x3, .mk false b4 x4, .mk true b5 x5]
        have := EL_mem [.mk false b0 x0, .mk f1 b1 x1, .mk f2 b2 x2, .mk f3 b3 x3, .mk false b4 x4, .mk true b5 x5] (.mk true b5 x5) (by simp)
        have := E_list_len b5 x5
        have := EL_len x5
        omega
      clear hE hl k1 k2 k3
      simp only [e1, e2, e3, Option.getD] at hgood hn hi hi2 hwl
      simp only [intD, wordD, e1, e2, e3, Option.getD, Option.isSome] at h1 h2 h3
      have hgv : ((n : Int) == 1) = (n == 1) := by
        have : n = 0 ∨ n = 1 := by omega
        rcases this with rfl | rfl <;> rfl
      simp only [← hgv] at hgood
      unfold oneD
      rw [hgood]
      clear hgood hgv
      refine Fn.walk 131 Try.func45 rfl Try.ntmps45 (by simp) fun X => ?_
      simp only [dItem, dItems]
      repeat
        (first
         | (apply P_skip; exact rfl)
         | (apply P_call (h1); exact rfl; (focus (repeat first | exact RefineL.refl _ _ | exact RL.nil | exact Rf.same | exact Rf.bs0 | exact Rf.sl0 | (apply Rf.fact; (focus (simp; done)); exact rfl) | apply Rf.tup | apply RL.cons)); (focus (intro _ _; simp [go_sem]; done)); (iterate 2 exact rfl))
         | (apply P_call (h2); exact rfl; (focus (repeat first | exact RefineL.refl _ _ | exact RL.nil | exact Rf.same | exact Rf.bs0 | exact Rf.sl0 | (apply Rf.fact; (focus (simp; done)); exact rfl) | apply Rf.tup | apply RL.cons)); (focus (intro _ _; simp [go_sem]; done)); (iterate 2 exact rfl))
         | (apply P_call (h3); exact rfl; (focus (repeat first | exact RefineL.refl _ _ | exact RL.nil | exact Rf.same | exact Rf.bs0 | exact Rf.sl0 | (apply Rf.fact; (focus (simp; done)); exact rfl) | apply Rf.tup | apply RL.cons)); (focus (intro _ _; simp [go_sem]; done)); (iterate 2 exact rfl))
         | (apply P_move; (iterate 3 exact rfl)) | (apply P_assign; (iterate 3 exact rfl)) | (apply P_field; (iterate 6 exact rfl)) | (apply P_fieldpd; (iterate 7 exact rfl))
         | (apply P_extract; (iterate 4 exact rfl)) | (apply P_loadpd; (iterate 5 exact rfl)) | (apply P_pick; (iterate 4 exact rfl)) | (apply P_not; (iterate 3 exact rfl))
         | (apply P_load; exact rfl; (first | exact I0 | exact I1 | exact I2 | exact I3 | exact I4 | exact I5 | exact I6); (iterate 4 exact rfl))
         | (apply P_cmp (b := true); (iterate 2 exact rfl); (focus (first | (simp [cmpI]; done) | (simp [cmpI]; omega))); (iterate 2 exact rfl))
         | (apply P_cmp (b := false); (iterate 2 exact rfl); (focus (first | (simp [cmpI]; done) | (simp [cmpI]; omega))); (iterate 2 exact rfl)) | (apply P_cmp; (iterate 5 exact rfl))
         | (apply P_ar; (iterate 3 exact rfl); (focus omega); (focus omega); (iterate 2 exact rfl)) | (apply P_lenbs; (iterate 4 exact rfl)) | (apply P_lensl; (iterate 4 exact rfl))
         | (apply P_lenrow; exact rfl; (first | exact I0 | exact I1 | exact I2 | exact I3 | exact I4 | exact I5 | exact I6); (iterate 3 exact rfl)) | (apply P_lenv; (iterate 4 exact rfl))
         | (apply P_index; (iterate 4 exact rfl); (focus (first | exact ⟨by decide, rfl⟩ | (refine ⟨by omega, ?_⟩; rw [Int.toNat_natCast]; assumption))); (iterate 2 exact rfl))
         | (apply P_indexbs; (iterate 3 exact rfl); (focus (first | exact ⟨by decide, rfl⟩ | (refine ⟨by omega, ?_⟩; rw [Int.toNat_natCast]; assumption))); (iterate 2 exact rfl))
         | (apply P_str; (iterate 3 exact rfl)) | (apply P_build; (iterate 7 exact rfl)) | (apply P_build0; (iterate 5 exact rfl)) | (apply P_lit; (iterate 9 exact rfl))
         | (apply P_s2a; (iterate 2 exact rfl); (focus (first | assumption | omega)); (iterate 3 exact rfl)) | (apply P_alloc; exact rfl; exact rfl; exact rfl; intro _)
         | (apply P_box; exact rfl; exact rfl; exact rfl; intro _) | (apply P_store; exact rfl; (focus (repeat first | exact .z | apply SetAt.s | apply SetAtF.s)); (iterate 4 exact rfl))
         | ((apply P_append; exact rfl; (focus (repeat first | exact .z | apply SetAt.s | apply SetAtF.s)); (iterate 5 exact rfl); (focus (constructor <;> (first | (simp; done) | (simp; omega))))); intro _)
         | apply EL.nil | ((with_reducible apply EK.then_normal); apply EK.code) | with_reducible apply EC.seq | with_reducible apply EC.region | (apply EC.cond_true; exact rfl)
         | (apply EC.cond_false; exact rfl) | with_reducible apply EC.skip | with_reducible apply EC.label | with_reducible apply EC.block | with_reducible apply EC.exit | with_reducible apply EC.ret
         | with_reducible apply EK.in_normal | with_reducible apply EK.in_same | ((with_reducible apply EK.in_other); exact rfl) | with_reducible apply EK.in_ret | with_reducible apply EK.then_ret
         | with_reducible apply EK.then_exit)
      refine EC.draw 16 (by kernel_rfl) ?_
      simp only [List.take_succ_cons, List.take_zero, List.drop_succ_cons, List.drop_zero]
      repeat
        (first
         | (apply H_skip; (iterate 2 exact rfl)) | (apply H_move; (iterate 3 exact rfl)) | (apply H_assign; (iterate 3 exact rfl)) | (apply H_field; (iterate 6 exact rfl))
         | (apply H_fieldpd; (iterate 7 exact rfl)) | (apply H_extract; (iterate 4 exact rfl)) | (apply H_loadpd; (iterate 5 exact rfl)) | (apply H_pick; (iterate 4 exact rfl))
         | (apply H_not; (iterate 3 exact rfl)) | (apply H_load; exact rfl; (first | exact I0 | exact I1 | exact I2 | exact I3 | exact I4 | exact I5 | exact I6); (iterate 4 exact rfl))
         | (apply H_cmp (b := true); (iterate 2 exact rfl); (focus (first | (simp [cmpI]; done) | (simp [cmpI]; omega))); (iterate 2 exact rfl))
         | (apply H_cmp (b := false); (iterate 2 exact rfl); (focus (first | (simp [cmpI]; done) | (simp [cmpI]; omega))); (iterate 2 exact rfl)) | (apply H_cmp; (iterate 5 exact rfl))
         | (apply H_ar; (iterate 3 exact rfl); (focus omega); (focus omega); (iterate 2 exact rfl)) | (apply H_lenbs; (iterate 4 exact rfl)) | (apply H_lensl; (iterate 4 exact rfl))
         | (apply H_lenrow; exact rfl; (first | exact I0 | exact I1 | exact I2 | exact I3 | exact I4 | exact I5 | exact I6); (iterate 3 exact rfl)) | (apply H_lenv; (iterate 4 exact rfl))
         | (apply H_index; (iterate 4 exact rfl); (focus (first | exact ⟨by decide, rfl⟩ | (refine ⟨by omega, ?_⟩; rw [Int.toNat_natCast]; assumption))); (iterate 2 exact rfl))
         | (apply H_indexbs; (iterate 3 exact rfl); (focus (first | exact ⟨by decide, rfl⟩ | (refine ⟨by omega, ?_⟩; rw [Int.toNat_natCast]; assumption))); (iterate 2 exact rfl))
         | (apply H_str; (iterate 3 exact rfl)) | (apply H_build; (iterate 7 exact rfl)) | (apply H_build0; (iterate 5 exact rfl)) | (apply H_lit; (iterate 9 exact rfl))
         | (apply H_s2a; (iterate 2 exact rfl); (focus (first | assumption | omega)); (iterate 3 exact rfl)) | (apply H_alloc; (iterate 3 exact rfl)) | (apply H_box; (iterate 3 exact rfl))
         | ((with_reducible apply EH.nil); exact rfl) | ((with_reducible apply EH.nil1); exact rfl; intro _) | ((with_reducible apply EH.nil2); exact rfl; intro _ _))
      repeat
        (first
         | (apply P_skip; exact rfl) | (apply P_move; (iterate 3 exact rfl)) | (apply P_assign; (iterate 3 exact rfl)) | (apply P_field; (iterate 6 exact rfl)) | (apply P_fieldpd; (iterate 7 exact rfl))
         | (apply P_extract; (iterate 4 exact rfl)) | (apply P_loadpd; (iterate 5 exact rfl)) | (apply P_pick; (iterate 4 exact rfl)) | (apply P_not; (iterate 3 exact rfl))
         | (apply P_load; exact rfl; (first | exact I0 | exact I1 | exact I2 | exact I3 | exact I4 | exact I5 | exact I6); (iterate 4 exact rfl))
         | (apply P_cmp (b := true); (iterate 2 exact rfl); (focus (first | (simp [cmpI]; done) | (simp [cmpI]; omega))); (iterate 2 exact rfl))
         | (apply P_cmp (b := false); (iterate 2 exact rfl); (focus (first | (simp [cmpI]; done) | (simp [cmpI]; omega))); (iterate 2 exact rfl)) | (apply P_cmp; (iterate 5 exact rfl))
         | (apply P_ar; (iterate 3 exact rfl); (focus omega); (focus omega); (iterate 2 exact rfl)) | (apply P_lenbs; (iterate 4 exact rfl)) | (apply P_lensl; (iterate 4 exact rfl))
         | (apply P_lenrow; exact rfl; (first | exact I0 | exact I1 | exact I2 | exact I3 | exact I4 | exact I5 | exact I6); (iterate 3 exact rfl)) | (apply P_lenv; (iterate 4 exact rfl))
         | (apply P_index; (iterate 4 exact rfl); (focus (first | exact ⟨by decide, rfl⟩ | (refine ⟨by omega, ?_⟩; rw [Int.toNat_natCast]; assumption))); (iterate 2 exact rfl))
         | (apply P_indexbs; (iterate 3 exact rfl); (focus (first | exact ⟨by decide, rfl⟩ | (refine ⟨by omega, ?_⟩; rw [Int.toNat_natCast]; assumption))); (iterate 2 exact rfl))
         | (apply P_str; (iterate 3 exact rfl)) | (apply P_build; (iterate 7 exact rfl)) | (apply P_build0; (iterate 5 exact rfl)) | (apply P_lit; (iterate 9 exact rfl))
         | (apply P_s2a; (iterate 2 exact rfl); (focus (first | assumption | omega)); (iterate 3 exact rfl)) | (apply P_alloc; exact rfl; exact rfl; exact rfl; intro _)
         | (apply P_box; exact rfl; exact rfl; exact rfl; intro _) | (apply P_store; exact rfl; (focus (repeat first | exact .z | apply SetAt.s | apply SetAtF.s)); (iterate 4 exact rfl))
         | ((apply P_append; exact rfl; (focus (repeat first | exact .z | apply SetAt.s | apply SetAtF.s)); (iterate 5 exact rfl); (focus (constructor <;> (first | (simp; done) | (simp; omega))))); intro _)
         | apply EL.nil | ((with_reducible apply EK.then_normal); apply EK.code) | with_reducible apply EC.seq | with_reducible apply EC.region | (apply EC.cond_true; exact rfl)
         | (apply EC.cond_false; exact rfl) | with_reducible apply EC.skip | with_reducible apply EC.label | with_reducible apply EC.block | with_reducible apply EC.exit | with_reducible apply EC.ret
         | with_reducible apply EK.in_normal | with_reducible apply EK.in_same | ((with_reducible apply EK.in_other); exact rfl) | with_reducible apply EK.in_ret | with_reducible apply EK.then_ret
         | with_reducible apply EK.then_exit)
      rename_i gx g2 g9 g11
      refine EC.le (Le.row 48 64) ?_
      refine EC.loop (ι := {p : Value × List Sl // p.2.length ≤ x5.length ∧ allR slotR (x5.take p.2.length) = some p.2})
        (fun p => ⟨[(111, .val (.v (.int .i64 (p.1.2.length : Int)))), (110, .val (.v (.int .i64 ((dItems x5).length : Int)))), (109, .val (.sl 3 (dItems x5))), (11, .val (.v (.pointer (some ⟨g11, 0, none⟩)))), (2, .val (.v (.pointer (some ⟨g2, 0, none⟩))))],
          [.row p.1.1 48 64 (p.1.2.map dSl), .var g11 51 (.tup [.arr 20 b0, .v (.bool ((n : Int) == 1)), .v (.int .i64 (m : Int)), .arr 32 wl, .bs b4, .v p.1.1]),
           .var g2 51 (.tup [.arr 20 (List.replicate 20 0), .v (.bool false), .v (.int .i64 0), .arr 32 zero32, .v (.slice none 0 0), .v (.slice none 0 0)])], []⟩)
        (fun p => x5.length - p.1.2.length) ⟨(.slice none 0 0, []), by simp, by simp [allR]⟩ ?_ ?_
      · exact (Le.keep (by repeat first | exact trivial | refine ⟨rfl, ?_⟩) (by repeat first | exact List.nil_sublist _ | apply List.Sublist.cons_cons | apply List.Sublist.cons) (by simp))
      rintro ⟨⟨sv, done⟩, hdl, hd⟩
      dsimp only at hdl hd ⊢
      by_cases hlt : done.length < x5.length
      · have hy : (dItems x5)[done.length]? = some (dItem x5[done.length]) := by rw [dItems_get, List.getElem?_eq_getElem hlt]; rfl
        have ht : ∀ s, slotR x5[done.length] = some s → allR slotR (x5.take (done.length + 1)) = some (done ++ [s]) := fun s h => allR_take hd hlt h
        have hno : slotR x5[done.length] = none → allR slotR x5 = none := fun h => allR_none h x5 (List.getElem_mem hlt)
        have hs := f_slot x5[done.length]
        generalize x5[done.length] = y at hy ht hno hs
        obtain ⟨yf, yb, yx⟩ := y
        simp only [dItem] at hy
        cases e : slotR (.mk yf yb yx) with
        | some s =>
          have := ht s e
          simp only [slotD, slotP_some e, dSl] at hs
          clear ht hno
          repeat
            (first
             | (apply P_skip; exact rfl)
             | (apply P_call (hs); exact rfl; (focus (repeat first | exact RefineL.refl _ _ | exact RL.nil | exact Rf.same | exact Rf.bs0 | exact Rf.sl0 | (apply Rf.fact; (focus (simp; done)); exact rfl) | apply Rf.tup | apply RL.cons)); (focus (intro _ _; simp [go_sem]; done)); (iterate 2 exact rfl))
             | (apply P_move; (iterate 3 exact rfl)) | (apply P_assign; (iterate 3 exact rfl)) | (apply P_field; (iterate 6 exact rfl)) | (apply P_fieldpd; (iterate 7 exact rfl))
             | (apply P_extract; (iterate 4 exact rfl)) | (apply P_loadpd; (iterate 5 exact rfl)) | (apply P_pick; (iterate 4 exact rfl)) | (apply P_not; (iterate 3 exact rfl))
             | (apply P_load; exact rfl; (first | exact I0 | exact I1 | exact I2 | exact I3 | exact I4 | exact I5 | exact I6); (iterate 4 exact rfl))
             | (apply P_cmp (b := true); (iterate 2 exact rfl); (focus (first | (simp [cmpI]; done) | (simp [cmpI]; omega))); (iterate 2 exact rfl))
             | (apply P_cmp (b := false); (iterate 2 exact rfl); (focus (first | (simp [cmpI]; done) | (simp [cmpI]; omega))); (iterate 2 exact rfl)) | (apply P_cmp; (iterate 5 exact rfl))
             | (apply P_ar; (iterate 3 exact rfl); (focus omega); (focus omega); (iterate 2 exact rfl)) | (apply P_lenbs; (iterate 4 exact rfl)) | (apply P_lensl; (iterate 4 exact rfl))
             | (apply P_lenrow; exact rfl; (first | exact I0 | exact I1 | exact I2 | exact I3 | exact I4 | exact I5 | exact I6); (iterate 3 exact rfl)) | (apply P_lenv; (iterate 4 exact rfl))
             | (apply P_index; (iterate 4 exact rfl); (focus (first | exact ⟨by decide, rfl⟩ | (refine ⟨by omega, ?_⟩; rw [Int.toNat_natCast]; assumption))); (iterate 2 exact rfl))
             | (apply P_indexbs; (iterate 3 exact rfl); (focus (first | exact ⟨by decide, rfl⟩ | (refine ⟨by omega, ?_⟩; rw [Int.toNat_natCast]; assumption))); (iterate 2 exact rfl))
             | (apply P_str; (iterate 3 exact rfl)) | (apply P_build; (iterate 7 exact rfl)) | (apply P_build0; (iterate 5 exact rfl)) | (apply P_lit; (iterate 9 exact rfl))
             | (apply P_s2a; (iterate 2 exact rfl); (focus (first | assumption | omega)); (iterate 3 exact rfl)) | (apply P_alloc; exact rfl; exact rfl; exact rfl; intro _)
             | (apply P_box; exact rfl; exact rfl; exact rfl; intro _) | (apply P_store; exact rfl; (focus (repeat first | exact .z | apply SetAt.s | apply SetAtF.s)); (iterate 4 exact rfl))
             | ((apply P_append; exact rfl; (focus (repeat first | exact .z | apply SetAt.s | apply SetAtF.s)); (iterate 5 exact rfl); (focus (constructor <;> (first | (simp; done) | (simp; omega))))); intro _)
             | apply EL.nil | ((with_reducible apply EK.then_normal); apply EK.code) | with_reducible apply EC.seq | with_reducible apply EC.region | (apply EC.cond_true; exact rfl)
             | (apply EC.cond_false; exact rfl) | with_reducible apply EC.skip | with_reducible apply EC.label | with_reducible apply EC.block | with_reducible apply EC.exit | with_reducible apply EC.ret
             | with_reducible apply EK.in_normal | with_reducible apply EK.in_same | ((with_reducible apply EK.in_other); exact rfl) | with_reducible apply EK.in_ret | with_reducible apply EK.then_ret
             | with_reducible apply EK.then_exit)
          rename_i sv'
          refine EK.again ⟨(sv', done ++ [s]), by simp; omega, by simpa using this⟩ (by simp; omega) ?_
          simp only [List.length_append, List.length_cons, List.length_nil, List.map_append, List.map_cons, List.map_nil, Int.natCast_add]
          exact (Le.keep (by repeat first | exact trivial | refine ⟨rfl, ?_⟩) (by repeat first | exact List.nil_sublist _ | apply List.Sublist.cons_cons | apply List.Sublist.cons) (by simp))
        | none =>
          have hno := hno e
          have := slotP_none e
          unfold slotD at hs
          rw [this] at hs
          rw [hno]
          clear ht this
          generalize (slotP (.mk yf yb yx)).1 = z at hs
          unfold dSl at hs
          repeat
            (first
             | (apply P_skip; exact rfl)
             | (apply P_call (hs); exact rfl; (focus (repeat first | exact RefineL.refl _ _ | exact RL.nil | exact Rf.same | exact Rf.bs0 | exact Rf.sl0 | (apply Rf.fact; (focus (simp; done)); exact rfl) | apply Rf.tup | apply RL.cons)); (focus (intro _ _; simp [go_sem]; done)); (iterate 2 exact rfl))
             | (apply P_move; (iterate 3 exact rfl)) | (apply P_assign; (iterate 3 exact rfl)) | (apply P_field; (iterate 6 exact rfl)) | (apply P_fieldpd; (iterate 7 exact rfl))
             | (apply P_extract; (iterate 4 exact rfl)) | (apply P_loadpd; (iterate 5 exact rfl)) | (apply P_pick; (iterate 4 exact rfl)) | (apply P_not; (iterate 3 exact rfl))
             | (apply P_load; exact rfl; (first | exact I0 | exact I1 | exact I2 | exact I3 | exact I4 | exact I5 | exact I6); (iterate 4 exact rfl))
             | (apply P_cmp (b := true); (iterate 2 exact rfl); (focus (first | (simp [cmpI]; done) | (simp [cmpI]; omega))); (iterate 2 exact rfl))
             | (apply P_cmp (b := false); (iterate 2 exact rfl); (focus (first | (simp [cmpI]; done) | (simp [cmpI]; omega))); (iterate 2 exact rfl)) | (apply P_cmp; (iterate 5 exact rfl))
             | (apply P_ar; (iterate 3 exact rfl); (focus omega); (focus omega); (iterate 2 exact rfl)) | (apply P_lenbs; (iterate 4 exact rfl)) | (apply P_lensl; (iterate 4 exact rfl))
             | (apply P_lenrow; exact rfl; (first | exact I0 | exact I1 | exact I2 | exact I3 | exact I4 | exact I5 | exact I6); (iterate 3 exact rfl)) | (apply P_lenv; (iterate 4 exact rfl))
             | (apply P_index; (iterate 4 exact rfl); (focus (first | exact ⟨by decide, rfl⟩ | (refine ⟨by omega, ?_⟩; rw [Int.toNat_natCast]; assumption))); (iterate 2 exact rfl))
             | (apply P_indexbs; (iterate 3 exact rfl); (focus (first | exact ⟨by decide, rfl⟩ | (refine ⟨by omega, ?_⟩; rw [Int.toNat_natCast]; assumption))); (iterate 2 exact rfl))
             | (apply P_str; (iterate 3 exact rfl)) | (apply P_build; (iterate 7 exact rfl)) | (apply P_build0; (iterate 5 exact rfl)) | (apply P_lit; (iterate 9 exact rfl))
             | (apply P_s2a; (iterate 2 exact rfl); (focus (first | assumption | omega)); (iterate 3 exact rfl)) | (apply P_alloc; exact rfl; exact rfl; exact rfl; intro _)
             | (apply P_box; exact rfl; exact rfl; exact rfl; intro _) | (apply P_store; exact rfl; (focus (repeat first | exact .z | apply SetAt.s | apply SetAtF.s)); (iterate 4 exact rfl))
             | ((apply P_append; exact rfl; (focus (repeat first | exact .z | apply SetAt.s | apply SetAtF.s)); (iterate 5 exact rfl); (focus (constructor <;> (first | (simp; done) | (simp; omega))))); intro _)
             | apply EL.nil | ((with_reducible apply EK.then_normal); apply EK.code) | with_reducible apply EC.seq | with_reducible apply EC.region | (apply EC.cond_true; exact rfl)
             | (apply EC.cond_false; exact rfl) | with_reducible apply EC.skip | with_reducible apply EC.label | with_reducible apply EC.block | with_reducible apply EC.exit | with_reducible apply EC.ret
             | with_reducible apply EK.in_normal | with_reducible apply EK.in_same | ((with_reducible apply EK.in_other); exact rfl) | with_reducible apply EK.in_ret | with_reducible apply EK.then_ret
             | with_reducible apply EK.then_exit)
          refine EK.retc2r 4 rfl rfl rfl rfl rfl ?_ rfl
          (repeat first | exact RefineL.refl _ _ | exact RL.nil | exact Rf.same | exact Rf.bs0 | exact Rf.sl0 | (apply Rf.fact; (focus (simp; done)); exact rfl) | apply Rf.tup | apply RL.cons)
      · have e : allR slotR x5 = some done := by rw [← hd, List.take_of_length_le (by omega)]
        rw [e]
        repeat
          (first
           | (apply P_skip; exact rfl) | (apply P_move; (iterate 3 exact rfl)) | (apply P_assign; (iterate 3 exact rfl)) | (apply P_field; (iterate 6 exact rfl)) | (apply P_fieldpd; (iterate 7 exact rfl))
           | (apply P_extract; (iterate 4 exact rfl)) | (apply P_loadpd; (iterate 5 exact rfl)) | (apply P_pick; (iterate 4 exact rfl)) | (apply P_not; (iterate 3 exact rfl))
           | (apply P_load; exact rfl; (first | exact I0 | exact I1 | exact I2 | exact I3 | exact I4 | exact I5 | exact I6); (iterate 4 exact rfl))
           | (apply P_cmp (b := true); (iterate 2 exact rfl); (focus (first | (simp [cmpI]; done) | (simp [cmpI]; omega))); (iterate 2 exact rfl))
           | (apply P_cmp (b := false); (iterate 2 exact rfl); (focus (first | (simp [cmpI]; done) | (simp [cmpI]; omega))); (iterate 2 exact rfl)) | (apply P_cmp; (iterate 5 exact rfl))
           | (apply P_ar; (iterate 3 exact rfl); (focus omega); (focus omega); (iterate 2 exact rfl)) | (apply P_lenbs; (iterate 4 exact rfl)) | (apply P_lensl; (iterate 4 exact rfl))
           | (apply P_lenrow; exact rfl; (first | exact I0 | exact I1 | exact I2 | exact I3 | exact I4 | exact I5 | exact I6); (iterate 3 exact rfl)) | (apply P_lenv; (iterate 4 exact rfl))
           | (apply P_index; (iterate 4 exact rfl); (focus (first | exact ⟨by decide, rfl⟩ | (refine ⟨by omega, ?_⟩; rw [Int.toNat_natCast]; assumption))); (iterate 2 exact rfl))
           | (apply P_indexbs; (iterate 3 exact rfl); (focus (first | exact ⟨by decide, rfl⟩ | (refine ⟨by omega, ?_⟩; rw [Int.toNat_natCast]; assumption))); (iterate 2 exact rfl))
           | (apply P_str; (iterate 3 exact rfl)) | (apply P_build; (iterate 7 exact rfl)) | (apply P_build0; (iterate 5 exact rfl)) | (apply P_lit; (iterate 9 exact rfl))
           | (apply P_s2a; (iterate 2 exact rfl); (focus (first | assumption | omega)); (iterate 3 exact rfl)) | (apply P_alloc; exact rfl; exact rfl; exact rfl; intro _)
           | (apply P_box; exact rfl; exact rfl; exact rfl; intro _) | (apply P_store; exact rfl; (focus (repeat first | exact .z | apply SetAt.s | apply SetAtF.s)); (iterate 4 exact rfl))
           | ((apply P_append; exact rfl; (focus (repeat first | exact .z | apply SetAt.s | apply SetAtF.s)); (iterate 5 exact rfl); (focus (constructor <;> (first | (simp; done) | (simp; omega))))); intro _)
           | apply EL.nil | ((with_reducible apply EK.then_normal); apply EK.code) | with_reducible apply EC.seq | with_reducible apply EC.region | (apply EC.cond_true; exact rfl)
           | (apply EC.cond_false; exact rfl) | with_reducible apply EC.skip | with_reducible apply EC.label | with_reducible apply EC.block | with_reducible apply EC.exit | with_reducible apply EC.ret
           | with_reducible apply EK.in_normal | with_reducible apply EK.in_same | ((with_reducible apply EK.in_other); exact rfl) | with_reducible apply EK.in_ret | with_reducible apply EK.then_ret
           | with_reducible apply EK.then_exit)
        refine EK.le (Le.freeze (pre := []) rfl) ?_
        refine EK.retc2r 1 rfl rfl rfl rfl rfl ?_ rfl
        (repeat first | exact RefineL.refl _ _ | exact RL.nil | exact Rf.same | exact Rf.bs0 | exact Rf.sl0 | (apply Rf.fact; (focus (simp; done)); exact rfl) | apply Rf.tup | apply RL.cons)
        trace_state
    · have hn := chR_bad (x0 := x0) (b4 := b4) (x4 := x4) (b5 := b5) (x5 := x5) (bx := bx) (Bool.eq_false_iff.2 hg)
      rw [oneD_none hn]
      clear hn
      have hi := intR_bound (.mk f1 b1 x1)
      refine Fn.walk 131 Try.func45 rfl Try.ntmps45 (by simp) fun X => ?_
      simp only [dItem, dItems]
      have step : ∀ (P : Prop), (f0 = true → P) → (f0 = false → b0.length ≠ 20 → P) → (f0 = false → b0.length = 20 → intR (.mk f1 b1 x1) = none → P) → (∀ n, f0 = false → b0.length = 20 → intR (.mk f1 b1 x1) = some n → 1 < n → n ≤ 9223372036854775807 → P) →
        (∀ n, f0 = false → b0.length = 20 → intR (.mk f1 b1 x1) = some n → n ≤ 1 → intR (.mk f2 b2 x2) = none → P) → (∀ n m, f0 = false → b0.length = 20 → intR (.mk f1 b1 x1) = some n → n ≤ 1 → intR (.mk f2 b2 x2) = some m → wordR (.mk f3 b3 x3) = none → P) →
        (∀ n m l, f0 = false → b0.length = 20 → intR (.mk f1 b1 x1) = some n → n ≤ 1 → intR (.mk f2 b2 x2) = some m → wordR (.mk f3 b3 x3) = some l → f4 = true → P) → (∀ n m l, f0 = false → b0.length = 20 → intR (.mk f1 b1 x1) = some n → n ≤ 1 → intR (.mk f2 b2 x2) = some m → wordR (.mk f3 b3 x3) = some l → f4 = false → f5 = false → P) → P := by
        intro P p1 p2 p3 p4 p5 p6 p7 p8
        cases h0 : f0 with
        | true => exact p1 h0
        | false =>
          by_cases hb : b0.length = 20
          · cases e1 : intR (.mk f1 b1 x1) with
            | none => exact p3 h0 hb e1
            | some n =>
              by_cases hn : n ≤ 1
              · cases e2 : intR (.mk f2 b2 x2) with
                | none => exact p5 n h0 hb e1 hn e2
                | some m =>
                  cases e3 : wordR (.mk f3 b3 x3) with
                  | none => exact p6 n m h0 hb e1 hn e2 e3
                  | some l =>
                    cases h4 : f4 with
                    | true => exact p7 n m l h0 hb e1 hn e2 e3 h4
                    | false =>
                      cases h5 : f5 with
                      | true =>
                        exfalso
                        apply hg
                        unfold goodC
                        rw [h0, h4, h5, e1, e2, e3]
                        simp [hb, hn]
                      | false => exact p8 n m l h0 hb e1 hn e2 e3 h4 h5
              · exact p4 n h0 hb e1 (by omega) (by rw [e1] at hi; exact hi)
          · exact p2 h0 hb
      refine step _ ?_ ?_ ?_ ?_ ?_ ?_ ?_ ?_
      all_goals
        intros
        subst_vars
        simp only [intD, wordD, *, Option.getD, Option.isSome] at h1 h2 h3
        clear step hg
        repeat
          (first
           | (apply P_skip; exact rfl)
           | (apply P_call (h1); exact rfl; (focus (repeat first | exact RefineL.refl _ _ | exact RL.nil | exact Rf.same | exact Rf.bs0 | exact Rf.sl0 | (apply Rf.fact; (focus (simp; done)); exact rfl) | apply Rf.tup | apply RL.cons)); (focus (intro _ _; simp [go_sem]; done)); (iterate 2 exact rfl))
           | (apply P_call (h2); exact rfl; (focus (repeat first | exact RefineL.refl _ _ | exact RL.nil | exact Rf.same | exact Rf.bs0 | exact Rf.sl0 | (apply Rf.fact; (focus (simp; done)); exact rfl) | apply Rf.tup | apply RL.cons)); (focus (intro _ _; simp [go_sem]; done)); (iterate 2 exact rfl))
           | (apply P_call (h3); exact rfl; (focus (repeat first | exact RefineL.refl _ _ | exact RL.nil | exact Rf.same | exact Rf.bs0 | exact Rf.sl0 | (apply Rf.fact; (focus (simp; done)); exact rfl) | apply Rf.tup | apply RL.cons)); (focus (intro _ _; simp [go_sem]; done)); (iterate 2 exact rfl))
           | (apply P_move; (iterate 3 exact rfl)) | (apply P_assign; (iterate 3 exact rfl)) | (apply P_field; (iterate 6 exact rfl)) | (apply P_fieldpd; (iterate 7 exact rfl))
           | (apply P_extract; (iterate 4 exact rfl)) | (apply P_loadpd; (iterate 5 exact rfl)) | (apply P_pick; (iterate 4 exact rfl)) | (apply P_not; (iterate 3 exact rfl))
           | (apply P_load; exact rfl; (first | exact I0 | exact I1 | exact I2 | exact I3 | exact I4 | exact I5 | exact I6); (iterate 4 exact rfl))
           | (apply P_cmp (b := true); (iterate 2 exact rfl); (focus (first | (simp [cmpI]; done) | (simp [cmpI]; omega))); (iterate 2 exact rfl))
           | (apply P_cmp (b := false); (iterate 2 exact rfl); (focus (first | (simp [cmpI]; done) | (simp [cmpI]; omega))); (iterate 2 exact rfl)) | (apply P_cmp; (iterate 5 exact rfl))
           | (apply P_ar; (iterate 3 exact rfl); (focus omega); (focus omega); (iterate 2 exact rfl)) | (apply P_lenbs; (iterate 4 exact rfl)) | (apply P_lensl; (iterate 4 exact rfl))
           | (apply P_lenrow; exact rfl; (first | exact I0 | exact I1 | exact I2 | exact I3 | exact I4 | exact I5 | exact I6); (iterate 3 exact rfl)) | (apply P_lenv; (iterate 4 exact rfl))
           | (apply P_index; (iterate 4 exact rfl); (focus (first | exact ⟨by decide, rfl⟩ | (refine ⟨by omega, ?_⟩; rw [Int.toNat_natCast]; assumption))); (iterate 2 exact rfl))
           | (apply P_indexbs; (iterate 3 exact rfl); (focus (first | exact ⟨by decide, rfl⟩ | (refine ⟨by omega, ?_⟩; rw [Int.toNat_natCast]; assumption))); (iterate 2 exact rfl))
           | (apply P_str; (iterate 3 exact rfl)) | (apply P_build; (iterate 7 exact rfl)) | (apply P_build0; (iterate 5 exact rfl)) | (apply P_lit; (iterate 9 exact rfl))
           | (apply P_s2a; (iterate 2 exact rfl); (focus (first | assumption | omega)); (iterate 3 exact rfl)) | (apply P_alloc; exact rfl; exact rfl; exact rfl; intro _)
           | (apply P_box; exact rfl; exact rfl; exact rfl; intro _) | (apply P_store; exact rfl; (focus (repeat first | exact .z | apply SetAt.s | apply SetAtF.s)); (iterate 4 exact rfl))
           | ((apply P_append; exact rfl; (focus (repeat first | exact .z | apply SetAt.s | apply SetAtF.s)); (iterate 5 exact rfl); (focus (constructor <;> (first | (simp; done) | (simp; omega))))); intro _)
           | apply EL.nil | ((with_reducible apply EK.then_normal); apply EK.code) | with_reducible apply EC.seq | with_reducible apply EC.region | (apply EC.cond_true; exact rfl)
           | (apply EC.cond_false; exact rfl) | with_reducible apply EC.skip | with_reducible apply EC.label | with_reducible apply EC.block | with_reducible apply EC.exit | with_reducible apply EC.ret
           | with_reducible apply EK.in_normal | with_reducible apply EK.in_same | ((with_reducible apply EK.in_other); exact rfl) | with_reducible apply EK.in_ret | with_reducible apply EK.then_ret
           | with_reducible apply EK.then_exit)
        refine EK.retc2r 1 rfl rfl rfl rfl rfl ?_ rfl
        (repeat first | exact RefineL.refl _ _ | exact RL.nil | exact Rf.same | exact Rf.bs0 | exact Rf.sl0 | (apply Rf.fact; (focus (simp; done)); exact rfl) | apply Rf.tup | apply RL.cons)
  · have hn : chR (.mk lx bx xs) = none := chR_list (x := .mk lx bx xs) (fun a g n w c s e => hl (by
      obtain ⟨c, e⟩ := isL_E e
      injection e with e1 e2 e3
      subst e1 e3
      exact ⟨rfl, rfl⟩))
    rw [oneD_none hn]
    refine Fn.walk 131 Try.func45 rfl Try.ntmps45 (by simp) fun X => ?_
    rw [dItem]
    have hlen := dItems_length xs
    cases lx with
    | false =>
      repeat
        (first
         | (apply P_skip; exact rfl) | (apply P_move; (iterate 3 exact rfl)) | (apply P_assign; (iterate 3 exact rfl)) | (apply P_field; (iterate 6 exact rfl)) | (apply P_fieldpd; (iterate 7 exact rfl))
         | (apply P_extract; (iterate 4 exact rfl)) | (apply P_loadpd; (iterate 5 exact rfl)) | (apply P_pick; (iterate 4 exact rfl)) | (apply P_not; (iterate 3 exact rfl))
         | (apply P_load; exact rfl; (first | exact I0 | exact I1 | exact I2 | exact I3 | exact I4 | exact I5 | exact I6); (iterate 4 exact rfl))
         | (apply P_cmp (b := true); (iterate 2 exact rfl); (focus (first | (simp [cmpI]; done) | (simp [cmpI]; omega))); (iterate 2 exact rfl))
         | (apply P_cmp (b := false); (iterate 2 exact rfl); (focus (first | (simp [cmpI]; done) | (simp [cmpI]; omega))); (iterate 2 exact rfl)) | (apply P_cmp; (iterate 5 exact rfl))
         | (apply P_ar; (iterate 3 exact rfl); (focus omega); (focus omega); (iterate 2 exact rfl)) | (apply P_lenbs; (iterate 4 exact rfl)) | (apply P_lensl; (iterate 4 exact rfl))
         | (apply P_lenrow; exact rfl; (first | exact I0 | exact I1 | exact I2 | exact I3 | exact I4 | exact I5 | exact I6); (iterate 3 exact rfl)) | (apply P_lenv; (iterate 4 exact rfl))
         | (apply P_index; (iterate 4 exact rfl); (focus (first | exact ⟨by decide, rfl⟩ | (refine ⟨by omega, ?_⟩; rw [Int.toNat_natCast]; assumption))); (iterate 2 exact rfl))
         | (apply P_indexbs; (iterate 3 exact rfl); (focus (first | exact ⟨by decide, rfl⟩ | (refine ⟨by omega, ?_⟩; rw [Int.toNat_natCast]; assumption))); (iterate 2 exact rfl))
         | (apply P_str; (iterate 3 exact rfl)) | (apply P_build; (iterate 7 exact rfl)) | (apply P_build0; (iterate 5 exact rfl)) | (apply P_lit; (iterate 9 exact rfl))
         | (apply P_s2a; (iterate 2 exact rfl); (focus (first | assumption | omega)); (iterate 3 exact rfl)) | (apply P_alloc; exact rfl; exact rfl; exact rfl; intro _)
         | (apply P_box; exact rfl; exact rfl; exact rfl; intro _) | (apply P_store; exact rfl; (focus (repeat first | exact .z | apply SetAt.s | apply SetAtF.s)); (iterate 4 exact rfl))
         | ((apply P_append; exact rfl; (focus (repeat first | exact .z | apply SetAt.s | apply SetAtF.s)); (iterate 5 exact rfl); (focus (constructor <;> (first | (simp; done) | (simp; omega))))); intro _)
         | apply EL.nil | ((with_reducible apply EK.then_normal); apply EK.code) | with_reducible apply EC.seq | with_reducible apply EC.region | (apply EC.cond_true; exact rfl)
         | (apply EC.cond_false; exact rfl) | with_reducible apply EC.skip | with_reducible apply EC.label | with_reducible apply EC.block | with_reducible apply EC.exit | with_reducible apply EC.ret
         | with_reducible apply EK.in_normal | with_reducible apply EK.in_same | ((with_reducible apply EK.in_other); exact rfl) | with_reducible apply EK.in_ret | with_reducible apply EK.then_ret
         | with_reducible apply EK.then_exit)
      refine EK.retc2r 0 rfl rfl rfl rfl rfl ?_ rfl
      (repeat first | exact RefineL.refl _ _ | exact RL.nil | exact Rf.same | exact Rf.bs0 | exact Rf.sl0 | (apply Rf.fact; (focus (simp; done)); exact rfl) | apply Rf.tup | apply RL.cons)
    | true =>
      have h6 : ¬ xs.length = 6 := fun e => hl ⟨rfl, e⟩
      repeat
        (first
         | (apply P_skip; exact rfl) | (apply P_move; (iterate 3 exact rfl)) | (apply P_assign; (iterate 3 exact rfl)) | (apply P_field; (iterate 6 exact rfl)) | (apply P_fieldpd; (iterate 7 exact rfl))
         | (apply P_extract; (iterate 4 exact rfl)) | (apply P_loadpd; (iterate 5 exact rfl)) | (apply P_pick; (iterate 4 exact rfl)) | (apply P_not; (iterate 3 exact rfl))
         | (apply P_load; exact rfl; (first | exact I0 | exact I1 | exact I2 | exact I3 | exact I4 | exact I5 | exact I6); (iterate 4 exact rfl))
         | (apply P_cmp (b := true); (iterate 2 exact rfl); (focus (first | (simp [cmpI]; done) | (simp [cmpI]; omega))); (iterate 2 exact rfl))
         | (apply P_cmp (b := false); (iterate 2 exact rfl); (focus (first | (simp [cmpI]; done) | (simp [cmpI]; omega))); (iterate 2 exact rfl)) | (apply P_cmp; (iterate 5 exact rfl))
         | (apply P_ar; (iterate 3 exact rfl); (focus omega); (focus omega); (iterate 2 exact rfl)) | (apply P_lenbs; (iterate 4 exact rfl)) | (apply P_lensl; (iterate 4 exact rfl))
         | (apply P_lenrow; exact rfl; (first | exact I0 | exact I1 | exact I2 | exact I3 | exact I4 | exact I5 | exact I6); (iterate 3 exact rfl)) | (apply P_lenv; (iterate 4 exact rfl))
         | (apply P_index; (iterate 4 exact rfl); (focus (first | exact ⟨by decide, rfl⟩ | (refine ⟨by omega, ?_⟩; rw [Int.toNat_natCast]; assumption))); (iterate 2 exact rfl))
         | (apply P_indexbs; (iterate 3 exact rfl); (focus (first | exact ⟨by decide, rfl⟩ | (refine ⟨by omega, ?_⟩; rw [Int.toNat_natCast]; assumption))); (iterate 2 exact rfl))
         | (apply P_str; (iterate 3 exact rfl)) | (apply P_build; (iterate 7 exact rfl)) | (apply P_build0; (iterate 5 exact rfl)) | (apply P_lit; (iterate 9 exact rfl))
         | (apply P_s2a; (iterate 2 exact rfl); (focus (first | assumption | omega)); (iterate 3 exact rfl)) | (apply P_alloc; exact rfl; exact rfl; exact rfl; intro _)
         | (apply P_box; exact rfl; exact rfl; exact rfl; intro _) | (apply P_store; exact rfl; (focus (repeat first | exact .z | apply SetAt.s | apply SetAtF.s)); (iterate 4 exact rfl))
         | ((apply P_append; exact rfl; (focus (repeat first | exact .z | apply SetAt.s | apply SetAtF.s)); (iterate 5 exact rfl); (focus (constructor <;> (first | (simp; done) | (simp; omega))))); intro _)
         | apply EL.nil | ((with_reducible apply EK.then_normal); apply EK.code) | with_reducible apply EC.seq | with_reducible apply EC.region | (apply EC.cond_true; exact rfl)
         | (apply EC.cond_false; exact rfl) | with_reducible apply EC.skip | with_reducible apply EC.label | with_reducible apply EC.block | with_reducible apply EC.exit | with_reducible apply EC.ret
         | with_reducible apply EK.in_normal | with_reducible apply EK.in_same | ((with_reducible apply EK.in_other); exact rfl) | with_reducible apply EK.in_ret | with_reducible apply EK.then_ret
         | with_reducible apply EK.then_exit)
      refine EK.retc2r 0 rfl rfl rfl rfl rfl ?_ rfl
      (repeat first | exact RefineL.refl _ _ | exact RL.nil | exact Rf.same | exact Rf.bs0 | exact Rf.sl0 | (apply Rf.fact; (focus (simp; done)); exact rfl) | apply Rf.tup | apply RL.cons)
end E
end Go.Proofs.Ytekacgocjplfjaa
