/-
  RlpNumbers: the items of numbers and words, and which items are some.
  Conditions: none.
-/
import Derived.Test.YtfpigemikpbbhaaNum6
import Derived.Test.YtfpigemikpbbhaaLawSize
import Derived.Test.YtfpigemikpbbhaaSame
import Derived.Test.YtfpigemikpbbhaaRlpAlive
namespace Go.Proofs.Ytfpigemikpbbhaa
set_option linter.unusedVariables false
open Go.RowKit Mono Rlp

namespace Mono
section
variable {P : Program} {ops : Array Oper} {C : World → Prop}
/-- Two slots that are known by predicates are made into a value that is known. -/
theorem wpN_conv2 {R : Act → World → Prop} {a : Act} {N : List (Tmp × VP)} {o : Oper} {l : List Oper} (t u : Tmp) (V U : VP) (c : Value) (ht : t ∈ o.looksAt ops) (hu : u ∈ o.looksAt ops) (hN : look N t = some V) (hM : look N u = some U)
    (hf : (guardFree ops o (N.map (·.1)) && dstFree o (N.map (·.1))) = true) (hw : Region.wanted o (yielded ops a.tmps) = true)
    (hop : ∀ (b : Act) (w : World), C w → V (b.tmps.getD t undef) w → U (b.tmps.getD u undef) w → growsTo P (eqV c) w ((execOp b.eval o).run P w)) (hr : wpN P ops C R l (a.put o.dst c) N) : wpN P ops C R (o :: l) a N := by
  simp only [Bool.and_eq_true] at hf
  refine wpN_det c hf.2 (fun b w hC hb => ?_) hr
  have h1 := hb t ht
  have h4 := hb u hu
  unfold phiN at h1 h4
  rw [hN] at h1
  rw [hM] at h4
  have hwb : Region.wanted o (yielded ops b.tmps) = true := by
    rw [wanted_guard (a := a) (b := b) fun g want d hg hd => ?_, hw]
    have h2 := hb d (guard_looks hg hd)
    have h3 := hf.1
    unfold guardFree at h3
    simp only [hg, hd] at h3
    unfold phiN at h2
    rw [look_none N (by simpa using h3)] at h2
    exact h2
  exact ⟨fun _ => hop b w hC h1 h4, fun hnot => by rw [hwb] at hnot; cases hnot⟩
end
end Mono
/-- A call whose two operands are slots. -/
theorem growsTo_call2 {V : VP} {w : World} {o : Oper} {b : Act} {f : FuncId} {t u : Tmp} {ty uy : TypeId} (ho : o.op = .call { callee := .value (.func f), args := #[.tmp t, .tmp u], argTypes := #[ty, uy] })
    (hf : ∀ args w, (callFunc f args).run Try.prog w = .ok (.enter f args) w)
    (hc : Calls Try.prog f #[b.tmps.getD t undef, b.tmps.getD u undef] w fun e w' => ∃ v, e = .returned v ∧ Gr w w' ∧ V v w') : growsTo Try.prog V w ((execOp b.eval o).run Try.prog w) := by
  refine growsTo_call (f := f) (args := #[b.tmps.getD t undef, b.tmps.getD u undef]) ?_ hc
  unfold execOp
  rw [ho]
  simp [go_sem, Act.eval, hf]
theorem enter_same (args : Array Value) (w : World) : (callFunc 40 args).run Try.prog w = .ok (.enter 40 args) w := by simp [go_sem]
set_option maxRecDepth 20000 in
set_option maxHeartbeats 4000000 in
theorem numbers_all (z : Int) (l : List UInt8) (v : Value) (x : Raw) (w : World) (hl : l.length = 32) (h : IsItem w v x) (hz1 : -9223372036854775808 ≤ z) (hz2 : z ≤ 9223372036854775807) :
    Calls Try.prog 10 #[.int .i64 z, arrV l, v] w (Ret (eqV (.bool true)) w) := by
  have HX := Lib.hid h
  obtain ⟨lx, bx, xs⟩ := x
  obtain ⟨vb1, vl1, rfl, ⟨A0, c0, rfl, hc0, hm0, _⟩, A1, c1, rows1, rfl, hc1, hm1, _⟩ := isItem_form h
  unfold maxLen at hm0 hm1
  clear h
  generalize bx.length = n0 at HX hc0 ⊢
  generalize xs.length = n1 at HX hc1 ⊢
  generalize Raw.mk lx bx xs = x at HX ⊢
  have HLL := Lib.hid hl
  -- what the four tell
  have HW : Hid (wordV x = .tuple #[arrV ((wordR x).getD zero32), .bool (wordR x).isSome]) := Lib.hid rfl
  have HI : Hid (intV x = .tuple #[.int .i64 (((intR x).getD 0 : Nat) : Int), .bool (intR x).isSome]) := Lib.hid rfl
  have hwl : ((wordR x).getD zero32).length = 32 := by
    cases hw : wordR x with
    | none => exact zero32_length
    | some l => exact wordR_length hw
  have hwz : (wordR x).isSome = false → (wordR x).getD zero32 = zero32 := fun h => by rw [Option.isSome_eq_false_iff.1 h |> Option.isNone_iff_eq_none.1]; rfl
  have hiz : (intR x).isSome = false → (intR x).getD 0 = 0 := fun h => by rw [Option.isSome_eq_false_iff.1 h |> Option.isNone_iff_eq_none.1]; rfl
  generalize (wordR x).isSome = wok at HW hwz
  generalize (wordR x).getD zero32 = wl at HW hwl hwz
  generalize (intR x).isSome = iok at HI hiz
  generalize (intR x).getD 0 = m at HI hiz
  have HWL := Lib.hid hwl
  have hew : ∀ w : World, (binOp .eql 36 (arrV wl) (arrV wl)).run Try.prog w = .ok (.bool true) w := fun w => by rw [run_eql_word w _ _ hwl hwl]; simp
  have heq := fun (w : World) (x y : Operand) => guard_eql_word w x y wl wl
  have HEW := Lib.hid hew
  have HEQ := Lib.hid heq
  have HE1 := Lib.hid (same_self (.mk false (be z.toNat) []))
  have HE2 := Lib.hid (same_self (.mk false (strip l) []))
  clear hwl hew heq
  cases wok <;> cases iok
  all_goals have HZ := Lib.hid hwz
  all_goals (try (obtain rfl := hiz rfl))
  all_goals clear hwz hiz
  all_goals go_enter Try.func10, Try.ntmps10
  all_goals go_wp2_with first
    | (guard_target = wpList _ _ _ (Oper.mk _ (Op.box _ _) _ _ _ _ :: _) _ _; refine wpL_box_word w.heap.size rfl (.tmp 1) l rfl rfl rfl ?_; intro w0 hA0 hG0 hs0)
    | (go_at_call 31; refine (rlp_alive _).mono ?_; rintro e w1 ⟨_, rfl, hg1, rfl⟩; have HG1 := Lib.hid ((hG0.out.trans (gr_alloc w0 _)).trans hg1); have HA1 := Lib.hid ((hA0.out.gr (gr_alloc w0 _)).gr hg1); have HR1 := Lib.hid ((hg1.block (w.heap.size + 1) (by simp [hs0])).trans (heap_at w0 (.cells #[.bool lx, .slice A0 n0 c0, .slice A1 n1 c1] 45) _ hs0.symm)); have hs1 := hg1.size; obtain ⟨q0, q1, q2⟩ := cells_of3 HR1.out; clear hg1)
    | (go_at_call 32; refine (law_big x _ _ (HX.out.gr HG1.out)).mono ?_; rintro e w2 ⟨_, rfl, hg2, rfl⟩; have HG2 := Lib.hid (HG1.out.trans hg2); have HA2 := Lib.hid (HA1.out.gr hg2); have HR2 := Lib.hid ((hg2.block _ (lt_of_some HR1.out)).trans HR1.out); have hs2 := hg2.size; clear hg2 q0 q1 q2; obtain ⟨q0, q1, q2⟩ := cells_of3 HR2.out; generalize bigR x = big)
    | (go_at_call 36; refine (rlp_Int _ x _ (HX.out.gr HG2.out)).mono ?_; rintro e w3 ⟨v3, rfl, hg3, hv3⟩; rw [eqV, HI.out] at hv3; subst hv3; have HG3 := Lib.hid (HG2.out.trans hg3); have HA3 := Lib.hid (HA2.out.gr hg3); have HR3 := Lib.hid ((hg3.block _ (lt_of_some HR2.out)).trans HR2.out); have hs3 := hg3.size; clear hg3 q0 q1 q2; obtain ⟨q0, q1, q2⟩ := cells_of3 HR3.out)
    | (go_at_call 37; refine (ref_IntOf _ x _ (HX.out.gr HG3.out)).mono ?_; rintro e w4 ⟨v4, rfl, hg4, hv4⟩; rw [eqV, HI.out] at hv4; subst hv4; have HG4 := Lib.hid (HG3.out.trans hg4); have HA4 := Lib.hid (HA3.out.gr hg4); have HR4 := Lib.hid ((hg4.block _ (lt_of_some HR3.out)).trans HR3.out); have hs4 := hg4.size; clear hg4 q0 q1 q2; obtain ⟨q0, q1, q2⟩ := cells_of3 HR4.out)
    | (go_at_call 38; refine (rlp_Word _ x _ (HX.out.gr HG4.out)).mono ?_; rintro e w5 ⟨v5, rfl, hg5, hv5⟩; rw [eqV, HW.out] at hv5; subst hv5; have HG5 := Lib.hid (HG4.out.trans hg5); have HA5 := Lib.hid (HA4.out.gr hg5); have HR5 := Lib.hid ((hg5.block _ (lt_of_some HR4.out)).trans HR4.out); have hs5 := hg5.size; clear hg5 q0 q1 q2)
    | (guard_target = wpList _ _ _ (Oper.mk _ (Op.alloc _) _ _ _ _ :: _) _ _; refine wpL_alloc_word w7.heap.size rfl rfl rfl ?_; intro w8 hA8 hG8 hs8)
    | (guard_target = wpList _ _ _ (Oper.mk _ (Op.alloc _) _ _ _ _ :: _) _ _; refine wpL_alloc_word w5.heap.size rfl rfl rfl ?_; intro w6 hA6 hG6 hs6)
    | (guard_target = wpList _ _ _ (Oper.mk _ (Op.store _ _ _) _ _ _ _ :: _) _ _; refine wpList_store_row rfl 36 (.tmp 13) (.tmp 39) rfl w5.heap.size (bvs wl).toArray rfl rfl 36 _ hA6.out (arr_info _ HWL.out) (by rw [arr_size _ HWL.out]; rfl) (arr_one _) ?_; have HB6 : Hid (Arr (w6.setRow w5.heap.size (bvs wl).toArray) w5.heap.size 36 wl) := Lib.hid (arr_setRow hA6.out); have HX6 : Hid (Gr w5 (w6.setRow w5.heap.size (bvs wl).toArray)) := Lib.hid (gr_setRow hG6.out _ _ (Nat.le_refl _)); have HG6 := Lib.hid (HG5.out.trans HX6.out); have HA7 := Lib.hid (HA5.out.gr HX6.out); have HR6 := Lib.hid ((HX6.out.block _ (lt_of_some HR5.out)).trans HR5.out); obtain ⟨q0, q1, q2⟩ := cells_of3 HR6.out; generalize w6.setRow w5.heap.size (bvs wl).toArray = w66 at HB6 HX6 HG6 HA7 HR6 q0 q1 q2 ⊢)
    | (go_at_call 39; refine (ref_WordOf _ x _ (HX.out.gr HG6.out)).mono ?_; rintro e w7 ⟨v7, rfl, hg7, hv7⟩; rw [eqV, HW.out] at hv7; subst hv7; have HG7 := Lib.hid (HG6.out.trans hg7); have HA8 := Lib.hid (HA7.out.gr hg7); have HB7 := Lib.hid (HB6.out.gr hg7); have hs7 := hg7.size; clear hg7 q0 q1 q2 HR6 HR5 HR4 HR3 HR2 HR1)
    | (guard_target = wpList _ _ _ (Oper.mk _ (Op.store _ _ _) _ _ _ _ :: _) _ _; refine wpList_store_row rfl 36 (.tmp 15) (.tmp 44) rfl w7.heap.size (bvs wl).toArray rfl rfl 36 _ hA8.out (arr_info _ HWL.out) (by rw [arr_size _ HWL.out]; rfl) (arr_one _) ?_; have HC8 : Hid (Arr (w8.setRow w7.heap.size (bvs wl).toArray) w7.heap.size 36 wl) := Lib.hid (arr_setRow hA8.out); have HX8 : Hid (Gr w7 (w8.setRow w7.heap.size (bvs wl).toArray)) := Lib.hid (gr_setRow hG8.out _ _ (Nat.le_refl _)); have HG8 := Lib.hid (HG7.out.trans HX8.out); have HA9 := Lib.hid (HA8.out.gr HX8.out); have HB8 := Lib.hid (HB7.out.gr HX8.out); generalize w8.setRow w7.heap.size (bvs wl).toArray = w88 at HC8 HX8 HG8 HA9 HB8 ⊢)
    | (guard_target = wpList _ _ _ (Oper.mk _ (Op.store _ _ _) _ _ _ _ :: _) _ _; refine wpList_store_row rfl 36 (.tmp 15) (.tmp 50) rfl w7.heap.size (bvs zero32).toArray rfl rfl 36 _ HC8.out (arr_info _ zero32_length) (by rw [arr_size _ HWL.out]; rfl) (arr_one _) ?_; have HC9 : Hid (Arr (w88.setRow w7.heap.size (bvs zero32).toArray) w7.heap.size 36 zero32) := Lib.hid (arr_setRow HC8.out); have HX9 : Hid (Gr w7 (w88.setRow w7.heap.size (bvs zero32).toArray)) := Lib.hid (gr_setRow HX8.out _ _ (Nat.le_refl _)); have HG9 := Lib.hid (HG7.out.trans HX9.out); have HB9 := Lib.hid (HB7.out.gr HX9.out); have HA10 := Lib.hid (HA8.out.gr HX9.out); clear HC8 HX8 HG8 HA9 HB8; generalize w88.setRow w7.heap.size (bvs zero32).toArray = w88 at HC9 HX9 HG9 HA10 HB9 ⊢; have HC8 : Hid (Arr w88 w7.heap.size 36 wl) := Lib.hid (by rw [HZ.out (by simp)]; exact HC9.out); have HG8 := Lib.hid HG9.out; have HA9 := Lib.hid HA10.out; have HB8 := Lib.hid HB9.out)
  any_goals (exact bodyPost_ret (results_tmp rfl _ _ _) rfl ⟨_, rfl, HG2.out, by simp [eqV]⟩)
  all_goals
    have hew := HEW.out
    have heq := HEQ.out
    try go_frame
    refine wp_region_N 32 (by kernel_rfl) (by kernel_rfl) (by kernel_rfl) ?_
    simp only [List.take_succ_cons, List.take_zero, List.drop_succ_cons, List.drop_zero]
    refine wpN_quiet 9 (by kernel_rfl) ?_
    simp only [List.take_succ_cons, List.take_zero, List.drop_succ_cons, List.drop_zero]
    repeat (go_big_quiet_step (fail))
    refine wpQuiet_nil ?_
    refine wpN_val (arrV wl) rfl (by kernel_rfl) (by kernel_rfl) (fun xw => growsTo_load_word (HB8.out.gr xw.2) HWL.out rfl rfl) ?_
    simp only [Act.put, List.setIfInBounds_toArray, List.set_cons_succ, List.set_cons_zero]
    refine wpN_val (arrV wl) rfl (by kernel_rfl) (by kernel_rfl) (fun xw => growsTo_load_word (HC8.out.gr xw.2) HWL.out rfl rfl) ?_
    simp only [Act.put, List.setIfInBounds_toArray, List.set_cons_succ, List.set_cons_zero]
    refine wpN_quiet 9 (by kernel_rfl) ?_
    simp only [List.take_succ_cons, List.take_zero, List.drop_succ_cons, List.drop_zero]
    repeat (go_big_quiet_step (fail))
    refine wpQuiet_nil ?_
    refine wpN_gen 71 (fun v w => IsItem w v (.mk false (be z.toNat) [])) rfl rfl (by kernel_rfl) (by kernel_rfl) (stable_item _) (fun xw => growsTo_call (by simp [go_sem]) ((rlp_Num z _ hz1 hz2).mono ?_)) ?_
    · rintro e w' ⟨v, rfl, hg, hv⟩
      exact ⟨_, rfl, hg, hv.is fun b hb => hb.2⟩
    refine wpN_quiet 1 (by kernel_rfl) ?_
    simp only [List.take_succ_cons, List.take_zero, List.drop_succ_cons, List.drop_zero]
    repeat (go_big_quiet_step (fail))
    refine wpQuiet_nil ?_
    refine wpN_gen 73 (fun v w => IsItem w v (.mk false (be z.toNat) [])) rfl rfl (by kernel_rfl) (by kernel_rfl) (stable_item _) (fun xw => growsTo_call (by simp [go_sem]) ((ref_Num z _ hz1 hz2).mono ?_)) ?_
    · rintro e w' ⟨v, rfl, hg, hv⟩
      exact ⟨_, rfl, hg, hv.is fun b hb => hb.2⟩
    refine wpN_conv2 71 73 _ _ (.bool true) (by decide) (by decide) rfl rfl (by kernel_rfl) (by kernel_rfl) (fun b w _ h1 h2 => growsTo_call2 rfl enter_same ((same_any _ _ _ _ _ h1 h2).mono ?_)) ?_
    · rintro e w' ⟨_, rfl, hg, rfl⟩
      exact ⟨_, rfl, hg, by rw [HE1.out]; rfl⟩
    simp only [Act.put, List.setIfInBounds_toArray, List.set_cons_succ, List.set_cons_zero]
    refine wpN_quiet 2 (by kernel_rfl) ?_
    simp only [List.take_succ_cons, List.take_zero, List.drop_succ_cons, List.drop_zero]
    repeat (go_big_quiet_step (fail))
    refine wpQuiet_nil ?_
    refine wpN_val (arrV l) rfl (by kernel_rfl) (by kernel_rfl) (fun xw => growsTo_load_word (HA9.out.gr xw.2) HLL.out rfl rfl) ?_
    simp only [Act.put, List.setIfInBounds_toArray, List.set_cons_succ, List.set_cons_zero]
    refine wpN_gen 78 (fun v w => IsItem w v (.mk false (strip l) [])) rfl rfl (by kernel_rfl) (by kernel_rfl) (stable_item _) (fun xw => growsTo_call (by simp [go_sem]) ((rlp_Big l HLL.out _).mono ?_)) ?_
    · rintro e w' ⟨v, rfl, hg, hv⟩
      exact ⟨_, rfl, hg, hv.is fun b hb => hb.2⟩
    refine wpN_val (arrV l) rfl (by kernel_rfl) (by kernel_rfl) (fun xw => growsTo_load_word (HA9.out.gr xw.2) HLL.out rfl rfl) ?_
    simp only [Act.put, List.setIfInBounds_toArray, List.set_cons_succ, List.set_cons_zero]
    refine wpN_gen 80 (fun v w => IsItem w v (.mk false (strip l) [])) rfl rfl (by kernel_rfl) (by kernel_rfl) (stable_item _) (fun xw => growsTo_call (by simp [go_sem]) ((ref_Big l HLL.out _).mono ?_)) ?_
    · rintro e w' ⟨v, rfl, hg, hv⟩
      exact ⟨_, rfl, hg, hv.is fun b hb => hb.2⟩
    refine wpN_conv2 78 80 _ _ (.bool true) (by decide) (by decide) rfl rfl (by kernel_rfl) (by kernel_rfl) (fun b w _ h1 h2 => growsTo_call2 rfl enter_same ((same_any _ _ _ _ _ h1 h2).mono ?_)) ?_
    · rintro e w' ⟨_, rfl, hg, rfl⟩
      exact ⟨_, rfl, hg, by rw [HE2.out]; rfl⟩
    simp only [Act.put, List.setIfInBounds_toArray, List.set_cons_succ, List.set_cons_zero]
    refine wpN_quiet 1 (by kernel_rfl) ?_
    simp only [List.take_succ_cons, List.take_zero, List.drop_succ_cons, List.drop_zero]
    repeat (go_big_quiet_step (fail))
    refine wpQuiet_nil ?_
    refine wpN_nil (by kernel_rfl) ?_
    intro W hW
    replace hW := hW.gr
    intro v80 _ v78 _ v73 _ v71 _
    unfold finN
    go_wp2_with fail
    refine bodyPost_ret (results_tmp rfl _ _ _) rfl ⟨_, rfl, HG8.out.trans hW, ?_⟩
    simp [eqV]
end Go.Proofs.Ytfpigemikpbbhaa
