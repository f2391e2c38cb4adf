/-
  Words of items: rlp.Word and the reference's WordOf.
  Conditions: none.
-/
import Derived.Test.YtfpigemikpbbhaaNum
namespace Go.Proofs.Ytfpigemikpbbhaa
set_option linter.unusedVariables false
open Go.RowKit Mono Rlp

theorem word_info (l : List UInt8) (h : l.length = 32) : (Try.prog.info? 36).map (·.size) = some (bvs l).toArray.size := arr_info l h
theorem results_word2 {fn : Func} {p u : Tmp} (h : fn.results = #[.cell p 36, .tmp u]) (tmps : Array Value) (w : World) (g : Nat) (t : TypeId) (l : List UInt8)
    (hp : tmps.getD p undef = .pointer (some ⟨g, 0, none⟩)) (hg : Arr w g t l) (hs : l.length = 32) :
    (results fn tmps).run Try.prog w = .ok (.tuple #[arrV l, tmps.getD u undef]) w := by
  have hp' : tmps[p]?.getD undef = .pointer (some ⟨g, 0, none⟩) := by simpa using hp
  have hr := run_loadVar_row w g t 36 (bvs l).toArray (0, 0) _ hg Try.underlying36 rfl (arr_info l hs)
  simp [results, h, hp', asAddr, hr]
  rfl
theorem arr_zero (w : World) : Arr (w.alloc (.cells (bvs zero32).toArray 36)) w.heap.size 36 zero32 := heap_alloc_new w _
theorem arr_old {w : World} {g : Nat} {t : TypeId} {l : List UInt8} (h : Arr w g t l) (o : Obj) : Arr (w.alloc o) g t l := (heap_old w o g h.lt).trans h
theorem arr_setRow {w : World} {g : Nat} {t : TypeId} {l m : List UInt8} (h : Arr w g t l) : Arr (w.setRow g (bvs m).toArray) g t m := heap_setRow_same w g _ _ t h

theorem cells_of3 {w : World} {g : Nat} {a b c : Value} {T : TypeId} (h : w.heap[g]? = some (.cells #[a, b, c] T (0, 0))) : w.cell? ⟨g, 0, none⟩ = some a ∧ w.cell? ⟨g, 1, none⟩ = some b ∧ w.cell? ⟨g, 2, none⟩ = some c :=
  ⟨by rw [cell_of_row _ _ _ _ _ (0, 0) h]; rfl, by rw [cell_of_row _ _ _ _ _ (0, 0) h]; rfl, by rw [cell_of_row _ _ _ _ _ (0, 0) h]; rfl⟩
set_option maxRecDepth 100000 in
theorem run_alloc_word (w : World) : (Instr.alloc 36 true (.tuple #[])).run Try.prog w = .ok (.pointer (some ⟨w.heap.size, 0, none⟩)) (w.alloc (.cells (bvs zero32).toArray 36)) := by kernel_rfl
/-- 'var w Word'. -/
theorem wpL_alloc_word {w : World} {ops : Array Oper} {rest : List Oper} {o : Oper} {a : Act} {Q : Exit → Act → World → Prop} (g : Nat) (hg : w.heap.size = g) (hgd : o.guard = none) (ho : o.op = .alloc 36)
    (h : ∀ w', Hid (Arr w' g 36 zero32) → Hid (Gr w w') → w'.heap.size = g + 1 → wpList Try.prog ops Q rest (a.put o.dst (.pointer (some ⟨g, 0, none⟩))) w') : wpList Try.prog ops Q (o :: rest) a w := by
  subst hg
  refine wpList_plain hgd fun _ hK => ?_
  have h1 := hK _ _ (h _ (Lib.hid (arr_zero w)) (Lib.hid (gr_alloc w _)) (by simp))
  unfold Oper.wp execOp
  simp only [ho, Sem.run_bind, run_alloc_word, Result.andThen_ok, Sem.run_pure]
  exact h1

/-- 'w[k:]' of a word. -/
theorem slice_word (w : World) (g k : Nat) (z : Int) (hz : z = (k : Int)) (hk : k ≤ 32) : (Instr.sliceAt 36 (.pointer (some ⟨g, 0, none⟩)) (some (.int .i64 z)) none none).run Try.prog w = .ok (.slice (if 32 = k then some ⟨g, 0, none⟩ else some ⟨g, k, none⟩) (32 - k) (32 - k)) w := by
  have hn : Try.prog.arrayLen 36 = 32 := by kernel_rfl
  subst hz
  have hs : (sizeOf (Try.prog.elem 36)).run Try.prog w = .ok 1 w := by kernel_rfl
  rw [run_sliceAt_array_l (P := Try.prog) w 36 ⟨g, 0, none⟩ (by kernel_rfl) .i64 (k : Int) (by omega) (by rw [hn]; omega), hs]
  simp [slicedAt, hn, add_none, Result.andThen]
  split <;> rfl
/-- 'w[32-n:]' of a word. -/
theorem slice_word_end (g n : Nat) (z : Int) (hz : z = 32 - (n : Int)) (hn : n ≤ 32) : ∃ dp, (∀ w, (Instr.sliceAt 36 (.pointer (some ⟨g, 0, none⟩)) (some (.int .i64 z)) none none).run Try.prog w = .ok (.slice dp n n) w) ∧ (0 < n → dp = some ⟨g, 32 - n, none⟩) := by
  refine ⟨if 32 = 32 - n then some ⟨g, 0, none⟩ else some ⟨g, 32 - n, none⟩, fun w => ?_, fun h => ?_⟩
  · have := slice_word w g (32 - n) z (by omega) (by omega)
    rw [show 32 - (32 - n) = n by omega] at this
    exact this
  · rw [if_neg (by omega)]

def wordV (x : Raw) : Value := .tuple #[arrV ((wordR x).getD zero32), .bool (wordR x).isSome]
theorem wordV_none {x : Raw} (h : wordR x = none) : wordV x = .tuple #[arrV zero32, .bool false] := by unfold wordV; rw [h]; rfl
theorem wordV_some {x : Raw} {l : List UInt8} (h : wordR x = some l) : wordV x = .tuple #[arrV l, .bool true] := by unfold wordV; rw [h]; rfl
set_option maxRecDepth 20000 in
set_option maxHeartbeats 1000000 in
theorem rlp_Word (v : Value) (x : Raw) (w : World) (h : IsItem w v x) : Calls Try.prog 38 #[v] w (Ret (eqV (wordV x)) w) := by
  have HX := Lib.hid h
  obtain ⟨lx, bx, xs⟩ := x
  obtain ⟨vb1, vl1, rfl, ⟨A0, c0, rfl, hc0, hm0, _⟩, A1, c1, rows1, rfl, hc1, hm1, _⟩ := isItem_form h
  unfold maxLen at hm0 hm1
  clear h
  generalize bx.length = n0 at HX hc0 ⊢
  generalize xs.length = n1 at HX hc1 ⊢
  generalize Raw.mk lx bx xs = x at HX ⊢
  go_enter Try.func38, Try.ntmps38
  go_wp2_with (refine wpL_alloc_word (w.heap.size + 1) (by simp) rfl rfl ?_; intro w0 hA0 hG0 hs0; obtain ⟨q0, q1, q2⟩ := cells_of3 ((hG0.out.block w.heap.size (by simp)).trans (heap_alloc_new w _)))
  have HG0 := Lib.hid ((gr_alloc w (.cells #[.bool lx, .slice A0 n0 c0, .slice A1 n1 c1] 45)).trans hG0.out)
  refine (rlp_bytes _ x _ (HX.out.gr HG0.out)).mono ?_
  rintro e w1 ⟨v1, rfl, hg1, vb, A, n, c, rfl, hn1, hn2, rfl, hb⟩
  have HG1 := Lib.hid (HG0.out.trans hg1)
  have HA1 := Lib.hid (hA0.out.gr hg1)
  have hs1 := hg1.size
  unfold maxLen at hn2
  clear hg1 hA0 hG0 HG0
  cases hx : numB x with
  | none =>
    have HI := Lib.hid (wordV_none (show wordR x = none by unfold wordR; rw [hx]; rfl))
    clear hb hx
    go_wp2_with first
      | (refine wpL_alloc_word w1.heap.size rfl rfl rfl ?_; intro w2 hA2 hG2 hs2; have HA12 := Lib.hid (HA1.out.gr hG2.out))
      | (refine wpList_store_row rfl 36 (.tmp 2) (.tmp 19) rfl (w.heap.size + 1) (bvs zero32).toArray rfl rfl 36 _ HA12.out (arr_info _ zero32_length) rfl (arr_one _) ?_)
    refine bodyPost_ret (results_word2 rfl _ _ (w.heap.size + 1) 36 zero32 rfl (arr_setRow HA12.out) zero32_length) rfl ?_
    exact ⟨_, rfl, gr_setRow (HG1.out.trans hG2.out) _ _ (by omega), by unfold eqV; rw [HI.out]; rfl⟩
  | some bs =>
    have hW : wordR x = if bs.length ≤ 32 then some (pad bs) else none := by unfold wordR; rw [hx]; rfl
    obtain ⟨A', c', he, hd1, hd2, hr⟩ := hb bs hx
    injection he with e1 e2 e3
    subst e1 e2 e3
    have HR := Lib.hid hr
    clear hb hx hr hn1 hd2
    by_cases h8 : 32 < bs.length
    · have HI := Lib.hid (wordV_none (show wordR x = none by rw [hW, if_neg (by omega)]))
      clear hW
      go_wp2_with first
        | (refine wpL_alloc_word w1.heap.size rfl rfl rfl ?_; intro w2 hA2 hG2 hs2; have HA12 := Lib.hid (HA1.out.gr hG2.out))
        | (refine wpList_store_row rfl 36 (.tmp 2) (.tmp 19) rfl (w.heap.size + 1) (bvs zero32).toArray rfl rfl 36 _ HA12.out (arr_info _ zero32_length) rfl (arr_one _) ?_)
      refine bodyPost_ret (results_word2 rfl _ _ (w.heap.size + 1) 36 zero32 rfl (arr_setRow HA12.out) zero32_length) rfl ?_
      exact ⟨_, rfl, gr_setRow (HG1.out.trans hG2.out) _ _ (by omega), by unfold eqV; rw [HI.out]; rfl⟩
    · have h9 : bs.length ≤ 32 := by omega
      have HI := Lib.hid (wordV_some (show wordR x = some (pad bs) by rw [hW, if_pos h9]))
      have HP := Lib.hid (pad_length bs h9)
      have hSP : splice (bvs zero32) (32 - bs.length) (bvs bs) = bvs (pad bs) := by
        unfold splice pad zero32 bvs
        rw [List.map_append, ← List.map_take, ← List.map_drop, List.take_replicate, List.drop_replicate, List.length_map]
        rw [show min (32 - bs.length) 32 = 32 - bs.length by omega, show 32 - (32 - bs.length + bs.length) = 0 by omega]
        simp
      have HSP := Lib.hid hSP
      clear hW h8 hSP
      obtain ⟨dp, hsl, hdp⟩ := slice_word_end w1.heap.size bs.length (32 - (bs.length : Int)) rfl h9
      have HDP := Lib.hid hdp
      have HSL := Lib.hid hsl
      clear hdp hsl
      have hsrc : ∀ w' : World, Gr w1 w' → 0 < (bvs bs).length → dp = some ⟨w1.heap.size, 32 - bs.length, none⟩ ∧ ∃ ad, A = some ad ∧ ∀ j v, (bvs bs)[j]? = some v → w'.cell? (ad.add j) = some v := fun w' hg h0 => by
        rw [bvs_length] at h0
        obtain ⟨b, o, e, hb, hc⟩ := (HR.out.gr hg) (fun e => by have := congrArg List.length e; rw [bvs_length] at this; simp at this; rw [this] at h0; simp at h0)
        exact ⟨HDP.out h0, _, e, fun j v hv => by rw [add_none]; exact hc j v hv⟩
      have HSRC := Lib.hid hsrc
      clear hsrc
      go_wp2_with first
        | (refine wpL_alloc_word w1.heap.size rfl rfl rfl ?_; intro w2 hA2 hG2 hs2; have hsl2 := HSL.out w2; have HA12 := Lib.hid (HA1.out.gr hG2.out); have HG2 := Lib.hid (HG1.out.trans hG2.out))
        | (refine wpList_copy_splice rfl (.tmp 23) (.tmp 24) 22 22 rfl 5 Try.underlying22 (by kernel_rfl) dp A bs.length bs.length bs.length c rfl rfl w1.heap.size (32 - bs.length) (bvs zero32) 36 hA2.out (bvs bs) (by simp [bvs]) (HSRC.out w2 hG2.out) (by simp [bvs, zero32]; omega) (bvs_one _) w1.heap.size w1 hG2.out (Nat.le_refl _) ?_; intro w3 hA3 hG3; rw [HSP.out] at hA3; have HG3 := Lib.hid (HG1.out.trans hG3); have HA13 := Lib.hid (HA1.out.gr hG3))
        | (refine wpList_load_row rfl 36 (.tmp 6) rfl w1.heap.size rfl 36 (bvs (pad bs)).toArray (0, 0) _ hA3.out rfl rfl (arr_info _ HP.out) ?_)
        | (refine wpList_store_row rfl 36 (.tmp 2) (.tmp 26) rfl (w.heap.size + 1) (bvs (pad bs)).toArray rfl rfl 36 _ HA13.out (arr_info _ HP.out) (by rw [arr_size _ HP.out]; rfl) (arr_one _) ?_)
      refine bodyPost_ret (results_word2 rfl _ _ (w.heap.size + 1) 36 (pad bs) rfl (arr_setRow HA13.out) HP.out) rfl ?_
      exact ⟨_, rfl, gr_setRow HG3.out _ _ (by omega), by unfold eqV; rw [HI.out]; rfl⟩
end Go.Proofs.Ytfpigemikpbbhaa
