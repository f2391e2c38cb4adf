/-
  Merged (wip/tools/merge.py): Num, Num2, Num3, Num4, Num5.
  Conditions: none.
-/
import Derived.Test.YtekacgocjplfjaaZJ5
import Derived.Test.YtekacgocjplfjaaZJ8
import Derived.Test.YtekacgocjplfjaaZJ2
import Derived.Laws.CopyOwn
/-
  Numbers and words as items: the functions of rlp and of the reference.
  Conditions: none.
-/
namespace Go.Proofs.Ytekacgocjplfjaa
set_option linter.unusedVariables false
open Go.RowKit Mono Rlp

theorem gr_drewN {a w : World} (h : Gr a w) (n : Nat) : Gr a (w.drewN n) := below_drewN h n
/-- What 'bytes' tells. -/
def BytesV (x : Raw) : VP := fun v w => ∃ vb A n c, vb = .slice A n c ∧ n ≤ c ∧ c ≤ maxLen ∧ v = .tuple #[vb, .bool (numB x).isSome] ∧ ∀ bs, numB x = some bs → IsB w vb bs

set_option maxRecDepth 20000 in
set_option maxHeartbeats 1000000 in
theorem rlp_bytes (v : Value) (x : Raw) (w : World) (h : IsItem w v x) : Calls Try.prog 61 #[v] w (Ret (BytesV x) w) := by
  have HX := Lib.hid h
  obtain ⟨lx, bx, xs⟩ := x
  obtain ⟨vb1, vl1, rfl, ⟨A0, c0, rfl, hc0, hm0, _⟩, A1, c1, rows1, rfl, hc1, hm1, _⟩ := isItem_form h
  unfold maxLen at hm0 hm1
  clear h
  cases lx with
  | true =>
    go_enter Try.func61, Try.ntmps61
    go_wp2_with fail
    refine (rlp_of _ _ _ (HX.out.gr (gr_alloc w _))).mono ?_
    rintro e w1 ⟨v1, rfl, hg1, vl, rfl, hl⟩
    have HG1 := Lib.hid ((gr_alloc w _).trans hg1)
    clear hg1 hl
    go_wp2_with fail
    go_quiet (fail)
    go_wp2_with fail
    refine bodyPost_ret (results_tmp2 rfl _ _ _) rfl ⟨_, rfl, gr_drewN HG1.out nq, .slice none 0 0, none, 0, 0, rfl, Nat.le_refl _, by simp [maxLen], rfl, fun bs h => by cases h⟩
  | false =>
    go_enter Try.func61, Try.ntmps61
    go_wp2_with fail
    refine (rlp_of _ _ _ (HX.out.gr (gr_alloc w _))).mono ?_
    rintro e w1 ⟨v1, rfl, hg1, vl, rfl, hl⟩
    have HG1 := Lib.hid ((gr_alloc w _).trans hg1)
    obtain ⟨A, c, rfl, hd1, hd2, hr⟩ := hl
    have HR := Lib.hid hr
    have hd2' := hd2
    unfold maxLen at hd2
    clear hg1 hr
    rcases bx with _ | ⟨b, l⟩
    · simp only [List.length_nil] at *
      go_wp2_with fail
      go_quiet (fail)
      go_wp2_with fail
      refine bodyPost_ret (results_tmp2 rfl _ _ _) rfl ⟨_, rfl, gr_drewN HG1.out nq, _, A, 0, c, rfl, by omega, hd2', rfl, fun bs h => ?_⟩
      cases h
      exact ⟨A, c, rfl, hd1, hd2', HR.out⟩
    · obtain ⟨bl, o, rfl, hbl, hcell⟩ := isB_at HR.out 0 (by simp)
      have hlen : (b :: l).length = l.length + 1 := rfl
      rw [hlen] at *
      simp only [List.getElem_cons_zero] at hcell
      rw [Nat.add_zero] at hcell
      by_cases hb : b = 0
      · subst hb
        have hcell' : w1.cell? ⟨bl, o, none⟩ = some (.int .u8 0) := hcell
        clear hcell
        go_wp2_with fail
        go_quiet (fail)
        go_wp2_with fail
        refine bodyPost_ret (results_tmp2 rfl _ _ _) rfl ⟨_, rfl, gr_drewN HG1.out nq, .slice (some ⟨bl, o, none⟩) (l.length + 1) c, some ⟨bl, o, none⟩, l.length + 1, c, rfl, hd1, hd2', rfl, fun bs h => ?_⟩
        cases h
      · have hn : ((b.toNat : Int) == 0) = false := by
          rw [Bool.eq_false_iff]
          intro e
          have e2 : (b.toNat : Int) = 0 := by simpa using e
          exact hb (UInt8.toNat_inj.1 (by rw [show (0 : UInt8).toNat = 0 from rfl]; omega))
        have hsome : numB (.mk false (b :: l) xs) = some (b :: l) := by rw [numB, if_neg (by simpa using hb)]
        have HS := Lib.hid hsome
        clear hsome
        go_wp2_with fail
        go_quiet (fail)
        go_wp2_with fail
        refine bodyPost_ret (results_tmp2 rfl _ _ _) rfl ⟨_, rfl, gr_drewN HG1.out nq, .slice (some ⟨bl, o, none⟩) (l.length + 1) c, some ⟨bl, o, none⟩, l.length + 1, c, rfl, hd1, hd2', ?_, fun bs h => ?_⟩
        · rw [HS.out]
          simp
          exact .inr fun e => by rw [e] at hn; simp at hn
        · rw [HS.out] at h
          cases h
          exact ⟨_, c, rfl, hd1, hd2', HR.out⟩

theorem u64_join (n x : Nat) (hn : n < 2 ^ 56) (hx : x < 256) : bits .or .u64 ((n : Int) * 256) (x : Int) = ((n * 256 + x : Nat) : Int) := by
  have := u64_or_nat (n * 256) x (by omega) (by omega)
  rw [nat_join 8 (n * 256) x (by omega) (by omega)] at this
  rw [← this]
  simp
def intV (x : Raw) : Value := .tuple #[.int .i64 (((intR x).getD 0 : Nat) : Int), .bool (intR x).isSome]
theorem intV_none {x : Raw} (h : intR x = none) : intV x = .tuple #[.int .i64 0, .bool false] := by unfold intV; rw [h]; rfl
theorem intV_some {x : Raw} {n : Nat} (h : intR x = some n) : intV x = .tuple #[.int .i64 (n : Int), .bool true] := by unfold intV; rw [h]; rfl
set_option maxRecDepth 20000 in
set_option maxHeartbeats 1000000 in
theorem rlp_Int (v : Value) (x : Raw) (w : World) (h : IsItem w v x) : Calls Try.prog 56 #[v] w (Ret (eqV (intV x)) w) := by
  have HX := Lib.hid h
  obtain ⟨lx, bx, xs⟩ := x
  obtain ⟨vb1, vl1, rfl, ⟨A0, c0, rfl, hc0, hm0, _⟩, A1, c1, rows1, rfl, hc1, hm1, _⟩ := isItem_form h
  unfold maxLen at hm0 hm1
  clear h
  generalize bx.length = n0 at HX hc0 ⊢
  generalize xs.length = n1 at HX hc1 ⊢
  generalize Raw.mk lx bx xs = x at HX ⊢
  go_enter Try.func56, Try.ntmps56
  go_wp2_with fail
  refine (rlp_bytes _ x _ (HX.out.gr (gr_alloc w _))).mono ?_
  rintro e w1 ⟨v1, rfl, hg1, vb, A, n, c, rfl, hn1, hn2, rfl, hb⟩
  have HG1 := Lib.hid ((gr_alloc w _).trans hg1)
  unfold maxLen at hn2
  clear hg1
  cases hx : numB x with
  | none =>
    have HI := Lib.hid (intV_none (show intR x = none by unfold intR; rw [hx]; rfl))
    clear hb hx
    go_wp2_with fail
    refine bodyPost_ret (results_tmp2 rfl _ _ _) rfl ⟨_, rfl, HG1.out, ?_⟩
    unfold eqV
    rw [HI.out]
    rfl
  | some bs =>
    have hI : intR x = if bs.length ≤ 8 ∧ val bs ≤ 9223372036854775807 then some (val bs) else none := by unfold intR; rw [hx]; rfl
    obtain ⟨A', c', he, hd1, hd2, hr⟩ := hb bs hx
    injection he with e1 e2 e3
    subst e1 e2 e3
    have HR := Lib.hid hr
    clear hb hx hr hn1 hd2
    by_cases h8 : 8 < bs.length
    · have HI := Lib.hid (intV_none (show intR x = none by rw [hI, if_neg (fun h => by omega)]))
      clear hI
      go_wp2_with fail
      refine bodyPost_ret (results_tmp2 rfl _ _ _) rfl ⟨_, rfl, HG1.out, ?_⟩
      unfold eqV
      rw [HI.out]
      rfl
    · have h9 : bs.length ≤ 8 := by omega
      have HI := Lib.hid hI
      clear h8 hI
      go_wp2_with fail
      go_loopw [6, 23] (fun u i wr => ∃ k : Nat, k ≤ bs.length ∧ i = .int .i64 k ∧ u = .int .u64 (val (bs.take k) : Nat) ∧ wr = w1) (fun _ i _ => bs.length - (intOf i).toNat)
      case atStart => exact ⟨0, by omega, rfl, rfl, rfl⟩
      case round =>
        obtain ⟨k, hk, rfl, rfl, rfl⟩ := hrel
        by_cases h1 : k < bs.length
        · obtain ⟨bl, o, rfl, hbl, hcell⟩ := isB_at HR.out k h1
          have hlt : val (bs.take k) < 2 ^ 56 := by
            have h2 := val_lt (bs.take k)
            have h3 : 256 ^ (bs.take k).length ≤ 256 ^ 7 := Nat.pow_le_pow_right (by omega) (by rw [List.length_take]; omega)
            omega
          have hbk := bv_lt bs[k]
          have HJ := Lib.hid (u64_join (val (bs.take k)) bs[k].toNat hlt hbk)
          have HV := Lib.hid (val_take bs k h1)
          generalize val (bs.take k) = q at hlt HJ HV
          generalize bs[k].toNat = z at hcell hbk HJ HV
          go_wp2_with fail
          go_roundw
          case rel =>
            refine ⟨k + 1, by omega, by go_num, ?_, trivial⟩
            rw [HV.out, ← HJ.out]
          case measure => simp [intOf]; omega
        · have hk2 : k = bs.length := by omega
          have htk : bs.take k = bs := List.take_of_length_le (by omega)
          have hlt : val bs < 2 ^ 64 := by
            have h2 := val_lt bs
            have h3 : 256 ^ bs.length ≤ 256 ^ 8 := Nat.pow_le_pow_right (by omega) h9
            omega
          rw [htk]
          by_cases h3 : val bs ≤ 9223372036854775807
          · have HI2 := Lib.hid (intV_some (show intR x = some (val bs) by rw [HI.out, if_pos ⟨h9, h3⟩]))
            generalize val bs = q at h3 hlt HI2 ⊢
            go_wp2_with fail
            refine bodyPost_ret (results_tmp2 rfl _ _ _) rfl ⟨_, rfl, HG1.out, ?_⟩
            unfold eqV
            rw [HI2.out]
            simp
          · have HI2 := Lib.hid (intV_none (show intR x = none by rw [HI.out, if_neg (fun h => h3 h.2)]))
            have h4 : 9223372036854775807 < val bs := by omega
            generalize val bs = q at h3 h4 hlt HI2 ⊢
            clear h3
            go_wp2_with fail
            refine bodyPost_ret (results_tmp2 rfl _ _ _) rfl ⟨_, rfl, HG1.out, ?_⟩
            unfold eqV
            rw [HI2.out]
            simp
end Go.Proofs.Ytekacgocjplfjaa
/-
  Words of items: rlp.Word and the reference's WordOf.
  Conditions: none.
-/
namespace Go.Proofs.Ytekacgocjplfjaa
set_option linter.unusedVariables false
open Go.RowKit Mono Rlp

theorem word_info (l : List UInt8) (h : l.length = 32) : (Try.prog.info? 23).map (·.size) = some (bvs l).toArray.size := arr_info l h
theorem results_word2 {fn : Func} {p u : Tmp} (h : fn.results = #[.cell p 23, .tmp u]) (tmps : Array Value) (w : World) (g : Nat) (t : TypeId) (l : List UInt8)
    (hp : tmps.getD p undef = .pointer (some ⟨g, 0, none⟩)) (hg : Arr w g t l) (hs : l.length = 32) :
    (results fn tmps).run Try.prog w = .ok (.tuple #[arrV l, tmps.getD u undef]) w := by
  have hp' : tmps[p]?.getD undef = .pointer (some ⟨g, 0, none⟩) := by simpa using hp
  have hr := run_loadVar_row w g t 23 (bvs l).toArray (0, 0) _ hg Try.underlying23 rfl (arr_info l hs)
  simp [results, h, hp', asAddr, hr]
  rfl
theorem arr_zero (w : World) : Arr (w.alloc (.cells (bvs zero32).toArray 23)) w.heap.size 23 zero32 := heap_alloc_new w _
theorem arr_old {w : World} {g : Nat} {t : TypeId} {l : List UInt8} (h : Arr w g t l) (o : Obj) : Arr (w.alloc o) g t l := (heap_old w o g h.lt).trans h
theorem arr_setRow {w : World} {g : Nat} {t : TypeId} {l m : List UInt8} (h : Arr w g t l) : Arr (w.setRow g (bvs m).toArray) g t m := heap_setRow_same w g _ _ t h

theorem cells_of3 {w : World} {g : Nat} {a b c : Value} {T : TypeId} (h : w.heap[g]? = some (.cells #[a, b, c] T (0, 0))) : w.cell? ⟨g, 0, none⟩ = some a ∧ w.cell? ⟨g, 1, none⟩ = some b ∧ w.cell? ⟨g, 2, none⟩ = some c :=
  ⟨by rw [cell_of_row _ _ _ _ _ (0, 0) h]; rfl, by rw [cell_of_row _ _ _ _ _ (0, 0) h]; rfl, by rw [cell_of_row _ _ _ _ _ (0, 0) h]; rfl⟩
set_option maxRecDepth 100000 in
theorem run_alloc_word (w : World) : (Instr.alloc 23 true (.tuple #[])).run Try.prog w = .ok (.pointer (some ⟨w.heap.size, 0, none⟩)) (w.alloc (.cells (bvs zero32).toArray 23)) := by kernel_rfl
/-- 'var w Word'. -/
theorem wpL_alloc_word {w : World} {ops : Array Oper} {rest : List Oper} {o : Oper} {a : Act} {Q : Exit → Act → World → Prop} (g : Nat) (hg : w.heap.size = g) (hgd : o.guard = none) (ho : o.op = .alloc 23)
    (h : ∀ w', Hid (Arr w' g 23 zero32) → Hid (Gr w w') → w'.heap.size = g + 1 → wpList Try.prog ops Q rest (a.put o.dst (.pointer (some ⟨g, 0, none⟩))) w') : wpList Try.prog ops Q (o :: rest) a w := by
  subst hg
  refine wpList_plain hgd fun _ hK => ?_
  have h1 := hK _ _ (h _ (Lib.hid (arr_zero w)) (Lib.hid (gr_alloc w _)) (by simp))
  unfold Oper.wp execOp
  simp only [ho, Sem.run_bind, run_alloc_word, Result.andThen_ok, Sem.run_pure]
  exact h1

/-- 'w[k:]' of a word. -/
theorem slice_word (w : World) (g k : Nat) (z : Int) (hz : z = (k : Int)) (hk : k ≤ 32) : (Instr.sliceAt 23 (.pointer (some ⟨g, 0, none⟩)) (some (.int .i64 z)) none none).run Try.prog w = .ok (.slice (if 32 = k then some ⟨g, 0, none⟩ else some ⟨g, k, none⟩) (32 - k) (32 - k)) w := by
  have hn : Try.prog.arrayLen 23 = 32 := by kernel_rfl
  subst hz
  have hs : (sizeOf (Try.prog.elem 23)).run Try.prog w = .ok 1 w := by kernel_rfl
  rw [run_sliceAt_array_l (P := Try.prog) w 23 ⟨g, 0, none⟩ (by kernel_rfl) .i64 (k : Int) (by omega) (by rw [hn]; omega), hs]
  simp [slicedAt, hn, add_none, Result.andThen]
  split <;> rfl
/-- 'w[32-n:]' of a word. -/
theorem slice_word_end (g n : Nat) (z : Int) (hz : z = 32 - (n : Int)) (hn : n ≤ 32) : ∃ dp, (∀ w, (Instr.sliceAt 23 (.pointer (some ⟨g, 0, none⟩)) (some (.int .i64 z)) none none).run Try.prog w = .ok (.slice dp n n) w) ∧ (0 < n → dp = some ⟨g, 32 - n, none⟩) := by
  refine ⟨if 32 = 32 - n then some ⟨g, 0, none⟩ else some ⟨g, 32 - n, none⟩, fun w => ?_, fun h => ?_⟩
  · have := slice_word w g (32 - n) z (by omega) (by omega)
    rw [show 32 - (32 - n) = n by omega] at this
    exact this
  · rw [if_neg (by omega)]

def wordV (x : Raw) : Value := .tuple #[arrV ((wordR x).getD zero32), .bool (wordR x).isSome]
theorem wordV_none {x : Raw} (h : wordR x = none) : wordV x = .tuple #[arrV zero32, .bool false] := by unfold wordV; rw [h]; rfl
theorem wordV_some {x : Raw} {l : List UInt8} (h : wordR x = some l) : wordV x = .tuple #[arrV l, .bool true] := by unfold wordV; rw [h]; rfl
set_option maxRecDepth 20000 in
set_option maxHeartbeats 1000000 in
theorem rlp_Word (v : Value) (x : Raw) (w : World) (h : IsItem w v x) : Calls Try.prog 57 #[v] w (Ret (eqV (wordV x)) w) := by
  have HX := Lib.hid h
  obtain ⟨lx, bx, xs⟩ := x
  obtain ⟨vb1, vl1, rfl, ⟨A0, c0, rfl, hc0, hm0, _⟩, A1, c1, rows1, rfl, hc1, hm1, _⟩ := isItem_form h
  unfold maxLen at hm0 hm1
  clear h
  generalize bx.length = n0 at HX hc0 ⊢
  generalize xs.length = n1 at HX hc1 ⊢
  generalize Raw.mk lx bx xs = x at HX ⊢
  go_enter Try.func57, Try.ntmps57
  go_wp2_with (refine wpL_alloc_word (w.heap.size + 1) (by simp) rfl rfl ?_; intro w0 hA0 hG0 hs0; obtain ⟨q0, q1, q2⟩ := cells_of3 ((hG0.out.block w.heap.size (by simp)).trans (heap_alloc_new w _)))
  have HG0 := Lib.hid ((gr_alloc w (.cells #[.bool lx, .slice A0 n0 c0, .slice A1 n1 c1] 56)).trans hG0.out)
  refine (rlp_bytes _ x _ (HX.out.gr HG0.out)).mono ?_
  rintro e w1 ⟨v1, rfl, hg1, vb, A, n, c, rfl, hn1, hn2, rfl, hb⟩
  have HG1 := Lib.hid (HG0.out.trans hg1)
  have HA1 := Lib.hid (hA0.out.gr hg1)
  have hs1 := hg1.size
  unfold maxLen at hn2
  clear hg1 hA0 hG0 HG0
  cases hx : numB x with
  | none =>
    have HI := Lib.hid (wordV_none (show wordR x = none by unfold wordR; rw [hx]; rfl))
    clear hb hx
    go_wp2_with first
      | (refine wpL_alloc_word w1.heap.size rfl rfl rfl ?_; intro w2 hA2 hG2 hs2; have HA12 := Lib.hid (HA1.out.gr hG2.out))
      | (refine wpList_store_row rfl 23 (.tmp 2) (.tmp 19) rfl (w.heap.size + 1) (bvs zero32).toArray rfl rfl 23 _ HA12.out (arr_info _ zero32_length) rfl (arr_one _) ?_)
    refine bodyPost_ret (results_word2 rfl _ _ (w.heap.size + 1) 23 zero32 rfl (arr_setRow HA12.out) zero32_length) rfl ?_
    exact ⟨_, rfl, gr_setRow (HG1.out.trans hG2.out) _ _ (by omega), by unfold eqV; rw [HI.out]; rfl⟩
  | some bs =>
    have hW : wordR x = if bs.length ≤ 32 then some (pad bs) else none := by unfold wordR; rw [hx]; rfl
    obtain ⟨A', c', he, hd1, hd2, hr⟩ := hb bs hx
    injection he with e1 e2 e3
    subst e1 e2 e3
    have HR := Lib.hid hr
    clear hb hx hr hn1 hd2
    by_cases h8 : 32 < bs.length
    · have HI := Lib.hid (wordV_none (show wordR x = none by rw [hW, if_neg (by omega)]))
      clear hW
      go_wp2_with first
        | (refine wpL_alloc_word w1.heap.size rfl rfl rfl ?_; intro w2 hA2 hG2 hs2; have HA12 := Lib.hid (HA1.out.gr hG2.out))
        | (refine wpList_store_row rfl 23 (.tmp 2) (.tmp 19) rfl (w.heap.size + 1) (bvs zero32).toArray rfl rfl 23 _ HA12.out (arr_info _ zero32_length) rfl (arr_one _) ?_)
      refine bodyPost_ret (results_word2 rfl _ _ (w.heap.size + 1) 23 zero32 rfl (arr_setRow HA12.out) zero32_length) rfl ?_
      exact ⟨_, rfl, gr_setRow (HG1.out.trans hG2.out) _ _ (by omega), by unfold eqV; rw [HI.out]; rfl⟩
    · have h9 : bs.length ≤ 32 := by omega
      have HI := Lib.hid (wordV_some (show wordR x = some (pad bs) by rw [hW, if_pos h9]))
      have HP := Lib.hid (pad_length bs h9)
      have hSP : splice (bvs zero32) (32 - bs.length) (bvs bs) = bvs (pad bs) := by
        unfold splice pad zero32 bvs
        rw [List.map_append, ← List.map_take, ← List.map_drop, List.take_replicate, List.drop_replicate, List.length_map]
        rw [show min (32 - bs.length) 32 = 32 - bs.length by omega, show 32 - (32 - bs.length + bs.length) = 0 by omega]
        simp
      have HSP := Lib.hid hSP
      clear hW h8 hSP
      obtain ⟨dp, hsl, hdp⟩ := slice_word_end w1.heap.size bs.length (32 - (bs.length : Int)) rfl h9
      have HDP := Lib.hid hdp
      have HSL := Lib.hid hsl
      clear hdp hsl
      have hsrc : ∀ w' : World, Gr w1 w' → 0 < (bvs bs).length → dp = some ⟨w1.heap.size, 32 - bs.length, none⟩ ∧ ∃ ad, A = some ad ∧ ∀ j v, (bvs bs)[j]? = some v → w'.cell? (ad.add j) = some v := fun w' hg h0 => by
        rw [bvs_length] at h0
        obtain ⟨b, o, e, hb, hc⟩ := (HR.out.gr hg) (fun e => by have := congrArg List.length e; rw [bvs_length] at this; simp at this; rw [this] at h0; simp at h0)
        exact ⟨HDP.out h0, _, e, fun j v hv => by rw [add_none]; exact hc j v hv⟩
      have HSRC := Lib.hid hsrc
      clear hsrc
      go_wp2_with first
        | (refine wpL_alloc_word w1.heap.size rfl rfl rfl ?_; intro w2 hA2 hG2 hs2; have hsl2 := HSL.out w2; have HA12 := Lib.hid (HA1.out.gr hG2.out); have HG2 := Lib.hid (HG1.out.trans hG2.out))
        | (refine wpList_copy_splice rfl (.tmp 23) (.tmp 24) 29 29 rfl 5 Try.underlying29 (by kernel_rfl) dp A bs.length bs.length bs.length c rfl rfl w1.heap.size (32 - bs.length) (bvs zero32) 23 hA2.out (bvs bs) (by simp [bvs]) (HSRC.out w2 hG2.out) (by simp [bvs, zero32]; omega) (bvs_one _) w1.heap.size w1 hG2.out (Nat.le_refl _) ?_; intro w3 hA3 hG3; rw [HSP.out] at hA3; have HG3 := Lib.hid (HG1.out.trans hG3); have HA13 := Lib.hid (HA1.out.gr hG3))
        | (refine wpList_load_row rfl 23 (.tmp 6) rfl w1.heap.size rfl 23 (bvs (pad bs)).toArray (0, 0) _ hA3.out rfl rfl (arr_info _ HP.out) ?_)
        | (refine wpList_store_row rfl 23 (.tmp 2) (.tmp 26) rfl (w.heap.size + 1) (bvs (pad bs)).toArray rfl rfl 23 _ HA13.out (arr_info _ HP.out) (by rw [arr_size _ HP.out]; rfl) (arr_one _) ?_)
      refine bodyPost_ret (results_word2 rfl _ _ (w.heap.size + 1) 23 (pad bs) rfl (arr_setRow HA13.out) HP.out) rfl ?_
      exact ⟨_, rfl, gr_setRow HG3.out _ _ (by omega), by unfold eqV; rw [HI.out]; rfl⟩
end Go.Proofs.Ytekacgocjplfjaa
/-
  Words of items: the reference's WordOf.
  Conditions: none.
-/
namespace Go.Proofs.Ytekacgocjplfjaa
set_option linter.unusedVariables false
open Go.RowKit Mono Rlp

theorem copy_src {w w' : World} {A : Option Addr} {l : List UInt8} (hr : Rd w w.heap.size A (bvs l)) (hg : Gr w w') (h0 : 0 < (bvs l).length) : ∃ ad, A = some ad ∧ ∀ j v, (bvs l)[j]? = some v → w'.cell? (ad.add j) = some v := by
  obtain ⟨b, o, e, hb, hc⟩ := (hr.gr hg) (fun e => by rw [e] at h0; simp at h0)
  exact ⟨_, e, fun j v hv => by rw [add_none]; exact hc j v hv⟩
theorem splice_pad (bs : List UInt8) (h9 : bs.length ≤ 32) : splice (bvs zero32) (32 - bs.length) (bvs bs) = bvs (pad bs) := by
  unfold splice pad zero32 bvs
  rw [List.map_append, ← List.map_take, ← List.map_drop, List.take_replicate, List.drop_replicate, List.length_map]
  rw [show min (32 - bs.length) 32 = 32 - bs.length by omega, show 32 - (32 - bs.length + bs.length) = 0 by omega]
  simp
set_option maxRecDepth 20000 in
set_option maxHeartbeats 1000000 in
theorem ref_WordOf (v : Value) (x : Raw) (w : World) (h : IsItem w v x) : Calls Try.prog 48 #[v] w (Ret (eqV (wordV x)) w) := by
  have HX := Lib.hid h
  obtain ⟨lx, bx, xs⟩ := x
  obtain ⟨vb1, vl1, rfl, ⟨A0, c0, rfl, hc0, hm0, hr0⟩, A1, c1, rows1, rfl, hc1, hm1, _⟩ := isItem_form h
  have HR := Lib.hid hr0
  unfold maxLen at hm0 hm1
  clear h hr0
  generalize xs.length = n1 at HX hc1 ⊢
  cases lx with
  | true =>
    have HI := Lib.hid (wordV_none (x := .mk true bx xs) rfl)
    go_enter Try.func48, Try.ntmps48
    go_wp2_with first
      | (guard_target = wpList _ _ _ (Oper.mk _ (Op.alloc _) _ _ _ _ :: _) _ _; refine wpL_alloc_word (w.heap.size + 2) (by rw [hs0]) rfl rfl ?_; intro w1 hA1 hG1 hs1; have HG1 := Lib.hid (HG0.out.trans hG1.out); have HA0 := Lib.hid (hA0.out.gr hG1.out); obtain ⟨q0, q1, q2⟩ := cells_of3 (((hG0.out.trans hG1.out).block w.heap.size (by simp)).trans (heap_alloc_new w _)))
      | (guard_target = wpList _ _ _ (Oper.mk _ (Op.alloc _) _ _ _ _ :: _) _ _; refine wpL_alloc_word (w.heap.size + 1) (by simp) rfl rfl ?_; intro w0 hA0 hG0 hs0; have HG0 := Lib.hid ((gr_alloc w (.cells #[.bool true, .slice A0 bx.length c0, .slice A1 n1 c1] 56)).trans hG0.out))
      | (guard_target = wpList _ _ _ (Oper.mk _ (Op.load _ _) _ _ _ _ :: _) _ _; refine wpList_load_row rfl 23 (.tmp 4) rfl (w.heap.size + 2) rfl 23 (bvs zero32).toArray (0, 0) _ hA1.out rfl rfl (arr_info _ zero32_length) ?_)
      | (guard_target = wpList _ _ _ (Oper.mk _ (Op.store _ _ _) _ _ _ _ :: _) _ _; refine wpList_store_row rfl 23 (.tmp 2) (.tmp 26) rfl (w.heap.size + 1) (bvs zero32).toArray rfl rfl 23 _ HA0.out (arr_info _ zero32_length) rfl (arr_one _) ?_)
    refine bodyPost_ret (results_word2 rfl _ _ (w.heap.size + 1) 23 zero32 rfl (arr_setRow HA0.out) zero32_length) rfl ?_
    exact ⟨_, rfl, gr_setRow HG1.out _ _ (by omega), by unfold eqV; rw [HI.out]; rfl⟩
  | false =>
    have HN : Hid (numB (.mk false bx xs) = if bx.head? = some 0 then none else some bx) := Lib.hid rfl
    by_cases h8 : 32 < bx.length
    · have HI := Lib.hid (wordV_none (show wordR (.mk false bx xs) = none by unfold wordR; rw [HN.out]; split; rfl; rw [Option.bind_some, if_neg (by omega)]))
      go_enter Try.func48, Try.ntmps48
      go_wp2_with first
        | (guard_target = wpList _ _ _ (Oper.mk _ (Op.alloc _) _ _ _ _ :: _) _ _; refine wpL_alloc_word (w.heap.size + 2) (by rw [hs0]) rfl rfl ?_; intro w1 hA1 hG1 hs1; have HG1 := Lib.hid (HG0.out.trans hG1.out); have HA0 := Lib.hid (hA0.out.gr hG1.out); obtain ⟨q0, q1, q2⟩ := cells_of3 (((hG0.out.trans hG1.out).block w.heap.size (by simp)).trans (heap_alloc_new w _)))
        | (guard_target = wpList _ _ _ (Oper.mk _ (Op.alloc _) _ _ _ _ :: _) _ _; refine wpL_alloc_word (w.heap.size + 1) (by simp) rfl rfl ?_; intro w0 hA0 hG0 hs0; have HG0 := Lib.hid ((gr_alloc w (.cells #[.bool false, .slice A0 bx.length c0, .slice A1 n1 c1] 56)).trans hG0.out))
        | (guard_target = wpList _ _ _ (Oper.mk _ (Op.load _ _) _ _ _ _ :: _) _ _; refine wpList_load_row rfl 23 (.tmp 4) rfl (w.heap.size + 2) rfl 23 (bvs zero32).toArray (0, 0) _ hA1.out rfl rfl (arr_info _ zero32_length) ?_)
        | (guard_target = wpList _ _ _ (Oper.mk _ (Op.store _ _ _) _ _ _ _ :: _) _ _; refine wpList_store_row rfl 23 (.tmp 2) (.tmp 26) rfl (w.heap.size + 1) (bvs zero32).toArray rfl rfl 23 _ HA0.out (arr_info _ zero32_length) rfl (arr_one _) ?_)
      refine bodyPost_ret (results_word2 rfl _ _ (w.heap.size + 1) 23 zero32 rfl (arr_setRow HA0.out) zero32_length) rfl ?_
      exact ⟨_, rfl, gr_setRow HG1.out _ _ (by omega), by unfold eqV; rw [HI.out]; rfl⟩
    · have h9 : bx.length ≤ 32 := by omega
      clear h8
      by_cases hz : bx.head? = some 0
      · obtain ⟨l, rfl⟩ : ∃ l, bx = 0 :: l := by
          cases bx with
          | nil => cases hz
          | cons b l => simp at hz; exact ⟨l, by rw [hz]⟩
        have HI := Lib.hid (wordV_none (show wordR (.mk false (0 :: l) xs) = none by unfold wordR; rw [HN.out]; rfl))
        obtain ⟨bl, o, rfl, hbl, hcell⟩ := isB_at HR.out 0 (by simp)
        have hcell' : w.cell? ⟨bl, o, none⟩ = some (.int .u8 0) := hcell
        have HCELL := Lib.hid hcell'
        have hlen : (0 :: l : List UInt8).length = l.length + 1 := rfl
        rw [hlen] at hc0 HX h9 ⊢
        clear hz HN hcell hcell' hlen
        go_enter Try.func48, Try.ntmps48
        go_wp2_with first
          | (guard_target = wpList _ _ _ (Oper.mk _ (Op.alloc _) _ _ _ _ :: _) _ _; refine wpL_alloc_word (w.heap.size + 2) (by rw [hs0]) rfl rfl ?_; intro w1 hA1 hG1 hs1; have HG1 := Lib.hid (HG0.out.trans hG1.out); have HA0 := Lib.hid (hA0.out.gr hG1.out); obtain ⟨q0, q1, q2⟩ := cells_of3 (((hG0.out.trans hG1.out).block w.heap.size (by simp)).trans (heap_alloc_new w _)); have q3 := (HG1.out.cell (p := ⟨bl, o, none⟩) hbl).trans HCELL.out)
          | (guard_target = wpList _ _ _ (Oper.mk _ (Op.alloc _) _ _ _ _ :: _) _ _; refine wpL_alloc_word (w.heap.size + 1) (by simp) rfl rfl ?_; intro w0 hA0 hG0 hs0; have HG0 := Lib.hid ((gr_alloc w (.cells #[.bool false, .slice (some ⟨bl, o, none⟩) (l.length + 1) c0, .slice A1 n1 c1] 56)).trans hG0.out))
          | (guard_target = wpList _ _ _ (Oper.mk _ (Op.load _ _) _ _ _ _ :: _) _ _; refine wpList_load_row rfl 23 (.tmp 4) rfl (w.heap.size + 2) rfl 23 (bvs zero32).toArray (0, 0) _ hA1.out rfl rfl (arr_info _ zero32_length) ?_)
          | (guard_target = wpList _ _ _ (Oper.mk _ (Op.store _ _ _) _ _ _ _ :: _) _ _; refine wpList_store_row rfl 23 (.tmp 2) (.tmp 26) rfl (w.heap.size + 1) (bvs zero32).toArray rfl rfl 23 _ HA0.out (arr_info _ zero32_length) rfl (arr_one _) ?_)
        refine bodyPost_ret (results_word2 rfl _ _ (w.heap.size + 1) 23 zero32 rfl (arr_setRow HA0.out) zero32_length) rfl ?_
        exact ⟨_, rfl, gr_setRow HG1.out _ _ (by omega), by unfold eqV; rw [HI.out]; rfl⟩
      · rcases bx with _ | ⟨b, l⟩
        · clear hz HN
          have HI := Lib.hid (wordV_some (show wordR (.mk false [] xs) = some (pad []) from rfl))
          simp only [List.length_nil] at hc0 HX h9 ⊢
          have HSP : Hid (splice (bvs zero32) (32 - 0) (bvs []) = bvs (pad [])) := Lib.hid (splice_pad ([] : List UInt8) h9)
          have HP := Lib.hid (pad_length ([] : List UInt8) h9)
          go_enter Try.func48, Try.ntmps48
          go_wp2_with first
            | (guard_target = wpList _ _ _ (Oper.mk _ (Op.alloc _) _ _ _ _ :: _) _ _; refine wpL_alloc_word (w.heap.size + 2) (by rw [hs0]) rfl rfl ?_; intro w1 hA1 hG1 hs1; have HG1 := Lib.hid (HG0.out.trans hG1.out); have HA0 := Lib.hid (hA0.out.gr hG1.out); obtain ⟨q0, q1, q2⟩ := cells_of3 (((hG0.out.trans hG1.out).block w.heap.size (by simp)).trans (heap_alloc_new w _)))
            | (guard_target = wpList _ _ _ (Oper.mk _ (Op.alloc _) _ _ _ _ :: _) _ _; refine wpL_alloc_word (w.heap.size + 1) (by simp) rfl rfl ?_; intro w0 hA0 hG0 hs0; have HG0 := Lib.hid ((gr_alloc w (.cells #[.bool false, .slice A0 0 c0, .slice A1 n1 c1] 56)).trans hG0.out))
          have k1 := later_cell (w := w1) (p := ⟨w.heap.size, 1, none⟩) (by show w.heap.size < _; omega) q1
          refine wp_region_N 7 (by kernel_rfl) (by kernel_rfl) (by kernel_rfl) ?_
          simp only [List.take_succ_cons, List.take_zero, List.drop_succ_cons, List.drop_zero]
          refine wpN_quiet 7 (by kernel_rfl) ?_
          simp only [List.take_succ_cons, List.take_zero, List.drop_succ_cons, List.drop_zero]
          repeat (go_big_quiet_step (fail))
          refine wpQuiet_nil ?_
          refine wpN_nil (by kernel_rfl) ?_
          intro W hW
          replace hW := hW.gr
          unfold finN
          have hs2 := hW.size
          go_wp2_with first
            | (guard_target = wpList _ _ _ (Oper.mk _ (Op.call _) _ _ _ _ :: _) _ _; refine wpList_copy_splice rfl (.tmp 31) (.tmp 33) 29 29 rfl 5 Try.underlying29 (by kernel_rfl) (some ⟨w.heap.size + 2, 0, none⟩) A0 (0) (0) (0) c0 rfl rfl (w.heap.size + 2) (32 - (0)) (bvs zero32) 23 (hA1.out.gr hW) (bvs ([] : List UInt8)) (by simp [bvs]) (fun h0 => absurd h0 (by simp [bvs])) (by simp [bvs, zero32]; try omega) (bvs_one _) (w.heap.size + 2) W (Below.refl _ _) (Nat.le_refl _) ?_; intro w3 hA3 hG3; rw [HSP.out] at hA3; have HG3 : Hid (Gr w w3) := Lib.hid (Below.trans (HG1.out.trans hW) (hG3.mono (show w.heap.size ≤ w.heap.size + 2 by omega))); have HA3 : Hid (Arr w3 (w.heap.size + 1) 23 zero32) := Lib.hid ((hG3.block (w.heap.size + 1) (by omega)).trans (HA0.out.gr hW)))
            | (guard_target = wpList _ _ _ (Oper.mk _ (Op.load _ _) _ _ _ _ :: _) _ _; refine wpList_load_row rfl 23 (.tmp 4) rfl (w.heap.size + 2) rfl 23 (bvs (pad ([] : List UInt8))).toArray (0, 0) _ hA3.out rfl rfl (arr_info _ HP.out) ?_)
            | (guard_target = wpList _ _ _ (Oper.mk _ (Op.store _ _ _) _ _ _ _ :: _) _ _; refine wpList_store_row rfl 23 (.tmp 2) (.tmp 35) rfl (w.heap.size + 1) (bvs (pad ([] : List UInt8))).toArray rfl rfl 23 _ HA3.out (arr_info _ HP.out) (by rw [arr_size _ HP.out]; rfl) (arr_one _) ?_)
          refine bodyPost_ret (results_word2 rfl _ _ (w.heap.size + 1) 23 (pad ([] : List UInt8)) rfl (arr_setRow HA3.out) HP.out) rfl ?_
          exact ⟨_, rfl, gr_setRow HG3.out _ _ (by omega), by unfold eqV; rw [HI.out]; rfl⟩
        · skip
          have hb : b ≠ 0 := fun e => hz (by rw [e]; rfl)
          have hI : wordR (.mk false (b :: l) xs) = some (pad (b :: l)) := by
            unfold wordR
            rw [HN.out, if_neg hz, Option.bind_some, if_pos h9]
          have HI := Lib.hid (wordV_some hI)
          obtain ⟨bl, o, rfl, hbl, hcell⟩ := isB_at HR.out 0 (by simp)
          have hcell' : w.cell? ⟨bl, o, none⟩ = some (.int .u8 (b.toNat : Int)) := hcell
          have HCELL := Lib.hid hcell'
          have hn : ((b.toNat : Int) == 0) = false := by
            rw [Bool.eq_false_iff]
            intro e
            have e2 : (b.toNat : Int) = 0 := by simpa using e
            exact hb (UInt8.toNat_inj.1 (by rw [show (0 : UInt8).toNat = 0 from rfl]; omega))
          simp only [List.length_cons] at hc0 HX h9 ⊢
          clear hz HN hcell hcell' hI hb
          obtain ⟨dp, hsl, hdp⟩ := slice_word_end (w.heap.size + 2) (l.length + 1) (32 - ((l.length : Int) + 1)) (by simp; try omega) h9
          have HDP := Lib.hid hdp
          have HSL := Lib.hid hsl
          clear hdp hsl
          have hsrc : ∀ w' : World, Gr w w' → 0 < (bvs (b :: l)).length → dp = some ⟨w.heap.size + 2, 32 - (l.length + 1), none⟩ ∧ ∃ ad, (some (⟨bl, o, none⟩ : Addr)) = some ad ∧ ∀ j v, (bvs (b :: l))[j]? = some v → w'.cell? (ad.add j) = some v := fun w' hg h0 => ⟨HDP.out (by simp), copy_src HR.out hg h0⟩
          have HSRC := Lib.hid hsrc
          have HSP : Hid (splice (bvs zero32) (32 - (l.length + 1)) (bvs (b :: l)) = bvs (pad (b :: l))) := Lib.hid (splice_pad (b :: l) h9)
          have HP := Lib.hid (pad_length (b :: l) h9)
          clear hsrc
          go_enter Try.func48, Try.ntmps48
          go_wp2_with first
            | (guard_target = wpList _ _ _ (Oper.mk _ (Op.alloc _) _ _ _ _ :: _) _ _; refine wpL_alloc_word (w.heap.size + 2) (by rw [hs0]) rfl rfl ?_; intro w1 hA1 hG1 hs1; have HG1 := Lib.hid (HG0.out.trans hG1.out); have HA0 := Lib.hid (hA0.out.gr hG1.out); obtain ⟨q0, q1, q2⟩ := cells_of3 (((hG0.out.trans hG1.out).block w.heap.size (by simp)).trans (heap_alloc_new w _)); have q3 := (HG1.out.cell (p := ⟨bl, o, none⟩) hbl).trans HCELL.out)
            | (guard_target = wpList _ _ _ (Oper.mk _ (Op.alloc _) _ _ _ _ :: _) _ _; refine wpL_alloc_word (w.heap.size + 1) (by simp) rfl rfl ?_; intro w0 hA0 hG0 hs0; have HG0 := Lib.hid ((gr_alloc w (.cells #[.bool false, .slice (some ⟨bl, o, none⟩) (l.length + 1) c0, .slice A1 n1 c1] 56)).trans hG0.out))
          have k1 := later_cell (w := w1) (p := ⟨w.heap.size, 1, none⟩) (by show w.heap.size < _; omega) q1
          have k2 : ∀ x : Later w1, _ := fun x => HSL.out x.1
          refine wp_region_N 7 (by kernel_rfl) (by kernel_rfl) (by kernel_rfl) ?_
          simp only [List.take_succ_cons, List.take_zero, List.drop_succ_cons, List.drop_zero]
          refine wpN_quiet 7 (by kernel_rfl) ?_
          simp only [List.take_succ_cons, List.take_zero, List.drop_succ_cons, List.drop_zero]
          repeat (go_big_quiet_step (fail))
          refine wpQuiet_nil ?_
          refine wpN_nil (by kernel_rfl) ?_
          intro W hW
          replace hW := hW.gr
          unfold finN
          have hs2 := hW.size
          go_wp2_with first
            | (guard_target = wpList _ _ _ (Oper.mk _ (Op.call _) _ _ _ _ :: _) _ _; refine wpList_copy_splice rfl (.tmp 31) (.tmp 33) 29 29 rfl 5 Try.underlying29 (by kernel_rfl) dp (some ⟨bl, o, none⟩) ((l.length + 1)) ((l.length + 1)) ((l.length + 1)) c0 rfl rfl (w.heap.size + 2) (32 - ((l.length + 1))) (bvs zero32) 23 (hA1.out.gr hW) (bvs (b :: l)) (by simp [bvs]) (HSRC.out W (HG1.out.trans hW)) (by simp [bvs, zero32]; try omega) (bvs_one _) (w.heap.size + 2) W (Below.refl _ _) (Nat.le_refl _) ?_; intro w3 hA3 hG3; rw [HSP.out] at hA3; have HG3 : Hid (Gr w w3) := Lib.hid (Below.trans (HG1.out.trans hW) (hG3.mono (show w.heap.size ≤ w.heap.size + 2 by omega))); have HA3 : Hid (Arr w3 (w.heap.size + 1) 23 zero32) := Lib.hid ((hG3.block (w.heap.size + 1) (by omega)).trans (HA0.out.gr hW)))
            | (guard_target = wpList _ _ _ (Oper.mk _ (Op.load _ _) _ _ _ _ :: _) _ _; refine wpList_load_row rfl 23 (.tmp 4) rfl (w.heap.size + 2) rfl 23 (bvs (pad (b :: l))).toArray (0, 0) _ hA3.out rfl rfl (arr_info _ HP.out) ?_)
            | (guard_target = wpList _ _ _ (Oper.mk _ (Op.store _ _ _) _ _ _ _ :: _) _ _; refine wpList_store_row rfl 23 (.tmp 2) (.tmp 35) rfl (w.heap.size + 1) (bvs (pad (b :: l))).toArray rfl rfl 23 _ HA3.out (arr_info _ HP.out) (by rw [arr_size _ HP.out]; rfl) (arr_one _) ?_)
          refine bodyPost_ret (results_word2 rfl _ _ (w.heap.size + 1) 23 (pad (b :: l)) rfl (arr_setRow HA3.out) HP.out) rfl ?_
          exact ⟨_, rfl, gr_setRow HG3.out _ _ (by omega), by unfold eqV; rw [HI.out]; rfl⟩
end Go.Proofs.Ytekacgocjplfjaa
/-
  Words as items: rlp.Big and the reference's Big.
  Conditions: none.
-/
namespace Go.Proofs.Ytekacgocjplfjaa
set_option linter.unusedVariables false
open Go.RowKit Mono Rlp

theorem arr_cell {w : World} {g : Nat} {t : TypeId} {l : List UInt8} (h : Arr w g t l) (k : Nat) (hk : k < l.length) : w.cell? ⟨g, k, none⟩ = some (.int .u8 (l[k].toNat : Int)) := by
  rw [cell_of_row w g k _ t (0, 0) h]
  simp [bvs, bv, hk]
theorem isB_arr {w : World} {g : Nat} {t : TypeId} {l : List UInt8} (h : Arr w g t l) (k : Nat) (hk : k ≤ l.length) (hm : l.length ≤ maxLen) (c : Nat) (hc : l.length - k ≤ c) (hcm : c ≤ maxLen) : IsB w (.slice (some ⟨g, k, none⟩) (l.length - k) c) (l.drop k) := by
  refine ⟨_, _, by rw [List.length_drop], by rw [List.length_drop]; exact hc, hcm, fun hn => ⟨g, k, rfl, h.lt, fun j u hu => ?_⟩⟩
  rw [cell_of_row w g _ _ t (0, 0) h]
  rw [bvs_drop, List.getElem?_drop] at hu
  simpa using hu
set_option maxRecDepth 100000 in
theorem run_box_word (w : World) (l : List UInt8) : (Instr.box 23 (arrV l)).run Try.prog w = .ok (.pointer (some ⟨w.heap.size, 0, none⟩)) (w.alloc (.cells (bvs l).toArray 23)) := by kernel_rfl
/-- A word that a function takes. -/
theorem wpL_box_word {w : World} {ops : Array Oper} {rest : List Oper} {o : Oper} {a : Act} {Q : Exit → Act → World → Prop} (g : Nat) (hg : w.heap.size = g) (x : Operand) (l : List UInt8) (hgd : o.guard = none) (ho : o.op = .box 23 x) (hx : a.eval x = arrV l)
    (h : ∀ w', Hid (Arr w' g 23 l) → Hid (Gr w w') → w'.heap.size = g + 1 → wpList Try.prog ops Q rest (a.put o.dst (.pointer (some ⟨g, 0, none⟩))) w') : wpList Try.prog ops Q (o :: rest) a w := by
  subst hg
  refine wpList_plain hgd fun _ hK => ?_
  have h1 := hK _ _ (h _ (Lib.hid (heap_alloc_new w _)) (Lib.hid (gr_alloc w _)) (by simp))
  unfold Oper.wp execOp
  simp only [ho, hx, Sem.run_bind, run_box_word, Result.andThen_ok, Sem.run_pure]
  exact h1
theorem results_item1 {fn : Func} {p : Tmp} (h : fn.results = #[.cell p 56]) (tmps : Array Value) (w : World) (g : Nat) (cs : Array Value)
    (hp : tmps.getD p undef = .pointer (some ⟨g, 0, none⟩)) (hg : w.heap[g]? = some (.cells cs 56 (0, 0))) (hs : cs.size = 3) :
    (results fn tmps).run Try.prog w = .ok (.agg cs) w :=
  results_cell_row h tmps w g 56 cs (0, 0) _ hp hg Try.underlying56 rfl (item_info cs hs)
theorem at_zero (l : List UInt8) (k : Nat) (hk : k < l.length) : ((l[k].toNat : Int) == 0) = decide (l[k] = 0) := by
  rw [Bool.eq_iff_iff, beq_iff_eq, decide_eq_true_eq]
  constructor
  · intro e
    exact UInt8.toNat_inj.1 (by rw [show (0 : UInt8).toNat = 0 from rfl]; omega)
  · intro e
    rw [e]
    rfl
set_option maxRecDepth 20000 in
set_option maxHeartbeats 1000000 in
theorem ref_bytes (v : Value) (l : List UInt8) (B : Nat) (w : World) (h : IsBP (fun k => B ≤ k ∧ k < w.heap.size) w v l) : Calls Try.prog 25 #[v] w (Ret (fun v' w' => ItemIn (fun k => B ≤ k ∧ k < w.heap.size) w' v' (.mk false l [])) w) := by
  have HB := Lib.hid h
  obtain ⟨A, c, rfl, hc1, hc2, hr⟩ := h
  clear hr
  go_enter Try.func25, Try.ntmps25
  go_wp2_with fail
  refine bodyPost_ret (results_item1 rfl _ _ w.heap.size #[.bool false, .slice A l.length c, .slice none 0 0] rfl (heap_alloc_new w _) rfl) rfl ⟨_, rfl, gr_alloc w _, itemIn_bytes (HB.out.mono (fun b hb => hb) fun p hp => (gr_alloc w _).cell hp.2)⟩
set_option maxRecDepth 20000 in
set_option maxHeartbeats 1000000 in
theorem ref_Big (l : List UInt8) (hl : l.length = 32) (w : World) : Calls Try.prog 24 #[arrV l] w (Ret (fun v w' => ItemIn (fun k => w.heap.size ≤ k ∧ k < w'.heap.size) w' v (.mk false (strip l) [])) w) := by
  go_enter Try.func24, Try.ntmps24
  go_wp2_with (guard_target = wpList _ _ _ (Oper.mk _ (Op.box _ _) _ _ _ _ :: _) _ _; refine wpL_box_word w.heap.size rfl (.tmp 0) l rfl rfl rfl ?_; intro w0 hA0 hG0 hs0)
  have HG1 := Lib.hid (hG0.out.trans (gr_alloc w0 (.cells #[.bool false, .slice none 0 0, .slice none 0 0] 56)))
  have HA1 := Lib.hid (arr_old hA0.out (.cells #[.bool false, .slice none 0 0, .slice none 0 0] 56))
  have HI1 : Hid ((w0.alloc (.cells #[.bool false, .slice none 0 0, .slice none 0 0] 56)).heap[w.heap.size + 1]? = _) := Lib.hid (heap_at w0 _ _ hs0.symm)
  have hs1 : (w0.alloc (.cells #[.bool false, .slice none 0 0, .slice none 0 0] 56)).heap.size = w.heap.size + 2 := by simp [hs0]
  generalize w0.alloc (.cells #[.bool false, .slice none 0 0, .slice none 0 0] 56) = w1 at HG1 HA1 HI1 hs1 ⊢
  go_loopw [3] (fun i wr => ∃ k : Nat, k ≤ 32 ∧ i = .int .i64 k ∧ wr = w1 ∧ Hid (strip (l.drop k) = strip l)) (fun i _ => 32 - (intOf i).toNat)
  case atStart => exact ⟨0, by omega, rfl, rfl, Lib.hid rfl⟩
  case round =>
    obtain ⟨k, hk, rfl, rfl, HST⟩ := hrel
    by_cases h1 : k < 32
    · have hc := arr_cell HA1.out k (by omega)
      by_cases hz : l[k] = 0
      · have hstep : strip (l.drop (k + 1)) = strip l := by
          rw [← HST.out, List.drop_eq_getElem_cons (by omega : k < l.length), strip, if_pos hz]
        have HSTEP := Lib.hid hstep
        rw [hz] at hc
        have hc2 : wr.cell? ⟨w.heap.size, k, none⟩ = some (.int .u8 0) := hc
        clear hc hstep hz
        go_wp2_with fail
        go_roundw
        case rel => exact ⟨k + 1, by omega, by go_num, trivial, HSTEP⟩
        case measure => simp [intOf]; omega
      · have hn := at_zero l k (by omega)
        rw [decide_eq_false hz] at hn
        have HD : Hid (l.drop k = strip l) := Lib.hid (by rw [← HST.out, strip_at l k (by omega) hz])
        have hsl := fun w' : World => slice_word w' w.heap.size k k rfl (by omega)
        have HRD : Hid (Rd wr wr.heap.size (some ⟨w.heap.size, k, none⟩) (bvs (l.drop k))) := by
          obtain ⟨_, _, e, _, _, h⟩ := isB_arr HA1.out k (by omega) (by simp [hl, maxLen]) (l.length - k) (Nat.le_refl _) (by simp [hl, maxLen]; omega)
          injection e with e1 _ _
          subst e1
          exact Lib.hid h
        have hne : ¬ 32 = k := by omega
        simp only [if_neg hne] at hsl
        have hlen : (bvs (l.drop k)).length = (32 - k) * 1 := by simp [bvs, hl]
        clear hz
        go_wp2_with first
          | (at_builtin; refine wpL_append (.const (.slice none 0 0)) (.tmp 15) 29 slT_bytes (base := wr.heap.size) _ 0 [] (some ⟨w.heap.size, k, none⟩) (32 - k) (32 - k) wr.heap.size (bvs (l.drop k)) rfl rfl rfl rfl (World.ownsRow_nil _ _ _ _) HRD.out hlen (bvs_one _) (by simp only [maxLen]; omega) (by omega) (Nat.le_refl _) ?_; intro A2 c2 w2 hown2 hg2 _; simp only [Nat.zero_add, List.nil_append] at hown2; have HO2 : Hid (OwnB w2 wr.heap.size (.slice A2 (32 - k) c2) (strip l)) := Lib.hid (ownB_of hown2 (by rw [← HD.out])); have HG2 : Hid (Gr wr w2) := Lib.hid ((Below.refl _ _).grown hg2 (Nat.le_refl _) (fun j hj => by cases hj)); clear hown2 hg2)
          | (go_at_call 25; refine (ref_bytes _ (strip l) wr.heap.size _ (ownB_P HO2.out)).mono ?_; rintro e w3 ⟨v3, rfl, hg3, hv3⟩; have HI3 := Lib.hid hv3; obtain ⟨cs3, rfl, hat3⟩ := hv3; obtain ⟨b3, A4, n4, c4, A5, n5, c5, rfl⟩ := hat3.len; have hs3 := hg3.size; have HG3 := Lib.hid (HG2.out.trans hg3); have HR3 := Lib.hid ((HG3.out.block _ (lt_of_some HI1.out)).trans HI1.out); clear hg3 hat3)
          | (guard_target = wpList _ _ _ (Oper.mk _ (Op.store _ _ _) _ _ _ _ :: _) _ _; refine wpList_store_row rfl 56 (.tmp 2) (.tmp 17) rfl (w.heap.size + 1) _ rfl rfl 56 _ HR3.out (by kernel_rfl) rfl (by simp [Value.oneCell']) ?_)
        refine bodyPost_ret (results_item1 rfl _ _ (w.heap.size + 1) _ rfl (heap_setRow_same _ _ _ _ _ HR3.out) rfl) rfl ⟨_, rfl, gr_setRow (HG1.out.trans HG3.out) _ _ (by omega), ?_⟩
        exact HI3.out.mono (fun b hb => ⟨by have := hb.1; omega, by rw [size_setRow]; have := hb.2; omega⟩) (fun p hp => cell_setRow (by have := hp.1; omega))
    · skip
      have hk2 : k = 32 := by omega
      subst hk2
      have HD : Hid (l.drop 32 = strip l) := Lib.hid (by rw [← HST.out, List.drop_eq_nil_of_le (by omega)]; rfl)
      have hz := h1
      have hsl := fun w' : World => slice_word w' w.heap.size 32 32 rfl (by omega)
      have HRD : Hid (Rd wr wr.heap.size (some ⟨w.heap.size, 0, none⟩) (bvs (l.drop 32))) := by
        rw [List.drop_eq_nil_of_le (by omega)]
        exact Lib.hid Rd.nil
      simp at hsl
      have hlen : (bvs (l.drop 32)).length = (32 - 32) * 1 := by simp [bvs, hl]
      clear hz
      go_wp2_with first
        | (at_builtin; refine wpL_append (.const (.slice none 0 0)) (.tmp 15) 29 slT_bytes (base := wr.heap.size) _ 0 [] (some ⟨w.heap.size, 0, none⟩) (32 - 32) (32 - 32) wr.heap.size (bvs (l.drop 32)) rfl rfl rfl rfl (World.ownsRow_nil _ _ _ _) HRD.out hlen (bvs_one _) (by simp only [maxLen]; omega) (by omega) (Nat.le_refl _) ?_; intro A2 c2 w2 hown2 hg2 _; simp only [Nat.zero_add, List.nil_append] at hown2; have HO2 : Hid (OwnB w2 wr.heap.size (.slice A2 (32 - 32) c2) (strip l)) := Lib.hid (ownB_of hown2 (by rw [← HD.out])); have HG2 : Hid (Gr wr w2) := Lib.hid ((Below.refl _ _).grown hg2 (Nat.le_refl _) (fun j hj => by cases hj)); clear hown2 hg2)
        | (go_at_call 25; refine (ref_bytes _ (strip l) wr.heap.size _ (ownB_P HO2.out)).mono ?_; rintro e w3 ⟨v3, rfl, hg3, hv3⟩; have HI3 := Lib.hid hv3; obtain ⟨cs3, rfl, hat3⟩ := hv3; obtain ⟨b3, A4, n4, c4, A5, n5, c5, rfl⟩ := hat3.len; have hs3 := hg3.size; have HG3 := Lib.hid (HG2.out.trans hg3); have HR3 := Lib.hid ((HG3.out.block _ (lt_of_some HI1.out)).trans HI1.out); clear hg3 hat3)
        | (guard_target = wpList _ _ _ (Oper.mk _ (Op.store _ _ _) _ _ _ _ :: _) _ _; refine wpList_store_row rfl 56 (.tmp 2) (.tmp 17) rfl (w.heap.size + 1) _ rfl rfl 56 _ HR3.out (by kernel_rfl) rfl (by simp [Value.oneCell']) ?_)
      refine bodyPost_ret (results_item1 rfl _ _ (w.heap.size + 1) _ rfl (heap_setRow_same _ _ _ _ _ HR3.out) rfl) rfl ⟨_, rfl, gr_setRow (HG1.out.trans HG3.out) _ _ (by omega), ?_⟩
      exact HI3.out.mono (fun b hb => ⟨by have := hb.1; omega, by rw [size_setRow]; have := hb.2; omega⟩) (fun p hp => cell_setRow (by have := hp.1; omega))
set_option maxRecDepth 20000 in
set_option maxHeartbeats 1000000 in
theorem rlp_Big (l : List UInt8) (hl : l.length = 32) (w : World) : Calls Try.prog 35 #[arrV l] w (Ret (fun v w' => ItemIn (fun k => w.heap.size ≤ k ∧ k < w'.heap.size) w' v (.mk false (strip l) [])) w) := by
  have hsl0 : ∀ w', (Instr.sliceAt 23 (.pointer (some ⟨w.heap.size, 0, none⟩)) none none none).run Try.prog w' = .ok (.slice (some ⟨w.heap.size, 0, none⟩) 32 32) w' := fun w' => by kernel_rfl
  go_enter Try.func35, Try.ntmps35
  go_wp2_with (guard_target = wpList _ _ _ (Oper.mk _ (Op.box _ _) _ _ _ _ :: _) _ _; refine wpL_box_word w.heap.size rfl (.tmp 0) l rfl rfl rfl ?_; intro w0 hA0 hG0 hs0)
  have HG1 := Lib.hid (hG0.out.trans (gr_alloc w0 (.cells #[.bool false, .slice none 0 0, .slice none 0 0] 56)))
  have HA1 := Lib.hid (arr_old hA0.out (.cells #[.bool false, .slice none 0 0, .slice none 0 0] 56))
  have HI1 : Hid ((w0.alloc (.cells #[.bool false, .slice none 0 0, .slice none 0 0] 56)).heap[w.heap.size + 1]? = _) := Lib.hid (heap_at w0 _ _ hs0.symm)
  have hs1 : (w0.alloc (.cells #[.bool false, .slice none 0 0, .slice none 0 0] 56)).heap.size = w.heap.size + 2 := by simp [hs0]
  generalize w0.alloc (.cells #[.bool false, .slice none 0 0, .slice none 0 0] 56) = w1 at HG1 HA1 HI1 hs1 ⊢
  clear hsl0
  go_loopw [3] (fun bv wr => ∃ (k : Nat) (A : Option Addr), k ≤ 32 ∧ bv = .slice A (32 - k) (32 - k) ∧ (k < 32 → A = some ⟨w.heap.size, k, none⟩) ∧ wr = w1 ∧ Hid (strip (l.drop k) = strip l)) (fun bv _ => match bv with | .slice _ n _ => n | _ => 0)
  case atStart => exact ⟨0, some ⟨w.heap.size, 0, none⟩, by omega, rfl, fun _ => rfl, rfl, Lib.hid rfl⟩
  case round =>
    obtain ⟨k, A, hk, rfl, hA, rfl, HST⟩ := hrel
    by_cases h1 : k < 32
    · obtain rfl := hA h1
      have hc := arr_cell HA1.out k (by omega)
      have e1 : (((32 - k : Nat) : Int)) = 32 - (k : Int) := by omega
      by_cases hz : l[k] = 0
      · have HSTEP : Hid (strip (l.drop (k + 1)) = strip l) := Lib.hid (by rw [← HST.out, List.drop_eq_getElem_cons (by omega : k < l.length), strip, if_pos hz])
        rw [hz] at hc
        have hc2 : wr.cell? ⟨w.heap.size, k, none⟩ = some (.int .u8 0) := hc
        clear hc hz
        go_wp2_with fail
        go_roundw
        case rel => exact ⟨k + 1, _, by omega, by rw [show 32 - (k + 1) = 32 - k - 1 by omega], fun h => if_neg (by omega), trivial, HSTEP⟩
        case measure => show 32 - k - 1 < 32 - k; omega
      · have hn := at_zero l k (by omega)
        rw [decide_eq_false hz] at hn
        have HD : Hid (l.drop k = strip l) := Lib.hid (by rw [← HST.out, strip_at l k (by omega) hz])
        have HB : Hid (IsB wr (.slice (some ⟨w.heap.size, k, none⟩) (32 - k) (32 - k)) (strip l)) := by
          have := isB_arr HA1.out k (by omega) (by simp [hl, maxLen]) (l.length - k) (Nat.le_refl _) (by simp [hl, maxLen]; omega)
          rw [HD.out, hl] at this
          exact Lib.hid this
        clear hz
        go_wp2_with first
          | (go_at_call 40; refine (clone_bytes _ (strip l) _ HB.out (by have := strip_length l; omega)).mono ?_; rintro e w2 ⟨v2, rfl, hg2, ho2⟩; have HB2 := Lib.hid (ownB_P ho2); obtain ⟨A2, c2, rfl, _⟩ := own_form ho2; have HG2 := Lib.hid hg2; have HR2 := Lib.hid ((hg2.block _ (lt_of_some HI1.out)).trans HI1.out); clear hg2 ho2)
          | (guard_target = wpList _ _ _ (Oper.mk _ (Op.store _ _ _) _ _ _ _ :: _) _ _; refine wpList_store_row rfl 56 (.tmp 2) (.tmp 18) rfl (w.heap.size + 1) _ rfl rfl 56 _ HR2.out (by kernel_rfl) rfl (by simp [Value.oneCell']) ?_)
        refine bodyPost_ret (results_item1 rfl _ _ (w.heap.size + 1) _ rfl (heap_setRow_same _ _ _ _ _ HR2.out) rfl) rfl ⟨_, rfl, gr_setRow (HG1.out.trans HG2.out) _ _ (by omega), ?_⟩
        exact itemIn_bytes (HB2.out.mono (fun b hb => ⟨by have := hb.1; omega, by rw [size_setRow]; have := hb.2; omega⟩) (fun p hp => cell_setRow (by have := hp.1; omega)))
    · skip
      have hk2 : k = 32 := by omega
      subst hk2
      have HD : Hid (l.drop 32 = strip l) := Lib.hid (by rw [← HST.out, List.drop_eq_nil_of_le (by omega)]; rfl)
      have hz := h1
      have HB : Hid (IsB wr (.slice A (32 - 32) (32 - 32)) (strip l)) := by
        rw [← HD.out, List.drop_eq_nil_of_le (by omega)]
        exact Lib.hid ⟨_, 0, rfl, by simp, by simp [maxLen], Rd.nil⟩
      clear hz
      go_wp2_with first
        | (go_at_call 40; refine (clone_bytes _ (strip l) _ HB.out (by have := strip_length l; omega)).mono ?_; rintro e w2 ⟨v2, rfl, hg2, ho2⟩; have HB2 := Lib.hid (ownB_P ho2); obtain ⟨A2, c2, rfl, _⟩ := own_form ho2; have HG2 := Lib.hid hg2; have HR2 := Lib.hid ((hg2.block _ (lt_of_some HI1.out)).trans HI1.out); clear hg2 ho2)
        | (guard_target = wpList _ _ _ (Oper.mk _ (Op.store _ _ _) _ _ _ _ :: _) _ _; refine wpList_store_row rfl 56 (.tmp 2) (.tmp 18) rfl (w.heap.size + 1) _ rfl rfl 56 _ HR2.out (by kernel_rfl) rfl (by simp [Value.oneCell']) ?_)
      refine bodyPost_ret (results_item1 rfl _ _ (w.heap.size + 1) _ rfl (heap_setRow_same _ _ _ _ _ HR2.out) rfl) rfl ⟨_, rfl, gr_setRow (HG1.out.trans HG2.out) _ _ (by omega), ?_⟩
      exact itemIn_bytes (HB2.out.mono (fun b hb => ⟨by have := hb.1; omega, by rw [size_setRow]; have := hb.2; omega⟩) (fun p hp => cell_setRow (by have := hp.1; omega)))
end Go.Proofs.Ytekacgocjplfjaa
/-
  Numbers as words: the reference's Of, Int, IntOf; Num.
  Conditions: none.
-/
namespace Go.Proofs.Ytekacgocjplfjaa
set_option linter.unusedVariables false
open Go.RowKit Mono Rlp

theorem arr_setCell {w : World} {g : Nat} {t : TypeId} {l : List UInt8} (h : Arr w g t l) (k : Nat) (b : UInt8) : Arr (w.setCell ⟨g, k, none⟩ (bv b)) g t (l.set k b) := by
  unfold Arr at h ⊢
  rw [setCell_eq_setRow w g k _ t (0, 0) _ h]
  rw [heap_setRow_same w g _ _ t h]
  simp [bvs, List.map_set]
theorem arr_frozen {w : World} {g : Nat} {t : TypeId} {l : List UInt8} (h : Arr w g t l) (k : Nat) : w.frozen? ⟨g, k, none⟩ = false := by
  unfold Arr at h
  simp [World.frozen?, h]
theorem heap_setCell_other (w : World) (p : Addr) (v : Value) (j : Nat) (h : j ≠ p.block) : (w.setCell p v).heap[j]? = w.heap[j]? := by
  exact Below.heap_setCell _ _ _ _ h
theorem size_setCell' (w : World) (p : Addr) (v : Value) : (w.setCell p v).heap.size = w.heap.size := by simp [World.setCell]
theorem pad_strip (l : List UInt8) (h : l.length = 32) : pad (strip l) = l := by
  have key : ∀ m : List UInt8, ∃ k, m = List.replicate k 0 ++ strip m := by
    intro m
    induction m with
    | nil => exact ⟨0, rfl⟩
    | cons b m ih =>
      obtain ⟨k, hk⟩ := ih
      rw [strip]
      split
      · rename_i hb
        subst hb
        exact ⟨k + 1, by rw [List.replicate_succ, List.cons_append, ← hk]⟩
      · exact ⟨0, rfl⟩
  obtain ⟨k, hk⟩ := key l
  have h2 := congrArg List.length hk
  rw [List.length_append, List.length_replicate, h] at h2
  unfold pad
  rw [show 32 - (strip l).length = k by omega, ← hk]
/-- A number's word. -/
def ofN (n : Nat) : List UInt8 := pad (be n)
theorem ofN_eq (l : List UInt8) (n : Nat) (h : l.length = 32) (hv : val l = n) : l = ofN n := by
  unfold ofN
  rw [← strip_be l n hv, pad_strip l h]
theorem results_word1 {fn : Func} {p : Tmp} (h : fn.results = #[.cell p 23]) (tmps : Array Value) (w : World) (g : Nat) (t : TypeId) (l : List UInt8)
    (hp : tmps.getD p undef = .pointer (some ⟨g, 0, none⟩)) (hg : Arr w g t l) (hs : l.length = 32) :
    (results fn tmps).run Try.prog w = .ok (arrV l) w :=
  results_cell_row h tmps w g t (bvs l).toArray (0, 0) _ hp hg Try.underlying23 rfl (arr_info l hs)
set_option maxRecDepth 20000 in
set_option maxHeartbeats 1000000 in
theorem ref_Of (n : Nat) (hn : n ≤ 9223372036854775807) (w : World) : Calls Try.prog 16 #[.int .i64 n] w (Ret (eqV (arrV (ofN n))) w) := by
  go_enter Try.func16, Try.ntmps16
  go_wp2_with first
    | (guard_target = wpList _ _ _ (Oper.mk _ (Op.alloc _) _ _ _ _ :: _) _ _; refine wpL_alloc_word (w.heap.size + 1) hs0 rfl rfl ?_; intro w1 hA1 hG1 hs1)
    | (guard_target = wpList _ _ _ (Oper.mk _ (Op.alloc _) _ _ _ _ :: _) _ _; refine wpL_alloc_word w.heap.size rfl rfl rfl ?_; intro w0 hA0 hG0 hs0)
  have HG1 := Lib.hid (hG0.out.trans hG1.out)
  have HA0 := Lib.hid (hA0.out.gr hG1.out)
  clear hA0 hG1 hG0
  go_loopw [0, 4] (fun nv i wr => ∃ (m j : Nat) (t : List UInt8), j ≤ 8 ∧ nv = .int .i64 m ∧ i = .int .i64 (31 - (j : Int)) ∧ t.length = j ∧ m ≤ n ∧ Hid (m * 256 ^ j + val t = n) ∧ Hid (Arr wr w.heap.size 23 zero32) ∧ Hid (Arr wr (w.heap.size + 1) 23 (List.replicate (32 - j) 0 ++ t)) ∧ Hid (Gr w wr)) (fun _ i _ => (intOf i).toNat)
  case atStart => exact ⟨n, 0, [], by omega, rfl, rfl, rfl, Nat.le_refl _, Lib.hid (by simp [val]), HA0, hA1, HG1⟩
  case round =>
    clear HA0 hA1 HG1
    obtain ⟨m, j, t, hj, rfl, rfl, htl, hmn, HV, HA0, HA1, HG⟩ := hrel
    by_cases h1 : j < 8
    · have hc := arr_cell HA1.out (31 - j) (by simp; omega)
      have hf := arr_frozen HA1.out (31 - j)
      have hz : (List.replicate (32 - j) (0 : UInt8) ++ t)[31 - j]'(by simp; omega) = 0 := by
        rw [List.getElem_append_left (by simp; omega), List.getElem_replicate]
      rw [hz] at hc
      have hc2 : wr.cell? ⟨w.heap.size + 1, 31 - j, none⟩ = some (.int .u8 0) := hc
      have hst := arr_setCell HA1.out (31 - j) (UInt8.ofNat m)
      rw [show 32 - j = 31 - j + 1 by omega] at hst
      have hset : (List.replicate (31 - j + 1) (0 : UInt8) ++ t).set (31 - j) (UInt8.ofNat m) = List.replicate (31 - j) 0 ++ UInt8.ofNat m :: t := set_zeros _ _ _
      rw [hset, ← bv_nat] at hst
      have HST := Lib.hid hst
      have HV2 := Lib.hid (w_step n m j t htl HV.out)
      clear hc hz hst hset
      have hlow := i64_and255 m
      go_wp2_with fail
      go_roundw
      case rel =>
        refine ⟨m / 256, j + 1, UInt8.ofNat m :: t, by omega, by go_num, by go_num, by simp [htl], by omega, HV2, ?_, ?_, ?_⟩
        · exact Lib.hid ((heap_setCell_other _ _ _ _ (by simp)).trans HA0.out)
        · rw [show 32 - (j + 1) = 31 - j by omega]
          exact HST
        · exact Lib.hid (HG.out.setCell (by simp) _)
      case measure => simp [intOf]; omega
    · obtain rfl : j = 8 := by omega
      have hm0 : m = 0 := by
        have := HV.out
        rcases Nat.eq_zero_or_pos m with h | h
        · exact h
        · have h2 : 1 * 256 ^ 8 ≤ m * 256 ^ 8 := Nat.mul_le_mul_right _ h
          omega
      subst hm0
      have HVAL : Hid (List.replicate 24 0 ++ t = ofN n) := Lib.hid (ofN_eq _ n (by simp [htl]) (by rw [val_zeros, ← HV.out]; simp))
      have HA1b : Hid (Arr wr (w.heap.size + 1) 23 (List.replicate 24 0 ++ t)) := HA1
      clear HA1 h1 HV
      go_wp2_with fail
      obtain ⟨wq, hwq⟩ : ∃ wq : World, wq = wr := ⟨_, rfl⟩
      rw [← hwq] at HA0 HA1b HG ⊢
      go_loopw [5] (fun i wr => ∃ k : Nat, k ≤ 24 ∧ i = .int .i64 k ∧ Hid (Arr wr w.heap.size 23 zero32) ∧ Hid (Arr wr (w.heap.size + 1) 23 (List.replicate 24 0 ++ t)) ∧ Hid (Gr w wr)) (fun i _ => 24 - (intOf i).toNat)
      case atStart => exact ⟨0, by omega, rfl, HA0, HA1b, HG⟩
      case round =>
        clear HA0 HA1b HG
        obtain ⟨k, hk, rfl, HA0, HA1, HG⟩ := hrel
        by_cases h2 : k < 24
        · have hc := arr_cell HA1.out k (by simp; omega)
          have hf := arr_frozen HA1.out k
          have hst := arr_setCell HA1.out k 0
          have hset : (List.replicate 24 (0 : UInt8) ++ t).set k 0 = List.replicate 24 0 ++ t := by
            rw [List.set_append_left _ _ (by simp; omega)]
            congr 1
            apply List.ext_getElem (by simp)
            intro q h3 h4
            rw [List.getElem_set]
            split
            · rw [List.getElem_replicate]
            · rfl
          rw [hset] at hst
          have HST := Lib.hid hst
          have hlow := i64_and255 0
          clear hst hset
          go_wp2_with fail
          go_roundw
          case rel =>
            exact ⟨k + 1, by omega, by go_num, Lib.hid ((heap_setCell_other _ _ _ _ (by simp)).trans HA0.out), HST, Lib.hid (HG.out.setCell (by simp) _)⟩
          case measure => simp [intOf]; omega
        · have h32 : (List.replicate 24 (0 : UInt8) ++ t).length = 32 := by simp [htl]
          go_wp2_with first
            | (guard_target = wpList _ _ _ (Oper.mk _ (Op.load _ _) _ _ _ _ :: _) _ _; refine wpList_load_row rfl 23 (.tmp 3) rfl (w.heap.size + 1) rfl 23 (bvs (List.replicate 24 (0 : UInt8) ++ t)).toArray (0, 0) _ HA1.out rfl rfl (arr_info _ h32) ?_)
            | (guard_target = wpList _ _ _ (Oper.mk _ (Op.store _ _ _) _ _ _ _ :: _) _ _; refine wpList_store_row rfl 23 (.tmp 2) (.tmp 26) rfl w.heap.size (bvs (List.replicate 24 (0 : UInt8) ++ t)).toArray rfl rfl 23 _ HA0.out (arr_info _ h32) (by rw [arr_size _ h32]; rfl) (arr_one _) ?_)
          refine bodyPost_ret (results_word1 rfl _ _ w.heap.size 23 (List.replicate 24 (0 : UInt8) ++ t) rfl (arr_setRow HA0.out) h32) rfl ⟨_, rfl, gr_setRow HG.out _ _ (Nat.le_refl _), ?_⟩
          unfold eqV
          rw [HVAL.out]
set_option maxRecDepth 20000 in
set_option maxHeartbeats 1000000 in
theorem rlp_Num (n : Int) (w : World) (h1 : -9223372036854775808 ≤ n) (h2 : n ≤ 9223372036854775807) : Calls Try.prog 36 #[.int .i64 n] w (Ret (fun v w' => ItemIn (fun k => w.heap.size ≤ k ∧ k < w'.heap.size) w' v (.mk false (be n.toNat) [])) w) := by
  have hbig : ∀ w : World, Calls Try.prog 51 #[.int .i64 n] w (Ret (fun v w' => OwnB w' w.heap.size v (be n.toNat)) w) := fun w => by
    by_cases h : 0 ≤ n
    · obtain ⟨m, rfl⟩ := Int.eq_ofNat_of_zero_le h
      exact rlp_big m w (by omega)
    · have := rlp_big_neg n w h1 (by omega)
      rw [show n.toNat = 0 by omega, be_zero]
      exact this
  go_enter Try.func36, Try.ntmps36
  go_wp2_with first
    | (go_at_call 51; refine (hbig _).mono ?_; rintro e w2 ⟨v2, rfl, hg2, ho2⟩; have HB2 := Lib.hid (ownB_P ho2); obtain ⟨A2, c2, rfl, _⟩ := own_form ho2; have HG2 := Lib.hid ((gr_alloc w _).trans hg2); have HR2 := Lib.hid ((hg2.block _ (by simp)).trans (heap_alloc_new w (.cells #[.bool false, .slice none 0 0, .slice none 0 0] 56))); clear hg2 ho2)
    | (guard_target = wpList _ _ _ (Oper.mk _ (Op.store _ _ _) _ _ _ _ :: _) _ _; refine wpList_store_row rfl 56 (.tmp 2) (.tmp 5) rfl w.heap.size _ rfl rfl 56 _ HR2.out (by kernel_rfl) rfl (by simp [Value.oneCell']) ?_)
  refine bodyPost_ret (results_item1 rfl _ _ w.heap.size _ rfl (heap_setRow_same _ _ _ _ _ HR2.out) rfl) rfl ⟨_, rfl, gr_setRow HG2.out _ _ (by omega), ?_⟩
  exact itemIn_bytes (HB2.out.mono (fun b hb => ⟨by have := hb.1; simp at this; omega, by rw [size_setRow]; have := hb.2; omega⟩) (fun p hp => cell_setRow (by have := hp.1; simp at this; omega)))
set_option maxRecDepth 20000 in
set_option maxHeartbeats 1000000 in
theorem ref_Num (n : Int) (w : World) (h1 : -9223372036854775808 ≤ n) (h2 : n ≤ 9223372036854775807) : Calls Try.prog 26 #[.int .i64 n] w (Ret (fun v w' => ItemIn (fun k => w.heap.size ≤ k ∧ k < w'.heap.size) w' v (.mk false (be n.toNat) [])) w) := by
  have hl : (ofN n.toNat).length = 32 := pad_length _ (Nat.le_trans (be_length 8 _ (by omega)) (by omega))
  have HS : Hid (strip (ofN n.toNat) = be n.toNat) := Lib.hid (strip_be _ _ (by unfold ofN pad; rw [val_zeros, val_be]))
  have HOF : Hid (∀ w : World, Calls Try.prog 16 #[.int .i64 (n.toNat : Int)] w (Ret (eqV (arrV (ofN n.toNat))) w)) := Lib.hid fun w => ref_Of _ (by omega) w
  generalize ofN n.toNat = l at hl HS HOF
  have HBG := Lib.hid (fun w => ref_Big l hl w)
  generalize be n.toNat = bn at HS ⊢
  clear hl
  by_cases h : 0 ≤ n
  · obtain ⟨m, rfl⟩ := Int.eq_ofNat_of_zero_le h
    simp only [Int.toNat_natCast] at HOF
    clear h h1
    go_enter Try.func26, Try.ntmps26
    go_wp2_with first
      | (go_at_call 16; refine (HOF.out _).mono ?_; rintro e w2 ⟨v2, rfl, hg2, rfl⟩; have HG2 := Lib.hid ((gr_alloc w _).trans hg2); have hs2 := hg2.size; have HR2 := Lib.hid ((hg2.block _ (by simp)).trans (heap_alloc_new w (.cells #[.bool false, .slice none 0 0, .slice none 0 0] 56))); clear hg2)
      | (go_at_call 24; refine (HBG.out _).mono ?_; rintro e w3 ⟨v3, rfl, hg3, hv3⟩; have HI3 := Lib.hid hv3; obtain ⟨cs3, rfl, hat3⟩ := hv3; obtain ⟨b3, A4, n4, c4, A5, n5, c5, rfl⟩ := hat3.len; have HG3 := Lib.hid (HG2.out.trans hg3); have HR3 := Lib.hid ((hg3.block _ (lt_of_some HR2.out)).trans HR2.out); clear hg3 hat3)
      | (guard_target = wpList _ _ _ (Oper.mk _ (Op.store _ _ _) _ _ _ _ :: _) _ _; refine wpList_store_row rfl 56 (.tmp 2) (.tmp 7) rfl w.heap.size _ rfl rfl 56 _ HR3.out (by kernel_rfl) rfl (by simp [Value.oneCell']) ?_)
    refine bodyPost_ret (results_item1 rfl _ _ w.heap.size _ rfl (heap_setRow_same _ _ _ _ _ HR3.out) rfl) rfl ⟨_, rfl, gr_setRow HG3.out _ _ (by omega), ?_⟩
    rw [← HS.out]
    exact HI3.out.mono (fun b hb => ⟨by have := hb.1; simp at hs2; omega, by rw [size_setRow]; have := hb.2; omega⟩) (fun p hp => cell_setRow (by have := hp.1; simp at hs2; omega))
  · have h3 : n < 0 := by omega
    have h0 : n.toNat = 0 := by omega
    rw [h0] at HOF
    clear h h0
    go_enter Try.func26, Try.ntmps26
    go_wp2_with first
      | (go_at_call 16; refine (HOF.out _).mono ?_; rintro e w2 ⟨v2, rfl, hg2, rfl⟩; have HG2 := Lib.hid ((gr_alloc w _).trans hg2); have hs2 := hg2.size; have HR2 := Lib.hid ((hg2.block _ (by simp)).trans (heap_alloc_new w (.cells #[.bool false, .slice none 0 0, .slice none 0 0] 56))); clear hg2)
      | (go_at_call 24; refine (HBG.out _).mono ?_; rintro e w3 ⟨v3, rfl, hg3, hv3⟩; have HI3 := Lib.hid hv3; obtain ⟨cs3, rfl, hat3⟩ := hv3; obtain ⟨b3, A4, n4, c4, A5, n5, c5, rfl⟩ := hat3.len; have HG3 := Lib.hid (HG2.out.trans hg3); have HR3 := Lib.hid ((hg3.block _ (lt_of_some HR2.out)).trans HR2.out); clear hg3 hat3)
      | (guard_target = wpList _ _ _ (Oper.mk _ (Op.store _ _ _) _ _ _ _ :: _) _ _; refine wpList_store_row rfl 56 (.tmp 2) (.tmp 7) rfl w.heap.size _ rfl rfl 56 _ HR3.out (by kernel_rfl) rfl (by simp [Value.oneCell']) ?_)
    refine bodyPost_ret (results_item1 rfl _ _ w.heap.size _ rfl (heap_setRow_same _ _ _ _ _ HR3.out) rfl) rfl ⟨_, rfl, gr_setRow HG3.out _ _ (by omega), ?_⟩
    rw [← HS.out]
    exact HI3.out.mono (fun b hb => ⟨by have := hb.1; simp at hs2; omega, by rw [size_setRow]; have := hb.2; omega⟩) (fun p hp => cell_setRow (by have := hp.1; simp at hs2; omega))
end Go.Proofs.Ytekacgocjplfjaa
