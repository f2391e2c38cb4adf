/-
  Merged (wip/tools/merge.py): Num4, Num5, Num6, Cmp, EItem.
  Conditions: none.
-/
import Derived.Test.YtmlajcbabimkjaaZB11
import Derived.Lib.Bytealg
import Derived.Lib.BytesEntry
import Derived.Test.YtmlajcbabimkjaaZB7
/-
  Words as items: rlp.Big and the reference's Big.
  Conditions: none.
-/
namespace Go.Proofs.Ytmlajcbabimkjaa
set_option linter.unusedVariables false
open Go.RowKit Mono Rlp
theorem arr_cell {w : World} {g : Nat} {t : TypeId} {l : List UInt8} (h : Arr w g t l) (k : Nat) (hk : k < l.length) : w.cell? ⟨g, k, none⟩ = some (.int .u8 (l[k].toNat : Int)) := by
  rw [cell_of_row w g k _ t (0, 0) h]
  simp [bvs, bv, hk]
theorem isB_arr {w : World} {g : Nat} {t : TypeId} {l : List UInt8} (h : Arr w g t l) (k : Nat) (hk : k ≤ l.length) (hm : l.length ≤ maxLen) (c : Nat) (hc : l.length - k ≤ c) (hcm : c ≤ maxLen) : IsB w (.slice (some ⟨g, k, none⟩) (l.length - k) c) (l.drop k) := by
  refine ⟨_, _, by rw [List.length_drop], by rw [List.length_drop]; exact hc, hcm, fun hn => ⟨g, k, rfl, h.lt, fun j u hu => ?_⟩⟩
  rw [cell_of_row w g _ _ t (0, 0) h]
  rw [bvs_drop, List.getElem?_drop] at hu
  simpa using hu
set_option maxRecDepth 100000 in
theorem run_box_word (w : World) (l : List UInt8) : (Instr.box 32 (arrV l)).run Try.prog w = .ok (.pointer (some ⟨w.heap.size, 0, none⟩)) (w.alloc (.cells (bvs l).toArray 32)) := by kernel_rfl
theorem wpL_box_word {w : World} {ops : Array Oper} {rest : List Oper} {o : Oper} {a : Act} {Q : Exit → Act → World → Prop} (g : Nat) (hg : w.heap.size = g) (x : Operand) (l : List UInt8) (hgd : o.guard = none) (ho : o.op = .box 32 x) (hx : a.eval x = arrV l)
    (h : ∀ w', Hid (Arr w' g 32 l) → Hid (Gr w w') → w'.heap.size = g + 1 → wpList Try.prog ops Q rest (a.put o.dst (.pointer (some ⟨g, 0, none⟩))) w') : wpList Try.prog ops Q (o :: rest) a w := by
  subst hg
  refine wpList_plain hgd fun _ hK => ?_
  have h1 := hK _ _ (h _ (Lib.hid (heap_alloc_new w _)) (Lib.hid (gr_alloc w _)) (by simp))
  unfold Oper.wp execOp
  simp only [ho, hx, Sem.run_bind, run_box_word, Result.andThen_ok, Sem.run_pure]
  exact h1
theorem results_item1 {fn : Func} {p : Tmp} (h : fn.results = #[.cell p 41]) (tmps : Array Value) (w : World) (g : Nat) (cs : Array Value)
    (hp : tmps.getD p undef = .pointer (some ⟨g, 0, none⟩)) (hg : w.heap[g]? = some (.cells cs 41 (0, 0))) (hs : cs.size = 3) :
    (results fn tmps).run Try.prog w = .ok (.agg cs) w :=
  results_cell_row h tmps w g 41 cs (0, 0) _ hp hg Try.underlying41 rfl (item_info cs hs)
theorem at_zero (l : List UInt8) (k : Nat) (hk : k < l.length) : ((l[k].toNat : Int) == 0) = decide (l[k] = 0) := by
  rw [Bool.eq_iff_iff, beq_iff_eq, decide_eq_true_eq]
  constructor
  · intro e
    exact UInt8.toNat_inj.1 (by rw [show (0 : UInt8).toNat = 0 from rfl]; omega)
  · intro e
    rw [e]
    rfl
set_option maxRecDepth 20000 in
set_option maxHeartbeats 1000000 in
theorem ref_bytes (v : Value) (l : List UInt8) (B : Nat) (w : World) (h : IsBP (fun k => B ≤ k ∧ k < w.heap.size) w v l) : Calls Try.prog 14 #[v] w (Ret (fun v' w' => ItemIn (fun k => B ≤ k ∧ k < w.heap.size) w' v' (.mk false l [])) w) := by
  have HB := Lib.hid h
  obtain ⟨A, c, rfl, hc1, hc2, hr⟩ := h
  clear hr
  go_enter Try.func14, Try.ntmps14
  go_wp2_with fail
  refine bodyPost_ret (results_item1 rfl _ _ w.heap.size #[.bool false, .slice A l.length c, .slice none 0 0] rfl (heap_alloc_new w _) rfl) rfl ⟨_, rfl, gr_alloc w _, itemIn_bytes (HB.out.mono (fun b hb => hb) fun p hp => (gr_alloc w _).cell hp.2)⟩
set_option maxRecDepth 20000 in
set_option maxHeartbeats 1000000 in
theorem ref_Big (l : List UInt8) (hl : l.length = 32) (w : World) : Calls Try.prog 48 #[arrV l] w (Ret (fun v w' => ItemIn (fun k => w.heap.size ≤ k ∧ k < w'.heap.size) w' v (.mk false (strip l) [])) w) := by
  go_enter Try.func48, Try.ntmps48
  go_wp2_with (guard_target = wpList _ _ _ (Oper.mk _ (Op.box _ _) _ _ _ _ :: _) _ _; refine wpL_box_word w.heap.size rfl (.tmp 0) l rfl rfl rfl ?_; intro w0 hA0 hG0 hs0)
  have HG1 := Lib.hid (hG0.out.trans (gr_alloc w0 (.cells #[.bool false, .slice none 0 0, .slice none 0 0] 41)))
  have HA1 := Lib.hid (arr_old hA0.out (.cells #[.bool false, .slice none 0 0, .slice none 0 0] 41))
  have HI1 : Hid ((w0.alloc (.cells #[.bool false, .slice none 0 0, .slice none 0 0] 41)).heap[w.heap.size + 1]? = _) := Lib.hid (heap_at w0 _ _ hs0.symm)
  have hs1 : (w0.alloc (.cells #[.bool false, .slice none 0 0, .slice none 0 0] 41)).heap.size = w.heap.size + 2 := by simp [hs0]
  generalize w0.alloc (.cells #[.bool false, .slice none 0 0, .slice none 0 0] 41) = w1 at HG1 HA1 HI1 hs1 ⊢
  go_loopw [3] (fun i wr => ∃ k : Nat, k ≤ 32 ∧ i = .int .i64 k ∧ wr = w1 ∧ Hid (strip (l.drop k) = strip l)) (fun i _ => 32 - (intOf i).toNat)
  case atStart => exact ⟨0, by omega, rfl, rfl, Lib.hid rfl⟩
  case round =>
    obtain ⟨k, hk, rfl, rfl, HST⟩ := hrel
    by_cases h1 : k < 32
    · have hc := arr_cell HA1.out k (by omega)
      by_cases hz : l[k] = 0
      · have hstep : strip (l.drop (k + 1)) = strip l := by
          rw [← HST.out, List.drop_eq_getElem_cons (by omega : k < l.length), strip, if_pos hz]
        have HSTEP := Lib.hid hstep
        rw [hz] at hc
        have hc2 : wr.cell? ⟨w.heap.size, k, none⟩ = some (.int .u8 0) := hc
        clear hc hstep hz
        go_wp2_with fail
        go_roundw
        case rel => exact ⟨k + 1, by omega, by go_num, trivial, HSTEP⟩
        case measure => simp [intOf]; omega
      · have hn := at_zero l k (by omega)
        rw [decide_eq_false hz] at hn
        have HD : Hid (l.drop k = strip l) := Lib.hid (by rw [← HST.out, strip_at l k (by omega) hz])
        have hsl := fun w' : World => slice_word w' w.heap.size k k rfl (by omega)
        have HRD : Hid (Rd wr wr.heap.size (some ⟨w.heap.size, k, none⟩) (bvs (l.drop k))) := by
          obtain ⟨_, _, e, _, _, h⟩ := isB_arr HA1.out k (by omega) (by simp [hl, maxLen]) (l.length - k) (Nat.le_refl _) (by simp [hl, maxLen]; omega)
          injection e with e1 _ _
          subst e1
          exact Lib.hid h
        have hne : ¬ 32 = k := by omega
        simp only [if_neg hne] at hsl
        have hlen : (bvs (l.drop k)).length = (32 - k) * 1 := by simp [bvs, hl]
        clear hz
        go_wp2_with first
          | (at_builtin; refine wpL_append (.const (.slice none 0 0)) (.tmp 15) 23 slT_bytes (base := wr.heap.size) _ 0 [] (some ⟨w.heap.size, k, none⟩) (32 - k) (32 - k) wr.heap.size (bvs (l.drop k)) rfl rfl rfl rfl (World.ownsRow_nil _ _ _ _) HRD.out hlen (bvs_one _) (by simp only [maxLen]; omega) (by omega) (Nat.le_refl _) ?_; intro A2 c2 w2 hown2 hg2 _; simp only [Nat.zero_add, List.nil_append] at hown2; have HO2 : Hid (OwnB w2 wr.heap.size (.slice A2 (32 - k) c2) (strip l)) := Lib.hid (ownB_of hown2 (by rw [← HD.out])); have HG2 : Hid (Gr wr w2) := Lib.hid ((Below.refl _ _).grown hg2 (Nat.le_refl _) (fun j hj => by cases hj)); clear hown2 hg2)
          | (go_at_call 14; refine (ref_bytes _ (strip l) wr.heap.size _ (ownB_P HO2.out)).mono ?_; rintro e w3 ⟨v3, rfl, hg3, hv3⟩; have HI3 := Lib.hid hv3; obtain ⟨cs3, rfl, hat3⟩ := hv3; obtain ⟨b3, A4, n4, c4, A5, n5, c5, rfl⟩ := hat3.len; have hs3 := hg3.size; have HG3 := Lib.hid (HG2.out.trans hg3); have HR3 := Lib.hid ((HG3.out.block _ (lt_of_some HI1.out)).trans HI1.out); clear hg3 hat3)
          | (guard_target = wpList _ _ _ (Oper.mk _ (Op.store _ _ _) _ _ _ _ :: _) _ _; refine wpList_store_row rfl 41 (.tmp 2) (.tmp 17) rfl (w.heap.size + 1) _ rfl rfl 41 _ HR3.out (by kernel_rfl) rfl (by simp [Value.oneCell']) ?_)
        refine bodyPost_ret (results_item1 rfl _ _ (w.heap.size + 1) _ rfl (heap_setRow_same _ _ _ _ _ HR3.out) rfl) rfl ⟨_, rfl, gr_setRow (HG1.out.trans HG3.out) _ _ (by omega), ?_⟩
        exact HI3.out.mono (fun b hb => ⟨by have := hb.1; omega, by rw [size_setRow]; have := hb.2; omega⟩) (fun p hp => cell_setRow (by have := hp.1; omega))
    · skip
      have hk2 : k = 32 := by omega
      subst hk2
      have HD : Hid (l.drop 32 = strip l) := Lib.hid (by rw [← HST.out, List.drop_eq_nil_of_le (by omega)]; rfl)
      have hz := h1
      have hsl := fun w' : World => slice_word w' w.heap.size 32 32 rfl (by omega)
      have HRD : Hid (Rd wr wr.heap.size (some ⟨w.heap.size, 0, none⟩) (bvs (l.drop 32))) := by
        rw [List.drop_eq_nil_of_le (by omega)]
        exact Lib.hid Rd.nil
      simp at hsl
      have hlen : (bvs (l.drop 32)).length = (32 - 32) * 1 := by simp [bvs, hl]
      clear hz
      go_wp2_with first
        | (at_builtin; refine wpL_append (.const (.slice none 0 0)) (.tmp 15) 23 slT_bytes (base := wr.heap.size) _ 0 [] (some ⟨w.heap.size, 0, none⟩) (32 - 32) (32 - 32) wr.heap.size (bvs (l.drop 32)) rfl rfl rfl rfl (World.ownsRow_nil _ _ _ _) HRD.out hlen (bvs_one _) (by simp only [maxLen]; omega) (by omega) (Nat.le_refl _) ?_; intro A2 c2 w2 hown2 hg2 _; simp only [Nat.zero_add, List.nil_append] at hown2; have HO2 : Hid (OwnB w2 wr.heap.size (.slice A2 (32 - 32) c2) (strip l)) := Lib.hid (ownB_of hown2 (by rw [← HD.out])); have HG2 : Hid (Gr wr w2) := Lib.hid ((Below.refl _ _).grown hg2 (Nat.le_refl _) (fun j hj => by cases hj)); clear hown2 hg2)
        | (go_at_call 14; refine (ref_bytes _ (strip l) wr.heap.size _ (ownB_P HO2.out)).mono ?_; rintro e w3 ⟨v3, rfl, hg3, hv3⟩; have HI3 := Lib.hid hv3; obtain ⟨cs3, rfl, hat3⟩ := hv3; obtain ⟨b3, A4, n4, c4, A5, n5, c5, rfl⟩ := hat3.len; have hs3 := hg3.size; have HG3 := Lib.hid (HG2.out.trans hg3); have HR3 := Lib.hid ((HG3.out.block _ (lt_of_some HI1.out)).trans HI1.out); clear hg3 hat3)
        | (guard_target = wpList _ _ _ (Oper.mk _ (Op.store _ _ _) _ _ _ _ :: _) _ _; refine wpList_store_row rfl 41 (.tmp 2) (.tmp 17) rfl (w.heap.size + 1) _ rfl rfl 41 _ HR3.out (by kernel_rfl) rfl (by simp [Value.oneCell']) ?_)
      refine bodyPost_ret (results_item1 rfl _ _ (w.heap.size + 1) _ rfl (heap_setRow_same _ _ _ _ _ HR3.out) rfl) rfl ⟨_, rfl, gr_setRow (HG1.out.trans HG3.out) _ _ (by omega), ?_⟩
      exact HI3.out.mono (fun b hb => ⟨by have := hb.1; omega, by rw [size_setRow]; have := hb.2; omega⟩) (fun p hp => cell_setRow (by have := hp.1; omega))
set_option maxRecDepth 20000 in
set_option maxHeartbeats 1000000 in
theorem rlp_Big (l : List UInt8) (hl : l.length = 32) (w : World) : Calls Try.prog 45 #[arrV l] w (Ret (fun v w' => ItemIn (fun k => w.heap.size ≤ k ∧ k < w'.heap.size) w' v (.mk false (strip l) [])) w) := by
  have hsl0 : ∀ w', (Instr.sliceAt 32 (.pointer (some ⟨w.heap.size, 0, none⟩)) none none none).run Try.prog w' = .ok (.slice (some ⟨w.heap.size, 0, none⟩) 32 32) w' := fun w' => by kernel_rfl
  go_enter Try.func45, Try.ntmps45
  go_wp2_with (guard_target = wpList _ _ _ (Oper.mk _ (Op.box _ _) _ _ _ _ :: _) _ _; refine wpL_box_word w.heap.size rfl (.tmp 0) l rfl rfl rfl ?_; intro w0 hA0 hG0 hs0)
  have HG1 := Lib.hid (hG0.out.trans (gr_alloc w0 (.cells #[.bool false, .slice none 0 0, .slice none 0 0] 41)))
  have HA1 := Lib.hid (arr_old hA0.out (.cells #[.bool false, .slice none 0 0, .slice none 0 0] 41))
  have HI1 : Hid ((w0.alloc (.cells #[.bool false, .slice none 0 0, .slice none 0 0] 41)).heap[w.heap.size + 1]? = _) := Lib.hid (heap_at w0 _ _ hs0.symm)
  have hs1 : (w0.alloc (.cells #[.bool false, .slice none 0 0, .slice none 0 0] 41)).heap.size = w.heap.size + 2 := by simp [hs0]
  generalize w0.alloc (.cells #[.bool false, .slice none 0 0, .slice none 0 0] 41) = w1 at HG1 HA1 HI1 hs1 ⊢
  clear hsl0
  go_loopw [3] (fun bv wr => ∃ (k : Nat) (A : Option Addr), k ≤ 32 ∧ bv = .slice A (32 - k) (32 - k) ∧ (k < 32 → A = some ⟨w.heap.size, k, none⟩) ∧ wr = w1 ∧ Hid (strip (l.drop k) = strip l)) (fun bv _ => match bv with | .slice _ n _ => n | _ => 0)
  case atStart => exact ⟨0, some ⟨w.heap.size, 0, none⟩, by omega, rfl, fun _ => rfl, rfl, Lib.hid rfl⟩
  case round =>
    obtain ⟨k, A, hk, rfl, hA, rfl, HST⟩ := hrel
    by_cases h1 : k < 32
    · obtain rfl := hA h1
      have hc := arr_cell HA1.out k (by omega)
      have e1 : (((32 - k : Nat) : Int)) = 32 - (k : Int) := by omega
      by_cases hz : l[k] = 0
      · have HSTEP : Hid (strip (l.drop (k + 1)) = strip l) := Lib.hid (by rw [← HST.out, List.drop_eq_getElem_cons (by omega : k < l.length), strip, if_pos hz])
        rw [hz] at hc
        have hc2 : wr.cell? ⟨w.heap.size, k, none⟩ = some (.int .u8 0) := hc
        clear hc hz
        go_wp2_with fail
        go_roundw
        case rel => exact ⟨k + 1, _, by omega, by rw [show 32 - (k + 1) = 32 - k - 1 by omega], fun h => if_neg (by omega), trivial, HSTEP⟩
        case measure => show 32 - k - 1 < 32 - k; omega
      · have hn := at_zero l k (by omega)
        rw [decide_eq_false hz] at hn
        have HD : Hid (l.drop k = strip l) := Lib.hid (by rw [← HST.out, strip_at l k (by omega) hz])
        have HB : Hid (IsB wr (.slice (some ⟨w.heap.size, k, none⟩) (32 - k) (32 - k)) (strip l)) := by
          have := isB_arr HA1.out k (by omega) (by simp [hl, maxLen]) (l.length - k) (Nat.le_refl _) (by simp [hl, maxLen]; omega)
          rw [HD.out, hl] at this
          exact Lib.hid this
        clear hz
        go_wp2_with first
          | (go_at_call 71; refine (clone_bytes _ (strip l) _ HB.out (by have := strip_length l; omega)).mono ?_; rintro e w2 ⟨v2, rfl, hg2, ho2⟩; have HB2 := Lib.hid (ownB_P ho2); obtain ⟨A2, c2, rfl, _⟩ := own_form ho2; have HG2 := Lib.hid hg2; have HR2 := Lib.hid ((hg2.block _ (lt_of_some HI1.out)).trans HI1.out); clear hg2 ho2)
          | (guard_target = wpList _ _ _ (Oper.mk _ (Op.store _ _ _) _ _ _ _ :: _) _ _; refine wpList_store_row rfl 41 (.tmp 2) (.tmp 18) rfl (w.heap.size + 1) _ rfl rfl 41 _ HR2.out (by kernel_rfl) rfl (by simp [Value.oneCell']) ?_)
        refine bodyPost_ret (results_item1 rfl _ _ (w.heap.size + 1) _ rfl (heap_setRow_same _ _ _ _ _ HR2.out) rfl) rfl ⟨_, rfl, gr_setRow (HG1.out.trans HG2.out) _ _ (by omega), ?_⟩
        exact itemIn_bytes (HB2.out.mono (fun b hb => ⟨by have := hb.1; omega, by rw [size_setRow]; have := hb.2; omega⟩) (fun p hp => cell_setRow (by have := hp.1; omega)))
    · skip
      have hk2 : k = 32 := by omega
      subst hk2
      have HD : Hid (l.drop 32 = strip l) := Lib.hid (by rw [← HST.out, List.drop_eq_nil_of_le (by omega)]; rfl)
      have hz := h1
      have HB : Hid (IsB wr (.slice A (32 - 32) (32 - 32)) (strip l)) := by
        rw [← HD.out, List.drop_eq_nil_of_le (by omega)]
        exact Lib.hid ⟨_, 0, rfl, by simp, by simp [maxLen], Rd.nil⟩
      clear hz
      go_wp2_with first
        | (go_at_call 71; refine (clone_bytes _ (strip l) _ HB.out (by have := strip_length l; omega)).mono ?_; rintro e w2 ⟨v2, rfl, hg2, ho2⟩; have HB2 := Lib.hid (ownB_P ho2); obtain ⟨A2, c2, rfl, _⟩ := own_form ho2; have HG2 := Lib.hid hg2; have HR2 := Lib.hid ((hg2.block _ (lt_of_some HI1.out)).trans HI1.out); clear hg2 ho2)
        | (guard_target = wpList _ _ _ (Oper.mk _ (Op.store _ _ _) _ _ _ _ :: _) _ _; refine wpList_store_row rfl 41 (.tmp 2) (.tmp 18) rfl (w.heap.size + 1) _ rfl rfl 41 _ HR2.out (by kernel_rfl) rfl (by simp [Value.oneCell']) ?_)
      refine bodyPost_ret (results_item1 rfl _ _ (w.heap.size + 1) _ rfl (heap_setRow_same _ _ _ _ _ HR2.out) rfl) rfl ⟨_, rfl, gr_setRow (HG1.out.trans HG2.out) _ _ (by omega), ?_⟩
      exact itemIn_bytes (HB2.out.mono (fun b hb => ⟨by have := hb.1; omega, by rw [size_setRow]; have := hb.2; omega⟩) (fun p hp => cell_setRow (by have := hp.1; omega)))
end Go.Proofs.Ytmlajcbabimkjaa
/-
  Numbers as words: the reference's Of, Int, IntOf; Num.
  Conditions: none.
-/
namespace Go.Proofs.Ytmlajcbabimkjaa
set_option linter.unusedVariables false
open Go.RowKit Mono Rlp
theorem arr_setCell {w : World} {g : Nat} {t : TypeId} {l : List UInt8} (h : Arr w g t l) (k : Nat) (b : UInt8) : Arr (w.setCell ⟨g, k, none⟩ (bv b)) g t (l.set k b) := by
  unfold Arr at h ⊢
  rw [setCell_eq_setRow w g k _ t (0, 0) _ h]
  rw [heap_setRow_same w g _ _ t h]
  simp [bvs, List.map_set]
theorem arr_frozen {w : World} {g : Nat} {t : TypeId} {l : List UInt8} (h : Arr w g t l) (k : Nat) : w.frozen? ⟨g, k, none⟩ = false := by
  unfold Arr at h
  simp [World.frozen?, h]
theorem heap_setCell_other (w : World) (p : Addr) (v : Value) (j : Nat) (h : j ≠ p.block) : (w.setCell p v).heap[j]? = w.heap[j]? := by
  exact Below.heap_setCell _ _ _ _ h
theorem pad_strip (l : List UInt8) (h : l.length = 32) : pad (strip l) = l := by
  have key : ∀ m : List UInt8, ∃ k, m = List.replicate k 0 ++ strip m := by
    intro m
    induction m with
    | nil => exact ⟨0, rfl⟩
    | cons b m ih =>
      obtain ⟨k, hk⟩ := ih
      rw [strip]
      split
      · rename_i hb
        subst hb
        exact ⟨k + 1, by rw [List.replicate_succ, List.cons_append, ← hk]⟩
      · exact ⟨0, rfl⟩
  obtain ⟨k, hk⟩ := key l
  have h2 := congrArg List.length hk
  rw [List.length_append, List.length_replicate, h] at h2
  unfold pad
  rw [show 32 - (strip l).length = k by omega, ← hk]
def ofN (n : Nat) : List UInt8 := pad (be n)
theorem ofN_eq (l : List UInt8) (n : Nat) (h : l.length = 32) (hv : val l = n) : l = ofN n := by
  unfold ofN
  rw [← strip_be l n hv, pad_strip l h]
theorem results_word1 {fn : Func} {p : Tmp} (h : fn.results = #[.cell p 32]) (tmps : Array Value) (w : World) (g : Nat) (t : TypeId) (l : List UInt8)
    (hp : tmps.getD p undef = .pointer (some ⟨g, 0, none⟩)) (hg : Arr w g t l) (hs : l.length = 32) :
    (results fn tmps).run Try.prog w = .ok (arrV l) w :=
  results_cell_row h tmps w g t (bvs l).toArray (0, 0) _ hp hg Try.underlying32 rfl (arr_info l hs)
set_option maxRecDepth 20000 in
set_option maxHeartbeats 1000000 in
theorem ref_Of (n : Nat) (hn : n ≤ 9223372036854775807) (w : World) : Calls Try.prog 22 #[.int .i64 n] w (Ret (eqV (arrV (ofN n))) w) := by
  go_enter Try.func22, Try.ntmps22
  go_wp2_with first
    | (guard_target = wpList _ _ _ (Oper.mk _ (Op.alloc _) _ _ _ _ :: _) _ _; refine wpL_alloc_word (w.heap.size + 1) hs0 rfl rfl ?_; intro w1 hA1 hG1 hs1)
    | (guard_target = wpList _ _ _ (Oper.mk _ (Op.alloc _) _ _ _ _ :: _) _ _; refine wpL_alloc_word w.heap.size rfl rfl rfl ?_; intro w0 hA0 hG0 hs0)
  have HG1 := Lib.hid (hG0.out.trans hG1.out)
  have HA0 := Lib.hid (hA0.out.gr hG1.out)
  clear hA0 hG1 hG0
  go_loopw [0, 4] (fun nv i wr => ∃ (m j : Nat) (t : List UInt8), j ≤ 8 ∧ nv = .int .i64 m ∧ i = .int .i64 (31 - (j : Int)) ∧ t.length = j ∧ m ≤ n ∧ Hid (m * 256 ^ j + val t = n) ∧ Hid (Arr wr w.heap.size 32 zero32) ∧ Hid (Arr wr (w.heap.size + 1) 32 (List.replicate (32 - j) 0 ++ t)) ∧ Hid (Gr w wr)) (fun _ i _ => (intOf i).toNat)
  case atStart => exact ⟨n, 0, [], by omega, rfl, rfl, rfl, Nat.le_refl _, Lib.hid (by simp [val]), HA0, hA1, HG1⟩
  case round =>
    clear HA0 hA1 HG1
    obtain ⟨m, j, t, hj, rfl, rfl, htl, hmn, HV, HA0, HA1, HG⟩ := hrel
    by_cases h1 : j < 8
    · have hc := arr_cell HA1.out (31 - j) (by simp; omega)
      have hf := arr_frozen HA1.out (31 - j)
      have hz : (List.replicate (32 - j) (0 : UInt8) ++ t)[31 - j]'(by simp; omega) = 0 := by
        rw [List.getElem_append_left (by simp; omega), List.getElem_replicate]
      rw [hz] at hc
      have hc2 : wr.cell? ⟨w.heap.size + 1, 31 - j, none⟩ = some (.int .u8 0) := hc
      have hst := arr_setCell HA1.out (31 - j) (UInt8.ofNat m)
      rw [show 32 - j = 31 - j + 1 by omega] at hst
      have hset : (List.replicate (31 - j + 1) (0 : UInt8) ++ t).set (31 - j) (UInt8.ofNat m) = List.replicate (31 - j) 0 ++ UInt8.ofNat m :: t := set_zeros _ _ _
      rw [hset, ← bv_nat] at hst
      have HST := Lib.hid hst
      have HV2 := Lib.hid (w_step n m j t htl HV.out)
      clear hc hz hst hset
      have hlow := i64_and255 m
      go_wp2_with fail
      go_roundw
      case rel =>
        refine ⟨m / 256, j + 1, UInt8.ofNat m :: t, by omega, by go_num, by go_num, by simp [htl], by omega, HV2, ?_, ?_, ?_⟩
        · exact Lib.hid ((heap_setCell_other _ _ _ _ (by simp)).trans HA0.out)
        · rw [show 32 - (j + 1) = 31 - j by omega]
          exact HST
        · exact Lib.hid (HG.out.setCell (by simp) _)
      case measure => simp [intOf]; omega
    · obtain rfl : j = 8 := by omega
      have hm0 : m = 0 := by
        have := HV.out
        rcases Nat.eq_zero_or_pos m with h | h
        · exact h
        · have h2 : 1 * 256 ^ 8 ≤ m * 256 ^ 8 := Nat.mul_le_mul_right _ h
          omega
      subst hm0
      have HVAL : Hid (List.replicate 24 0 ++ t = ofN n) := Lib.hid (ofN_eq _ n (by simp [htl]) (by rw [val_zeros, ← HV.out]; simp))
      have HA1b : Hid (Arr wr (w.heap.size + 1) 32 (List.replicate 24 0 ++ t)) := HA1
      clear HA1 h1 HV
      go_wp2_with fail
      obtain ⟨wq, hwq⟩ : ∃ wq : World, wq = wr := ⟨_, rfl⟩
      rw [← hwq] at HA0 HA1b HG ⊢
      go_loopw [5] (fun i wr => ∃ k : Nat, k ≤ 24 ∧ i = .int .i64 k ∧ Hid (Arr wr w.heap.size 32 zero32) ∧ Hid (Arr wr (w.heap.size + 1) 32 (List.replicate 24 0 ++ t)) ∧ Hid (Gr w wr)) (fun i _ => 24 - (intOf i).toNat)
      case atStart => exact ⟨0, by omega, rfl, HA0, HA1b, HG⟩
      case round =>
        clear HA0 HA1b HG
        obtain ⟨k, hk, rfl, HA0, HA1, HG⟩ := hrel
        by_cases h2 : k < 24
        · have hc := arr_cell HA1.out k (by simp; omega)
          have hf := arr_frozen HA1.out k
          have hst := arr_setCell HA1.out k 0
          have hset : (List.replicate 24 (0 : UInt8) ++ t).set k 0 = List.replicate 24 0 ++ t := by
            rw [List.set_append_left _ _ (by simp; omega)]
            congr 1
            apply List.ext_getElem (by simp)
            intro q h3 h4
            rw [List.getElem_set]
            split
            · rw [List.getElem_replicate]
            · rfl
          rw [hset] at hst
          have HST := Lib.hid hst
          have hlow := i64_and255 0
          clear hst hset
          go_wp2_with fail
          go_roundw
          case rel =>
            exact ⟨k + 1, by omega, by go_num, Lib.hid ((heap_setCell_other _ _ _ _ (by simp)).trans HA0.out), HST, Lib.hid (HG.out.setCell (by simp) _)⟩
          case measure => simp [intOf]; omega
        · have h32 : (List.replicate 24 (0 : UInt8) ++ t).length = 32 := by simp [htl]
          go_wp2_with first
            | (guard_target = wpList _ _ _ (Oper.mk _ (Op.load _ _) _ _ _ _ :: _) _ _; refine wpList_load_row rfl 32 (.tmp 3) rfl (w.heap.size + 1) rfl 32 (bvs (List.replicate 24 (0 : UInt8) ++ t)).toArray (0, 0) _ HA1.out rfl rfl (arr_info _ h32) ?_)
            | (guard_target = wpList _ _ _ (Oper.mk _ (Op.store _ _ _) _ _ _ _ :: _) _ _; refine wpList_store_row rfl 32 (.tmp 2) (.tmp 26) rfl w.heap.size (bvs (List.replicate 24 (0 : UInt8) ++ t)).toArray rfl rfl 32 _ HA0.out (arr_info _ h32) (by rw [arr_size _ h32]; rfl) (arr_one _) ?_)
          refine bodyPost_ret (results_word1 rfl _ _ w.heap.size 32 (List.replicate 24 (0 : UInt8) ++ t) rfl (arr_setRow HA0.out) h32) rfl ⟨_, rfl, gr_setRow HG.out _ _ (Nat.le_refl _), ?_⟩
          unfold eqV
          rw [HVAL.out]
set_option maxRecDepth 20000 in
set_option maxHeartbeats 1000000 in
theorem rlp_Num (n : Int) (w : World) (h1 : -9223372036854775808 ≤ n) (h2 : n ≤ 9223372036854775807) : Calls Try.prog 44 #[.int .i64 n] w (Ret (fun v w' => ItemIn (fun k => w.heap.size ≤ k ∧ k < w'.heap.size) w' v (.mk false (be n.toNat) [])) w) := by
  have hbig : ∀ w : World, Calls Try.prog 75 #[.int .i64 n] w (Ret (fun v w' => OwnB w' w.heap.size v (be n.toNat)) w) := fun w => by
    by_cases h : 0 ≤ n
    · obtain ⟨m, rfl⟩ := Int.eq_ofNat_of_zero_le h
      exact rlp_big m w (by omega)
    · have := rlp_big_neg n w h1 (by omega)
      rw [show n.toNat = 0 by omega, be_zero]
      exact this
  go_enter Try.func44, Try.ntmps44
  go_wp2_with first
    | (go_at_call 75; refine (hbig _).mono ?_; rintro e w2 ⟨v2, rfl, hg2, ho2⟩; have HB2 := Lib.hid (ownB_P ho2); obtain ⟨A2, c2, rfl, _⟩ := own_form ho2; have HG2 := Lib.hid ((gr_alloc w _).trans hg2); have HR2 := Lib.hid ((hg2.block _ (by simp)).trans (heap_alloc_new w (.cells #[.bool false, .slice none 0 0, .slice none 0 0] 41))); clear hg2 ho2)
    | (guard_target = wpList _ _ _ (Oper.mk _ (Op.store _ _ _) _ _ _ _ :: _) _ _; refine wpList_store_row rfl 41 (.tmp 2) (.tmp 5) rfl w.heap.size _ rfl rfl 41 _ HR2.out (by kernel_rfl) rfl (by simp [Value.oneCell']) ?_)
  refine bodyPost_ret (results_item1 rfl _ _ w.heap.size _ rfl (heap_setRow_same _ _ _ _ _ HR2.out) rfl) rfl ⟨_, rfl, gr_setRow HG2.out _ _ (by omega), ?_⟩
  exact itemIn_bytes (HB2.out.mono (fun b hb => ⟨by have := hb.1; simp at this; omega, by rw [size_setRow]; have := hb.2; omega⟩) (fun p hp => cell_setRow (by have := hp.1; simp at this; omega)))
set_option maxRecDepth 20000 in
set_option maxHeartbeats 1000000 in
theorem ref_Num (n : Int) (w : World) (h1 : -9223372036854775808 ≤ n) (h2 : n ≤ 9223372036854775807) : Calls Try.prog 47 #[.int .i64 n] w (Ret (fun v w' => ItemIn (fun k => w.heap.size ≤ k ∧ k < w'.heap.size) w' v (.mk false (be n.toNat) [])) w) := by
  have hl : (ofN n.toNat).length = 32 := pad_length _ (Nat.le_trans (be_length 8 _ (by omega)) (by omega))
  have HS : Hid (strip (ofN n.toNat) = be n.toNat) := Lib.hid (strip_be _ _ (by unfold ofN pad; rw [val_zeros, val_be]))
  have HOF : Hid (∀ w : World, Calls Try.prog 22 #[.int .i64 (n.toNat : Int)] w (Ret (eqV (arrV (ofN n.toNat))) w)) := Lib.hid fun w => ref_Of _ (by omega) w
  generalize ofN n.toNat = l at hl HS HOF
  have HBG := Lib.hid (fun w => ref_Big l hl w)
  generalize be n.toNat = bn at HS ⊢
  clear hl
  by_cases h : 0 ≤ n
  · obtain ⟨m, rfl⟩ := Int.eq_ofNat_of_zero_le h
    simp only [Int.toNat_natCast] at HOF
    clear h h1
    go_enter Try.func47, Try.ntmps47
    go_wp2_with first
      | (go_at_call 22; refine (HOF.out _).mono ?_; rintro e w2 ⟨v2, rfl, hg2, rfl⟩; have HG2 := Lib.hid ((gr_alloc w _).trans hg2); have hs2 := hg2.size; have HR2 := Lib.hid ((hg2.block _ (by simp)).trans (heap_alloc_new w (.cells #[.bool false, .slice none 0 0, .slice none 0 0] 41))); clear hg2)
      | (go_at_call 48; refine (HBG.out _).mono ?_; rintro e w3 ⟨v3, rfl, hg3, hv3⟩; have HI3 := Lib.hid hv3; obtain ⟨cs3, rfl, hat3⟩ := hv3; obtain ⟨b3, A4, n4, c4, A5, n5, c5, rfl⟩ := hat3.len; have HG3 := Lib.hid (HG2.out.trans hg3); have HR3 := Lib.hid ((hg3.block _ (lt_of_some HR2.out)).trans HR2.out); clear hg3 hat3)
      | (guard_target = wpList _ _ _ (Oper.mk _ (Op.store _ _ _) _ _ _ _ :: _) _ _; refine wpList_store_row rfl 41 (.tmp 2) (.tmp 7) rfl w.heap.size _ rfl rfl 41 _ HR3.out (by kernel_rfl) rfl (by simp [Value.oneCell']) ?_)
    refine bodyPost_ret (results_item1 rfl _ _ w.heap.size _ rfl (heap_setRow_same _ _ _ _ _ HR3.out) rfl) rfl ⟨_, rfl, gr_setRow HG3.out _ _ (by omega), ?_⟩
    rw [← HS.out]
    exact HI3.out.mono (fun b hb => ⟨by have := hb.1; simp at hs2; omega, by rw [size_setRow]; have := hb.2; omega⟩) (fun p hp => cell_setRow (by have := hp.1; simp at hs2; omega))
  · have h3 : n < 0 := by omega
    have h0 : n.toNat = 0 := by omega
    rw [h0] at HOF
    clear h h0
    go_enter Try.func47, Try.ntmps47
    go_wp2_with first
      | (go_at_call 22; refine (HOF.out _).mono ?_; rintro e w2 ⟨v2, rfl, hg2, rfl⟩; have HG2 := Lib.hid ((gr_alloc w _).trans hg2); have hs2 := hg2.size; have HR2 := Lib.hid ((hg2.block _ (by simp)).trans (heap_alloc_new w (.cells #[.bool false, .slice none 0 0, .slice none 0 0] 41))); clear hg2)
      | (go_at_call 48; refine (HBG.out _).mono ?_; rintro e w3 ⟨v3, rfl, hg3, hv3⟩; have HI3 := Lib.hid hv3; obtain ⟨cs3, rfl, hat3⟩ := hv3; obtain ⟨b3, A4, n4, c4, A5, n5, c5, rfl⟩ := hat3.len; have HG3 := Lib.hid (HG2.out.trans hg3); have HR3 := Lib.hid ((hg3.block _ (lt_of_some HR2.out)).trans HR2.out); clear hg3 hat3)
      | (guard_target = wpList _ _ _ (Oper.mk _ (Op.store _ _ _) _ _ _ _ :: _) _ _; refine wpList_store_row rfl 41 (.tmp 2) (.tmp 7) rfl w.heap.size _ rfl rfl 41 _ HR3.out (by kernel_rfl) rfl (by simp [Value.oneCell']) ?_)
    refine bodyPost_ret (results_item1 rfl _ _ w.heap.size _ rfl (heap_setRow_same _ _ _ _ _ HR3.out) rfl) rfl ⟨_, rfl, gr_setRow HG3.out _ _ (by omega), ?_⟩
    rw [← HS.out]
    exact HI3.out.mono (fun b hb => ⟨by have := hb.1; simp at hs2; omega, by rw [size_setRow]; have := hb.2; omega⟩) (fun p hp => cell_setRow (by have := hp.1; simp at hs2; omega))
end Go.Proofs.Ytmlajcbabimkjaa
/-
  Words as numbers: the reference's Int, IntOf.
  Conditions: none.
-/
namespace Go.Proofs.Ytmlajcbabimkjaa
set_option linter.unusedVariables false
open Go.RowKit Mono Rlp
def wintV (l : List UInt8) : Value := .tuple #[.int .i64 (((wordInt l).getD 0 : Nat) : Int), .bool (wordInt l).isSome]
theorem wintV_none {l : List UInt8} (h : wordInt l = none) : wintV l = .tuple #[.int .i64 0, .bool false] := by unfold wintV; rw [h]; rfl
theorem wintV_some {l : List UInt8} {n : Nat} (h : wordInt l = some n) : wintV l = .tuple #[.int .i64 (n : Int), .bool true] := by unfold wintV; rw [h]; rfl
theorem i64_join2 (n x : Nat) (hn : n < 2 ^ 55) (hx : x < 256) : bits .or .i64 ((n : Int) * 256) (x : Int) = ((n * 256 + x : Nat) : Int) := by
  have := i64_or_nat (n * 256) x (by omega) (by omega)
  rw [nat_join 8 (n * 256) x (by omega) (by omega)] at this
  rw [← this]
  simp
set_option maxRecDepth 20000 in
set_option maxHeartbeats 1000000 in
theorem ref_Int (l : List UInt8) (hl : l.length = 32) (w : World) : Calls Try.prog 82 #[arrV l] w (Ret (eqV (wintV l)) w) := by
  go_enter Try.func82, Try.ntmps82
  go_wp2_with (guard_target = wpList _ _ _ (Oper.mk _ (Op.box _ _) _ _ _ _ :: _) _ _; refine wpL_box_word w.heap.size rfl (.tmp 0) l rfl rfl rfl ?_; intro w0 hA0 hG0 hs0)
  go_loopw [4] (fun i wr => ∃ k : Nat, k ≤ 24 ∧ i = .int .i64 k ∧ wr = w0 ∧ Hid (∀ j (hj : j < l.length), j < k → l[j] = 0)) (fun i _ => 24 - (intOf i).toNat)
  case atStart => exact ⟨0, by omega, rfl, rfl, Lib.hid (fun j hj h => absurd h (by omega))⟩
  case round =>
    obtain ⟨k, hk, rfl, rfl, HZ⟩ := hrel
    by_cases h1 : k < 24
    · have hc := arr_cell hA0.out k (by omega)
      by_cases hz : l[k] = 0
      · have HZ2 : Hid (∀ j (hj : j < l.length), j < k + 1 → l[j] = 0) := Lib.hid fun j hj h => by
          rcases Nat.lt_succ_iff_lt_or_eq.1 h with h2 | h2
          · exact HZ.out j hj h2
          · subst h2; exact hz
        rw [hz] at hc
        have hc2 : wr.cell? ⟨w.heap.size, k, none⟩ = some (.int .u8 0) := hc
        clear hc hz
        go_wp2_with fail
        go_roundw
        case rel => exact ⟨k + 1, by omega, by go_num, trivial, HZ2⟩
        case measure => simp [intOf]; omega
      · have hn := at_zero l k (by omega)
        rw [decide_eq_false hz] at hn
        have HI := Lib.hid (wintV_none (wordInt_high l hl k h1 hz))
        have hn2 : ((l[k].toNat : Int) != 0) = true := by simp [bne, hn]
        have hl2 := bv_lt l[k]
        generalize l[k].toNat = z at hc hn hn2 hl2
        clear hz
        go_wp2_with fail
        refine bodyPost_ret (results_tmp2 rfl _ _ _) rfl ⟨_, rfl, hG0.out, ?_⟩
        unfold eqV
        rw [HI.out]
        rfl
    · obtain rfl : k = 24 := by omega
      have hc := arr_cell hA0.out 24 (by omega)
      by_cases ht : 128 ≤ l[24].toNat
      · have HI := Lib.hid (wintV_none (wordInt_top l hl HZ.out ht))
        generalize l[24].toNat = z at hc ht
        go_wp2_with fail
        refine bodyPost_ret (results_tmp2 rfl _ _ _) rfl ⟨_, rfl, hG0.out, ?_⟩
        unfold eqV
        rw [HI.out]
        rfl
      · have HW := wordInt_low l hl HZ.out (by omega)
        have HI := Lib.hid (wintV_some HW.1)
        have HLE := Lib.hid HW.2
        have HT : Hid (l[24].toNat < 128) := Lib.hid (by omega)
        have hlt : l[24].toNat < 128 := HT.out
        clear HW
        generalize l[24].toNat = z at hc ht hlt
        go_wp2_with fail
        clear hc
        have hL : (l.drop 24).length = 8 := by rw [List.length_drop, hl]
        obtain ⟨wz, hwz⟩ : ∃ wz : World, wz = wr := ⟨_, rfl⟩
        rw [← hwz] at hA0 hG0 hs0 ⊢
        clear hwz
        go_loopw [5, 6] (fun n i wr => ∃ j : Nat, j ≤ 8 ∧ i = .int .i64 (24 + (j : Int)) ∧ n = .int .i64 (val ((l.drop 24).take j) : Nat) ∧ wr = wz) (fun _ i _ => (32 - intOf i).toNat)
        case atStart => exact ⟨0, by omega, rfl, rfl, rfl⟩
        case round =>
          obtain ⟨j, hj, rfl, rfl, rfl⟩ := hrel
          by_cases h2 : j < 8
          · have hq : val ((l.drop 24).take j) < 2 ^ 55 := by
              have h3 := val_parts (l.drop 24) j (by omega)
              rw [hL] at h3
              have h4 : 256 ^ 1 ≤ 256 ^ (8 - j) := Nat.pow_le_pow_right (by omega) (by omega)
              have h5 : val ((l.drop 24).take j) * 256 ^ 1 ≤ val ((l.drop 24).take j) * 256 ^ (8 - j) := Nat.mul_le_mul_left _ h4
              have h6 := HLE.out
              omega
            have HV := Lib.hid (val_take (l.drop 24) j (by omega))
            have hget : (l.drop 24)[j]'(by omega) = l[24 + j]'(by omega) := by simp
            have hcj := arr_cell hA0.out (24 + j) (by omega)
            rw [hget] at HV
            have hzl := bv_lt (l[24 + j]'(by omega))
            have HJ := Lib.hid (i64_join2 _ _ hq hzl)
            generalize val ((l.drop 24).take j) = q at hq HV HJ
            generalize (l[24 + j]'(by omega)).toNat = z at hcj HV HJ hzl
            clear hget
            go_wp2_with fail
            go_roundw
            case rel =>
              refine ⟨j + 1, by omega, by go_num, ?_, trivial⟩
              rw [HV.out, ← HJ.out]
            case measure => simp [intOf]; omega
          · obtain rfl : j = 8 := by omega
            have HTK : Hid ((l.drop 24).take 8 = l.drop 24) := Lib.hid (List.take_of_length_le (by omega))
            rw [HTK.out]
            clear HTK hL h2
            generalize val (l.drop 24) = q at HI HLE ⊢
            go_wp2_with fail
            refine bodyPost_ret (results_tmp2 rfl _ _ _) rfl ⟨_, rfl, hG0.out, ?_⟩
            unfold eqV
            rw [HI.out]
            rfl
theorem intV_word (x : Raw) : intV x = .tuple #[.int .i64 ((((wordInt ((wordR x).getD zero32)).getD 0 : Nat)) : Int), .bool ((wordR x).isSome && (wordInt ((wordR x).getD zero32)).isSome)] := by
  unfold intV
  rw [intR_word]
  cases wordR x with
  | none =>
    have : wordInt zero32 = some 0 := by unfold wordInt; rw [show val zero32 = 0 by decide]; rfl
    simp [this]
  | some l => simp
set_option maxRecDepth 20000 in
set_option maxHeartbeats 1000000 in
theorem ref_IntOf (v : Value) (x : Raw) (w : World) (h : IsItem w v x) : Calls Try.prog 54 #[v] w (Ret (eqV (intV x)) w) := by
  have HX := Lib.hid h
  obtain ⟨lx, bx, xs⟩ := x
  obtain ⟨vb1, vl1, rfl, ⟨A0, c0, rfl, hc0, hm0, _⟩, A1, c1, rows1, rfl, hc1, hm1, _⟩ := isItem_form h
  unfold maxLen at hm0 hm1
  clear h
  generalize bx.length = n0 at HX hc0 ⊢
  generalize xs.length = n1 at HX hc1 ⊢
  generalize Raw.mk lx bx xs = x at HX ⊢
  have HI := Lib.hid (intV_word x)
  have hl : ((wordR x).getD zero32).length = 32 := by
    cases hw : wordR x with
    | none => exact zero32_length
    | some l => exact wordR_length hw
  have HW : Hid (wordV x = .tuple #[arrV ((wordR x).getD zero32), .bool (wordR x).isSome]) := Lib.hid rfl
  generalize (wordR x).isSome = ok at HI HW
  generalize (wordR x).getD zero32 = l at HI HW hl
  have HL : Hid (wintV l = .tuple #[.int .i64 (((wordInt l).getD 0 : Nat) : Int), .bool (wordInt l).isSome]) := Lib.hid rfl
  generalize (wordInt l).isSome = fine at HI HL
  generalize (wordInt l).getD 0 = n at HI HL
  go_enter Try.func54, Try.ntmps54
  go_wp2_with first
    | (go_at_call 55; refine (ref_WordOf _ x _ (HX.out.gr (gr_alloc w _))).mono ?_; rintro e w2 ⟨v2, rfl, hg2, hv2⟩; rw [eqV, HW.out] at hv2; subst hv2; have HG2 := Lib.hid ((gr_alloc w _).trans hg2); have hs2 := hg2.size; clear hg2)
    | (guard_target = wpList _ _ _ (Oper.mk _ (Op.alloc _) _ _ _ _ :: _) _ _; refine wpL_alloc_word w2.heap.size rfl rfl rfl ?_; intro w3 hA3 hG3 hs3)
    | (guard_target = wpList _ _ _ (Oper.mk _ (Op.store _ _ _) _ _ _ _ :: _) _ _; refine wpList_store_row rfl 32 (.tmp 4) (.tmp 11) rfl w2.heap.size (bvs l).toArray rfl rfl 32 _ hA3.out (arr_info _ hl) (by rw [arr_size _ hl]; rfl) (arr_one _) ?_; have HA4 : Hid (Arr (w3.setRow w2.heap.size (bvs l).toArray) w2.heap.size 32 l) := Lib.hid (arr_setRow hA3.out); have HG4 : Hid (Gr w (w3.setRow w2.heap.size (bvs l).toArray)) := Lib.hid (gr_setRow (HG2.out.trans hG3.out) _ _ HG2.out.size); generalize w3.setRow w2.heap.size (bvs l).toArray = w4 at HA4 HG4 ⊢)
    | (guard_target = wpList _ _ _ (Oper.mk _ (Op.load _ _) _ _ _ _ :: _) _ _; refine wpList_load_row rfl 32 (.tmp 4) rfl w2.heap.size rfl 32 (bvs l).toArray (0, 0) _ HA4.out rfl rfl (arr_info _ hl) ?_)
    | (go_at_call 82; refine (ref_Int l hl _).mono ?_; rintro e w5 ⟨v5, rfl, hg5, hv5⟩; rw [eqV, HL.out] at hv5; subst hv5; have HG5 := Lib.hid (HG4.out.trans hg5); clear hg5)
  all_goals exact bodyPost_ret (results_tmp2 rfl _ _ _) rfl ⟨_, rfl, HG5.out, by unfold eqV; rw [HI.out]; simp_all⟩
end Go.Proofs.Ytmlajcbabimkjaa
/-
  bytes.Compare, trie.Compare, Less: the order of bytes.
  Conditions: none.
-/
namespace Go.Proofs.Ytmlajcbabimkjaa
set_option linter.unusedVariables false
open Go.RowKit Mono Rlp
end Go.Proofs.Ytmlajcbabimkjaa
/-
  Items, slots, changes, diffs as the abstract machine reads them; what the functions of rlp and of the reference yield of them.
  Conditions: none.
-/
namespace Go.Proofs.Ytmlajcbabimkjaa
set_option linter.unusedVariables false
open Go.RowKit Mono Rlp
namespace E
mutual
def dItem : Raw → D
  | .mk b bs xs => .tup [.v (.bool b), .bs bs, .sl 3 (dItems xs)]
def dItems : List Raw → List D
  | [] => []
  | x :: xs => dItem x :: dItems xs
end
theorem dItems_map : ∀ xs : List Raw, dItems xs = xs.map dItem
  | [] => rfl
  | x :: xs => by rw [dItems, List.map_cons, dItems_map xs]
theorem dItems_length (xs : List Raw) : (dItems xs).length = xs.length := by rw [dItems_map, List.length_map]
section
variable {ok : Nat → Prop} {w : World}
theorem dItem_size (x : Raw) : (dItem x).size = 3 := by
  obtain ⟨b, bs, xs⟩ := x
  rw [dItem]
  rfl
theorem dItem_agg (x : Raw) : (dItem x).agg = true := by
  obtain ⟨b, bs, xs⟩ := x
  rw [dItem]
  rfl
mutual
theorem reads_item : ∀ (x : Raw) (cs : List Value), Reads ok w (dItem x) cs ↔ ItemAtP ok w x cs
  | .mk b bs xs, cs => by
    rw [dItem, Reads, ItemAtP, ReadsL]
    constructor
    · rintro ⟨c1, c2, rfl, h1, h2⟩
      rw [ReadsL] at h2
      obtain ⟨c3, c4, rfl, h3, h4⟩ := h2
      rw [ReadsL] at h4
      obtain ⟨c5, c6, rfl, h5, h6⟩ := h4
      rw [ReadsL] at h6
      subst h6
      rw [Reads] at h1
      rw [Reads] at h3
      rw [Reads] at h5
      obtain ⟨u, rfl, h3⟩ := h3
      obtain ⟨A, c, rows, rfl, g2, g3, g4, g5, g6⟩ := h5
      rw [h1.2]
      rw [dItems_length] at *
      exact ⟨u, A, c, rows, rfl, h3, g2, g3, g4, g5, (reads_items xs rows).1 g6⟩
    · rintro ⟨vb, A, c, rows, rfl, g1, g2, g3, g4, g5, g6⟩
      refine ⟨[.bool b], [vb, .slice A xs.length c], rfl, by rw [Reads]; exact ⟨rfl, rfl⟩, ?_⟩
      rw [ReadsL]
      refine ⟨[vb], [.slice A xs.length c], rfl, by rw [Reads]; exact ⟨vb, rfl, g1⟩, ?_⟩
      rw [ReadsL]
      refine ⟨[.slice A xs.length c], [], rfl, ?_, by rw [ReadsL]⟩
      rw [Reads, dItems_length]
      exact ⟨A, c, rows, rfl, g2, g3, g4, g5, (reads_items xs rows).2 g6⟩
theorem reads_items : ∀ (xs : List Raw) (rows : List (List Value)), ReadsRows ok w 3 (dItems xs) rows ↔ ItemsAtP ok w xs rows
  | [], rows => by rw [dItems, ReadsRows, ItemsAtP]
  | x :: xs, rows => by
    rw [dItems, ReadsRows, ItemsAtP]
    constructor
    · rintro ⟨r, rest, rfl, h1, h2, h3⟩
      exact ⟨r, rest, rfl, (reads_item x r).1 h2, (reads_items xs rest).1 h3⟩
    · rintro ⟨r, rest, rfl, h2, h3⟩
      have h4 := (reads_item x r).2 h2
      exact ⟨r, rest, rfl, by rw [Reads.len _ _ h4, dItem_size], h4, (reads_items xs rest).2 h3⟩
end
theorem readV_item {x : Raw} {v : Value} : ReadV ok w (dItem x) v ↔ ItemIn ok w v x := by
  rw [readV_agg (dItem_agg x)]
  constructor
  · rintro ⟨cs, h, rfl⟩
    exact ⟨cs, rfl, (reads_item x cs).1 h⟩
  · rintro ⟨cs, rfl, h⟩
    exact ⟨cs, (reads_item x cs).2 h, rfl⟩
theorem isItem_of (hok : ∀ b, ok b → b < w.heap.size) {x : Raw} {v : Value} (h : ReadV ok w (dItem x) v) : IsItem w v x := ItemIn.is (readV_item.1 h) hok
theorem tpl2 {d e : D} {x y : Value} (h1 : ReadV ok w d x) (h2 : ReadV ok w e y) : ReadR ok w (.tpl [d, e]) (.tuple #[x, y]) := ⟨[x, y], rfl, x, [y], rfl, h1, y, [], rfl, h2, rfl⟩
end
/-! ### What functions yield -/
def packD (o : Option (List UInt8)) : R := match o with
  | some b => .tpl [.bs b, .v (.int .i64 0)]
  | none => .tpl [.v (.slice none 0 0), .v (.int .i64 3)]
def wordD (x : Raw) : R := .tpl [.arr 32 ((wordR x).getD zero32), .v (.bool (wordR x).isSome)]
def intD (x : Raw) : R := .tpl [.v (.int .i64 (((intR x).getD 0 : Nat) : Int)), .v (.bool (intR x).isSome)]
def rdE (b : List UInt8) : Nat := match readR b with | .ok _ => 0 | .error e => e
def rdX (b : List UInt8) : Raw := match readR b with | .ok x => x | .error _ => .mk false [] []
theorem rd_both {B : Nat} {b : List UInt8} {v : Value} {w : World} (h : ReadRV B b v w) : ∃ vi, v = .tuple #[vi, .int .i64 (rdE b : Int)] ∧ ItemIn (fun k => B ≤ k ∧ k < w.heap.size) w vi (rdX b) := by
  unfold ReadRV at h
  unfold rdE rdX
  cases hr : readR b with
  | ok x => rw [hr] at h; exact h
  | error e =>
    rw [hr] at h
    exact ⟨zItem, h, itemIn_bytes (l := []) ⟨none, 0, rfl, Nat.le_refl _, by simp [maxLen], fun hn => absurd rfl hn⟩⟩
def readD (b : List UInt8) : R := .tpl [dItem (rdX b), .v (.int .i64 (rdE b : Int))]
theorem more_new {ok : Nat → Prop} {w w' : World} (b : Nat) (h : w.heap.size ≤ b ∧ b < w'.heap.size) : (ok b ∨ w.heap.size ≤ b) ∧ b < w'.heap.size := ⟨.inr h.1, h.2⟩
theorem word_lenD (x : Raw) : ((wordR x).getD zero32).length = 32 := by
  cases h : wordR x with
  | none => rfl
  | some l =>
    unfold wordR at h
    cases hn : numB x with
    | none => rw [hn] at h; cases h
    | some bs =>
      rw [hn, Option.bind_some] at h
      split at h
      · rename_i hlen
        cases h
        exact pad_length bs hlen
      · cases h
theorem f_Word (x : Raw) : Fn 51 [dItem x] (· = wordD x) := ⟨fun ok w xs hok hr => by
  obtain ⟨v, rfl, h⟩ := one_arg hr
  refine (rlp_Word v x w (isItem_of hok h)).mono ?_
  rintro e w' ⟨_, rfl, hg, rfl⟩
  exact ⟨hg, _, _, rfl, rfl, tpl2 (arrV_mk (word_lenD x)) (v_mk rfl)⟩⟩
theorem f_WordOf (x : Raw) : Fn 55 [dItem x] (· = wordD x) := ⟨fun ok w xs hok hr => by
  obtain ⟨v, rfl, h⟩ := one_arg hr
  refine (ref_WordOf v x w (isItem_of hok h)).mono ?_
  rintro e w' ⟨_, rfl, hg, rfl⟩
  exact ⟨hg, _, _, rfl, rfl, tpl2 (arrV_mk (word_lenD x)) (v_mk rfl)⟩⟩
theorem f_Int (x : Raw) : Fn 50 [dItem x] (· = intD x) := ⟨fun ok w xs hok hr => by
  obtain ⟨v, rfl, h⟩ := one_arg hr
  refine (rlp_Int v x w (isItem_of hok h)).mono ?_
  rintro e w' ⟨_, rfl, hg, rfl⟩
  exact ⟨hg, _, _, rfl, rfl, tpl2 (v_mk rfl) (v_mk rfl)⟩⟩
theorem f_IntOf (x : Raw) : Fn 54 [dItem x] (· = intD x) := ⟨fun ok w xs hok hr => by
  obtain ⟨v, rfl, h⟩ := one_arg hr
  refine (ref_IntOf v x w (isItem_of hok h)).mono ?_
  rintro e w' ⟨_, rfl, hg, rfl⟩
  exact ⟨hg, _, _, rfl, rfl, tpl2 (v_mk rfl) (v_mk rfl)⟩⟩
theorem f_Read (b : List UInt8) : Fn 49 [.bs b] (· = readD b) := ⟨fun ok w xs hok hr => by
  obtain ⟨v, rfl, h⟩ := one_arg hr
  refine (rlp_Read v b w (isB_of hok h)).mono ?_
  rintro e w' ⟨v', rfl, hg, hv⟩
  obtain ⟨vi, rfl, hi⟩ := rd_both hv
  exact ⟨hg, _, _, rfl, rfl, tpl2 (readV_item.2 (ItemIn.mono hi (fun b hb => more_new b hb) fun _ _ => rfl)) (v_mk rfl)⟩⟩
theorem f_ReadRef (b : List UInt8) : Fn 53 [.bs b] (· = readD b) := ⟨fun ok w xs hok hr => by
  obtain ⟨v, rfl, h⟩ := one_arg hr
  refine (ref_Read v b w (isB_of hok h)).mono ?_
  rintro e w' ⟨v', rfl, hg, hv⟩
  obtain ⟨vi, rfl, hi⟩ := rd_both hv
  exact ⟨hg, _, _, rfl, rfl, tpl2 (readV_item.2 (ItemIn.mono hi (fun b hb => more_new b hb) fun _ _ => rfl)) (v_mk rfl)⟩⟩
end E
end Go.Proofs.Ytmlajcbabimkjaa
