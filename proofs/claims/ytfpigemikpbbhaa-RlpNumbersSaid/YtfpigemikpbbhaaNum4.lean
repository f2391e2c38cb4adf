/-
  Words as items: rlp.Big and the reference's Big.
  Conditions: none.
-/
import Derived.Test.YtfpigemikpbbhaaNum3
namespace Go.Proofs.Ytfpigemikpbbhaa
set_option linter.unusedVariables false
open Go.RowKit Mono Rlp

theorem arr_cell {w : World} {g : Nat} {t : TypeId} {l : List UInt8} (h : Arr w g t l) (k : Nat) (hk : k < l.length) : w.cell? ⟨g, k, none⟩ = some (.int .u8 (l[k].toNat : Int)) := by
  rw [cell_of_row w g k _ t (0, 0) h]
  simp [bvs, bv, hk]
theorem isB_arr {w : World} {g : Nat} {t : TypeId} {l : List UInt8} (h : Arr w g t l) (k : Nat) (hk : k ≤ l.length) (hm : l.length ≤ maxLen) (c : Nat) (hc : l.length - k ≤ c) (hcm : c ≤ maxLen) : IsB w (.slice (some ⟨g, k, none⟩) (l.length - k) c) (l.drop k) := by
  refine ⟨_, _, by rw [List.length_drop], by rw [List.length_drop]; exact hc, hcm, fun hn => ⟨g, k, rfl, h.lt, fun j u hu => ?_⟩⟩
  rw [cell_of_row w g _ _ t (0, 0) h]
  rw [bvs_drop, List.getElem?_drop] at hu
  simpa using hu
set_option maxRecDepth 100000 in
theorem run_box_word (w : World) (l : List UInt8) : (Instr.box 36 (arrV l)).run Try.prog w = .ok (.pointer (some ⟨w.heap.size, 0, none⟩)) (w.alloc (.cells (bvs l).toArray 36)) := by kernel_rfl
/-- A word that a function takes. -/
theorem wpL_box_word {w : World} {ops : Array Oper} {rest : List Oper} {o : Oper} {a : Act} {Q : Exit → Act → World → Prop} (g : Nat) (hg : w.heap.size = g) (x : Operand) (l : List UInt8) (hgd : o.guard = none) (ho : o.op = .box 36 x) (hx : a.eval x = arrV l)
    (h : ∀ w', Hid (Arr w' g 36 l) → Hid (Gr w w') → w'.heap.size = g + 1 → wpList Try.prog ops Q rest (a.put o.dst (.pointer (some ⟨g, 0, none⟩))) w') : wpList Try.prog ops Q (o :: rest) a w := by
  subst hg
  refine wpList_plain hgd fun _ hK => ?_
  have h1 := hK _ _ (h _ (Lib.hid (heap_alloc_new w _)) (Lib.hid (gr_alloc w _)) (by simp))
  unfold Oper.wp execOp
  simp only [ho, hx, Sem.run_bind, run_box_word, Result.andThen_ok, Sem.run_pure]
  exact h1
theorem results_item1 {fn : Func} {p : Tmp} (h : fn.results = #[.cell p 45]) (tmps : Array Value) (w : World) (g : Nat) (cs : Array Value)
    (hp : tmps.getD p undef = .pointer (some ⟨g, 0, none⟩)) (hg : w.heap[g]? = some (.cells cs 45 (0, 0))) (hs : cs.size = 3) :
    (results fn tmps).run Try.prog w = .ok (.agg cs) w :=
  results_cell_row h tmps w g 45 cs (0, 0) _ hp hg Try.underlying45 rfl (item_info cs hs)
theorem at_zero (l : List UInt8) (k : Nat) (hk : k < l.length) : ((l[k].toNat : Int) == 0) = decide (l[k] = 0) := by
  rw [Bool.eq_iff_iff, beq_iff_eq, decide_eq_true_eq]
  constructor
  · intro e
    exact UInt8.toNat_inj.1 (by rw [show (0 : UInt8).toNat = 0 from rfl]; omega)
  · intro e
    rw [e]
    rfl
set_option maxRecDepth 20000 in
set_option maxHeartbeats 1000000 in
theorem ref_bytes (v : Value) (l : List UInt8) (B : Nat) (w : World) (h : IsBP (fun k => B ≤ k ∧ k < w.heap.size) w v l) : Calls Try.prog 62 #[v] w (Ret (fun v' w' => ItemIn (fun k => B ≤ k ∧ k < w.heap.size) w' v' (.mk false l [])) w) := by
  have HB := Lib.hid h
  obtain ⟨A, c, rfl, hc1, hc2, hr⟩ := h
  clear hr
  go_enter Try.func62, Try.ntmps62
  go_wp2_with fail
  refine bodyPost_ret (results_item1 rfl _ _ w.heap.size #[.bool false, .slice A l.length c, .slice none 0 0] rfl (heap_alloc_new w _) rfl) rfl ⟨_, rfl, gr_alloc w _, itemIn_bytes (HB.out.mono (fun b hb => hb) fun p hp => (gr_alloc w _).cell hp.2)⟩
set_option maxRecDepth 20000 in
set_option maxHeartbeats 1000000 in
theorem ref_Big (l : List UInt8) (hl : l.length = 32) (w : World) : Calls Try.prog 44 #[arrV l] w (Ret (fun v w' => ItemIn (fun k => w.heap.size ≤ k ∧ k < w'.heap.size) w' v (.mk false (strip l) [])) w) := by
  go_enter Try.func44, Try.ntmps44
  go_wp2_with (guard_target = wpList _ _ _ (Oper.mk _ (Op.box _ _) _ _ _ _ :: _) _ _; refine wpL_box_word w.heap.size rfl (.tmp 0) l rfl rfl rfl ?_; intro w0 hA0 hG0 hs0)
  have HG1 := Lib.hid (hG0.out.trans (gr_alloc w0 (.cells #[.bool false, .slice none 0 0, .slice none 0 0] 45)))
  have HA1 := Lib.hid (arr_old hA0.out (.cells #[.bool false, .slice none 0 0, .slice none 0 0] 45))
  have HI1 : Hid ((w0.alloc (.cells #[.bool false, .slice none 0 0, .slice none 0 0] 45)).heap[w.heap.size + 1]? = _) := Lib.hid (heap_at w0 _ _ hs0.symm)
  have hs1 : (w0.alloc (.cells #[.bool false, .slice none 0 0, .slice none 0 0] 45)).heap.size = w.heap.size + 2 := by simp [hs0]
  generalize w0.alloc (.cells #[.bool false, .slice none 0 0, .slice none 0 0] 45) = w1 at HG1 HA1 HI1 hs1 ⊢
  go_loopw [3] (fun i wr => ∃ k : Nat, k ≤ 32 ∧ i = .int .i64 k ∧ wr = w1 ∧ Hid (strip (l.drop k) = strip l)) (fun i _ => 32 - (intOf i).toNat)
  case atStart => exact ⟨0, by omega, rfl, rfl, Lib.hid rfl⟩
  case round =>
    obtain ⟨k, hk, rfl, rfl, HST⟩ := hrel
    by_cases h1 : k < 32
    · have hc := arr_cell HA1.out k (by omega)
      by_cases hz : l[k] = 0
      · have hstep : strip (l.drop (k + 1)) = strip l := by
          rw [← HST.out, List.drop_eq_getElem_cons (by omega : k < l.length), strip, if_pos hz]
        have HSTEP := Lib.hid hstep
        rw [hz] at hc
        have hc2 : wr.cell? ⟨w.heap.size, k, none⟩ = some (.int .u8 0) := hc
        clear hc hstep hz
        go_wp2_with fail
        go_roundw
        case rel => exact ⟨k + 1, by omega, by go_num, trivial, HSTEP⟩
        case measure => simp [intOf]; omega
      · have hn := at_zero l k (by omega)
        rw [decide_eq_false hz] at hn
        have HD : Hid (l.drop k = strip l) := Lib.hid (by rw [← HST.out, strip_at l k (by omega) hz])
        have hsl := fun w' : World => slice_word w' w.heap.size k k rfl (by omega)
        have HRD : Hid (Rd wr wr.heap.size (some ⟨w.heap.size, k, none⟩) (bvs (l.drop k))) := by
          obtain ⟨_, _, e, _, _, h⟩ := isB_arr HA1.out k (by omega) (by simp [hl, maxLen]) (l.length - k) (Nat.le_refl _) (by simp [hl, maxLen]; omega)
          injection e with e1 _ _
          subst e1
          exact Lib.hid h
        have hne : ¬ 32 = k := by omega
        simp only [if_neg hne] at hsl
        have hlen : (bvs (l.drop k)).length = (32 - k) * 1 := by simp [bvs, hl]
        clear hz
        go_wp2_with first
          | (at_builtin; refine wpL_append (.const (.slice none 0 0)) (.tmp 15) 22 slT_bytes (base := wr.heap.size) _ 0 [] (some ⟨w.heap.size, k, none⟩) (32 - k) (32 - k) wr.heap.size (bvs (l.drop k)) rfl rfl rfl rfl (World.ownsRow_nil _ _ _ _) HRD.out hlen (bvs_one _) (by simp only [maxLen]; omega) (by omega) (Nat.le_refl _) ?_; intro A2 c2 w2 hown2 hg2 _; simp only [Nat.zero_add, List.nil_append] at hown2; have HO2 : Hid (OwnB w2 wr.heap.size (.slice A2 (32 - k) c2) (strip l)) := Lib.hid (ownB_of hown2 (by rw [← HD.out])); have HG2 : Hid (Gr wr w2) := Lib.hid ((Below.refl _ _).grown hg2 (Nat.le_refl _) (fun j hj => by cases hj)); clear hown2 hg2)
          | (go_at_call 62; refine (ref_bytes _ (strip l) wr.heap.size _ (ownB_P HO2.out)).mono ?_; rintro e w3 ⟨v3, rfl, hg3, hv3⟩; have HI3 := Lib.hid hv3; obtain ⟨cs3, rfl, hat3⟩ := hv3; obtain ⟨b3, A4, n4, c4, A5, n5, c5, rfl⟩ := hat3.len; have hs3 := hg3.size; have HG3 := Lib.hid (HG2.out.trans hg3); have HR3 := Lib.hid ((HG3.out.block _ (lt_of_some HI1.out)).trans HI1.out); clear hg3 hat3)
          | (guard_target = wpList _ _ _ (Oper.mk _ (Op.store _ _ _) _ _ _ _ :: _) _ _; refine wpList_store_row rfl 45 (.tmp 2) (.tmp 17) rfl (w.heap.size + 1) _ rfl rfl 45 _ HR3.out (by kernel_rfl) rfl (by simp [Value.oneCell']) ?_)
        refine bodyPost_ret (results_item1 rfl _ _ (w.heap.size + 1) _ rfl (heap_setRow_same _ _ _ _ _ HR3.out) rfl) rfl ⟨_, rfl, gr_setRow (HG1.out.trans HG3.out) _ _ (by omega), ?_⟩
        exact HI3.out.mono (fun b hb => ⟨by have := hb.1; omega, by rw [size_setRow]; have := hb.2; omega⟩) (fun p hp => cell_setRow (by have := hp.1; omega))
    · skip
      have hk2 : k = 32 := by omega
      subst hk2
      have HD : Hid (l.drop 32 = strip l) := Lib.hid (by rw [← HST.out, List.drop_eq_nil_of_le (by omega)]; rfl)
      have hz := h1
      have hsl := fun w' : World => slice_word w' w.heap.size 32 32 rfl (by omega)
      have HRD : Hid (Rd wr wr.heap.size (some ⟨w.heap.size, 0, none⟩) (bvs (l.drop 32))) := by
        rw [List.drop_eq_nil_of_le (by omega)]
        exact Lib.hid Rd.nil
      simp at hsl
      have hlen : (bvs (l.drop 32)).length = (32 - 32) * 1 := by simp [bvs, hl]
      clear hz
      go_wp2_with first
        | (at_builtin; refine wpL_append (.const (.slice none 0 0)) (.tmp 15) 22 slT_bytes (base := wr.heap.size) _ 0 [] (some ⟨w.heap.size, 0, none⟩) (32 - 32) (32 - 32) wr.heap.size (bvs (l.drop 32)) rfl rfl rfl rfl (World.ownsRow_nil _ _ _ _) HRD.out hlen (bvs_one _) (by simp only [maxLen]; omega) (by omega) (Nat.le_refl _) ?_; intro A2 c2 w2 hown2 hg2 _; simp only [Nat.zero_add, List.nil_append] at hown2; have HO2 : Hid (OwnB w2 wr.heap.size (.slice A2 (32 - 32) c2) (strip l)) := Lib.hid (ownB_of hown2 (by rw [← HD.out])); have HG2 : Hid (Gr wr w2) := Lib.hid ((Below.refl _ _).grown hg2 (Nat.le_refl _) (fun j hj => by cases hj)); clear hown2 hg2)
        | (go_at_call 62; refine (ref_bytes _ (strip l) wr.heap.size _ (ownB_P HO2.out)).mono ?_; rintro e w3 ⟨v3, rfl, hg3, hv3⟩; have HI3 := Lib.hid hv3; obtain ⟨cs3, rfl, hat3⟩ := hv3; obtain ⟨b3, A4, n4, c4, A5, n5, c5, rfl⟩ := hat3.len; have hs3 := hg3.size; have HG3 := Lib.hid (HG2.out.trans hg3); have HR3 := Lib.hid ((HG3.out.block _ (lt_of_some HI1.out)).trans HI1.out); clear hg3 hat3)
        | (guard_target = wpList _ _ _ (Oper.mk _ (Op.store _ _ _) _ _ _ _ :: _) _ _; refine wpList_store_row rfl 45 (.tmp 2) (.tmp 17) rfl (w.heap.size + 1) _ rfl rfl 45 _ HR3.out (by kernel_rfl) rfl (by simp [Value.oneCell']) ?_)
      refine bodyPost_ret (results_item1 rfl _ _ (w.heap.size + 1) _ rfl (heap_setRow_same _ _ _ _ _ HR3.out) rfl) rfl ⟨_, rfl, gr_setRow (HG1.out.trans HG3.out) _ _ (by omega), ?_⟩
      exact HI3.out.mono (fun b hb => ⟨by have := hb.1; omega, by rw [size_setRow]; have := hb.2; omega⟩) (fun p hp => cell_setRow (by have := hp.1; omega))
set_option maxRecDepth 20000 in
set_option maxHeartbeats 1000000 in
theorem rlp_Big (l : List UInt8) (hl : l.length = 32) (w : World) : Calls Try.prog 43 #[arrV l] w (Ret (fun v w' => ItemIn (fun k => w.heap.size ≤ k ∧ k < w'.heap.size) w' v (.mk false (strip l) [])) w) := by
  have hsl0 : ∀ w', (Instr.sliceAt 36 (.pointer (some ⟨w.heap.size, 0, none⟩)) none none none).run Try.prog w' = .ok (.slice (some ⟨w.heap.size, 0, none⟩) 32 32) w' := fun w' => by kernel_rfl
  go_enter Try.func43, Try.ntmps43
  go_wp2_with (guard_target = wpList _ _ _ (Oper.mk _ (Op.box _ _) _ _ _ _ :: _) _ _; refine wpL_box_word w.heap.size rfl (.tmp 0) l rfl rfl rfl ?_; intro w0 hA0 hG0 hs0)
  have HG1 := Lib.hid (hG0.out.trans (gr_alloc w0 (.cells #[.bool false, .slice none 0 0, .slice none 0 0] 45)))
  have HA1 := Lib.hid (arr_old hA0.out (.cells #[.bool false, .slice none 0 0, .slice none 0 0] 45))
  have HI1 : Hid ((w0.alloc (.cells #[.bool false, .slice none 0 0, .slice none 0 0] 45)).heap[w.heap.size + 1]? = _) := Lib.hid (heap_at w0 _ _ hs0.symm)
  have hs1 : (w0.alloc (.cells #[.bool false, .slice none 0 0, .slice none 0 0] 45)).heap.size = w.heap.size + 2 := by simp [hs0]
  generalize w0.alloc (.cells #[.bool false, .slice none 0 0, .slice none 0 0] 45) = w1 at HG1 HA1 HI1 hs1 ⊢
  clear hsl0
  go_loopw [3] (fun bv wr => ∃ (k : Nat) (A : Option Addr), k ≤ 32 ∧ bv = .slice A (32 - k) (32 - k) ∧ (k < 32 → A = some ⟨w.heap.size, k, none⟩) ∧ wr = w1 ∧ Hid (strip (l.drop k) = strip l)) (fun bv _ => match bv with | .slice _ n _ => n | _ => 0)
  case atStart => exact ⟨0, some ⟨w.heap.size, 0, none⟩, by omega, rfl, fun _ => rfl, rfl, Lib.hid rfl⟩
  case round =>
    obtain ⟨k, A, hk, rfl, hA, rfl, HST⟩ := hrel
    by_cases h1 : k < 32
    · obtain rfl := hA h1
      have hc := arr_cell HA1.out k (by omega)
      have e1 : (((32 - k : Nat) : Int)) = 32 - (k : Int) := by omega
      by_cases hz : l[k] = 0
      · have HSTEP : Hid (strip (l.drop (k + 1)) = strip l) := Lib.hid (by rw [← HST.out, List.drop_eq_getElem_cons (by omega : k < l.length), strip, if_pos hz])
        rw [hz] at hc
        have hc2 : wr.cell? ⟨w.heap.size, k, none⟩ = some (.int .u8 0) := hc
        clear hc hz
        go_wp2_with fail
        go_roundw
        case rel => exact ⟨k + 1, _, by omega, by rw [show 32 - (k + 1) = 32 - k - 1 by omega], fun h => if_neg (by omega), trivial, HSTEP⟩
        case measure => show 32 - k - 1 < 32 - k; omega
      · have hn := at_zero l k (by omega)
        rw [decide_eq_false hz] at hn
        have HD : Hid (l.drop k = strip l) := Lib.hid (by rw [← HST.out, strip_at l k (by omega) hz])
        have HB : Hid (IsB wr (.slice (some ⟨w.heap.size, k, none⟩) (32 - k) (32 - k)) (strip l)) := by
          have := isB_arr HA1.out k (by omega) (by simp [hl, maxLen]) (l.length - k) (Nat.le_refl _) (by simp [hl, maxLen]; omega)
          rw [HD.out, hl] at this
          exact Lib.hid this
        clear hz
        go_wp2_with first
          | (go_at_call 61; refine (clone_bytes _ (strip l) _ HB.out (by have := strip_length l; omega)).mono ?_; rintro e w2 ⟨v2, rfl, hg2, ho2⟩; have HB2 := Lib.hid (ownB_P ho2); obtain ⟨A2, c2, rfl, _⟩ := own_form ho2; have HG2 := Lib.hid hg2; have HR2 := Lib.hid ((hg2.block _ (lt_of_some HI1.out)).trans HI1.out); clear hg2 ho2)
          | (guard_target = wpList _ _ _ (Oper.mk _ (Op.store _ _ _) _ _ _ _ :: _) _ _; refine wpList_store_row rfl 45 (.tmp 2) (.tmp 18) rfl (w.heap.size + 1) _ rfl rfl 45 _ HR2.out (by kernel_rfl) rfl (by simp [Value.oneCell']) ?_)
        refine bodyPost_ret (results_item1 rfl _ _ (w.heap.size + 1) _ rfl (heap_setRow_same _ _ _ _ _ HR2.out) rfl) rfl ⟨_, rfl, gr_setRow (HG1.out.trans HG2.out) _ _ (by omega), ?_⟩
        exact itemIn_bytes (HB2.out.mono (fun b hb => ⟨by have := hb.1; omega, by rw [size_setRow]; have := hb.2; omega⟩) (fun p hp => cell_setRow (by have := hp.1; omega)))
    · skip
      have hk2 : k = 32 := by omega
      subst hk2
      have HD : Hid (l.drop 32 = strip l) := Lib.hid (by rw [← HST.out, List.drop_eq_nil_of_le (by omega)]; rfl)
      have hz := h1
      have HB : Hid (IsB wr (.slice A (32 - 32) (32 - 32)) (strip l)) := by
        rw [← HD.out, List.drop_eq_nil_of_le (by omega)]
        exact Lib.hid ⟨_, 0, rfl, by simp, by simp [maxLen], Rd.nil⟩
      clear hz
      go_wp2_with first
        | (go_at_call 61; refine (clone_bytes _ (strip l) _ HB.out (by have := strip_length l; omega)).mono ?_; rintro e w2 ⟨v2, rfl, hg2, ho2⟩; have HB2 := Lib.hid (ownB_P ho2); obtain ⟨A2, c2, rfl, _⟩ := own_form ho2; have HG2 := Lib.hid hg2; have HR2 := Lib.hid ((hg2.block _ (lt_of_some HI1.out)).trans HI1.out); clear hg2 ho2)
        | (guard_target = wpList _ _ _ (Oper.mk _ (Op.store _ _ _) _ _ _ _ :: _) _ _; refine wpList_store_row rfl 45 (.tmp 2) (.tmp 18) rfl (w.heap.size + 1) _ rfl rfl 45 _ HR2.out (by kernel_rfl) rfl (by simp [Value.oneCell']) ?_)
      refine bodyPost_ret (results_item1 rfl _ _ (w.heap.size + 1) _ rfl (heap_setRow_same _ _ _ _ _ HR2.out) rfl) rfl ⟨_, rfl, gr_setRow (HG1.out.trans HG2.out) _ _ (by omega), ?_⟩
      exact itemIn_bytes (HB2.out.mono (fun b hb => ⟨by have := hb.1; omega, by rw [size_setRow]; have := hb.2; omega⟩) (fun p hp => cell_setRow (by have := hp.1; omega)))
end Go.Proofs.Ytfpigemikpbbhaa
