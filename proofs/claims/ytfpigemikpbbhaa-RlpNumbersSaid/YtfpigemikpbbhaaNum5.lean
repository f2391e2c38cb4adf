/-
  Numbers as words: the reference's Of, Int, IntOf; Num.
  Conditions: none.
-/
import Derived.Test.YtfpigemikpbbhaaNum4
namespace Go.Proofs.Ytfpigemikpbbhaa
set_option linter.unusedVariables false
open Go.RowKit Mono Rlp

theorem arr_setCell {w : World} {g : Nat} {t : TypeId} {l : List UInt8} (h : Arr w g t l) (k : Nat) (b : UInt8) : Arr (w.setCell ⟨g, k, none⟩ (bv b)) g t (l.set k b) := by
  unfold Arr at h ⊢
  rw [setCell_eq_setRow w g k _ t (0, 0) _ h]
  rw [heap_setRow_same w g _ _ t h]
  simp [bvs, List.map_set]
theorem arr_frozen {w : World} {g : Nat} {t : TypeId} {l : List UInt8} (h : Arr w g t l) (k : Nat) : w.frozen? ⟨g, k, none⟩ = false := by
  unfold Arr at h
  simp [World.frozen?, h]
theorem heap_setCell_other (w : World) (p : Addr) (v : Value) (j : Nat) (h : j ≠ p.block) : (w.setCell p v).heap[j]? = w.heap[j]? := by
  exact Below.heap_setCell _ _ _ _ h
theorem size_setCell' (w : World) (p : Addr) (v : Value) : (w.setCell p v).heap.size = w.heap.size := by simp [World.setCell]
theorem pad_strip (l : List UInt8) (h : l.length = 32) : pad (strip l) = l := by
  have key : ∀ m : List UInt8, ∃ k, m = List.replicate k 0 ++ strip m := by
    intro m
    induction m with
    | nil => exact ⟨0, rfl⟩
    | cons b m ih =>
      obtain ⟨k, hk⟩ := ih
      rw [strip]
      split
      · rename_i hb
        subst hb
        exact ⟨k + 1, by rw [List.replicate_succ, List.cons_append, ← hk]⟩
      · exact ⟨0, rfl⟩
  obtain ⟨k, hk⟩ := key l
  have h2 := congrArg List.length hk
  rw [List.length_append, List.length_replicate, h] at h2
  unfold pad
  rw [show 32 - (strip l).length = k by omega, ← hk]
/-- A number's word. -/
def ofN (n : Nat) : List UInt8 := pad (be n)
theorem ofN_eq (l : List UInt8) (n : Nat) (h : l.length = 32) (hv : val l = n) : l = ofN n := by
  unfold ofN
  rw [← strip_be l n hv, pad_strip l h]
theorem results_word1 {fn : Func} {p : Tmp} (h : fn.results = #[.cell p 36]) (tmps : Array Value) (w : World) (g : Nat) (t : TypeId) (l : List UInt8)
    (hp : tmps.getD p undef = .pointer (some ⟨g, 0, none⟩)) (hg : Arr w g t l) (hs : l.length = 32) :
    (results fn tmps).run Try.prog w = .ok (arrV l) w :=
  results_cell_row h tmps w g t (bvs l).toArray (0, 0) _ hp hg Try.underlying36 rfl (arr_info l hs)
set_option maxRecDepth 20000 in
set_option maxHeartbeats 1000000 in
theorem ref_Of (n : Nat) (hn : n ≤ 9223372036854775807) (w : World) : Calls Try.prog 60 #[.int .i64 n] w (Ret (eqV (arrV (ofN n))) w) := by
  go_enter Try.func60, Try.ntmps60
  go_wp2_with first
    | (guard_target = wpList _ _ _ (Oper.mk _ (Op.alloc _) _ _ _ _ :: _) _ _; refine wpL_alloc_word (w.heap.size + 1) hs0 rfl rfl ?_; intro w1 hA1 hG1 hs1)
    | (guard_target = wpList _ _ _ (Oper.mk _ (Op.alloc _) _ _ _ _ :: _) _ _; refine wpL_alloc_word w.heap.size rfl rfl rfl ?_; intro w0 hA0 hG0 hs0)
  have HG1 := Lib.hid (hG0.out.trans hG1.out)
  have HA0 := Lib.hid (hA0.out.gr hG1.out)
  clear hA0 hG1 hG0
  go_loopw [0, 4] (fun nv i wr => ∃ (m j : Nat) (t : List UInt8), j ≤ 8 ∧ nv = .int .i64 m ∧ i = .int .i64 (31 - (j : Int)) ∧ t.length = j ∧ m ≤ n ∧ Hid (m * 256 ^ j + val t = n) ∧ Hid (Arr wr w.heap.size 36 zero32) ∧ Hid (Arr wr (w.heap.size + 1) 36 (List.replicate (32 - j) 0 ++ t)) ∧ Hid (Gr w wr)) (fun _ i _ => (intOf i).toNat)
  case atStart => exact ⟨n, 0, [], by omega, rfl, rfl, rfl, Nat.le_refl _, Lib.hid (by simp [val]), HA0, hA1, HG1⟩
  case round =>
    clear HA0 hA1 HG1
    obtain ⟨m, j, t, hj, rfl, rfl, htl, hmn, HV, HA0, HA1, HG⟩ := hrel
    by_cases h1 : j < 8
    · have hc := arr_cell HA1.out (31 - j) (by simp; omega)
      have hf := arr_frozen HA1.out (31 - j)
      have hz : (List.replicate (32 - j) (0 : UInt8) ++ t)[31 - j]'(by simp; omega) = 0 := by
        rw [List.getElem_append_left (by simp; omega), List.getElem_replicate]
      rw [hz] at hc
      have hc2 : wr.cell? ⟨w.heap.size + 1, 31 - j, none⟩ = some (.int .u8 0) := hc
      have hst := arr_setCell HA1.out (31 - j) (UInt8.ofNat m)
      rw [show 32 - j = 31 - j + 1 by omega] at hst
      have hset : (List.replicate (31 - j + 1) (0 : UInt8) ++ t).set (31 - j) (UInt8.ofNat m) = List.replicate (31 - j) 0 ++ UInt8.ofNat m :: t := set_zeros _ _ _
      rw [hset, ← bv_nat] at hst
      have HST := Lib.hid hst
      have HV2 := Lib.hid (w_step n m j t htl HV.out)
      clear hc hz hst hset
      have hlow := i64_and255 m
      go_wp2_with fail
      go_roundw
      case rel =>
        refine ⟨m / 256, j + 1, UInt8.ofNat m :: t, by omega, by go_num, by go_num, by simp [htl], by omega, HV2, ?_, ?_, ?_⟩
        · exact Lib.hid ((heap_setCell_other _ _ _ _ (by simp)).trans HA0.out)
        · rw [show 32 - (j + 1) = 31 - j by omega]
          exact HST
        · exact Lib.hid (HG.out.setCell (by simp) _)
      case measure => simp [intOf]; omega
    · obtain rfl : j = 8 := by omega
      have hm0 : m = 0 := by
        have := HV.out
        rcases Nat.eq_zero_or_pos m with h | h
        · exact h
        · have h2 : 1 * 256 ^ 8 ≤ m * 256 ^ 8 := Nat.mul_le_mul_right _ h
          omega
      subst hm0
      have HVAL : Hid (List.replicate 24 0 ++ t = ofN n) := Lib.hid (ofN_eq _ n (by simp [htl]) (by rw [val_zeros, ← HV.out]; simp))
      have HA1b : Hid (Arr wr (w.heap.size + 1) 36 (List.replicate 24 0 ++ t)) := HA1
      clear HA1 h1 HV
      go_wp2_with fail
      obtain ⟨wq, hwq⟩ : ∃ wq : World, wq = wr := ⟨_, rfl⟩
      rw [← hwq] at HA0 HA1b HG ⊢
      go_loopw [5] (fun i wr => ∃ k : Nat, k ≤ 24 ∧ i = .int .i64 k ∧ Hid (Arr wr w.heap.size 36 zero32) ∧ Hid (Arr wr (w.heap.size + 1) 36 (List.replicate 24 0 ++ t)) ∧ Hid (Gr w wr)) (fun i _ => 24 - (intOf i).toNat)
      case atStart => exact ⟨0, by omega, rfl, HA0, HA1b, HG⟩
      case round =>
        clear HA0 HA1b HG
        obtain ⟨k, hk, rfl, HA0, HA1, HG⟩ := hrel
        by_cases h2 : k < 24
        · have hc := arr_cell HA1.out k (by simp; omega)
          have hf := arr_frozen HA1.out k
          have hst := arr_setCell HA1.out k 0
          have hset : (List.replicate 24 (0 : UInt8) ++ t).set k 0 = List.replicate 24 0 ++ t := by
            rw [List.set_append_left _ _ (by simp; omega)]
            congr 1
            apply List.ext_getElem (by simp)
            intro q h3 h4
            rw [List.getElem_set]
            split
            · rw [List.getElem_replicate]
            · rfl
          rw [hset] at hst
          have HST := Lib.hid hst
          have hlow := i64_and255 0
          clear hst hset
          go_wp2_with fail
          go_roundw
          case rel =>
            exact ⟨k + 1, by omega, by go_num, Lib.hid ((heap_setCell_other _ _ _ _ (by simp)).trans HA0.out), HST, Lib.hid (HG.out.setCell (by simp) _)⟩
          case measure => simp [intOf]; omega
        · have h32 : (List.replicate 24 (0 : UInt8) ++ t).length = 32 := by simp [htl]
          go_wp2_with first
            | (guard_target = wpList _ _ _ (Oper.mk _ (Op.load _ _) _ _ _ _ :: _) _ _; refine wpList_load_row rfl 36 (.tmp 3) rfl (w.heap.size + 1) rfl 36 (bvs (List.replicate 24 (0 : UInt8) ++ t)).toArray (0, 0) _ HA1.out rfl rfl (arr_info _ h32) ?_)
            | (guard_target = wpList _ _ _ (Oper.mk _ (Op.store _ _ _) _ _ _ _ :: _) _ _; refine wpList_store_row rfl 36 (.tmp 2) (.tmp 26) rfl w.heap.size (bvs (List.replicate 24 (0 : UInt8) ++ t)).toArray rfl rfl 36 _ HA0.out (arr_info _ h32) (by rw [arr_size _ h32]; rfl) (arr_one _) ?_)
          refine bodyPost_ret (results_word1 rfl _ _ w.heap.size 36 (List.replicate 24 (0 : UInt8) ++ t) rfl (arr_setRow HA0.out) h32) rfl ⟨_, rfl, gr_setRow HG.out _ _ (Nat.le_refl _), ?_⟩
          unfold eqV
          rw [HVAL.out]
set_option maxRecDepth 20000 in
set_option maxHeartbeats 1000000 in
theorem rlp_Num (n : Int) (w : World) (h1 : -9223372036854775808 ≤ n) (h2 : n ≤ 9223372036854775807) : Calls Try.prog 41 #[.int .i64 n] w (Ret (fun v w' => ItemIn (fun k => w.heap.size ≤ k ∧ k < w'.heap.size) w' v (.mk false (be n.toNat) [])) w) := by
  have hbig : ∀ w : World, Calls Try.prog 59 #[.int .i64 n] w (Ret (fun v w' => OwnB w' w.heap.size v (be n.toNat)) w) := fun w => by
    by_cases h : 0 ≤ n
    · obtain ⟨m, rfl⟩ := Int.eq_ofNat_of_zero_le h
      exact rlp_big m w (by omega)
    · have := rlp_big_neg n w h1 (by omega)
      rw [show n.toNat = 0 by omega, be_zero]
      exact this
  go_enter Try.func41, Try.ntmps41
  go_wp2_with first
    | (go_at_call 59; refine (hbig _).mono ?_; rintro e w2 ⟨v2, rfl, hg2, ho2⟩; have HB2 := Lib.hid (ownB_P ho2); obtain ⟨A2, c2, rfl, _⟩ := own_form ho2; have HG2 := Lib.hid ((gr_alloc w _).trans hg2); have HR2 := Lib.hid ((hg2.block _ (by simp)).trans (heap_alloc_new w (.cells #[.bool false, .slice none 0 0, .slice none 0 0] 45))); clear hg2 ho2)
    | (guard_target = wpList _ _ _ (Oper.mk _ (Op.store _ _ _) _ _ _ _ :: _) _ _; refine wpList_store_row rfl 45 (.tmp 2) (.tmp 5) rfl w.heap.size _ rfl rfl 45 _ HR2.out (by kernel_rfl) rfl (by simp [Value.oneCell']) ?_)
  refine bodyPost_ret (results_item1 rfl _ _ w.heap.size _ rfl (heap_setRow_same _ _ _ _ _ HR2.out) rfl) rfl ⟨_, rfl, gr_setRow HG2.out _ _ (by omega), ?_⟩
  exact itemIn_bytes (HB2.out.mono (fun b hb => ⟨by have := hb.1; simp at this; omega, by rw [size_setRow]; have := hb.2; omega⟩) (fun p hp => cell_setRow (by have := hp.1; simp at this; omega)))
set_option maxRecDepth 20000 in
set_option maxHeartbeats 1000000 in
theorem ref_Num (n : Int) (w : World) (h1 : -9223372036854775808 ≤ n) (h2 : n ≤ 9223372036854775807) : Calls Try.prog 42 #[.int .i64 n] w (Ret (fun v w' => ItemIn (fun k => w.heap.size ≤ k ∧ k < w'.heap.size) w' v (.mk false (be n.toNat) [])) w) := by
  have hl : (ofN n.toNat).length = 32 := pad_length _ (Nat.le_trans (be_length 8 _ (by omega)) (by omega))
  have HS : Hid (strip (ofN n.toNat) = be n.toNat) := Lib.hid (strip_be _ _ (by unfold ofN pad; rw [val_zeros, val_be]))
  have HOF : Hid (∀ w : World, Calls Try.prog 60 #[.int .i64 (n.toNat : Int)] w (Ret (eqV (arrV (ofN n.toNat))) w)) := Lib.hid fun w => ref_Of _ (by omega) w
  generalize ofN n.toNat = l at hl HS HOF
  have HBG := Lib.hid (fun w => ref_Big l hl w)
  generalize be n.toNat = bn at HS ⊢
  clear hl
  by_cases h : 0 ≤ n
  · obtain ⟨m, rfl⟩ := Int.eq_ofNat_of_zero_le h
    simp only [Int.toNat_natCast] at HOF
    clear h h1
    go_enter Try.func42, Try.ntmps42
    go_wp2_with first
      | (go_at_call 60; refine (HOF.out _).mono ?_; rintro e w2 ⟨v2, rfl, hg2, rfl⟩; have HG2 := Lib.hid ((gr_alloc w _).trans hg2); have hs2 := hg2.size; have HR2 := Lib.hid ((hg2.block _ (by simp)).trans (heap_alloc_new w (.cells #[.bool false, .slice none 0 0, .slice none 0 0] 45))); clear hg2)
      | (go_at_call 44; refine (HBG.out _).mono ?_; rintro e w3 ⟨v3, rfl, hg3, hv3⟩; have HI3 := Lib.hid hv3; obtain ⟨cs3, rfl, hat3⟩ := hv3; obtain ⟨b3, A4, n4, c4, A5, n5, c5, rfl⟩ := hat3.len; have HG3 := Lib.hid (HG2.out.trans hg3); have HR3 := Lib.hid ((hg3.block _ (lt_of_some HR2.out)).trans HR2.out); clear hg3 hat3)
      | (guard_target = wpList _ _ _ (Oper.mk _ (Op.store _ _ _) _ _ _ _ :: _) _ _; refine wpList_store_row rfl 45 (.tmp 2) (.tmp 7) rfl w.heap.size _ rfl rfl 45 _ HR3.out (by kernel_rfl) rfl (by simp [Value.oneCell']) ?_)
    refine bodyPost_ret (results_item1 rfl _ _ w.heap.size _ rfl (heap_setRow_same _ _ _ _ _ HR3.out) rfl) rfl ⟨_, rfl, gr_setRow HG3.out _ _ (by omega), ?_⟩
    rw [← HS.out]
    exact HI3.out.mono (fun b hb => ⟨by have := hb.1; simp at hs2; omega, by rw [size_setRow]; have := hb.2; omega⟩) (fun p hp => cell_setRow (by have := hp.1; simp at hs2; omega))
  · have h3 : n < 0 := by omega
    have h0 : n.toNat = 0 := by omega
    rw [h0] at HOF
    clear h h0
    go_enter Try.func42, Try.ntmps42
    go_wp2_with first
      | (go_at_call 60; refine (HOF.out _).mono ?_; rintro e w2 ⟨v2, rfl, hg2, rfl⟩; have HG2 := Lib.hid ((gr_alloc w _).trans hg2); have hs2 := hg2.size; have HR2 := Lib.hid ((hg2.block _ (by simp)).trans (heap_alloc_new w (.cells #[.bool false, .slice none 0 0, .slice none 0 0] 45))); clear hg2)
      | (go_at_call 44; refine (HBG.out _).mono ?_; rintro e w3 ⟨v3, rfl, hg3, hv3⟩; have HI3 := Lib.hid hv3; obtain ⟨cs3, rfl, hat3⟩ := hv3; obtain ⟨b3, A4, n4, c4, A5, n5, c5, rfl⟩ := hat3.len; have HG3 := Lib.hid (HG2.out.trans hg3); have HR3 := Lib.hid ((hg3.block _ (lt_of_some HR2.out)).trans HR2.out); clear hg3 hat3)
      | (guard_target = wpList _ _ _ (Oper.mk _ (Op.store _ _ _) _ _ _ _ :: _) _ _; refine wpList_store_row rfl 45 (.tmp 2) (.tmp 7) rfl w.heap.size _ rfl rfl 45 _ HR3.out (by kernel_rfl) rfl (by simp [Value.oneCell']) ?_)
    refine bodyPost_ret (results_item1 rfl _ _ w.heap.size _ rfl (heap_setRow_same _ _ _ _ _ HR3.out) rfl) rfl ⟨_, rfl, gr_setRow HG3.out _ _ (by omega), ?_⟩
    rw [← HS.out]
    exact HI3.out.mono (fun b hb => ⟨by have := hb.1; simp at hs2; omega, by rw [size_setRow]; have := hb.2; omega⟩) (fun p hp => cell_setRow (by have := hp.1; simp at hs2; omega))
end Go.Proofs.Ytfpigemikpbbhaa
