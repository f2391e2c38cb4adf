/-
  RlpOne: no two lists of bytes are read as one item.
  Conditions: none.
-/
import Derived.Test.YtfpigemikpbbhaaRlpAlive
namespace Go.Proofs.Ytfpigemikpbbhaa
set_option linter.unusedVariables false
open Go.RowKit Mono Rlp

theorem xor_u8 (x y : UInt8) : bits .xor .u8 (x.toNat : Int) (y.toNat : Int) = ((x ^^^ y).toNat : Int) := by
  rw [u8_xor_nat _ _ x.toNat_lt y.toNat_lt]
  simp
theorem readE_zero {b : List UInt8} (h : readE b = 0) : readR b = .ok (readX b) := by
  unfold readE at h
  unfold readX
  cases hr : readR b with
  | ok x => rfl
  | error e =>
    rw [hr] at h
    dsimp only at h
    have := readR_err hr
    omega
theorem xor_ne (x y : UInt8) (h : y ≠ 0) : x ^^^ y ≠ x := by
  intro e
  apply h
  have h1 : x ^^^ (x ^^^ y) = x ^^^ x := congrArg (fun z => x ^^^ z) e
  rw [← UInt8.xor_assoc, UInt8.xor_self, UInt8.zero_xor] at h1
  exact h1

set_option maxRecDepth 20000 in
set_option maxHeartbeats 4000000 in
theorem one_small (v : Value) (b : List UInt8) (at_ : Nat) (by_ : UInt8) (w : World) (h : IsB w v b) (h1 : 1 ≤ b.length) (h2 : b.length ≤ 2000) (h3 : at_ ≤ 9223372036854775807) (h4 : by_ ≠ 0) :
    Calls Try.prog 13 #[v, .int .i64 at_, .int .u8 by_.toNat] w (Ret (eqV (.bool true)) w) := by
  have HV := Lib.hid h
  obtain ⟨A, c, rfl, hc1, hc2, hr⟩ := h
  unfold maxLen at hc2
  have HR := Lib.hid hr
  have hby := bv_lt by_
  have hby0 : 0 < by_.toNat := by
    rcases Nat.eq_zero_or_pos by_.toNat with h0 | h0
    · exact absurd (UInt8.toNat_inj.1 (by rw [h0]; rfl)) h4
    · exact h0
  have H4 := Lib.hid h4
  clear hr h4
  have d1 : decide ((b.length : Int) < 1) = false := by simp; omega
  have d2 : decide ((2000 : Int) < (b.length : Int)) = false := by simp; omega
  have d3 : decide ((at_ : Int) < 0) = false := by simp
  have d4 : ((by_.toNat : Int) == 0) = false := by simp; omega
  go_enter Try.func13, Try.ntmps13
  go_wp2_with fail
  refine (rlp_alive _).mono ?_
  rintro e w1 ⟨_, rfl, hg1, rfl⟩
  have HG1 := Lib.hid hg1
  have hs1 := hg1.size
  clear hg1
  have hkl : at_ % b.length < b.length := Nat.mod_lt _ (by omega)
  have hxl := bv_lt b[at_ % b.length]
  have HR1 := Lib.hid ((HR.out.gr HG1.out))
  go_wp2_with (at_builtin; refine wpL_append (.const (.slice none 0 0)) (.tmp 35) 22 slT_bytes (base := w.heap.size) _ 0 [] _ b.length _ w1.heap.size (bvs b) rfl rfl rfl rfl (OwnB.nil _ _) HR1.out (by simp [bvs]) (bvs_one _) (by simp only [maxLen]; omega) (by simp; omega) (by omega) ?_; intro A2 c2 w2 hown2 hg2 _; simp only [Nat.zero_add, List.nil_append] at hown2; have hg3 : Gr w w2 := HG1.out.grown hg2 (by omega) (fun j hj => by cases hj); have HO2 := Lib.hid hown2; have HG2 := Lib.hid hg3; clear hown2 hg2 hg3 HG1; rw [Nat.zero_add]; obtain ⟨g, rfl, hgb, hgl⟩ := own_some HO2.out (by omega); have e1 := HO2.out.cellAt (at_ % b.length) (by omega); rw [bvs_at b _ hkl] at e1; unfold bv at e1)
  have p1 := later_cell (w := w2) (p := ⟨g, at_ % b.length, none⟩) hgl e1
  refine wp_region_N 15 (by kernel_rfl) (by kernel_rfl) (by kernel_rfl) ?_
  simp only [List.take_succ_cons, List.take_zero, List.drop_succ_cons, List.drop_zero]
  refine wpN_quiet 15 (by kernel_rfl) ?_
  simp only [List.take_succ_cons, List.take_zero, List.drop_succ_cons, List.drop_zero]
  repeat (go_big_quiet_step (fail))
  refine wpQuiet_nil ?_
  refine wpN_nil (by kernel_rfl) ?_
  intro W hW
  replace hW := hW.gr
  unfold finN
  have HOW := Lib.hid (own_gr HO2.out hW)
  have f1 := HOW.out.cellAt (at_ % b.length) (by omega)
  rw [bvs_at b _ hkl] at f1
  unfold bv at f1
  have f2 := HOW.out.frozenAt (at_ % b.length)
  have HGW := Lib.hid (HG2.out.trans hW)
  clear p1 e1 HO2 HG2
  go_wp2_with fail
  obtain ⟨m, hm⟩ : ∃ m : List UInt8, m = b.set (at_ % b.length) (b[at_ % b.length] ^^^ by_) := ⟨_, rfl⟩
  have hml : m.length = b.length := by rw [hm, List.length_set]
  obtain ⟨w3, hw3⟩ : ∃ w3 : World, w3 = W.setCell ⟨g, at_ % b.length, none⟩ (.int .u8 (bits .xor .u8 (b[at_ % b.length].toNat : Int) (by_.toNat : Int))) := ⟨_, rfl⟩
  have hst := HOW.out.stored (at_ % b.length) (bv (b[at_ % b.length] ^^^ by_))
  have hg3 : Gr w w3 := by rw [hw3]; exact HGW.out.setCell hgb _
  have hc3 : IsB w3 (.slice (some ⟨g, 0, none⟩) b.length c2) m := by
    have h1 := hst.1
    rw [bvs_set, ← hm] at h1
    have h2 : OwnB (W.setCell ⟨g, at_ % b.length, none⟩ (bv (b[at_ % b.length] ^^^ by_))) w.heap.size (.slice (some ⟨g, 0, none⟩) b.length c2) m := by
      unfold OwnB
      rw [hml]
      exact h1
    have h3 := h2.isB
    unfold bv at h3
    rw [hw3, xor_u8]
    exact h3
  have hne : m ≠ b := fun e => by
    have h5 : m[at_ % b.length]? = some (b[at_ % b.length] ^^^ by_) := by rw [hm, List.getElem?_set]; simp [hkl]
    rw [e, List.getElem?_eq_getElem hkl] at h5
    exact xor_ne _ _ H4.out (Option.some.inj h5).symm
  rw [← hw3]
  have HNE := Lib.hid hne
  have HC3 := Lib.hid hc3
  have HG3 := Lib.hid hg3
  clear hst hg3 hc3 hm hw3 f1 f2 HOW HGW d1 d2 d3 d4 HR1 hne H4
  refine (rlp_Read _ b _ (HV.out.gr HG3.out)).mono ?_
  rintro e w4 ⟨v4, rfl, hg4, hv4⟩
  obtain ⟨vi4, rfl, hi4⟩ := readV_both hv4
  have hi4' := hi4.is fun k hk => hk.2
  obtain ⟨cs4, rfl, hat4⟩ := hi4
  obtain ⟨f4, A5, n5, c5, A6, n6, c6, rfl⟩ := hat4.len
  have HI4 := Lib.hid (hi4'.gr (gr_alloc w4 (.cells #[.bool f4, .slice A5 n5 c5, .slice A6 n6 c6] 45)))
  have HG4 := Lib.hid ((HG3.out.trans hg4).trans (gr_alloc w4 (.cells #[.bool f4, .slice A5 n5 c5, .slice A6 n6 c6] 45)))
  have HC4 := Lib.hid ((HC3.out.gr hg4).gr (gr_alloc w4 (.cells #[.bool f4, .slice A5 n5 c5, .slice A6 n6 c6] 45)))
  clear hg4 hv4 hi4' hat4 HC3
  go_wp2_with fail
  refine (rlp_Read _ m _ HC4.out).mono ?_
  rintro e w5 ⟨v5, rfl, hg5, hv5⟩
  obtain ⟨vi5, rfl, hi5⟩ := readV_both hv5
  have hi5' := hi5.is fun k hk => hk.2
  obtain ⟨cs5, rfl, hat5⟩ := hi5
  obtain ⟨f5, A7, n7, c7, A8, n8, c8, rfl⟩ := hat5.len
  have HI5 := Lib.hid (hi5'.gr (gr_alloc w5 (.cells #[.bool f5, .slice A7 n7 c7, .slice A8 n8 c8] 45)))
  have HI4' := Lib.hid ((HI4.out.gr hg5).gr (gr_alloc w5 (.cells #[.bool f5, .slice A7 n7 c7, .slice A8 n8 c8] 45)))
  have HG5 := Lib.hid ((HG4.out.trans hg5).trans (gr_alloc w5 (.cells #[.bool f5, .slice A7 n7 c7, .slice A8 n8 c8] 45)))
  have hs5 := hg5.size
  simp only [size_new] at hs5
  have hb4 : (w5.alloc (.cells #[.bool f5, .slice A7 n7 c7, .slice A8 n8 c8] 45)).heap[w4.heap.size]? = some (.cells #[.bool f4, .slice A5 n5 c5, .slice A6 n6 c6] 45 (0, 0)) := (heap_old _ _ _ (by omega)).trans ((hg5.block _ (by simp)).trans (heap_alloc_new w4 _))
  have q0 : (w5.alloc (.cells #[.bool f5, .slice A7 n7 c7, .slice A8 n8 c8] 45)).cell? ⟨w4.heap.size, 0, none⟩ = some (.bool f4) := by rw [cell_of_row _ _ _ _ _ (0, 0) hb4]; rfl
  have q1 : (w5.alloc (.cells #[.bool f5, .slice A7 n7 c7, .slice A8 n8 c8] 45)).cell? ⟨w4.heap.size, 1, none⟩ = some (.slice A5 n5 c5) := by rw [cell_of_row _ _ _ _ _ (0, 0) hb4]; rfl
  have q2 : (w5.alloc (.cells #[.bool f5, .slice A7 n7 c7, .slice A8 n8 c8] 45)).cell? ⟨w4.heap.size, 2, none⟩ = some (.slice A6 n6 c6) := by rw [cell_of_row _ _ _ _ _ (0, 0) hb4]; rfl
  clear hg5 hv5 hi5' hat5 hb4 HI4 HG4 HC4
  by_cases g1 : readE b = 0
  · by_cases g2 : readE m = 0
    · have hsf : sameR (readX b) (readX m) = false := by
        cases hs : sameR (readX b) (readX m) with
        | false => rfl
        | true =>
          have e1 := readR_E (readE_zero g1)
          have e2 := readR_E (readE_zero g2)
          exact absurd (by rw [e2, ← same_E _ _ hs, ← e1]) HNE.out
      have HSF := Lib.hid hsf
      rw [g1, g2]
      clear hsf g1 g2
      go_wp2_with (go_at_call 34; refine (law_num _ _).mono ?_; rintro e w' ⟨rfl, rfl⟩)
      refine (same_any _ _ _ _ _ HI4'.out HI5.out).mono ?_
      rintro e w6 ⟨_, rfl, hg6, rfl⟩
      have HG6 := Lib.hid (HG5.out.trans hg6)
      rw [HSF.out]
      clear hg6 q0 q1 q2 HI4' HI5
      go_wp2_with fail
      refine bodyPost_ret (results_tmp rfl _ _ _) rfl ⟨_, rfl, HG6.out, ?_⟩
      simp [eqV]
    · have g3 : ((readE m : Int) != 0) = true := by simp; omega
      rw [g1]
      clear g1
      generalize readE m = ee at g2 g3 ⊢
      go_wp2_with (go_at_call 34; refine (law_num _ _).mono ?_; rintro e w' ⟨rfl, rfl⟩)
      refine bodyPost_ret (results_tmp rfl _ _ _) rfl ⟨_, rfl, HG5.out, ?_⟩
      simp [eqV]
  · have g3 : ((readE b : Int) != 0) = true := by simp; omega
    generalize readE b = ee at g1 g3 ⊢
    go_wp2_with (go_at_call 34; refine (law_num _ _).mono ?_; rintro e w' ⟨rfl, rfl⟩)
    refine bodyPost_ret (results_tmp rfl _ _ _) rfl ⟨_, rfl, HG5.out, ?_⟩
    simp [eqV]

set_option maxHeartbeats 400000 in
theorem one_out (v : Value) (l : List UInt8) (at_ by_ : Int) (w : World) (h : IsB w v l) (ha0 : -9223372036854775808 ≤ at_) (ha1 : at_ ≤ 9223372036854775807) (hb0 : 0 ≤ by_) (hb1 : by_ ≤ 255)
    (hout : l.length < 1 ∨ 2000 < l.length ∨ at_ < 0 ∨ by_ = 0) : Calls Try.prog 13 #[v, .int .i64 at_, .int .u8 by_] w (Ret (eqV (.bool true)) w) := by
  obtain ⟨A, c, rfl, hc1, hc2, _⟩ := h
  unfold maxLen at hc2
  by_cases c1 : l.length < 1
  · clear hout
    go_enter Try.func13, Try.ntmps13
    go_wp2_with fail
    refine (rlp_alive _).mono ?_
    rintro e w1 ⟨_, rfl, hg1, rfl⟩
    go_wp2_with fail
    refine bodyPost_ret (results_tmp rfl _ _ _) rfl ?_
    exact ⟨_, rfl, hg1, rfl⟩
  by_cases c2 : 2000 < l.length
  · have c1' : 1 ≤ l.length := by omega
    clear hout c1
    go_enter Try.func13, Try.ntmps13
    go_wp2_with fail
    refine (rlp_alive _).mono ?_
    rintro e w1 ⟨_, rfl, hg1, rfl⟩
    go_wp2_with fail
    refine bodyPost_ret (results_tmp rfl _ _ _) rfl ?_
    exact ⟨_, rfl, hg1, rfl⟩
  by_cases c3 : at_ < 0
  · have c1' : 1 ≤ l.length := by omega
    have c2' : l.length ≤ 2000 := by omega
    clear hout c1 c2
    go_enter Try.func13, Try.ntmps13
    go_wp2_with fail
    refine (rlp_alive _).mono ?_
    rintro e w1 ⟨_, rfl, hg1, rfl⟩
    go_wp2_with fail
    refine bodyPost_ret (results_tmp rfl _ _ _) rfl ?_
    exact ⟨_, rfl, hg1, rfl⟩
  · have c4 : by_ = 0 := by omega
    have c1' : 1 ≤ l.length := by omega
    have c2' : l.length ≤ 2000 := by omega
    have c3' : 0 ≤ at_ := by omega
    clear hout c1 c2 c3 hb0 hb1
    subst c4
    go_enter Try.func13, Try.ntmps13
    go_wp2_with fail
    refine (rlp_alive _).mono ?_
    rintro e w1 ⟨_, rfl, hg1, rfl⟩
    go_wp2_with fail
    refine bodyPost_ret (results_tmp rfl _ _ _) rfl ?_
    exact ⟨_, rfl, hg1, rfl⟩
/-- RlpOne. -/
theorem one_all (v : Value) (l : List UInt8) (at_ by_ : Int) (w : World) (h : IsB w v l) (ha0 : -9223372036854775808 ≤ at_) (ha1 : at_ ≤ 9223372036854775807) (hb0 : 0 ≤ by_) (hb1 : by_ ≤ 255) :
    Calls Try.prog 13 #[v, .int .i64 at_, .int .u8 by_] w (Ret (eqV (.bool true)) w) := by
  by_cases hout : l.length < 1 ∨ 2000 < l.length ∨ at_ < 0 ∨ by_ = 0
  · exact one_out v l at_ by_ w h ha0 ha1 hb0 hb1 hout
  · have hb : ((UInt8.ofNat by_.toNat).toNat : Int) = by_ := by
      rw [UInt8.toNat_ofNat']
      omega
    have := one_small v l at_.toNat (UInt8.ofNat by_.toNat) w h (by omega) (by omega) (by omega) (fun e => by
      rw [e] at hb
      have : (0 : Int) = by_ := hb
      omega)
    rw [hb, Int.toNat_of_nonneg (by omega)] at this
    exact this
end Go.Proofs.Ytfpigemikpbbhaa
