/-
  The document's examples of items; what the law asks of an item's size.
  Conditions: none.
-/
import Derived.Test.YtfpigemikpbbhaaSame
import Derived.Test.YtfpigemikpbbhaaPacks
namespace Go.Proofs.Ytfpigemikpbbhaa
set_option linter.unusedVariables false
open Go.RowKit Mono Rlp

set_option maxHeartbeats 400000 in
theorem law_num (n : Int) (w : World) : Calls Try.prog 34 #[.int .i64 n] w fun e w' => e = .returned (.int .i64 n) ∧ w' = w := by
  go_enter Try.func34, Try.ntmps34
  go_wp2_with fail
  exact bodyPost_ret (results_tmp rfl _ _ _) rfl ⟨rfl, rfl⟩
theorem packV_some {B : Nat} {r : Raw} {b : List UInt8} {v : Value} {w : World} (h : packed r = some b) (hv : PackV B r v w) : ∃ vb, v = .tuple #[vb, .int .i64 0] ∧ OwnB w B vb b := by unfold PackV at hv; rw [h] at hv; exact hv
theorem packV_none {B : Nat} {r : Raw} {v : Value} {w : World} (h : packed r = none) (hv : PackV B r v w) : v = .tuple #[.slice none 0 0, .int .i64 3] := by unfold PackV at hv; rw [h] at hv; exact hv
theorem packV2_some {r : Raw} {b : List UInt8} {v : Value} {w : World} (h : packed r = some b) (hv : PackV2 r v w) : ∃ vb, v = .tuple #[vb, .int .i64 0] ∧ IsB w vb b := by unfold PackV2 at hv; rw [h] at hv; exact hv
theorem packV2_none {r : Raw} {v : Value} {w : World} (h : packed r = none) (hv : PackV2 r v w) : v = .tuple #[.slice none 0 0, .int .i64 3] := by unfold PackV2 at hv; rw [h] at hv; exact hv

set_option maxRecDepth 20000 in
set_option maxHeartbeats 1000000 in
theorem rlp_alive (w : World) : Calls Try.prog 31 #[] w (Ret (eqV (.bool true)) w) := by
  have hP1 := Lib.hid (show packed (.mk false [100, 111, 103] []) = some [131, 100, 111, 103] by decide +kernel)
  have hP2 := Lib.hid (show packed (.mk true [] []) = some [192] by decide +kernel)
  have kc := conv_const w
  go_enter Try.func31, Try.ntmps31
  go_wp2_with fail
  clear kc
  have hb := isB_block (w := w.alloc (.cells #[.int .u8 100, .int .u8 111, .int .u8 103] 5 (3, 4))) (l := [100, 111, 103]) (heap_alloc_new _ _) rfl (by simp [maxLen])
  refine (rlp_pack _ _ _ (isItem_mk hb (IsItems.nil _))).mono ?_
  rintro e w1 ⟨v1, rfl, hg1, hv1⟩
  obtain ⟨vb1, rfl, ho1⟩ := packV_some hP1.out hv1
  have HG1 := Lib.hid ((gr_alloc w _).trans hg1)
  have HO1 := Lib.hid ho1.isB
  clear hb hg1 hv1 ho1
  go_wp2_with fail
  refine (rlp_pack _ _ _ (isItem_mk (b := true) (IsB.nil w1) (IsItems.nil w1))).mono ?_
  rintro e w2 ⟨v2, rfl, hg2, hv2⟩
  obtain ⟨vb2, rfl, ho2⟩ := packV_some hP2.out hv2
  have HG2 := Lib.hid (HG1.out.trans hg2)
  have k1 := conv_bytes (HO1.out.gr hg2)
  have k2 := conv_bytes ho2.isB
  clear hg2 hv2 ho2
  go_wp2_with (go_at_call 34; refine (law_num _ _).mono ?_; rintro e w' ⟨rfl, rfl⟩)
  · refine bodyPost_ret (results_tmp rfl _ _ _) rfl ⟨_, rfl, HG2.out, ?_⟩
    refine congrArg Value.bool ?_
    rw [bs_toList]
    rfl
  · rename_i h
    exact absurd (by rw [bs_toList]) h
/-! ### RlpReads, RlpOne -/
def readE (b : List UInt8) : Nat := match readR b with | .ok _ => 0 | .error e => e
/-- The item that is told, whatever else. -/
def readX (b : List UInt8) : Raw := match readR b with | .ok x => x | .error _ => .mk false [] []
theorem readV_both {B : Nat} {b : List UInt8} {v : Value} {w : World} (h : ReadRV B b v w) : ∃ vi, v = .tuple #[vi, .int .i64 (readE b : Int)] ∧ ItemIn (fun k => B ≤ k ∧ k < w.heap.size) w vi (readX b) := by
  unfold ReadRV at h
  unfold readE readX
  cases hr : readR b with
  | ok x => rw [hr] at h; exact h
  | error e =>
    rw [hr] at h
    refine ⟨zItem, h, itemIn_bytes (l := []) ⟨none, 0, rfl, Nat.le_refl _, by simp [maxLen], fun hn => absurd rfl hn⟩⟩
theorem same_any (x y : Raw) (v1 v2 : Value) (w : World) (hx : IsItem w v1 x) (hy : IsItem w v2 y) : Calls Try.prog 40 #[v1, v2] w (Ret (eqV (.bool (sameR x y))) w) := same_item _ x y v1 v2 w (Nat.lt_succ_self _) hx hy

set_option maxRecDepth 20000 in
set_option maxHeartbeats 2000000 in
theorem reads_small (v : Value) (b : List UInt8) (w : World) (h : IsB w v b) (hl : b.length ≤ 5000) : Calls Try.prog 12 #[v] w (Ret (eqV (.bool true)) w) := by
  have h0 := h
  obtain ⟨A, cp, rfl, hc1, hc2, hr⟩ := h
  have H := Lib.hid h0
  have HR := Lib.hid hr
  unfold maxLen at hc2
  clear h0 hr
  go_enter Try.func12, Try.ntmps12
  go_wp2_with fail
  refine (rlp_alive _).mono ?_
  rintro e w1 ⟨_, rfl, hg1, rfl⟩
  have HR1 := Lib.hid (HR.out.gr hg1)
  have HG1 := Lib.hid hg1
  have hs1 := hg1.size
  clear hg1
  go_wp2_with (at_builtin; refine wpL_append (.const (.slice none 0 0)) (.tmp 18) 22 slT_bytes (base := w.heap.size) _ 0 [] _ b.length _ _ (bvs b) rfl rfl rfl rfl (OwnB.nil _ _) HR1.out (by simp [bvs]) (bvs_one _) (by simp only [maxLen]; omega) (by omega) hs1 ?_; intro A2 c2 w2 hown2 hg2 _; rw [Nat.zero_add, List.nil_append] at hown2; rw [Nat.zero_add]; have hgg : Gr w w2 := HG1.out.grown hg2 hs1 (fun j hj => by cases hj); have HO2 : Hid (IsB w2 (.slice A2 b.length c2) b) := Lib.hid (OwnB.isB (base := w.heap.size) hown2); have HG2 := Lib.hid hgg; clear hown2 hg2 hgg)
  refine (rlp_Read _ b _ HO2.out).mono ?_
  rintro e w3 ⟨v3, rfl, hg3, hv3⟩
  obtain ⟨vi3, rfl, hi3⟩ := readV_both hv3
  have hi3' := hi3.is fun k hk => hk.2
  obtain ⟨cs3, rfl, hat3⟩ := hi3
  obtain ⟨f3, A3, n3, c3, A4, n4, c4, rfl⟩ := hat3.len
  have HI3 := Lib.hid hi3'
  have HG3 := Lib.hid (HG2.out.trans hg3)
  clear hg3 hv3 hi3' hat3
  go_wp2_with fail
  refine (ref_Read _ b _ (H.out.gr (HG3.out.trans (gr_alloc _ _)))).mono ?_
  rintro e w4 ⟨v4, rfl, hg4, hv4⟩
  obtain ⟨vi4, rfl, hi4⟩ := readV_both hv4
  have hi4' := hi4.is fun k hk => hk.2
  obtain ⟨cs4, rfl, hat4⟩ := hi4
  obtain ⟨f4, A5, n5, c5, A6, n6, c6, rfl⟩ := hat4.len
  have HI4 := Lib.hid (hi4'.gr (gr_alloc w4 (.cells #[.bool f4, .slice A5 n5 c5, .slice A6 n6 c6] 45)))
  have HI3' := Lib.hid (((HI3.out.gr (gr_alloc _ _)).gr hg4).gr (gr_alloc w4 (.cells #[.bool f4, .slice A5 n5 c5, .slice A6 n6 c6] 45)))
  have HG4 := Lib.hid (((HG3.out.trans (gr_alloc _ _)).trans hg4).trans (gr_alloc w4 (.cells #[.bool f4, .slice A5 n5 c5, .slice A6 n6 c6] 45)))
  have hs4 := hg4.size
  simp only [size_new] at hs4
  have hb3 : (w4.alloc (.cells #[.bool f4, .slice A5 n5 c5, .slice A6 n6 c6] 45)).heap[w3.heap.size]? = some (.cells #[.bool f3, .slice A3 n3 c3, .slice A4 n4 c4] 45 (0, 0)) := (heap_old _ _ _ (by omega)).trans ((hg4.block _ (by simp)).trans (heap_alloc_new w3 _))
  have q0 : (w4.alloc (.cells #[.bool f4, .slice A5 n5 c5, .slice A6 n6 c6] 45)).cell? ⟨w3.heap.size, 0, none⟩ = some (.bool f3) := by rw [cell_of_row _ _ _ _ _ (0, 0) hb3]; rfl
  have q1 : (w4.alloc (.cells #[.bool f4, .slice A5 n5 c5, .slice A6 n6 c6] 45)).cell? ⟨w3.heap.size, 1, none⟩ = some (.slice A3 n3 c3) := by rw [cell_of_row _ _ _ _ _ (0, 0) hb3]; rfl
  have q2 : (w4.alloc (.cells #[.bool f4, .slice A5 n5 c5, .slice A6 n6 c6] 45)).cell? ⟨w3.heap.size, 2, none⟩ = some (.slice A4 n4 c4) := by rw [cell_of_row _ _ _ _ _ (0, 0) hb3]; rfl
  clear hg4 hv4 hi4' hat4 hb3 HI3 HR1 HG1 HG2 HG3
  generalize readE b = ee
  go_wp2_with (go_at_call 34; refine (law_num _ _).mono ?_; rintro e w' ⟨rfl, rfl⟩)
  refine (same_any _ _ _ _ _ HI3'.out HI4.out).mono ?_
  rintro e w5 ⟨_, rfl, hg5, rfl⟩
  have HG5 := Lib.hid (HG4.out.trans hg5)
  have hse := same_self (readX b)
  clear hg5 q0 q1 q2 HI3' HI4 HG4
  rw [hse]
  clear hse
  go_wp2_with fail
  refine bodyPost_ret (results_tmp rfl _ _ _) rfl ⟨_, rfl, HG5.out, ?_⟩
  simp [eqV]
/-- RlpReads. -/
theorem reads_all (v : Value) (b : List UInt8) (w : World) (h : IsB w v b) : Calls Try.prog 12 #[v] w (Ret (eqV (.bool true)) w) := by
  by_cases hl : b.length ≤ 5000
  · exact reads_small v b w h hl
  · obtain ⟨A, cp, rfl, hc1, hc2, hr⟩ := h
    unfold maxLen at hc2
    have h2 : 5000 < b.length := by omega
    clear hl hr
    go_enter Try.func12, Try.ntmps12
    go_wp2_with fail
    refine (rlp_alive _).mono ?_
    rintro e w1 ⟨_, rfl, hg1, rfl⟩
    go_wp2_with fail
    refine bodyPost_ret (results_tmp rfl _ _ _) rfl ?_
    exact ⟨_, rfl, hg1, rfl⟩
end Go.Proofs.Ytfpigemikpbbhaa
