/-
  The reference: how deep an item is, heads, its bytes.
  Conditions: none.
-/
import Derived.Test.YtfpigemikpbbhaaRlpWrite
import Derived.Laws.BitsAllLaws
namespace Go.Proofs.Ytfpigemikpbbhaa
open Go.RowKit Mono Rlp

theorem maxD_lt : ∀ (xs : List Raw) (m n k : Nat), n ≤ k → (∀ x ∈ xs, deepR x m ≤ k) → maxD xs m n ≤ k := fun xs m n k h1 h2 => (maxD_le xs m n k).2 ⟨h1, h2⟩
theorem deepR_le : ∀ (m : Nat) (r : Raw), deepR r m ≤ m + 1
  | m, .mk false bs xs => by rw [deepR]; omega
  | 0, .mk true bs xs => by rw [deepR]; omega
  | m + 1, .mk true bs xs => by
    rw [deepR]
    have := maxD_lt xs m 0 (m + 1) (by omega) fun x _ => deepR_le m x
    omega

set_option maxHeartbeats 4000000 in
set_option maxRecDepth 20000 in
theorem ref_deep : ∀ (m : Nat) (r : Raw) (v : Value) (w : World), m ≤ 32 → IsItem w v r → Calls Try.prog 35 #[v, .int .i64 m] w (Ret (eqV (.int .i64 (deepR r m))) w)
  | m, .mk false bs xs, v, w, hm, h => by
    obtain ⟨vb, vl, rfl, _, _⟩ := isItem_form h
    clear h
    have hd := Lib.hid (show deepR (.mk false bs xs) m = 0 by rw [deepR])
    go_enter Try.func35, Try.ntmps35
    go_wp2_with fail
    refine bodyPost_ret (results_tmp rfl _ _ _) rfl ?_
    exact ⟨_, rfl, gr_alloc w _, by rw [hd.out]; rfl⟩
  | 0, .mk true bs xs, v, w, hm, h => by
    obtain ⟨vb, vl, rfl, _, _⟩ := isItem_form h
    clear h
    have hd := Lib.hid (show deepR (.mk true bs xs) 0 = 1 by rw [deepR])
    go_enter Try.func35, Try.ntmps35
    go_wp2_with fail
    refine bodyPost_ret (results_tmp rfl _ _ _) rfl ?_
    exact ⟨_, rfl, gr_alloc w _, by rw [hd.out]; rfl⟩
  | m + 1, .mk true bs xs, v, w, hm, h => by
    have ih := Lib.hid (ref_deep m)
    obtain ⟨vb, vl, rfl, _, A, c, rows, rfl, hc1, hc2, _, hr, hi⟩ := isItem_form h
    have HR := Lib.hid hr
    have HI := Lib.hid hi
    have hd := Lib.hid (show deepR (.mk true bs xs) (m + 1) = maxD xs m 0 + 1 by rw [deepR])
    have hdm : (((m : Int) + 1) == 0) = false := by simp; omega
    rw [show ((m + 1 : Nat) : Int) = (m : Int) + 1 from rfl]
    unfold maxLen at hc2
    clear h hr hi
    go_enter Try.func35, Try.ntmps35
    go_wp2_with fail
    go_loopw [5, 6] (fun nv i wr => ∃ k n : Nat, k ≤ xs.length ∧ i = .int .i64 k ∧ nv = .int .i64 n ∧ n ≤ 33 ∧ maxD xs m 0 = maxD (xs.drop k) m n ∧ Gr (w.alloc (.cells #[.bool true, vb, .slice A xs.length c] 45)) wr) (fun _ i _ => xs.length - (intOf i).toNat)
    case atStart => exact ⟨0, 0, by omega, rfl, rfl, by omega, rfl, Gr.refl _⟩
    case round =>
      obtain ⟨k, n, hk, rfl, rfl, hn, hM, hb⟩ := hrel
      have HM := Lib.hid hM
      have HB := Lib.hid hb
      have hbs := hb.size
      have hcl := hb.cell (p := ⟨w.heap.size, 2, none⟩) (by simp)
      have hcl2 : (w.alloc (.cells #[.bool true, vb, .slice A xs.length c] 45)).cell? ⟨w.heap.size, 2, none⟩ = some (.slice A xs.length c) := by rw [cell_of_row _ _ _ _ _ (0, 0) (heap_alloc_new w _)]; rfl
      rw [hcl2] at hcl
      clear hM hb hcl2
      by_cases h1 : k < xs.length
      · obtain ⟨bl, o, f, vb', vl, rfl, hbl, e1, e2, e3, hx, ⟨A2, n2, c2, rfl⟩, A', n', c', rfl⟩ := items_at HR.out HI.out k h1
        have e1' := (((gr_alloc w _).trans HB.out).cell (p := ⟨bl, o + k * 3, none⟩) hbl).trans e1
        have e2' := (((gr_alloc w _).trans HB.out).cell (p := ⟨bl, o + k * 3 + 1, none⟩) hbl).trans e2
        have e3' := (((gr_alloc w _).trans HB.out).cell (p := ⟨bl, o + k * 3 + 2, none⟩) hbl).trans e3
        have HX := Lib.hid (hx.gr ((gr_alloc w _).trans HB.out))
        have hdk : xs.drop k = xs[k] :: xs.drop (k + 1) := List.drop_eq_getElem_cons h1
        have hdl := deepR_le m xs[k]
        have HM2 := Lib.hid (show maxD xs m 0 = maxD (xs.drop (k + 1)) m (if deepR xs[k] m > n then deepR xs[k] m else n) by rw [HM.out, hdk, maxD])
        clear e1 e2 e3 hx hdk HM
        go_wp2_with fail
        refine (ih.out xs[k] _ _ (by omega) HX.out).mono ?_
        rintro e w1 ⟨_, rfl, hg1, rfl⟩
        have HG1 := Lib.hid (HB.out.trans hg1)
        clear hg1 e1' e2' e3' hcl
        by_cases h3 : deepR xs[k] m > n
        · have HM3 := Lib.hid (show maxD xs m 0 = maxD (xs.drop (k + 1)) m (deepR xs[k] m) by rw [HM2.out, if_pos h3])
          clear HM2
          go_wp2_with fail
          go_roundw
          case rel => exact ⟨k + 1, _, by omega, by go_num, rfl, by omega, HM3.out, HG1.out⟩
          case measure => simp [intOf]; omega
        · have HM3 := Lib.hid (show maxD xs m 0 = maxD (xs.drop (k + 1)) m n by rw [HM2.out, if_neg h3])
          clear HM2
          go_wp2_with fail
          go_roundw
          case rel => exact ⟨k + 1, _, by omega, by go_num, rfl, by omega, HM3.out, HG1.out⟩
          case measure => simp [intOf]; omega
      · have h2 : xs.length ≤ k := by omega
        have HM2 := Lib.hid (show deepR (.mk true bs xs) (m + 1) = n + 1 by rw [hd.out, HM.out, List.drop_eq_nil_of_le h2, maxD])
        clear h1 HM
        go_wp2_with fail
        refine bodyPost_ret (results_tmp rfl _ _ _) rfl ?_
        refine ⟨_, rfl, (gr_alloc w _).trans HB.out, ?_⟩
        rw [HM2.out]
        rfl

theorem i64_and255 (n : Int) : bits .and .i64 n 255 = n % 256 := by
  have h255 : (BitVec.ofInt 64 255).toNat = 2 ^ 8 - 1 := by decide
  have key : (BitVec.ofInt 64 n &&& BitVec.ofInt 64 255).toNat = (n % ((2 ^ 64 : Nat) : Int)).toNat % 2 ^ 8 := by
    rw [BitVec.toNat_and, BitVec.toNat_ofInt, h255, Nat.and_two_pow_sub_one_eq_mod]
  show IntKind.i64.wrap ((BitVec.ofInt 64 n &&& BitVec.ofInt 64 255).toNat : Nat) = n % 256
  rw [key, IntKind.wrap_i64]
  omega
theorem i64_and63 (n : Int) : bits .and .i64 n 63 = n % 64 := by
  have h63 : (BitVec.ofInt 64 63).toNat = 2 ^ 6 - 1 := by decide
  have key : (BitVec.ofInt 64 n &&& BitVec.ofInt 64 63).toNat = (n % ((2 ^ 64 : Nat) : Int)).toNat % 2 ^ 6 := by
    rw [BitVec.toNat_and, BitVec.toNat_ofInt, h63, Nat.and_two_pow_sub_one_eq_mod]
  show IntKind.i64.wrap ((BitVec.ofInt 64 n &&& BitVec.ofInt 64 63).toNat : Nat) = n % 64
  rw [key, IntKind.wrap_i64]
  omega
set_option maxHeartbeats 1000000 in
theorem ref_head (n base : Nat) (w : World) (hn : n ≤ 9223372036854775807) (hb : base ≤ 192) : Calls Try.prog 75 #[.int .i64 n, .int .i64 base] w (Ret (fun v w' => OwnB w' w.heap.size v (head n base)) w) := by
  have hlen := le_length 8 n (by omega)
  by_cases h56 : n < 56
  · have hs := Lib.hid (show head n base = [UInt8.ofNat (base + n)] from if_pos h56)
    clear hlen
    go_enter Try.func75, Try.ntmps75
    go_wp2
    refine bodyPost_ret (results_tmp rfl _ _ _) rfl ?_
    refine ⟨_, rfl, gr_alloc w _, ?_⟩
    rw [hs.out]
    have := own_lit w #[.int .u8 ((base : Int) + (n : Int))] 5 1 1 w.heap.size w.heap.size rfl (Nat.le_refl _) (by simp [maxLen]) rfl
    refine ownB_of this ?_
    rw [← Int.natCast_add, bv_small _ (by omega)]
    rfl
  · have hs := Lib.hid (show head n base = UInt8.ofNat (base + 55 + (be n).length) :: be n from if_neg h56)
    have h57 : 55 < n := by omega
    clear h56
    go_enter Try.func75, Try.ntmps75
    go_wp2
    go_loopw [5, 6] (fun v i wr => ∃ (m : Nat) (acc : List UInt8), m ≤ n ∧ i = .int .i64 m ∧ acc.reverse ++ le m = le n ∧ acc.length ≤ 8 ∧ OwnB wr w.heap.size v acc ∧ Below w.heap.size w wr) (fun _ i _ => (intOf i).toNat)
    case atStart => exact ⟨n, [], Nat.le_refl _, rfl, rfl, by simp, OwnB.nil _ _, Below.refl _ _⟩
    case round =>
      obtain ⟨m, acc, hm, rfl, hacc, hal, hown, hb⟩ := hrel
      obtain ⟨A', c', rfl, hc1, hc2⟩ := own_form hown
      obtain ⟨_, _, he, _, _, hrd⟩ := OwnB.isB hown
      injection he with he1 _ he2
      subst he1 he2
      have hbs := hb.size
      have HO := Lib.hid hown
      have HB := Lib.hid hb
      have HA := Lib.hid hacc
      have HRD := Lib.hid hrd
      clear hown hb hacc hrd
      unfold maxLen at hc2
      by_cases h1 : 0 < m
      · have hle := Lib.hid (le_pos m h1)
        have hal2 : acc.length + 1 ≤ 8 := by
          have h2 := congrArg List.length HA.out
          rw [hle.out, List.length_append, List.length_cons, List.length_reverse] at h2
          omega
        have hlow := i64_and255 m
        go_wp2_with (at_builtin; refine wpL_append (.tmp 22) (.tmp 23) 22 slT_bytes (base := w.heap.size) _ 1 [.int .u8 ((m : Int) % 256)] _ acc.length _ _ (bvs acc) rfl rfl rfl rfl (own_lit wr #[.int .u8 ((m : Int) % 256)] 5 1 1 wr.heap.size w.heap.size rfl hbs (by simp [maxLen]) rfl) (HRD.out.below ((Below.refl _ _).alloc (Nat.le_refl _) _)) (by simp [bvs]) (bvs_one _) (by simp only [maxLen]; omega) (by omega) (by simp; omega) ?_; intro A2 c2 w2 hown2 hg2 _)
        go_roundw
        case rel =>
          refine ⟨m / 256, UInt8.ofNat m :: acc, by omega, by go_num, ?_, by simp; omega, ?_, (HB.out.alloc hbs _).grown hg2 (by simp; omega) fun j hj => by cases hj; exact hbs⟩
          · rw [List.reverse_cons, List.append_assoc, List.singleton_append, ← hle.out, HA.out]
          · rw [bv_nat] at hown2
            exact ownB_of hown2 rfl
        case measure => simp [intOf]; omega
      · have HE : Hid (acc = be n) := by
          refine Lib.hid ?_
          have h2 := HA.out
          rw [show m = 0 by omega, le_zero, List.append_nil] at h2
          unfold be
          rw [← h2, List.reverse_reverse]
        clear HA
        go_wp2_with (at_builtin; refine wpL_append (.tmp 31) (.tmp 32) 22 slT_bytes (base := w.heap.size) _ 1 [.int .u8 ((base : Int) + 55 + (acc.length : Int))] _ acc.length _ _ (bvs acc) rfl rfl rfl rfl (own_lit wr #[.int .u8 ((base : Int) + 55 + (acc.length : Int))] 5 1 1 wr.heap.size w.heap.size rfl hbs (by simp [maxLen]) rfl) (HRD.out.below ((Below.refl _ _).alloc (Nat.le_refl _) _)) (by simp [bvs]) (bvs_one _) (by simp only [maxLen]; omega) (by omega) (by simp; omega) ?_; intro A2 c2 w2 hown2 hg2 _)
        refine bodyPost_ret (results_tmp rfl _ _ _) rfl ?_
        refine ⟨_, rfl, (HB.out.alloc hbs _).grown hg2 (by simp; omega) fun j hj => by cases hj; exact hbs, ?_⟩
        refine ownB_of hown2 ?_
        have e1 : ((base : Int) + 55 + (acc.length : Int)) = ((base + 55 + acc.length : Nat) : Int) := by simp
        rw [hs.out, ← HE.out, e1, bv_small _ (by omega)]
        rfl
end Go.Proofs.Ytfpigemikpbbhaa
