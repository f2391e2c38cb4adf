/-
  rlp: an item's bytes: write, Pack.
  Conditions: none.
-/
import Derived.Test.YtfpigemikpbbhaaRlpMeas
import Derived.Test.YtfpigemikpbbhaaRlpRead
namespace Go.Proofs.Ytfpigemikpbbhaa
open Go.RowKit Mono Rlp

theorem EL_take (xs : List Raw) (k : Nat) (h : k < xs.length) : EL (xs.take (k + 1)) = EL (xs.take k) ++ E xs[k] := by
  rw [List.take_succ_eq_append_getElem h, EL_append, EL, EL, List.append_nil]
theorem EL_take_le (xs : List Raw) (k : Nat) : (EL (xs.take k)).length ≤ (EL xs).length := by
  have h := congrArg List.length (EL_append (xs.take k) (xs.drop k))
  rw [List.take_append_drop, List.length_append] at h
  omega
theorem E_le (xs : List Raw) (k : Nat) (h : k < xs.length) : (E xs[k]).length ≤ (EL xs).length := by
  have h1 := EL_take_le xs (k + 1)
  rw [EL_take xs k h, List.length_append] at h1
  omega

set_option maxHeartbeats 4000000 in
set_option maxRecDepth 20000 in
theorem rlp_write : ∀ (n : Nat) (r : Raw) (v : Value) (w : World), (E r).length < n → (E r).length ≤ most → IsOf w v r → Calls Try.prog 56 #[v] w (Ret (fun v w' => OwnB w' w.heap.size v (E r)) w)
  | 0, r, v, w, hn, _, _ => by omega
  | n + 1, .mk false bs xs, v, w, hn, hm, h => by
    obtain ⟨vb, rfl, A, c, rfl, hc1, hc2, hr⟩ := h
    have hE : E (.mk false bs xs) = EB bs := by rw [E]
    rw [hE] at hm ⊢
    have HR := Lib.hid hr
    unfold maxLen at hc2
    clear hr hn hE
    by_cases h1 : bs.length = 1
    · obtain ⟨b, rfl⟩ := List.length_eq_one_iff.1 h1
      obtain ⟨bl, o, rfl, hbl, hcell⟩ := HR.out (by simp [bvs])
      have e1 := hcell 0 (bv b) rfl
      rw [Nat.add_zero] at e1
      unfold bv at e1
      clear hcell h1
      have hbl2 := bv_lt b
      simp only [List.length_singleton] at hc1 ⊢
      by_cases h2 : b < 128
      · have h3 : b.toNat < 128 := UInt8.lt_iff_toNat_lt.1 h2
        have HM := Lib.hid (show EB [b] = [b] by rw [EB, if_pos ⟨rfl, h2⟩])
        clear h2
        go_enter Try.func56, Try.ntmps56
        go_wp2_with fail
        refine bodyPost_ret (results_tmp rfl _ _ _) rfl ?_
        refine ⟨_, rfl, gr_alloc w _, ?_⟩
        rw [HM.out]
        exact own_lit w #[.int .u8 (b.toNat : Int)] 5 1 1 w.heap.size w.heap.size rfl (Nat.le_refl _) (by simp [maxLen]) rfl
      · have h3 : 128 ≤ b.toNat := Nat.not_lt.1 fun e => h2 (UInt8.lt_iff_toNat_lt.2 e)
        have HM := Lib.hid (show EB [b] = head [b].length 128 ++ [b] by rw [EB, if_neg (fun h => h2 h.2)])
        clear h2
        go_enter Try.func56, Try.ntmps56
        go_wp2_with fail
        refine (rlp_headed 128 _ [b] _ ⟨_, c, rfl, hc1, by simp only [maxLen]; omega, HR.out⟩ (by simp) (by omega)).mono ?_
        rintro e w1 ⟨v1, rfl, hg1, ho1⟩
        have HO1 := Lib.hid ho1
        clear ho1
        go_wp2_with fail
        refine bodyPost_ret (results_tmp rfl _ _ _) rfl ?_
        exact ⟨_, rfl, hg1, by rw [HM.out]; exact HO1.out⟩
    · have hd : ((bs.length : Int) == 1) = false := by simp; omega
      have HM := Lib.hid (show EB bs = head bs.length 128 ++ bs by rw [EB, if_neg (fun h => h1 h.1)])
      rw [HM.out, List.length_append] at hm
      simp only [most] at hm
      clear h1
      go_enter Try.func56, Try.ntmps56
      go_wp2_with fail
      refine (rlp_headed 128 _ bs _ ⟨_, c, rfl, hc1, by simp only [maxLen]; omega, HR.out⟩ (by omega) (by omega)).mono ?_
      rintro e w1 ⟨v1, rfl, hg1, ho1⟩
      have HO1 := Lib.hid ho1
      clear ho1
      go_wp2_with fail
      refine bodyPost_ret (results_tmp rfl _ _ _) rfl ?_
      exact ⟨_, rfl, hg1, by rw [HM.out]; exact HO1.out⟩
  | n + 1, .mk true bs xs, v, w, hn, hm, h => by
    have ih := Lib.hid (rlp_write n)
    obtain ⟨vl, rfl, A, c, rows, rfl, hc1, hc2, _, hr, hi⟩ := h
    have HE := Lib.hid (show E (.mk true bs xs) = head (EL xs).length 192 ++ EL xs by rw [E])
    rw [HE.out, List.length_append] at hm hn
    have hhp := head_pos (EL xs).length 192
    have hel : (EL xs).length < n := by omega
    have hel2 : (EL xs).length ≤ 16777216 := by simp only [most] at hm; omega
    have HR := Lib.hid hr
    have HI := Lib.hid hi
    unfold maxLen at hc2
    clear hr hi hm hn hhp
    go_enter Try.func56, Try.ntmps56
    go_wp2_with fail
    go_loopw [5, 32] (fun ov i wr => ∃ (k : Nat) (acc : List UInt8), k ≤ xs.length ∧ i = .int .i64 k ∧ acc = EL (xs.take k) ∧ acc.length ≤ 16777216 ∧ OwnB wr w.heap.size ov acc ∧ Gr w wr) (fun _ i _ => xs.length - (intOf i).toNat)
    case atStart => exact ⟨0, [], by omega, rfl, by rw [List.take_zero, EL], by simp, OwnB.nil _ _, Gr.refl _⟩
    case round =>
      obtain ⟨k, acc, hk, rfl, hacc, hal, hown, hb⟩ := hrel
      obtain ⟨A3, c3, rfl, hd1, hd2⟩ := own_form hown
      have HA := Lib.hid hacc
      have HO := Lib.hid hown
      have HB := Lib.hid hb
      have hbs := hb.size
      unfold maxLen at hd2
      clear hacc hown hb
      by_cases h1 : k < xs.length
      · obtain ⟨bl, o, f, vb, vl, rfl, hbl, e1, e2, e3, hx, ⟨A2, n2, c2, rfl⟩, A', n', c', rfl⟩ := items_at HR.out HI.out k h1
        have e1' := (HB.out.cell (p := ⟨bl, o + k * 3, none⟩) hbl).trans e1
        have e2' := (HB.out.cell (p := ⟨bl, o + k * 3 + 1, none⟩) hbl).trans e2
        have e3' := (HB.out.cell (p := ⟨bl, o + k * 3 + 2, none⟩) hbl).trans e3
        have HX := Lib.hid (hx.gr HB.out)
        have hle := E_le xs k h1
        have HT := Lib.hid (EL_take xs k h1)
        have htl := EL_take_le xs (k + 1)
        rw [HT.out, ← HA.out, List.length_append] at htl
        clear e1 e2 e3 hx
        go_wp2_with (refine wpList_store_row rfl 45 (.tmp 7) (.tmp 35) rfl wr.heap.size #[.bool f, .slice A2 n2 c2, .slice A' n' c'] rfl rfl 45 _ (heap_alloc_new wr _) (by kernel_rfl) (by kernel_rfl) (by simp [Value.oneCell']) ?_; rw [World.setRow_alloc_new])
        refine (rlp_of _ xs[k] _ (HX.out.gr (gr_alloc _ _))).mono ?_
        rintro e w1 ⟨v1, rfl, hg1, ho1⟩
        have HG1 := Lib.hid ((gr_alloc _ _).trans hg1)
        have HO1 := Lib.hid ho1
        clear hg1 ho1 e1' e2' e3' HX
        go_wp2_with fail
        refine (ih.out xs[k] v1 _ (by omega) (by simp only [most]; omega) HO1.out).mono ?_
        rintro e w2 ⟨v2, rfl, hg2, ho2⟩
        obtain ⟨A4, c4, rfl, he1, he2⟩ := own_form ho2
        obtain ⟨_, _, he, _, _, hrb⟩ := OwnB.isB ho2
        injection he with he3 _ he4
        subst he3 he4
        have HR2 := Lib.hid hrb
        have HG2 := Lib.hid (HG1.out.trans hg2)
        have HO2 := Lib.hid (own_gr HO.out HG2.out)
        have hz2 := HG2.out.size
        unfold maxLen at he2
        generalize E xs[k] = ek at hle HT htl HR2 he1 ⊢
        clear HO1 HG1 hg2 ho2 hrb HO
        go_wp2_with (at_builtin; refine wpL_append _ _ 22 slT_bytes _ _ _ _ _ _ _ (bvs ek) rfl rfl rfl rfl HO2.out HR2.out (by simp [bvs]) (bvs_one _) (by simp only [maxLen]; omega) (by omega) (by omega) ?_; intro A5 c5 w5 hown5 hg5 _)
        go_roundw
        case rel =>
          refine ⟨k + 1, acc ++ ek, by omega, by go_num, by rw [HT.out, HA.out], by rw [List.length_append]; omega, ?_, (HB.out.trans HG2.out).grown hg5 (by omega) fun j hj => own_block_ge HO2.out j hj⟩
          unfold OwnB
          rw [List.length_append, bvs_append]
          exact hown5
        case measure => simp [intOf]; omega
      · have h2 : xs.length ≤ k := by omega
        have HA2 := Lib.hid (show acc = EL xs by rw [HA.out, List.take_of_length_le h2])
        clear h1 HA
        have hi2 := OwnB.isB HO.out
        have HI2 := Lib.hid hi2
        clear hi2
        go_wp2_with fail
        refine (rlp_headed 192 _ acc _ HI2.out (by omega) (by omega)).mono ?_
        rintro e w2 ⟨v2, rfl, hg2, ho2⟩
        have HG2 := Lib.hid (HB.out.trans hg2)
        have HO2 := Lib.hid (own_base ho2 hbs)
        clear hg2 ho2
        go_wp2_with fail
        refine bodyPost_ret (results_tmp rfl _ _ _) rfl ?_
        refine ⟨_, rfl, HG2.out, ?_⟩
        rw [HE.out, ← HA2.out]
        exact HO2.out
end Go.Proofs.Ytfpigemikpbbhaa
