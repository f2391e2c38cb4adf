/-
  rlp: how an item is measured.
  Conditions: none.
-/
import Derived.Test.YtfpigemikpbbhaaItem
import Derived.Test.YtfpigemikpbbhaaRlpBig
namespace Go.Proofs.Ytfpigemikpbbhaa
open Go.RowKit Mono Rlp

theorem szB_le (n : Nat) (h : n ≤ most) : szB n ≤ most + 9 := by
  have := be_length 8 n (by simp only [most] at h; omega)
  unfold szB
  split <;> omega
theorem szE_le (bs : List UInt8) (h : bs.length ≤ most) : szE bs ≤ most + 9 := by
  unfold szE
  split
  · simp only [most]; omega
  · exact szB_le _ h
theorem measL_le : ∀ (xs : List Raw) (d n k : Nat), measL xs d n = some k → n ≤ most → k ≤ most
  | [], d, n, k, h, hn => by rw [measL] at h; rw [← Option.some.inj h]; exact hn
  | x :: xs, d, n, k, h, hn => by
    rw [measL] at h
    cases hx : meas x d with
    | none => rw [hx] at h; cases h
    | some j =>
      rw [hx] at h
      dsimp only at h
      split at h
      · cases h
      · exact measL_le xs d _ k h (by omega)
theorem meas_le : ∀ (r : Raw) (d k : Nat), meas r d = some k → k ≤ most + 9
  | .mk false bs _, d, k, h => by
    rw [meas] at h
    split at h
    · rw [← Option.some.inj h]; exact szE_le bs (by assumption)
    · cases h
  | .mk true _ xs, d, k, h => by
    rw [meas] at h
    split at h
    · cases h
    · cases hm : measL xs (d + 1) 0 with
      | none => rw [hm] at h; cases h
      | some j =>
        rw [hm] at h
        rw [← Option.some.inj h]
        exact szB_le _ (measL_le xs _ 0 j hm (by simp [most]))
def MeasV (r : Raw) (d : Nat) : VP := fun v _ => match meas r d with
  | some k => v = .tuple #[.int .i64 (k : Int), .bool true]
  | none => ∃ z : Int, v = .tuple #[.int .i64 z, .bool false]
theorem measV_some {r : Raw} {d k : Nat} {v : Value} {w : World} (h : meas r d = some k) (hv : v = .tuple #[.int .i64 (k : Int), .bool true]) : MeasV r d v w := by unfold MeasV; rw [h]; exact hv
theorem measV_none {r : Raw} {d : Nat} {v : Value} {w : World} (h : meas r d = none) (z : Int) (hv : v = .tuple #[.int .i64 z, .bool false]) : MeasV r d v w := by unfold MeasV; rw [h]; exact ⟨z, hv⟩

set_option maxHeartbeats 1000000 in
set_option maxRecDepth 20000 in
theorem meas_bytes (d : Nat) (v : Value) (bs : List UInt8) (w : World) (hv : IsB w v bs) (xs : List Raw) : Calls Try.prog 55 #[.iface 22 v, .int .i64 d] w (Ret (MeasV (.mk false bs xs) d) w) := by
  obtain ⟨A, c, rfl, hc1, hc2, hr⟩ := hv
  have HR := Lib.hid hr
  unfold maxLen at hc2
  clear hr
  by_cases h1 : bs.length = 1
  · obtain ⟨b, rfl⟩ := List.length_eq_one_iff.1 h1
    obtain ⟨bl, o, rfl, hbl, hcell⟩ := HR.out (by simp [bvs])
    have e1 := hcell 0 (bv b) rfl
    rw [Nat.add_zero] at e1
    unfold bv at e1
    clear hcell h1
    have hbl2 := bv_lt b
    simp only [List.length_singleton] at hc1 ⊢
    by_cases h2 : b < 128
    · have h3 : b.toNat < 128 := UInt8.lt_iff_toNat_lt.1 h2
      have HM := Lib.hid (show meas (.mk false [b] xs) d = some 1 by rw [meas, if_pos (by simp [most]), szE, if_pos ⟨rfl, h2⟩])
      clear h2
      go_enter Try.func55, Try.ntmps55
      go_wp2_with fail
      refine bodyPost_ret (results_tmp2 rfl _ _ _) rfl ?_
      exact ⟨_, rfl, Gr.refl _, measV_some HM.out (by simp)⟩
    · have h3 : 128 ≤ b.toNat := Nat.not_lt.1 fun e => h2 (UInt8.lt_iff_toNat_lt.2 e)
      have HM := Lib.hid (show meas (.mk false [b] xs) d = some (szB 1) by rw [meas, if_pos (by simp [most]), szE, if_neg (fun h => h2 h.2)]; rfl)
      clear h2
      go_enter Try.func55, Try.ntmps55
      go_wp2_with fail
      refine (rlp_size 1 _ (by omega)).mono ?_
      rintro e w1 ⟨_, rfl, hg1, rfl⟩
      go_wp2_with fail
      refine bodyPost_ret (results_tmp2 rfl _ _ _) rfl ?_
      exact ⟨_, rfl, hg1, measV_some HM.out (by simp)⟩
  · have hd : ((bs.length : Int) == 1) = false := by simp; omega
    by_cases h2 : bs.length ≤ most
    · have HM := Lib.hid (show meas (.mk false bs xs) d = some (szB bs.length) by rw [meas, if_pos h2, szE, if_neg (fun h => h1 h.1)])
      simp only [most] at h2
      clear h1
      go_enter Try.func55, Try.ntmps55
      go_wp2_with fail
      refine (rlp_size bs.length _ (by omega)).mono ?_
      rintro e w1 ⟨_, rfl, hg1, rfl⟩
      go_wp2_with fail
      refine bodyPost_ret (results_tmp2 rfl _ _ _) rfl ?_
      exact ⟨_, rfl, hg1, measV_some HM.out (by simp; omega)⟩
    · have HM := Lib.hid (show meas (.mk false bs xs) d = none by rw [meas, if_neg h2])
      have h3 : 16777216 < bs.length := by simp only [most] at h2; omega
      clear h1 h2
      go_enter Try.func55, Try.ntmps55
      go_wp2_with fail
      refine (rlp_size_any bs.length _ (by omega) (by omega)).mono ?_
      rintro e w1 ⟨_, rfl, hg1, z, rfl⟩
      go_wp2_with fail
      refine bodyPost_ret (results_tmp2 rfl _ _ _) rfl ?_
      exact ⟨_, rfl, hg1, measV_none HM.out z (by simp; try omega)⟩

set_option maxHeartbeats 4000000 in
set_option maxRecDepth 20000 in
theorem rlp_measure : ∀ (m d : Nat), d + m = 32 → ∀ (r : Raw) (v : Value) (w : World), IsOf w v r → Calls Try.prog 55 #[v, .int .i64 d] w (Ret (MeasV r d) w)
  | m, d, hd, .mk false bs xs, v, w, h => by
    obtain ⟨vb, rfl, hb⟩ := h
    exact meas_bytes d vb bs w hb xs
  | 0, d, hd, .mk true bs xs, v, w, h => by
    obtain ⟨vl, rfl, A, c, rows, rfl, _, _, _, _, _⟩ := h
    obtain rfl : d = 32 := by omega
    have HM := Lib.hid (show meas (.mk true bs xs) 32 = none by rw [meas, if_pos rfl])
    go_enter Try.func55, Try.ntmps55
    go_wp2_with fail
    refine bodyPost_ret (results_tmp2 rfl _ _ _) rfl ?_
    exact ⟨_, rfl, Gr.refl _, measV_none HM.out 0 rfl⟩
  | m + 1, d, hd, .mk true bs xs, v, w, h => by
    have ih := Lib.hid (rlp_measure m (d + 1) (by omega))
    obtain ⟨vl, rfl, A, c, rows, rfl, hc1, hc2, _, hr, hi⟩ := h
    have HR := Lib.hid hr
    have HI := Lib.hid hi
    have hd2 : d < 32 := by omega
    have hdd : ((d : Int) == 32) = false := by simp; omega
    unfold maxLen at hc2
    clear hr hi
    go_enter Try.func55, Try.ntmps55
    go_wp2_with fail
    go_loopw [8, 39] (fun nv i wr => ∃ k n : Nat, k ≤ xs.length ∧ i = .int .i64 k ∧ nv = .int .i64 n ∧ n ≤ 16777216 ∧ measL xs (d + 1) 0 = measL (xs.drop k) (d + 1) n ∧ Gr w wr) (fun _ i _ => xs.length - (intOf i).toNat)
    case atStart => exact ⟨0, 0, by omega, rfl, rfl, by omega, rfl, Gr.refl _⟩
    case round =>
      obtain ⟨k, n, hk, rfl, rfl, hn, hM, hb⟩ := hrel
      have HM := Lib.hid hM
      have HB := Lib.hid hb
      have hbs := hb.size
      clear hM hb
      by_cases h1 : k < xs.length
      · obtain ⟨bl, o, f, vb, vl, rfl, hbl, e1, e2, e3, hx, ⟨A2, n2, c2, rfl⟩, A', n', c', rfl⟩ := items_at HR.out HI.out k h1
        have e1' := (HB.out.cell (p := ⟨bl, o + k * 3, none⟩) hbl).trans e1
        have e2' := (HB.out.cell (p := ⟨bl, o + k * 3 + 1, none⟩) hbl).trans e2
        have e3' := (HB.out.cell (p := ⟨bl, o + k * 3 + 2, none⟩) hbl).trans e3
        have HX := Lib.hid (hx.gr HB.out)
        clear e1 e2 e3 hx
        go_wp2_with (refine wpList_store_row rfl 45 (.tmp 10) (.tmp 42) rfl wr.heap.size #[.bool f, .slice A2 n2 c2, .slice A' n' c'] rfl rfl 45 _ (heap_alloc_new wr _) (by kernel_rfl) (by kernel_rfl) (by simp [Value.oneCell']) ?_; rw [World.setRow_alloc_new])
        refine (rlp_of _ xs[k] _ (HX.out.gr (gr_alloc _ _))).mono ?_
        rintro e w1 ⟨v1, rfl, hg1, ho1⟩
        have HG1 := Lib.hid ((gr_alloc _ _).trans hg1)
        have HO1 := Lib.hid ho1
        clear hg1 ho1
        go_wp2_with fail
        refine (ih.out xs[k] v1 _ HO1.out).mono ?_
        rintro e w2 ⟨v2, rfl, hg2, hm2⟩
        have HG2 := Lib.hid ((HB.out.trans HG1.out).trans hg2)
        have hdk : xs.drop k = xs[k] :: xs.drop (k + 1) := List.drop_eq_getElem_cons h1
        have HM2 : Hid (measL xs (d + 1) 0 = match meas xs[k] (d + 1) with | none => none | some j => if n + j > most then none else measL (xs.drop (k + 1)) (d + 1) (n + j)) := by
          refine Lib.hid ?_
          rw [HM.out, hdk, measL]
          cases meas xs[k] (d + 1) <;> rfl
        unfold MeasV at hm2
        clear HO1 HG1 hg2 HM hdk HX e1' e2' e3'
        cases hmx : meas xs[k] (d + 1) with
        | none =>
          rw [hmx] at HM2 hm2
          obtain ⟨z, rfl⟩ := hm2
          have HM3 := Lib.hid (show meas (.mk true bs xs) d = none by rw [meas, if_neg (by omega), HM2.out]; rfl)
          clear hmx HM2
          go_wp2_with fail
          refine bodyPost_ret (results_tmp2 rfl _ _ _) rfl ?_
          exact ⟨_, rfl, HG2.out, measV_none HM3.out 0 (by simp)⟩
        | some j =>
          rw [hmx] at HM2 hm2
          dsimp only at hm2
          subst hm2
          have hj := meas_le _ _ _ hmx
          simp only [most] at hj
          clear hmx
          by_cases h3 : n + j > 16777216
          · have HM3 := Lib.hid (show meas (.mk true bs xs) d = none by rw [meas, if_neg (by omega), HM2.out]; dsimp only; rw [if_pos h3]; rfl)
            clear HM2
            go_wp2_with fail
            refine bodyPost_ret (results_tmp2 rfl _ _ _) rfl ?_
            exact ⟨_, rfl, HG2.out, measV_none HM3.out 0 (by simp)⟩
          · have HM3 := Lib.hid (show measL xs (d + 1) 0 = measL (xs.drop (k + 1)) (d + 1) (n + j) by rw [HM2.out]; dsimp only; rw [if_neg h3])
            clear HM2
            go_wp2_with fail
            go_roundw
            case rel => exact ⟨k + 1, n + j, by omega, by go_num, by go_num, by omega, HM3.out, HG2.out⟩
            case measure => simp [intOf]; omega
      · have h2 : xs.length ≤ k := by omega
        have HM2 := Lib.hid (show meas (.mk true bs xs) d = some (szB n) by
          rw [meas, if_neg (by omega), HM.out, List.drop_eq_nil_of_le h2, measL]
          rfl)
        clear h1 HM
        go_wp2_with fail
        refine (rlp_size n _ (by omega)).mono ?_
        rintro e w2 ⟨_, rfl, hg2, rfl⟩
        have HG2 := Lib.hid (HB.out.trans hg2)
        clear hg2
        go_wp2_with fail
        refine bodyPost_ret (results_tmp2 rfl _ _ _) rfl ?_
        exact ⟨_, rfl, HG2.out, measV_some HM2.out (by simp)⟩
end Go.Proofs.Ytfpigemikpbbhaa
