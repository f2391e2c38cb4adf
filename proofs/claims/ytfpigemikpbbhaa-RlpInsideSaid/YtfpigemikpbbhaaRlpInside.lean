/-
  RlpInside: a list's bytes are a head and its items' bytes.
  Conditions: none.
-/
import Derived.Test.YtfpigemikpbbhaaRlpPacks
import Derived.Test.YtfpigemikpbbhaaInsidePlain
namespace Go.Proofs.Ytfpigemikpbbhaa
set_option linter.unusedVariables false
open Go.RowKit Mono Rlp

theorem items_form {w : World} {v : Value} {xs : List Raw} (h : IsItems w v xs) : ∃ A c rows, v = .slice A xs.length c ∧ xs.length ≤ c ∧ c ≤ maxLen ∧ Rd w w.heap.size A rows.flatten ∧ ItemsAt w xs rows := by
  obtain ⟨A, c, rows, h1, h2, h3, _, h5, h6⟩ := h
  exact ⟨A, c, rows, h1, h2, h3, h5, h6⟩
def GoodI (x : Raw) : Prop := (∃ b, packed x = some b) ∧ deepR x 32 ≤ 31 ∧ (E x).length ≤ 45000
theorem EL_good_le (xs : List Raw) (h : ∀ x ∈ xs, GoodI x) : (EL xs).length ≤ 45000 * xs.length := by
  induction xs with
  | nil => rw [EL]; simp
  | cons x xs ih =>
    have h1 := (h x (by simp)).2.2
    have h2 := ih fun y hy => h y (by simp [hy])
    rw [EL, List.length_append, List.length_cons]
    omega

set_option maxRecDepth 20000 in
set_option maxHeartbeats 4000000 in
theorem inside_small (N : Nat) (hN : N ≤ 140737488355328) (v : Value) (xs : List Raw) (w : World) (h : IsItems w v xs) (hlens : lensL N xs) (hlen : xs.length ≤ 60) : Calls Try.prog 9 #[v] w (Ret (eqV (.bool true)) w) := by
  have HV := Lib.hid h
  obtain ⟨A, c, rows, rfl, hc1, hc2, hr, hi⟩ := items_form h
  have HR := Lib.hid hr
  have HI := Lib.hid hi
  have HL := Lib.hid hlens
  unfold maxLen at hc2
  clear h hr hi hlens
  go_enter Try.func9, Try.ntmps9
  go_wp2_with fail
  refine (rlp_alive _).mono ?_
  rintro e w1 ⟨_, rfl, hg1, rfl⟩
  have HG1 := Lib.hid hg1
  have hs1 := hg1.size
  clear hg1
  go_wp2_with fail
  go_loopw [4, 5] (fun bv i wr => ∃ k : Nat, k ≤ xs.length ∧ i = .int .i64 k ∧ OwnB wr w.heap.size bv (EL (xs.take k)) ∧ (∀ x ∈ xs.take k, GoodI x) ∧ Gr w wr) (fun _ i _ => xs.length - (intOf i).toNat)
  case atStart => exact ⟨0, by omega, rfl, OwnB.nil _ _, by simp, HG1.out⟩
  case round =>
    obtain ⟨k, hk, rfl, hob, hgood, hgw⟩ := hrel
    have HGOOD := Lib.hid hgood
    have HOB := Lib.hid hob
    have HGW := Lib.hid hgw
    obtain ⟨A5, c5, rfl, hd1, hd2⟩ := own_form hob
    have hin : (EL (xs.take k)).length ≤ 2700000 := by
      have := EL_good_le _ hgood
      rw [List.length_take] at this
      omega
    unfold maxLen at hd2
    clear hob hgood hgw
    by_cases h1 : k < xs.length
    · obtain ⟨bl, o, f, vb, vl, rfl, hbl, e1, e2, e3, hx, ⟨A3, n3, c3, rfl⟩, A4, n4, c4, rfl⟩ := items_at HR.out HI.out k h1
      have d1 := (HGW.out.cell (p := ⟨bl, o + k * 3, none⟩) hbl).trans e1
      have d2 := (HGW.out.cell (p := ⟨bl, o + k * 3 + 1, none⟩) hbl).trans e2
      have d3 := (HGW.out.cell (p := ⟨bl, o + k * 3 + 2, none⟩) hbl).trans e3
      have HX := Lib.hid hx
      have HE := Lib.hid (⟨e1, e2, e3⟩ : _ ∧ _ ∧ _)
      have HLX := Lib.hid ((lensL_iff N xs).1 HL.out xs[k] (List.getElem_mem h1))
      clear hx e1 e2 e3
      go_wp2_with fail
      refine (law_big xs[k] _ _ (HX.out.gr HGW.out)).mono ?_
      rintro e w2 ⟨_, rfl, hg2, rfl⟩
      have HG2 := Lib.hid (HGW.out.trans hg2)
      have HOB2 := Lib.hid (own_gr HOB.out hg2)
      clear hg2 d1 d2 d3
      have d1 := (HG2.out.cell (p := ⟨bl, o + k * 3, none⟩) hbl).trans HE.out.1
      have d2 := (HG2.out.cell (p := ⟨bl, o + k * 3 + 1, none⟩) hbl).trans HE.out.2.1
      have d3 := (HG2.out.cell (p := ⟨bl, o + k * 3 + 2, none⟩) hbl).trans HE.out.2.2
      go_wp2_with fail
      refine (rlp_pack _ xs[k] _ (HX.out.gr HG2.out)).mono ?_
      rintro e w3 ⟨v3, rfl, hg3, hv3⟩
      have HG3 := Lib.hid (HG2.out.trans hg3)
      have HOB3 := Lib.hid (own_gr HOB2.out hg3)
      clear d1 d2 d3
      have d1 := (HG3.out.cell (p := ⟨bl, o + k * 3, none⟩) hbl).trans HE.out.1
      have d2 := (HG3.out.cell (p := ⟨bl, o + k * 3 + 1, none⟩) hbl).trans HE.out.2.1
      have d3 := (HG3.out.cell (p := ⟨bl, o + k * 3 + 2, none⟩) hbl).trans HE.out.2.2
      cases hbg : bigR xs[k] with
      | true =>
        have hv : ∃ A6 m6 c6 ee, v3 = .tuple #[.slice A6 m6 c6, .int .i64 ee] := by
          cases hp : packed xs[k] with
          | none => exact ⟨_, _, _, _, packV_none hp hv3⟩
          | some b =>
            obtain ⟨vb3, rfl, ho3⟩ := packV_some hp hv3
            obtain ⟨A6, c6, rfl, _⟩ := own_form ho3
            exact ⟨_, _, _, _, rfl⟩
        obtain ⟨A6, m6, c6, ee, rfl⟩ := hv
        clear hg3 hv3 hbg
        go_wp2_with fail
        refine bodyPost_ret (results_tmp rfl _ _ _) rfl ⟨_, rfl, HG3.out, ?_⟩
        simp [eqV]
      | false =>
        cases hp : packed xs[k] with
        | none =>
          obtain rfl := packV_none hp hv3
          clear hg3 hv3 hp hbg
          go_wp2_with (go_at_call 34; refine (law_num _ _).mono ?_; rintro e w3 ⟨rfl, rfl⟩)
          refine bodyPost_ret (results_tmp rfl _ _ _) rfl ⟨_, rfl, HG3.out, ?_⟩
          simp [eqV]
        | some b =>
          obtain ⟨vb3, rfl, ho3⟩ := packV_some hp hv3
          have hbE := (packed_le hp).1
          have HSM := Lib.hid (E_small N hN xs[k] HLX.out hbg)
          have HP : Hid (∃ b, packed xs[k] = some b) := Lib.hid ⟨b, hp⟩
          have hbl2 : b.length ≤ 45000 := by rw [hbE]; exact HSM.out
          have HBE := Lib.hid hbE
          have HB3 := Lib.hid (OwnB.isB ho3)
          obtain ⟨A6, c6, rfl, hf1, hf2⟩ := own_form ho3
          unfold maxLen at hf2
          clear hg3 hv3 hp hbg hbE ho3
          go_wp2_with (go_at_call 34; refine (law_num _ _).mono ?_; rintro e w3 ⟨rfl, rfl⟩)
          refine (ref_deep 32 xs[k] _ _ (Nat.le_refl _) (HX.out.gr HG3.out)).mono ?_
          rintro e w4 ⟨_, rfl, hg4, rfl⟩
          have HG4 := Lib.hid (HG3.out.trans hg4)
          have HOB4 := Lib.hid (own_gr HOB3.out hg4)
          have HB4 := Lib.hid (HB3.out.gr hg4)
          have hs4 := HG4.out.size
          clear hg4 d1 d2 d3
          by_cases hdp : 31 < deepR xs[k] 32
          · go_wp2_with fail
            refine bodyPost_ret (results_tmp rfl _ _ _) rfl ⟨_, rfl, HG4.out, ?_⟩
            simp [eqV]
          · have hdp2 : deepR xs[k] 32 ≤ 31 := by omega
            obtain ⟨_, _, he6, _, _, hrb⟩ := HB4.out
            injection he6 with he7 _ he8
            subst he7 he8
            have HRB := Lib.hid hrb
            have HGK : Hid (GoodI xs[k]) := Lib.hid ⟨HP.out, hdp2, HSM.out⟩
            have htk : xs.take (k + 1) = xs.take k ++ [xs[k]] := (List.take_append_getElem h1).symm
            have HEL : Hid (EL (xs.take (k + 1)) = EL (xs.take k) ++ b) := Lib.hid (by rw [htk, EL_append, EL, EL, List.append_nil, HBE.out])
            have HTK := Lib.hid htk
            clear hrb hdp htk HP HSM HBE HB3 HB4 HOB HOB2 HOB3 HG2 HG3
            generalize hF : EL (xs.take k) = F at HOB4 hin HEL hd1 ⊢
            clear hF
            go_wp2_with (at_builtin; refine wpL_append (.tmp 53) (.tmp 54) 22 slT_bytes (base := w.heap.size) _ F.length (bvs F) _ b.length _ w4.heap.size (bvs b) rfl rfl rfl rfl HOB4.out HRB.out (by simp [bvs]) (bvs_one _) (by simp only [maxLen]; omega) (by omega) hs4 ?_; intro A9 c9 w5 hown5 hg5 _; have HW5 := Lib.hid hown5; have HG5 : Hid (Gr w w5) := Lib.hid (HG4.out.grown hg5 hs4 (fun j hj => own_block_ge HOB4.out j hj)); clear hown5 hg5)
            go_roundw
            case rel =>
              refine ⟨k + 1, by omega, by go_num, ?_, fun x hx => ?_, HG5.out⟩
              · rw [HEL.out]
                refine ownB_of HW5.out (by simp [bvs])
              · rw [HTK.out] at hx
                rcases List.mem_append.1 hx with hx | hx
                · exact HGOOD.out x hx
                · rw [List.mem_singleton.1 hx]
                  exact HGK.out
            case measure => simp [intOf]; omega
    · have hkl : xs.length ≤ k := by omega
      have htk : xs.take k = xs := List.take_of_length_le hkl
      have hgd := HGOOD.out
      rw [htk] at hgd
      have hle := EL_good_le xs hgd
      have hpl := packed_list xs (fun x hx => (hgd x hx).1) (fun x hx => (hgd x hx).2.1) (by omega)
      have HPL := Lib.hid hpl.1
      have hh4 := hpl.2
      have hhp := head_pos (EL xs).length 192
      rw [htk] at HOB hin hd1 ⊢
      clear htk hgd hle hpl h1
      generalize hF : EL xs = F at HOB hin hd1 HPL hh4 hhp ⊢
      clear hF
      generalize hH : head F.length 192 = hd at HPL hh4 hhp
      clear hH
      go_wp2_with fail
      refine (rlp_pack _ (.mk true [] xs) _ (isItem_mk (b := true) (IsB.nil wr) (HV.out.gr HGW.out))).mono ?_
      rintro e w3 ⟨v3, rfl, hg3, hv3⟩
      obtain ⟨vb3, rfl, ho3⟩ := packV_some HPL.out hv3
      have HG3 := Lib.hid (HGW.out.trans hg3)
      have hb3 := OwnB.isB ho3
      have hin3 := (OwnB.isB HOB.out).gr hg3
      obtain ⟨A7, c7, he7, hk7, hm7⟩ := own_form ho3
      rw [List.length_append] at he7 hk7
      subst he7
      unfold maxLen at hm7
      have ho4 : w3.ownsRow wr.heap.size 5 1 (.slice A7 (hd.length + F.length) c7) (hd.length + F.length) (bvs (hd ++ F)) := by
        have := ho3
        unfold OwnB at this
        rwa [List.length_append] at this
      obtain ⟨g, rfl, hgb, hgl⟩ := own_some ho4 (by omega)
      have ht : IsB w3 (.slice (if c7 = hd.length then some ⟨g, 0, none⟩ else some ⟨g, hd.length, none⟩) F.length (c7 - hd.length)) F := by
        have := isB_cut (w := w3) (A := some ⟨g, 0, none⟩) (l := hd ++ F) (n := hd.length + F.length) (c := c7) hd.length (Rd.of_own ho4) (by simp) (by omega) (by unfold maxLen; omega) (by omega)
        rw [List.drop_left' rfl, Nat.add_sub_cancel_left] at this
        simpa [add_none] using this
      have k1 := conv_later ht
      have k2 := conv_later hin3
      have b1 : decide ((F.length : Int) < (hd.length : Int) + (F.length : Int)) = true := by simp; omega
      have b2 : (hd.length : Int) + (F.length : Int) - (F.length : Int) = (hd.length : Int) := by omega
      clear hg3 hv3 ho3 ho4 HOB hin3 HPL hb3
      go_wp2_with fail
      refine wp_region_N 31 (by kernel_rfl) (by kernel_rfl) (by kernel_rfl) ?_
      simp only [List.take_succ_cons, List.take_zero, List.drop_succ_cons, List.drop_zero]
      refine wpN_quiet 1 (by kernel_rfl) ?_
      simp only [List.take_succ_cons, List.take_zero, List.drop_succ_cons, List.drop_zero]
      repeat (go_big_quiet_step (fail))
      refine wpQuiet_nil ?_
      refine wpN_val (.int .i64 0) rfl (by kernel_rfl) (by kernel_rfl) (fun xw => ?_) ?_
      · refine growsTo_call (args := #[.int .i64 0]) (by simp [go_sem]) ((law_num _ _).mono ?_)
        rintro e w' ⟨rfl, rfl⟩
        exact ⟨_, rfl, Gr.refl _, rfl⟩
      simp only [Act.put, List.setIfInBounds_toArray, List.set_cons_succ, List.set_cons_zero]
      refine wpN_quiet 29 (by kernel_rfl) ?_
      simp only [List.take_succ_cons, List.take_zero, List.drop_succ_cons, List.drop_zero]
      repeat (go_big_quiet_step (fail))
      refine wpQuiet_nil ?_
      refine wpN_nil (by kernel_rfl) ?_
      intro W hW
      replace hW := hW.gr
      unfold finN
      have HG4 := Lib.hid (HG3.out.trans hW)
      go_wp2_with fail
      all_goals
        refine bodyPost_ret (results_tmp rfl _ _ _) rfl ⟨_, rfl, HG4.out, ?_⟩
        simp_all [eqV]
        try omega
set_option maxRecDepth 20000 in
set_option maxHeartbeats 1000000 in
theorem inside_all (N : Nat) (hN : N ≤ 140737488355328) (v : Value) (xs : List Raw) (w : World) (h : IsItems w v xs) (hlens : lensL N xs) : Calls Try.prog 9 #[v] w (Ret (eqV (.bool true)) w) := by
  by_cases hlen : xs.length ≤ 60
  · exact inside_small N hN v xs w h hlens hlen
  · obtain ⟨A, c, rows, rfl, hc1, hc2, _, _⟩ := items_form h
    have h2 : 60 < xs.length := by omega
    unfold maxLen at hc2
    clear h hlens hlen
    go_enter Try.func9, Try.ntmps9
    go_wp2_with fail
    refine (rlp_alive _).mono ?_
    rintro e w1 ⟨_, rfl, hg1, rfl⟩
    go_wp2_with fail
    refine bodyPost_ret (results_tmp rfl _ _ _) rfl ⟨_, rfl, hg1, ?_⟩
    simp [eqV]
end Go.Proofs.Ytfpigemikpbbhaa
