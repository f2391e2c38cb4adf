/-
  The reference: an item's bytes; both Packs.
  Conditions: none.
-/
import Derived.Test.YtfpigemikpbbhaaRefPack
namespace Go.Proofs.Ytfpigemikpbbhaa
set_option linter.unusedVariables false
open Go.RowKit Mono Rlp

def PackRV (r : Raw) : VP := fun v w => match packR r with
  | some b => ∃ vb, v = .tuple #[vb, .bool true] ∧ IsB w vb b
  | none => v = .tuple #[.slice none 0 0, .bool false]
theorem packRV_some {r : Raw} {b : List UInt8} {v vb : Value} {w : World} (h : packR r = some b) (hv : v = .tuple #[vb, .bool true]) (hb : IsB w vb b) : PackRV r v w := by unfold PackRV; rw [h]; exact ⟨vb, hv, hb⟩
theorem packRV_none {r : Raw} {v : Value} {w : World} (h : packR r = none) (hv : v = .tuple #[.slice none 0 0, .bool false]) : PackRV r v w := by unfold PackRV; rw [h]; exact hv

set_option maxHeartbeats 4000000 in
set_option maxRecDepth 20000 in
theorem ref_pack_bytes (vb vl : Value) (bs : List UInt8) (xs : List Raw) (w : World) (hv : IsB w vb bs) (hvl : ∃ A n c, vl = .slice A n c) : Calls Try.prog 63 #[.agg #[.bool false, vb, vl]] w (Ret (PackRV (.mk false bs xs)) w) := by
  obtain ⟨A, c, rfl, hc1, hc2, hr⟩ := hv
  obtain ⟨A9, n9, c9, rfl⟩ := hvl
  have HR := Lib.hid (hr.gr (gr_alloc w (.cells #[.bool false, .slice A bs.length c, .slice A9 n9 c9] 45)))
  unfold maxLen at hc2
  by_cases h0 : bs.length ≤ most
  · simp only [most] at h0
    by_cases h1 : bs.length = 1
    · obtain ⟨b, rfl⟩ := List.length_eq_one_iff.1 h1
      obtain ⟨bl, o, rfl, hbl, hcell⟩ := hr (by simp [bvs])
      have e1 := hcell 0 (bv b) rfl
      rw [Nat.add_zero] at e1
      unfold bv at e1
      clear hcell h1 hr
      have hbl2 := bv_lt b
      simp only [List.length_singleton] at hc1 ⊢
      by_cases h2 : b < 128
      · have h3 : b.toNat < 128 := UInt8.lt_iff_toNat_lt.1 h2
        have HM := Lib.hid (show packR (.mk false [b] xs) = some [b] by rw [packR, if_neg (by simp [most]), EB, if_pos ⟨rfl, h2⟩])
        clear h2
        go_enter Try.func63, Try.ntmps63
        go_wp2_with fail
        refine bodyPost_ret (results_tmp2 rfl _ _ _) rfl ?_
        refine ⟨_, rfl, (gr_alloc w _).trans (gr_alloc _ _), packRV_some HM.out rfl ?_⟩
        exact isB_block (l := [b]) (heap_at _ _ _ (by simp)) rfl (by simp [maxLen])
      · have h3 : 128 ≤ b.toNat := Nat.not_lt.1 fun e => h2 (UInt8.lt_iff_toNat_lt.2 e)
        have HM := Lib.hid (show packR (.mk false [b] xs) = some (head 1 128 ++ [b]) by rw [packR, if_neg (by simp [most]), EB, if_neg (fun h => h2 h.2)]; rfl)
        clear h2
        go_enter Try.func63, Try.ntmps63
        go_wp2_with fail
        refine (ref_head 1 128 _ (by omega) (by omega)).mono ?_
        rintro e w1 ⟨v1, rfl, hg1, ho1⟩
        obtain ⟨A1, c1, rfl, hd1, hd2⟩ := own_form ho1
        have hhl : (head 1 128).length + 1 ≤ 16777225 := by rw [head_length]; exact szB_le 1 (by simp only [most]; omega)
        have HO1 := Lib.hid ho1
        have HG1 := Lib.hid ((gr_alloc w _).trans hg1)
        have HR1 := Lib.hid (HR.out.gr hg1)
        have hz1 := HG1.out.size
        unfold maxLen at hd2
        unfold OwnB at HO1
        generalize head 1 128 = hd at HM HO1 hhl hd1 ⊢
        clear ho1 hg1
        go_wp2_with (at_builtin; refine wpL_append (.tmp 32) (.tmp 33) 22 slT_bytes (base := w.heap.size) _ hd.length (bvs hd) _ 1 c _ (bvs [b]) rfl rfl rfl rfl (own_base HO1.out (by simp)) HR1.out (by simp [bvs]) (bvs_one _) (by simp only [maxLen]; omega) (by omega) (by omega) ?_; intro A2 c2 w2 hown2 hg2 _)
        refine bodyPost_ret (results_tmp2 rfl _ _ _) rfl ?_
        refine ⟨_, rfl, HG1.out.grown hg2 (by omega) fun j hj => own_block_ge (own_base HO1.out (by simp)) j hj, packRV_some HM.out rfl ?_⟩
        exact OwnB.isB (base := w.heap.size) (by unfold OwnB; rw [List.length_append, bvs_append]; exact hown2)
    · have hd : ((bs.length : Int) == 1) = false := by simp; omega
      have HM := Lib.hid (show packR (.mk false bs xs) = some (head bs.length 128 ++ bs) by rw [packR, if_neg (by simp only [most]; omega), EB, if_neg (fun h => h1 h.1)])
      clear h1 hr
      go_enter Try.func63, Try.ntmps63
      go_wp2_with fail
      refine (ref_head bs.length 128 _ (by omega) (by omega)).mono ?_
      rintro e w1 ⟨v1, rfl, hg1, ho1⟩
      obtain ⟨A1, c1, rfl, hd1, hd2⟩ := own_form ho1
      have hhl : (head bs.length 128).length + bs.length ≤ 16777225 := by rw [head_length]; exact szB_le bs.length (by simp only [most]; omega)
      have HO1 := Lib.hid ho1
      have HG1 := Lib.hid ((gr_alloc w _).trans hg1)
      have HR1 := Lib.hid (HR.out.gr hg1)
      have hz1 := HG1.out.size
      unfold maxLen at hd2
      unfold OwnB at HO1
      generalize head bs.length 128 = hd at HM HO1 hhl hd1 ⊢
      clear ho1 hg1
      go_wp2_with (at_builtin; refine wpL_append (.tmp 32) (.tmp 33) 22 slT_bytes (base := w.heap.size) _ hd.length (bvs hd) _ bs.length c _ (bvs bs) rfl rfl rfl rfl (own_base HO1.out (by simp)) HR1.out (by simp [bvs]) (bvs_one _) (by simp only [maxLen]; omega) (by omega) (by omega) ?_; intro A2 c2 w2 hown2 hg2 _)
      refine bodyPost_ret (results_tmp2 rfl _ _ _) rfl ?_
      refine ⟨_, rfl, HG1.out.grown hg2 (by omega) fun j hj => own_block_ge (own_base HO1.out (by simp)) j hj, packRV_some HM.out rfl ?_⟩
      exact OwnB.isB (base := w.heap.size) (by unfold OwnB; rw [List.length_append, bvs_append]; exact hown2)
  · have h3 : 16777216 < bs.length := by simp only [most] at h0; omega
    have HM := Lib.hid (show packR (.mk false bs xs) = none by rw [packR, if_pos (by omega)])
    clear h0 hr
    go_enter Try.func63, Try.ntmps63
    go_wp2_with fail
    refine bodyPost_ret (results_tmp2 rfl _ _ _) rfl ?_
    exact ⟨_, rfl, gr_alloc w _, packRV_none HM.out rfl⟩
theorem packRL_le : ∀ (xs : List Raw) (acc l : List UInt8), packRL xs acc = some l → acc.length ≤ most → l.length ≤ most
  | [], acc, l, h, ha => by rw [packRL] at h; rw [← Option.some.inj h]; exact ha
  | x :: xs, acc, l, h, ha => by
    rw [packRL] at h
    cases hx : packR x with
    | none => rw [hx] at h; cases h
    | some j =>
      rw [hx] at h
      dsimp only at h
      split at h
      · cases h
      · exact packRL_le xs _ l h (by rw [List.length_append]; omega)
theorem packR_le (r : Raw) (b : List UInt8) (h : packR r = some b) : b.length ≤ most + 9 := by
  obtain ⟨lst, bs, xs⟩ := r
  cases lst with
  | false =>
    rw [packR] at h
    split at h
    · cases h
    · rw [← Option.some.inj h, EB_length]; exact szE_le bs (by omega)
  | true =>
    rw [packR] at h
    cases hm : packRL xs [] with
    | none => rw [hm] at h; cases h
    | some l =>
      rw [hm] at h
      have := packRL_le xs [] l hm (by simp)
      rw [← Option.some.inj h, List.length_append, head_length]
      exact szB_le _ this

set_option maxHeartbeats 4000000 in
set_option maxRecDepth 20000 in
theorem ref_pack : ∀ (n : Nat) (r : Raw) (v : Value) (w : World), cnt r < n → IsItem w v r → Calls Try.prog 63 #[v] w (Ret (PackRV r) w)
  | 0, r, v, w, hn, _ => by omega
  | n + 1, .mk false bs xs, v, w, hn, h => by
    obtain ⟨vb, vl, rfl, h1, A, c, _, rfl, _⟩ := isItem_form h
    exact ref_pack_bytes vb _ bs xs w h1 ⟨_, _, _, rfl⟩
  | n + 1, .mk true bs xs, v, w, hn, h => by
    have ih := Lib.hid (ref_pack n)
    obtain ⟨vb, vl, rfl, ⟨A9, c9, rfl, _⟩, A, c, rows, rfl, hc1, hc2, _, hr, hi⟩ := isItem_form h
    have HR := Lib.hid hr
    have HI := Lib.hid hi
    have hd := Lib.hid (show packR (.mk true bs xs) = (packRL xs []).map fun l => head l.length 192 ++ l by rw [packR])
    rw [cnt] at hn
    unfold maxLen at hc2
    clear h hr hi
    go_enter Try.func63, Try.ntmps63
    go_wp2_with fail
    go_loopw [5, 6] (fun ov i wr => ∃ (k : Nat) (acc : List UInt8), k ≤ xs.length ∧ i = .int .i64 k ∧ packRL xs [] = packRL (xs.drop k) acc ∧ acc.length ≤ 16777216 ∧ OwnB wr (w.heap.size + 1) ov acc ∧ Gr (w.alloc (.cells #[.bool true, .slice A9 bs.length c9, .slice A xs.length c] 45)) wr) (fun _ i _ => xs.length - (intOf i).toNat)
    case atStart => exact ⟨0, [], by omega, rfl, rfl, by simp, OwnB.nil _ _, Gr.refl _⟩
    case round =>
      obtain ⟨k, acc, hk, rfl, hM, hal, hown, hb⟩ := hrel
      obtain ⟨A3, c3, rfl, hd1, hd2⟩ := own_form hown
      have HM := Lib.hid hM
      have HO := Lib.hid hown
      have HB := Lib.hid hb
      have hbs := hb.size
      have hcl := hb.cell (p := ⟨w.heap.size, 2, none⟩) (by simp)
      have hcl2 : (w.alloc (.cells #[.bool true, .slice A9 bs.length c9, .slice A xs.length c] 45)).cell? ⟨w.heap.size, 2, none⟩ = some (.slice A xs.length c) := by rw [cell_of_row _ _ _ _ _ (0, 0) (heap_alloc_new w _)]; rfl
      rw [hcl2] at hcl
      simp only [size_new] at hbs
      unfold maxLen at hd2
      clear hM hown hb hcl2
      by_cases h1 : k < xs.length
      · obtain ⟨bl, o, f, vb', vl, rfl, hbl, e1, e2, e3, hx, ⟨A2, n2, c2, rfl⟩, A', n', c', rfl⟩ := items_at HR.out HI.out k h1
        have e1' := (((gr_alloc w _).trans HB.out).cell (p := ⟨bl, o + k * 3, none⟩) hbl).trans e1
        have e2' := (((gr_alloc w _).trans HB.out).cell (p := ⟨bl, o + k * 3 + 1, none⟩) hbl).trans e2
        have e3' := (((gr_alloc w _).trans HB.out).cell (p := ⟨bl, o + k * 3 + 2, none⟩) hbl).trans e3
        have HX := Lib.hid (hx.gr ((gr_alloc w _).trans HB.out))
        have hdk : xs.drop k = xs[k] :: xs.drop (k + 1) := List.drop_eq_getElem_cons h1
        have hcnt := cnt_get xs k h1
        have HM2 := Lib.hid (show packRL xs [] = match packR xs[k] with | none => none | some b => if acc.length + b.length > most then none else packRL (xs.drop (k + 1)) (acc ++ b) by
          rw [HM.out, hdk, packRL]
          cases packR xs[k] <;> rfl)
        clear e1 e2 e3 hx hdk HM
        go_wp2_with fail
        refine (ih.out xs[k] _ _ (by omega) HX.out).mono ?_
        rintro e w1 ⟨v1, rfl, hg1, hp1⟩
        have HG1 := Lib.hid (HB.out.trans hg1)
        have HO1 := Lib.hid (own_gr HO.out hg1)
        have hz1 := HG1.out.size
        simp only [size_new] at hz1
        unfold PackRV at hp1
        clear hg1 e1' e2' e3' hcl HO hcnt
        cases hpx : packR xs[k] with
        | none =>
          rw [hpx] at HM2 hp1
          dsimp only at hp1
          subst hp1
          have HM3 := Lib.hid (show packR (.mk true bs xs) = none by rw [hd.out, HM2.out]; rfl)
          clear HM2 hpx
          go_wp2_with fail
          refine bodyPost_ret (results_tmp2 rfl _ _ _) rfl ?_
          exact ⟨_, rfl, (gr_alloc w _).trans HG1.out, packRV_none HM3.out rfl⟩
        | some bx =>
          rw [hpx] at HM2 hp1
          obtain ⟨vbx, rfl, A4, c4, rfl, he1, he2, hr4⟩ := hp1
          have HR4 := Lib.hid hr4
          have hbx := packR_le _ _ hpx
          simp only [most] at hbx
          unfold maxLen at he2
          clear hr4 hpx
          by_cases h3 : acc.length + bx.length > 16777216
          · have HM3 := Lib.hid (show packR (.mk true bs xs) = none by rw [hd.out, HM2.out]; dsimp only; rw [if_pos h3]; rfl)
            clear HM2
            go_wp2_with fail
            refine bodyPost_ret (results_tmp2 rfl _ _ _) rfl ?_
            exact ⟨_, rfl, (gr_alloc w _).trans HG1.out, packRV_none HM3.out rfl⟩
          · have HM3 := Lib.hid (show packRL xs [] = packRL (xs.drop (k + 1)) (acc ++ bx) by rw [HM2.out]; dsimp only; rw [if_neg h3])
            clear HM2
            go_wp2_with (at_builtin; refine wpL_append _ _ 22 slT_bytes _ _ _ _ _ _ _ (bvs bx) rfl rfl rfl rfl HO1.out HR4.out (by simp [bvs]) (bvs_one _) (by simp only [maxLen]; omega) (by omega) (by omega) ?_; intro A5 c5 w5 hown5 hg5 _)
            go_roundw
            case rel =>
              refine ⟨k + 1, acc ++ bx, by omega, by go_num, HM3.out, by rw [List.length_append]; omega, ?_, ?_⟩
              · unfold OwnB
                rw [List.length_append, bvs_append]
                exact hown5
              · exact HG1.out.grown hg5 (by rw [size_new]; omega) fun j hj => by rw [size_new]; exact own_block_ge HO1.out j hj
            case measure => simp [intOf]; omega
      · have h2 : xs.length ≤ k := by omega
        have HM2 := Lib.hid (show packR (.mk true bs xs) = some (head acc.length 192 ++ acc) by
          rw [hd.out, HM.out, List.drop_eq_nil_of_le h2, packRL]
          rfl)
        clear h1 HM
        go_wp2_with fail
        refine (ref_head acc.length 192 _ (by omega) (by omega)).mono ?_
        rintro e w1 ⟨v1, rfl, hg1, ho1⟩
        obtain ⟨A1, c1, rfl, he1, he2⟩ := own_form ho1
        have hhl : (head acc.length 192).length + acc.length ≤ 16777225 := by rw [head_length]; exact szB_le _ (by simp only [most]; omega)
        obtain ⟨_, _, he, _, _, hrd⟩ := OwnB.isB HO.out
        injection he with he3 _ he4
        subst he3 he4
        have HRD := Lib.hid (hrd.gr hg1)
        have HO1 := Lib.hid ho1
        have HG1 := Lib.hid (((gr_alloc w _).trans HB.out).trans hg1)
        have hz1 := HG1.out.size
        unfold maxLen at he2
        unfold OwnB at HO1
        generalize head acc.length 192 = hh at HM2 HO1 hhl he1 ⊢
        clear ho1 hg1 hrd
        go_wp2_with (at_builtin; refine wpL_append (.tmp 66) (.tmp 67) 22 slT_bytes (base := w.heap.size) _ hh.length (bvs hh) _ acc.length _ _ (bvs acc) rfl rfl rfl rfl (own_base HO1.out (by omega)) HRD.out (by simp [bvs]) (bvs_one _) (by simp only [maxLen]; omega) (by omega) (by omega) ?_; intro A2 c2 w2 hown2 hg2 _)
        refine bodyPost_ret (results_tmp2 rfl _ _ _) rfl ?_
        refine ⟨_, rfl, HG1.out.grown hg2 (by omega) fun j hj => own_block_ge (own_base HO1.out (by omega)) j hj, packRV_some HM2.out rfl ?_⟩
        exact OwnB.isB (base := w.heap.size) (by unfold OwnB; rw [List.length_append, bvs_append]; exact hown2)
end Go.Proofs.Ytfpigemikpbbhaa
