/-
  Merged (wip/tools/merge.py): Packs, RefOwn, Num4, Num5, AB0, TP2, Cmp0, TS1, SortP.
  Conditions: none.
-/
import Derived.Test.YtmlajcbabimkjaaZT13
import Derived.Test.YtmlajcbabimkjaaZT10
import Derived.Test.YtmlajcbabimkjaaZT7
import Derived.Test.YtmlajcbabimkjaaZT8
import Derived.Test.YtmlajcbabimkjaaZT12
import Derived.Test.YtmlajcbabimkjaaZT2
import Derived.Lib.Bytealg
import Derived.Lib.BytesEntry
import Derived.Sort.Walk0
import Derived.Shelf.SlSortCmp.WholeK
import Derived.Shelf.SlSortCmp.NoneTotal
import Derived.Shelf.SlGeneric
import Derived.Ground.SlsfProg
import Derived.Test.YtmlajcbabimkjaaRows
/-
  Pack, the program's and the reference's: one answer.
  Conditions: none.
-/
namespace Go.Proofs.Ytmlajcbabimkjaa
set_option linter.unusedVariables false
open Go.RowKit Mono Rlp
def PackV (base : Nat) (r : Raw) : VP := fun v w => match packed r with
  | some b => ∃ vb, v = .tuple #[vb, .int .i64 0] ∧ OwnB w base vb b
  | none => v = .tuple #[.slice none 0 0, .int .i64 3]
theorem packed_le {r : Raw} {b : List UInt8} (h : packed r = some b) : b = E r ∧ b.length ≤ most := by
  unfold packed at h
  cases hm : meas r 0 with
  | none => rw [hm] at h; cases h
  | some n =>
    rw [hm] at h
    dsimp only at h
    split at h
    · cases h
    · cases h
      have := meas_E r 0 n hm
      exact ⟨rfl, by omega⟩
set_option maxHeartbeats 2000000 in
set_option maxRecDepth 20000 in
theorem rlp_pack (v : Value) (x : Raw) (w : World) (h : IsItem w v x) : Calls Try.prog 46 #[v] w (Ret (fun v w' => PackV w.heap.size x v w') w) := by
  have hx := h
  obtain ⟨lst, bs, xs⟩ := x
  obtain ⟨vb, vl, rfl, ⟨A9, c9, rfl, _⟩, A, c, rows, rfl, _⟩ := isItem_form h
  clear h
  generalize hr : Raw.mk lst bs xs = r at hx ⊢
  have HX := Lib.hid hx
  clear hx
  go_enter Try.func46, Try.ntmps46
  go_wp2_with fail
  refine (rlp_of _ r _ (HX.out.gr (gr_alloc w _))).mono ?_
  rintro e w1 ⟨v1, rfl, hg1, ho1⟩
  have HG1 := Lib.hid ((gr_alloc w _).trans hg1)
  have HO1 := Lib.hid ho1
  clear hg1 ho1 HX
  go_wp2_with fail
  refine (rlp_measure 32 0 rfl r v1 _ HO1.out).mono ?_
  rintro e w2 ⟨v2, rfl, hg2, hm2⟩
  have HG2 := Lib.hid (HG1.out.trans hg2)
  have HO2 := Lib.hid (HO1.out.gr hg2)
  unfold MeasV at hm2
  clear hg2 HO1 HG1 hr
  cases hmx : meas r 0 with
  | none =>
    rw [hmx] at hm2
    obtain ⟨z, rfl⟩ := hm2
    have HP := Lib.hid (show packed r = none by unfold packed; rw [hmx])
    clear hmx
    go_wp2_with fail
    refine bodyPost_ret (results_tmp2 rfl _ _ _) rfl ?_
    refine ⟨_, rfl, HG2.out, ?_⟩
    unfold PackV
    rw [HP.out]
    rfl
  | some n =>
    rw [hmx] at hm2
    dsimp only at hm2
    subst hm2
    have hn := meas_le _ _ _ hmx
    simp only [most] at hn
    by_cases h3 : n > most
    · have HP := Lib.hid (show packed r = none by unfold packed; rw [hmx]; dsimp only; rw [if_pos h3])
      simp only [most] at h3
      clear hmx
      go_wp2_with fail
      refine bodyPost_ret (results_tmp2 rfl _ _ _) rfl ?_
      refine ⟨_, rfl, HG2.out, ?_⟩
      unfold PackV
      rw [HP.out]
      rfl
    · have HP := Lib.hid (show packed r = some (E r) by unfold packed; rw [hmx]; dsimp only; rw [if_neg h3])
      have hl := (packed_le HP.out).2
      simp only [most] at h3
      have h4 : n ≤ 16777216 := by omega
      clear hmx h3
      go_wp2_with fail
      refine (rlp_write _ r v1 _ (Nat.lt_succ_self _) hl HO2.out).mono ?_
      rintro e w3 ⟨v3, rfl, hg3, ho3⟩
      have HG3 := Lib.hid (HG2.out.trans hg3)
      have HO3 := Lib.hid (own_base ho3 HG2.out.size)
      clear hg3 ho3
      go_wp2_with fail
      refine bodyPost_ret (results_tmp2 rfl _ _ _) rfl ?_
      refine ⟨_, rfl, HG3.out, ?_⟩
      unfold PackV
      rw [HP.out]
      exact ⟨v3, rfl, HO3.out⟩
end Go.Proofs.Ytmlajcbabimkjaa
/-
  The reference's Pack: the bytes lie in new memory.
  Conditions: none.
-/
namespace Go.Proofs.Ytmlajcbabimkjaa
set_option linter.unusedVariables false
open Go.RowKit Mono Rlp
theorem own_block1 {w w0 : World} {B g : Nat} (b : UInt8) (h : w = w0.alloc (.cells #[bv b] 5)) (hg : w0.heap.size = g) (hb : B ≤ w0.heap.size) : OwnB w B (.slice (some ⟨g, 0, none⟩) 1 1) [b] := by
  subst h
  unfold OwnB
  exact own_lit w0 #[bv b] 5 1 1 g B hg hb (by simp [maxLen]) (by simp)
def PackOV (B : Nat) (r : Raw) : VP := fun v w => match packR r with
  | some b => ∃ vb, v = .tuple #[vb, .bool true] ∧ OwnB w B vb b
  | none => v = .tuple #[.slice none 0 0, .bool false]
theorem packOV_some {B : Nat} {r : Raw} {b : List UInt8} {v vb : Value} {w : World} (h : packR r = some b) (hv : v = .tuple #[vb, .bool true]) (hb : OwnB w B vb b) : PackOV B r v w := by unfold PackOV; rw [h]; exact ⟨vb, hv, hb⟩
theorem packOV_none {B : Nat} {r : Raw} {v : Value} {w : World} (h : packR r = none) (hv : v = .tuple #[.slice none 0 0, .bool false]) : PackOV B r v w := by unfold PackOV; rw [h]; exact hv
set_option maxHeartbeats 4000000 in
set_option maxRecDepth 20000 in
theorem ref_packO_bytes (vb vl : Value) (bs : List UInt8) (xs : List Raw) (w : World) (hv : IsB w vb bs) (hvl : ∃ A n c, vl = .slice A n c) : Calls Try.prog 35 #[.agg #[.bool false, vb, vl]] w (Ret (PackOV w.heap.size (.mk false bs xs)) w) := by
  obtain ⟨A, c, rfl, hc1, hc2, hr⟩ := hv
  obtain ⟨A9, n9, c9, rfl⟩ := hvl
  have HR := Lib.hid (hr.gr (gr_alloc w (.cells #[.bool false, .slice A bs.length c, .slice A9 n9 c9] 41)))
  unfold maxLen at hc2
  by_cases h0 : bs.length ≤ most
  · simp only [most] at h0
    by_cases h1 : bs.length = 1
    · obtain ⟨b, rfl⟩ := List.length_eq_one_iff.1 h1
      obtain ⟨bl, o, rfl, hbl, hcell⟩ := hr (by simp [bvs])
      have e1 := hcell 0 (bv b) rfl
      rw [Nat.add_zero] at e1
      unfold bv at e1
      clear hcell h1 hr
      have hbl2 := bv_lt b
      simp only [List.length_singleton] at hc1 ⊢
      by_cases h2 : b < 128
      · have h3 : b.toNat < 128 := UInt8.lt_iff_toNat_lt.1 h2
        have HM := Lib.hid (show packR (.mk false [b] xs) = some [b] by rw [packR, if_neg (by simp [most]), EB, if_pos ⟨rfl, h2⟩])
        clear h2
        go_enter Try.func35, Try.ntmps35
        go_wp2_with fail
        refine bodyPost_ret (results_tmp2 rfl _ _ _) rfl ?_
        refine ⟨_, rfl, (gr_alloc w _).trans (gr_alloc _ _), packOV_some HM.out rfl ?_⟩
        exact own_block1 (g := w.heap.size + 1) b rfl (by simp) (gr_alloc w _).size
      · have h3 : 128 ≤ b.toNat := Nat.not_lt.1 fun e => h2 (UInt8.lt_iff_toNat_lt.2 e)
        have HM := Lib.hid (show packR (.mk false [b] xs) = some (head 1 128 ++ [b]) by rw [packR, if_neg (by simp [most]), EB, if_neg (fun h => h2 h.2)]; rfl)
        clear h2
        go_enter Try.func35, Try.ntmps35
        go_wp2_with fail
        refine (ref_head 1 128 _ (by omega) (by omega)).mono ?_
        rintro e w1 ⟨v1, rfl, hg1, ho1⟩
        obtain ⟨A1, c1, rfl, hd1, hd2⟩ := own_form ho1
        have hhl : (head 1 128).length + 1 ≤ 16777225 := by rw [head_length]; exact szB_le 1 (by simp only [most]; omega)
        have HO1 := Lib.hid ho1
        have HG1 := Lib.hid ((gr_alloc w _).trans hg1)
        have HR1 := Lib.hid (HR.out.gr hg1)
        have hz1 := HG1.out.size
        unfold maxLen at hd2
        unfold OwnB at HO1
        generalize head 1 128 = hd at HM HO1 hhl hd1 ⊢
        clear ho1 hg1
        go_wp2_with (at_builtin; refine wpL_append (.tmp 32) (.tmp 33) 23 slT_bytes (base := w.heap.size) _ hd.length (bvs hd) _ 1 c _ (bvs [b]) rfl rfl rfl rfl (own_base HO1.out (by simp)) HR1.out (by simp [bvs]) (bvs_one _) (by simp only [maxLen]; omega) (by omega) (by omega) ?_; intro A2 c2 w2 hown2 hg2 _)
        refine bodyPost_ret (results_tmp2 rfl _ _ _) rfl ?_
        refine ⟨_, rfl, HG1.out.grown hg2 (by omega) fun j hj => own_block_ge (own_base HO1.out (by simp)) j hj, packOV_some HM.out rfl ?_⟩
        unfold OwnB; rw [List.length_append, bvs_append]; exact hown2
    · have hd : ((bs.length : Int) == 1) = false := by simp; omega
      have HM := Lib.hid (show packR (.mk false bs xs) = some (head bs.length 128 ++ bs) by rw [packR, if_neg (by simp only [most]; omega), EB, if_neg (fun h => h1 h.1)])
      clear h1 hr
      go_enter Try.func35, Try.ntmps35
      go_wp2_with fail
      refine (ref_head bs.length 128 _ (by omega) (by omega)).mono ?_
      rintro e w1 ⟨v1, rfl, hg1, ho1⟩
      obtain ⟨A1, c1, rfl, hd1, hd2⟩ := own_form ho1
      have hhl : (head bs.length 128).length + bs.length ≤ 16777225 := by rw [head_length]; exact szB_le bs.length (by simp only [most]; omega)
      have HO1 := Lib.hid ho1
      have HG1 := Lib.hid ((gr_alloc w _).trans hg1)
      have HR1 := Lib.hid (HR.out.gr hg1)
      have hz1 := HG1.out.size
      unfold maxLen at hd2
      unfold OwnB at HO1
      generalize head bs.length 128 = hd at HM HO1 hhl hd1 ⊢
      clear ho1 hg1
      go_wp2_with (at_builtin; refine wpL_append (.tmp 32) (.tmp 33) 23 slT_bytes (base := w.heap.size) _ hd.length (bvs hd) _ bs.length c _ (bvs bs) rfl rfl rfl rfl (own_base HO1.out (by simp)) HR1.out (by simp [bvs]) (bvs_one _) (by simp only [maxLen]; omega) (by omega) (by omega) ?_; intro A2 c2 w2 hown2 hg2 _)
      refine bodyPost_ret (results_tmp2 rfl _ _ _) rfl ?_
      refine ⟨_, rfl, HG1.out.grown hg2 (by omega) fun j hj => own_block_ge (own_base HO1.out (by simp)) j hj, packOV_some HM.out rfl ?_⟩
      unfold OwnB; rw [List.length_append, bvs_append]; exact hown2
  · have h3 : 16777216 < bs.length := by simp only [most] at h0; omega
    have HM := Lib.hid (show packR (.mk false bs xs) = none by rw [packR, if_pos (by omega)])
    clear h0 hr
    go_enter Try.func35, Try.ntmps35
    go_wp2_with fail
    refine bodyPost_ret (results_tmp2 rfl _ _ _) rfl ?_
    exact ⟨_, rfl, gr_alloc w _, packOV_none HM.out rfl⟩
set_option maxHeartbeats 4000000 in
set_option maxRecDepth 20000 in
theorem ref_packO : ∀ (n : Nat) (r : Raw) (v : Value) (w : World), cnt r < n → IsItem w v r → Calls Try.prog 35 #[v] w (Ret (PackOV w.heap.size r) w)
  | 0, r, v, w, hn, _ => by omega
  | n + 1, .mk false bs xs, v, w, hn, h => by
    obtain ⟨vb, vl, rfl, h1, A, c, _, rfl, _⟩ := isItem_form h
    exact ref_packO_bytes vb _ bs xs w h1 ⟨_, _, _, rfl⟩
  | n + 1, .mk true bs xs, v, w, hn, h => by
    have ih := Lib.hid (ref_packO n)
    obtain ⟨vb, vl, rfl, ⟨A9, c9, rfl, _⟩, A, c, rows, rfl, hc1, hc2, _, hr, hi⟩ := isItem_form h
    have HR := Lib.hid hr
    have HI := Lib.hid hi
    have hd := Lib.hid (show packR (.mk true bs xs) = (packRL xs []).map fun l => head l.length 192 ++ l by rw [packR])
    rw [cnt] at hn
    unfold maxLen at hc2
    clear h hr hi
    go_enter Try.func35, Try.ntmps35
    go_wp2_with fail
    go_loopw [5, 6] (fun ov i wr => ∃ (k : Nat) (acc : List UInt8), k ≤ xs.length ∧ i = .int .i64 k ∧ packRL xs [] = packRL (xs.drop k) acc ∧ acc.length ≤ 16777216 ∧ OwnB wr (w.heap.size + 1) ov acc ∧ Gr (w.alloc (.cells #[.bool true, .slice A9 bs.length c9, .slice A xs.length c] 41)) wr) (fun _ i _ => xs.length - (intOf i).toNat)
    case atStart => exact ⟨0, [], by omega, rfl, rfl, by simp, OwnB.nil _ _, Gr.refl _⟩
    case round =>
      obtain ⟨k, acc, hk, rfl, hM, hal, hown, hb⟩ := hrel
      obtain ⟨A3, c3, rfl, hd1, hd2⟩ := own_form hown
      have HM := Lib.hid hM
      have HO := Lib.hid hown
      have HB := Lib.hid hb
      have hbs := hb.size
      have hcl := hb.cell (p := ⟨w.heap.size, 2, none⟩) (by simp)
      have hcl2 : (w.alloc (.cells #[.bool true, .slice A9 bs.length c9, .slice A xs.length c] 41)).cell? ⟨w.heap.size, 2, none⟩ = some (.slice A xs.length c) := by rw [cell_of_row _ _ _ _ _ (0, 0) (heap_alloc_new w _)]; rfl
      rw [hcl2] at hcl
      simp only [size_new] at hbs
      unfold maxLen at hd2
      clear hM hown hb hcl2
      by_cases h1 : k < xs.length
      · obtain ⟨bl, o, f, vb', vl, rfl, hbl, e1, e2, e3, hx, ⟨A2, n2, c2, rfl⟩, A', n', c', rfl⟩ := items_at HR.out HI.out k h1
        have e1' := (((gr_alloc w _).trans HB.out).cell (p := ⟨bl, o + k * 3, none⟩) hbl).trans e1
        have e2' := (((gr_alloc w _).trans HB.out).cell (p := ⟨bl, o + k * 3 + 1, none⟩) hbl).trans e2
        have e3' := (((gr_alloc w _).trans HB.out).cell (p := ⟨bl, o + k * 3 + 2, none⟩) hbl).trans e3
        have HX := Lib.hid (hx.gr ((gr_alloc w _).trans HB.out))
        have hdk : xs.drop k = xs[k] :: xs.drop (k + 1) := List.drop_eq_getElem_cons h1
        have hcnt := cnt_get xs k h1
        have HM2 := Lib.hid (show packRL xs [] = match packR xs[k] with | none => none | some b => if acc.length + b.length > most then none else packRL (xs.drop (k + 1)) (acc ++ b) by
          rw [HM.out, hdk, packRL]
          cases packR xs[k] <;> rfl)
        clear e1 e2 e3 hx hdk HM
        go_wp2_with fail
        refine (ih.out xs[k] _ _ (by omega) HX.out).mono ?_
        rintro e w1 ⟨v1, rfl, hg1, hp1⟩
        have HG1 := Lib.hid (HB.out.trans hg1)
        have HO1 := Lib.hid (own_gr HO.out hg1)
        have hz1 := HG1.out.size
        simp only [size_new] at hz1
        unfold PackOV at hp1
        clear hg1 e1' e2' e3' hcl HO hcnt
        cases hpx : packR xs[k] with
        | none =>
          rw [hpx] at HM2 hp1
          dsimp only at hp1
          subst hp1
          have HM3 := Lib.hid (show packR (.mk true bs xs) = none by rw [hd.out, HM2.out]; rfl)
          clear HM2 hpx
          go_wp2_with fail
          refine bodyPost_ret (results_tmp2 rfl _ _ _) rfl ?_
          exact ⟨_, rfl, (gr_alloc w _).trans HG1.out, packOV_none HM3.out rfl⟩
        | some bx =>
          rw [hpx] at HM2 hp1
          obtain ⟨vbx, rfl, hown4⟩ := hp1
          obtain ⟨A4, c4, rfl, he1, he2, hr4⟩ := hown4.isB
          clear hown4
          have HR4 := Lib.hid hr4
          have hbx := packR_le _ _ hpx
          simp only [most] at hbx
          unfold maxLen at he2
          clear hr4 hpx
          by_cases h3 : acc.length + bx.length > 16777216
          · have HM3 := Lib.hid (show packR (.mk true bs xs) = none by rw [hd.out, HM2.out]; dsimp only; rw [if_pos h3]; rfl)
            clear HM2
            go_wp2_with fail
            refine bodyPost_ret (results_tmp2 rfl _ _ _) rfl ?_
            exact ⟨_, rfl, (gr_alloc w _).trans HG1.out, packOV_none HM3.out rfl⟩
          · have HM3 := Lib.hid (show packRL xs [] = packRL (xs.drop (k + 1)) (acc ++ bx) by rw [HM2.out]; dsimp only; rw [if_neg h3])
            clear HM2
            go_wp2_with (at_builtin; refine wpL_append _ _ 23 slT_bytes _ _ _ _ _ _ _ (bvs bx) rfl rfl rfl rfl HO1.out HR4.out (by simp [bvs]) (bvs_one _) (by simp only [maxLen]; omega) (by omega) (by omega) ?_; intro A5 c5 w5 hown5 hg5 _)
            go_roundw
            case rel =>
              refine ⟨k + 1, acc ++ bx, by omega, by go_num, HM3.out, by rw [List.length_append]; omega, ?_, ?_⟩
              · unfold OwnB
                rw [List.length_append, bvs_append]
                exact hown5
              · exact HG1.out.grown hg5 (by rw [size_new]; omega) fun j hj => by rw [size_new]; exact own_block_ge HO1.out j hj
            case measure => simp [intOf]; omega
      · have h2 : xs.length ≤ k := by omega
        have HM2 := Lib.hid (show packR (.mk true bs xs) = some (head acc.length 192 ++ acc) by
          rw [hd.out, HM.out, List.drop_eq_nil_of_le h2, packRL]
          rfl)
        clear h1 HM
        go_wp2_with fail
        refine (ref_head acc.length 192 _ (by omega) (by omega)).mono ?_
        rintro e w1 ⟨v1, rfl, hg1, ho1⟩
        obtain ⟨A1, c1, rfl, he1, he2⟩ := own_form ho1
        have hhl : (head acc.length 192).length + acc.length ≤ 16777225 := by rw [head_length]; exact szB_le _ (by simp only [most]; omega)
        obtain ⟨_, _, he, _, _, hrd⟩ := OwnB.isB HO.out
        injection he with he3 _ he4
        subst he3 he4
        have HRD := Lib.hid (hrd.gr hg1)
        have HO1 := Lib.hid ho1
        have HG1 := Lib.hid (((gr_alloc w _).trans HB.out).trans hg1)
        have hz1 := HG1.out.size
        unfold maxLen at he2
        unfold OwnB at HO1
        generalize head acc.length 192 = hh at HM2 HO1 hhl he1 ⊢
        clear ho1 hg1 hrd
        go_wp2_with (at_builtin; refine wpL_append (.tmp 66) (.tmp 67) 23 slT_bytes (base := w.heap.size) _ hh.length (bvs hh) _ acc.length _ _ (bvs acc) rfl rfl rfl rfl (own_base HO1.out (by omega)) HRD.out (by simp [bvs]) (bvs_one _) (by simp only [maxLen]; omega) (by omega) (by omega) ?_; intro A2 c2 w2 hown2 hg2 _)
        refine bodyPost_ret (results_tmp2 rfl _ _ _) rfl ?_
        refine ⟨_, rfl, HG1.out.grown hg2 (by omega) fun j hj => own_block_ge (own_base HO1.out (by omega)) j hj, packOV_some HM2.out rfl ?_⟩
        unfold OwnB; rw [List.length_append, bvs_append]; exact hown2
set_option maxHeartbeats 2000000 in
set_option maxRecDepth 20000 in
theorem ref_PackO (v : Value) (x : Raw) (w : World) (h : IsItem w v x) : Calls Try.prog 16 #[v] w (Ret (fun v w' => PackV w.heap.size x v w') w) := by
  have hx := h
  obtain ⟨lst, bs, xs⟩ := x
  obtain ⟨vb, vl, rfl, ⟨A9, c9, rfl, _⟩, A, c, rows, rfl, _⟩ := isItem_form h
  clear h
  generalize hr : Raw.mk lst bs xs = r at hx ⊢
  have hpr := packed_ref r
  have HX := Lib.hid (hx.gr (gr_alloc w (.cells #[.bool lst, .slice A9 bs.length c9, .slice A xs.length c] 41)))
  have hdl := deepR_le 32 r
  clear hx hr
  go_enter Try.func16, Try.ntmps16
  go_wp2_with fail
  refine (ref_deep 32 r _ _ (Nat.le_refl _) HX.out).mono ?_
  rintro e w1 ⟨_, rfl, hg1, rfl⟩
  have HG1 := Lib.hid ((gr_alloc w _).trans hg1)
  have HX1 := Lib.hid (HX.out.gr hg1)
  have e0 := hg1.cell (p := ⟨w.heap.size, 0, none⟩) (by simp)
  have e1 := hg1.cell (p := ⟨w.heap.size, 1, none⟩) (by simp)
  have e2 := hg1.cell (p := ⟨w.heap.size, 2, none⟩) (by simp)
  rw [cell_of_row (w.alloc _) _ _ _ _ (0, 0) (heap_alloc_new w _)] at e0 e1 e2
  simp at e0 e1 e2
  clear hg1 HX
  by_cases h3 : deepR r 32 > 32
  · have HP := Lib.hid (show packed r = none by rw [hpr, if_pos h3])
    clear hpr
    go_wp2_with fail
    refine bodyPost_ret (results_tmp2 rfl _ _ _) rfl ?_
    refine ⟨_, rfl, HG1.out, ?_⟩
    unfold PackV
    rw [HP.out]
    rfl
  · rw [if_neg h3] at hpr
    have HPR := Lib.hid hpr
    have h4 : deepR r 32 ≤ 32 := by omega
    clear h3 hpr
    go_wp2_with fail
    refine (ref_packO _ r _ _ (Nat.lt_succ_self _) HX1.out).mono ?_
    rintro e w2 ⟨v2, rfl, hg2, hp2⟩
    have HG2 := Lib.hid (HG1.out.trans hg2)
    unfold PackOV at hp2
    clear hg2 HX1 e0 e1 e2
    cases hpx : packR r with
    | none =>
      rw [hpx] at hp2 HPR
      dsimp only at hp2
      subst hp2
      have HP := Lib.hid (show packed r = none from HPR.out)
      clear hpx HPR
      go_wp2_with fail
      refine bodyPost_ret (results_tmp2 rfl _ _ _) rfl ?_
      refine ⟨_, rfl, HG2.out, ?_⟩
      unfold PackV
      rw [HP.out]
      rfl
    | some b =>
      rw [hpx] at hp2 HPR
      obtain ⟨vb2, rfl, hown4⟩ := hp2
      obtain ⟨A4, c4, rfl, he1, he2, hr4⟩ := hown4.isB
      have HO4 := Lib.hid (own_base hown4 (base' := w.heap.size) HG1.out.size)
      clear hown4
      have hbx := packR_le _ _ hpx
      simp only [most] at hbx
      have HR4 := Lib.hid hr4
      have he2' := Lib.hid he2
      unfold maxLen at he2
      clear hr4 hpx
      by_cases h5 : b.length > most
      · have HP := Lib.hid (show packed r = none by rw [HPR.out]; dsimp only; rw [if_pos h5])
        simp only [most] at h5
        clear HPR
        go_wp2_with fail
        refine bodyPost_ret (results_tmp2 rfl _ _ _) rfl ?_
        refine ⟨_, rfl, HG2.out, ?_⟩
        unfold PackV
        rw [HP.out]
        rfl
      · have HP := Lib.hid (show packed r = some b by rw [HPR.out]; dsimp only; rw [if_neg h5])
        have h6 : b.length ≤ 16777216 := by simp only [most] at h5; omega
        clear HPR h5
        go_wp2_with fail
        refine bodyPost_ret (results_tmp2 rfl _ _ _) rfl ?_
        refine ⟨_, rfl, HG2.out, ?_⟩
        unfold PackV
        rw [HP.out]
        exact ⟨_, rfl, HO4.out⟩
end Go.Proofs.Ytmlajcbabimkjaa
/-
  Words as items: rlp.Big and the reference's Big.
  Conditions: none.
-/
namespace Go.Proofs.Ytmlajcbabimkjaa
set_option linter.unusedVariables false
open Go.RowKit Mono Rlp
end Go.Proofs.Ytmlajcbabimkjaa
/-
  Numbers as words: the reference's Of, Int, IntOf; Num.
  Conditions: none.
-/
namespace Go.Proofs.Ytmlajcbabimkjaa
set_option linter.unusedVariables false
open Go.RowKit Mono Rlp
end Go.Proofs.Ytmlajcbabimkjaa
/-
  Items' bytes, numbers and words of both sides, as the abstract machine calls them.
  Conditions: none.
-/
namespace Go.Proofs.Ytmlajcbabimkjaa
set_option linter.unusedVariables false
open Go.RowKit Mono Rlp
namespace E
theorem packV_read {ok : Nat → Prop} {w w' : World} {x : Raw} {v : Value} (h : PackV w.heap.size x v w') : ReadR (fun b => (ok b ∨ w.heap.size ≤ b) ∧ b < w'.heap.size) w' (packD (packed x)) v := by
  unfold PackV at h
  unfold packD
  cases hp : packed x with
  | none =>
    rw [hp] at h
    rw [h]
    exact tpl2 (v_mk rfl) (v_mk rfl)
  | some b =>
    rw [hp] at h
    obtain ⟨vb, rfl, ho⟩ := h
    have h1 := ownB_P ho
    exact tpl2 ((readV_one rfl).2 (by rw [Reads]; exact ⟨_, rfl, h1.mono (fun b hb => more_new b hb) fun _ _ => rfl⟩)) (v_mk rfl)
theorem f_Pack (x : Raw) : Fn 46 [dItem x] (· = packD (packed x)) := ⟨fun ok w xs hok hr => by
  obtain ⟨v, rfl, h⟩ := one_arg hr
  refine (rlp_pack v x w (isItem_of hok h)).mono ?_
  rintro e w' ⟨v', rfl, hg, hv⟩
  exact ⟨hg, _, _, rfl, rfl, packV_read hv⟩⟩
theorem f_rPack (x : Raw) : Fn 16 [dItem x] (· = packD (packed x)) := ⟨fun ok w xs hok hr => by
  obtain ⟨v, rfl, h⟩ := one_arg hr
  refine (ref_PackO v x w (isItem_of hok h)).mono ?_
  rintro e w' ⟨v', rfl, hg, hv⟩
  exact ⟨hg, _, _, rfl, rfl, packV_read hv⟩⟩
theorem f_rBytes (l : List UInt8) : Fn 14 [.bs l] (· = .val (dItem (.mk false l []))) := by
  refine Fn.walk 5 Try.func14 rfl Try.ntmps14 (by simp) fun X => ?_
  repeat
    (first
     | (apply P_move; (iterate 3 exact rfl)) | (apply P_build; (iterate 7 exact rfl)) | (apply P_alloc; exact rfl; exact rfl; exact rfl; intro _)
     | (apply P_store; exact rfl; (focus (repeat first | exact .z | apply SetAt.s | apply SetAtF.s)); (iterate 4 exact rfl)) | apply EL.nil | ((with_reducible apply EK.then_normal); apply EK.code)
     | (with_reducible first | apply EC.seq | apply EC.region | apply EC.skip | apply EC.label | apply EC.block | apply EC.exit | apply EC.ret | apply EK.in_normal | apply EK.in_same | apply EK.in_ret | apply EK.then_ret | apply EK.then_exit))
  refine EK.retc1r 0 rfl rfl rfl rfl ?_ rfl
  (repeat first | exact RefineL.refl _ _ | exact RL.nil | exact Rf.same | exact Rf.bs0 | exact Rf.sl0 | (apply Rf.fact; (focus (simp; done)); exact rfl) | apply Rf.tup | apply RL.cons)
theorem f_rList (xs : List Raw) : Fn 15 [.sl 3 (dItems xs)] (· = .val (dItem (.mk true [] xs))) := by
  refine Fn.walk 5 Try.func15 rfl Try.ntmps15 (by simp) fun X => ?_
  repeat
    (first
     | (apply P_move; (iterate 3 exact rfl)) | (apply P_build; (iterate 7 exact rfl)) | (apply P_alloc; exact rfl; exact rfl; exact rfl; intro _)
     | (apply P_store; exact rfl; (focus (repeat first | exact .z | apply SetAt.s | apply SetAtF.s)); (iterate 4 exact rfl)) | apply EL.nil | ((with_reducible apply EK.then_normal); apply EK.code)
     | (with_reducible first | apply EC.seq | apply EC.region | apply EC.skip | apply EC.label | apply EC.block | apply EC.exit | apply EC.ret | apply EK.in_normal | apply EK.in_same | apply EK.in_ret | apply EK.then_ret | apply EK.then_exit))
  refine EK.retc1r 0 rfl rfl rfl rfl ?_ rfl
  (repeat first | exact RefineL.refl _ _ | exact RL.nil | exact Rf.same | exact Rf.bs0 | exact Rf.sl0 | (apply Rf.fact; (focus (simp; done)); exact rfl) | apply Rf.tup | apply RL.cons)
end E
end Go.Proofs.Ytmlajcbabimkjaa
/-
  Tries' nodes: what they read as, their items and bytes (plain); shape.texts.
  Conditions: none.
-/
namespace Go.Proofs.Ytmlajcbabimkjaa
set_option linter.unusedVariables false
open Go.RowKit Mono Rlp
namespace E
theorem FnM.frzT {f : FuncId} {ds : List D} {os : List Obj} {Φ : R → List Obj → Prop} (e z : Nat) (h : FnM f ds os (fun r os' => ∃ v ds' rest, r = .val (.v v) ∧ os' = .row v e z ds' :: rest ∧ Φ (.val (.sl z ds')) rest)) : FnM f ds os Φ := ⟨fun ok w xs h1 h2 h3 => (h.go ok w xs h1 h2 h3).mono fun en w' ⟨u, r, os', e1, ⟨v, ds', rest, e2, e3, hΦ⟩, ht, hv⟩ => by
  subst e2 e3
  obtain rfl := (readV_v.1 hv).2
  have hk : ∀ b, okM ok os w (.row u e z ds' :: rest) w' b → okM ok os w rest w' b := fun b hb => ⟨hb.1, hb.2.1, fun o ho => hb.2.2 o (List.mem_cons_of_mem _ ho)⟩
  obtain ⟨rows, ⟨g1, hmine⟩, g2⟩ := ht.at_ (.row u e z ds') List.mem_cons_self
  have hap := List.pairwise_cons.1 ht.apart
  refine ⟨u, .val (.sl z ds'), rest, e1, hΦ, ⟨ht.gr, hap.2, fun o ho => (ht.at_ o (List.mem_cons_of_mem _ ho)).move hk (fun _ _ => rfl) fun _ _ => rfl⟩, ?_⟩
  obtain ⟨A, c, rfl, hc1, hc2⟩ := own_form g1
  refine (readV_one rfl).2 ?_
  rw [Reads]
  refine ⟨A, c, rows, rfl, hc1, hc2, fun e => by subst e; exact own_none g1, fun hn => ?_, ReadsRows.mono hk (fun _ _ => rfl) z ds' rows g2⟩
  obtain ⟨b, o, rfl, hb, hc⟩ := own_RdP g1 hn
  exact ⟨b, o, rfl, ⟨(hmine b rfl).elim (fun h => .inr (.inl h)) (fun h => .inr (.inr h)), hb.2, fun p hp e => hap.1 p hp b rfl e⟩, hc⟩⟩
inductive Tn where
  | nil
  | leaf (p v : List UInt8)
  | ext (p : List UInt8) (k : Tn)
  | br (ks : Nat → Tn) (v : List UInt8)
def dT : Tn → D
  | .nil => .v .nilIface
  | .leaf p v => .ifc 165 (.pd (.tup [.bs p, .bs v]))
  | .ext p k => .ifc 168 (.pd (.tup [.bs p, dT k]))
  | .br ks v => .ifc 171 (.pd (.tup [.tup ((List.range 16).map fun i => dT (ks i)), .bs v]))
theorem dT_one (t : Tn) : (dT t).size = 1 ∧ (dT t).agg = false := by cases t <;> exact ⟨rfl, rfl⟩
def pkB (x : Raw) : List UInt8 := (packed x).getD []
def refI (x : Raw) : Raw := if (pkB x).length < 32 then x else .mk false (hash (pkB x)) []
def Tn.isNil : Tn → Bool
  | .nil => true
  | _ => false
def itemT : Tn → Raw
  | .nil => .mk true [] []
  | .leaf p v => .mk true [] [.mk false (ppk p true) [], .mk false v []]
  | .ext p k => .mk true [] [.mk false (ppk p false) [], if k.isNil then .mk false [] [] else refI (itemT k)]
  | .br ks v => .mk true [] ((List.range 16).map (fun i => if (ks i).isNil then .mk false [] [] else refI (itemT (ks i))) ++ [.mk false v []])
def refT (t : Tn) : Raw := if t.isNil then .mk false [] [] else refI (itemT t)
def sumT (t : Tn) : List UInt8 := if t.isNil then root0 else hash (pkB (itemT t))
def Tn.ok : Tn → Prop
  | .nil => True
  | .leaf p v => p.length ≤ 536870912
  | .ext p k => p.length ≤ 536870912 ∧ k.ok
  | .br ks v => ∀ i, (ks i).ok
set_option maxRecDepth 20000 in
set_option maxHeartbeats 4000000 in
theorem texts1 (l : List UInt8) : FnM 120 [.sl 1 [.bs l]] [] (fun r os' => ∃ v, r = .val (.v v) ∧ os' = [.row v 41 3 [dItem (.mk false l [])]]) := by
  refine FnM.walk 19 Try.func120 rfl Try.ntmps120 (by simp) fun X => ?_
  repeat
    (first
     | (apply P_move; (iterate 3 exact rfl)) | (apply P_assign; (iterate 3 exact rfl)) | (apply P_lensl; (iterate 4 exact rfl)) | apply EL.nil | ((with_reducible apply EK.then_normal); apply EK.code)
     | (with_reducible first | apply EC.seq | apply EC.region | apply EC.skip | apply EC.label | apply EC.block | apply EC.exit | apply EC.ret | apply EK.in_normal | apply EK.in_same | apply EK.in_ret | apply EK.then_ret | apply EK.then_exit))
  refine EC.le (Le.row 41 3) ?_
  refine EC.loopN 2 (EK.round ?_)
  repeat
    (first
     | (apply P_buildR (d' := dItem (.mk false l [])); (iterate 5 exact rfl); (focus ((repeat first | exact RefineL.refl _ _ | exact RL.nil | exact Rf.same | exact Rf.bs0 | exact Rf.sl0 | (apply Rf.fact; (focus (simp; done)); exact rfl) | apply Rf.tup | apply RL.cons))); (iterate 2 exact rfl))
     | (apply P_move; (iterate 3 exact rfl)) | (apply P_assign; (iterate 3 exact rfl)) | (apply P_loadpd; (iterate 5 exact rfl))
     | (apply P_cmp (b := true); (iterate 2 exact rfl); (focus (first | (simp [cmpI]; done) | (simp [cmpI]; omega))); (iterate 2 exact rfl))
     | (apply P_cmp (b := false); (iterate 2 exact rfl); (focus (first | (simp [cmpI]; done) | (simp [cmpI]; omega))); (iterate 2 exact rfl))
     | (apply P_ar; (iterate 3 exact rfl); (focus omega); (focus omega); (iterate 2 exact rfl))
     | (apply P_index; (iterate 4 exact rfl); (focus (first | exact ⟨by decide, rfl⟩ | (refine ⟨by omega, ?_⟩; rw [Int.toNat_natCast]; assumption))); (iterate 2 exact rfl))
     | (apply P_lit; (iterate 9 exact rfl))
     | ((apply P_append; exact rfl; (focus (repeat first | exact .z | apply SetAt.s | apply SetAtF.s)); (iterate 5 exact rfl); (focus (constructor <;> (first | (simp; done) | (simp; omega))))); intro _)
     | ((with_reducible apply EK.then_normal); apply EK.round) | apply EL.nil | ((with_reducible apply EK.then_normal); apply EK.code) | (apply EC.cond_true; exact rfl) | (apply EC.cond_false; exact rfl)
     | (with_reducible first | apply EC.seq | apply EC.region | apply EC.skip | apply EC.label | apply EC.block | apply EC.exit | apply EC.ret | apply EK.in_normal | apply EK.in_same | apply EK.in_ret | apply EK.then_ret | apply EK.then_exit))
  rename_i v
  exact EK.retM1 rfl rfl ⟨v, rfl, rfl⟩
set_option maxRecDepth 20000 in
set_option maxHeartbeats 4000000 in
theorem texts2 (l m : List UInt8) : FnM 120 [.sl 1 [.bs l, .bs m]] [] (fun r os' => ∃ v, r = .val (.v v) ∧ os' = [.row v 41 3 [dItem (.mk false l []), dItem (.mk false m [])]]) := by
  refine FnM.walk 19 Try.func120 rfl Try.ntmps120 (by simp) fun X => ?_
  repeat
    (first
     | (apply P_move; (iterate 3 exact rfl)) | (apply P_assign; (iterate 3 exact rfl)) | (apply P_lensl; (iterate 4 exact rfl)) | apply EL.nil | ((with_reducible apply EK.then_normal); apply EK.code)
     | (with_reducible first | apply EC.seq | apply EC.region | apply EC.skip | apply EC.label | apply EC.block | apply EC.exit | apply EC.ret | apply EK.in_normal | apply EK.in_same | apply EK.in_ret | apply EK.then_ret | apply EK.then_exit))
  refine EC.le (Le.row 41 3) ?_
  refine EC.loopN 3 (EK.round ?_)
  repeat
    (first
     | (apply P_buildR (d' := dItem (.mk false l [])); (iterate 5 exact rfl); (focus ((repeat first | exact RefineL.refl _ _ | exact RL.nil | exact Rf.same | exact Rf.bs0 | exact Rf.sl0 | (apply Rf.fact; (focus (simp; done)); exact rfl) | apply Rf.tup | apply RL.cons))); (iterate 2 exact rfl))
     | (apply P_buildR (d' := dItem (.mk false m [])); (iterate 5 exact rfl); (focus ((repeat first | exact RefineL.refl _ _ | exact RL.nil | exact Rf.same | exact Rf.bs0 | exact Rf.sl0 | (apply Rf.fact; (focus (simp; done)); exact rfl) | apply Rf.tup | apply RL.cons))); (iterate 2 exact rfl))
     | (apply P_move; (iterate 3 exact rfl)) | (apply P_assign; (iterate 3 exact rfl)) | (apply P_loadpd; (iterate 5 exact rfl))
     | (apply P_cmp (b := true); (iterate 2 exact rfl); (focus (first | (simp [cmpI]; done) | (simp [cmpI]; omega))); (iterate 2 exact rfl))
     | (apply P_cmp (b := false); (iterate 2 exact rfl); (focus (first | (simp [cmpI]; done) | (simp [cmpI]; omega))); (iterate 2 exact rfl))
     | (apply P_ar; (iterate 3 exact rfl); (focus omega); (focus omega); (iterate 2 exact rfl))
     | (apply P_index; (iterate 4 exact rfl); (focus (first | exact ⟨by decide, rfl⟩ | (refine ⟨by omega, ?_⟩; rw [Int.toNat_natCast]; assumption))); (iterate 2 exact rfl))
     | (apply P_lit; (iterate 9 exact rfl))
     | ((apply P_append; exact rfl; (focus (repeat first | exact .z | apply SetAt.s | apply SetAtF.s)); (iterate 5 exact rfl); (focus (constructor <;> (first | (simp; done) | (simp; omega))))); intro _)
     | ((with_reducible apply EK.then_normal); apply EK.round) | apply EL.nil | ((with_reducible apply EK.then_normal); apply EK.code) | (apply EC.cond_true; exact rfl) | (apply EC.cond_false; exact rfl)
     | (with_reducible first | apply EC.seq | apply EC.region | apply EC.skip | apply EC.label | apply EC.block | apply EC.exit | apply EC.ret | apply EK.in_normal | apply EK.in_same | apply EK.in_ret | apply EK.then_ret | apply EK.then_exit))
  rename_i v
  exact EK.retM1 rfl rfl ⟨v, rfl, rfl⟩
theorem f_texts1 (l : List UInt8) : Fn 120 [.sl 1 [.bs l]] (· = .val (.sl 3 [dItem (.mk false l [])])) :=
  (FnM.frzT (Φ := fun r os' => r = .val (.sl 3 [dItem (.mk false l [])]) ∧ os' = []) 41 3 ((texts1 l).mono fun r os' ⟨v, h1, h2⟩ => ⟨v, _, [], h1, h2, rfl, rfl⟩)).toFn
theorem f_texts2 (l m : List UInt8) : Fn 120 [.sl 1 [.bs l, .bs m]] (· = .val (.sl 3 [dItem (.mk false l []), dItem (.mk false m [])])) :=
  (FnM.frzT (Φ := fun r os' => r = .val (.sl 3 [dItem (.mk false l []), dItem (.mk false m [])]) ∧ os' = []) 41 3 ((texts2 l m).mono fun r os' ⟨v, h1, h2⟩ => ⟨v, _, [], h1, h2, rfl, rfl⟩)).toFn
end E
end Go.Proofs.Ytmlajcbabimkjaa
/-
  bytes.Compare: the order of bytes.
  Conditions: none.
-/
namespace Go.Proofs.Ytmlajcbabimkjaa
set_option linter.unusedVariables false
open Go.RowKit Mono
abbrev cmpB (l m : List UInt8) : Int := Lib.compareBytes l m
theorem less_cmp : ∀ a b : List UInt8, Op.bytesLess a b = decide (cmpB a b < 0)
  | [], [] => rfl
  | _ :: _, [] => rfl
  | [], _ :: _ => rfl
  | a :: x, b :: y => by
    rw [Op.bytesLess, cmpB, Lib.compareBytes, less_cmp x y]
    by_cases h1 : a < b
    · simp [h1]
    · by_cases h2 : b < a
      · have h3 : ¬ a = b := fun e => by subst e; exact h1 h2
        simp [h1, h2, h3]
      · have h3 : a = b := by
          apply UInt8.toNat_inj.1
          have := UInt8.not_lt.1 h1
          have := UInt8.not_lt.1 h2
          exact Nat.le_antisymm (UInt8.le_iff_toNat_le.1 (UInt8.not_lt.1 h2)) (UInt8.le_iff_toNat_le.1 (UInt8.not_lt.1 h1))
        subst h3
        simp [h1]
theorem run_bytesOf {w : World} {v : Value} {l : List UInt8} (h : IsB w v l) : (Extern.Bytes.bytesOf v).run Try.prog w = .ok (bs l) w := by
  obtain ⟨A, c, rfl, h1, h2, hr⟩ := h
  cases A with
  | none =>
    have : l = [] := by
      by_cases hl : bvs l = []
      · simpa [bvs] using hl
      · obtain ⟨b, o, e, _⟩ := hr hl
        cases e
    subst this
    rfl
  | some ad =>
    have := Lib.run_loadBytesX (P := Try.prog) (w := w) (l.map fun x => (x.toNat : Int)) ad .empty fun j x hx => by
      rw [List.getElem?_map] at hx
      obtain ⟨y, hy, rfl⟩ := Option.map_eq_some_iff.1 hx
      obtain ⟨b, o, e, _, hc⟩ := hr (fun e => by have := congrArg List.length e; rw [bvs_length] at this; simp at this; rw [this] at hy; simp at hy)
      injection e with e
      subst e
      rw [add_none]
      exact hc j _ (by simp [bvs, bv, hy])
    rw [List.length_map] at this
    show (Extern.Bytes.loadBytes ad l.length .empty).run Try.prog w = _
    rw [this]
    have h2 : Lib.bytesOf (l.map fun x => (x.toNat : Int)) = l := by
      simp only [Lib.bytesOf, List.map_map]
      refine (List.map_congr_left fun x _ => ?_).trans (List.map_id l)
      simp
    rw [h2]
    simp [bs]
theorem run_compare {w : World} {v u : Value} {l m : List UInt8} (h1 : IsB w v l) (h2 : IsB w u m) : (Extern.BytealgCompare.compare #[v, u]).run Try.prog w = .ok (.int .i64 (cmpB l m)) w := by
  change Sem.run Try.prog (do pure (goInt (Extern.BytealgCompare.cmp (← Extern.Bytes.bytesOf v) (← Extern.Bytes.bytesOf u)))) w = _
  simp only [Sem.run_bind, run_bytesOf h1, run_bytesOf h2, Result.andThen_ok, Sem.run_pure, Lib.cmp_eq]
  rfl
set_option maxRecDepth 20000 in
set_option maxHeartbeats 1000000 in
theorem bytes_CompareW (v u : Value) (l m : List UInt8) (w : World) (h1 : IsB w v l) (h2 : IsB w u m) : Calls Try.prog 43 #[v, u] w fun e w' => e = .returned (.int .i64 (cmpB l m)) ∧ w' = w := by
  have hr := run_compare h1 h2
  go_enter Try.func43, Try.ntmps43
  go_wp2_with fail
  rw [run_callFunc_extern Try.func74 (by kernel_rfl) (by kernel_rfl) (by kernel_rfl) (e := Extern.BytealgCompare.compare) (by kernel_rfl), hr]
  simp only [Result.andThen]
  rw [Oper.upon_value]
  go_wp2_with fail
  exact bodyPost_ret (results_tmp rfl _ _ _) rfl ⟨rfl, rfl⟩
theorem bl_iff (a b : List UInt8) : Op.bytesLess a b = decide (a < b) := Go.Proofs.bytesLess_eq a b
theorem cmpB_lt (a b : List UInt8) : decide (cmpB a b < 0) = decide (a < b) := by rw [← less_cmp, bl_iff]
end Go.Proofs.Ytmlajcbabimkjaa
/-
  slices.SortFunc at rows of anything, by a key of bytes: a permutation in the keys' order.
  Conditions: none.
-/
namespace Go.Proofs.Ytmlajcbabimkjaa
set_option linter.unusedVariables false
open Go.RowKit Mono Rlp Go.Sort
namespace E
theorem heap_rowT {w : World} {g n : Nat} {os : Array Go.Obj} {cur : Array Value} {e : TypeId} {fr : Nat × Nat} (F : Array Value) (hb : w.heap[g]? = some (.cells cur e fr)) :
    (grow (putRow id (Sort.ahead w n) g 0 F) os).heap[g]? = some (.cells (putCells id 0 F cur) e fr) := by
  have hg : g < w.heap.size := (Array.getElem?_eq_some_iff.1 hb).1
  rw [heap_grow_old _ _ (by simpa using hg)]
  simp [putRow, mapBlock, Sort.ahead, Array.getElem?_modify, hb, onCells]
theorem grown_rowT {w : World} {g n : Nat} {os : Array Go.Obj} (F : Array Value) : w.grownBy (grow (putRow id (Sort.ahead w n) g 0 F) os) (some g) := by
  refine ⟨rfl, rfl, rfl, by simp, fun k hk hne => ?_⟩
  rw [heap_grow_old _ _ (by simpa using hk)]
  have : g ≠ k := fun e => hne (by rw [e])
  simp [putRow, mapBlock, Sort.ahead, Array.getElem?_modify, this]
theorem take_rowT (cur F : Array Value) (h : F.size ≤ cur.size) : (putCells id 0 F cur).toList.take F.size = F.toList := by
  apply List.ext_getElem?
  intro j
  by_cases hj : j < F.size
  · rw [List.getElem?_take_of_lt hj, Array.getElem?_toList]
    simp [putCells, hj, show j < cur.size by omega]
  · rw [List.getElem?_take_eq_none (by omega), List.getElem?_eq_none (by simp; omega)]
abbrev El {κ : Type} (dk : κ → D) (ok : Nat → Prop) (w : World) := {x : List Value × κ // Reads ok w (dk x.2) x.1}
theorem els {κ : Type} {dk : κ → D} {ok : Nat → Prop} {w : World} {z : Nat} : ∀ (ks : List κ) (rows : List (List Value)), ReadsRows ok w z (ks.map dk) rows → ∃ es : List (El dk ok w), es.map (·.1.1) = rows ∧ es.map (·.1.2) = ks
  | [], rows, h => by
    rw [List.map_nil, ReadsRows] at h
    exact ⟨[], h.symm, rfl⟩
  | k :: ks, rows, h => by
    rw [List.map_cons, ReadsRows] at h
    obtain ⟨r, rest, rfl, _, h2, h3⟩ := h
    obtain ⟨es, e1, e2⟩ := els ks rest h3
    exact ⟨⟨(r, k), h2⟩ :: es, by rw [List.map_cons, e1], by rw [List.map_cons, e2]⟩
theorem els_back {κ : Type} {dk : κ → D} {ok ok' : Nat → Prop} {w w' : World} {z : Nat} (hz : ∀ x, (dk x).size = z) (hm : ∀ d cs, Reads ok w d cs → Reads ok' w' d cs) : ∀ es : List (El dk ok w), ReadsRows ok' w' z ((es.map (·.1.2)).map dk) (es.map (·.1.1))
  | [] => by rw [List.map_nil, List.map_nil, List.map_nil, ReadsRows]
  | e :: es => by
    rw [List.map_cons, List.map_cons, List.map_cons, ReadsRows]
    exact ⟨_, _, rfl, (Reads.len _ _ e.2).trans (hz _), hm _ _ e.2, els_back hz hm es⟩
theorem flat_atE {α : Type} [Inhabited α] {enc : α → List Value} {n : Nat} (hn : 0 < n) (hk : ∀ x, (enc x).length = n) : ∀ (ks : List α) (t : Nat), t < ks.length * n → (ks.map enc).flatten[t]? = some ((enc (ks[t / n]!))[t % n]!)
  | [], t, h => by simp at h
  | k :: ks, t, h => by
    rw [List.map_cons, List.flatten_cons]
    by_cases ht : t < n
    · rw [List.getElem?_append_left (by rw [hk]; omega), Nat.div_eq_of_lt ht, Nat.mod_eq_of_lt ht]
      simp [hk, ht]
    · rw [List.getElem?_append_right (by rw [hk]; omega), hk, flat_atE hn hk ks (t - n) (by simp [Nat.add_mul] at h; omega)]
      have h1 : t / n = (t - n) / n + 1 := by
        conv => lhs; rw [show t = t - n + n by omega, Nat.add_div_right _ hn]
      have h2 : t % n = (t - n) % n := by
        conv => lhs; rw [show t = t - n + n by omega, Nat.add_mod_right]
      rw [h1, h2]
      simp
theorem flatE_list {α : Type} [Inhabited α] {enc : α → List Value} {n : Nat} (hn : 0 < n) (hk : ∀ x, (enc x).length = n) (ks : List α) : (flatK enc n ks.toArray).toList = (ks.map enc).flatten := by
  have hl : (ks.map enc).flatten.length = ks.length * n := by
    have : ∀ ks : List α, (ks.map enc).flatten.length = ks.length * n := fun ks => by
      induction ks with
      | nil => simp
      | cons k ks ih => rw [List.map_cons, List.flatten_cons, List.length_append, ih, hk, List.length_cons, Nat.add_mul, Nat.one_mul, Nat.add_comm]
    exact this ks
  refine List.ext_getElem? fun t => ?_
  by_cases ht : t < ks.length * n
  · rw [flat_atE hn hk ks t ht, Array.getElem?_toList]
    have hs : t < (flatK enc n ks.toArray).size := by simpa using ht
    have := get_flatK enc n ks.toArray t (by simpa using ht)
    rw [getElem!_pos _ t hs] at this
    rw [Array.getElem?_eq_getElem hs, this]
    simp
  · rw [List.getElem?_eq_none (by simp; omega), List.getElem?_eq_none (by omega)]
theorem swoE {α : Type} (key : α → List UInt8) : SWO (Go.Proofs.ltOf fun x y : α => cmpB (key x) (key y)) := by
  have h : ∀ x y : α, Go.Proofs.ltOf (fun x y : α => cmpB (key x) (key y)) x y = decide (key x < key y) := fun x y => cmpB_lt (key x) (key y)
  refine ⟨fun x => ?_, fun x y z h1 h2 => ?_, fun x y z h1 h2 => ?_⟩
  · rw [h]
    simp [List.lt_irrefl]
  · rw [h] at h1 h2 ⊢
    simp only [decide_eq_true_eq] at h1 h2 ⊢
    exact List.lt_trans h1 h2
  · rw [h] at h1 h2 ⊢
    simp only [decide_eq_false_iff_not, List.not_lt] at h1 h2 ⊢
    exact List.le_trans h2 h1
theorem sort_gen {κ : Type} {ρ : Go.Shelf.Ren} (L : SlLaysF0.n6 Try.prog ρ) (T z : Nat) (hz : 0 < z) (aE : ∀ w, (isAgg (ρ.t 24)).run Try.prog w = .ok true w) (zE : ∀ w, (Go.sizeOf (ρ.t 24)).run Try.prog w = .ok z w)
    (dk : κ → D) (hag : ∀ x, (dk x).agg = true) (hsz : ∀ x, (dk x).size = z) (key : κ → List UInt8) (x0 : κ) (cs0 : List Value) (hx0 : ∀ ok w, Reads ok w (dk x0) cs0) (cf : FuncId)
    (hc : ∀ (ok : Nat → Prop) (w : World), (∀ b, ok b → b < w.heap.size) → ∀ x y v u, ReadV ok w (dk x) v → ReadV ok w (dk y) u → Calls Try.prog cf #[v, u] w fun e w' => e = .returned (.int .i64 (cmpB (key x) (key y))) ∧ ∃ q os', w' = grow (w.drewN q) os')
    (ec : ∀ args w, (callFunc cf args).run Try.prog w = .ok (.enter cf args) w) (v : Value) (ks : List κ) (hl : ks.length < 4611686018427387904) :
    FnM (ρ.f 6) [.v v, .v (.func (.func cf) #[] #[])] [.row v T z (ks.map dk)] (fun r os' => r = .tpl [] ∧ ∃ ks' : List κ, ks'.Perm ks ∧ ks'.Pairwise (fun x y => key x ≤ key y) ∧ os' = [.row v T z (ks'.map dk)]) := by
  constructor
  intro ok w xs hok hown hr
  obtain ⟨x1, _, rfl, hx1, x2, _, rfl, hx2, rfl⟩ := hr
  obtain rfl := (readV_v.1 hx1).2
  obtain rfl := (readV_v.1 hx2).2
  obtain ⟨rows, ⟨hrow, hbase⟩, hrows⟩ := hown.at_ _ (List.mem_cons_self ..)
  rw [List.length_map] at hrow
  rcases hrow.2 with ⟨rfl, h0⟩ | ⟨g, cap, cur, rfl, _, hgb, r1, r2, r3, r4⟩
  · obtain rfl : ks = [] := List.eq_nil_of_length_eq_zero h0
    rw [List.map_nil] at hrows
    refine (AnyF.slices_SortFunc_none L none 0 (.func (.func cf) #[] #[]) w).mono ?_
    rintro e w' ⟨rfl, rfl⟩
    refine ⟨_, .tpl [], _, rfl, ⟨rfl, [], .nil, .nil, rfl⟩, ⟨.refl _, hown.apart, fun o ho => ?_⟩, [], rfl, rfl⟩
    obtain rfl := List.mem_singleton.1 ho
    exact ⟨[], ⟨⟨by simp, .inl ⟨rfl, rfl⟩⟩, fun b hb => by cases hb⟩, by rw [List.map_nil, ReadsRows]⟩
  · have hlt := (Array.getElem?_eq_some_iff.1 hgb).1
    have hng : ∀ b, ok b → b ≠ g := fun b hb e => hown.off b ⟨_, List.mem_cons_self .., by rw [e]; rfl⟩ hb
    obtain ⟨es, rfl, rfl⟩ := els ks rows hrows
    letI : Inhabited (El dk ok w) := ⟨⟨(cs0, x0), hx0 ok w⟩⟩
    have hk : ∀ x : El dk ok w, x.1.1.length = z := fun x => (Reads.len _ _ x.2).trans (hsz _)
    have hone : ∀ x : El dk ok w, ∀ u ∈ x.1.1, u.oneCell' = true := fun x => Reads.one _ _ x.2
    rw [List.length_map] at hl
    simp only [List.length_map] at r1 r3 r4 hrow
    have hH : HoldsK (fun x : El dk ok w => x.1.1) z w g 0 es.toArray := fun j hj => by
      have hj' : j < es.length * z := by simpa using hj
      have h1 : (cur.toList.take (es.length * z))[j]? = (es.map fun x : El dk ok w => x.1.1).flatten[j]? := by rw [r4]
      rw [List.getElem?_take_of_lt hj', ← flatE_list hz hk] at h1
      refine ⟨?_, by simp [World.frozen?, hgb]⟩
      rw [cell_of_row w g (0 + j) cur T (0, 0) hgb, Nat.zero_add, ← Array.getElem?_toList, h1, Array.getElem?_toList, Array.getElem?_eq_getElem hj, getElem!_pos _ j hj]
      rfl
    have hkeep : ∀ (n : Nat) (F : Array Value) (os : Array Go.Obj) (b : Nat), ok b → (grow (putRow id (Sort.ahead w n) g 0 F) os).heap[b]? = w.heap[b]? := fun n F os b hb => (grown_rowT (w := w) (g := g) (n := n) (os := os) F).block b (hok b hb) fun e => hng b hb (Option.some.inj e)
    have hcmp : CmpLays Try.prog cf #[] (fun x : El dk ok w => x.1.1) z (fun x y : El dk ok w => cmpB (key x.1.2) (key y.1.2)) g 0 es.toArray.size w := fun m os dk' hs x y => by
      have hm : ∀ d cs, Reads ok w d cs → Reads ok (sortWorldK (fun x : El dk ok w => x.1.1) z w g 0 m dk' os) d cs := fun d cs h => Reads.mono (fun _ h => h) (fun p hp => World.cell?_of_block (hkeep m _ os p.block hp)) d cs h
      refine (hc ok _ (fun b hb => Nat.lt_of_lt_of_le (hok b hb) (size_sortWorldK_c _ _ _ _ _ _ _ _)) x.1.2 y.1.2 _ _ ((readV_agg (hag _)).2 ⟨_, hm _ _ x.2, rfl⟩) ((readV_agg (hag _)).2 ⟨_, hm _ _ y.2, rfl⟩)).mono ?_
      rintro e w' ⟨rfl, h⟩
      exact ⟨rfl, h⟩
    have hsort := AnyQ.slices_SortFunc L z aE zE (fun x : El dk ok w => x.1.1) hk hone (fun x y : El dk ok w => cmpB (key x.1.2) (key y.1.2)) (swoE fun x : El dk ok w => key x.1.2) cf #[] g 0 cap es.toArray w ec hcmp hH hlt (by simpa using hl)
    have hl0 : (es.map fun x : El dk ok w => x.1.2).length = es.toArray.size := by simp
    rw [hl0]
    refine hsort.mono ?_
    rintro e w' ⟨rfl, d', n, os, hP, hS, rfl⟩
    have hd : d'.toList.Perm es := by
      obtain ⟨hs, _, hp⟩ := hP
      rw [show es.toArray.size = d'.size from hs.symm, Array.extract_size, hs, Array.extract_size] at hp
      simpa using hp
    have hdl : d'.toList.length = es.length := hd.length_eq
    have hsorted : (d'.toList.map fun x : El dk ok w => x.1.2).Pairwise fun x y => key x ≤ key y := by
      rw [List.pairwise_map, List.pairwise_iff_getElem]
      intro i j hi hj hij
      have := hS i j (Nat.zero_le _) hij (by simpa [hdl] using hj)
      have hi' : i < d'.size := by simpa using hi
      have hj' : j < d'.size := by simpa using hj
      rw [getElem!_pos d' j hj', getElem!_pos d' i hi', show ltOf (fun x y : El dk ok w => cmpB (key x.1.2) (key y.1.2)) d'[j] d'[i] = decide (key d'[j].1.2 < key d'[i].1.2) from cmpB_lt _ _] at this
      simpa using this
    have hg := grown_rowT (w := w) (g := g) (n := n) (os := os) (flatK (fun x : El dk ok w => x.1.1) z d')
    have hh := heap_rowT (n := n) (os := os) (flatK (fun x : El dk ok w => x.1.1) z d') hgb
    have hF : (flatK (fun x : El dk ok w => x.1.1) z d').size = es.length * z := by rw [size_flatK]; rw [show d'.size = es.length by simpa using hdl]
    have htk := take_rowT cur (flatK (fun x : El dk ok w => x.1.1) z d') (by rw [hF, r3]; exact Nat.mul_le_mul_right _ r1)
    have hfl : (flatK (fun x : El dk ok w => x.1.1) z d').toList = (d'.toList.map fun x : El dk ok w => x.1.1).flatten := by rw [← flatE_list hz hk d'.toList]
    rw [hF, hfl] at htk
    refine ⟨_, .tpl [], _, rfl, ⟨rfl, d'.toList.map fun x : El dk ok w => x.1.2, hd.map _, hsorted, rfl⟩, ⟨⟨hg.os, hg.tape, hg.output, hg.size, fun k hk hn => hg.block k hk fun e => hn ?_⟩, .cons (fun _ h => by simp at h) .nil, fun o ho => ?_⟩, [], rfl, rfl⟩
    · cases e
      exact ⟨_, List.mem_cons_self .., rfl⟩
    · obtain rfl := List.mem_singleton.1 ho
      have hlen : ((d'.toList.map fun x : El dk ok w => x.1.2).map dk).length = es.length := by simp [← hdl]
      have hrd : ReadsRows (okM ok [.row (.slice (some ⟨g, 0, none⟩) es.toArray.size cap) T z ((es.map fun x : El dk ok w => x.1.2).map dk)] w [.row (.slice (some ⟨g, 0, none⟩) es.toArray.size cap) T z ((d'.toList.map fun x : El dk ok w => x.1.2).map dk)] (sortWorldK (fun x : El dk ok w => x.1.1) z w g 0 n d' os)) (sortWorldK (fun x : El dk ok w => x.1.1) z w g 0 n d' os) z ((d'.toList.map fun x : El dk ok w => x.1.2).map dk) (d'.toList.map fun x : El dk ok w => x.1.1) :=
        els_back hsz (fun d cs h => Reads.mono (fun b hb => ⟨.inl hb, Nat.lt_of_lt_of_le (hok b hb) hg.size, fun o ho => by
          obtain rfl := List.mem_singleton.1 ho
          intro e
          cases e
          exact hng _ hb rfl⟩) (fun p hp => World.cell?_of_block (hkeep n _ os p.block hp)) d cs h) d'.toList
      refine ⟨d'.toList.map fun x : El dk ok w => x.1.1, ⟨⟨?_, .inr ⟨g, cap, _, ?_, Nat.zero_le _, hh, ?_, r2, ?_, ?_⟩⟩, fun b hb => .inl ⟨_, List.mem_cons_self .., hb⟩⟩, hrd⟩
      · rw [← hfl, Array.length_toList, hF, hlen]
      · rw [hlen]
        rfl
      · rw [hlen]
        exact r1
      · simp [putCells, r3]
      · rw [hlen]
        exact htk
end E
end Go.Proofs.Ytmlajcbabimkjaa
/-
  The laying of slices.SortFunc, printed by the shelf's own tool.
  Conditions: none.
-/
namespace Go.Proofs.Ytmlajcbabimkjaa
open Go.Shelf
def sortPair_ren : Go.Shelf.Ren := ⟨fun | 6 => 93 | 15 => 115 | 14 => 114 | 28 => 133 | 29 => 134 | 20 => 125 | 21 => 126 | 22 => 127 | 23 => 128 | 24 => 129 | 25 => 130 | 26 => 131 | 27 => 132 | 46 => 145 | 47 => 146 | 48 => 147 | 49 => 148 | 50 => 149 | 57 => 154 | n => n, fun | 22 => 121 | 24 => 162 | 25 => 164 | 3 => 3 | 39 => 38 | 0 => 0 | 53 => 216 | 55 => 87 | 4 => 4 | 46 => 210 | 45 => 209 | 50 => 106 | 5 => 5 | 9 => 9 | 66 => 224 | 70 => 228 | 76 => 232 | 77 => 233 | n => n, fun | n => n⟩
theorem sortPair : Go.Proofs.SlLaysF0.n6 Try.prog sortPair_ren := {
  mixed := by kernel_rfl
  f6 := ⟨Try.f93.name, by decide, Try.func93.trans (congrArg some (by kernel_rfl))⟩
  f14 := ⟨Try.f114.name, by decide, Try.func114.trans (congrArg some (by kernel_rfl))⟩
  f15 := Try.func115.trans (congrArg some (by kernel_rfl))
  f20 := ⟨Try.f125.name, by decide, Try.func125.trans (congrArg some (by kernel_rfl))⟩
  f21 := ⟨Try.f126.name, by decide, Try.func126.trans (congrArg some (by kernel_rfl))⟩
  f22 := ⟨Try.f127.name, by decide, Try.func127.trans (congrArg some (by kernel_rfl))⟩
  f23 := ⟨Try.f128.name, by decide, Try.func128.trans (congrArg some (by kernel_rfl))⟩
  f24 := ⟨Try.f129.name, by decide, Try.func129.trans (congrArg some (by kernel_rfl))⟩
  f25 := ⟨Try.f130.name, by decide, Try.func130.trans (congrArg some (by kernel_rfl))⟩
  f26 := ⟨Try.f131.name, by decide, Try.func131.trans (congrArg some (by kernel_rfl))⟩
  f27 := ⟨Try.f132.name, by decide, Try.func132.trans (congrArg some (by kernel_rfl))⟩
  f28 := Try.func133.trans (congrArg some (by kernel_rfl))
  f29 := Try.func134.trans (congrArg some (by kernel_rfl))
  f46 := ⟨Try.f145.name, by decide, Try.func145.trans (congrArg some (by kernel_rfl))⟩
  f47 := Try.func146.trans (congrArg some (by kernel_rfl))
  f48 := Try.func147.trans (congrArg some (by kernel_rfl))
  f49 := ⟨Try.f148.name, by decide, Try.func148.trans (congrArg some (by kernel_rfl))⟩
  f50 := ⟨Try.f149.name, by decide, Try.func149.trans (congrArg some (by kernel_rfl))⟩
  f57 := ⟨Try.f154.name, by decide, Try.func154.trans (congrArg some (by kernel_rfl))⟩
  t0 := Try.underlying0
  a0 := Try.isAgg0
  z0 := Try.sizeOf0
  v0 := Try.zeroValue0
  t3 := Try.underlying3
  a3 := Try.isAgg3
  z3 := Try.sizeOf3
  v3 := Try.zeroValue3
  t4 := Try.underlying4
  a4 := Try.isAgg4
  z4 := Try.sizeOf4
  v4 := Try.zeroValue4
  t5 := Try.underlying5
  a5 := Try.isAgg5
  z5 := Try.sizeOf5
  v5 := Try.zeroValue5
  t9 := Try.underlying9
  a9 := Try.isAgg9
  z9 := Try.sizeOf9
  v9 := Try.zeroValue9
  t22 := Try.underlying121
  a22 := Try.isAgg121
  z22 := Try.sizeOf121
  v22 := Try.zeroValue121
  t25 := Try.underlying164
  a25 := Try.isAgg164
  z25 := Try.sizeOf164
  v25 := Try.zeroValue164
  t39 := Try.underlying38
  a39 := Try.isAgg38
  z39 := Try.sizeOf38
  v39 := Try.zeroValue38
  t45 := Try.underlying209
  a45 := Try.isAgg209
  z45 := Try.sizeOf209
  v45 := Try.zeroValue209
  t46 := Try.underlying210
  a46 := Try.isAgg210
  z46 := Try.sizeOf210
  v46 := Try.zeroValue210
  t50 := Try.underlying106
  a50 := Try.isAgg106
  z50 := Try.sizeOf106
  v50 := Try.zeroValue106
  t53 := Try.underlying216
  a53 := Try.isAgg216
  z53 := Try.sizeOf216
  v53 := Try.zeroValue216
  t55 := Try.underlying87
  a55 := Try.isAgg87
  z55 := Try.sizeOf87
  v55 := Try.zeroValue87
  t66 := Try.underlying224
  a66 := Try.isAgg224
  z66 := Try.sizeOf224
  v66 := Try.zeroValue224
  t70 := Try.underlying228
  a70 := Try.isAgg228
  z70 := Try.sizeOf228
  v70 := Try.zeroValue228
  t76 := Try.underlying232
  a76 := Try.isAgg232
  z76 := Try.sizeOf232
  v76 := Try.zeroValue232
  t77 := Try.underlying233
  a77 := Try.isAgg233
  z77 := Try.sizeOf233
  v77 := Try.zeroValue233 }
end Go.Proofs.Ytmlajcbabimkjaa
