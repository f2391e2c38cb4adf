/-
  Merged (wip/tools/merge.py): RefOwn, ECmp, EM, E11, E12, E13, New, E14, E15.
  Conditions: none.
-/
import Derived.Test.YtmlajcbabimkjaaZB11
import Derived.Test.YtmlajcbabimkjaaZB7
import Derived.Stop.BytesEq
import Derived.Carry
import Derived.MapKept
import Derived.Test.YtmlajcbabimkjaaZB2
import Derived.Laws.IdiomCopy
/-
  The reference's Pack: the bytes lie in new memory.
  Conditions: none.
-/
namespace Go.Proofs.Ytmlajcbabimkjaa
set_option linter.unusedVariables false
open Go.RowKit Mono Rlp
theorem own_block1 {w w0 : World} {B g : Nat} (b : UInt8) (h : w = w0.alloc (.cells #[bv b] 5)) (hg : w0.heap.size = g) (hb : B ≤ w0.heap.size) : OwnB w B (.slice (some ⟨g, 0, none⟩) 1 1) [b] := by
  subst h
  unfold OwnB
  exact own_lit w0 #[bv b] 5 1 1 g B hg hb (by simp [maxLen]) (by simp)
def PackOV (B : Nat) (r : Raw) : VP := fun v w => match packR r with
  | some b => ∃ vb, v = .tuple #[vb, .bool true] ∧ OwnB w B vb b
  | none => v = .tuple #[.slice none 0 0, .bool false]
theorem packOV_some {B : Nat} {r : Raw} {b : List UInt8} {v vb : Value} {w : World} (h : packR r = some b) (hv : v = .tuple #[vb, .bool true]) (hb : OwnB w B vb b) : PackOV B r v w := by unfold PackOV; rw [h]; exact ⟨vb, hv, hb⟩
theorem packOV_none {B : Nat} {r : Raw} {v : Value} {w : World} (h : packR r = none) (hv : v = .tuple #[.slice none 0 0, .bool false]) : PackOV B r v w := by unfold PackOV; rw [h]; exact hv
set_option maxHeartbeats 4000000 in
set_option maxRecDepth 20000 in
theorem ref_packO_bytes (vb vl : Value) (bs : List UInt8) (xs : List Raw) (w : World) (hv : IsB w vb bs) (hvl : ∃ A n c, vl = .slice A n c) : Calls Try.prog 35 #[.agg #[.bool false, vb, vl]] w (Ret (PackOV w.heap.size (.mk false bs xs)) w) := by
  obtain ⟨A, c, rfl, hc1, hc2, hr⟩ := hv
  obtain ⟨A9, n9, c9, rfl⟩ := hvl
  have HR := Lib.hid (hr.gr (gr_alloc w (.cells #[.bool false, .slice A bs.length c, .slice A9 n9 c9] 41)))
  unfold maxLen at hc2
  by_cases h0 : bs.length ≤ most
  · simp only [most] at h0
    by_cases h1 : bs.length = 1
    · obtain ⟨b, rfl⟩ := List.length_eq_one_iff.1 h1
      obtain ⟨bl, o, rfl, hbl, hcell⟩ := hr (by simp [bvs])
      have e1 := hcell 0 (bv b) rfl
      rw [Nat.add_zero] at e1
      unfold bv at e1
      clear hcell h1 hr
      have hbl2 := bv_lt b
      simp only [List.length_singleton] at hc1 ⊢
      by_cases h2 : b < 128
      · have h3 : b.toNat < 128 := UInt8.lt_iff_toNat_lt.1 h2
        have HM := Lib.hid (show packR (.mk false [b] xs) = some [b] by rw [packR, if_neg (by simp [most]), EB, if_pos ⟨rfl, h2⟩])
        clear h2
        go_enter Try.func35, Try.ntmps35
        go_wp2_with fail
        refine bodyPost_ret (results_tmp2 rfl _ _ _) rfl ?_
        refine ⟨_, rfl, (gr_alloc w _).trans (gr_alloc _ _), packOV_some HM.out rfl ?_⟩
        exact own_block1 (g := w.heap.size + 1) b rfl (by simp) (gr_alloc w _).size
      · have h3 : 128 ≤ b.toNat := Nat.not_lt.1 fun e => h2 (UInt8.lt_iff_toNat_lt.2 e)
        have HM := Lib.hid (show packR (.mk false [b] xs) = some (head 1 128 ++ [b]) by rw [packR, if_neg (by simp [most]), EB, if_neg (fun h => h2 h.2)]; rfl)
        clear h2
        go_enter Try.func35, Try.ntmps35
        go_wp2_with fail
        refine (ref_head 1 128 _ (by omega) (by omega)).mono ?_
        rintro e w1 ⟨v1, rfl, hg1, ho1⟩
        obtain ⟨A1, c1, rfl, hd1, hd2⟩ := own_form ho1
        have hhl : (head 1 128).length + 1 ≤ 16777225 := by rw [head_length]; exact szB_le 1 (by simp only [most]; omega)
        have HO1 := Lib.hid ho1
        have HG1 := Lib.hid ((gr_alloc w _).trans hg1)
        have HR1 := Lib.hid (HR.out.gr hg1)
        have hz1 := HG1.out.size
        unfold maxLen at hd2
        unfold OwnB at HO1
        generalize head 1 128 = hd at HM HO1 hhl hd1 ⊢
        clear ho1 hg1
        go_wp2_with (at_builtin; refine wpL_append (.tmp 32) (.tmp 33) 23 slT_bytes (base := w.heap.size) _ hd.length (bvs hd) _ 1 c _ (bvs [b]) rfl rfl rfl rfl (own_base HO1.out (by simp)) HR1.out (by simp [bvs]) (bvs_one _) (by simp only [maxLen]; omega) (by omega) (by omega) ?_; intro A2 c2 w2 hown2 hg2 _)
        refine bodyPost_ret (results_tmp2 rfl _ _ _) rfl ?_
        refine ⟨_, rfl, HG1.out.grown hg2 (by omega) fun j hj => own_block_ge (own_base HO1.out (by simp)) j hj, packOV_some HM.out rfl ?_⟩
        unfold OwnB; rw [List.length_append, bvs_append]; exact hown2
    · have hd : ((bs.length : Int) == 1) = false := by simp; omega
      have HM := Lib.hid (show packR (.mk false bs xs) = some (head bs.length 128 ++ bs) by rw [packR, if_neg (by simp only [most]; omega), EB, if_neg (fun h => h1 h.1)])
      clear h1 hr
      go_enter Try.func35, Try.ntmps35
      go_wp2_with fail
      refine (ref_head bs.length 128 _ (by omega) (by omega)).mono ?_
      rintro e w1 ⟨v1, rfl, hg1, ho1⟩
      obtain ⟨A1, c1, rfl, hd1, hd2⟩ := own_form ho1
      have hhl : (head bs.length 128).length + bs.length ≤ 16777225 := by rw [head_length]; exact szB_le bs.length (by simp only [most]; omega)
      have HO1 := Lib.hid ho1
      have HG1 := Lib.hid ((gr_alloc w _).trans hg1)
      have HR1 := Lib.hid (HR.out.gr hg1)
      have hz1 := HG1.out.size
      unfold maxLen at hd2
      unfold OwnB at HO1
      generalize head bs.length 128 = hd at HM HO1 hhl hd1 ⊢
      clear ho1 hg1
      go_wp2_with (at_builtin; refine wpL_append (.tmp 32) (.tmp 33) 23 slT_bytes (base := w.heap.size) _ hd.length (bvs hd) _ bs.length c _ (bvs bs) rfl rfl rfl rfl (own_base HO1.out (by simp)) HR1.out (by simp [bvs]) (bvs_one _) (by simp only [maxLen]; omega) (by omega) (by omega) ?_; intro A2 c2 w2 hown2 hg2 _)
      refine bodyPost_ret (results_tmp2 rfl _ _ _) rfl ?_
      refine ⟨_, rfl, HG1.out.grown hg2 (by omega) fun j hj => own_block_ge (own_base HO1.out (by simp)) j hj, packOV_some HM.out rfl ?_⟩
      unfold OwnB; rw [List.length_append, bvs_append]; exact hown2
  · have h3 : 16777216 < bs.length := by simp only [most] at h0; omega
    have HM := Lib.hid (show packR (.mk false bs xs) = none by rw [packR, if_pos (by omega)])
    clear h0 hr
    go_enter Try.func35, Try.ntmps35
    go_wp2_with fail
    refine bodyPost_ret (results_tmp2 rfl _ _ _) rfl ?_
    exact ⟨_, rfl, gr_alloc w _, packOV_none HM.out rfl⟩
set_option maxHeartbeats 4000000 in
set_option maxRecDepth 20000 in
theorem ref_packO : ∀ (n : Nat) (r : Raw) (v : Value) (w : World), cnt r < n → IsItem w v r → Calls Try.prog 35 #[v] w (Ret (PackOV w.heap.size r) w)
  | 0, r, v, w, hn, _ => by omega
  | n + 1, .mk false bs xs, v, w, hn, h => by
    obtain ⟨vb, vl, rfl, h1, A, c, _, rfl, _⟩ := isItem_form h
    exact ref_packO_bytes vb _ bs xs w h1 ⟨_, _, _, rfl⟩
  | n + 1, .mk true bs xs, v, w, hn, h => by
    have ih := Lib.hid (ref_packO n)
    obtain ⟨vb, vl, rfl, ⟨A9, c9, rfl, _⟩, A, c, rows, rfl, hc1, hc2, _, hr, hi⟩ := isItem_form h
    have HR := Lib.hid hr
    have HI := Lib.hid hi
    have hd := Lib.hid (show packR (.mk true bs xs) = (packRL xs []).map fun l => head l.length 192 ++ l by rw [packR])
    rw [cnt] at hn
    unfold maxLen at hc2
    clear h hr hi
    go_enter Try.func35, Try.ntmps35
    go_wp2_with fail
    go_loopw [5, 6] (fun ov i wr => ∃ (k : Nat) (acc : List UInt8), k ≤ xs.length ∧ i = .int .i64 k ∧ packRL xs [] = packRL (xs.drop k) acc ∧ acc.length ≤ 16777216 ∧ OwnB wr (w.heap.size + 1) ov acc ∧ Gr (w.alloc (.cells #[.bool true, .slice A9 bs.length c9, .slice A xs.length c] 41)) wr) (fun _ i _ => xs.length - (intOf i).toNat)
    case atStart => exact ⟨0, [], by omega, rfl, rfl, by simp, OwnB.nil _ _, Gr.refl _⟩
    case round =>
      obtain ⟨k, acc, hk, rfl, hM, hal, hown, hb⟩ := hrel
      obtain ⟨A3, c3, rfl, hd1, hd2⟩ := own_form hown
      have HM := Lib.hid hM
      have HO := Lib.hid hown
      have HB := Lib.hid hb
      have hbs := hb.size
      have hcl := hb.cell (p := ⟨w.heap.size, 2, none⟩) (by simp)
      have hcl2 : (w.alloc (.cells #[.bool true, .slice A9 bs.length c9, .slice A xs.length c] 41)).cell? ⟨w.heap.size, 2, none⟩ = some (.slice A xs.length c) := by rw [cell_of_row _ _ _ _ _ (0, 0) (heap_alloc_new w _)]; rfl
      rw [hcl2] at hcl
      simp only [size_new] at hbs
      unfold maxLen at hd2
      clear hM hown hb hcl2
      by_cases h1 : k < xs.length
      · obtain ⟨bl, o, f, vb', vl, rfl, hbl, e1, e2, e3, hx, ⟨A2, n2, c2, rfl⟩, A', n', c', rfl⟩ := items_at HR.out HI.out k h1
        have e1' := (((gr_alloc w _).trans HB.out).cell (p := ⟨bl, o + k * 3, none⟩) hbl).trans e1
        have e2' := (((gr_alloc w _).trans HB.out).cell (p := ⟨bl, o + k * 3 + 1, none⟩) hbl).trans e2
        have e3' := (((gr_alloc w _).trans HB.out).cell (p := ⟨bl, o + k * 3 + 2, none⟩) hbl).trans e3
        have HX := Lib.hid (hx.gr ((gr_alloc w _).trans HB.out))
        have hdk : xs.drop k = xs[k] :: xs.drop (k + 1) := List.drop_eq_getElem_cons h1
        have hcnt := cnt_get xs k h1
        have HM2 := Lib.hid (show packRL xs [] = match packR xs[k] with | none => none | some b => if acc.length + b.length > most then none else packRL (xs.drop (k + 1)) (acc ++ b) by
          rw [HM.out, hdk, packRL]
          cases packR xs[k] <;> rfl)
        clear e1 e2 e3 hx hdk HM
        go_wp2_with fail
        refine (ih.out xs[k] _ _ (by omega) HX.out).mono ?_
        rintro e w1 ⟨v1, rfl, hg1, hp1⟩
        have HG1 := Lib.hid (HB.out.trans hg1)
        have HO1 := Lib.hid (own_gr HO.out hg1)
        have hz1 := HG1.out.size
        simp only [size_new] at hz1
        unfold PackOV at hp1
        clear hg1 e1' e2' e3' hcl HO hcnt
        cases hpx : packR xs[k] with
        | none =>
          rw [hpx] at HM2 hp1
          dsimp only at hp1
          subst hp1
          have HM3 := Lib.hid (show packR (.mk true bs xs) = none by rw [hd.out, HM2.out]; rfl)
          clear HM2 hpx
          go_wp2_with fail
          refine bodyPost_ret (results_tmp2 rfl _ _ _) rfl ?_
          exact ⟨_, rfl, (gr_alloc w _).trans HG1.out, packOV_none HM3.out rfl⟩
        | some bx =>
          rw [hpx] at HM2 hp1
          obtain ⟨vbx, rfl, hown4⟩ := hp1
          obtain ⟨A4, c4, rfl, he1, he2, hr4⟩ := hown4.isB
          clear hown4
          have HR4 := Lib.hid hr4
          have hbx := packR_le _ _ hpx
          simp only [most] at hbx
          unfold maxLen at he2
          clear hr4 hpx
          by_cases h3 : acc.length + bx.length > 16777216
          · have HM3 := Lib.hid (show packR (.mk true bs xs) = none by rw [hd.out, HM2.out]; dsimp only; rw [if_pos h3]; rfl)
            clear HM2
            go_wp2_with fail
            refine bodyPost_ret (results_tmp2 rfl _ _ _) rfl ?_
            exact ⟨_, rfl, (gr_alloc w _).trans HG1.out, packOV_none HM3.out rfl⟩
          · have HM3 := Lib.hid (show packRL xs [] = packRL (xs.drop (k + 1)) (acc ++ bx) by rw [HM2.out]; dsimp only; rw [if_neg h3])
            clear HM2
            go_wp2_with (at_builtin; refine wpL_append _ _ 23 slT_bytes _ _ _ _ _ _ _ (bvs bx) rfl rfl rfl rfl HO1.out HR4.out (by simp [bvs]) (bvs_one _) (by simp only [maxLen]; omega) (by omega) (by omega) ?_; intro A5 c5 w5 hown5 hg5 _)
            go_roundw
            case rel =>
              refine ⟨k + 1, acc ++ bx, by omega, by go_num, HM3.out, by rw [List.length_append]; omega, ?_, ?_⟩
              · unfold OwnB
                rw [List.length_append, bvs_append]
                exact hown5
              · exact HG1.out.grown hg5 (by rw [size_new]; omega) fun j hj => by rw [size_new]; exact own_block_ge HO1.out j hj
            case measure => simp [intOf]; omega
      · have h2 : xs.length ≤ k := by omega
        have HM2 := Lib.hid (show packR (.mk true bs xs) = some (head acc.length 192 ++ acc) by
          rw [hd.out, HM.out, List.drop_eq_nil_of_le h2, packRL]
          rfl)
        clear h1 HM
        go_wp2_with fail
        refine (ref_head acc.length 192 _ (by omega) (by omega)).mono ?_
        rintro e w1 ⟨v1, rfl, hg1, ho1⟩
        obtain ⟨A1, c1, rfl, he1, he2⟩ := own_form ho1
        have hhl : (head acc.length 192).length + acc.length ≤ 16777225 := by rw [head_length]; exact szB_le _ (by simp only [most]; omega)
        obtain ⟨_, _, he, _, _, hrd⟩ := OwnB.isB HO.out
        injection he with he3 _ he4
        subst he3 he4
        have HRD := Lib.hid (hrd.gr hg1)
        have HO1 := Lib.hid ho1
        have HG1 := Lib.hid (((gr_alloc w _).trans HB.out).trans hg1)
        have hz1 := HG1.out.size
        unfold maxLen at he2
        unfold OwnB at HO1
        generalize head acc.length 192 = hh at HM2 HO1 hhl he1 ⊢
        clear ho1 hg1 hrd
        go_wp2_with (at_builtin; refine wpL_append (.tmp 66) (.tmp 67) 23 slT_bytes (base := w.heap.size) _ hh.length (bvs hh) _ acc.length _ _ (bvs acc) rfl rfl rfl rfl (own_base HO1.out (by omega)) HRD.out (by simp [bvs]) (bvs_one _) (by simp only [maxLen]; omega) (by omega) (by omega) ?_; intro A2 c2 w2 hown2 hg2 _)
        refine bodyPost_ret (results_tmp2 rfl _ _ _) rfl ?_
        refine ⟨_, rfl, HG1.out.grown hg2 (by omega) fun j hj => own_block_ge (own_base HO1.out (by omega)) j hj, packOV_some HM2.out rfl ?_⟩
        unfold OwnB; rw [List.length_append, bvs_append]; exact hown2
set_option maxHeartbeats 2000000 in
set_option maxRecDepth 20000 in
theorem ref_PackO (v : Value) (x : Raw) (w : World) (h : IsItem w v x) : Calls Try.prog 16 #[v] w (Ret (fun v w' => PackV w.heap.size x v w') w) := by
  have hx := h
  obtain ⟨lst, bs, xs⟩ := x
  obtain ⟨vb, vl, rfl, ⟨A9, c9, rfl, _⟩, A, c, rows, rfl, _⟩ := isItem_form h
  clear h
  generalize hr : Raw.mk lst bs xs = r at hx ⊢
  have hpr := packed_ref r
  have HX := Lib.hid (hx.gr (gr_alloc w (.cells #[.bool lst, .slice A9 bs.length c9, .slice A xs.length c] 41)))
  have hdl := deepR_le 32 r
  clear hx hr
  go_enter Try.func16, Try.ntmps16
  go_wp2_with fail
  refine (ref_deep 32 r _ _ (Nat.le_refl _) HX.out).mono ?_
  rintro e w1 ⟨_, rfl, hg1, rfl⟩
  have HG1 := Lib.hid ((gr_alloc w _).trans hg1)
  have HX1 := Lib.hid (HX.out.gr hg1)
  have e0 := hg1.cell (p := ⟨w.heap.size, 0, none⟩) (by simp)
  have e1 := hg1.cell (p := ⟨w.heap.size, 1, none⟩) (by simp)
  have e2 := hg1.cell (p := ⟨w.heap.size, 2, none⟩) (by simp)
  rw [cell_of_row (w.alloc _) _ _ _ _ (0, 0) (heap_alloc_new w _)] at e0 e1 e2
  simp at e0 e1 e2
  clear hg1 HX
  by_cases h3 : deepR r 32 > 32
  · have HP := Lib.hid (show packed r = none by rw [hpr, if_pos h3])
    clear hpr
    go_wp2_with fail
    refine bodyPost_ret (results_tmp2 rfl _ _ _) rfl ?_
    refine ⟨_, rfl, HG1.out, ?_⟩
    unfold PackV
    rw [HP.out]
    rfl
  · rw [if_neg h3] at hpr
    have HPR := Lib.hid hpr
    have h4 : deepR r 32 ≤ 32 := by omega
    clear h3 hpr
    go_wp2_with fail
    refine (ref_packO _ r _ _ (Nat.lt_succ_self _) HX1.out).mono ?_
    rintro e w2 ⟨v2, rfl, hg2, hp2⟩
    have HG2 := Lib.hid (HG1.out.trans hg2)
    unfold PackOV at hp2
    clear hg2 HX1 e0 e1 e2
    cases hpx : packR r with
    | none =>
      rw [hpx] at hp2 HPR
      dsimp only at hp2
      subst hp2
      have HP := Lib.hid (show packed r = none from HPR.out)
      clear hpx HPR
      go_wp2_with fail
      refine bodyPost_ret (results_tmp2 rfl _ _ _) rfl ?_
      refine ⟨_, rfl, HG2.out, ?_⟩
      unfold PackV
      rw [HP.out]
      rfl
    | some b =>
      rw [hpx] at hp2 HPR
      obtain ⟨vb2, rfl, hown4⟩ := hp2
      obtain ⟨A4, c4, rfl, he1, he2, hr4⟩ := hown4.isB
      have HO4 := Lib.hid (own_base hown4 (base' := w.heap.size) HG1.out.size)
      clear hown4
      have hbx := packR_le _ _ hpx
      simp only [most] at hbx
      have HR4 := Lib.hid hr4
      have he2' := Lib.hid he2
      unfold maxLen at he2
      clear hr4 hpx
      by_cases h5 : b.length > most
      · have HP := Lib.hid (show packed r = none by rw [HPR.out]; dsimp only; rw [if_pos h5])
        simp only [most] at h5
        clear HPR
        go_wp2_with fail
        refine bodyPost_ret (results_tmp2 rfl _ _ _) rfl ?_
        refine ⟨_, rfl, HG2.out, ?_⟩
        unfold PackV
        rw [HP.out]
        rfl
      · have HP := Lib.hid (show packed r = some b by rw [HPR.out]; dsimp only; rw [if_neg h5])
        have h6 : b.length ≤ 16777216 := by simp only [most] at h5; omega
        clear HPR h5
        go_wp2_with fail
        refine bodyPost_ret (results_tmp2 rfl _ _ _) rfl ?_
        refine ⟨_, rfl, HG2.out, ?_⟩
        unfold PackV
        rw [HP.out]
        exact ⟨_, rfl, HO4.out⟩
end Go.Proofs.Ytmlajcbabimkjaa
/-
  The abstract machine: tests of arrays, of structs of arrays, of strings, of bools.
  Conditions: none.
-/
namespace Go.Proofs.Ytmlajcbabimkjaa
set_option linter.unusedVariables false
open Go.RowKit Mono Rlp
namespace E
section
variable {T e n : Nat}
theorem eq_arr (hT : Try.prog.underlying T = some (.array n e)) (he : Try.prog.underlying e = some (.int .u8)) (hs : ∀ w, (sizeOf e).run Try.prog w = .ok 1 w) (w : World) (l m : List UInt8) (hl : l.length = n) (hm : m.length = n) : (Op.equalIn 10000 T (arrV l) (arrV m)).run Try.prog w = .ok (l == m) w := by
  have h2 := run_equalIn_bytes w 9998 T e n hT he hs l m hl hm
  rw [show (Op.equalIn 10000 T (arrV l) (arrV m)) = (Op.equalIn (9998 + 2) T (.agg (l.map Extern.Stop.cell).toArray) (.agg (m.map Extern.Stop.cell).toArray)) from rfl, h2]
theorem eq_arr' (d : Nat) (hT : Try.prog.underlying T = some (.array n e)) (he : Try.prog.underlying e = some (.int .u8)) (hs : ∀ w, (sizeOf e).run Try.prog w = .ok 1 w) (w : World) (l m : List UInt8) (hl : l.length = n) (hm : m.length = n) : (Op.equalIn (d + 2) T (arrV l) (arrV m)).run Try.prog w = .ok (l == m) w :=
  run_equalIn_bytes w d T e n hT he hs l m hl hm
theorem bin_arr (hT : Try.prog.underlying T = some (.array n e)) (he : Try.prog.underlying e = some (.int .u8)) (hs : ∀ w, (sizeOf e).run Try.prog w = .ok 1 w) (hg : Try.prog.eqGuardType Try.prog.depth T = false) (l m : List UInt8) : Bin .eql T (.arr n l) (.arr n m) (.bool (l == m)) ∧ Bin .neq T (.arr n l) (.arr n m) (.bool (l != m)) := by
  refine ⟨⟨rfl, fun ok w p q hp hq => ?_⟩, ⟨rfl, fun ok w p q hp hq => ?_⟩⟩ <;> (obtain ⟨e1, rfl⟩ := arrV_of hp; obtain ⟨e2, rfl⟩ := arrV_of hq; refine ⟨fun x y => run_eqGuard_agg w _ _ _ _ _ _ hg, ?_⟩)
  · exact run_eql_bytes w T e n hT he hs l m e1 e2
  · have h1 : (binOp .neq T (arrV l) (arrV m)).run Try.prog w = ((Op.equalIn 10000 T (arrV l) (arrV m)).run Try.prog w).andThen fun b w' => .ok (.bool (!b)) w' := by
      simp only [arrV, binOp, Op.equal, Op.maxDepth, Sem.run_bind, Sem.run_pure]
    rw [h1, eq_arr hT he hs w l m e1 e2]
    rfl
end
theorem bin_word (l m : List UInt8) : Bin .eql 32 (.arr 32 l) (.arr 32 m) (.bool (l == m)) ∧ Bin .neq 32 (.arr 32 l) (.arr 32 m) (.bool (l != m)) :=
  bin_arr Try.underlying32 Try.underlying5 (fun w => by kernel_rfl) (by kernel_rfl) l m
theorem bin_bool (a b : Bool) : Bin .eql 4 (.v (.bool a)) (.v (.bool b)) (.bool (a == b)) ∧ Bin .neq 4 (.v (.bool a)) (.v (.bool b)) (.bool (a != b)) := by
  refine ⟨⟨rfl, fun ok w p q hp hq => ?_⟩, ⟨rfl, fun ok w p q hp hq => ?_⟩⟩ <;> (obtain rfl := (readV_v.1 hp).2; obtain rfl := (readV_v.1 hq).2; refine ⟨fun x y => by simp [eqGuard], ?_⟩)
  · simp [binOp, run_equal_bool w _ a b Try.underlying4]
  · simp [binOp, run_equal_bool w _ a b Try.underlying4, bne]
theorem bin_string (l m : List UInt8) : Bin .eql 9 (.v (.string (Go.Proofs.Ytmlajcbabimkjaa.bs l))) (.v (.string (Go.Proofs.Ytmlajcbabimkjaa.bs m))) (.bool (l == m)) ∧ Bin .neq 9 (.v (.string (Go.Proofs.Ytmlajcbabimkjaa.bs l))) (.v (.string (Go.Proofs.Ytmlajcbabimkjaa.bs m))) (.bool (l != m)) := by
  refine ⟨⟨rfl, fun ok w p q hp hq => ?_⟩, ⟨rfl, fun ok w p q hp hq => ?_⟩⟩ <;> (obtain rfl := (readV_v.1 hp).2; obtain rfl := (readV_v.1 hq).2; refine ⟨fun x y => by simp [eqGuard], ?_⟩)
  · simp [binOp, Op.stringOp, bs_toList]
  · simp [binOp, Op.stringOp, bs_toList, bne]
theorem EC.lenOf {N : Nat} {X : Cx N} {S : St} {Q : Exit → Act → World → Prop} {c : Code} {t : Tmp} {z : Nat} {ds : List D} (hl : look S.regs t = some (.val (.sl z ds))) (k : ds.length ≤ maxLen → EC X Q c S) : EC X Q c S := ⟨fun a w ha => by
  obtain ⟨A, c', rows, h1, h2, h3, _⟩ := sl_ex (ha.regs t _ hl)
  exact (k (by omega)).go a w ha⟩
end E
end Go.Proofs.Ytmlajcbabimkjaa
/-
  The abstract machine: maps whose keys are arrays of bytes.
  Conditions: none.
-/
namespace Go.Proofs.Ytmlajcbabimkjaa
set_option linter.unusedVariables false
open Go.RowKit Mono Rlp
namespace E
abbrev Ent := Nat × List UInt8 × D
def hasE (es : List Ent) (l : List UInt8) : Bool := es.any fun x => x.2.1 == l
def getE : List Ent → List UInt8 → Option D
  | [], _ => none
  | x :: es, l => if x.2.1 == l then some x.2.2 else getE es l
def setE : List Ent → List UInt8 → D → List Ent
  | [], _, _ => []
  | x :: es, l, d => if x.2.1 == l then (x.1, x.2.1, d) :: es else x :: setE es l d
def putE (c : Nat) (es : List Ent) (l : List UInt8) (d : D) : List Ent := if hasE es l then setE es l d else es ++ [(c, l, d)]
def tickE (c : Nat) (es : List Ent) (l : List UInt8) : Nat := if hasE es l then c else c + 1
/-! ### Laws of entries -/
theorem hasE_iff : ∀ (es : List Ent) (l : List UInt8), hasE es l = (getE es l).isSome
  | [], l => rfl
  | x :: es, l => by
    unfold hasE getE
    cases h : x.2.1 == l
    · have := hasE_iff es l
      unfold hasE at this
      simp [h, this]
    · simp [h]
theorem getE_none : ∀ (es : List Ent) (l : List UInt8), getE es l = none ↔ l ∉ es.map (·.2.1)
  | [], l => by simp [getE]
  | x :: es, l => by
    rw [getE]
    cases h : x.2.1 == l
    · have h1 : x.2.1 ≠ l := by simpa using h
      simp [getE_none es l, h1.symm]
    · have h1 : x.2.1 = l := by simpa using h
      simp [h1]
theorem setE_keys : ∀ (es : List Ent) (l : List UInt8) (d : D), (setE es l d).map (·.2.1) = es.map (·.2.1)
  | [], l, d => rfl
  | x :: es, l, d => by
    rw [setE]
    split
    · rfl
    · simp [setE_keys es l d]
theorem setE_borns : ∀ (es : List Ent) (l : List UInt8) (d : D), (setE es l d).map (·.1) = es.map (·.1)
  | [], l, d => rfl
  | x :: es, l, d => by
    rw [setE]
    split
    · rfl
    · simp [setE_borns es l d]
theorem Ents.set {c : Nat} {es : List Ent} (h : Ents c es) (l : List UInt8) (d : D) : Ents c (setE es l d) := by
  refine ⟨by rw [setE_keys]; exact h.keys, by rw [setE_borns]; exact h.borns, fun x hx => ?_⟩
  have : x.1 ∈ (setE es l d).map (·.1) := List.mem_map.2 ⟨x, hx, rfl⟩
  rw [setE_borns] at this
  obtain ⟨y, hy, e⟩ := List.mem_map.1 this
  rw [← e]
  exact h.lt y hy
theorem Ents.put {c : Nat} {es : List Ent} (h : Ents c es) (l : List UInt8) (d : D) : Ents (tickE c es l) (putE c es l d) := by
  unfold tickE putE
  cases hh : hasE es l
  · have hn : l ∉ es.map (·.2.1) := by
      rw [hasE_iff] at hh
      exact (getE_none es l).1 (by simpa using hh)
    refine ⟨?_, ?_, fun x hx => ?_⟩
    · simp only [Bool.false_eq_true, if_false, List.map_append, List.map_cons, List.map_nil]
      refine List.nodup_append.2 ⟨h.keys, by simp, fun a ha b hb e => ?_⟩
      simp only [List.mem_cons, List.not_mem_nil, or_false] at hb
      subst e hb
      exact hn ha
    · simp only [Bool.false_eq_true, if_false, List.map_append, List.map_cons, List.map_nil]
      refine List.nodup_append.2 ⟨h.borns, by simp, fun a ha b hb e => ?_⟩
      simp only [List.mem_cons, List.not_mem_nil, or_false] at hb
      subst e hb
      obtain ⟨y, hy, e⟩ := List.mem_map.1 ha
      have := h.lt y hy
      omega
    · simp only [Bool.false_eq_true, if_false] at hx ⊢
      rcases List.mem_append.1 hx with hx | hx
      · have := h.lt x hx
        omega
      · simp only [List.mem_cons, List.not_mem_nil, or_false] at hx
        subst hx
        simp
  · simp only [if_true]
    exact h.set l d
theorem Ents.nil : Ents 0 [] := ⟨List.nodup_nil, List.nodup_nil, fun x h => by cases h⟩
/-! ### The machine on keys of bytes -/
section
variable {K n : Nat} {ok : Nat → Prop} {w : World}
def hit (l : List UInt8) : List MapEntry → List Ent → Nat → Option (Nat × Value)
  | e :: arr, x :: es, i => if l == x.2.1 then some (i, e.val) else hit l arr es (i + 1)
  | _, _, _ => none
end
end E
end Go.Proofs.Ytmlajcbabimkjaa
/-
  The abstract machine: ends whose results read otherwise; arrays out of slices; forgetting.
  Conditions: none.
-/
namespace Go.Proofs.Ytmlajcbabimkjaa
set_option linter.unusedVariables false
open Go.RowKit Mono Rlp
namespace E
section
variable {N : Nat} {X : Cx N} {S S' : St} {ops : Array Oper} {o : Oper} {Q : Exit → Act → World → Prop} {l : List Oper} {T : St → List Fr → Prop} {EE : List Fr} {rs : List (Tmp × R)} {os : List Obj} {fs : List (Value × D)} {fn : Func} {Φ : R → Prop} {w : World}
theorem Refine1.readV {ok : Nat → Prop} {F : List (Value × D)} (hF : ∀ f ∈ F, Reads ok w f.2 [f.1]) {d d' : D} {x : Value} (h : RefineL F [d] [d']) (hr : ReadV ok w d x) : ReadV ok w d' x := by
  have := RefineL.readVs hF [d] [d'] [x] h ⟨x, [], rfl, hr, rfl⟩
  obtain ⟨y, rest, e, h1, _⟩ := this
  cases e
  exact h1
theorem RefineL.cons {F : List (Value × D)} {d d' : D} {ds ds' : List D} (h : RefineL F (d :: ds) (d' :: ds')) : RefineL F [d] [d'] ∧ RefineL F ds ds' := by
  rw [RefineL] at h
  obtain ⟨_, _, e, h1, h2⟩ := h
  cases e
  refine ⟨?_, h2⟩
  rw [RefineL]
  exact ⟨_, _, rfl, h1, by rw [RefineL]⟩
theorem EK.ret2r {t u : Tmp} {d e d' e' : D} (hres : fn.results = #[.tmp t, .tmp u]) (hl : look S.regs t = some (.val d)) (hk : look S.regs u = some (.val e)) (hR : RefineL S.facts [d, e] [d', e']) (hΦ : Φ (.tpl [d', e'])) : EK X (bodyPost Try.prog fn (Out X Φ) .ret) S := by
  constructor
  intro a w ha
  obtain ⟨h1, h2⟩ := hR.cons
  exact bodyPost_ret (results_tmp2 hres a.tmps Try.prog w) ha.defers ⟨ha.mem.gr, _, _, rfl, hΦ, [a.tmps.getD t undef, a.tmps.getD u undef], rfl, _, _, rfl, ReadV.mono (fun b hb => ⟨hb.1, hb.2.1⟩) (fun _ _ => rfl) (Refine1.readV ha.mem.fact h1 (ha.regs t _ hl)), _, _, rfl, ReadV.mono (fun b hb => ⟨hb.1, hb.2.1⟩) (fun _ _ => rfl) (Refine1.readV ha.mem.fact h2 (ha.regs u _ hk)), rfl⟩
theorem EK.retc1r {p : Tmp} {g ty : Nat} {t : TypeId} {d d' : D} (i : Nat) (hres : fn.results = #[.cell p ty]) (hl : look S.regs p = some (.val (.v (.pointer (some ⟨g, 0, none⟩))))) (hi : S.objs[i]? = some (.var g t d)) (hT : assoc tyL ty = some (d.size, d.agg)) (hR : RefineL S.facts [d] [d']) (hΦ : Φ (.val d')) : EK X (bodyPost Try.prog fn (Out X Φ) .ret) S := by
  constructor
  intro a w ha
  obtain ⟨x, h1, h2⟩ := run_cell ha.mem hi (tyI hT)
  have hp := (readV_v.1 (ha.regs p _ hl)).2
  have hp' : a.tmps[p]?.getD undef = .pointer (some ⟨g, 0, none⟩) := by simpa using hp
  refine bodyPost_ret (v := x) ?_ ha.defers ⟨ha.mem.gr, _, _, rfl, hΦ, ReadV.mono (fun b hb => ⟨hb.1, hb.2.1⟩) (fun _ _ => rfl) (Refine1.readV ha.mem.fact hR h2)⟩
  simp [results, hres, hp', asAddr, h1]
theorem EK.retc2r {p u : Tmp} {g ty : Nat} {t : TypeId} {d e d' e' : D} (i : Nat) (hres : fn.results = #[.cell p ty, .tmp u]) (hl : look S.regs p = some (.val (.v (.pointer (some ⟨g, 0, none⟩))))) (hi : S.objs[i]? = some (.var g t d)) (hT : assoc tyL ty = some (d.size, d.agg)) (hk : look S.regs u = some (.val e)) (hR : RefineL S.facts [d, e] [d', e']) (hΦ : Φ (.tpl [d', e'])) : EK X (bodyPost Try.prog fn (Out X Φ) .ret) S := by
  constructor
  intro a w ha
  obtain ⟨x, h1, h2⟩ := run_cell ha.mem hi (tyI hT)
  obtain ⟨hR1, hR2⟩ := hR.cons
  have hp := (readV_v.1 (ha.regs p _ hl)).2
  have hp' : a.tmps[p]?.getD undef = .pointer (some ⟨g, 0, none⟩) := by simpa using hp
  refine bodyPost_ret (v := .tuple #[x, a.tmps.getD u undef]) ?_ ha.defers ⟨ha.mem.gr, _, _, rfl, hΦ, [x, a.tmps.getD u undef], rfl, _, _, rfl, ReadV.mono (fun b hb => ⟨hb.1, hb.2.1⟩) (fun _ _ => rfl) (Refine1.readV ha.mem.fact hR1 h2), _, _, rfl, ReadV.mono (fun b hb => ⟨hb.1, hb.2.1⟩) (fun _ _ => rfl) (Refine1.readV ha.mem.fact hR2 (ha.regs u _ hk)), rfl⟩
  simp [results, hres, hp', asAddr, h1]
theorem g_s2a {x : Operand} {T n e z : Nat} {b : List UInt8} (ho : o.op = .sliceToArrayPointer T x) (hx : ev S x = some (.val (.bs b))) (hT : assoc arL T = some (n, e, z)) (hn : b.length = n) (h0 : Nat.blt 0 n = true) : Still ops S o (.val (.pd (.arr n b))) := fun base ok a w ha => by
  obtain ⟨A, c, h1, h2, h3, h4⟩ := bs_ex (ha.ev hx fun t e => looks_of e (by rw [ho]; simp [Op.operands]))
  have h0' : 0 < n := by simpa using h0
  obtain ⟨bl, m, rfl, hb, hc⟩ := h4 (fun e => by have := congrArg List.length e; rw [bvs_length] at this; simp at this; rw [this] at hn; simp at hn; omega)
  refine ⟨.pointer (some ⟨bl, m, none⟩), ?_, (readV_one rfl).2 (by rw [Reads]; exact ⟨bl, m, bvs b, rfl, hb, hc, by rw [Reads]; exact ⟨hn, rfl⟩⟩)⟩
  unfold execOp
  simp only [ho, h1, Sem.run_bind]
  rw [run_arrayAt _ _ _ n (some ⟨bl, m, none⟩) b.length c (arI' hT).und (by omega)]
  simp
theorem P_s2a {t ty : Nat} {pos : String} {af : Array Edge} {gd : Option (Nat × Bool)} {x : Operand} {T n e z : Nat} {b : List UInt8} (hx : ev ⟨rs, os, fs⟩ x = some (.val (.bs b))) (hT : assoc arL T = some (n, e, z)) (hn : b.length = n) (h0 : Nat.blt 0 n = true) (hg : guardOf ops ⟨rs, os, fs⟩ ⟨some t, .sliceToArrayPointer T x, ty, pos, af, gd⟩ = some true) (hN : Nat.blt t N = true) (kk : EL X ops Q l ⟨(t, .val (.pd (.arr n b))) :: rs, os, fs⟩) : EL X ops Q (⟨some t, .sliceToArrayPointer T x, ty, pos, af, gd⟩ :: l) ⟨rs, os, fs⟩ := ES.still (g_s2a rfl hx hT hn h0) hg rfl hN kk
theorem RL.nil {F : List (Value × D)} : RefineL F [] [] := by rw [RefineL]
theorem RL.cons {F : List (Value × D)} {d d' : D} {ds ds' : List D} (h : Refine F d d') (k : RefineL F ds ds') : RefineL F (d :: ds) (d' :: ds') := by
  rw [RefineL]
  exact ⟨d', ds', rfl, h, k⟩
theorem Rf.same {F : List (Value × D)} {d : D} : Refine F d d := by
  have := RefineL.refl F [d]
  rw [RefineL] at this
  obtain ⟨_, _, e, h, _⟩ := this
  cases e
  exact h
theorem Rf.bs0 {F : List (Value × D)} : Refine F (.v (.slice none 0 0)) (.bs []) := by
  rw [Refine]
  exact .inr (.inr ⟨rfl, .inl rfl⟩)
theorem Rf.sl0 {F : List (Value × D)} {z : Nat} : Refine F (.v (.slice none 0 0)) (.sl z []) := by
  rw [Refine]
  exact .inr (.inr ⟨rfl, .inr ⟨z, rfl⟩⟩)
theorem Rf.fact {F : List (Value × D)} {x : Value} {d : D} (h : (x, d) ∈ F) (hd : d.agg = false) : Refine F (.v x) d := by
  rw [Refine]
  exact .inr (.inl ⟨h, hd⟩)
theorem Rf.tup {F : List (Value × D)} {ds ds' : List D} (h : RefineL F ds ds') : Refine F (.tup ds) (.tup ds') := by
  rw [Refine]
  exact ⟨ds', rfl, h⟩
theorem Le.keep {rs' : List (Tmp × R)} {os' : List Obj} {fs' : List (Value × D)} (hr : Sub rs rs') (ho : os'.Sublist os) (hf : ∀ f ∈ fs', f ∈ fs) : Le X ⟨rs, os, fs⟩ ⟨rs', os', fs'⟩ := Le.less ho hf hr
end
end E
end Go.Proofs.Ytmlajcbabimkjaa
/-
  The abstract machine at the top: all that is below may be read; functions whose result may lie anywhere; a variable that is written no more.
  Conditions: none.
-/
namespace Go.Proofs.Ytmlajcbabimkjaa
set_option linter.unusedVariables false
open Go.RowKit Mono Rlp
namespace E
structure FnA (f : FuncId) (ds : List D) (Φ : R → Prop) : Prop where
  go : ∀ (w : World) (xs : List Value), ReadVs (fun b => b < w.heap.size) w ds xs →
    Calls Try.prog f xs.toArray w fun e w' => Gr w w' ∧ ∃ v r, e = .returned v ∧ Φ r ∧ ReadR (fun b => b < w'.heap.size) w' r v
theorem Fn.all {f : FuncId} {ds : List D} {Φ : R → Prop} (h : Fn f ds Φ) : FnA f ds Φ := ⟨fun w xs hr => (h.go _ w xs (fun _ hb => hb) hr).mono fun e w' ⟨h1, v, r, h2, h3, h4⟩ => ⟨h1, v, r, h2, h3, h4.mono (fun b hb => hb.2) fun _ _ => rfl⟩⟩
theorem FnA.mono {f : FuncId} {ds : List D} {Φ Ψ : R → Prop} (h : FnA f ds Φ) (k : ∀ r, Φ r → Ψ r) : FnA f ds Ψ := ⟨fun w xs hr => (h.go w xs hr).mono fun e w' ⟨h1, v, r, h2, h3, h4⟩ => ⟨h1, v, r, h2, k r h3, h4⟩⟩
def All {N : Nat} (X : Cx N) : Prop := ∀ b, b < X.w0.heap.size → X.ok0 b
section
variable {N : Nat} {X : Cx N} {S : St} {ops : Array Oper} {o : Oper} {Q : Exit → Act → World → Prop} {l : List Oper} {rs : List (Tmp × R)} {os : List Obj} {fs : List (Value × D)}
theorem FnA.walk {f : FuncId} {fn : Func} {c : Code} {ds : List D} {Φ : R → Prop} (N : Nat) (hf : Try.prog.funcs[f]? = some fn) (hb : fn.body = some c) (hN : fn.ntmps = N) (hl : ds.length ≤ N)
    (h : ∀ X : Cx N, All X → EC X (bodyPost Try.prog fn (Out X Φ)) c ⟨regsOf 0 ds, [], []⟩) : FnA f ds Φ := by
  constructor
  intro w xs hr
  have hxl := readVs_len ds xs hr
  refine Calls.mono (calls_of_wp hf hb ((h ⟨w, fun b => b < w.heap.size, fun _ => False, fun _ hb => hb⟩ fun _ hb => hb).go _ w ⟨⟨.refl w, List.Pairwise.nil, (fun o ho => by cases ho), (fun f hf => by cases hf)⟩, fun t r ht => ?_, ?_, rfl⟩)) ?_
  · refine regs_read ds xs 0 _ (ReadVs.mono (fun b hb => ⟨.inl hb, hb, (fun o ho => by cases ho)⟩) (fun _ _ => rfl) ds xs hr) (fun j x hx => ?_) t r ht
    have hj := (List.getElem?_eq_some_iff.1 hx).1
    have : (xs.toArray ++ Array.replicate (fn.ntmps - xs.toArray.size) undef)[j]? = some x := by
      rw [Array.getElem?_append_left (by simpa using hj)]
      simpa using hx
    rw [Nat.zero_add, Array.getD_eq_getD_getElem?, this]
    rfl
  · simp [hN]
    omega
  · rintro e w' ⟨h1, v, r, h2, h3, h4⟩
    exact ⟨h1.gr (fun _ h => h), v, r, h2, h3, h4.mono (fun b hb => hb.2) fun _ _ => rfl⟩
theorem Le.pin {p : Tmp} {g : Nat} {t : TypeId} {d : D} {pre post : List Obj} (hl : look S.regs p = some (.val (.v (.pointer (some ⟨g, 0, none⟩))))) (ho : S.objs = pre ++ .var g t d :: post) : Le X S ⟨(p, .val (.pd d)) :: S.regs, pre ++ post, S.facts⟩ := by
  intro a w h
  have hm := h.mem
  rw [ho] at hm
  have hsub : (pre ++ post).Sublist S.objs := by rw [ho]; exact List.Sublist.append (List.Sublist.refl _) (List.sublist_cons_self _ _)
  have hl' : At X ⟨S.regs, pre ++ post, S.facts⟩ a w := ⟨h.mem.less hsub (fun _ hf => hf), fun t r ht => ReadR.mono (fun b hb => ⟨hb.1, hb.2.1, fun o hm => hb.2.2 o (hsub.subset hm)⟩) (fun _ _ => rfl) (h.regs t r ht), h.size, h.defers⟩
  refine ⟨hl'.mem, fun u r hu => ?_, hl'.size, hl'.defers⟩
  rw [look] at hu
  split at hu
  · rename_i e
    cases hu
    subst e
    obtain ⟨h1, cs, h2, h3⟩ := hm.at_ (.var g t d) (by simp)
    have hp := (readV_v.1 (h.regs _ _ hl)).2
    rw [hp]
    refine (readV_one rfl).2 ?_
    rw [Reads]
    refine ⟨g, 0, cs, rfl, ⟨.inr h1, lt_of_some h2, fun q hq => ?_⟩, range_of_row h2, Reads.mono (fun b hb => ⟨hb.1, hb.2.1, fun o hm => hb.2.2 o (by
      rcases List.mem_append.1 hm with hm | hm
      · simp [hm]
      · simp [hm])⟩) (fun _ _ => rfl) _ _ h3⟩
    have hap := hm.apart
    rcases List.mem_append.1 hq with hq | hq
    · exact fun e => (List.pairwise_append.1 hap).2.2 q hq _ (List.mem_cons_self) g e rfl
    · exact (List.pairwise_cons.1 (List.pairwise_append.1 hap).2.1).1 q hq g rfl
  · exact hl'.regs u r hu
end
end E
end Go.Proofs.Ytmlajcbabimkjaa
/-
  The abstract machine at regions that draw their order and write, meanwhile, variables of the call's own.
  Conditions: none.
-/
namespace Go.Proofs.Ytmlajcbabimkjaa
set_option linter.unusedVariables false
open Go.RowKit Mono Rlp
namespace E
def putOf : Inf → List (Obj × Obj)
  | .put p q => [(p, q)]
  | _ => []
def EMS (N : Nat) (ops : Array Oper) (T : St → List Fr → Prop) : List Oper → List (Obj × Obj) → St → List Fr → Prop
  | [], ps, S, E => ps = [] ∧ T S E
  | o :: l, ps, S, E => ∃ (inf : Inf) (ps' : List (Obj × Obj)), ps = putOf inf ++ ps' ∧ offB N o.dst E = true ∧ ((∃ T d, inf = .new T d) → o.dst ≠ none) ∧ OkI N ops S o inf ∧ EMS N ops T l ps' (S.put o.dst inf.reg) (nextE E o.dst inf)
section
variable {N : Nat} {X : Cx N} {S S' : St} {a : Act} {w w' : World} {ops : Array Oper} {o : Oper} {Q : Exit → Act → World → Prop} {l : List Oper} {T : St → List Fr → Prop} {E : List Fr} {p q : Obj} {ps : List (Obj × Obj)}
theorem EMS.nil (h : T S E) : EMS N ops T [] [] S E := ⟨rfl, h⟩
theorem EMS.put (hg : guardOf ops S o = some true) (hd : o.dst = none) (hP : Puts ops S o p q) (k : EMS N ops T l ps S E) : EMS N ops T (o :: l) ((p, q) :: ps) S E :=
  ⟨.put p q, ps, rfl, by rw [hd]; rfl, (fun ⟨_, _, e⟩ => by cases e), ⟨hg, hd, hP⟩, by rw [hd]; exact k⟩
theorem EMS.seg {l2 : List Oper} : ∀ (l1 : List Oper) (S : St) (E : List Fr), EM N ops (fun S' E' => EMS N ops T l2 ps S' E') l1 S E → EMS N ops T (l1 ++ l2) ps S E
  | [], S, E, h => h
  | o :: l1, S, E, ⟨inf, h0, h1, h2, h3, h4⟩ => ⟨inf, ps, (by cases inf with
    | put _ _ => cases h0
    | _ => rfl), h1, h2, h3, EMS.seg l1 _ _ h4⟩
theorem EMS.cut (k : Nat) (h : EM N ops (fun S' E' => EMS N ops T (l.drop k) ps S' E') (l.take k) S E) : EMS N ops T l ps S E := by
  have := EMS.seg _ _ _ h
  rwa [List.take_append_drop] at this
structure GP (X : Cx N) (S : St) (infs : List Inf) (ws : World) (F : Nat → Nat → Prop) (L : Nat → Prop) (vs : Nat → Value) (u : World) : Prop where
  gr : GrE (fun b => ∃ (k : Nat) (p q : Obj), infs[k]? = some (.put p q) ∧ p.blk = some b) ws u
  lo : ∀ j, L j → ∀ b, F j b → ws.heap.size ≤ b ∧ b < u.heap.size
  dis : ∀ i j b, L i → L j → i ≠ j → F i b → ¬ F j b
  val : ∀ j i, L j → infs[j]? = some i → (match (generalizing := false) i with
    | .new T d => ∃ g cs, vs j = .pointer (some ⟨g, 0, none⟩) ∧ (∀ b, F j b ↔ b = g) ∧ u.heap[g]? = some (.cells cs.toArray T (0, 0)) ∧ Reads (zone X S infs ws F L) u d cs
    | i => ReadR (zone X S infs ws F L) u i.reg (vs j))
  put : ∀ (k : Nat) (p q : Obj), infs[k]? = some (.put p q) → (L k → q.At X.mine (zone X S infs ws F L) u) ∧ (¬ L k → p.At X.mine (zone X S infs ws F L) u)
structure PutsOk (X : Cx N) (S : St) (infs : List Inf) (ws : World) : Prop where
  low : ∀ (k : Nat) (p q : Obj) (b : Nat), infs[k]? = some (.put p q) → p.blk = some b → ¬ X.ok S.objs ws b ∧ b < ws.heap.size
  apart : ∀ (k k' : Nat) (p q p' q' : Obj), infs[k]? = some (.put p q) → infs[k']? = some (.put p' q') → k ≠ k' → ∀ b, p.blk = some b → p'.blk ≠ some b
  same : ∀ (k : Nat) (p q : Obj), infs[k]? = some (.put p q) → q.blk = p.blk
theorem GP.lt {infs : List Inf} {ws : World} {F : Nat → Nat → Prop} {L : Nat → Prop} {vs : Nat → Value} {u : World} (h : GP X S infs ws F L vs u) {b : Nat} (hb : zone X S infs ws F L b) : b < u.heap.size := by
  rcases hb with hb | ⟨i, h1, _, h2⟩
  · exact Nat.lt_of_lt_of_le hb.2.1 h.gr.size
  · exact (h.lo i h1 b h2).2
theorem GP.off {infs : List Inf} {ws : World} {F : Nat → Nat → Prop} {L : Nat → Prop} {vs : Nat → Value} {u : World} (h : GP X S infs ws F L vs u) (hP : PutsOk X S infs ws) {k b : Nat} (hk : infs[k]? = some (.put p q)) (hp : p.blk = some b) : ¬ zone X S infs ws F L b := by
  have := hP.low k p q b hk hp
  rintro (hb | ⟨i, h1, _, h2⟩)
  · exact this.1 hb
  · have := (h.lo i h1 b h2).1
    omega
theorem GP.step {infs : List Inf} {ws : World} {F : Nat → Nat → Prop} {L : Nat → Prop} {vs : Nat → Value} {u u' : World} (h : GP X S infs ws F L vs u) (hP : PutsOk X S infs ws) {k : Nat} {i : Inf} (hi : infs[k]? = some i) (hk : ¬ L k) (H : Nat → Prop) (hH : ∀ b, H b → ∃ p q : Obj, i = .put p q ∧ p.blk = some b) (hg : GrE H u u') (v : Value) (f : Nat → Prop) (hf : ∀ b, f b → u.heap.size ≤ b ∧ b < u'.heap.size)
    (hv : (∀ b, zone X S infs ws F L b → zone X S infs ws (fun j => if j = k then f else F j) (fun j => j = k ∨ L j) b) → (match (generalizing := false) i with
      | .new T d => ∃ g cs, v = .pointer (some ⟨g, 0, none⟩) ∧ (∀ b, f b ↔ b = g) ∧ u'.heap[g]? = some (.cells cs.toArray T (0, 0)) ∧ Reads (zone X S infs ws (fun j => if j = k then f else F j) (fun j => j = k ∨ L j)) u' d cs
      | i => ReadR (zone X S infs ws (fun j => if j = k then f else F j) (fun j => j = k ∨ L j)) u' i.reg v))
    (hq : ∀ p q : Obj, i = .put p q → q.At X.mine (zone X S infs ws F L) u') :
    GP X S infs ws (fun j => if j = k then f else F j) (fun j => j = k ∨ L j) (fun j => if j = k then v else vs j) u' := by
  have hF : ∀ j, L j → (if j = k then f else F j) = F j := fun j hj => if_neg fun e => hk (by rw [← e]; exact hj)
  have hz : ∀ b, zone X S infs ws F L b → zone X S infs ws (fun j => if j = k then f else F j) (fun j => j = k ∨ L j) b := fun b hb => by
    rcases hb with hb | ⟨i, h1, h2, h3⟩
    · exact .inl hb
    · exact .inr ⟨i, .inr h1, h2, by show (if i = k then f else F i) b; rw [hF i h1]; exact h3⟩
  have hHz : ∀ b, H b → ¬ zone X S infs ws F L b := fun b hb => by
    obtain ⟨p, q, rfl, hp⟩ := hH b hb
    exact h.off hP hi hp
  have hc : ∀ p : Addr, zone X S infs ws F L p.block → u'.cell? p = u.cell? p := fun p hp => hg.cell (h.lt hp) fun hn => hHz _ hn hp
  refine ⟨⟨hg.os.trans h.gr.os, hg.tape.trans h.gr.tape, hg.output.trans h.gr.output, Nat.le_trans h.gr.size hg.size, fun b hb hn => ?_⟩, fun j hj b hb => ?_, fun i j b hi hj hij hb => ?_, fun j i' hj hi' => ?_, fun k' p' q' hk' => ?_⟩
  · rw [hg.block b (Nat.lt_of_lt_of_le hb h.gr.size) fun hn' => by
      obtain ⟨p, q, rfl, hp⟩ := hH b hn'
      exact hn ⟨k, p, q, hi, hp⟩]
    exact h.gr.block b hb hn
  · by_cases e : j = k
    · rw [if_pos e] at hb
      exact ⟨Nat.le_trans h.gr.size (hf b hb).1, (hf b hb).2⟩
    · rw [if_neg e] at hb
      have := h.lo j (hj.resolve_left e) b hb
      exact ⟨this.1, Nat.lt_of_lt_of_le this.2 hg.size⟩
  · by_cases e1 : i = k
    · by_cases e2 : j = k
      · exact absurd (e1.trans e2.symm) hij
      · rw [if_pos e1] at hb
        rw [if_neg e2]
        intro hb2
        have := (h.lo j (hj.resolve_left e2) b hb2).2
        have := (hf b hb).1
        omega
    · rw [if_neg e1] at hb
      by_cases e2 : j = k
      · rw [if_pos e2]
        intro hb2
        have := (h.lo i (hi.resolve_left e1) b hb).2
        have := (hf b hb2).1
        omega
      · rw [if_neg e2]
        exact h.dis i j b (hi.resolve_left e1) (hj.resolve_left e2) hij hb
  · by_cases e : j = k
    · subst e
      obtain rfl : i' = i := Option.some.inj (hi'.symm.trans hi)
      simp only [if_true]
      exact hv hz
    · have hj' := hj.resolve_left e
      have h0 := h.val j i' hj' hi'
      simp only [if_neg e]
      cases i' with
      | new T d =>
        obtain ⟨g, cs, g1, g2, g3, g4⟩ := h0
        have hlo := h.lo j hj' g ((g2 g).2 rfl)
        exact ⟨g, cs, g1, g2, (hg.block g (lt_of_some g3) fun hn => by
          obtain ⟨p, q, rfl, hp⟩ := hH g hn
          have := (hP.low k p q g hi hp).2
          omega).trans g3, Reads.mono hz hc _ _ g4⟩
      | still r => exact ReadR.mono hz hc h0
      | grow r => exact ReadR.mono hz hc h0
      | skip => exact ReadR.mono hz hc h0
      | put p q => trivial
  · by_cases e : k' = k
    · subst e
      obtain rfl : i = .put p' q' := Option.some.inj (hi.symm.trans hk')
      refine ⟨fun _ => (hq p' q' rfl).move hz (fun _ _ => rfl) (fun _ _ => rfl), fun hn => absurd (.inl rfl) hn⟩
    · have hb : ∀ g, p'.blk = some g → u'.heap[g]? = u.heap[g]? := fun g hg' => hg.block g (Nat.lt_of_lt_of_le (hP.low k' p' q' g hk' hg').2 h.gr.size) fun hn => by
        obtain ⟨p, q, rfl, hp⟩ := hH g hn
        exact hP.apart k k' p q p' q' hi hk' (fun e' => e e'.symm) g hp hg'
      obtain ⟨h1, h2⟩ := h.put k' p' q' hk'
      refine ⟨fun hL => (h1 (hL.resolve_left e)).move hz hc fun g hg' => hb g (by rw [← hP.same k' p' q' hk']; exact hg'), fun hn => (h2 fun hL => hn (.inr hL)).move hz hc hb⟩
theorem EM.put (hg : guardOf ops S o = some true) (hd : o.dst = none) (hP : Puts ops S o p q) (k : EMS N ops T l ps S E) : EM N ops (fun S' E' => EMS N ops T (o :: l) ((p, q) :: ps) S' E') [] S E := EMS.put hg hd hP k
theorem Le.perm {rs : List (Tmp × R)} {os os' : List Obj} {fs : List (Value × D)} (h : os.Perm os') : Le X ⟨rs, os, fs⟩ ⟨rs, os', fs⟩ := fun a w ha => by
  have hok : ∀ b, X.ok os w b → X.ok os' w b := fun b hb => ⟨hb.1, hb.2.1, fun o ho => hb.2.2 o (h.mem_iff.2 ho)⟩
  refine ⟨⟨ha.mem.gr, ?_, fun o ho => (ha.mem.at_ o (h.mem_iff.2 ho)).move hok (fun _ _ => rfl) fun _ _ => rfl, fun f hf => Reads.mono hok (fun _ _ => rfl) _ _ (ha.mem.fact f hf)⟩, fun t r hr => (ha.regs t r hr).mono hok fun _ _ => rfl, ha.size, ha.defers⟩
  exact h.pairwise ha.mem.apart fun {x y} hxy b hb e => hxy b e hb
end
end E
end Go.Proofs.Ytmlajcbabimkjaa
/-
  A copy of bytes in new memory; a word seen as a slice.
  Conditions: none.
-/
namespace Go.Proofs.Ytmlajcbabimkjaa
set_option linter.unusedVariables false
open Go.RowKit Mono Rlp
theorem slice_word_off (w : World) (g o : Nat) : (Instr.sliceAt 32 (.pointer (some ⟨g, o, none⟩)) none none none).run Try.prog w = .ok (.slice (some ⟨g, o, none⟩) 32 32) w := by
  have hn : Try.prog.arrayLen 32 = 32 := by kernel_rfl
  have hs : (sizeOf (Try.prog.elem 32)).run Try.prog w = .ok 1 w := by kernel_rfl
  rw [run_sliceAt_array_all (P := Try.prog) w 32 ⟨g, o, none⟩ (by kernel_rfl), hs]
  simp [slicedAt, hn, add_none, Result.andThen]
end Go.Proofs.Ytmlajcbabimkjaa
/-
  The abstract machine: an array seen as a slice, copy into a variable's array, a copy of bytes in new memory.
  Conditions: none.
-/
namespace Go.Proofs.Ytmlajcbabimkjaa
set_option linter.unusedVariables false
open Go.RowKit Mono Rlp
namespace E
structure SliceA (T n : Nat) : Prop where
  ok : ∀ w g o, (Instr.sliceAt T (.pointer (some ⟨g, o, none⟩)) none none none).run Try.prog w = .ok (.slice (some ⟨g, o, none⟩) n n) w
section
variable {N : Nat} {X : Cx N} {S : St} {ops : Array Oper} {o : Oper} {Q : Exit → Act → World → Prop} {l : List Oper} {TT : St → List Fr → Prop} {EE : List Fr} {rs : List (Tmp × R)} {os : List Obj} {fs : List (Value × D)}
theorem g_slarr {x : Operand} {T n g k : Nat} (hA : SliceA T n) (ho : o.op = .slice T x none none none) (hx : ev S x = some (.val (.v (.pointer (some ⟨g, k, none⟩))))) : Still ops S o (.val (.v (.slice (some ⟨g, k, none⟩) n n))) := fun base ok a w ha => by
  have hx' := ev_v ha hx fun t e => looks_of e (by rw [ho]; simp [Op.operands])
  refine ⟨_, ?_, v_mk rfl⟩
  unfold execOp
  simp only [ho, hx', Option.map_none, Sem.run_bind, hA.ok w g k, Result.andThen_ok, Sem.run_pure]
theorem H_slarr {t ty : Nat} {pos : String} {af : Array Edge} {gd : Option (Nat × Bool)} {x : Operand} {T n g k : Nat} (hA : SliceA T n) (hx : ev (⟨rs, os, fs⟩ : St) x = some (.val (.v (.pointer (some ⟨g, k, none⟩))))) (hg : guardOf ops ⟨rs, os, fs⟩ ⟨some t, .slice T x none none none, ty, pos, af, gd⟩ = some true) (hoff : offB N (some t) EE = true) (kk : EM N ops TT l ⟨(t, .val (.v (.slice (some ⟨g, k, none⟩) n n))) :: rs, os, fs⟩ EE) : EM N ops TT (⟨some t, .slice T x none none none, ty, pos, af, gd⟩ :: l) ⟨rs, os, fs⟩ EE := EH.still (g_slarr hA rfl hx) hg rfl hoff kk
theorem EL.copy {T U e b g n k c : Nat} {x y : Operand} {t : TypeId} {d d'' : D} {m : List UInt8} (i : Nat) (ho : o.op = .call { callee := .builtin .copy, args := #[x, y], argTypes := #[T, U] }) (hg : guardOf ops S o = some true) (hd : ∀ t, o.dst = some t → t < N) (hT : assoc slL T = some (e, 1, b))
    (hx : ev S x = some (.val (.v (.slice (some ⟨g, n, none⟩) k c)))) (hi : S.objs[i]? = some (.var g t d)) (hy : ev S y = some (.val (.bs m))) (hm : m.length = k) (h0 : Nat.blt 0 k = true) (hu : d.upd n (.arr k m) = some d'')
    (kk : EL X ops Q l (St.put ⟨S.regs, S.objs.set i (.var g t d''), S.facts⟩ o.dst (.val (.v (.int .i64 (k : Int)))))) : EL X ops Q (o :: l) S := by
  constructor
  intro a w ha
  have hk := ha.kn fun t => t ∈ o.looksAt ops
  have hx' := ev_v hk hx fun t e => looks_of e (by rw [ho]; simp [Op.operands, Call.operands])
  obtain ⟨A, c', h1, h2, h3, h4⟩ := bs_ex (hk.ev hy fun t e => looks_of e (by rw [ho]; simp [Op.operands, Call.operands]))
  have h0' : 0 < k := by simpa using h0
  obtain ⟨bl, o', rfl, hb, hc⟩ := h4 (fun e => by have := congrArg List.length e; rw [bvs_length] at this; simp at this; rw [this] at hm; simp at hm; omega)
  obtain ⟨hge, cs, h5, h6⟩ := ha.mem.var hi
  have hnew : Reads (X.ok S.objs w) w (.arr k m) (bvs m) := by rw [Reads]; exact ⟨hm, rfl⟩
  obtain ⟨e1, e2, pre, mid, post, rfl, h7, h8, h9⟩ := upd_spec d n (.arr k m) d'' cs (bvs m) hu h6 hnew
  have hcell : ∀ j, j < (bvs m).length → (w.cell? ⟨g, n + j, none⟩).isSome = true := fun j hj => by
    rw [cell_of_row w g (n + j) _ t (0, 0) h5]
    simp only [List.getElem?_toArray, List.append_assoc]
    rw [List.getElem?_append_right (by omega), List.getElem?_append_left (by omega)]
    simp
    omega
  have hf : ∀ j, j < (bvs m).length → w.frozen? ⟨g, n + j, none⟩ = false := fun j _ => by simp [World.frozen?, h5]
  have hsl := slI hT
  have hrun := run_copy_cells (P := Try.prog) w T U o.type e g n k c ⟨bl, o', none⟩ m.length c' (bvs m) hsl.und hsl.size (by rw [bvs_length, hm]; simp) (fun j v hv => by rw [add_none]; exact hc j v hv) hcell hf (bvs_one m)
  unfold wpList
  rw [if_pos (wanted_of ha hg)]
  refine .inl ?_
  unfold Oper.wp execOp
  simp only [ho, resolve, invoke, builtin, Sem.run_bind, Sem.run_pure, Result.andThen_ok, List.map_toArray, List.map_cons, List.map_nil, hx', h1, hrun]
  have ht := ha.turn (q := .var g t d'') (w' := w.setCells g n (bvs m)) hi (grownBy_setCells g (bvs m) n w) (.inl rfl) fun hok hcell => ⟨hge, pre ++ bvs m ++ post, by
    have := setCells_row (bvs m) pre mid post w h8 h5
    rwa [h7] at this, Reads.mono hok hcell _ _ h9⟩
  rw [bvs_length, hm]
  exact kk.go _ _ (ht.put hd (v_mk rfl))
theorem P_copy {t ty : Nat} {pos : String} {af : Array Edge} {gd : Option (Nat × Bool)} {T U e b g n k c : Nat} {x y : Operand} {tv : TypeId} {d d'' : D} {m : List UInt8} (i : Nat) (hm : m.length = k) (hx : ev (⟨rs, os, fs⟩ : St) x = some (.val (.v (.slice (some ⟨g, n, none⟩) k c)))) (hy : ev (⟨rs, os, fs⟩ : St) y = some (.val (.bs m))) (hi : os[i]? = some (.var g tv d)) (hT : assoc slL T = some (e, 1, b)) (h0 : Nat.blt 0 k = true) (hu : d.upd n (.arr k m) = some d'') (hg : guardOf ops ⟨rs, os, fs⟩ ⟨some t, .call { callee := .builtin .copy, args := #[x, y], argTypes := #[T, U] }, ty, pos, af, gd⟩ = some true) (hN : Nat.blt t N = true) (kk : EL X ops Q l ⟨(t, .val (.v (.int .i64 (k : Int)))) :: rs, os.set i (.var g tv d''), fs⟩) : EL X ops Q (⟨some t, .call { callee := .builtin .copy, args := #[x, y], argTypes := #[T, U] }, ty, pos, af, gd⟩ :: l) ⟨rs, os, fs⟩ :=
  EL.copy i rfl hg (dst_lt rfl hN) hT hx hi hy hm h0 hu kk
end
theorem sl_word : SliceA 32 32 := ⟨fun w g o => slice_word_off w g o⟩
end E
end Go.Proofs.Ytmlajcbabimkjaa
/-
  The abstract machine: for a while, all that is may be read (and nothing of the call's own is written).
  Conditions: none.
-/
namespace Go.Proofs.Ytmlajcbabimkjaa
set_option linter.unusedVariables false
open Go.RowKit Mono Rlp
namespace E
def VSub (l : List (Tmp × R)) : List (Tmp × R) → Prop
  | [] => True
  | (t, .val (.v x)) :: m => look l t = some (.val (.v x)) ∧ VSub l m
  | _ :: _ => False
section
variable {N : Nat} {X X' : Cx N} {S S1 : St} {ops : Array Oper} {o : Oper} {Q : Exit → Act → World → Prop} {K : Act → World → Prop} {l : List Oper} {c : Code} {TT : St → List Fr → Prop} {EE : List Fr} {rs : List (Tmp × R)} {os : List Obj} {fs : List (Value × D)} {a : Act} {w : World}
def Back (X : Cx N) (S : St) (X' : Cx N) : Prop := (∀ b, ¬ X'.own0 b) ∧ ∃ a, At X S a X'.w0
theorem VSub.get {l : List (Tmp × R)} : ∀ (m : List (Tmp × R)), VSub l m → ∀ t r, look m t = some r → ∃ x, r = .val (.v x) ∧ look l t = some (.val (.v x))
  | [], _, t, r, h => by simp [look] at h
  | (u, .val (.v x)) :: m, hs, t, r, h => by
    rw [look] at h
    split at h
    · rename_i e
      cases h
      subst e
      exact ⟨x, rfl, hs.1⟩
    · exact VSub.get m hs.2 t r h
  | (u, .any) :: m, hs, t, r, h => hs.elim
  | (u, .tpl _) :: m, hs, t, r, h => hs.elim
  | (u, .val (.arr _ _)) :: m, hs, t, r, h => hs.elim
  | (u, .val (.bs _)) :: m, hs, t, r, h => hs.elim
  | (u, .val (.sl _ _)) :: m, hs, t, r, h => hs.elim
  | (u, .val (.tup _)) :: m, hs, t, r, h => hs.elim
  | (u, .val (.pd _)) :: m, hs, t, r, h => hs.elim
  | (u, .val (.ifc _ _)) :: m, hs, t, r, h => hs.elim
theorem At.back (hb : Back X S X') (hr : VSub S1.regs rs) (ha : At X' S1 a w) : At X ⟨rs, S.objs, S.facts⟩ a w := by
  obtain ⟨hno, a0, h0⟩ := hb
  refine ⟨(h0.gr (ha.mem.gr.gr hno)).mem, fun t r ht => ?_, ha.size, ha.defers⟩
  obtain ⟨x, rfl, h1⟩ := VSub.get rs hr t r ht
  exact readV_v.2 (readV_v.1 (ha.regs t _ h1))
theorem EC.back (hb : Back X S X') (rs : List (Tmp × R)) (hr : VSub S1.regs rs) (k : EC X Q c ⟨rs, S.objs, S.facts⟩) : EC X' Q c S1 := ⟨fun a w ha => k.go a w (At.back hb hr ha)⟩
theorem EL.back (hb : Back X S X') (rs : List (Tmp × R)) (hr : VSub S1.regs rs) (k : EL X ops Q l ⟨rs, S.objs, S.facts⟩) : EL X' ops Q l S1 := ⟨fun a w ha => k.go a w (At.back hb hr ha)⟩
theorem EK.back (hb : Back X S X') (rs : List (Tmp × R)) (hr : VSub S1.regs rs) (k : EK X K ⟨rs, S.objs, S.facts⟩) : EK X' K S1 := ⟨fun a w ha => k.go a w (At.back hb hr ha)⟩
end
end E
end Go.Proofs.Ytmlajcbabimkjaa
