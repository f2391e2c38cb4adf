/-
 Merged (wip/tools/merge.py): RefOwn, Num4, Num5, AB0, TP2, TP3, TP4.
 Conditions: none.
-/
import Derived.Test.YtiledgojbpmoiaaZC14
import Derived.Test.YtiledgojbpmoiaaZC13
import Derived.Test.YtiledgojbpmoiaaZC10
import Derived.Test.YtiledgojbpmoiaaZC7
import Derived.Test.YtiledgojbpmoiaaZC8
import Derived.Test.YtiledgojbpmoiaaZC11
/-
 The reference's Pack: the bytes lie in new memory.
 Conditions: none.
-/
namespace Go.Proofs.Ytiledgojbpmoiaa
set_option linter.unusedVariables false
open Go.RowKit Mono Rlp
theorem own_block1 {w w0 : World} {B g : Nat} (b : UInt8) (h : w = w0.alloc (.cells #[bv b] 5)) (hg : w0.heap.size = g) (hb : B ≤ w0.heap.size) : OwnB w B (.slice (some ⟨g, 0, none⟩) 1 1) [b] := by
 subst h
 unfold OwnB
 exact own_lit w0 #[bv b] 5 1 1 g B hg hb (by simp [maxLen]) (by simp)
def PackOV (B : Nat) (r : Raw) : VP := fun v w => match packR r with
 | some b => ∃ vb, v = .tuple #[vb, .bool true] ∧ OwnB w B vb b
 | none => v = .tuple #[.slice none 0 0, .bool false]
theorem packOV_some {B : Nat} {r : Raw} {b : List UInt8} {v vb : Value} {w : World} (h : packR r = some b) (hv : v = .tuple #[vb, .bool true]) (hb : OwnB w B vb b) : PackOV B r v w := by unfold PackOV; rw [h]; exact ⟨vb, hv, hb⟩
theorem packOV_none {B : Nat} {r : Raw} {v : Value} {w : World} (h : packR r = none) (hv : v = .tuple #[.slice none 0 0, .bool false]) : PackOV B r v w := by unfold PackOV; rw [h]; exact hv
set_option maxHeartbeats 4000000 in
set_option maxRecDepth 20000 in
theorem ref_packO_bytes (vb vl : Value) (bs : List UInt8) (xs : List Raw) (w : World) (hv : IsB w vb bs) (hvl : ∃ A n c, vl = .slice A n c) : Calls Try.prog 71 #[.agg #[.bool false, vb, vl]] w (Ret (PackOV w.heap.size (.mk false bs xs)) w) := by
 obtain ⟨A, c, rfl, hc1, hc2, hr⟩ := hv
 obtain ⟨A9, n9, c9, rfl⟩ := hvl
 have HR := Lib.hid (hr.gr (gr_alloc w (.cells #[.bool false, .slice A bs.length c, .slice A9 n9 c9] 53)))
 unfold maxLen at hc2
 by_cases h0 : bs.length ≤ most
 ·
  simp only [most] at h0
  by_cases h1 : bs.length = 1
  ·
   obtain ⟨b, rfl⟩ := List.length_eq_one_iff.1 h1
   obtain ⟨bl, o, rfl, hbl, hcell⟩ := hr (by simp [bvs])
   have e1 := hcell 0 (bv b) rfl
   rw [Nat.add_zero] at e1
   unfold bv at e1
   clear hcell h1 hr
   have hbl2 := bv_lt b
   simp only [List.length_singleton] at hc1 ⊢
   by_cases h2 : b < 128
   ·
    have h3 : b.toNat < 128 := UInt8.lt_iff_toNat_lt.1 h2
    have HM := Lib.hid (show packR (.mk false [b] xs) = some [b] by rw [packR, if_neg (by simp [most]), EB, if_pos ⟨rfl, h2⟩])
    clear h2
    go_enter Try.func71, Try.ntmps71
    go_wp2_with fail
    refine bodyPost_ret (results_tmp2 rfl _ _ _) rfl ?_
    refine ⟨_, rfl, (gr_alloc w _).trans (gr_alloc _ _), packOV_some HM.out rfl ?_⟩
    exact own_block1 (g := w.heap.size + 1) b rfl (by simp) (gr_alloc w _).size
   ·
    have h3 : 128 ≤ b.toNat := Nat.not_lt.1 fun e => h2 (UInt8.lt_iff_toNat_lt.2 e)
    have HM := Lib.hid (show packR (.mk false [b] xs) = some (head 1 128 ++ [b]) by rw [packR, if_neg (by simp [most]), EB, if_neg (fun h => h2 h.2)]; rfl)
    clear h2
    go_enter Try.func71, Try.ntmps71
    go_wp2_with fail
    refine (ref_head 1 128 _ (by omega) (by omega)).mono ?_
    rintro e w1 ⟨v1, rfl, hg1, ho1⟩
    obtain ⟨A1, c1, rfl, hd1, hd2⟩ := own_form ho1
    have hhl : (head 1 128).length + 1 ≤ 16777225 := by rw [head_length]; exact szB_le 1 (by simp only [most]; omega)
    have HO1 := Lib.hid ho1
    have HG1 := Lib.hid ((gr_alloc w _).trans hg1)
    have HR1 := Lib.hid (HR.out.gr hg1)
    have hz1 := HG1.out.size
    unfold maxLen at hd2
    unfold OwnB at HO1
    generalize head 1 128 = hd at HM HO1 hhl hd1 ⊢
    clear ho1 hg1
    go_wp2_with (at_builtin; refine wpL_append (.tmp 32) (.tmp 33) 24 slT_bytes (base := w.heap.size) _ hd.length (bvs hd) _ 1 c _ (bvs [b]) rfl rfl rfl rfl (own_base HO1.out (by simp)) HR1.out (by simp [bvs]) (bvs_one _) (by simp only [maxLen]; omega) (by omega) (by omega) ?_; intro A2 c2 w2 hown2 hg2 _)
    refine bodyPost_ret (results_tmp2 rfl _ _ _) rfl ?_
    refine ⟨_, rfl, HG1.out.grown hg2 (by omega) fun j hj => own_block_ge (own_base HO1.out (by simp)) j hj, packOV_some HM.out rfl ?_⟩
    unfold OwnB; rw [List.length_append, bvs_append]; exact hown2
  ·
   have hd : ((bs.length : Int) == 1) = false := by simp; omega
   have HM := Lib.hid (show packR (.mk false bs xs) = some (head bs.length 128 ++ bs) by rw [packR, if_neg (by simp only [most]; omega), EB, if_neg (fun h => h1 h.1)])
   clear h1 hr
   go_enter Try.func71, Try.ntmps71
   go_wp2_with fail
   refine (ref_head bs.length 128 _ (by omega) (by omega)).mono ?_
   rintro e w1 ⟨v1, rfl, hg1, ho1⟩
   obtain ⟨A1, c1, rfl, hd1, hd2⟩ := own_form ho1
   have hhl : (head bs.length 128).length + bs.length ≤ 16777225 := by rw [head_length]; exact szB_le bs.length (by simp only [most]; omega)
   have HO1 := Lib.hid ho1
   have HG1 := Lib.hid ((gr_alloc w _).trans hg1)
   have HR1 := Lib.hid (HR.out.gr hg1)
   have hz1 := HG1.out.size
   unfold maxLen at hd2
   unfold OwnB at HO1
   generalize head bs.length 128 = hd at HM HO1 hhl hd1 ⊢
   clear ho1 hg1
   go_wp2_with (at_builtin; refine wpL_append (.tmp 32) (.tmp 33) 24 slT_bytes (base := w.heap.size) _ hd.length (bvs hd) _ bs.length c _ (bvs bs) rfl rfl rfl rfl (own_base HO1.out (by simp)) HR1.out (by simp [bvs]) (bvs_one _) (by simp only [maxLen]; omega) (by omega) (by omega) ?_; intro A2 c2 w2 hown2 hg2 _)
   refine bodyPost_ret (results_tmp2 rfl _ _ _) rfl ?_
   refine ⟨_, rfl, HG1.out.grown hg2 (by omega) fun j hj => own_block_ge (own_base HO1.out (by simp)) j hj, packOV_some HM.out rfl ?_⟩
   unfold OwnB; rw [List.length_append, bvs_append]; exact hown2
 ·
  have h3 : 16777216 < bs.length := by simp only [most] at h0; omega
  have HM := Lib.hid (show packR (.mk false bs xs) = none by rw [packR, if_pos (by omega)])
  clear h0 hr
  go_enter Try.func71, Try.ntmps71
  go_wp2_with fail
  refine bodyPost_ret (results_tmp2 rfl _ _ _) rfl ?_
  exact ⟨_, rfl, gr_alloc w _, packOV_none HM.out rfl⟩
set_option maxHeartbeats 4000000 in
set_option maxRecDepth 20000 in
theorem ref_packO : ∀ (n : Nat) (r : Raw) (v : Value) (w : World), cnt r < n → IsItem w v r → Calls Try.prog 71 #[v] w (Ret (PackOV w.heap.size r) w)
 | 0, r, v, w, hn, _ => by omega
 | n + 1, .mk false bs xs, v, w, hn, h => by
  obtain ⟨vb, vl, rfl, h1, A, c, _, rfl, _⟩ := isItem_form h
  exact ref_packO_bytes vb _ bs xs w h1 ⟨_, _, _, rfl⟩
 | n + 1, .mk true bs xs, v, w, hn, h => by
  have ih := Lib.hid (ref_packO n)
  obtain ⟨vb, vl, rfl, ⟨A9, c9, rfl, _⟩, A, c, rows, rfl, hc1, hc2, _, hr, hi⟩ := isItem_form h
  have HR := Lib.hid hr
  have HI := Lib.hid hi
  have hd := Lib.hid (show packR (.mk true bs xs) = (packRL xs []).map fun l => head l.length 192 ++ l by rw [packR])
  rw [cnt] at hn
  unfold maxLen at hc2
  clear h hr hi
  go_enter Try.func71, Try.ntmps71
  go_wp2_with fail
  go_loopw [5, 6] (fun ov i wr => ∃ (k : Nat) (acc : List UInt8), k ≤ xs.length ∧ i = .int .i64 k ∧ packRL xs [] = packRL (xs.drop k) acc ∧ acc.length ≤ 16777216 ∧ OwnB wr (w.heap.size + 1) ov acc ∧ Gr (w.alloc (.cells #[.bool true, .slice A9 bs.length c9, .slice A xs.length c] 53)) wr) (fun _ i _ => xs.length - (intOf i).toNat)
  case atStart => exact ⟨0, [], by omega, rfl, rfl, by simp, OwnB.nil _ _, Gr.refl _⟩
  case round =>
   obtain ⟨k, acc, hk, rfl, hM, hal, hown, hb⟩ := hrel
   obtain ⟨A3, c3, rfl, hd1, hd2⟩ := own_form hown
   have HM := Lib.hid hM
   have HO := Lib.hid hown
   have HB := Lib.hid hb
   have hbs := hb.size
   have hcl := hb.cell (p := ⟨w.heap.size, 2, none⟩) (by simp)
   have hcl2 : (w.alloc (.cells #[.bool true, .slice A9 bs.length c9, .slice A xs.length c] 53)).cell? ⟨w.heap.size, 2, none⟩ = some (.slice A xs.length c) := by rw [cell_of_row _ _ _ _ _ (0, 0) (heap_alloc_new w _)]; rfl
   rw [hcl2] at hcl
   simp only [size_new] at hbs
   unfold maxLen at hd2
   clear hM hown hb hcl2
   by_cases h1 : k < xs.length
   ·
    obtain ⟨bl, o, f, vb', vl, rfl, hbl, e1, e2, e3, hx, ⟨A2, n2, c2, rfl⟩, A', n', c', rfl⟩ := items_at HR.out HI.out k h1
    have e1' := (((gr_alloc w _).trans HB.out).cell (p := ⟨bl, o + k * 3, none⟩) hbl).trans e1
    have e2' := (((gr_alloc w _).trans HB.out).cell (p := ⟨bl, o + k * 3 + 1, none⟩) hbl).trans e2
    have e3' := (((gr_alloc w _).trans HB.out).cell (p := ⟨bl, o + k * 3 + 2, none⟩) hbl).trans e3
    have HX := Lib.hid (hx.gr ((gr_alloc w _).trans HB.out))
    have hdk : xs.drop k = xs[k] :: xs.drop (k + 1) := List.drop_eq_getElem_cons h1
    have hcnt := cnt_get xs k h1
    have HM2 := Lib.hid (show packRL xs [] = match packR xs[k] with | none => none | some b => if acc.length + b.length > most then none else packRL (xs.drop (k + 1)) (acc ++ b) by
     rw [HM.out, hdk, packRL]
     cases packR xs[k] <;> rfl)
    clear e1 e2 e3 hx hdk HM
    go_wp2_with fail
    refine (ih.out xs[k] _ _ (by omega) HX.out).mono ?_
    rintro e w1 ⟨v1, rfl, hg1, hp1⟩
    have HG1 := Lib.hid (HB.out.trans hg1)
    have HO1 := Lib.hid (own_gr HO.out hg1)
    have hz1 := HG1.out.size
    simp only [size_new] at hz1
    unfold PackOV at hp1
    clear hg1 e1' e2' e3' hcl HO hcnt
    cases hpx : packR xs[k] with
    | none =>
     rw [hpx] at HM2 hp1
     dsimp only at hp1
     subst hp1
     have HM3 := Lib.hid (show packR (.mk true bs xs) = none by rw [hd.out, HM2.out]; rfl)
     clear HM2 hpx
     go_wp2_with fail
     refine bodyPost_ret (results_tmp2 rfl _ _ _) rfl ?_
     exact ⟨_, rfl, (gr_alloc w _).trans HG1.out, packOV_none HM3.out rfl⟩
    | some bx =>
     rw [hpx] at HM2 hp1
     obtain ⟨vbx, rfl, hown4⟩ := hp1
     obtain ⟨A4, c4, rfl, he1, he2, hr4⟩ := hown4.isB
     clear hown4
     have HR4 := Lib.hid hr4
     have hbx := packR_le _ _ hpx
     simp only [most] at hbx
     unfold maxLen at he2
     clear hr4 hpx
     by_cases h3 : acc.length + bx.length > 16777216
     ·
      have HM3 := Lib.hid (show packR (.mk true bs xs) = none by rw [hd.out, HM2.out]; dsimp only; rw [if_pos h3]; rfl)
      clear HM2
      go_wp2_with fail
      refine bodyPost_ret (results_tmp2 rfl _ _ _) rfl ?_
      exact ⟨_, rfl, (gr_alloc w _).trans HG1.out, packOV_none HM3.out rfl⟩
     ·
      have HM3 := Lib.hid (show packRL xs [] = packRL (xs.drop (k + 1)) (acc ++ bx) by rw [HM2.out]; dsimp only; rw [if_neg h3])
      clear HM2
      go_wp2_with (at_builtin; refine wpL_append _ _ 24 slT_bytes _ _ _ _ _ _ _ (bvs bx) rfl rfl rfl rfl HO1.out HR4.out (by simp [bvs]) (bvs_one _) (by simp only [maxLen]; omega) (by omega) (by omega) ?_; intro A5 c5 w5 hown5 hg5 _)
      go_roundw
      case rel =>
       refine ⟨k + 1, acc ++ bx, by omega, by go_num, HM3.out, by rw [List.length_append]; omega, ?_, ?_⟩
       ·
        unfold OwnB
        rw [List.length_append, bvs_append]
        exact hown5
       · exact HG1.out.grown hg5 (by rw [size_new]; omega) fun j hj => by rw [size_new]; exact own_block_ge HO1.out j hj
      case measure => simp [intOf]; omega
   ·
    have h2 : xs.length ≤ k := by omega
    have HM2 := Lib.hid (show packR (.mk true bs xs) = some (head acc.length 192 ++ acc) by
     rw [hd.out, HM.out, List.drop_eq_nil_of_le h2, packRL]
     rfl)
    clear h1 HM
    go_wp2_with fail
    refine (ref_head acc.length 192 _ (by omega) (by omega)).mono ?_
    rintro e w1 ⟨v1, rfl, hg1, ho1⟩
    obtain ⟨A1, c1, rfl, he1, he2⟩ := own_form ho1
    have hhl : (head acc.length 192).length + acc.length ≤ 16777225 := by rw [head_length]; exact szB_le _ (by simp only [most]; omega)
    obtain ⟨_, _, he, _, _, hrd⟩ := OwnB.isB HO.out
    injection he with he3 _ he4
    subst he3 he4
    have HRD := Lib.hid (hrd.gr hg1)
    have HO1 := Lib.hid ho1
    have HG1 := Lib.hid (((gr_alloc w _).trans HB.out).trans hg1)
    have hz1 := HG1.out.size
    unfold maxLen at he2
    unfold OwnB at HO1
    generalize head acc.length 192 = hh at HM2 HO1 hhl he1 ⊢
    clear ho1 hg1 hrd
    go_wp2_with (at_builtin; refine wpL_append (.tmp 66) (.tmp 67) 24 slT_bytes (base := w.heap.size) _ hh.length (bvs hh) _ acc.length _ _ (bvs acc) rfl rfl rfl rfl (own_base HO1.out (by omega)) HRD.out (by simp [bvs]) (bvs_one _) (by simp only [maxLen]; omega) (by omega) (by omega) ?_; intro A2 c2 w2 hown2 hg2 _)
    refine bodyPost_ret (results_tmp2 rfl _ _ _) rfl ?_
    refine ⟨_, rfl, HG1.out.grown hg2 (by omega) fun j hj => own_block_ge (own_base HO1.out (by omega)) j hj, packOV_some HM2.out rfl ?_⟩
    unfold OwnB; rw [List.length_append, bvs_append]; exact hown2
set_option maxHeartbeats 2000000 in
set_option maxRecDepth 20000 in
theorem ref_PackO (v : Value) (x : Raw) (w : World) (h : IsItem w v x) : Calls Try.prog 50 #[v] w (Ret (fun v w' => PackV w.heap.size x v w') w) := by
 have hx := h
 obtain ⟨lst, bs, xs⟩ := x
 obtain ⟨vb, vl, rfl, ⟨A9, c9, rfl, _⟩, A, c, rows, rfl, _⟩ := isItem_form h
 clear h
 generalize hr : Raw.mk lst bs xs = r at hx ⊢
 have hpr := packed_ref r
 have HX := Lib.hid (hx.gr (gr_alloc w (.cells #[.bool lst, .slice A9 bs.length c9, .slice A xs.length c] 53)))
 have hdl := deepR_le 32 r
 clear hx hr
 go_enter Try.func50, Try.ntmps50
 go_wp2_with fail
 refine (ref_deep 32 r _ _ (Nat.le_refl _) HX.out).mono ?_
 rintro e w1 ⟨_, rfl, hg1, rfl⟩
 have HG1 := Lib.hid ((gr_alloc w _).trans hg1)
 have HX1 := Lib.hid (HX.out.gr hg1)
 have e0 := hg1.cell (p := ⟨w.heap.size, 0, none⟩) (by simp)
 have e1 := hg1.cell (p := ⟨w.heap.size, 1, none⟩) (by simp)
 have e2 := hg1.cell (p := ⟨w.heap.size, 2, none⟩) (by simp)
 rw [cell_of_row (w.alloc _) _ _ _ _ (0, 0) (heap_alloc_new w _)] at e0 e1 e2
 simp at e0 e1 e2
 clear hg1 HX
 by_cases h3 : deepR r 32 > 32
 ·
  have HP := Lib.hid (show packed r = none by rw [hpr, if_pos h3])
  clear hpr
  go_wp2_with fail
  refine bodyPost_ret (results_tmp2 rfl _ _ _) rfl ?_
  refine ⟨_, rfl, HG1.out, ?_⟩
  unfold PackV
  rw [HP.out]
  rfl
 ·
  rw [if_neg h3] at hpr
  have HPR := Lib.hid hpr
  have h4 : deepR r 32 ≤ 32 := by omega
  clear h3 hpr
  go_wp2_with fail
  refine (ref_packO _ r _ _ (Nat.lt_succ_self _) HX1.out).mono ?_
  rintro e w2 ⟨v2, rfl, hg2, hp2⟩
  have HG2 := Lib.hid (HG1.out.trans hg2)
  unfold PackOV at hp2
  clear hg2 HX1 e0 e1 e2
  cases hpx : packR r with
  | none =>
   rw [hpx] at hp2 HPR
   dsimp only at hp2
   subst hp2
   have HP := Lib.hid (show packed r = none from HPR.out)
   clear hpx HPR
   go_wp2_with fail
   refine bodyPost_ret (results_tmp2 rfl _ _ _) rfl ?_
   refine ⟨_, rfl, HG2.out, ?_⟩
   unfold PackV
   rw [HP.out]
   rfl
  | some b =>
   rw [hpx] at hp2 HPR
   obtain ⟨vb2, rfl, hown4⟩ := hp2
   obtain ⟨A4, c4, rfl, he1, he2, hr4⟩ := hown4.isB
   have HO4 := Lib.hid (own_base hown4 (base' := w.heap.size) HG1.out.size)
   clear hown4
   have hbx := packR_le _ _ hpx
   simp only [most] at hbx
   have HR4 := Lib.hid hr4
   have he2' := Lib.hid he2
   unfold maxLen at he2
   clear hr4 hpx
   by_cases h5 : b.length > most
   ·
    have HP := Lib.hid (show packed r = none by rw [HPR.out]; dsimp only; rw [if_pos h5])
    simp only [most] at h5
    clear HPR
    go_wp2_with fail
    refine bodyPost_ret (results_tmp2 rfl _ _ _) rfl ?_
    refine ⟨_, rfl, HG2.out, ?_⟩
    unfold PackV
    rw [HP.out]
    rfl
   ·
    have HP := Lib.hid (show packed r = some b by rw [HPR.out]; dsimp only; rw [if_neg h5])
    have h6 : b.length ≤ 16777216 := by simp only [most] at h5; omega
    clear HPR h5
    go_wp2_with fail
    refine bodyPost_ret (results_tmp2 rfl _ _ _) rfl ?_
    refine ⟨_, rfl, HG2.out, ?_⟩
    unfold PackV
    rw [HP.out]
    exact ⟨_, rfl, HO4.out⟩
end Go.Proofs.Ytiledgojbpmoiaa
/-
 Words as items: rlp.Big and the reference's Big.
 Conditions: none.
-/
namespace Go.Proofs.Ytiledgojbpmoiaa
set_option linter.unusedVariables false
open Go.RowKit Mono Rlp
end Go.Proofs.Ytiledgojbpmoiaa
/-
 Numbers as words: the reference's Of, Int, IntOf; Num.
 Conditions: none.
-/
namespace Go.Proofs.Ytiledgojbpmoiaa
set_option linter.unusedVariables false
open Go.RowKit Mono Rlp
end Go.Proofs.Ytiledgojbpmoiaa
/-
 Items' bytes, numbers and words of both sides, as the abstract machine calls them.
 Conditions: none.
-/
namespace Go.Proofs.Ytiledgojbpmoiaa
set_option linter.unusedVariables false
open Go.RowKit Mono Rlp
namespace E
theorem packV_read {ok : Nat → Prop} {w w' : World} {x : Raw} {v : Value} (h : PackV w.heap.size x v w') : ReadR (fun b => (ok b ∨ w.heap.size ≤ b) ∧ b < w'.heap.size) w' (packD (packed x)) v := by
 unfold PackV at h
 unfold packD
 cases hp : packed x with
 | none =>
  rw [hp] at h
  rw [h]
  exact tpl2 (v_mk rfl) (v_mk rfl)
 | some b =>
  rw [hp] at h
  obtain ⟨vb, rfl, ho⟩ := h
  have h1 := ownB_P ho
  exact tpl2 ((readV_one rfl).2 (by rw [Reads]; exact ⟨_, rfl, h1.mono (fun b hb => more_new b hb) fun _ _ => rfl⟩)) (v_mk rfl)
theorem f_Pack (x : Raw) : Fn 40 [dItem x] (· = packD (packed x)) := ⟨fun ok w xs hok hr => by
 obtain ⟨v, rfl, h⟩ := one_arg hr
 refine (rlp_pack v x w (isItem_of hok h)).mono ?_
 rintro e w' ⟨v', rfl, hg, hv⟩
 exact ⟨hg, _, _, rfl, rfl, packV_read hv⟩⟩
theorem f_rPack (x : Raw) : Fn 50 [dItem x] (· = packD (packed x)) := ⟨fun ok w xs hok hr => by
 obtain ⟨v, rfl, h⟩ := one_arg hr
 refine (ref_PackO v x w (isItem_of hok h)).mono ?_
 rintro e w' ⟨v', rfl, hg, hv⟩
 exact ⟨hg, _, _, rfl, rfl, packV_read hv⟩⟩
theorem f_rBytes (l : List UInt8) : Fn 18 [.bs l] (· = .val (dItem (.mk false l []))) := by
 refine Fn.walk 5 Try.func18 rfl Try.ntmps18 (by simp) fun X => ?_
 repeat
  (first
   | (apply P_move; iterate 3 rfl) | (apply P_build; iterate 7 rfl) | (apply P_build0; iterate 5 rfl) | (apply P_alloc; rfl; rfl; rfl; intro _)
   | (apply P_store; rfl; (focus (repeat first | exact .z | apply SetAt.s | apply SetAtF.s)); iterate 4 rfl) | ((with_reducible apply EK.then_normal); apply EK.round) | apply EL.nil
   | ((with_reducible apply EK.then_normal); apply EK.code) | ((with_reducible apply EK.in_other); rfl)
   | (with_reducible first | apply EC.seq | apply EC.region | apply EC.skip | apply EC.label | apply EC.block | apply EC.exit | apply EC.ret | apply EK.in_normal | apply EK.in_same | apply EK.in_ret | apply EK.then_ret | apply EK.then_exit))
 refine EK.retc1r 0 rfl rfl rfl rfl ?_ rfl
 (repeat first | exact RefineL.refl _ _ | exact RL.nil | exact Rf.same | exact Rf.bs0 | exact Rf.sl0 | (apply Rf.fact; (focus (simp; done)); rfl) | apply Rf.tup | apply RL.cons)
end E
end Go.Proofs.Ytiledgojbpmoiaa
/-
 Tries' nodes: what they read as, their items and bytes (plain); shape.texts.
 Conditions: none.
-/
namespace Go.Proofs.Ytiledgojbpmoiaa
set_option linter.unusedVariables false
open Go.RowKit Mono Rlp
namespace E
theorem FnM.frzT {f : FuncId} {ds : List D} {os : List Obj} {Φ : R → List Obj → Prop} (e z : Nat) (h : FnM f ds os (fun r os' => ∃ v ds' rest, r = .val (.v v) ∧ os' = .row v e z ds' :: rest ∧ Φ (.val (.sl z ds')) rest)) : FnM f ds os Φ := ⟨fun ok w xs h1 h2 h3 => (h.go ok w xs h1 h2 h3).mono fun en w' ⟨u, r, os', e1, ⟨v, ds', rest, e2, e3, hΦ⟩, ht, hv⟩ => by
 subst e2 e3
 obtain rfl := (readV_v.1 hv).2
 have hk : ∀ b, okM ok os w (.row u e z ds' :: rest) w' b → okM ok os w rest w' b := fun b hb => ⟨hb.1, hb.2.1, fun o ho => hb.2.2 o (List.mem_cons_of_mem _ ho)⟩
 obtain ⟨rows, ⟨g1, hmine⟩, g2⟩ := ht.at_ (.row u e z ds') List.mem_cons_self
 have hap := List.pairwise_cons.1 ht.apart
 refine ⟨u, .val (.sl z ds'), rest, e1, hΦ, ⟨ht.gr, hap.2, fun o ho => (ht.at_ o (List.mem_cons_of_mem _ ho)).move hk (fun _ _ => rfl) fun _ _ => rfl⟩, ?_⟩
 obtain ⟨A, c, rfl, hc1, hc2⟩ := own_form g1
 refine (readV_one rfl).2 ?_
 rw [Reads]
 refine ⟨A, c, rows, rfl, hc1, hc2, fun e => by subst e; exact own_none g1, fun hn => ?_, ReadsRows.mono hk (fun _ _ => rfl) z ds' rows g2⟩
 obtain ⟨b, o, rfl, hb, hc⟩ := own_RdP g1 hn
 exact ⟨b, o, rfl, ⟨(hmine b rfl).elim (fun h => .inr (.inl h)) (fun h => .inr (.inr h)), hb.2, fun p hp e => hap.1 p hp b rfl e⟩, hc⟩⟩
inductive Tn where
 | nil
 | leaf (p v : List UInt8)
 | ext (p : List UInt8) (k : Tn)
 | br (ks : Nat → Tn) (v : List UInt8)
def dT : Tn → D
 | .nil => .v .nilIface
 | .leaf p v => .ifc 72 (.pd (.tup [.bs p, .bs v]))
 | .ext p k => .ifc 76 (.pd (.tup [.bs p, dT k]))
 | .br ks v => .ifc 81 (.pd (.tup [.tup ((List.range 16).map fun i => dT (ks i)), .bs v]))
theorem dT_one (t : Tn) : (dT t).size = 1 ∧ (dT t).agg = false := by cases t <;> exact ⟨rfl, rfl⟩
def pkB (x : Raw) : List UInt8 := (packed x).getD []
def refI (x : Raw) : Raw := if (pkB x).length < 32 then x else .mk false (hash (pkB x)) []
def Tn.isNil : Tn → Bool
 | .nil => true
 | _ => false
def itemT : Tn → Raw
 | .nil => .mk true [] []
 | .leaf p v => .mk true [] [.mk false (ppk p true) [], .mk false v []]
 | .ext p k => .mk true [] [.mk false (ppk p false) [], if k.isNil then .mk false [] [] else refI (itemT k)]
 | .br ks v => .mk true [] ((List.range 16).map (fun i => if (ks i).isNil then .mk false [] [] else refI (itemT (ks i))) ++ [.mk false v []])
def refT (t : Tn) : Raw := if t.isNil then .mk false [] [] else refI (itemT t)
def sumT (t : Tn) : List UInt8 := if t.isNil then root0 else hash (pkB (itemT t))
def Tn.ok : Tn → Prop
 | .nil => True
 | .leaf p v => p.length ≤ 536870912
 | .ext p k => p.length ≤ 536870912 ∧ k.ok
 | .br ks v => ∀ i, (ks i).ok
set_option maxRecDepth 20000 in
set_option maxHeartbeats 4000000 in
theorem texts1 (l : List UInt8) : FnM 62 [.sl 1 [.bs l]] [] (fun r os' => ∃ v, r = .val (.v v) ∧ os' = [.row v 53 3 [dItem (.mk false l [])]]) := by
 refine FnM.walk 19 Try.func62 rfl Try.ntmps62 (by simp) fun X => ?_
 repeat
  (first
   | (apply P_move; iterate 3 rfl) | (apply P_assign; iterate 3 rfl) | (apply P_lensl; iterate 4 rfl) | apply EL.nil | ((with_reducible apply EK.then_normal); apply EK.code)
   | (with_reducible first | apply EC.seq | apply EC.region | apply EC.block))
 refine EC.le (Le.row 53 3) ?_
 refine EC.loopN 2 (EK.round ?_)
 repeat
  (first
   | (apply P_buildR (d' := dItem (.mk false l [])); (iterate 5 rfl); (focus ((repeat first | exact RefineL.refl _ _ | exact RL.nil | exact Rf.same | exact Rf.bs0 | exact Rf.sl0 | (apply Rf.fact; (focus (simp; done)); rfl) | apply Rf.tup | apply RL.cons))); iterate 2 rfl)
   | (apply P_move; iterate 3 rfl) | (apply P_assign; iterate 3 rfl) | (apply P_loadpd; iterate 5 rfl)
   | (apply P_cmp (b := true); (iterate 2 rfl); (focus (first | (simp [cmpI]; done) | (simp [cmpI]; omega))); iterate 2 rfl)
   | (apply P_cmp (b := false); (iterate 2 rfl); (focus (first | (simp [cmpI]; done) | (simp [cmpI]; omega))); iterate 2 rfl)
   | (apply P_ar; (iterate 3 rfl); (focus omega); (focus omega); iterate 2 rfl)
   | (apply P_index; (iterate 4 rfl); (focus (first | exact ⟨by decide, rfl⟩ | (refine ⟨by omega, ?_⟩; rw [Int.toNat_natCast]; assumption))); iterate 2 rfl)
   | (apply P_lit; iterate 9 rfl)
   | ((apply P_append; rfl; (focus (repeat first | exact .z | apply SetAt.s | apply SetAtF.s)); (iterate 5 rfl); (focus (constructor <;> (first | (simp; done) | (simp; omega))))); intro _)
   | ((with_reducible apply EK.then_normal); apply EK.round) | apply EL.nil | ((with_reducible apply EK.then_normal); apply EK.code) | (apply EC.cond_true; rfl) | (apply EC.cond_false; rfl)
   | (with_reducible first | apply EC.seq | apply EC.region | apply EC.skip | apply EC.block | apply EC.exit | apply EC.ret | apply EK.in_normal | apply EK.in_same | apply EK.then_exit))
 rename_i v
 exact EK.retM1 rfl rfl ⟨v, rfl, rfl⟩
set_option maxRecDepth 20000 in
set_option maxHeartbeats 4000000 in
theorem texts2 (l m : List UInt8) : FnM 62 [.sl 1 [.bs l, .bs m]] [] (fun r os' => ∃ v, r = .val (.v v) ∧ os' = [.row v 53 3 [dItem (.mk false l []), dItem (.mk false m [])]]) := by
 refine FnM.walk 19 Try.func62 rfl Try.ntmps62 (by simp) fun X => ?_
 repeat
  (first
   | (apply P_move; iterate 3 rfl) | (apply P_assign; iterate 3 rfl) | (apply P_lensl; iterate 4 rfl) | apply EL.nil | ((with_reducible apply EK.then_normal); apply EK.code)
   | (with_reducible first | apply EC.seq | apply EC.region | apply EC.block))
 refine EC.le (Le.row 53 3) ?_
 refine EC.loopN 3 (EK.round ?_)
 repeat
  (first
   | (apply P_buildR (d' := dItem (.mk false l [])); (iterate 5 rfl); (focus ((repeat first | exact RefineL.refl _ _ | exact RL.nil | exact Rf.same | exact Rf.bs0 | exact Rf.sl0 | (apply Rf.fact; (focus (simp; done)); rfl) | apply Rf.tup | apply RL.cons))); iterate 2 rfl)
   | (apply P_buildR (d' := dItem (.mk false m [])); (iterate 5 rfl); (focus ((repeat first | exact RefineL.refl _ _ | exact RL.nil | exact Rf.same | exact Rf.bs0 | exact Rf.sl0 | (apply Rf.fact; (focus (simp; done)); rfl) | apply Rf.tup | apply RL.cons))); iterate 2 rfl)
   | (apply P_move; iterate 3 rfl) | (apply P_assign; iterate 3 rfl) | (apply P_loadpd; iterate 5 rfl)
   | (apply P_cmp (b := true); (iterate 2 rfl); (focus (first | (simp [cmpI]; done) | (simp [cmpI]; omega))); iterate 2 rfl)
   | (apply P_cmp (b := false); (iterate 2 rfl); (focus (first | (simp [cmpI]; done) | (simp [cmpI]; omega))); iterate 2 rfl)
   | (apply P_ar; (iterate 3 rfl); (focus omega); (focus omega); iterate 2 rfl)
   | (apply P_index; (iterate 4 rfl); (focus (first | exact ⟨by decide, rfl⟩ | (refine ⟨by omega, ?_⟩; rw [Int.toNat_natCast]; assumption))); iterate 2 rfl)
   | (apply P_lit; iterate 9 rfl)
   | ((apply P_append; rfl; (focus (repeat first | exact .z | apply SetAt.s | apply SetAtF.s)); (iterate 5 rfl); (focus (constructor <;> (first | (simp; done) | (simp; omega))))); intro _)
   | ((with_reducible apply EK.then_normal); apply EK.round) | apply EL.nil | ((with_reducible apply EK.then_normal); apply EK.code) | (apply EC.cond_true; rfl) | (apply EC.cond_false; rfl)
   | (with_reducible first | apply EC.seq | apply EC.region | apply EC.skip | apply EC.block | apply EC.exit | apply EC.ret | apply EK.in_normal | apply EK.in_same | apply EK.then_exit))
 rename_i v
 exact EK.retM1 rfl rfl ⟨v, rfl, rfl⟩
theorem f_texts1 (l : List UInt8) : Fn 62 [.sl 1 [.bs l]] (· = .val (.sl 3 [dItem (.mk false l [])])) :=
 (FnM.frzT (Φ := fun r os' => r = .val (.sl 3 [dItem (.mk false l [])]) ∧ os' = []) 53 3 ((texts1 l).mono fun r os' ⟨v, h1, h2⟩ => ⟨v, _, [], h1, h2, rfl, rfl⟩)).toFn
theorem f_texts2 (l m : List UInt8) : Fn 62 [.sl 1 [.bs l, .bs m]] (· = .val (.sl 3 [dItem (.mk false l []), dItem (.mk false m [])])) :=
 (FnM.frzT (Φ := fun r os' => r = .val (.sl 3 [dItem (.mk false l []), dItem (.mk false m [])]) ∧ os' = []) 53 3 ((texts2 l m).mono fun r os' ⟨v, h1, h2⟩ => ⟨v, _, [], h1, h2, rfl, rfl⟩)).toFn
end E
end Go.Proofs.Ytiledgojbpmoiaa
/-
 shape's Item, Bytes, Ref, Sum.
 Conditions: none.
-/
namespace Go.Proofs.Ytiledgojbpmoiaa
set_option linter.unusedVariables false
open Go.RowKit Mono Rlp
namespace E
theorem bin_ifc (T : TypeId) (d : D) : Bin .eql 41 (.ifc T d) (.v .nilIface) (.bool false) := by
 refine ⟨rfl, fun ok w p q hp hq => ?_⟩
 obtain rfl := (readV_v.1 hq).2
 obtain ⟨cs, h1, rfl⟩ := hp
 rw [Reads] at h1
 obtain ⟨cs', rfl, _⟩ := h1
 exact ⟨fun x y => by simp [eqGuard, form, D.agg], run_eql_held_nil _ _ _ _ (by kernel_rfl)⟩
theorem bin_inil : Bin .eql 41 (.v .nilIface) (.v .nilIface) (.bool true) := by
 refine ⟨rfl, fun ok w p q hp hq => ?_⟩
 obtain rfl := (readV_v.1 hp).2
 obtain rfl := (readV_v.1 hq).2
 exact ⟨fun x y => by cases x <;> cases y <;> kernel_rfl, by kernel_rfl⟩
theorem dT_ifc {t : Tn} (h : t.isNil = false) : ∃ T d, dT t = .ifc T d ∧ Nat.beq T 42 = false := by
 cases t with
 | nil => cases h
 | leaf p v => exact ⟨_, _, by rw [dT], rfl⟩
 | ext p k => exact ⟨_, _, by rw [dT], rfl⟩
 | br ks v => exact ⟨_, _, by rw [dT], rfl⟩
set_option maxRecDepth 20000 in
set_option maxHeartbeats 4000000 in
theorem f_Bytes_of (t : Tn) (h : Fn 41 [dT t] (· = .val (dItem (itemT t)))) : Fn 24 [dT t] (· = .val (.bs (pkB (itemT t)))) := by
 have h1 := f_Pack (itemT t)
 unfold pkB
 refine Fn.walk 12 Try.func24 rfl Try.ntmps24 (by simp) fun X => ?_
 cases hp : packed (itemT t) with
 | none =>
  rw [hp] at h1
  repeat
   (first
    | (apply P_call (h); rfl; exact RefineL.refl _ _; (focus (intro _ _; simp [go_sem]; done)); iterate 2 rfl)
    | (apply P_call (h1); rfl; exact RefineL.refl _ _; (focus (intro _ _; simp [go_sem]; done)); iterate 2 rfl) | (apply P_move; iterate 3 rfl)
    | (apply P_assign; iterate 3 rfl) | (apply P_extract; iterate 4 rfl) | apply EL.nil | ((with_reducible apply EK.then_normal); apply EK.code)
    | (with_reducible first | apply EC.seq | apply EC.region | apply EC.ret))
  refine EK.ret1r rfl rfl ?_ rfl
  (repeat first | exact RefineL.refl _ _ | exact RL.nil | exact Rf.same | exact Rf.bs0 | exact Rf.sl0 | (apply Rf.fact; (focus (simp; done)); rfl) | apply Rf.tup | apply RL.cons)
 | some b =>
  rw [hp] at h1
  repeat
   (first
    | (apply P_call (h); rfl; exact RefineL.refl _ _; (focus (intro _ _; simp [go_sem]; done)); iterate 2 rfl)
    | (apply P_call (h1); rfl; exact RefineL.refl _ _; (focus (intro _ _; simp [go_sem]; done)); iterate 2 rfl) | (apply P_move; iterate 3 rfl)
    | (apply P_assign; iterate 3 rfl) | (apply P_extract; iterate 4 rfl) | apply EL.nil | ((with_reducible apply EK.then_normal); apply EK.code)
    | (with_reducible first | apply EC.seq | apply EC.region | apply EC.ret))
  exact EK.ret1 rfl rfl rfl
set_option maxRecDepth 20000 in
set_option maxHeartbeats 4000000 in
theorem f_Ref_of (t : Tn) (h : t.isNil = false → Fn 41 [dT t] (· = .val (dItem (itemT t)))) : Fn 63 [dT t] (· = .val (dItem (refT t))) := by
 unfold refT
 cases hn : t.isNil with
 | true =>
  cases t with
  | nil =>
   rw [if_pos rfl]
   have hb := bin_inil
   have e : dT Tn.nil = .v .nilIface := rfl
   rw [e]
   refine Fn.walk 31 Try.func63 rfl Try.ntmps63 (by simp) fun X => ?_
   repeat
    (first
     | (apply P_bin; (iterate 2 rfl); exact hb; iterate 2 rfl) | (apply P_move; iterate 3 rfl) | (apply P_build; iterate 7 rfl)
     | (apply P_alloc; rfl; rfl; rfl; intro _) | (apply P_store; rfl; (focus (repeat first | exact .z | apply SetAt.s | apply SetAtF.s)); iterate 4 rfl) | apply EL.nil
     | ((with_reducible apply EK.then_normal); apply EK.code) | (apply EC.cond_true; rfl) | (with_reducible first | apply EC.seq | apply EC.region | apply EC.ret | apply EK.then_ret))
   refine EK.retc1r 0 rfl rfl rfl rfl ?_ rfl
   (repeat first | exact RefineL.refl _ _ | exact RL.nil | exact Rf.same | exact Rf.bs0 | exact Rf.sl0 | (apply Rf.fact; (focus (simp; done)); rfl) | apply Rf.tup | apply RL.cons)
  | leaf p v => cases hn
  | ext p k => cases hn
  | br ks v => cases hn
 | false =>
  rw [if_neg (by decide)]
  have h1 := h hn
  have h2 := f_Bytes_of t h1
  obtain ⟨T, d, e, hne⟩ := dT_ifc hn
  rw [e] at h1 h2 ⊢
  have hb := bin_ifc T d
  unfold refI
  refine Fn.walk 31 Try.func63 rfl Try.ntmps63 (by simp) fun X => ?_
  by_cases hl : (pkB (itemT t)).length < 32
  ·
   rw [if_pos hl]
   have hli : ((pkB (itemT t)).length : Int) < 32 := by omega
   generalize itemT t = x at *
   obtain ⟨xb, xl, xs⟩ := x
   rw [dItem] at h1
   repeat
    (first
     | (apply P_bin; (iterate 2 rfl); exact hb; iterate 2 rfl) | (apply P_asNo; rfl; rfl; exact hne; iterate 3 rfl)
     | (apply P_call (h2); rfl; exact RefineL.refl _ _; (focus (intro _ _; simp [go_sem]; done)); iterate 2 rfl)
     | (apply P_call (h1); rfl; exact RefineL.refl _ _; (focus (intro _ _; simp [go_sem]; done)); iterate 2 rfl) | (apply P_move; iterate 3 rfl)
     | (apply P_assign; iterate 3 rfl) | (apply P_extract; iterate 4 rfl)
     | (apply P_cmp (b := true); (iterate 2 rfl); (focus (first | (simp [cmpI]; done) | (simp [cmpI]; omega))); iterate 2 rfl) | (apply P_lenbs; iterate 4 rfl)
     | (apply P_alloc; rfl; rfl; rfl; intro _) | (apply P_store; rfl; (focus (repeat first | exact .z | apply SetAt.s | apply SetAtF.s)); iterate 4 rfl) | apply EL.nil
     | ((with_reducible apply EK.then_normal); apply EK.code) | (apply EC.cond_true; rfl) | (apply EC.cond_false; rfl)
     | (with_reducible first | apply EC.seq | apply EC.region | apply EC.skip | apply EC.ret | apply EK.then_ret))
   refine EK.retc1r 1 rfl rfl rfl rfl ?_ rfl
   (repeat first | exact RefineL.refl _ _ | exact RL.nil | exact Rf.same | exact Rf.bs0 | exact Rf.sl0 | (apply Rf.fact; (focus (simp; done)); rfl) | apply Rf.tup | apply RL.cons)
  ·
   rw [if_neg hl]
   have hli : ¬ ((pkB (itemT t)).length : Int) < 32 := by omega
   have h3 := f_kSum1 (pkB (itemT t))
   repeat
    (first
     | (apply P_bin; (iterate 2 rfl); exact hb; iterate 2 rfl) | (apply P_asNo; rfl; rfl; exact hne; iterate 3 rfl)
     | (apply P_call (h2); rfl; exact RefineL.refl _ _; (focus (intro _ _; simp [go_sem]; done)); iterate 2 rfl)
     | (apply P_call (h3); rfl; exact RefineL.refl _ _; (focus (intro _ _; simp [go_sem]; done)); iterate 2 rfl) | (apply P_move; iterate 3 rfl)
     | (apply P_assign; iterate 3 rfl) | (apply P_extract; iterate 4 rfl)
     | (apply P_cmp (b := false); (iterate 2 rfl); (focus (first | (simp [cmpI]; done) | (simp [cmpI]; omega))); iterate 2 rfl) | (apply P_lenbs; iterate 4 rfl)
     | (apply P_lit; iterate 9 rfl) | (apply P_alloc; rfl; rfl; rfl; intro _)
     | (apply P_store; rfl; (focus (repeat first | exact .z | apply SetAt.s | apply SetAtF.s)); iterate 4 rfl) | apply EL.nil | ((with_reducible apply EK.then_normal); apply EK.code)
     | (apply EC.cond_false; rfl) | (with_reducible first | apply EC.seq | apply EC.region | apply EC.skip))
   refine EL.le (Le.pin (p := 6) (pre := []) rfl rfl) ?_
   repeat
    (first
     | (apply P_slpd sl_word; iterate 6 rfl) | (apply P_build; iterate 7 rfl)
     | (apply P_store; rfl; (focus (repeat first | exact .z | apply SetAt.s | apply SetAtF.s)); iterate 4 rfl) | apply EL.nil | ((with_reducible apply EK.then_normal); apply EK.code)
     | (with_reducible apply EC.ret))
   refine EK.retc1r 1 rfl rfl rfl rfl ?_ rfl
   (repeat first | exact RefineL.refl _ _ | exact RL.nil | exact Rf.same | exact Rf.bs0 | exact Rf.sl0 | (apply Rf.fact; (focus (simp; done)); rfl) | apply Rf.tup | apply RL.cons)
set_option maxRecDepth 20000 in
set_option maxHeartbeats 4000000 in
theorem f_Sum_of (t : Tn) (h : t.isNil = false → Fn 41 [dT t] (· = .val (dItem (itemT t)))) : Fn 25 [dT t] (· = .val (.arr 32 (sumT t))) := by
 unfold sumT
 cases hn : t.isNil with
 | true =>
  cases t with
  | nil =>
   rw [if_pos rfl]
   have hb := bin_inil
   have h1 := f_shEmpty
   have e : dT Tn.nil = .v .nilIface := rfl
   rw [e]
   refine Fn.walk 19 Try.func25 rfl Try.ntmps25 (by simp) fun X => ?_
   repeat
    (first
     | (apply P_bin; (iterate 2 rfl); exact hb; iterate 2 rfl) | (apply P_call (h1); rfl; exact RefineL.refl _ _; (focus (intro _ _; simp [go_sem]; done)); iterate 2 rfl)
     | (apply P_move; iterate 3 rfl) | (apply P_alloc; rfl; rfl; rfl; intro _)
     | (apply P_store; rfl; (focus (repeat first | exact .z | apply SetAt.s | apply SetAtF.s)); iterate 4 rfl) | apply EL.nil | ((with_reducible apply EK.then_normal); apply EK.code)
     | (apply EC.cond_true; rfl) | (with_reducible first | apply EC.seq | apply EC.region | apply EC.ret | apply EK.then_ret))
   refine EK.retc1r 0 rfl rfl rfl rfl ?_ rfl
   (repeat first | exact RefineL.refl _ _ | exact RL.nil | exact Rf.same | exact Rf.bs0 | exact Rf.sl0 | (apply Rf.fact; (focus (simp; done)); rfl) | apply Rf.tup | apply RL.cons)
  | leaf p v => cases hn
  | ext p k => cases hn
  | br ks v => cases hn
 | false =>
  rw [if_neg (by decide)]
  have h2 := f_Bytes_of t (h hn)
  obtain ⟨T, d, e, hne⟩ := dT_ifc hn
  rw [e] at h2 ⊢
  have hb := bin_ifc T d
  have h3 := f_kSum1 (pkB (itemT t))
  refine Fn.walk 19 Try.func25 rfl Try.ntmps25 (by simp) fun X => ?_
  repeat
   (first
    | (apply P_bin; (iterate 2 rfl); exact hb; iterate 2 rfl) | (apply P_asNo; rfl; rfl; exact hne; iterate 3 rfl)
    | (apply P_call (h2); rfl; exact RefineL.refl _ _; (focus (intro _ _; simp [go_sem]; done)); iterate 2 rfl)
    | (apply P_call (h3); rfl; exact RefineL.refl _ _; (focus (intro _ _; simp [go_sem]; done)); iterate 2 rfl) | (apply P_move; iterate 3 rfl)
    | (apply P_assign; iterate 3 rfl) | (apply P_extract; iterate 4 rfl) | (apply P_lit; iterate 9 rfl) | (apply P_alloc; rfl; rfl; rfl; intro _)
    | (apply P_store; rfl; (focus (repeat first | exact .z | apply SetAt.s | apply SetAtF.s)); iterate 4 rfl) | apply EL.nil | ((with_reducible apply EK.then_normal); apply EK.code)
    | (apply EC.cond_false; rfl) | (with_reducible first | apply EC.seq | apply EC.region | apply EC.skip | apply EC.ret))
  refine EK.retc1r 1 rfl rfl rfl rfl ?_ rfl
  (repeat first | exact RefineL.refl _ _ | exact RL.nil | exact Rf.same | exact Rf.bs0 | exact Rf.sl0 | (apply Rf.fact; (focus (simp; done)); rfl) | apply Rf.tup | apply RL.cons)
end E
end Go.Proofs.Ytiledgojbpmoiaa
/-
 shape.Item of every node.
 Conditions: none.
-/
namespace Go.Proofs.Ytiledgojbpmoiaa
set_option linter.unusedVariables false
open Go.RowKit Mono Rlp
namespace E
theorem sizes_T (ks : Nat → Tn) (l : List Nat) : D.sizes (l.map fun i => dT (ks i)) = l.length := by
 induction l with
 | nil => rfl
 | cons i l ih => rw [List.map_cons, D.sizes, (dT_one _).1, ih, List.length_cons, Nat.add_comm]
theorem sub_one {d : D} (h : ∃ k : Tn, d = dT k) : d.sub 0 1 false = some d := by
 obtain ⟨k, rfl⟩ := h
 cases k <;> (rw [dT]; simp [D.sub])
theorem sub_ext0 (p : List UInt8) (k : Tn) : (D.tup [.bs p, dT k]).sub 0 1 false = some (.bs p) := by
 simp [D.sub, D.subL, D.size]
theorem sub_ext1 (p : List UInt8) (k : Tn) : (D.tup [.bs p, dT k]).sub 1 1 false = some (dT k) := by
 have := sub_one ⟨k, rfl⟩
 simp [D.sub, D.subL, D.size, (dT_one k).1, this]
theorem sub_br0 {ds : List D} (v : List UInt8) (h : D.sizes ds = 16) : (D.tup [.tup ds, .bs v]).sub 0 16 true = some (.tup ds) := by
 simp [D.sub, D.subL, D.size, D.sizes, h]
theorem sub_br1 {ds : List D} (v : List UInt8) (h : D.sizes ds = 16) : (D.tup [.tup ds, .bs v]).sub 16 1 false = some (.bs v) := by
 simp [D.sub, D.subL, D.size, D.sizes, h]
theorem sub_ks {ds : List D} (h : D.sizes ds = 16) : (D.tup ds).sub 0 16 true = some (.tup ds) := by
 simp [D.sub, h]
set_option maxRecDepth 20000 in
set_option maxHeartbeats 4000000 in
theorem item_leaf (p v : List UInt8) (hp : p.length ≤ 536870912) : Fn 41 [dT (.leaf p v)] (· = .val (dItem (itemT (.leaf p v)))) := by
 have h1 := f_pPack p true hp
 have h2 := f_texts2 (ppk p true) v
 rw [dT, itemT]
 refine Fn.walk 85 Try.func41 rfl Try.ntmps41 (by simp) fun X => ?_
 repeat
  (first
   | (apply P_call (h1); rfl; exact RefineL.refl _ _; (focus (intro _ _; simp [go_sem]; done)); iterate 2 rfl)
   | (apply P_call (h2); rfl; exact RefineL.refl _ _; (focus (intro _ _; simp [go_sem]; done)); iterate 2 rfl) | (apply P_move; iterate 3 rfl)
   | (apply P_assign; iterate 3 rfl) | (apply P_field; iterate 6 rfl) | (apply P_fieldpd; iterate 7 rfl) | (apply P_extract; iterate 4 rfl)
   | (apply P_loadpd; iterate 5 rfl) | (apply P_load; rfl; (first | exact I0 | exact I1 | exact I2 | exact I3 | exact I4 | exact I5 | exact I6); iterate 4 rfl)
   | (apply P_build; iterate 7 rfl) | (apply P_lit; iterate 9 rfl) | (apply P_nilckpd; iterate 3 rfl) | (apply P_asYes; iterate 4 rfl)
   | (apply P_alloc; rfl; rfl; rfl; intro _) | (apply P_store; rfl; (focus (repeat first | exact .z | apply SetAt.s | apply SetAtF.s)); iterate 4 rfl) | apply EL.nil
   | ((with_reducible apply EK.then_normal); apply EK.code) | (apply EC.cond_true; rfl) | (with_reducible first | apply EC.seq | apply EC.region | apply EC.block | apply EC.ret | apply EK.in_normal))
 refine EK.retc1r 1 rfl rfl rfl rfl ?_ rfl
 (repeat first | exact RefineL.refl _ _ | exact RL.nil | exact Rf.same | exact Rf.bs0 | exact Rf.sl0 | (apply Rf.fact; (focus (simp; done)); rfl) | apply Rf.tup | apply RL.cons)
set_option maxRecDepth 20000 in
set_option maxHeartbeats 4000000 in
theorem item_ext (p : List UInt8) (k : Tn) (hp : p.length ≤ 536870912) (hk : Fn 63 [dT k] (· = .val (dItem (refT k)))) : Fn 41 [dT (.ext p k)] (· = .val (dItem (itemT (.ext p k)))) := by
 have h1 := f_pPack p false hp
 have h2 := texts1 (ppk p false)
 have he : itemT (.ext p k) = .mk true [] [.mk false (ppk p false) [], refT k] := by rw [itemT, refT]
 rw [he, dT]
 clear he
 generalize refT k = x at hk ⊢
 obtain ⟨xb, xl, xs⟩ := x
 rw [dItem] at hk
 rw [show dItem (.mk true [] [.mk false (ppk p false) [], .mk xb xl xs]) = .tup [.v (.bool true), .bs [], .sl 3 [dItem (.mk false (ppk p false) []), .tup [.v (.bool xb), .bs xl, .sl 3 (dItems xs)]]] from rfl]
 refine Fn.walk 85 Try.func41 rfl Try.ntmps41 (by simp) fun X => ?_
 repeat
  (first
   | (apply P_call (h1); rfl; exact RefineL.refl _ _; (focus (intro _ _; simp [go_sem]; done)); iterate 2 rfl)
   | (apply P_fieldpd; (iterate 4 rfl); exact sub_ext0 _ _; iterate 2 rfl) | (apply P_move; iterate 3 rfl) | (apply P_assign; iterate 3 rfl)
   | (apply P_extract; iterate 4 rfl) | (apply P_loadpd; iterate 5 rfl) | (apply P_build; iterate 7 rfl) | (apply P_nilckpd; iterate 3 rfl)
   | (apply P_asYes; iterate 4 rfl) | (apply P_asNo; iterate 6 rfl) | (apply P_alloc; rfl; rfl; rfl; intro _)
   | (apply P_store; rfl; (focus (repeat first | exact .z | apply SetAt.s | apply SetAtF.s)); iterate 4 rfl) | apply EL.nil | ((with_reducible apply EK.then_normal); apply EK.code)
   | (apply EC.cond_true; rfl) | (apply EC.cond_false; rfl) | (with_reducible first | apply EC.seq | apply EC.region | apply EC.block))
 refine EC.drawC 11 [0, 3, 4, 5, 6, 10] [1, 2, 7, 8, 9] [] _ (by kernel_rfl) (by kernel_rfl) rfl ?_
 simp only [pickL, List.filterMap_cons, List.filterMap_nil, List.getElem?_cons_zero, List.getElem?_cons_succ]
 repeat
  (first
   | (apply H_fieldpd; (iterate 4 rfl); exact sub_ext1 _ _; iterate 2 rfl) | (apply H_loadpd; (iterate 2 rfl); exact sub_one ⟨_, rfl⟩; iterate 2 rfl)
   | (apply H_move; iterate 3 rfl) | (apply H_field; iterate 6 rfl) | (apply H_nilckpd; iterate 3 rfl))
 refine EM.nil ?_
 repeat (first | rw [List.cons_append] | rw [List.nil_append])
 refine CH.cut 1 ?_
 simp only [List.take_succ_cons, List.take_zero, List.drop_succ_cons, List.drop_zero]
 repeat
  (first
   | (apply H_lit; iterate 9 rfl))
 refine EM.nil ?_
 repeat (first | rw [List.cons_append] | rw [List.nil_append])
 refine CH.callM (os := []) (rest := []) h2 rfl rfl (RefineL.refl _ _) (by intro _ _; simp [go_sem]) rfl rfl ?_
 rintro _ _ ⟨v, rfl, rfl⟩
 try simp only [St.put]
 repeat (first | rw [List.cons_append] | rw [List.nil_append])
 refine CH.cut 2 ?_
 simp only [List.take_succ_cons, List.take_zero, List.drop_succ_cons, List.drop_zero]
 repeat
  (first
   | (apply H_call (hk); rfl; exact RefineL.refl _ _; (focus (intro _ _; simp [go_sem]; done)); iterate 2 rfl) | (apply H_lit; iterate 9 rfl))
 refine EM.nil ?_
 repeat (first | rw [List.cons_append] | rw [List.nil_append])
 refine CH.mut (os := [_]) (rest := []) rfl rfl (m_append rfl rfl rfl rfl rfl (by constructor <;> simp)) ?_
 rintro _ _ ⟨v', rfl, rfl⟩
 try simp only [St.put]
 repeat (first | rw [List.cons_append] | rw [List.nil_append])
 refine CH.nil ?_
 try simp only [List.drop_succ_cons, List.drop_zero]
 refine EL.le (Le.freeze (pre := []) rfl) ?_
 simp only [List.nil_append]
 repeat
  (first
   | (apply P_load; rfl; (first | exact I0 | exact I1 | exact I2 | exact I3 | exact I4 | exact I5 | exact I6); iterate 4 rfl)
   | (apply P_store; rfl; (focus (repeat first | exact .z | apply SetAt.s | apply SetAtF.s)); iterate 4 rfl) | apply EL.nil | ((with_reducible apply EK.then_normal); apply EK.code)
   | (with_reducible first | apply EC.seq | apply EC.region | apply EC.ret | apply EK.in_normal))
 refine EK.retc1r 1 rfl rfl rfl rfl ?_ rfl
 (repeat first | exact RefineL.refl _ _ | exact RL.nil | exact Rf.same | exact Rf.bs0 | exact Rf.sl0 | (apply Rf.fact; (focus (simp; done)); rfl) | apply Rf.tup | apply RL.cons)
set_option maxRecDepth 20000 in
set_option maxHeartbeats 8000000 in
theorem item_br (ks : Nat → Tn) (v : List UInt8) (hk : ∀ i, Fn 63 [dT (ks i)] (· = .val (dItem (refT (ks i))))) : Fn 41 [dT (.br ks v)] (· = .val (dItem (itemT (.br ks v)))) := by
 have h2 := f_texts1 v
 have he : itemT (.br ks v) = .mk true [] ((List.range 16).map (fun i => refT (ks i)) ++ [.mk false v []]) := by rw [itemT]; rfl
 have hsz : D.sizes ((List.range 16).map fun i => dT (ks i)) = 16 := by rw [sizes_T, List.length_range]
 have hat : ∀ i, i < 16 → ((List.range 16).map fun i => dT (ks i))[i]? = some (dT (ks i)) := fun i hi => by rw [List.getElem?_map, List.getElem?_range hi]; rfl
 have hall : ∀ d ∈ ((List.range 16).map fun i => dT (ks i)), d.size = 1 ∧ d.agg = false := fun d hd => by
  obtain ⟨i, _, rfl⟩ := List.mem_map.1 hd
  exact dT_one _
 have hlen : ((List.range 16).map fun i => dT (ks i)).length = 16 := by simp
 rw [he, dT, show dItem (.mk true [] ((List.range 16).map (fun i => refT (ks i)) ++ [.mk false v []])) = .tup [.v (.bool true), .bs [], .sl 3 ((List.range 16).map (fun i => dItem (refT (ks i))) ++ [dItem (.mk false v [])])] from by rw [dItem, dItems_map, List.map_append, List.map_map]; rfl]
 clear he
 generalize hE : ((List.range 16).map fun i => dT (ks i)) = K at *
 refine Fn.walk 85 Try.func41 rfl Try.ntmps41 (by simp) fun X => ?_
 repeat
  (first
   | (apply P_fieldpd; (iterate 4 rfl); exact sub_br0 _ hsz; iterate 2 rfl) | (apply P_loadpd; (iterate 2 rfl); exact sub_ks hsz; iterate 2 rfl)
   | (apply P_move; iterate 3 rfl) | (apply P_assign; iterate 3 rfl) | (apply P_extract; iterate 4 rfl) | (apply P_build; iterate 7 rfl)
   | (apply P_nilckpd; iterate 3 rfl) | (apply P_asYes; iterate 4 rfl) | (apply P_asNo; iterate 6 rfl) | (apply P_alloc; rfl; rfl; rfl; intro _)
   | (apply P_store; rfl; (focus (repeat first | exact .z | apply SetAt.s | apply SetAtF.s)); iterate 4 rfl) | apply EL.nil | ((with_reducible apply EK.then_normal); apply EK.code)
   | (apply EC.cond_true; rfl) | (apply EC.cond_false; rfl) | (with_reducible first | apply EC.seq | apply EC.region | apply EC.block))
 rename_i g1 g
 refine EC.le (Le.row 53 3) ?_
 refine EC.loop (ι := {p : Value × Nat // p.2 ≤ 16})
  (fun p => ⟨[(63, .val (.v (.int .i64 (p.1.2 : Int)))), (62, .val (.tup K)), (10, .val (.pd (.tup [.tup K, .bs v]))), (3, .val (.v (.pointer (some ⟨g, 0, none⟩)))), (2, .val (.v (.pointer (some ⟨g1, 0, none⟩))))],
   [.row p.1.1 53 3 ((List.range p.1.2).map fun i => dItem (refT (ks i))), .var g 53 (.tup [.v (.bool true), .v (.slice none 0 0), .v p.1.1]), .var g1 53 (.tup [.v (.bool false), .v (.slice none 0 0), .v (.slice none 0 0)])], []⟩)
  (fun p => 16 - p.1.2) ⟨(.slice none 0 0, 0), by decide⟩ ?_ ?_
 · exact (Le.keep (by repeat first | exact trivial | refine ⟨rfl, ?_⟩) (by repeat first | exact List.nil_sublist _ | apply List.Sublist.cons_cons | apply List.Sublist.cons) (by simp))
 rintro ⟨⟨rv, n⟩, hn⟩
 dsimp only at hn ⊢
 have hl : ((List.range n).map fun i => dItem (refT (ks i))).length = n := by simp
 by_cases hlt : n < 16
 ·
  have hx := hk n
  have hnx : (List.range (n + 1)).map (fun i => dItem (refT (ks i))) = (List.range n).map (fun i => dItem (refT (ks i))) ++ [dItem (refT (ks n))] := by rw [List.range_succ, List.map_append]; rfl
  cases hr : refT (ks n) with
  | mk xb xl xs =>
   rw [hr, dItem] at hx
   rw [hr, dItem] at hnx
   repeat
    (first
     | (apply P_cmp (b := true); (iterate 2 rfl); (focus (first | (simp [cmpI]; done) | (simp [cmpI]; omega))); iterate 2 rfl) | apply EL.nil
     | ((with_reducible apply EK.then_normal); apply EK.code) | (apply EC.cond_true; rfl) | (with_reducible first | apply EC.seq | apply EC.region | apply EC.skip | apply EC.block))
   refine ES.still (g_indextup (k := (n : Int)) (d := dT (ks n)) rfl rfl rfl rfl rfl (fun w => by kernel_rfl) hall hlen ⟨by omega, by rw [Int.toNat_natCast]; exact hat n hlt⟩) rfl rfl rfl ?_
   repeat
    (first
     | (apply P_assign; iterate 3 rfl) | apply EL.nil | ((with_reducible apply EK.then_normal); apply EK.code))
   refine EC.drawC 7 [0, 1, 2, 6] [3, 4, 5] [_] _ (by kernel_rfl) (by kernel_rfl) rfl ?_
   simp only [pickL, List.filterMap_cons, List.filterMap_nil, List.getElem?_cons_zero, List.getElem?_cons_succ]
   repeat
    (first
     | (apply H_move; iterate 3 rfl) | (apply H_field; iterate 6 rfl)
     | (apply H_load; rfl; (first | exact I0 | exact I1 | exact I2 | exact I3 | exact I4 | exact I5 | exact I6); iterate 4 rfl))
   refine EM.nil ?_
   repeat (first | rw [List.cons_append] | rw [List.nil_append])
   refine CH.cut 2 ?_
   simp only [List.take_succ_cons, List.take_zero, List.drop_succ_cons, List.drop_zero]
   repeat
    (first
     | (apply H_call (hx); rfl; exact RefineL.refl _ _; (focus (intro _ _; simp [go_sem]; done)); iterate 2 rfl) | (apply H_lit; iterate 9 rfl))
   refine EM.nil ?_
   repeat (first | rw [List.cons_append] | rw [List.nil_append])
   refine CH.mut (os := [_]) (rest := []) rfl rfl (m_append rfl rfl rfl rfl rfl (by rw [hl]; constructor <;> (simp; omega))) ?_
   rintro _ _ ⟨v', rfl, rfl⟩
   try simp only [St.put]
   repeat (first | rw [List.cons_append] | rw [List.nil_append])
   refine CH.nil ?_
   try simp only [List.drop_succ_cons, List.drop_zero]
   repeat
    (first
     | (apply P_move; iterate 3 rfl) | (apply P_ar; (iterate 3 rfl); (focus omega); (focus omega); iterate 2 rfl)
     | (apply P_store; rfl; (focus (repeat first | exact .z | apply SetAt.s | apply SetAtF.s)); iterate 4 rfl) | apply EL.nil | ((with_reducible apply EK.then_normal); apply EK.code)
     | (with_reducible first | apply EC.region | apply EK.in_normal))
   refine EK.again ⟨(v', n + 1), hlt⟩ (by dsimp only; omega) ?_
   dsimp only
   rw [hnx]
   simp only [Int.natCast_add]
   exact (Le.keep (by repeat first | exact trivial | refine ⟨rfl, ?_⟩) (by repeat first | exact List.nil_sublist _ | apply List.Sublist.cons_cons | apply List.Sublist.cons) (by simp))
 ·
  obtain rfl : n = 16 := by omega
  repeat
   (first
    | (apply P_cmp (b := false); (iterate 2 rfl); (focus (first | (simp [cmpI]; done) | (simp [cmpI]; omega))); iterate 2 rfl) | apply EL.nil
    | ((with_reducible apply EK.then_normal); apply EK.code) | (apply EC.cond_false; rfl)
    | (with_reducible first | apply EC.seq | apply EC.region | apply EC.exit | apply EK.in_same | apply EK.then_exit))
  refine EC.drawC 10 [0, 1, 2, 3, 4, 5, 9] [6, 7, 8] [_] _ (by kernel_rfl) (by kernel_rfl) rfl ?_
  simp only [pickL, List.filterMap_cons, List.filterMap_nil, List.getElem?_cons_zero, List.getElem?_cons_succ]
  repeat
   (first
    | (apply H_fieldpd; (iterate 4 rfl); exact sub_br1 _ hsz; iterate 2 rfl) | (apply H_move; iterate 3 rfl) | (apply H_field; iterate 6 rfl)
    | (apply H_loadpd; iterate 5 rfl) | (apply H_load; rfl; (first | exact I0 | exact I1 | exact I2 | exact I3 | exact I4 | exact I5 | exact I6); iterate 4 rfl)
    | (apply H_nilckpd; iterate 3 rfl))
  refine EM.nil ?_
  repeat (first | rw [List.cons_append] | rw [List.nil_append])
  refine CH.cut 2 ?_
  simp only [List.take_succ_cons, List.take_zero, List.drop_succ_cons, List.drop_zero]
  repeat
   (first
    | (apply H_call (h2); rfl; exact RefineL.refl _ _; (focus (intro _ _; simp [go_sem]; done)); iterate 2 rfl) | (apply H_lit; iterate 9 rfl))
  refine EM.nil ?_
  repeat (first | rw [List.cons_append] | rw [List.nil_append])
  refine CH.mut (os := [_]) (rest := []) rfl rfl (m_append rfl rfl rfl rfl rfl (by rw [hl]; constructor <;> simp)) ?_
  rintro _ _ ⟨v', rfl, rfl⟩
  try simp only [St.put]
  repeat (first | rw [List.cons_append] | rw [List.nil_append])
  refine CH.nil ?_
  try simp only [List.drop_succ_cons, List.drop_zero]
  refine EL.le (Le.freeze (pre := []) rfl) ?_
  simp only [List.nil_append]
  repeat
   (first
    | (apply P_load; rfl; (first | exact I0 | exact I1 | exact I2 | exact I3 | exact I4 | exact I5 | exact I6); iterate 4 rfl)
    | (apply P_store; rfl; (focus (repeat first | exact .z | apply SetAt.s | apply SetAtF.s)); iterate 4 rfl) | apply EL.nil | ((with_reducible apply EK.then_normal); apply EK.code)
    | (with_reducible first | apply EC.seq | apply EC.region | apply EC.ret | apply EK.in_normal))
  refine EK.retc1r 1 rfl rfl rfl rfl ?_ rfl
  (repeat first | exact RefineL.refl _ _ | exact RL.nil | exact Rf.same | exact Rf.bs0 | exact Rf.sl0 | (apply Rf.fact; (focus (simp; done)); rfl) | apply Rf.tup | apply RL.cons)
theorem f_Item : ∀ t : Tn, t.ok → t.isNil = false → Fn 41 [dT t] (· = .val (dItem (itemT t)))
 | .leaf p v, h, _ => item_leaf p v h
 | .ext p k, h, _ => item_ext p k h.1 (f_Ref_of k fun hn => f_Item k h.2 hn)
 | .br ks v, h, _ => item_br ks v fun i => f_Ref_of (ks i) fun hn => f_Item (ks i) (h i) hn
theorem f_Sum (t : Tn) (h : t.ok) : Fn 25 [dT t] (· = .val (.arr 32 (sumT t))) := f_Sum_of t (f_Item t h)
theorem f_Bytes (t : Tn) (h : t.ok) (hn : t.isNil = false) : Fn 24 [dT t] (· = .val (.bs (pkB (itemT t)))) := f_Bytes_of t (f_Item t h hn)
end E
end Go.Proofs.Ytiledgojbpmoiaa
