/-
 Merged (wip/tools/merge.py): Packs, RefOwn, Num4, Num5, AB0.
 Conditions: none.
-/
import Derived.Test.YtiledgojbpmoiaaGreatZQ15
import Derived.Test.YtiledgojbpmoiaaGreatZQ14
import Derived.Test.YtiledgojbpmoiaaGreatZQ10
import Derived.Test.YtiledgojbpmoiaaGreatZQ6
import Derived.Test.YtiledgojbpmoiaaGreatZQ7
namespace Go.Proofs.YtiledgojbpmoiaaGreat
set_option linter.unusedVariables false
set_option maxRecDepth 20000
set_option maxHeartbeats 4000000
open Go.RowKit Mono Rlp
def qH (base : Nat) (r : Raw) : VP := fun v w => match packed r with
 | some b => ∃ vb, v = .tuple #[vb, .int .i64 0] ∧ OwnB w base vb b
 | none => v = .tuple #[.slice none 0 0, .int .i64 3]
theorem Mc {r : Raw} {b : List UInt8} (h : packed r = some b) : b = E r ∧ b.length ≤ most := by
 unfold packed at h
 cases hm : meas r 0 with
 | none => rw [hm] at h; cases h
 | some n =>
  rw [hm] at h
  dsimp only at h
  split at h
  · cases h
  ·
   cases h
   have := yU r 0 n hm
   exact ⟨rfl, by omega⟩
theorem Oc (v : Value) (x : Raw) (w : World) (h : kU w v x) : Calls Tryz.prog 137 #[v] w (Ret (fun v w' => qH w.heap.size x v w') w) := by
 have hx := h
 obtain ⟨lst, bs, xs⟩ := x
 obtain ⟨vb, vl, rfl, ⟨A9, c9, rfl, _⟩, A, c, rows, rfl, _⟩ := iH h
 clear h
 generalize hr : Raw.mk lst bs xs = r at hx ⊢
 have HX := Lib.hid hx
 clear hx
 go_enter Tryz.func137, Tryz.ntmps137
 go_wp2_with fail
 refine (Ip _ r _ (HX.out.gr (aC w _))).mono ?_
 rintro e w1 ⟨v1, rfl, hg1, ho1⟩
 have HG1 := Lib.hid ((aC w _).trans hg1)
 have HO1 := Lib.hid ho1
 clear hg1 ho1 HX
 go_wp2_with fail
 refine (wO 32 0 rfl r v1 _ HO1.out).mono ?_
 rintro e w2 ⟨v2, rfl, hg2, hm2⟩
 have HG2 := Lib.hid (HG1.out.trans hg2)
 have HO2 := Lib.hid (HO1.out.gr hg2)
 unfold xk at hm2
 clear hg2 HO1 HG1 hr
 cases hmx : meas r 0 with
 | none =>
  rw [hmx] at hm2
  obtain ⟨z, rfl⟩ := hm2
  have HP := Lib.hid (show packed r = none by unfold packed; rw [hmx])
  clear hmx
  go_wp2_with fail
  refine bodyPost_ret (results_tmp2 rfl _ _ _) rfl ?_
  refine ⟨_, rfl, HG2.out, ?_⟩
  unfold qH
  rw [HP.out]
  rfl
 | some n =>
  rw [hmx] at hm2
  dsimp only at hm2
  subst hm2
  have hn := J6 _ _ _ hmx
  simp only [most] at hn
  by_cases h3 : n > most
  ·
   have HP := Lib.hid (show packed r = none by unfold packed; rw [hmx]; dsimp only; rw [if_pos h3])
   simp only [most] at h3
   clear hmx
   go_wp2_with fail
   refine bodyPost_ret (results_tmp2 rfl _ _ _) rfl ?_
   refine ⟨_, rfl, HG2.out, ?_⟩
   unfold qH
   rw [HP.out]
   rfl
  ·
   have HP := Lib.hid (show packed r = some (E r) by unfold packed; rw [hmx]; dsimp only; rw [if_neg h3])
   have hl := (Mc HP.out).2
   simp only [most] at h3
   have h4 : n ≤ 16777216 := by omega
   clear hmx h3
   go_wp2_with fail
   refine (AU _ r v1 _ (Nat.lt_succ_self _) hl HO2.out).mono ?_
   rintro e w3 ⟨v3, rfl, hg3, ho3⟩
   have HG3 := Lib.hid (HG2.out.trans hg3)
   have HO3 := Lib.hid (own_base ho3 HG2.out.size)
   clear hg3 ho3
   go_wp2_with fail
   refine bodyPost_ret (results_tmp2 rfl _ _ _) rfl ?_
   refine ⟨_, rfl, HG3.out, ?_⟩
   unfold qH
   rw [HP.out]
   exact ⟨v3, rfl, HO3.out⟩
theorem Jb {w w0 : World} {B g : Nat} (b : UInt8) (h : w = w0.alloc (.cells #[bv b] 5)) (hg : w0.heap.size = g) (hb : B ≤ w0.heap.size) : OwnB w B (.slice (some ⟨g, 0, none⟩) 1 1) [b] := by
 subst h
 unfold OwnB
 exact iw w0 #[bv b] 5 1 1 g B hg hb (by simp [maxLen]) (by simp)
def qI (B : Nat) (r : Raw) : VP := fun v w => match eG r with
 | some b => ∃ vb, v = .tuple #[vb, .bool true] ∧ OwnB w B vb b
 | none => v = .tuple #[.slice none 0 0, .bool false]
theorem mP {B : Nat} {r : Raw} {b : List UInt8} {v vb : Value} {w : World} (h : eG r = some b) (hv : v = .tuple #[vb, .bool true]) (hb : OwnB w B vb b) : qI B r v w := by unfold qI; rw [h]; exact ⟨vb, hv, hb⟩
theorem pX {B : Nat} {r : Raw} {v : Value} {w : World} (h : eG r = none) (hv : v = .tuple #[.slice none 0 0, .bool false]) : qI B r v w := by unfold qI; rw [h]; exact hv
theorem xA (vb vl : Value) (bs : List UInt8) (xs : List Raw) (w : World) (hv : IsB w vb bs) (hvl : ∃ A n c, vl = .slice A n c) : Calls Tryz.prog 123 #[.agg #[.bool false, vb, vl]] w (Ret (qI w.heap.size (.mk false bs xs)) w) := by
 obtain ⟨A, c, rfl, hc1, hc2, hr⟩ := hv
 obtain ⟨A9, n9, c9, rfl⟩ := hvl
 have HR := Lib.hid (hr.gr (aC w (.cells #[.bool false, .slice A bs.length c, .slice A9 n9 c9] 157)))
 unfold maxLen at hc2
 by_cases h0 : bs.length ≤ most
 ·
  simp only [most] at h0
  by_cases h1 : bs.length = 1
  ·
   obtain ⟨b, rfl⟩ := List.length_eq_one_iff.1 h1
   obtain ⟨bl, o, rfl, hbl, hcell⟩ := hr (by simp [bvs])
   have e1 := hcell 0 (bv b) rfl
   rw [Nat.add_zero] at e1
   unfold bv at e1
   clear hcell h1 hr
   have hbl2 := qC b
   simp only [List.length_singleton] at hc1 ⊢
   by_cases h2 : b < 128
   ·
    have h3 : b.toNat < 128 := UInt8.lt_iff_toNat_lt.1 h2
    have HM := Lib.hid (show eG (.mk false [b] xs) = some [b] by rw [eG, if_neg (by simp [most]), EB, if_pos ⟨rfl, h2⟩])
    clear h2
    go_enter Tryz.func123, Tryz.ntmps123
    go_wp2_with fail
    refine bodyPost_ret (results_tmp2 rfl _ _ _) rfl ?_
    refine ⟨_, rfl, (aC w _).trans (aC _ _), mP HM.out rfl ?_⟩
    exact Jb (g := w.heap.size + 1) b rfl (by simp) (aC w _).size
   ·
    have h3 : 128 ≤ b.toNat := Nat.not_lt.1 fun e => h2 (UInt8.lt_iff_toNat_lt.2 e)
    have HM := Lib.hid (show eG (.mk false [b] xs) = some (head 1 128 ++ [b]) by rw [eG, if_neg (by simp [most]), EB, if_neg (fun h => h2 h.2)]; rfl)
    clear h2
    go_enter Tryz.func123, Tryz.ntmps123
    go_wp2_with fail
    refine (yI 1 128 _ (by omega) (by omega)).mono ?_
    rintro e w1 ⟨v1, rfl, hg1, ho1⟩
    obtain ⟨A1, c1, rfl, hd1, hd2⟩ := dB ho1
    have hhl : (head 1 128).length + 1 ≤ 16777225 := by rw [gW]; exact vg 1 (by simp only [most]; omega)
    have HO1 := Lib.hid ho1
    have HG1 := Lib.hid ((aC w _).trans hg1)
    have HR1 := Lib.hid (HR.out.gr hg1)
    have hz1 := HG1.out.size
    unfold maxLen at hd2
    unfold OwnB at HO1
    generalize head 1 128 = hd at HM HO1 hhl hd1 ⊢
    clear ho1 hg1
    go_wp2_with (at_builtin; refine bK (.tmp 32) (.tmp 33) 30 bQ (base := w.heap.size) _ hd.length (bvs hd) _ 1 c _ (bvs [b]) rfl rfl rfl rfl (own_base HO1.out (by simp)) HR1.out (by simp [bvs]) (dM _) (by simp only [maxLen]; omega) (by omega) (by omega) ?_; intro A2 c2 w2 hown2 hg2 _)
    refine bodyPost_ret (results_tmp2 rfl _ _ _) rfl ?_
    refine ⟨_, rfl, HG1.out.grown hg2 (by omega) fun j hj => dR (own_base HO1.out (by simp)) j hj, mP HM.out rfl ?_⟩
    unfold OwnB; rw [List.length_append, gu]; exact hown2
  ·
   have hd : ((bs.length : Int) == 1) = false := by simp; omega
   have HM := Lib.hid (show eG (.mk false bs xs) = some (head bs.length 128 ++ bs) by rw [eG, if_neg (by simp only [most]; omega), EB, if_neg (fun h => h1 h.1)])
   clear h1 hr
   go_enter Tryz.func123, Tryz.ntmps123
   go_wp2_with fail
   refine (yI bs.length 128 _ (by omega) (by omega)).mono ?_
   rintro e w1 ⟨v1, rfl, hg1, ho1⟩
   obtain ⟨A1, c1, rfl, hd1, hd2⟩ := dB ho1
   have hhl : (head bs.length 128).length + bs.length ≤ 16777225 := by rw [gW]; exact vg bs.length (by simp only [most]; omega)
   have HO1 := Lib.hid ho1
   have HG1 := Lib.hid ((aC w _).trans hg1)
   have HR1 := Lib.hid (HR.out.gr hg1)
   have hz1 := HG1.out.size
   unfold maxLen at hd2
   unfold OwnB at HO1
   generalize head bs.length 128 = hd at HM HO1 hhl hd1 ⊢
   clear ho1 hg1
   go_wp2_with (at_builtin; refine bK (.tmp 32) (.tmp 33) 30 bQ (base := w.heap.size) _ hd.length (bvs hd) _ bs.length c _ (bvs bs) rfl rfl rfl rfl (own_base HO1.out (by simp)) HR1.out (by simp [bvs]) (dM _) (by simp only [maxLen]; omega) (by omega) (by omega) ?_; intro A2 c2 w2 hown2 hg2 _)
   refine bodyPost_ret (results_tmp2 rfl _ _ _) rfl ?_
   refine ⟨_, rfl, HG1.out.grown hg2 (by omega) fun j hj => dR (own_base HO1.out (by simp)) j hj, mP HM.out rfl ?_⟩
   unfold OwnB; rw [List.length_append, gu]; exact hown2
 ·
  have h3 : 16777216 < bs.length := by simp only [most] at h0; omega
  have HM := Lib.hid (show eG (.mk false bs xs) = none by rw [eG, if_pos (by omega)])
  clear h0 hr
  go_enter Tryz.func123, Tryz.ntmps123
  go_wp2_with fail
  refine bodyPost_ret (results_tmp2 rfl _ _ _) rfl ?_
  exact ⟨_, rfl, aC w _, pX HM.out rfl⟩
theorem AX : ∀ (n : Nat) (r : Raw) (v : Value) (w : World), cnt r < n → kU w v r → Calls Tryz.prog 123 #[v] w (Ret (qI w.heap.size r) w)
 | 0, r, v, w, hn, _ => by omega
 | n + 1, .mk false bs xs, v, w, hn, h => by
  obtain ⟨vb, vl, rfl, h1, A, c, _, rfl, _⟩ := iH h
  exact xA vb _ bs xs w h1 ⟨_, _, _, rfl⟩
 | n + 1, .mk true bs xs, v, w, hn, h => by
  have ih := Lib.hid (AX n)
  obtain ⟨vb, vl, rfl, ⟨A9, c9, rfl, _⟩, A, c, rows, rfl, hc1, hc2, _, hr, hi⟩ := iH h
  have HR := Lib.hid hr
  have HI := Lib.hid hi
  have hd := Lib.hid (show eG (.mk true bs xs) = (fF xs []).map fun l => head l.length 192 ++ l by rw [eG])
  rw [cnt] at hn
  unfold maxLen at hc2
  clear h hr hi
  go_enter Tryz.func123, Tryz.ntmps123
  go_wp2_with fail
  go_loopw [5, 6] (fun ov i wr => ∃ (k : Nat) (acc : List UInt8), k ≤ xs.length ∧ i = .int .i64 k ∧ fF xs [] = fF (xs.drop k) acc ∧ acc.length ≤ 16777216 ∧ OwnB wr (w.heap.size + 1) ov acc ∧ Gr (w.alloc (.cells #[.bool true, .slice A9 bs.length c9, .slice A xs.length c] 157)) wr) (fun _ i _ => xs.length - (intOf i).toNat)
  case atStart => exact ⟨0, [], by omega, rfl, rfl, by simp, OwnB.nil _ _, Gr.refl _⟩
  case round =>
   obtain ⟨k, acc, hk, rfl, hM, hal, hown, hb⟩ := hrel
   obtain ⟨A3, c3, rfl, hd1, hd2⟩ := dB hown
   have HM := Lib.hid hM
   have HO := Lib.hid hown
   have HB := Lib.hid hb
   have hbs := hb.size
   have hcl := hb.cell (p := ⟨w.heap.size, 2, none⟩) (by simp)
   have hcl2 : (w.alloc (.cells #[.bool true, .slice A9 bs.length c9, .slice A xs.length c] 157)).cell? ⟨w.heap.size, 2, none⟩ = some (.slice A xs.length c) := by rw [cell_of_row _ _ _ _ _ (0, 0) (heap_alloc_new w _)]; rfl
   rw [hcl2] at hcl
   simp only [tH] at hbs
   unfold maxLen at hd2
   clear hM hown hb hcl2
   by_cases h1 : k < xs.length
   ·
    obtain ⟨bl, o, f, vb', vl, rfl, hbl, e1, e2, e3, hx, ⟨A2, n2, c2, rfl⟩, A', n', c', rfl⟩ := uF HR.out HI.out k h1
    have e1' := (((aC w _).trans HB.out).cell (p := ⟨bl, o + k * 3, none⟩) hbl).trans e1
    have e2' := (((aC w _).trans HB.out).cell (p := ⟨bl, o + k * 3 + 1, none⟩) hbl).trans e2
    have e3' := (((aC w _).trans HB.out).cell (p := ⟨bl, o + k * 3 + 2, none⟩) hbl).trans e3
    have HX := Lib.hid (hx.gr ((aC w _).trans HB.out))
    have hdk : xs.drop k = xs[k] :: xs.drop (k + 1) := List.drop_eq_getElem_cons h1
    have hcnt := KE xs k h1
    have HM2 := Lib.hid (show fF xs [] = match eG xs[k] with | none => none | some b => if acc.length + b.length > most then none else fF (xs.drop (k + 1)) (acc ++ b) by
     rw [HM.out, hdk, fF]
     cases eG xs[k] <;> rfl)
    clear e1 e2 e3 hx hdk HM
    go_wp2_with fail
    refine (ih.out xs[k] _ _ (by omega) HX.out).mono ?_
    rintro e w1 ⟨v1, rfl, hg1, hp1⟩
    have HG1 := Lib.hid (HB.out.trans hg1)
    have HO1 := Lib.hid (vM HO.out hg1)
    have hz1 := HG1.out.size
    simp only [tH] at hz1
    unfold qI at hp1
    clear hg1 e1' e2' e3' hcl HO hcnt
    cases hpx : eG xs[k] with
    | none =>
     rw [hpx] at HM2 hp1
     dsimp only at hp1
     subst hp1
     have HM3 := Lib.hid (show eG (.mk true bs xs) = none by rw [hd.out, HM2.out]; rfl)
     clear HM2 hpx
     go_wp2_with fail
     refine bodyPost_ret (results_tmp2 rfl _ _ _) rfl ?_
     exact ⟨_, rfl, (aC w _).trans HG1.out, pX HM3.out rfl⟩
    | some bx =>
     rw [hpx] at HM2 hp1
     obtain ⟨vbx, rfl, hown4⟩ := hp1
     obtain ⟨A4, c4, rfl, he1, he2, hr4⟩ := hown4.isB
     clear hown4
     have HR4 := Lib.hid hr4
     have hbx := FK _ _ hpx
     simp only [most] at hbx
     unfold maxLen at he2
     clear hr4 hpx
     by_cases h3 : acc.length + bx.length > 16777216
     ·
      have HM3 := Lib.hid (show eG (.mk true bs xs) = none by rw [hd.out, HM2.out]; dsimp only; rw [if_pos h3]; rfl)
      clear HM2
      go_wp2_with fail
      refine bodyPost_ret (results_tmp2 rfl _ _ _) rfl ?_
      exact ⟨_, rfl, (aC w _).trans HG1.out, pX HM3.out rfl⟩
     ·
      have HM3 := Lib.hid (show fF xs [] = fF (xs.drop (k + 1)) (acc ++ bx) by rw [HM2.out]; dsimp only; rw [if_neg h3])
      clear HM2
      go_wp2_with (at_builtin; refine bK _ _ 30 bQ _ _ _ _ _ _ _ (bvs bx) rfl rfl rfl rfl HO1.out HR4.out (by simp [bvs]) (dM _) (by simp only [maxLen]; omega) (by omega) (by omega) ?_; intro A5 c5 w5 hown5 hg5 _)
      go_roundw
      case rel =>
       refine ⟨k + 1, acc ++ bx, by omega, by go_num, HM3.out, by rw [List.length_append]; omega, ?_, ?_⟩
       ·
        unfold OwnB
        rw [List.length_append, gu]
        exact hown5
       · exact HG1.out.grown hg5 (by rw [tH]; omega) fun j hj => by rw [tH]; exact dR HO1.out j hj
      case measure => simp [intOf]; omega
   ·
    have h2 : xs.length ≤ k := by omega
    have HM2 := Lib.hid (show eG (.mk true bs xs) = some (head acc.length 192 ++ acc) by
     rw [hd.out, HM.out, List.drop_eq_nil_of_le h2, fF]
     rfl)
    clear h1 HM
    go_wp2_with fail
    refine (yI acc.length 192 _ (by omega) (by omega)).mono ?_
    rintro e w1 ⟨v1, rfl, hg1, ho1⟩
    obtain ⟨A1, c1, rfl, he1, he2⟩ := dB ho1
    have hhl : (head acc.length 192).length + acc.length ≤ 16777225 := by rw [gW]; exact vg _ (by simp only [most]; omega)
    obtain ⟨_, _, he, _, _, hrd⟩ := OwnB.isB HO.out
    injection he with he3 _ he4
    subst he3 he4
    have HRD := Lib.hid (hrd.gr hg1)
    have HO1 := Lib.hid ho1
    have HG1 := Lib.hid (((aC w _).trans HB.out).trans hg1)
    have hz1 := HG1.out.size
    unfold maxLen at he2
    unfold OwnB at HO1
    generalize head acc.length 192 = hh at HM2 HO1 hhl he1 ⊢
    clear ho1 hg1 hrd
    go_wp2_with (at_builtin; refine bK (.tmp 66) (.tmp 67) 30 bQ (base := w.heap.size) _ hh.length (bvs hh) _ acc.length _ _ (bvs acc) rfl rfl rfl rfl (own_base HO1.out (by omega)) HRD.out (by simp [bvs]) (dM _) (by simp only [maxLen]; omega) (by omega) (by omega) ?_; intro A2 c2 w2 hown2 hg2 _)
    refine bodyPost_ret (results_tmp2 rfl _ _ _) rfl ?_
    refine ⟨_, rfl, HG1.out.grown hg2 (by omega) fun j hj => dR (own_base HO1.out (by omega)) j hj, mP HM2.out rfl ?_⟩
    unfold OwnB; rw [List.length_append, gu]; exact hown2
theorem LH (v : Value) (x : Raw) (w : World) (h : kU w v x) : Calls Tryz.prog 77 #[v] w (Ret (fun v w' => qH w.heap.size x v w') w) := by
 have hx := h
 obtain ⟨lst, bs, xs⟩ := x
 obtain ⟨vb, vl, rfl, ⟨A9, c9, rfl, _⟩, A, c, rows, rfl, _⟩ := iH h
 clear h
 generalize hr : Raw.mk lst bs xs = r at hx ⊢
 have hpr := sH r
 have HX := Lib.hid (hx.gr (aC w (.cells #[.bool lst, .slice A9 bs.length c9, .slice A xs.length c] 157)))
 have hdl := zF 32 r
 clear hx hr
 go_enter Tryz.func77, Tryz.ntmps77
 go_wp2_with fail
 refine (Fh 32 r _ _ (Nat.le_refl _) HX.out).mono ?_
 rintro e w1 ⟨_, rfl, hg1, rfl⟩
 have HG1 := Lib.hid ((aC w _).trans hg1)
 have HX1 := Lib.hid (HX.out.gr hg1)
 have e0 := hg1.cell (p := ⟨w.heap.size, 0, none⟩) (by simp)
 have e1 := hg1.cell (p := ⟨w.heap.size, 1, none⟩) (by simp)
 have e2 := hg1.cell (p := ⟨w.heap.size, 2, none⟩) (by simp)
 rw [cell_of_row (w.alloc _) _ _ _ _ (0, 0) (heap_alloc_new w _)] at e0 e1 e2
 simp at e0 e1 e2
 clear hg1 HX
 by_cases h3 : dW r 32 > 32
 ·
  have HP := Lib.hid (show packed r = none by rw [hpr, if_pos h3])
  clear hpr
  go_wp2_with fail
  refine bodyPost_ret (results_tmp2 rfl _ _ _) rfl ?_
  refine ⟨_, rfl, HG1.out, ?_⟩
  unfold qH
  rw [HP.out]
  rfl
 ·
  rw [if_neg h3] at hpr
  have HPR := Lib.hid hpr
  have h4 : dW r 32 ≤ 32 := by omega
  clear h3 hpr
  go_wp2_with fail
  refine (AX _ r _ _ (Nat.lt_succ_self _) HX1.out).mono ?_
  rintro e w2 ⟨v2, rfl, hg2, hp2⟩
  have HG2 := Lib.hid (HG1.out.trans hg2)
  unfold qI at hp2
  clear hg2 HX1 e0 e1 e2
  cases hpx : eG r with
  | none =>
   rw [hpx] at hp2 HPR
   dsimp only at hp2
   subst hp2
   have HP := Lib.hid (show packed r = none from HPR.out)
   clear hpx HPR
   go_wp2_with fail
   refine bodyPost_ret (results_tmp2 rfl _ _ _) rfl ?_
   refine ⟨_, rfl, HG2.out, ?_⟩
   unfold qH
   rw [HP.out]
   rfl
  | some b =>
   rw [hpx] at hp2 HPR
   obtain ⟨vb2, rfl, hown4⟩ := hp2
   obtain ⟨A4, c4, rfl, he1, he2, hr4⟩ := hown4.isB
   have HO4 := Lib.hid (own_base hown4 (base' := w.heap.size) HG1.out.size)
   clear hown4
   have hbx := FK _ _ hpx
   simp only [most] at hbx
   have HR4 := Lib.hid hr4
   have he2' := Lib.hid he2
   unfold maxLen at he2
   clear hr4 hpx
   by_cases h5 : b.length > most
   ·
    have HP := Lib.hid (show packed r = none by rw [HPR.out]; dsimp only; rw [if_pos h5])
    simp only [most] at h5
    clear HPR
    go_wp2_with fail
    refine bodyPost_ret (results_tmp2 rfl _ _ _) rfl ?_
    refine ⟨_, rfl, HG2.out, ?_⟩
    unfold qH
    rw [HP.out]
    rfl
   ·
    have HP := Lib.hid (show packed r = some b by rw [HPR.out]; dsimp only; rw [if_neg h5])
    have h6 : b.length ≤ 16777216 := by simp only [most] at h5; omega
    clear HPR h5
    go_wp2_with fail
    refine bodyPost_ret (results_tmp2 rfl _ _ _) rfl ?_
    refine ⟨_, rfl, HG2.out, ?_⟩
    unfold qH
    rw [HP.out]
    exact ⟨_, rfl, HO4.out⟩
theorem uT {w : World} {g : Nat} {t : TypeId} {l : List UInt8} (h : Arr w g t l) (k : Nat) (hk : k < l.length) : w.cell? ⟨g, k, none⟩ = some (.int .u8 (l[k].toNat : Int)) := by
 rw [cell_of_row w g k _ t (0, 0) h]
 simp [bvs, bv, hk]
theorem J9 {w : World} {g : Nat} {t : TypeId} {l : List UInt8} (h : Arr w g t l) (k : Nat) (hk : k ≤ l.length) (hm : l.length ≤ maxLen) (c : Nat) (hc : l.length - k ≤ c) (hcm : c ≤ maxLen) : IsB w (.slice (some ⟨g, k, none⟩) (l.length - k) c) (l.drop k) := by
 refine ⟨_, _, by rw [List.length_drop], by rw [List.length_drop]; exact hc, hcm, fun hn => ⟨g, k, rfl, h.lt, fun j u hu => ?_⟩⟩
 rw [cell_of_row w g _ _ t (0, 0) h]
 rw [Qc, List.getElem?_drop] at hu
 simpa using hu
set_option maxRecDepth 100000 in
theorem tV (w : World) (l : List UInt8) : (Instr.box 29 (gG l)).run Tryz.prog w = .ok (.pointer (some ⟨w.heap.size, 0, none⟩)) (w.alloc (.cells (bvs l).toArray 29)) := by kernel_rfl
theorem tq {w : World} {ops : Array Oper} {rest : List Oper} {o : Oper} {a : Act} {Q : Exit → Act → World → Prop} (g : Nat) (hg : w.heap.size = g) (x : Operand) (l : List UInt8) (hgd : o.guard = none) (ho : o.op = .box 29 x) (hx : a.eval x = gG l)
  (h : ∀ w', Hid (Arr w' g 29 l) → Hid (Gr w w') → w'.heap.size = g + 1 → wpList Tryz.prog ops Q rest (a.put o.dst (.pointer (some ⟨g, 0, none⟩))) w') : wpList Tryz.prog ops Q (o :: rest) a w := by
 subst hg
 refine wpList_plain hgd fun _ hK => ?_
 have h1 := hK _ _ (h _ (Lib.hid (heap_alloc_new w _)) (Lib.hid (aC w _)) (by simp))
 unfold Oper.wp execOp
 simp only [ho, hx, Sem.run_bind, tV, Result.andThen_ok, Sem.run_pure]
 exact h1
theorem fQ {fn : Func} {p : Tmp} (h : fn.results = #[.cell p 157]) (tmps : Array Value) (w : World) (g : Nat) (cs : Array Value)
  (hp : tmps.getD p undef = .pointer (some ⟨g, 0, none⟩)) (hg : w.heap[g]? = some (.cells cs 157 (0, 0))) (hs : cs.size = 3) :
  (results fn tmps).run Tryz.prog w = .ok (.agg cs) w :=
 results_cell_row h tmps w g 157 cs (0, 0) _ hp hg Tryz.underlying157 rfl (ML cs hs)
theorem KN (l : List UInt8) (k : Nat) (hk : k < l.length) : ((l[k].toNat : Int) == 0) = decide (l[k] = 0) := by
 rw [Bool.eq_iff_iff, beq_iff_eq, decide_eq_true_eq]
 constructor
 ·
  intro e
  exact UInt8.toNat_inj.1 (by rw [show (0 : UInt8).toNat = 0 from rfl]; omega)
 ·
  intro e
  rw [e]
  rfl
theorem AY (v : Value) (l : List UInt8) (B : Nat) (w : World) (h : wB (fun k => B ≤ k ∧ k < w.heap.size) w v l) : Calls Tryz.prog 80 #[v] w (Ret (fun v' w' => je (fun k => B ≤ k ∧ k < w.heap.size) w' v' (.mk false l [])) w) := by
 have HB := Lib.hid h
 obtain ⟨A, c, rfl, hc1, hc2, hr⟩ := h
 clear hr
 go_enter Tryz.func80, Tryz.ntmps80
 go_wp2_with fail
 refine bodyPost_ret (fQ rfl _ _ w.heap.size #[.bool false, .slice A l.length c, .slice none 0 0] rfl (heap_alloc_new w _) rfl) rfl ⟨_, rfl, aC w _, kZ (HB.out.mono (fun b hb => hb) fun p hp => (aC w _).cell hp.2)⟩
theorem JW (l : List UInt8) (hl : l.length = 32) (w : World) : Calls Tryz.prog 100 #[gG l] w (Ret (fun v w' => je (fun k => w.heap.size ≤ k ∧ k < w'.heap.size) w' v (.mk false (strip l) [])) w) := by
 go_enter Tryz.func100, Tryz.ntmps100
 go_wp2_with (guard_target = wpList _ _ _ (Oper.mk _ (Op.box _ _) _ _ _ _ :: _) _ _; refine tq w.heap.size rfl (.tmp 0) l rfl rfl rfl ?_; intro w0 hA0 hG0 hs0)
 have HG1 := Lib.hid (hG0.out.trans (aC w0 (.cells #[.bool false, .slice none 0 0, .slice none 0 0] 157)))
 have HA1 := Lib.hid (KO hA0.out (.cells #[.bool false, .slice none 0 0, .slice none 0 0] 157))
 have HI1 : Hid ((w0.alloc (.cells #[.bool false, .slice none 0 0, .slice none 0 0] 157)).heap[w.heap.size + 1]? = _) := Lib.hid (Kq w0 _ _ hs0.symm)
 have hs1 : (w0.alloc (.cells #[.bool false, .slice none 0 0, .slice none 0 0] 157)).heap.size = w.heap.size + 2 := by simp [hs0]
 generalize w0.alloc (.cells #[.bool false, .slice none 0 0, .slice none 0 0] 157) = w1 at HG1 HA1 HI1 hs1 ⊢
 go_loopw [3] (fun i wr => ∃ k : Nat, k ≤ 32 ∧ i = .int .i64 k ∧ wr = w1 ∧ Hid (strip (l.drop k) = strip l)) (fun i _ => 32 - (intOf i).toNat)
 case atStart => exact ⟨0, by omega, rfl, rfl, Lib.hid rfl⟩
 case round =>
  obtain ⟨k, hk, rfl, rfl, HST⟩ := hrel
  by_cases h1 : k < 32
  ·
   have hc := uT HA1.out k (by omega)
   by_cases hz : l[k] = 0
   ·
    have hstep : strip (l.drop (k + 1)) = strip l := by
     rw [← HST.out, List.drop_eq_getElem_cons (by omega : k < l.length), strip, if_pos hz]
    have HSTEP := Lib.hid hstep
    rw [hz] at hc
    have hc2 : wr.cell? ⟨w.heap.size, k, none⟩ = some (.int .u8 0) := hc
    clear hc hstep hz
    go_wp2_with fail
    go_roundw
    case rel => exact ⟨k + 1, by omega, by go_num, trivial, HSTEP⟩
    case measure => simp [intOf]; omega
   ·
    have hn := KN l k (by omega)
    rw [decide_eq_false hz] at hn
    have HD : Hid (l.drop k = strip l) := Lib.hid (by rw [← HST.out, En l k (by omega) hz])
    have hsl := fun w' : World => yj w' w.heap.size k k rfl (by omega)
    have HRD : Hid (Rd wr wr.heap.size (some ⟨w.heap.size, k, none⟩) (bvs (l.drop k))) := by
     obtain ⟨_, _, e, _, _, h⟩ := J9 HA1.out k (by omega) (by simp [hl, maxLen]) (l.length - k) (Nat.le_refl _) (by simp [hl, maxLen]; omega)
     injection e with e1 _ _
     subst e1
     exact Lib.hid h
    have hne : ¬ 32 = k := by omega
    simp only [if_neg hne] at hsl
    have hlen : (bvs (l.drop k)).length = (32 - k) * 1 := by simp [bvs, hl]
    clear hz
    go_wp2_with first
     | (at_builtin; refine bK (.const (.slice none 0 0)) (.tmp 15) 30 bQ (base := wr.heap.size) _ 0 [] (some ⟨w.heap.size, k, none⟩) (32 - k) (32 - k) wr.heap.size (bvs (l.drop k)) rfl rfl rfl rfl (World.ownsRow_nil _ _ _ _) HRD.out hlen (dM _) (by simp only [maxLen]; omega) (by omega) (Nat.le_refl _) ?_; intro A2 c2 w2 hown2 hg2 _; simp only [Nat.zero_add, List.nil_append] at hown2; have HO2 : Hid (OwnB w2 wr.heap.size (.slice A2 (32 - k) c2) (strip l)) := Lib.hid (ownB_of hown2 (by rw [← HD.out])); have HG2 : Hid (Gr wr w2) := Lib.hid ((Below.refl _ _).grown hg2 (Nat.le_refl _) (fun j hj => by cases hj)); clear hown2 hg2)
     | (go_at_call 80; refine (AY _ (strip l) wr.heap.size _ (pY HO2.out)).mono ?_; rintro e w3 ⟨v3, rfl, hg3, hv3⟩; have HI3 := Lib.hid hv3; obtain ⟨cs3, rfl, hat3⟩ := hv3; obtain ⟨b3, A4, n4, c4, A5, n5, c5, rfl⟩ := hat3.len; have hs3 := hg3.size; have HG3 := Lib.hid (HG2.out.trans hg3); have HR3 := Lib.hid ((HG3.out.block _ (lt_of_some HI1.out)).trans HI1.out); clear hg3 hat3)
     | (guard_target = wpList _ _ _ (Oper.mk _ (Op.store _ _ _) _ _ _ _ :: _) _ _; refine wpList_store_row rfl 157 (.tmp 2) (.tmp 17) rfl (w.heap.size + 1) _ rfl rfl 157 _ HR3.out (by kernel_rfl) rfl (by simp [Value.oneCell']) ?_)
    refine bodyPost_ret (fQ rfl _ _ (w.heap.size + 1) _ rfl (dG _ _ _ _ _ HR3.out) rfl) rfl ⟨_, rfl, iQ (HG1.out.trans HG3.out) _ _ (by omega), ?_⟩
    exact HI3.out.mono (fun b hb => ⟨by have := hb.1; omega, by rw [size_setRow]; have := hb.2; omega⟩) (fun p hp => jc (by have := hp.1; omega))
  ·
   skip
   have hk2 : k = 32 := by omega
   subst hk2
   have HD : Hid (l.drop 32 = strip l) := Lib.hid (by rw [← HST.out, List.drop_eq_nil_of_le (by omega)]; rfl)
   have hz := h1
   have hsl := fun w' : World => yj w' w.heap.size 32 32 rfl (by omega)
   have HRD : Hid (Rd wr wr.heap.size (some ⟨w.heap.size, 0, none⟩) (bvs (l.drop 32))) := by
    rw [List.drop_eq_nil_of_le (by omega)]
    exact Lib.hid Rd.nil
   simp at hsl
   have hlen : (bvs (l.drop 32)).length = (32 - 32) * 1 := by simp [bvs, hl]
   clear hz
   go_wp2_with first
    | (at_builtin; refine bK (.const (.slice none 0 0)) (.tmp 15) 30 bQ (base := wr.heap.size) _ 0 [] (some ⟨w.heap.size, 0, none⟩) (32 - 32) (32 - 32) wr.heap.size (bvs (l.drop 32)) rfl rfl rfl rfl (World.ownsRow_nil _ _ _ _) HRD.out hlen (dM _) (by simp only [maxLen]; omega) (by omega) (Nat.le_refl _) ?_; intro A2 c2 w2 hown2 hg2 _; simp only [Nat.zero_add, List.nil_append] at hown2; have HO2 : Hid (OwnB w2 wr.heap.size (.slice A2 (32 - 32) c2) (strip l)) := Lib.hid (ownB_of hown2 (by rw [← HD.out])); have HG2 : Hid (Gr wr w2) := Lib.hid ((Below.refl _ _).grown hg2 (Nat.le_refl _) (fun j hj => by cases hj)); clear hown2 hg2)
    | (go_at_call 80; refine (AY _ (strip l) wr.heap.size _ (pY HO2.out)).mono ?_; rintro e w3 ⟨v3, rfl, hg3, hv3⟩; have HI3 := Lib.hid hv3; obtain ⟨cs3, rfl, hat3⟩ := hv3; obtain ⟨b3, A4, n4, c4, A5, n5, c5, rfl⟩ := hat3.len; have hs3 := hg3.size; have HG3 := Lib.hid (HG2.out.trans hg3); have HR3 := Lib.hid ((HG3.out.block _ (lt_of_some HI1.out)).trans HI1.out); clear hg3 hat3)
    | (guard_target = wpList _ _ _ (Oper.mk _ (Op.store _ _ _) _ _ _ _ :: _) _ _; refine wpList_store_row rfl 157 (.tmp 2) (.tmp 17) rfl (w.heap.size + 1) _ rfl rfl 157 _ HR3.out (by kernel_rfl) rfl (by simp [Value.oneCell']) ?_)
   refine bodyPost_ret (fQ rfl _ _ (w.heap.size + 1) _ rfl (dG _ _ _ _ _ HR3.out) rfl) rfl ⟨_, rfl, iQ (HG1.out.trans HG3.out) _ _ (by omega), ?_⟩
   exact HI3.out.mono (fun b hb => ⟨by have := hb.1; omega, by rw [size_setRow]; have := hb.2; omega⟩) (fun p hp => jc (by have := hp.1; omega))
theorem Q7 (l : List UInt8) (hl : l.length = 32) (w : World) : Calls Tryz.prog 159 #[gG l] w (Ret (fun v w' => je (fun k => w.heap.size ≤ k ∧ k < w'.heap.size) w' v (.mk false (strip l) [])) w) := by
 have hsl0 : ∀ w', (Instr.sliceAt 29 (.pointer (some ⟨w.heap.size, 0, none⟩)) none none none).run Tryz.prog w' = .ok (.slice (some ⟨w.heap.size, 0, none⟩) 32 32) w' := fun w' => by kernel_rfl
 go_enter Tryz.func159, Tryz.ntmps159
 go_wp2_with (guard_target = wpList _ _ _ (Oper.mk _ (Op.box _ _) _ _ _ _ :: _) _ _; refine tq w.heap.size rfl (.tmp 0) l rfl rfl rfl ?_; intro w0 hA0 hG0 hs0)
 have HG1 := Lib.hid (hG0.out.trans (aC w0 (.cells #[.bool false, .slice none 0 0, .slice none 0 0] 157)))
 have HA1 := Lib.hid (KO hA0.out (.cells #[.bool false, .slice none 0 0, .slice none 0 0] 157))
 have HI1 : Hid ((w0.alloc (.cells #[.bool false, .slice none 0 0, .slice none 0 0] 157)).heap[w.heap.size + 1]? = _) := Lib.hid (Kq w0 _ _ hs0.symm)
 have hs1 : (w0.alloc (.cells #[.bool false, .slice none 0 0, .slice none 0 0] 157)).heap.size = w.heap.size + 2 := by simp [hs0]
 generalize w0.alloc (.cells #[.bool false, .slice none 0 0, .slice none 0 0] 157) = w1 at HG1 HA1 HI1 hs1 ⊢
 clear hsl0
 go_loopw [3] (fun bv wr => ∃ (k : Nat) (A : Option Addr), k ≤ 32 ∧ bv = .slice A (32 - k) (32 - k) ∧ (k < 32 → A = some ⟨w.heap.size, k, none⟩) ∧ wr = w1 ∧ Hid (strip (l.drop k) = strip l)) (fun bv _ => match bv with | .slice _ n _ => n | _ => 0)
 case atStart => exact ⟨0, some ⟨w.heap.size, 0, none⟩, by omega, rfl, fun _ => rfl, rfl, Lib.hid rfl⟩
 case round =>
  obtain ⟨k, A, hk, rfl, hA, rfl, HST⟩ := hrel
  by_cases h1 : k < 32
  ·
   obtain rfl := hA h1
   have hc := uT HA1.out k (by omega)
   have e1 : (((32 - k : Nat) : Int)) = 32 - (k : Int) := by omega
   by_cases hz : l[k] = 0
   ·
    have HSTEP : Hid (strip (l.drop (k + 1)) = strip l) := Lib.hid (by rw [← HST.out, List.drop_eq_getElem_cons (by omega : k < l.length), strip, if_pos hz])
    rw [hz] at hc
    have hc2 : wr.cell? ⟨w.heap.size, k, none⟩ = some (.int .u8 0) := hc
    clear hc hz
    go_wp2_with fail
    go_roundw
    case rel => exact ⟨k + 1, _, by omega, by rw [show 32 - (k + 1) = 32 - k - 1 by omega], fun h => if_neg (by omega), trivial, HSTEP⟩
    case measure => show 32 - k - 1 < 32 - k; omega
   ·
    have hn := KN l k (by omega)
    rw [decide_eq_false hz] at hn
    have HD : Hid (l.drop k = strip l) := Lib.hid (by rw [← HST.out, En l k (by omega) hz])
    have HB : Hid (IsB wr (.slice (some ⟨w.heap.size, k, none⟩) (32 - k) (32 - k)) (strip l)) := by
     have := J9 HA1.out k (by omega) (by simp [hl, maxLen]) (l.length - k) (Nat.le_refl _) (by simp [hl, maxLen]; omega)
     rw [HD.out, hl] at this
     exact Lib.hid this
    clear hz
    go_wp2_with first
     | (go_at_call 116; refine (wZ _ (strip l) _ HB.out (by have := iI l; omega)).mono ?_; rintro e w2 ⟨v2, rfl, hg2, ho2⟩; have HB2 := Lib.hid (pY ho2); obtain ⟨A2, c2, rfl, _⟩ := dB ho2; have HG2 := Lib.hid hg2; have HR2 := Lib.hid ((hg2.block _ (lt_of_some HI1.out)).trans HI1.out); clear hg2 ho2)
     | (guard_target = wpList _ _ _ (Oper.mk _ (Op.store _ _ _) _ _ _ _ :: _) _ _; refine wpList_store_row rfl 157 (.tmp 2) (.tmp 18) rfl (w.heap.size + 1) _ rfl rfl 157 _ HR2.out (by kernel_rfl) rfl (by simp [Value.oneCell']) ?_)
    refine bodyPost_ret (fQ rfl _ _ (w.heap.size + 1) _ rfl (dG _ _ _ _ _ HR2.out) rfl) rfl ⟨_, rfl, iQ (HG1.out.trans HG2.out) _ _ (by omega), ?_⟩
    exact kZ (HB2.out.mono (fun b hb => ⟨by have := hb.1; omega, by rw [size_setRow]; have := hb.2; omega⟩) (fun p hp => jc (by have := hp.1; omega)))
  ·
   skip
   have hk2 : k = 32 := by omega
   subst hk2
   have HD : Hid (l.drop 32 = strip l) := Lib.hid (by rw [← HST.out, List.drop_eq_nil_of_le (by omega)]; rfl)
   have hz := h1
   have HB : Hid (IsB wr (.slice A (32 - 32) (32 - 32)) (strip l)) := by
    rw [← HD.out, List.drop_eq_nil_of_le (by omega)]
    exact Lib.hid ⟨_, 0, rfl, by simp, by simp [maxLen], Rd.nil⟩
   clear hz
   go_wp2_with first
    | (go_at_call 116; refine (wZ _ (strip l) _ HB.out (by have := iI l; omega)).mono ?_; rintro e w2 ⟨v2, rfl, hg2, ho2⟩; have HB2 := Lib.hid (pY ho2); obtain ⟨A2, c2, rfl, _⟩ := dB ho2; have HG2 := Lib.hid hg2; have HR2 := Lib.hid ((hg2.block _ (lt_of_some HI1.out)).trans HI1.out); clear hg2 ho2)
    | (guard_target = wpList _ _ _ (Oper.mk _ (Op.store _ _ _) _ _ _ _ :: _) _ _; refine wpList_store_row rfl 157 (.tmp 2) (.tmp 18) rfl (w.heap.size + 1) _ rfl rfl 157 _ HR2.out (by kernel_rfl) rfl (by simp [Value.oneCell']) ?_)
   refine bodyPost_ret (fQ rfl _ _ (w.heap.size + 1) _ rfl (dG _ _ _ _ _ HR2.out) rfl) rfl ⟨_, rfl, iQ (HG1.out.trans HG2.out) _ _ (by omega), ?_⟩
   exact kZ (HB2.out.mono (fun b hb => ⟨by have := hb.1; omega, by rw [size_setRow]; have := hb.2; omega⟩) (fun p hp => jc (by have := hp.1; omega)))
theorem xg {w : World} {g : Nat} {t : TypeId} {l : List UInt8} (h : Arr w g t l) (k : Nat) (b : UInt8) : Arr (w.setCell ⟨g, k, none⟩ (bv b)) g t (l.set k b) := by
 unfold Arr at h ⊢
 rw [setCell_eq_setRow w g k _ t (0, 0) _ h]
 rw [dG w g _ _ t h]
 simp [bvs, List.map_set]
theorem zO {w : World} {g : Nat} {t : TypeId} {l : List UInt8} (h : Arr w g t l) (k : Nat) : w.frozen? ⟨g, k, none⟩ = false := by
 unfold Arr at h
 simp [World.frozen?, h]
theorem heap_setCell_other (w : World) (p : Addr) (v : Value) (j : Nat) (h : j ≠ p.block) : (w.setCell p v).heap[j]? = w.heap[j]? := by
 exact Below.heap_setCell _ _ _ _ h
theorem vK (l : List UInt8) (h : l.length = 32) : pad (strip l) = l := by
 have key : ∀ m : List UInt8, ∃ k, m = List.replicate k 0 ++ strip m := by
  intro m
  induction m with
  | nil => exact ⟨0, rfl⟩
  | cons b m ih =>
   obtain ⟨k, hk⟩ := ih
   rw [strip]
   split
   ·
    rename_i hb
    subst hb
    exact ⟨k + 1, by rw [List.replicate_succ, List.cons_append, ← hk]⟩
   · exact ⟨0, rfl⟩
 obtain ⟨k, hk⟩ := key l
 have h2 := congrArg List.length hk
 rw [List.length_append, List.length_replicate, h] at h2
 unfold pad
 rw [show 32 - (strip l).length = k by omega, ← hk]
def ofN (n : Nat) : List UInt8 := pad (be n)
theorem Ul (l : List UInt8) (n : Nat) (h : l.length = 32) (hv : val l = n) : l = ofN n := by
 unfold ofN
 rw [← Em l n hv, vK l h]
theorem Ae {fn : Func} {p : Tmp} (h : fn.results = #[.cell p 29]) (tmps : Array Value) (w : World) (g : Nat) (t : TypeId) (l : List UInt8)
  (hp : tmps.getD p undef = .pointer (some ⟨g, 0, none⟩)) (hg : Arr w g t l) (hs : l.length = 32) :
  (results fn tmps).run Tryz.prog w = .ok (gG l) w :=
 results_cell_row h tmps w g t (bvs l).toArray (0, 0) _ hp hg Tryz.underlying29 rfl (zN l hs)
theorem Uh (n : Nat) (hn : n ≤ 9223372036854775807) (w : World) : Calls Tryz.prog 18 #[.int .i64 n] w (Ret (eqV (gG (ofN n))) w) := by
 go_enter Tryz.func18, Tryz.ntmps18
 go_wp2_with first
  | (guard_target = wpList _ _ _ (Oper.mk _ (Op.alloc _) _ _ _ _ :: _) _ _; refine pq (w.heap.size + 1) hs0 rfl rfl ?_; intro w1 hA1 hG1 hs1)
  | (guard_target = wpList _ _ _ (Oper.mk _ (Op.alloc _) _ _ _ _ :: _) _ _; refine pq w.heap.size rfl rfl rfl ?_; intro w0 hA0 hG0 hs0)
 have HG1 := Lib.hid (hG0.out.trans hG1.out)
 have HA0 := Lib.hid (hA0.out.gr hG1.out)
 clear hA0 hG1 hG0
 go_loopw [0, 4] (fun nv i wr => ∃ (m j : Nat) (t : List UInt8), j ≤ 8 ∧ nv = .int .i64 m ∧ i = .int .i64 (31 - (j : Int)) ∧ t.length = j ∧ m ≤ n ∧ Hid (m * 256 ^ j + val t = n) ∧ Hid (Arr wr w.heap.size 29 zero32) ∧ Hid (Arr wr (w.heap.size + 1) 29 (List.replicate (32 - j) 0 ++ t)) ∧ Hid (Gr w wr)) (fun _ i _ => (intOf i).toNat)
 case atStart => exact ⟨n, 0, [], by omega, rfl, rfl, rfl, Nat.le_refl _, Lib.hid (by simp [val]), HA0, hA1, HG1⟩
 case round =>
  clear HA0 hA1 HG1
  obtain ⟨m, j, t, hj, rfl, rfl, htl, hmn, HV, HA0, HA1, HG⟩ := hrel
  by_cases h1 : j < 8
  ·
   have hc := uT HA1.out (31 - j) (by simp; omega)
   have hf := zO HA1.out (31 - j)
   have hz : (List.replicate (32 - j) (0 : UInt8) ++ t)[31 - j]'(by simp; omega) = 0 := by
    rw [List.getElem_append_left (by simp; omega), List.getElem_replicate]
   rw [hz] at hc
   have hc2 : wr.cell? ⟨w.heap.size + 1, 31 - j, none⟩ = some (.int .u8 0) := hc
   have hst := xg HA1.out (31 - j) (UInt8.ofNat m)
   rw [show 32 - j = 31 - j + 1 by omega] at hst
   have hset : (List.replicate (31 - j + 1) (0 : UInt8) ++ t).set (31 - j) (UInt8.ofNat m) = List.replicate (31 - j) 0 ++ UInt8.ofNat m :: t := Lp _ _ _
   rw [hset, ← Jy] at hst
   have HST := Lib.hid hst
   have HV2 := Lib.hid (TR n m j t htl HV.out)
   clear hc hz hst hset
   have hlow := sO m
   go_wp2_with fail
   go_roundw
   case rel =>
    refine ⟨m / 256, j + 1, UInt8.ofNat m :: t, by omega, by go_num, by go_num, by simp [htl], by omega, HV2, ?_, ?_, ?_⟩
    · exact Lib.hid ((heap_setCell_other _ _ _ _ (by simp)).trans HA0.out)
    ·
     rw [show 32 - (j + 1) = 31 - j by omega]
     exact HST
    · exact Lib.hid (HG.out.setCell (by simp) _)
   case measure => simp [intOf]; omega
  ·
   obtain rfl : j = 8 := by omega
   have hm0 : m = 0 := by
    have := HV.out
    rcases Nat.eq_zero_or_pos m with h | h
    · exact h
    ·
     have h2 : 1 * 256 ^ 8 ≤ m * 256 ^ 8 := Nat.mul_le_mul_right _ h
     omega
   subst hm0
   have HVAL : Hid (List.replicate 24 0 ++ t = ofN n) := Lib.hid (Ul _ n (by simp [htl]) (by rw [Ap, ← HV.out]; simp))
   have HA1b : Hid (Arr wr (w.heap.size + 1) 29 (List.replicate 24 0 ++ t)) := HA1
   clear HA1 h1 HV
   go_wp2_with fail
   obtain ⟨wq, hwq⟩ : ∃ wq : World, wq = wr := ⟨_, rfl⟩
   rw [← hwq] at HA0 HA1b HG ⊢
   go_loopw [5] (fun i wr => ∃ k : Nat, k ≤ 24 ∧ i = .int .i64 k ∧ Hid (Arr wr w.heap.size 29 zero32) ∧ Hid (Arr wr (w.heap.size + 1) 29 (List.replicate 24 0 ++ t)) ∧ Hid (Gr w wr)) (fun i _ => 24 - (intOf i).toNat)
   case atStart => exact ⟨0, by omega, rfl, HA0, HA1b, HG⟩
   case round =>
    clear HA0 HA1b HG
    obtain ⟨k, hk, rfl, HA0, HA1, HG⟩ := hrel
    by_cases h2 : k < 24
    ·
     have hc := uT HA1.out k (by simp; omega)
     have hf := zO HA1.out k
     have hst := xg HA1.out k 0
     have hset : (List.replicate 24 (0 : UInt8) ++ t).set k 0 = List.replicate 24 0 ++ t := by
      rw [List.set_append_left _ _ (by simp; omega)]
      congr 1
      apply List.ext_getElem (by simp)
      intro q h3 h4
      rw [List.getElem_set]
      split
      · rw [List.getElem_replicate]
      · rfl
     rw [hset] at hst
     have HST := Lib.hid hst
     have hlow := sO 0
     clear hst hset
     go_wp2_with fail
     go_roundw
     case rel =>
      exact ⟨k + 1, by omega, by go_num, Lib.hid ((heap_setCell_other _ _ _ _ (by simp)).trans HA0.out), HST, Lib.hid (HG.out.setCell (by simp) _)⟩
     case measure => simp [intOf]; omega
    ·
     have h32 : (List.replicate 24 (0 : UInt8) ++ t).length = 32 := by simp [htl]
     go_wp2_with first
      | (guard_target = wpList _ _ _ (Oper.mk _ (Op.load _ _) _ _ _ _ :: _) _ _; refine wpList_load_row rfl 29 (.tmp 3) rfl (w.heap.size + 1) rfl 29 (bvs (List.replicate 24 (0 : UInt8) ++ t)).toArray (0, 0) _ HA1.out rfl rfl (zN _ h32) ?_)
      | (guard_target = wpList _ _ _ (Oper.mk _ (Op.store _ _ _) _ _ _ _ :: _) _ _; refine wpList_store_row rfl 29 (.tmp 2) (.tmp 26) rfl w.heap.size (bvs (List.replicate 24 (0 : UInt8) ++ t)).toArray rfl rfl 29 _ HA0.out (zN _ h32) (by rw [Ht _ h32]; rfl) (SI _) ?_)
     refine bodyPost_ret (Ae rfl _ _ w.heap.size 29 (List.replicate 24 (0 : UInt8) ++ t) rfl (JD HA0.out) h32) rfl ⟨_, rfl, iQ HG.out _ _ (Nat.le_refl _), ?_⟩
     unfold eqV
     rw [HVAL.out]
theorem Q5 (n : Int) (w : World) (h1 : -9223372036854775808 ≤ n) (h2 : n ≤ 9223372036854775807) : Calls Tryz.prog 158 #[.int .i64 n] w (Ret (fun v w' => je (fun k => w.heap.size ≤ k ∧ k < w'.heap.size) w' v (.mk false (be n.toNat) [])) w) := by
 have hbig : ∀ w : World, Calls Tryz.prog 196 #[.int .i64 n] w (Ret (fun v w' => OwnB w' w.heap.size v (be n.toNat)) w) := fun w => by
  by_cases h : 0 ≤ n
  ·
   obtain ⟨m, rfl⟩ := Int.eq_ofNat_of_zero_le h
   exact xG m w (by omega)
  ·
   have := Fe n w h1 (by omega)
   rw [show n.toNat = 0 by omega, qX]
   exact this
 go_enter Tryz.func158, Tryz.ntmps158
 go_wp2_with first
  | (go_at_call 196; refine (hbig _).mono ?_; rintro e w2 ⟨v2, rfl, hg2, ho2⟩; have HB2 := Lib.hid (pY ho2); obtain ⟨A2, c2, rfl, _⟩ := dB ho2; have HG2 := Lib.hid ((aC w _).trans hg2); have HR2 := Lib.hid ((hg2.block _ (by simp)).trans (heap_alloc_new w (.cells #[.bool false, .slice none 0 0, .slice none 0 0] 157))); clear hg2 ho2)
  | (guard_target = wpList _ _ _ (Oper.mk _ (Op.store _ _ _) _ _ _ _ :: _) _ _; refine wpList_store_row rfl 157 (.tmp 2) (.tmp 5) rfl w.heap.size _ rfl rfl 157 _ HR2.out (by kernel_rfl) rfl (by simp [Value.oneCell']) ?_)
 refine bodyPost_ret (fQ rfl _ _ w.heap.size _ rfl (dG _ _ _ _ _ HR2.out) rfl) rfl ⟨_, rfl, iQ HG2.out _ _ (by omega), ?_⟩
 exact kZ (HB2.out.mono (fun b hb => ⟨by have := hb.1; simp at this; omega, by rw [size_setRow]; have := hb.2; omega⟩) (fun p hp => jc (by have := hp.1; simp at this; omega)))
theorem Q8 (n : Int) (w : World) (h1 : -9223372036854775808 ≤ n) (h2 : n ≤ 9223372036854775807) : Calls Tryz.prog 152 #[.int .i64 n] w (Ret (fun v w' => je (fun k => w.heap.size ≤ k ∧ k < w'.heap.size) w' v (.mk false (be n.toNat) [])) w) := by
 have hl : (ofN n.toNat).length = 32 := Ja _ (Nat.le_trans (gU 8 _ (by omega)) (by omega))
 have HS : Hid (strip (ofN n.toNat) = be n.toNat) := Lib.hid (Em _ _ (by unfold ofN pad; rw [Ap, Ib]))
 have HOF : Hid (∀ w : World, Calls Tryz.prog 18 #[.int .i64 (n.toNat : Int)] w (Ret (eqV (gG (ofN n.toNat))) w)) := Lib.hid fun w => Uh _ (by omega) w
 generalize ofN n.toNat = l at hl HS HOF
 have HBG := Lib.hid (fun w => JW l hl w)
 generalize be n.toNat = bn at HS ⊢
 clear hl
 by_cases h : 0 ≤ n
 ·
  obtain ⟨m, rfl⟩ := Int.eq_ofNat_of_zero_le h
  simp only [Int.toNat_natCast] at HOF
  clear h h1
  go_enter Tryz.func152, Tryz.ntmps152
  go_wp2_with first
   | (go_at_call 18; refine (HOF.out _).mono ?_; rintro e w2 ⟨v2, rfl, hg2, rfl⟩; have HG2 := Lib.hid ((aC w _).trans hg2); have hs2 := hg2.size; have HR2 := Lib.hid ((hg2.block _ (by simp)).trans (heap_alloc_new w (.cells #[.bool false, .slice none 0 0, .slice none 0 0] 157))); clear hg2)
   | (go_at_call 100; refine (HBG.out _).mono ?_; rintro e w3 ⟨v3, rfl, hg3, hv3⟩; have HI3 := Lib.hid hv3; obtain ⟨cs3, rfl, hat3⟩ := hv3; obtain ⟨b3, A4, n4, c4, A5, n5, c5, rfl⟩ := hat3.len; have HG3 := Lib.hid (HG2.out.trans hg3); have HR3 := Lib.hid ((hg3.block _ (lt_of_some HR2.out)).trans HR2.out); clear hg3 hat3)
   | (guard_target = wpList _ _ _ (Oper.mk _ (Op.store _ _ _) _ _ _ _ :: _) _ _; refine wpList_store_row rfl 157 (.tmp 2) (.tmp 7) rfl w.heap.size _ rfl rfl 157 _ HR3.out (by kernel_rfl) rfl (by simp [Value.oneCell']) ?_)
  refine bodyPost_ret (fQ rfl _ _ w.heap.size _ rfl (dG _ _ _ _ _ HR3.out) rfl) rfl ⟨_, rfl, iQ HG3.out _ _ (by omega), ?_⟩
  rw [← HS.out]
  exact HI3.out.mono (fun b hb => ⟨by have := hb.1; simp at hs2; omega, by rw [size_setRow]; have := hb.2; omega⟩) (fun p hp => jc (by have := hp.1; simp at hs2; omega))
 ·
  have h3 : n < 0 := by omega
  have h0 : n.toNat = 0 := by omega
  rw [h0] at HOF
  clear h h0
  go_enter Tryz.func152, Tryz.ntmps152
  go_wp2_with first
   | (go_at_call 18; refine (HOF.out _).mono ?_; rintro e w2 ⟨v2, rfl, hg2, rfl⟩; have HG2 := Lib.hid ((aC w _).trans hg2); have hs2 := hg2.size; have HR2 := Lib.hid ((hg2.block _ (by simp)).trans (heap_alloc_new w (.cells #[.bool false, .slice none 0 0, .slice none 0 0] 157))); clear hg2)
   | (go_at_call 100; refine (HBG.out _).mono ?_; rintro e w3 ⟨v3, rfl, hg3, hv3⟩; have HI3 := Lib.hid hv3; obtain ⟨cs3, rfl, hat3⟩ := hv3; obtain ⟨b3, A4, n4, c4, A5, n5, c5, rfl⟩ := hat3.len; have HG3 := Lib.hid (HG2.out.trans hg3); have HR3 := Lib.hid ((hg3.block _ (lt_of_some HR2.out)).trans HR2.out); clear hg3 hat3)
   | (guard_target = wpList _ _ _ (Oper.mk _ (Op.store _ _ _) _ _ _ _ :: _) _ _; refine wpList_store_row rfl 157 (.tmp 2) (.tmp 7) rfl w.heap.size _ rfl rfl 157 _ HR3.out (by kernel_rfl) rfl (by simp [Value.oneCell']) ?_)
  refine bodyPost_ret (fQ rfl _ _ w.heap.size _ rfl (dG _ _ _ _ _ HR3.out) rfl) rfl ⟨_, rfl, iQ HG3.out _ _ (by omega), ?_⟩
  rw [← HS.out]
  exact HI3.out.mono (fun b hb => ⟨by have := hb.1; simp at hs2; omega, by rw [size_setRow]; have := hb.2; omega⟩) (fun p hp => jc (by have := hp.1; simp at hs2; omega))
end Go.Proofs.YtiledgojbpmoiaaGreat
namespace Go.Proofs.YtiledgojbpmoiaaGreat
set_option linter.unusedVariables false
open Go.RowKit Mono Rlp
namespace E
theorem yN {ok : Nat → Prop} {w w' : World} {x : Raw} {v : Value} (h : qH w.heap.size x v w') : bW (fun b => (ok b ∨ w.heap.size ≤ b) ∧ b < w'.heap.size) w' (oW (packed x)) v := by
 unfold qH at h
 unfold oW
 cases hp : packed x with
 | none =>
  rw [hp] at h
  rw [h]
  exact Vu (jr rfl) (jr rfl)
 | some b =>
  rw [hp] at h
  obtain ⟨vb, rfl, ho⟩ := h
  have h1 := pY ho
  exact Vu ((cu rfl).2 (by rw [Reads]; exact ⟨_, rfl, h1.mono (fun b hb => qc b hb) fun _ _ => rfl⟩)) (jr rfl)
theorem Jp (x : Raw) : Fn 137 [bJ x] (· = oW (packed x)) := ⟨fun ok w xs hok hr => by
 obtain ⟨v, rfl, h⟩ := mQ hr
 refine (Oc v x w (BG hok h)).mono ?_
 rintro e w' ⟨v', rfl, hg, hv⟩
 exact ⟨hg, _, _, rfl, rfl, yN hv⟩⟩
theorem uK (x : Raw) : Fn 77 [bJ x] (· = oW (packed x)) := ⟨fun ok w xs hok hr => by
 obtain ⟨v, rfl, h⟩ := mQ hr
 refine (LH v x w (BG hok h)).mono ?_
 rintro e w' ⟨v', rfl, hg, hv⟩
 exact ⟨hg, _, _, rfl, rfl, yN hv⟩⟩
theorem VZ (n : Int) (h1 : -9223372036854775808 ≤ n) (h2 : n ≤ 9223372036854775807) : Fn 158 [.v (.int .i64 n)] (· = .val (bJ (.mk false (be n.toNat) []))) := ⟨fun ok w xs hok hr => by
 obtain ⟨v, rfl, h⟩ := mQ hr
 obtain rfl := (bf.1 h).2
 refine (Q5 n w h1 h2).mono ?_
 rintro e w' ⟨v', rfl, hg, hv⟩
 exact ⟨hg, _, _, rfl, rfl, lQ.2 (je.mono hv (fun b hb => qc b hb) fun _ _ => rfl)⟩⟩
theorem UR (n : Int) (h1 : -9223372036854775808 ≤ n) (h2 : n ≤ 9223372036854775807) : Fn 152 [.v (.int .i64 n)] (· = .val (bJ (.mk false (be n.toNat) []))) := ⟨fun ok w xs hok hr => by
 obtain ⟨v, rfl, h⟩ := mQ hr
 obtain rfl := (bf.1 h).2
 refine (Q8 n w h1 h2).mono ?_
 rintro e w' ⟨v', rfl, hg, hv⟩
 exact ⟨hg, _, _, rfl, rfl, lQ.2 (je.mono hv (fun b hb => qc b hb) fun _ _ => rfl)⟩⟩
theorem TG (l : List UInt8) (hl : l.length = 32) : Fn 159 [.arr 32 l] (· = .val (bJ (.mk false (strip l) []))) := ⟨fun ok w xs hok hr => by
 obtain ⟨v, rfl, h⟩ := mQ hr
 obtain ⟨_, rfl⟩ := qY h
 refine (Q7 l hl w).mono ?_
 rintro e w' ⟨v', rfl, hg, hv⟩
 exact ⟨hg, _, _, rfl, rfl, lQ.2 (je.mono hv (fun b hb => qc b hb) fun _ _ => rfl)⟩⟩
theorem PD (l : List UInt8) (hl : l.length = 32) : Fn 100 [.arr 32 l] (· = .val (bJ (.mk false (strip l) []))) := ⟨fun ok w xs hok hr => by
 obtain ⟨v, rfl, h⟩ := mQ hr
 obtain ⟨_, rfl⟩ := qY h
 refine (JW l hl w).mono ?_
 rintro e w' ⟨v', rfl, hg, hv⟩
 exact ⟨hg, _, _, rfl, rfl, lQ.2 (je.mono hv (fun b hb => qc b hb) fun _ _ => rfl)⟩⟩
theorem kN (l : List UInt8) : Fn 80 [.bs l] (· = .val (bJ (.mk false l []))) := by
 refine Fn.walk 5 Tryz.func80 rfl Tryz.ntmps80 (by simp) fun X => ?_
 repeat
  (first
   | (apply au; iterate 3 rfl) | (apply fE; iterate 7 rfl) | (apply aV; rfl; rfl; rfl; intro _)
   | (apply aO; rfl; (focus (repeat first | exact .z | apply aY.s | apply aN.s)); iterate 4 rfl) | apply EL.nil | ((with_reducible apply EK.ah); apply EK.code)
   | (with_reducible first | apply EC.seq | apply EC.region | apply EC.ret))
 refine EK.jF 0 rfl rfl rfl rfl ?_ rfl
 (exact RL.a)
theorem xP (xs : List Raw) : Fn 125 [.sl 3 (kS xs)] (· = .val (bJ (.mk true [] xs))) := by
 refine Fn.walk 5 Tryz.func125 rfl Tryz.ntmps125 (by simp) fun X => ?_
 repeat
  (first
   | (apply au; iterate 3 rfl) | (apply fE; iterate 7 rfl) | (apply aV; rfl; rfl; rfl; intro _)
   | (apply aO; rfl; (focus (repeat first | exact .z | apply aY.s | apply aN.s)); iterate 4 rfl) | apply EL.nil | ((with_reducible apply EK.ah); apply EK.code)
   | (with_reducible first | apply EC.seq | apply EC.region | apply EC.ret))
 refine EK.jF 0 rfl rfl rfl rfl ?_ rfl
 (exact RL.a)
end E
end Go.Proofs.YtiledgojbpmoiaaGreat
