/-
 Merged: lemmas of this claim.
 Conditions: none.
-/
import Derived.Test.YtelbhdobjdnglaaGreatZC16
import Derived.Test.YtelbhdobjdnglaaGreatZC15
import Derived.Test.YtelbhdobjdnglaaGreatZC12
import Derived.Test.YtelbhdobjdnglaaGreatZC7
import Derived.Test.YtelbhdobjdnglaaGreatZC8
import Derived.Test.YtelbhdobjdnglaaGreatZC13
import Derived.Test.YtelbhdobjdnglaaGreatZC5
import Derived.Lib.Bytealg
import Derived.Test.YtelbhdobjdnglaaGreatZC0
namespace Go.Proofs.YtelbhdobjdnglaaGreat
set_option linter.unusedVariables false
set_option maxRecDepth 20000
set_option maxHeartbeats 4000000
open Go.RowKit Mono Rlp
def qV (base : Nat) (r : Raw) : VP := fun v w => match packed r with
 | some b => ∃ vb, v = .tuple #[vb, .int .i64 0] ∧ OwnB w base vb b
 | none => v = .tuple #[.slice none 0 0, .int .i64 3]
theorem L8 {r : Raw} {b : List UInt8} (h : packed r = some b) : b = E r ∧ b.length ≤ most := by
 unfold packed at h
 cases hm : meas r 0 with
 | none => rw [hm] at h; cases h
 | some n =>
  rw [hm] at h
  dsimp only at h
  split at h
  · cases h
  ·
   cases h
   have := DK r 0 n hm
   exact ⟨rfl, by omega⟩
theorem Om (v : Value) (x : Raw) (w : World) (h : jl w v x) : Calls Tryz.prog 150 #[v] w (Ret (fun v w' => qV w.heap.size x v w') w) := by
 have hx := h
 obtain ⟨lst, bs, xs⟩ := x
 obtain ⟨vb, vl, rfl, ⟨A9, c9, rfl, _⟩, A, c, rows, rfl, _⟩ := eX h
 clear h
 generalize hr : Raw.mk lst bs xs = r at hx ⊢
 have HX := Lib.hid hx
 clear hx
 go_enter Tryz.func150, Tryz.ntmps150
 go_wp2_with fail
 refine (yH _ r _ (HX.out.gr (au w _))).mono ?_
 rintro e w1 ⟨v1, rfl, hg1, ho1⟩
 have HG1 := Lib.hid ((au w _).trans hg1)
 have HO1 := Lib.hid ho1
 clear hg1 ho1 HX
 go_wp2_with fail
 refine (wO 32 0 rfl r v1 _ HO1.out).mono ?_
 rintro e w2 ⟨v2, rfl, hg2, hm2⟩
 have HG2 := Lib.hid (HG1.out.trans hg2)
 have HO2 := Lib.hid (HO1.out.gr hg2)
 unfold xq at hm2
 clear hg2 HO1 HG1 hr
 cases hmx : meas r 0 with
 | none =>
  rw [hmx] at hm2
  obtain ⟨z, rfl⟩ := hm2
  have HP := Lib.hid (show packed r = none by unfold packed; rw [hmx])
  clear hmx
  go_wp2_with fail
  refine bodyPost_ret (results_tmp2 rfl _ _ _) rfl ?_
  refine ⟨_, rfl, HG2.out, ?_⟩
  unfold qV
  rw [HP.out]
  rfl
 | some n =>
  rw [hmx] at hm2
  dsimp only at hm2
  subst hm2
  have hn := JM _ _ _ hmx
  simp only [most] at hn
  by_cases h3 : n > most
  ·
   have HP := Lib.hid (show packed r = none by unfold packed; rw [hmx]; dsimp only; rw [if_pos h3])
   simp only [most] at h3
   clear hmx
   go_wp2_with fail
   refine bodyPost_ret (results_tmp2 rfl _ _ _) rfl ?_
   refine ⟨_, rfl, HG2.out, ?_⟩
   unfold qV
   rw [HP.out]
   rfl
  ·
   have HP := Lib.hid (show packed r = some (E r) by unfold packed; rw [hmx]; dsimp only; rw [if_neg h3])
   have hl := (L8 HP.out).2
   simp only [most] at h3
   have h4 : n ≤ 16777216 := by omega
   clear hmx h3
   go_wp2_with fail
   refine (Bg _ r v1 _ (Nat.lt_succ_self _) hl HO2.out).mono ?_
   rintro e w3 ⟨v3, rfl, hg3, ho3⟩
   have HG3 := Lib.hid (HG2.out.trans hg3)
   have HO3 := Lib.hid (own_base ho3 HG2.out.size)
   clear hg3 ho3
   go_wp2_with fail
   refine bodyPost_ret (results_tmp2 rfl _ _ _) rfl ?_
   refine ⟨_, rfl, HG3.out, ?_⟩
   unfold qV
   rw [HP.out]
   exact ⟨v3, rfl, HO3.out⟩
theorem IE {w w0 : World} {B g : Nat} (b : UInt8) (h : w = w0.alloc (.cells #[bv b] 5)) (hg : w0.heap.size = g) (hb : B ≤ w0.heap.size) : OwnB w B (.slice (some ⟨g, 0, none⟩) 1 1) [b] := by
 subst h
 unfold OwnB
 exact iT w0 #[bv b] 5 1 1 g B hg hb (by simp [maxLen]) (by simp)
def qW (B : Nat) (r : Raw) : VP := fun v w => match fD r with
 | some b => ∃ vb, v = .tuple #[vb, .bool true] ∧ OwnB w B vb b
 | none => v = .tuple #[.slice none 0 0, .bool false]
theorem mQ {B : Nat} {r : Raw} {b : List UInt8} {v vb : Value} {w : World} (h : fD r = some b) (hv : v = .tuple #[vb, .bool true]) (hb : OwnB w B vb b) : qW B r v w := by unfold qW; rw [h]; exact ⟨vb, hv, hb⟩
theorem qF {B : Nat} {r : Raw} {v : Value} {w : World} (h : fD r = none) (hv : v = .tuple #[.slice none 0 0, .bool false]) : qW B r v w := by unfold qW; rw [h]; exact hv
theorem xA (vb vl : Value) (bs : List UInt8) (xs : List Raw) (w : World) (hv : IsB w vb bs) (hvl : ∃ A n c, vl = .slice A n c) : Calls Tryz.prog 121 #[.agg #[.bool false, vb, vl]] w (Ret (qW w.heap.size (.mk false bs xs)) w) := by
 obtain ⟨A, c, rfl, hc1, hc2, hr⟩ := hv
 obtain ⟨A9, n9, c9, rfl⟩ := hvl
 have HR := Lib.hid (hr.gr (au w (.cells #[.bool false, .slice A bs.length c, .slice A9 n9 c9] 138)))
 unfold maxLen at hc2
 by_cases h0 : bs.length ≤ most
 ·
  simp only [most] at h0
  by_cases h1 : bs.length = 1
  ·
   obtain ⟨b, rfl⟩ := Yf.1 h1
   obtain ⟨bl, o, rfl, hbl, hcell⟩ := hr (by simp [bvs])
   have e1 := hcell 0 (bv b) rfl
   rw [XI] at e1
   unfold bv at e1
   clear hcell h1 hr
   have hbl2 := jh b
   simp only [List.length_singleton] at hc1 ⊢
   by_cases h2 : b < 128
   ·
    have h3 : b.toNat < 128 := Xe.1 h2
    have HM := Lib.hid (show fD (.mk false [b] xs) = some [b] by rw [fD, if_neg (by simp [most]), EB, if_pos ⟨rfl, h2⟩])
    clear h2
    go_enter Tryz.func121, Tryz.ntmps121
    go_wp2_with fail
    refine bodyPost_ret (results_tmp2 rfl _ _ _) rfl ?_
    refine ⟨_, rfl, (au w _).trans (au _ _), mQ HM.out rfl ?_⟩
    exact IE (g := w.heap.size + 1) b rfl (by simp) (au w _).size
   ·
    have h3 : 128 ≤ b.toNat := Yw.1 fun e => h2 (Xe.2 e)
    have HM := Lib.hid (show fD (.mk false [b] xs) = some (head 1 128 ++ [b]) by rw [fD, if_neg (by simp [most]), EB, if_neg (fun h => h2 h.2)]; rfl)
    clear h2
    go_enter Tryz.func121, Tryz.ntmps121
    go_wp2_with fail
    refine (yK 1 128 _ (by omega) (by omega)).mono ?_
    rintro e w1 ⟨v1, rfl, hg1, ho1⟩
    obtain ⟨A1, c1, rfl, hd1, hd2⟩ := dB ho1
    have hhl : (head 1 128).length + 1 ≤ 16777225 := by rw [jI]; exact vw 1 (by simp only [most]; omega)
    have HO1 := Lib.hid ho1
    have HG1 := Lib.hid ((au w _).trans hg1)
    have HR1 := Lib.hid (HR.out.gr hg1)
    have hz1 := HG1.out.size
    unfold maxLen at hd2
    unfold OwnB at HO1
    generalize head 1 128 = hd at HM HO1 hhl hd1 ⊢
    clear ho1 hg1
    go_wp2_with (at_builtin; refine bn (.tmp 32) (.tmp 33) 38 cu (base := w.heap.size) _ hd.length (bvs hd) _ 1 c _ (bvs [b]) rfl rfl rfl rfl (own_base HO1.out (by simp)) HR1.out (by simp [bvs]) (dR _) (by simp only [maxLen]; omega) (by omega) (by omega) ?_; intro A2 c2 w2 hown2 hg2 _)
    refine bodyPost_ret (results_tmp2 rfl _ _ _) rfl ?_
    refine ⟨_, rfl, HG1.out.grown hg2 (by omega) fun j hj => bP (own_base HO1.out (by simp)) j hj, mQ HM.out rfl ?_⟩
    unfold OwnB; rw [List.length_append, iF]; exact hown2
  ·
   have hd : ((bs.length : Int) == 1) = false := by simp; omega
   have HM := Lib.hid (show fD (.mk false bs xs) = some (head bs.length 128 ++ bs) by rw [fD, if_neg (by simp only [most]; omega), EB, if_neg (fun h => h1 h.1)])
   clear h1 hr
   go_enter Tryz.func121, Tryz.ntmps121
   go_wp2_with fail
   refine (yK bs.length 128 _ (by omega) (by omega)).mono ?_
   rintro e w1 ⟨v1, rfl, hg1, ho1⟩
   obtain ⟨A1, c1, rfl, hd1, hd2⟩ := dB ho1
   have hhl : (head bs.length 128).length + bs.length ≤ 16777225 := by rw [jI]; exact vw bs.length (by simp only [most]; omega)
   have HO1 := Lib.hid ho1
   have HG1 := Lib.hid ((au w _).trans hg1)
   have HR1 := Lib.hid (HR.out.gr hg1)
   have hz1 := HG1.out.size
   unfold maxLen at hd2
   unfold OwnB at HO1
   generalize head bs.length 128 = hd at HM HO1 hhl hd1 ⊢
   clear ho1 hg1
   go_wp2_with (at_builtin; refine bn (.tmp 32) (.tmp 33) 38 cu (base := w.heap.size) _ hd.length (bvs hd) _ bs.length c _ (bvs bs) rfl rfl rfl rfl (own_base HO1.out (by simp)) HR1.out (by simp [bvs]) (dR _) (by simp only [maxLen]; omega) (by omega) (by omega) ?_; intro A2 c2 w2 hown2 hg2 _)
   refine bodyPost_ret (results_tmp2 rfl _ _ _) rfl ?_
   refine ⟨_, rfl, HG1.out.grown hg2 (by omega) fun j hj => bP (own_base HO1.out (by simp)) j hj, mQ HM.out rfl ?_⟩
   unfold OwnB; rw [List.length_append, iF]; exact hown2
 ·
  have h3 : 16777216 < bs.length := by simp only [most] at h0; omega
  have HM := Lib.hid (show fD (.mk false bs xs) = none by rw [fD, if_pos (by omega)])
  clear h0 hr
  go_enter Tryz.func121, Tryz.ntmps121
  go_wp2_with fail
  refine bodyPost_ret (results_tmp2 rfl _ _ _) rfl ?_
  exact ⟨_, rfl, au w _, qF HM.out rfl⟩
theorem Bj : ∀ (n : Nat) (r : Raw) (v : Value) (w : World), cnt r < n → jl w v r → Calls Tryz.prog 121 #[v] w (Ret (qW w.heap.size r) w)
 | 0, r, v, w, hn, _ => by omega
 | n + 1, .mk false bs xs, v, w, hn, h => by
  obtain ⟨vb, vl, rfl, h1, A, c, _, rfl, _⟩ := eX h
  exact xA vb _ bs xs w h1 ⟨_, _, _, rfl⟩
 | n + 1, .mk true bs xs, v, w, hn, h => by
  have ih := Lib.hid (Bj n)
  obtain ⟨vb, vl, rfl, ⟨A9, c9, rfl, _⟩, A, c, rows, rfl, hc1, hc2, _, hr, hi⟩ := eX h
  have HR := Lib.hid hr
  have HI := Lib.hid hi
  have hd := Lib.hid (show fD (.mk true bs xs) = (fQ xs []).map fun l => head l.length 192 ++ l by rw [fD])
  rw [cnt] at hn
  unfold maxLen at hc2
  clear h hr hi
  go_enter Tryz.func121, Tryz.ntmps121
  go_wp2_with fail
  go_loopw [5, 6] (fun ov i wr => ∃ (k : Nat) (acc : List UInt8), k ≤ xs.length ∧ i = .int .i64 k ∧ fQ xs [] = fQ (xs.drop k) acc ∧ acc.length ≤ 16777216 ∧ OwnB wr (w.heap.size + 1) ov acc ∧ Gr (w.alloc (.cells #[.bool true, .slice A9 bs.length c9, .slice A xs.length c] 138)) wr) (fun _ i _ => xs.length - (intOf i).toNat)
  case atStart => exact ⟨0, [], by omega, rfl, rfl, by simp, OwnB.nil _ _, Gr.refl _⟩
  case round =>
   obtain ⟨k, acc, hk, rfl, hM, hal, hown, hb⟩ := hrel
   obtain ⟨A3, c3, rfl, hd1, hd2⟩ := dB hown
   have HM := Lib.hid hM
   have HO := Lib.hid hown
   have HB := Lib.hid hb
   have hbs := hb.size
   have hcl := hb.cell (p := ⟨w.heap.size, 2, none⟩) (by simp)
   have hcl2 : (w.alloc (.cells #[.bool true, .slice A9 bs.length c9, .slice A xs.length c] 138)).cell? ⟨w.heap.size, 2, none⟩ = some (.slice A xs.length c) := by rw [cell_of_row _ _ _ _ _ (0, 0) (heap_alloc_new w _)]; rfl
   rw [hcl2] at hcl
   simp only [dA] at hbs
   unfold maxLen at hd2
   clear hM hown hb hcl2
   by_cases h1 : k < xs.length
   ·
    obtain ⟨bl, o, f, vb', vl, rfl, hbl, e1, e2, e3, hx, ⟨A2, n2, c2, rfl⟩, A', n', c', rfl⟩ := uH HR.out HI.out k h1
    have e1' := (((au w _).trans HB.out).cell (p := ⟨bl, o + k * 3, none⟩) hbl).trans e1
    have e2' := (((au w _).trans HB.out).cell (p := ⟨bl, o + k * 3 + 1, none⟩) hbl).trans e2
    have e3' := (((au w _).trans HB.out).cell (p := ⟨bl, o + k * 3 + 2, none⟩) hbl).trans e3
    have HX := Lib.hid (hx.gr ((au w _).trans HB.out))
    have hdk : xs.drop k = xs[k] :: xs.drop (k + 1) := Xn h1
    have hcnt := Kt xs k h1
    have HM2 := Lib.hid (show fQ xs [] = match fD xs[k] with | none => none | some b => if acc.length + b.length > most then none else fQ (xs.drop (k + 1)) (acc ++ b) by
     rw [HM.out, hdk, fQ]
     cases fD xs[k] <;> rfl)
    clear e1 e2 e3 hx hdk HM
    go_wp2_with fail
    refine (ih.out xs[k] _ _ (by omega) HX.out).mono ?_
    rintro e w1 ⟨v1, rfl, hg1, hp1⟩
    have HG1 := Lib.hid (HB.out.trans hg1)
    have HO1 := Lib.hid (o7 HO.out hg1)
    have hz1 := HG1.out.size
    simp only [dA] at hz1
    unfold qW at hp1
    clear hg1 e1' e2' e3' hcl HO hcnt
    cases hpx : fD xs[k] with
    | none =>
     rw [hpx] at HM2 hp1
     dsimp only at hp1
     subst hp1
     have HM3 := Lib.hid (show fD (.mk true bs xs) = none by rw [hd.out, HM2.out]; rfl)
     clear HM2 hpx
     go_wp2_with fail
     refine bodyPost_ret (results_tmp2 rfl _ _ _) rfl ?_
     exact ⟨_, rfl, (au w _).trans HG1.out, qF HM3.out rfl⟩
    | some bx =>
     rw [hpx] at HM2 hp1
     obtain ⟨vbx, rfl, hown4⟩ := hp1
     obtain ⟨A4, c4, rfl, he1, he2, hr4⟩ := hown4.isB
     clear hown4
     have HR4 := Lib.hid hr4
     have hbx := Fg _ _ hpx
     simp only [most] at hbx
     unfold maxLen at he2
     clear hr4 hpx
     by_cases h3 : acc.length + bx.length > 16777216
     ·
      have HM3 := Lib.hid (show fD (.mk true bs xs) = none by rw [hd.out, HM2.out]; dsimp only; rw [if_pos h3]; rfl)
      clear HM2
      go_wp2_with fail
      refine bodyPost_ret (results_tmp2 rfl _ _ _) rfl ?_
      exact ⟨_, rfl, (au w _).trans HG1.out, qF HM3.out rfl⟩
     ·
      have HM3 := Lib.hid (show fQ xs [] = fQ (xs.drop (k + 1)) (acc ++ bx) by rw [HM2.out]; dsimp only; rw [if_neg h3])
      clear HM2
      go_wp2_with (at_builtin; refine bn _ _ 38 cu _ _ _ _ _ _ _ (bvs bx) rfl rfl rfl rfl HO1.out HR4.out (by simp [bvs]) (dR _) (by simp only [maxLen]; omega) (by omega) (by omega) ?_; intro A5 c5 w5 hown5 hg5 _)
      go_roundw
      case rel =>
       refine ⟨k + 1, acc ++ bx, by omega, by go_num, HM3.out, by rw [List.length_append]; omega, ?_, ?_⟩
       ·
        unfold OwnB
        rw [List.length_append, iF]
        exact hown5
       · exact HG1.out.grown hg5 (by rw [dA]; omega) fun j hj => by rw [dA]; exact bP HO1.out j hj
      case measure => simp [intOf]; omega
   ·
    have h2 : xs.length ≤ k := by omega
    have HM2 := Lib.hid (show fD (.mk true bs xs) = some (head acc.length 192 ++ acc) by
     rw [hd.out, HM.out, Xt h2, fQ]
     rfl)
    clear h1 HM
    go_wp2_with fail
    refine (yK acc.length 192 _ (by omega) (by omega)).mono ?_
    rintro e w1 ⟨v1, rfl, hg1, ho1⟩
    obtain ⟨A1, c1, rfl, he1, he2⟩ := dB ho1
    have hhl : (head acc.length 192).length + acc.length ≤ 16777225 := by rw [jI]; exact vw _ (by simp only [most]; omega)
    obtain ⟨_, _, he, _, _, hrd⟩ := OwnB.isB HO.out
    injection he with he3 _ he4
    subst he3 he4
    have HRD := Lib.hid (hrd.gr hg1)
    have HO1 := Lib.hid ho1
    have HG1 := Lib.hid (((au w _).trans HB.out).trans hg1)
    have hz1 := HG1.out.size
    unfold maxLen at he2
    unfold OwnB at HO1
    generalize head acc.length 192 = hh at HM2 HO1 hhl he1 ⊢
    clear ho1 hg1 hrd
    go_wp2_with (at_builtin; refine bn (.tmp 66) (.tmp 67) 38 cu (base := w.heap.size) _ hh.length (bvs hh) _ acc.length _ _ (bvs acc) rfl rfl rfl rfl (own_base HO1.out (by omega)) HRD.out (by simp [bvs]) (dR _) (by simp only [maxLen]; omega) (by omega) (by omega) ?_; intro A2 c2 w2 hown2 hg2 _)
    refine bodyPost_ret (results_tmp2 rfl _ _ _) rfl ?_
    refine ⟨_, rfl, HG1.out.grown hg2 (by omega) fun j hj => bP (own_base HO1.out (by omega)) j hj, mQ HM2.out rfl ?_⟩
    unfold OwnB; rw [List.length_append, iF]; exact hown2
theorem Lc (v : Value) (x : Raw) (w : World) (h : jl w v x) : Calls Tryz.prog 70 #[v] w (Ret (fun v w' => qV w.heap.size x v w') w) := by
 have hx := h
 obtain ⟨lst, bs, xs⟩ := x
 obtain ⟨vb, vl, rfl, ⟨A9, c9, rfl, _⟩, A, c, rows, rfl, _⟩ := eX h
 clear h
 generalize hr : Raw.mk lst bs xs = r at hx ⊢
 have hpr := tu r
 have HX := Lib.hid (hx.gr (au w (.cells #[.bool lst, .slice A9 bs.length c9, .slice A xs.length c] 138)))
 have hdl := zK 32 r
 clear hx hr
 go_enter Tryz.func70, Tryz.ntmps70
 go_wp2_with fail
 refine (EY 32 r _ _ (Nat.le_refl _) HX.out).mono ?_
 rintro e w1 ⟨_, rfl, hg1, rfl⟩
 have HG1 := Lib.hid ((au w _).trans hg1)
 have HX1 := Lib.hid (HX.out.gr hg1)
 have e0 := hg1.cell (p := ⟨w.heap.size, 0, none⟩) (by simp)
 have e1 := hg1.cell (p := ⟨w.heap.size, 1, none⟩) (by simp)
 have e2 := hg1.cell (p := ⟨w.heap.size, 2, none⟩) (by simp)
 rw [cell_of_row (w.alloc _) _ _ _ _ (0, 0) (heap_alloc_new w _)] at e0 e1 e2
 simp at e0 e1 e2
 clear hg1 HX
 by_cases h3 : fE r 32 > 32
 ·
  have HP := Lib.hid (show packed r = none by rw [hpr, if_pos h3])
  clear hpr
  go_wp2_with fail
  refine bodyPost_ret (results_tmp2 rfl _ _ _) rfl ?_
  refine ⟨_, rfl, HG1.out, ?_⟩
  unfold qV
  rw [HP.out]
  rfl
 ·
  rw [if_neg h3] at hpr
  have HPR := Lib.hid hpr
  have h4 : fE r 32 ≤ 32 := by omega
  clear h3 hpr
  go_wp2_with fail
  refine (Bj _ r _ _ (Nat.lt_succ_self _) HX1.out).mono ?_
  rintro e w2 ⟨v2, rfl, hg2, hp2⟩
  have HG2 := Lib.hid (HG1.out.trans hg2)
  unfold qW at hp2
  clear hg2 HX1 e0 e1 e2
  cases hpx : fD r with
  | none =>
   rw [hpx] at hp2 HPR
   dsimp only at hp2
   subst hp2
   have HP := Lib.hid (show packed r = none from HPR.out)
   clear hpx HPR
   go_wp2_with fail
   refine bodyPost_ret (results_tmp2 rfl _ _ _) rfl ?_
   refine ⟨_, rfl, HG2.out, ?_⟩
   unfold qV
   rw [HP.out]
   rfl
  | some b =>
   rw [hpx] at hp2 HPR
   obtain ⟨vb2, rfl, hown4⟩ := hp2
   obtain ⟨A4, c4, rfl, he1, he2, hr4⟩ := hown4.isB
   have HO4 := Lib.hid (own_base hown4 (base' := w.heap.size) HG1.out.size)
   clear hown4
   have hbx := Fg _ _ hpx
   simp only [most] at hbx
   have HR4 := Lib.hid hr4
   have he2' := Lib.hid he2
   unfold maxLen at he2
   clear hr4 hpx
   by_cases h5 : b.length > most
   ·
    have HP := Lib.hid (show packed r = none by rw [HPR.out]; dsimp only; rw [if_pos h5])
    simp only [most] at h5
    clear HPR
    go_wp2_with fail
    refine bodyPost_ret (results_tmp2 rfl _ _ _) rfl ?_
    refine ⟨_, rfl, HG2.out, ?_⟩
    unfold qV
    rw [HP.out]
    rfl
   ·
    have HP := Lib.hid (show packed r = some b by rw [HPR.out]; dsimp only; rw [if_neg h5])
    have h6 : b.length ≤ 16777216 := by simp only [most] at h5; omega
    clear HPR h5
    go_wp2_with fail
    refine bodyPost_ret (results_tmp2 rfl _ _ _) rfl ?_
    refine ⟨_, rfl, HG2.out, ?_⟩
    unfold qV
    rw [HP.out]
    exact ⟨_, rfl, HO4.out⟩
theorem zU {w : World} {g : Nat} {t : TypeId} {l : List UInt8} (h : Arr w g t l) (k : Nat) (hk : k < l.length) : w.cell? ⟨g, k, none⟩ = some (.int .u8 (l[k].toNat : Int)) := by
 rw [cell_of_row w g k _ t (0, 0) h]
 simp [bvs, bv, hk]
set_option maxRecDepth 100000 in
theorem oQ (w : World) (l : List UInt8) : (Instr.box 29 (dG l)).run Tryz.prog w = .ok (.pointer (some ⟨w.heap.size, 0, none⟩)) (w.alloc (.cells (bvs l).toArray 29)) := by kernel_rfl
theorem CY {w : World} {ops : Array Oper} {rest : List Oper} {o : Oper} {a : Act} {Q : Exit → Act → World → Prop} (g : Nat) (hg : w.heap.size = g) (x : Operand) (l : List UInt8) (hgd : o.guard = none) (ho : o.op = .box 29 x) (hx : a.eval x = dG l)
  (h : ∀ w', Hid (Arr w' g 29 l) → Hid (Gr w w') → w'.heap.size = g + 1 → wpList Tryz.prog ops Q rest (a.put o.dst (.pointer (some ⟨g, 0, none⟩))) w') : wpList Tryz.prog ops Q (o :: rest) a w := by
 subst hg
 refine wpList_plain hgd fun _ hK => ?_
 have h1 := hK _ _ (h _ (Lib.hid (heap_alloc_new w _)) (Lib.hid (au w _)) (by simp))
 unfold Oper.wp execOp
 simp only [ho, hx, WX, oQ, WV, Xc]
 exact h1
theorem S9 (l : List UInt8) (k : Nat) (hk : k < l.length) : ((l[k].toNat : Int) == 0) = decide (l[k] = 0) := by
 rw [Bool.eq_iff_iff, beq_iff_eq, decide_eq_true_eq]
 constructor
 ·
  intro e
  exact XR.1 (by rw [show (0 : UInt8).toNat = 0 from rfl]; omega)
 ·
  intro e
  rw [e]
  rfl
def ofN (n : Nat) : List UInt8 := pad (be n)
end Go.Proofs.YtelbhdobjdnglaaGreat
namespace Go.Proofs.YtelbhdobjdnglaaGreat
set_option linter.unusedVariables false
set_option maxRecDepth 20000
set_option maxHeartbeats 8000000
open Go.RowKit Mono Rlp
namespace E
theorem yX {ok : Nat → Prop} {w w' : World} {x : Raw} {v : Value} (h : qV w.heap.size x v w') : bU (fun b => (ok b ∨ w.heap.size ≤ b) ∧ b < w'.heap.size) w' (qG (packed x)) v := by
 unfold qV at h
 unfold qG
 cases hp : packed x with
 | none =>
  rw [hp] at h
  rw [h]
  exact Ez (iD rfl) (iD rfl)
 | some b =>
  rw [hp] at h
  obtain ⟨vb, rfl, ho⟩ := h
  have h1 := nI ho
  exact Ez ((dn rfl).2 (by rw [Reads]; exact ⟨_, rfl, h1.mono (fun b hb => y8 b hb) fun _ _ => rfl⟩)) (iD rfl)
theorem UO (x : Raw) : Fn 150 [aX x] (· = qG (packed x)) := ⟨fun ok w xs hok hr => by
 obtain ⟨v, rfl, h⟩ := jQ hr
 refine (Om v x w (lI hok h)).mono ?_
 rintro e w' ⟨v', rfl, hg, hv⟩
 exact ⟨hg, _, _, rfl, rfl, yX hv⟩⟩
theorem J8 (x : Raw) : Fn 70 [aX x] (· = qG (packed x)) := ⟨fun ok w xs hok hr => by
 obtain ⟨v, rfl, h⟩ := jQ hr
 refine (Lc v x w (lI hok h)).mono ?_
 rintro e w' ⟨v', rfl, hg, hv⟩
 exact ⟨hg, _, _, rfl, rfl, yX hv⟩⟩
theorem Gq (l : List UInt8) : Fn 85 [.bs l] (· = .val (aX (.mk false l []))) := by
 refine Fn.walk 5 Tryz.func85 rfl Tryz.ntmps85 (by simp) fun X => ?_
 repeat
  (first
   | (apply ak; iterate 3 rfl) | (apply dX; iterate 7 rfl) | (apply qY; iterate 5 rfl) | (apply aT; rfl; rfl; rfl; intro _)
   | (apply aO; rfl; exact saA; iterate 4 rfl) | ((with_reducible apply EK.h0); apply EK.round) | apply EL.nil
   | ((with_reducible apply EK.FU); rfl)
   | (with_reducible first | apply EK.nc | apply EC.seq | apply EC.r0 | apply EC.k0 | apply EC.label | apply EC.b0 | apply EC.x0 | apply EC.ret | apply EK.n0 | apply EK.s0 | apply EK.bK | apply EK.aB | apply EK.aJ))
 refine EK.yJ 0 rfl rfl rfl rfl ?_ rfl
 (exact RL.a)
theorem SB (xs : List Raw) : Fn 123 [.sl 3 (bG xs)] (· = .val (aX (.mk true [] xs))) := by
 refine Fn.walk 5 Tryz.func123 rfl Tryz.ntmps123 (by simp) fun X => ?_
 repeat
  (first
   | (apply ak; iterate 3 rfl) | (apply dX; iterate 7 rfl) | (apply qY; iterate 5 rfl) | (apply aT; rfl; rfl; rfl; intro _)
   | (apply aO; rfl; exact saA; iterate 4 rfl) | ((with_reducible apply EK.h0); apply EK.round) | apply EL.nil
   | ((with_reducible apply EK.FU); rfl)
   | (with_reducible first | apply EK.nc | apply EC.seq | apply EC.r0 | apply EC.k0 | apply EC.label | apply EC.b0 | apply EC.x0 | apply EC.ret | apply EK.n0 | apply EK.s0 | apply EK.bK | apply EK.aB | apply EK.aJ))
 refine EK.yJ 0 rfl rfl rfl rfl ?_ rfl
 (exact RL.a)
inductive Tn where
 | nil
 | leaf (p v : List UInt8)
 | ext (p : List UInt8) (k : Tn)
 | br (ks : Nat → Tn) (v : List UInt8)
def pkB (x : Raw) : List UInt8 := (packed x).getD []
def Ll (x : Raw) : Raw := if (pkB x).length < 32 then x else .mk false (hash (pkB x)) []
def Tn.isNil : Tn → Bool
 | .nil => true
 | _ => false
def sJ : Tn → Raw
 | .nil => .mk true [] []
 | .leaf p v => .mk true [] [.mk false (ppk p true) [], .mk false v []]
 | .ext p k => .mk true [] [.mk false (ppk p false) [], if k.isNil then .mk false [] [] else Ll (sJ k)]
 | .br ks v => .mk true [] ((List.range 16).map (fun i => if (ks i).isNil then .mk false [] [] else Ll (sJ (ks i))) ++ [.mk false v []])
def Lj (t : Tn) : Raw := if t.isNil then .mk false [] [] else Ll (sJ t)
def sumT (t : Tn) : List UInt8 := if t.isNil then iY else hash (pkB (sJ t))
def Tn.ok : Tn → Prop
 | .nil => True
 | .leaf p v => p.length ≤ 536870912
 | .ext p k => p.length ≤ 536870912 ∧ k.ok
 | .br ks v => ∀ i, (ks i).ok
theorem xO (T : TypeId) (d : D) : Bin .eql 110 (.ifc T d) (.v .nilIface) (.bool false) := by
 refine ⟨rfl, fun ok w p q hp hq => ?_⟩
 obtain rfl := (aY.1 hq).2
 obtain ⟨cs, h1, rfl⟩ := hp
 rw [Reads] at h1
 obtain ⟨cs', rfl, _⟩ := h1
 exact ⟨fun x y => by simp [eqGuard, form, D.agg], run_eql_held_nil _ _ _ _ (by kernel_rfl)⟩
theorem Qn : Bin .eql 110 (.v .nilIface) (.v .nilIface) (.bool true) := by
 refine ⟨rfl, fun ok w p q hp hq => ?_⟩
 obtain rfl := (aY.1 hp).2
 obtain rfl := (aY.1 hq).2
 exact ⟨fun x y => by cases x <;> cases y <;> kernel_rfl, by kernel_rfl⟩
theorem QZ {ds : List D} (v : List UInt8) (h : D.sizes ds = 16) : (D.tup [.tup ds, .bs v]).sub 0 16 true = some (.tup ds) := by
 simp [D.sub, D.Hr, D.size, D.sizes, h]
theorem QY {ds : List D} (v : List UInt8) (h : D.sizes ds = 16) : (D.tup [.tup ds, .bs v]).sub 16 1 false = some (.bs v) := by
 simp [D.sub, D.Hr, D.size, D.sizes, h]
def jw : Raw := .mk false [] []
def isL : Raw → Bool
 | .mk l _ _ => l
def bts : Raw → List UInt8
 | .mk _ b _ => b
def its : Raw → List Raw
 | .mk _ _ xs => xs
mutual
def dep : Raw → Nat
 | .mk _ _ xs => Ea xs + 1
def Ea : List Raw → Nat
 | [] => 0
 | x :: xs => max (dep x) (Ea xs)
end
theorem xK {x : Raw} : ∀ {xs : List Raw}, x ∈ xs → dep x ≤ Ea xs
 | y :: xs, h => by
  rw [Ea]
  rcases Xb.1 h with rfl | h
  · omega
  ·
   have := xK h
   omega
def rfB (N : Raw → Bool) (none : Bool) : Raw → Bool
 | .mk true b xs => decide ((pkB (.mk true b xs)).length < 32) && N (.mk true b xs)
 | .mk false b _ => decide (b.length = 32) || (none && decide (b.length = 0))
def some1 (x : Raw) : Bool := isL x || decide (0 < (bts x).length)
def brB (N : Raw → Bool) (xs : List Raw) : Bool := (xs.take 16).all (rfB N true) && !(isL (xs.getD 16 jw)) && decide (2 ≤ ((xs.take 16).filter some1).length + (if 0 < (bts (xs.getD 16 jw)).length then 1 else 0))
def prB (N : Raw → Bool) (a b : Raw) : Bool := !(isL a) && match rdP (bts a) with
 | none => false
 | some (p, true) => !(isL b) && decide (0 < (bts b).length)
 | some (p, false) => decide (0 < p.length) && rfB N false b && !(isL b && decide ((its b).length = 2))
def isN : Nat → Raw → Bool
 | 0, _ => false
 | _ + 1, .mk false _ _ => false
 | f + 1, .mk true _ xs => if xs.length = 17 then brB (isN f) xs else if xs.length = 2 then prB (isN f) (xs.getD 0 jw) (xs.getD 1 jw) else false
theorem QL (b : List UInt8) : b.length ≤ (EB b).length := by
 rw [wE]
 unfold szE szB
 split
 · omega
 · split <;> omega
theorem KJ {x : Raw} : ∀ {xs : List Raw}, x ∈ xs → (Rlp.E x).length ≤ (Rlp.EL xs).length
 | y :: xs, h => by
  rw [Rlp.EL, List.length_append]
  rcases Xb.1 h with rfl | h
  · omega
  ·
   have := KJ h
   omega
theorem KH {b : List UInt8} {xs : List Raw} {x : Raw} (h : x ∈ xs) : (Rlp.E x).length ≤ (Rlp.E (.mk true b xs)).length := by
 rw [Rlp.E, List.length_append]
 have := KJ h
 omega
theorem uj (N : Raw → Bool) (n : Bool) (b : List UInt8) (xs : List Raw) : rfB N n (.mk true b xs) = (decide ((pkB (.mk true b xs)).length < 32) && N (.mk true b xs)) := rfl
theorem vC (N : Raw → Bool) (n : Bool) (b : List UInt8) (xs : List Raw) : rfB N n (.mk false b xs) = (decide (b.length = 32) || (n && decide (b.length = 0))) := rfl
theorem J9 (x : Raw) (n : Bool) (N : Raw → Bool) (H : isL x = true → Fn 67 [aX x] (· = .val (.v (.bool (N x))))) : Fn 115 [aX x, .v (.bool n)] (· = .val (.v (.bool (rfB N n x)))) := by
 have h2 := J8 x
 refine FnM.toFn ?_
 obtain ⟨l, b, xs⟩ := x
 cases l with
 | true =>
  have h1 := H rfl
  rw [uj]
  have hpb : packed (.mk true b xs) = none ∨ packed (.mk true b xs) = some (pkB (.mk true b xs)) := by
   unfold pkB
   cases h : packed (.mk true b xs) with
   | none => exact .inl rfl
   | some b => exact .inr rfl
  rcases hpb with hp | hp
  ·
   have h0 : pkB (.mk true b xs) = [] := by unfold pkB; rw [hp]; rfl
   rw [hp] at h2
   rw [h0]
   rw [show decide (([] : List UInt8).length < 32) = true from rfl, XO]
   generalize N (.mk true b xs) = r at h1 ⊢
   unfold qG at h2
   dsimp only at h2
   unfold aX at h1 h2 ⊢
   refine FnM.walk 34 Tryz.func115 rfl Tryz.ntmps115 (by simp) fun X => ?_
   repeat
    (first
     | (apply aC (h2); rfl; exact aj.refl _ _; exact enA; iterate 2 rfl) | (apply aC (h1); rfl; exact aj.refl _ _; exact enA; iterate 2 rfl)
     | (apply ak; iterate 3 rfl) | (apply ah; iterate 3 rfl) | (apply aH; iterate 6 rfl) | (apply aA; iterate 4 rfl)
     | (apply aK; iterate 4 rfl) | (apply aI; rfl; exact I.a; iterate 4 rfl) | (apply aF (b := true); (iterate 2 rfl); exact aQ; iterate 2 rfl)
     | (apply Ve; iterate 4 rfl) | (apply cZ; rfl; rfl; rfl; intro _) | apply EL.nil
     | (apply EC.t0; rfl) | (with_reducible first | apply EK.nc | apply EC.seq | apply EC.r0 | apply EC.ret | apply EK.aB))
   exact EK.aW [] rfl rfl (WI _) ⟨rfl, rfl⟩
  ·
   rw [hp] at h2
   generalize pkB (.mk true b xs) = pb at h2 ⊢
   generalize N (.mk true b xs) = r at h1 ⊢
   unfold qG at h2
   dsimp only at h2
   unfold aX at h1 h2 ⊢
   refine FnM.walk 34 Tryz.func115 rfl Tryz.ntmps115 (by simp) fun X => ?_
   by_cases h32 : pb.length < 32
   ·
    rw [show decide (pb.length < 32) = true by simp [h32], XO]
    repeat
     (first
      | (apply aC (h2); rfl; exact aj.refl _ _; exact enA; iterate 2 rfl) | (apply aC (h1); rfl; exact aj.refl _ _; exact enA; iterate 2 rfl)
      | (apply ak; iterate 3 rfl) | (apply ah; iterate 3 rfl) | (apply aH; iterate 6 rfl) | (apply aA; iterate 4 rfl)
      | (apply aK; iterate 4 rfl) | (apply aI; rfl; exact I.a; iterate 4 rfl) | (apply aF (b := true); (iterate 2 rfl); exact aQ; iterate 2 rfl)
      | (apply aV; iterate 4 rfl) | (apply cZ; rfl; rfl; rfl; intro _) | apply EL.nil
      | (apply EC.t0; rfl) | (with_reducible first | apply EK.nc | apply EC.seq | apply EC.r0 | apply EC.ret | apply EK.aB))
    exact EK.aW [] rfl rfl (WI _) ⟨rfl, rfl⟩
   ·
    rw [show decide (pb.length < 32) = false by simp [h32], Yk]
    repeat
     (first
      | (apply dO; iterate 2 rfl) | (apply aC (h2); rfl; exact aj.refl _ _; exact enA; iterate 2 rfl) | (apply ak; iterate 3 rfl)
      | (apply ah; iterate 3 rfl) | (apply aH; iterate 6 rfl) | (apply aA; iterate 4 rfl) | (apply aK; iterate 4 rfl)
      | (apply aI; rfl; exact I.a; iterate 4 rfl) | (apply aF (b := false); (iterate 2 rfl); exact aQ; iterate 2 rfl) | (apply aV; iterate 4 rfl)
      | (apply cZ; rfl; rfl; rfl; intro _) | apply EL.nil | (apply EC.t0; rfl)
      | (with_reducible first | apply EK.nc | apply EC.seq | apply EC.r0 | apply EC.ret | apply EK.aB))
    exact EK.aW [] rfl rfl (WI _) ⟨rfl, rfl⟩
 | false =>
  clear h2 H
  rw [vC]
  unfold aX
  refine FnM.walk 34 Tryz.func115 rfl Tryz.ntmps115 (by simp) fun X => ?_
  by_cases h32 : b.length = 32
  ·
   rw [show decide (b.length = 32) = true by simp [h32], Y7]
   repeat
    (first
     | (apply dO; iterate 2 rfl) | (apply ak; iterate 3 rfl) | (apply ah; iterate 3 rfl) | (apply aH; iterate 6 rfl) | (apply aK; iterate 4 rfl)
     | (apply aI; rfl; exact I.a; iterate 4 rfl) | (apply aF (b := true); (iterate 2 rfl); exact aQ; iterate 2 rfl) | (apply aV; iterate 4 rfl)
     | (apply cZ; rfl; rfl; rfl; intro _) | apply EL.nil | (apply EC.f0; rfl)
     | (with_reducible first | apply EK.nc | apply EC.seq | apply EC.r0 | apply EC.k0 | apply EC.ret))
   exact EK.aW [] rfl rfl (WI _) ⟨rfl, rfl⟩
  ·
   rw [show decide (b.length = 32) = false by simp [h32], YM]
   cases n with
   | false =>
    repeat
     (first
      | (apply dO; iterate 2 rfl) | (apply ak; iterate 3 rfl) | (apply ah; iterate 3 rfl) | (apply aH; iterate 6 rfl) | (apply aK; iterate 4 rfl)
      | (apply aI; rfl; exact I.a; iterate 4 rfl) | (apply aF (b := false); (iterate 2 rfl); exact aQ; iterate 2 rfl) | (apply aV; iterate 4 rfl)
      | (apply cZ; rfl; rfl; rfl; intro _) | apply EL.nil | (apply EC.f0; rfl)
      | (with_reducible first | apply EK.nc | apply EC.seq | apply EC.r0 | apply EC.k0 | apply EC.ret))
    exact EK.aW [] rfl rfl (WI _) ⟨rfl, rfl⟩
   | true =>
    rw [XO]
    by_cases h0 : b.length = 0
    ·
     rw [show decide (b.length = 0) = true by simp [h0]]
     have hc : gq .eql (b.length : Int) 0 = some true := by rw [h0]; rfl
     repeat
      (first
       | (apply aF (b := true); (iterate 2 rfl); exact hc; iterate 2 rfl) | (apply ak; iterate 3 rfl) | (apply ah; iterate 3 rfl)
       | (apply aH; iterate 6 rfl) | (apply aK; iterate 4 rfl) | (apply aI; rfl; exact I.a; iterate 4 rfl)
       | (apply aF (b := false); (iterate 2 rfl); exact aQ; iterate 2 rfl) | (apply aV; iterate 4 rfl) | (apply cZ; rfl; rfl; rfl; intro _) | apply EL.nil
       | (apply EC.f0; rfl) | (with_reducible first | apply EK.nc | apply EC.seq | apply EC.r0 | apply EC.k0 | apply EC.ret))
     exact EK.aW [] rfl rfl (WI _) ⟨rfl, rfl⟩
    ·
     have hc : gq .eql (b.length : Int) 0 = some false := by
      simp only [gq, Xw, beq_eq_false_iff_ne]
      omega
     rw [decide_eq_false h0]
     repeat
      (first
       | (apply aF (b := false); (iterate 2 rfl); exact hc; iterate 2 rfl) | (apply ak; iterate 3 rfl) | (apply ah; iterate 3 rfl)
       | (apply aH; iterate 6 rfl) | (apply aK; iterate 4 rfl) | (apply aI; rfl; exact I.a; iterate 4 rfl)
       | (apply aF (b := false); (iterate 2 rfl); exact aQ; iterate 2 rfl) | (apply aV; iterate 4 rfl) | (apply cZ; rfl; rfl; rfl; intro _) | apply EL.nil
       | (apply EC.f0; rfl) | (with_reducible first | apply EK.nc | apply EC.seq | apply EC.r0 | apply EC.k0 | apply EC.ret))
     exact EK.aW [] rfl rfl (WI _) ⟨rfl, rfl⟩
theorem PU (x : Raw) : Fn 117 [aX x] (· = .val (.v (.bool (isL x && decide ((its x).length = 2))))) := by
 obtain ⟨l, b, xs⟩ := x
 have hml : (bG xs).length = xs.length := by rw [gJ, WY]
 unfold aX isL its
 refine Fn.walk 11 Tryz.func117 rfl Tryz.ntmps117 (by simp) fun X => ?_
 cases l with
 | false =>
  repeat
   (first
    | (apply dO; iterate 2 rfl) | (apply ak; iterate 3 rfl) | (apply ah; iterate 3 rfl) | (apply aH; iterate 6 rfl) | (apply aK; iterate 4 rfl)
    | (apply aI; rfl; exact I.a; iterate 4 rfl) | (apply cZ; rfl; rfl; rfl; intro _) | apply EL.nil
    | (with_reducible first | apply EK.nc | apply EC.seq | apply EC.r0 | apply EC.ret))
  exact EK.Ak rfl rfl rfl
 | true =>
  rw [XO]
  by_cases h : xs.length = 2
  ·
   rw [show decide (xs.length = 2) = true by simp [h]]
   repeat
    (first
     | (apply ak; iterate 3 rfl) | (apply ah; iterate 3 rfl) | (apply aH; iterate 6 rfl) | (apply aK; iterate 4 rfl)
     | (apply aI; rfl; exact I.a; iterate 4 rfl) | (apply aF (b := true); (iterate 2 rfl); exact aQ; iterate 2 rfl) | (apply bC; iterate 4 rfl)
     | (apply cZ; rfl; rfl; rfl; intro _) | apply EL.nil | (with_reducible first | apply EK.nc | apply EC.seq | apply EC.r0 | apply EC.ret))
   exact EK.Ak rfl rfl rfl
  ·
   rw [show decide (xs.length = 2) = false by simp [h]]
   repeat
    (first
     | (apply ak; iterate 3 rfl) | (apply ah; iterate 3 rfl) | (apply aH; iterate 6 rfl) | (apply aK; iterate 4 rfl)
     | (apply aI; rfl; exact I.a; iterate 4 rfl) | (apply aF (b := false); (iterate 2 rfl); exact aQ; iterate 2 rfl) | (apply bC; iterate 4 rfl)
     | (apply cZ; rfl; rfl; rfl; intro _) | apply EL.nil | (with_reducible first | apply EK.nc | apply EC.seq | apply EC.r0 | apply EC.ret))
   exact EK.Ak rfl rfl rfl
end E
end Go.Proofs.YtelbhdobjdnglaaGreat
namespace Go.Proofs.YtelbhdobjdnglaaGreat
set_option linter.unusedVariables false
open Rlp
namespace Jn
structure Sl where
 key : List UInt8
 val : List UInt8
structure Ch where
 addr : List UInt8
 gone : Bool
 nonce : Int
 bal : List UInt8
 code : List UInt8
 slots : List Sl
structure Df where
 id : List UInt8
 par : List UInt8
 chs : List Ch
def Sl.ok (s : Sl) : Prop := s.key.length = 32 ∧ s.val.length = 32
def Ch.ok (c : Ch) : Prop := c.addr.length = 20 ∧ c.bal.length = 32 ∧ -9223372036854775808 ≤ c.nonce ∧ c.nonce ≤ 9223372036854775807 ∧ ∀ s ∈ c.slots, s.ok
def Df.ok (d : Df) : Prop := d.id.length = 32 ∧ d.par.length = 32 ∧ ∀ c ∈ d.chs, c.ok
def vY (l : List UInt8) : Raw := .mk false l []
def FI (xs : List Raw) : Raw := .mk true [] xs
def VE (n : Nat) : Raw := vY (be n)
def NU (l : List UInt8) : Raw := vY (strip l)
def Vs (s : Sl) : Raw := FI [NU s.key, NU s.val]
def chI (c : Ch) : Raw := FI [vY c.addr, VE (if c.gone then 1 else 0), VE c.nonce.toNat, NU c.bal, vY c.code, FI (c.slots.map Vs)]
def dfI (d : Df) : Raw := FI [vY d.id, vY d.par, FI (d.chs.map chI)]
abbrev cmp (l m : List UInt8) : Int := Lib.compareBytes l m
def Ot : List Sl → Bool
 | [] => true
 | [_] => true
 | a :: b :: l => decide (cmp a.key b.key < 0) && Ot (b :: l)
def Wu (c : Ch) : Bool := decide (0 ≤ c.nonce) && Ot c.slots
def Ou : List Ch → Bool
 | [] => true
 | [_] => true
 | a :: b :: l => decide (cmp a.addr b.addr < 0) && Ou (b :: l)
def may (l : List Ch) : Bool := l.all Wu && Ou l
def qG (d : Df) : Except Nat (List UInt8) := if may d.chs then (match packed (dfI d) with | some b => .ok b | none => .error 3) else .error 1
def isB : Raw → Option (List UInt8)
 | .mk false bs _ => some bs
 | .mk true _ _ => none
def isL : Raw → Option (List Raw)
 | .mk true _ xs => some xs
 | .mk false _ _ => none
def Vr (x : Raw) : Option Sl :=
 match isL x with
 | some [a, b] => match eF a, eF b with
  | some k, some v => some ⟨k, v⟩
  | _, _ => none
 | _ => none
def Va {α : Type} (f : Raw → Option α) : List Raw → Option (List α)
 | [] => some []
 | x :: xs => match f x with
  | none => none
  | some y => match Va f xs with
   | none => none
   | some ys => some (y :: ys)
def chR (x : Raw) : Option Ch :=
 match isL x with
 | some [a, g, n, w, c, s] =>
  match isB a, lX g, lX n, eF w, isB c, isL s with
  | some a, some g, some n, some w, some c, some s => if a.length = 20 ∧ g ≤ 1 then (match Va Vr s with | some ss => some ⟨a, g == 1, n, w, c, ss⟩ | none => none) else none
  | _, _, _, _, _, _ => none
 | _ => none
def dfR (x : Raw) : Option Df :=
 match isL x with
 | some [i, p, l] =>
  match isB i, isB p, isL l with
  | some i, some p, some l => if i.length = 32 ∧ p.length = 32 then (match Va chR l with | some cs => some ⟨i, p, cs⟩ | none => none) else none
  | _, _, _ => none
 | _ => none
def yO (b : List UInt8) : Except Nat Df :=
 match fU b with
 | .error e => .error e
 | .ok x => match dfR x with
  | none => .error 4
  | some d => if may d.chs then .ok d else .error 4
theorem Vf (bs : List UInt8) (xs : List Raw) : E (.mk true bs xs) = head (EL xs).length 192 ++ EL xs := by rw [E]
mutual
theorem Fe : ∀ x : Raw, (E x).length ≤ most → fD x = some (E x)
 | .mk false bs xs, h => by
  rw [E] at h ⊢
  rw [fD]
  have h2 : bs.length ≤ (EB bs).length := by unfold EB; split <;> simp
  rw [if_neg (by omega)]
 | .mk true bs xs, h => by
  rw [Vf] at h ⊢
  rw [List.length_append] at h
  rw [fD, BG xs [] (by simp; omega)]
  rfl
theorem BG : ∀ (xs : List Raw) (acc : List UInt8), acc.length + (EL xs).length ≤ most → fQ xs acc = some (acc ++ EL xs)
 | [], acc, h => by rw [fQ, EL, XB]
 | x :: xs, acc, h => by
  rw [EL, List.length_append] at h
  rw [fQ, Fe x (by omega), EL]
  dsimp only
  rw [if_neg (by omega), BG xs (acc ++ E x) (by rw [List.length_append]; omega), Xp]
end
end Jn
end Go.Proofs.YtelbhdobjdnglaaGreat
namespace Go.Proofs.YtelbhdobjdnglaaGreat
set_option linter.unusedVariables false
open Go.RowKit Mono Rlp
namespace E
def dBd (n : Int) (w r c : List UInt8) : D := .tup [.v (.int .i64 n), .arr 32 w, .arr 32 r, .arr 32 c]
theorem L6 {x : Raw} (hd : fE x 32 ≤ 32) (h : (E x).length ≤ most) : packed x = some (Rlp.E x) := by
 rw [tu, if_neg (by omega), Jn.Fe _ h]
 dsimp only
 rw [if_neg (by omega)]
end E
end Go.Proofs.YtelbhdobjdnglaaGreat
