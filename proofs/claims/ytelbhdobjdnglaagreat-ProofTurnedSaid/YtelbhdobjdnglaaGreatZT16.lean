/-
 Merged: lemmas of this claim.
 Conditions: none.
-/
import Derived.Test.YtelbhdobjdnglaaGreatZT15
import Derived.Laws.BitsAllLaws
import Derived.Test.YtelbhdobjdnglaaGreatZT14
import Derived.Test.YtelbhdobjdnglaaGreatZT10
import Derived.Test.YtelbhdobjdnglaaGreatZT6
import Derived.Test.YtelbhdobjdnglaaGreatZT7
import Derived.Test.YtelbhdobjdnglaaGreatZT12
import Derived.Test.YtelbhdobjdnglaaGreatZT11
import Derived.Test.YtelbhdobjdnglaaGreatZT0
namespace Go.Proofs.YtelbhdobjdnglaaGreat
set_option linter.unusedVariables false
set_option maxRecDepth 20000
set_option maxHeartbeats 4000000
open Go.RowKit Mono Rlp
theorem RJ : ∀ (xs : List Raw) (m n k : Nat), n ≤ k → (∀ x ∈ xs, dP x m ≤ k) → maxD xs m n ≤ k := fun xs m n k h1 h2 => (maxD_le xs m n k).2 ⟨h1, h2⟩
theorem zN : ∀ (m : Nat) (r : Raw), dP r m ≤ m + 1
 | m, .mk false bs xs => by rw [dP]; omega
 | 0, .mk true bs xs => by rw [dP]; omega
 | m + 1, .mk true bs xs => by
  rw [dP]
  have := RJ xs m 0 (m + 1) (by omega) fun x _ => zN m x
  omega
theorem EJ : ∀ (m : Nat) (r : Raw) (v : Value) (w : World), m ≤ 32 → lF w v r → Calls Tryz.prog 120 #[v, .int .i64 m] w (Ret (eqV (.int .i64 (dP r m))) w)
 | m, .mk false bs xs, v, w, hm, h => by
  obtain ⟨vb, vl, rfl, _, _⟩ := iY h
  clear h
  have hd := Lib.hid (show dP (.mk false bs xs) m = 0 by rw [dP])
  go_enter Tryz.func120, Tryz.ntmps120
  go_wp2_with fail
  refine bodyPost_ret (results_tmp rfl _ _ _) rfl ?_
  exact ⟨_, rfl, ay w _, by rw [hd.out]; rfl⟩
 | 0, .mk true bs xs, v, w, hm, h => by
  obtain ⟨vb, vl, rfl, _, _⟩ := iY h
  clear h
  have hd := Lib.hid (show dP (.mk true bs xs) 0 = 1 by rw [dP])
  go_enter Tryz.func120, Tryz.ntmps120
  go_wp2_with fail
  refine bodyPost_ret (results_tmp rfl _ _ _) rfl ?_
  exact ⟨_, rfl, ay w _, by rw [hd.out]; rfl⟩
 | m + 1, .mk true bs xs, v, w, hm, h => by
  have ih := Lib.hid (EJ m)
  obtain ⟨vb, vl, rfl, _, A, c, rows, rfl, hc1, hc2, _, hr, hi⟩ := iY h
  have HR := Lib.hid hr
  have HI := Lib.hid hi
  have hd := Lib.hid (show dP (.mk true bs xs) (m + 1) = maxD xs m 0 + 1 by rw [dP])
  have hdm : (((m : Int) + 1) == 0) = false := by simp; omega
  rw [show ((m + 1 : Nat) : Int) = (m : Int) + 1 from rfl]
  unfold maxLen at hc2
  clear h hr hi
  go_enter Tryz.func120, Tryz.ntmps120
  go_wp2_with fail
  go_loopw [5, 6] (fun nv i wr => ∃ k n : Nat, k ≤ xs.length ∧ i = .int .i64 k ∧ nv = .int .i64 n ∧ n ≤ 33 ∧ maxD xs m 0 = maxD (xs.drop k) m n ∧ Gr (w.alloc (.cells #[.bool true, vb, .slice A xs.length c] 138)) wr) (fun _ i _ => xs.length - (intOf i).toNat)
  case atStart => exact ⟨0, 0, by omega, rfl, rfl, by omega, rfl, Gr.refl _⟩
  case round =>
   obtain ⟨k, n, hk, rfl, rfl, hn, hM, hb⟩ := hrel
   have HM := Lib.hid hM
   have HB := Lib.hid hb
   have hbs := hb.size
   have hcl := hb.cell (p := ⟨w.heap.size, 2, none⟩) (by simp)
   have hcl2 : (w.alloc (.cells #[.bool true, vb, .slice A xs.length c] 138)).cell? ⟨w.heap.size, 2, none⟩ = some (.slice A xs.length c) := by rw [cell_of_row _ _ _ _ _ (0, 0) (heap_alloc_new w _)]; rfl
   rw [hcl2] at hcl
   clear hM hb hcl2
   by_cases h1 : k < xs.length
   ·
    obtain ⟨bl, o, f, vb', vl, rfl, hbl, e1, e2, e3, hx, ⟨A2, n2, c2, rfl⟩, A', n', c', rfl⟩ := uN HR.out HI.out k h1
    have e1' := (((ay w _).trans HB.out).cell (p := ⟨bl, o + k * 3, none⟩) hbl).trans e1
    have e2' := (((ay w _).trans HB.out).cell (p := ⟨bl, o + k * 3 + 1, none⟩) hbl).trans e2
    have e3' := (((ay w _).trans HB.out).cell (p := ⟨bl, o + k * 3 + 2, none⟩) hbl).trans e3
    have HX := Lib.hid (hx.gr ((ay w _).trans HB.out))
    have hdk : xs.drop k = xs[k] :: xs.drop (k + 1) := XI h1
    have hdl := zN m xs[k]
    have HM2 := Lib.hid (show maxD xs m 0 = maxD (xs.drop (k + 1)) m (if dP xs[k] m > n then dP xs[k] m else n) by rw [HM.out, hdk, maxD])
    clear e1 e2 e3 hx hdk HM
    go_wp2_with fail
    refine (ih.out xs[k] _ _ (by omega) HX.out).mono ?_
    rintro e w1 ⟨_, rfl, hg1, rfl⟩
    have HG1 := Lib.hid (HB.out.trans hg1)
    clear hg1 e1' e2' e3' hcl
    by_cases h3 : dP xs[k] m > n
    ·
     have HM3 := Lib.hid (show maxD xs m 0 = maxD (xs.drop (k + 1)) m (dP xs[k] m) by rw [HM2.out, if_pos h3])
     clear HM2
     go_wp2_with fail
     go_roundw
     case rel => exact ⟨k + 1, _, by omega, by go_num, rfl, by omega, HM3.out, HG1.out⟩
     case measure => simp [intOf]; omega
    ·
     have HM3 := Lib.hid (show maxD xs m 0 = maxD (xs.drop (k + 1)) m n by rw [HM2.out, if_neg h3])
     clear HM2
     go_wp2_with fail
     go_roundw
     case rel => exact ⟨k + 1, _, by omega, by go_num, rfl, by omega, HM3.out, HG1.out⟩
     case measure => simp [intOf]; omega
   ·
    have h2 : xs.length ≤ k := by omega
    have HM2 := Lib.hid (show dP (.mk true bs xs) (m + 1) = n + 1 by rw [hd.out, HM.out, XP h2, maxD])
    clear h1 HM
    go_wp2_with fail
    refine bodyPost_ret (results_tmp rfl _ _ _) rfl ?_
    refine ⟨_, rfl, (ay w _).trans HB.out, ?_⟩
    rw [HM2.out]
    rfl
theorem BK (n : Int) : bits .and .i64 n 63 = n % 64 := by
 have h63 : (BitVec.ofInt 64 63).toNat = 2 ^ 6 - 1 := by decide
 have key : (BitVec.ofInt 64 n &&& BitVec.ofInt 64 63).toNat = (n % ((2 ^ 64 : Nat) : Int)).toNat % 2 ^ 6 := by
  rw [BitVec.toNat_and, ZM, h63, Yo]
 show IntKind.i64.wrap ((BitVec.ofInt 64 n &&& BitVec.ofInt 64 63).toNat : Nat) = n % 64
 rw [key, IntKind.wrap_i64]
 omega
theorem yL (n base : Nat) (w : World) (hn : n ≤ 9223372036854775807) (hb : base ≤ 192) : Calls Tryz.prog 165 #[.int .i64 n, .int .i64 base] w (Ret (fun v w' => OwnB w' w.heap.size v (head n base)) w) := by
 have hlen := wu 8 n (by omega)
 by_cases h56 : n < 56
 ·
  have hs := Lib.hid (show head n base = [UInt8.ofNat (base + n)] from if_pos h56)
  clear hlen
  go_enter Tryz.func165, Tryz.ntmps165
  go_wp2
  refine bodyPost_ret (results_tmp rfl _ _ _) rfl ?_
  refine ⟨_, rfl, ay w _, ?_⟩
  rw [hs.out]
  have := iI w #[.int .u8 ((base : Int) + (n : Int))] 5 1 1 w.heap.size w.heap.size rfl (Nat.le_refl _) (by simp [maxLen]) rfl
  refine ownB_of this ?_
  rw [← XV, vG _ (by omega)]
  rfl
 ·
  have hs := Lib.hid (show head n base = UInt8.ofNat (base + 55 + (be n).length) :: be n from if_neg h56)
  have h57 : 55 < n := by omega
  clear h56
  go_enter Tryz.func165, Tryz.ntmps165
  go_wp2
  go_loopw [5, 6] (fun v i wr => ∃ (m : Nat) (acc : List UInt8), m ≤ n ∧ i = .int .i64 m ∧ acc.reverse ++ le m = le n ∧ acc.length ≤ 8 ∧ OwnB wr w.heap.size v acc ∧ Below w.heap.size w wr) (fun _ i _ => (intOf i).toNat)
  case atStart => exact ⟨n, [], Nat.le_refl _, rfl, rfl, by simp, OwnB.nil _ _, Below.refl _ _⟩
  case round =>
   obtain ⟨m, acc, hm, rfl, hacc, hal, hown, hb⟩ := hrel
   obtain ⟨A', c', rfl, hc1, hc2⟩ := cZ hown
   obtain ⟨_, _, he, _, _, hrd⟩ := OwnB.isB hown
   injection he with he1 _ he2
   subst he1 he2
   have hbs := hb.size
   have HO := Lib.hid hown
   have HB := Lib.hid hb
   have HA := Lib.hid hacc
   have HRD := Lib.hid hrd
   clear hown hb hacc hrd
   unfold maxLen at hc2
   by_cases h1 : 0 < m
   ·
    have hle := Lib.hid (Dy m h1)
    have hal2 : acc.length + 1 ≤ 8 := by
     have h2 := congrArg List.length HA.out
     rw [hle.out, List.length_append, List.length_cons, List.length_reverse] at h2
     omega
    have hlow := IL m
    go_wp2_with (at_builtin; refine aV (.tmp 22) (.tmp 23) 38 bK (base := w.heap.size) _ 1 [.int .u8 ((m : Int) % 256)] _ acc.length _ _ (bvs acc) rfl rfl rfl rfl (iI wr #[.int .u8 ((m : Int) % 256)] 5 1 1 wr.heap.size w.heap.size rfl hbs (by simp [maxLen]) rfl) (HRD.out.below ((Below.refl _ _).alloc (Nat.le_refl _) _)) (by simp [bvs]) (dR _) (by simp only [maxLen]; omega) (by omega) (by simp; omega) ?_; intro A2 c2 w2 hown2 hg2 _)
    go_roundw
    case rel =>
     refine ⟨m / 256, UInt8.ofNat m :: acc, by omega, by go_num, ?_, by simp; omega, ?_, (HB.out.alloc hbs _).grown hg2 (by simp; omega) fun j hj => by cases hj; exact hbs⟩
     · rw [List.reverse_cons, List.append_assoc, YZ, ← hle.out, HA.out]
     ·
      rw [Qu] at hown2
      exact ownB_of hown2 rfl
    case measure => simp [intOf]; omega
   ·
    have HE : Hid (acc = be n) := by
     refine Lib.hid ?_
     have h2 := HA.out
     rw [show m = 0 by omega, le_zero, X9] at h2
     unfold be
     rw [← h2, List.reverse_reverse]
    clear HA
    go_wp2_with (at_builtin; refine aV (.tmp 31) (.tmp 32) 38 bK (base := w.heap.size) _ 1 [.int .u8 ((base : Int) + 55 + (acc.length : Int))] _ acc.length _ _ (bvs acc) rfl rfl rfl rfl (iI wr #[.int .u8 ((base : Int) + 55 + (acc.length : Int))] 5 1 1 wr.heap.size w.heap.size rfl hbs (by simp [maxLen]) rfl) (HRD.out.below ((Below.refl _ _).alloc (Nat.le_refl _) _)) (by simp [bvs]) (dR _) (by simp only [maxLen]; omega) (by omega) (by simp; omega) ?_; intro A2 c2 w2 hown2 hg2 _)
    refine bodyPost_ret (results_tmp rfl _ _ _) rfl ?_
    refine ⟨_, rfl, (HB.out.alloc hbs _).grown hg2 (by simp; omega) fun j hj => by cases hj; exact hbs, ?_⟩
    refine ownB_of hown2 ?_
    have e1 : ((base : Int) + 55 + (acc.length : Int)) = ((base + 55 + acc.length : Nat) : Int) := by simp
    rw [hs.out, ← HE.out, e1, vG _ (by omega)]
    rfl
theorem Bh : ∀ (xs : List Raw) (acc l : List UInt8), gI xs acc = some l → acc.length ≤ most → l.length ≤ most
 | [], acc, l, h, ha => by rw [gI] at h; rw [← X3 h]; exact ha
 | x :: xs, acc, l, h, ha => by
  rw [gI] at h
  cases hx : fE x with
  | none => rw [hx] at h; cases h
  | some j =>
   rw [hx] at h
   dsimp only at h
   split at h
   · cases h
   · exact Bh xs _ l h (by rw [List.length_append]; omega)
theorem E8 (r : Raw) (b : List UInt8) (h : fE r = some b) : b.length ≤ most + 9 := by
 obtain ⟨lst, bs, xs⟩ := r
 cases lst with
 | false =>
  rw [fE] at h
  split at h
  · cases h
  · rw [← X3 h, oO]; exact Oi bs (by omega)
 | true =>
  rw [fE] at h
  cases hm : gI xs [] with
  | none => rw [hm] at h; cases h
  | some l =>
   rw [hm] at h
   have := Bh xs [] l hm (by simp)
   rw [← X3 h, List.length_append, iZ]
   exact vN _ this
def qY (base : Nat) (r : Raw) : VP := fun v w => match packed r with
 | some b => ∃ vb, v = .tuple #[vb, .int .i64 0] ∧ OwnB w base vb b
 | none => v = .tuple #[.slice none 0 0, .int .i64 3]
theorem MJ {r : Raw} {b : List UInt8} (h : packed r = some b) : b = E r ∧ b.length ≤ most := by
 unfold packed at h
 cases hm : meas r 0 with
 | none => rw [hm] at h; cases h
 | some n =>
  rw [hm] at h
  dsimp only at h
  split at h
  · cases h
  ·
   cases h
   have := y8 r 0 n hm
   exact ⟨rfl, by omega⟩
theorem OE (v : Value) (x : Raw) (w : World) (h : lF w v x) : Calls Tryz.prog 150 #[v] w (Ret (fun v w' => qY w.heap.size x v w') w) := by
 have hx := h
 obtain ⟨lst, bs, xs⟩ := x
 obtain ⟨vb, vl, rfl, ⟨A9, c9, rfl, _⟩, A, c, rows, rfl, _⟩ := iY h
 clear h
 generalize hr : Raw.mk lst bs xs = r at hx ⊢
 have HX := Lib.hid hx
 clear hx
 go_enter Tryz.func150, Tryz.ntmps150
 go_wp2_with fail
 refine (Hw _ r _ (HX.out.gr (ay w _))).mono ?_
 rintro e w1 ⟨v1, rfl, hg1, ho1⟩
 have HG1 := Lib.hid ((ay w _).trans hg1)
 have HO1 := Lib.hid ho1
 clear hg1 ho1 HX
 go_wp2_with fail
 refine (wW 32 0 rfl r v1 _ HO1.out).mono ?_
 rintro e w2 ⟨v2, rfl, hg2, hm2⟩
 have HG2 := Lib.hid (HG1.out.trans hg2)
 have HO2 := Lib.hid (HO1.out.gr hg2)
 unfold xH at hm2
 clear hg2 HO1 HG1 hr
 cases hmx : meas r 0 with
 | none =>
  rw [hmx] at hm2
  obtain ⟨z, rfl⟩ := hm2
  have HP := Lib.hid (show packed r = none by unfold packed; rw [hmx])
  clear hmx
  go_wp2_with fail
  refine bodyPost_ret (results_tmp2 rfl _ _ _) rfl ?_
  refine ⟨_, rfl, HG2.out, ?_⟩
  unfold qY
  rw [HP.out]
  rfl
 | some n =>
  rw [hmx] at hm2
  dsimp only at hm2
  subst hm2
  have hn := JO _ _ _ hmx
  simp only [most] at hn
  by_cases h3 : n > most
  ·
   have HP := Lib.hid (show packed r = none by unfold packed; rw [hmx]; dsimp only; rw [if_pos h3])
   simp only [most] at h3
   clear hmx
   go_wp2_with fail
   refine bodyPost_ret (results_tmp2 rfl _ _ _) rfl ?_
   refine ⟨_, rfl, HG2.out, ?_⟩
   unfold qY
   rw [HP.out]
   rfl
  ·
   have HP := Lib.hid (show packed r = some (E r) by unfold packed; rw [hmx]; dsimp only; rw [if_neg h3])
   have hl := (MJ HP.out).2
   simp only [most] at h3
   have h4 : n ≤ 16777216 := by omega
   clear hmx h3
   go_wp2_with fail
   refine (AZ _ r v1 _ (Nat.lt_succ_self _) hl HO2.out).mono ?_
   rintro e w3 ⟨v3, rfl, hg3, ho3⟩
   have HG3 := Lib.hid (HG2.out.trans hg3)
   have HO3 := Lib.hid (own_base ho3 HG2.out.size)
   clear hg3 ho3
   go_wp2_with fail
   refine bodyPost_ret (results_tmp2 rfl _ _ _) rfl ?_
   refine ⟨_, rfl, HG3.out, ?_⟩
   unfold qY
   rw [HP.out]
   exact ⟨v3, rfl, HO3.out⟩
theorem Iu {w w0 : World} {B g : Nat} (b : UInt8) (h : w = w0.alloc (.cells #[bv b] 5)) (hg : w0.heap.size = g) (hb : B ≤ w0.heap.size) : OwnB w B (.slice (some ⟨g, 0, none⟩) 1 1) [b] := by
 subst h
 unfold OwnB
 exact iI w0 #[bv b] 5 1 1 g B hg hb (by simp [maxLen]) (by simp)
def qZ (B : Nat) (r : Raw) : VP := fun v w => match fE r with
 | some b => ∃ vb, v = .tuple #[vb, .bool true] ∧ OwnB w B vb b
 | none => v = .tuple #[.slice none 0 0, .bool false]
theorem mX {B : Nat} {r : Raw} {b : List UInt8} {v vb : Value} {w : World} (h : fE r = some b) (hv : v = .tuple #[vb, .bool true]) (hb : OwnB w B vb b) : qZ B r v w := by unfold qZ; rw [h]; exact ⟨vb, hv, hb⟩
theorem qI {B : Nat} {r : Raw} {v : Value} {w : World} (h : fE r = none) (hv : v = .tuple #[.slice none 0 0, .bool false]) : qZ B r v w := by unfold qZ; rw [h]; exact hv
theorem xK (vb vl : Value) (bs : List UInt8) (xs : List Raw) (w : World) (hv : IsB w vb bs) (hvl : ∃ A n c, vl = .slice A n c) : Calls Tryz.prog 121 #[.agg #[.bool false, vb, vl]] w (Ret (qZ w.heap.size (.mk false bs xs)) w) := by
 obtain ⟨A, c, rfl, hc1, hc2, hr⟩ := hv
 obtain ⟨A9, n9, c9, rfl⟩ := hvl
 have HR := Lib.hid (hr.gr (ay w (.cells #[.bool false, .slice A bs.length c, .slice A9 n9 c9] 138)))
 unfold maxLen at hc2
 by_cases h0 : bs.length ≤ most
 ·
  simp only [most] at h0
  by_cases h1 : bs.length = 1
  ·
   obtain ⟨b, rfl⟩ := Yv.1 h1
   obtain ⟨bl, o, rfl, hbl, hcell⟩ := hr (by simp [bvs])
   have e1 := hcell 0 (bv b) rfl
   rw [Yk] at e1
   unfold bv at e1
   clear hcell h1 hr
   have hbl2 := jP b
   simp only [Ym] at hc1 ⊢
   by_cases h2 : b < 128
   ·
    have h3 : b.toNat < 128 := XH.1 h2
    have HM := Lib.hid (show fE (.mk false [b] xs) = some [b] by rw [fE, if_neg (by simp [most]), EB, if_pos ⟨rfl, h2⟩])
    clear h2
    go_enter Tryz.func121, Tryz.ntmps121
    go_wp2_with fail
    refine bodyPost_ret (results_tmp2 rfl _ _ _) rfl ?_
    refine ⟨_, rfl, (ay w _).trans (ay _ _), mX HM.out rfl ?_⟩
    exact Iu (g := w.heap.size + 1) b rfl (by simp) (ay w _).size
   ·
    have h3 : 128 ≤ b.toNat := Y3.1 fun e => h2 (XH.2 e)
    have HM := Lib.hid (show fE (.mk false [b] xs) = some (head 1 128 ++ [b]) by rw [fE, if_neg (by simp [most]), EB, if_neg (fun h => h2 h.2)]; rfl)
    clear h2
    go_enter Tryz.func121, Tryz.ntmps121
    go_wp2_with fail
    refine (yL 1 128 _ (by omega) (by omega)).mono ?_
    rintro e w1 ⟨v1, rfl, hg1, ho1⟩
    obtain ⟨A1, c1, rfl, hd1, hd2⟩ := cZ ho1
    have hhl : (head 1 128).length + 1 ≤ 16777225 := by rw [iZ]; exact vN 1 (by simp only [most]; omega)
    have HO1 := Lib.hid ho1
    have HG1 := Lib.hid ((ay w _).trans hg1)
    have HR1 := Lib.hid (HR.out.gr hg1)
    have hz1 := HG1.out.size
    unfold maxLen at hd2
    unfold OwnB at HO1
    generalize head 1 128 = hd at HM HO1 hhl hd1 ⊢
    clear ho1 hg1
    go_wp2_with (at_builtin; refine aV (.tmp 32) (.tmp 33) 38 bK (base := w.heap.size) _ hd.length (bvs hd) _ 1 c _ (bvs [b]) rfl rfl rfl rfl (own_base HO1.out (by simp)) HR1.out (by simp [bvs]) (dR _) (by simp only [maxLen]; omega) (by omega) (by omega) ?_; intro A2 c2 w2 hown2 hg2 _)
    refine bodyPost_ret (results_tmp2 rfl _ _ _) rfl ?_
    refine ⟨_, rfl, HG1.out.grown hg2 (by omega) fun j hj => bI (own_base HO1.out (by simp)) j hj, mX HM.out rfl ?_⟩
    unfold OwnB; rw [List.length_append, gZ]; exact hown2
  ·
   have hd : ((bs.length : Int) == 1) = false := by simp; omega
   have HM := Lib.hid (show fE (.mk false bs xs) = some (head bs.length 128 ++ bs) by rw [fE, if_neg (by simp only [most]; omega), EB, if_neg (fun h => h1 h.1)])
   clear h1 hr
   go_enter Tryz.func121, Tryz.ntmps121
   go_wp2_with fail
   refine (yL bs.length 128 _ (by omega) (by omega)).mono ?_
   rintro e w1 ⟨v1, rfl, hg1, ho1⟩
   obtain ⟨A1, c1, rfl, hd1, hd2⟩ := cZ ho1
   have hhl : (head bs.length 128).length + bs.length ≤ 16777225 := by rw [iZ]; exact vN bs.length (by simp only [most]; omega)
   have HO1 := Lib.hid ho1
   have HG1 := Lib.hid ((ay w _).trans hg1)
   have HR1 := Lib.hid (HR.out.gr hg1)
   have hz1 := HG1.out.size
   unfold maxLen at hd2
   unfold OwnB at HO1
   generalize head bs.length 128 = hd at HM HO1 hhl hd1 ⊢
   clear ho1 hg1
   go_wp2_with (at_builtin; refine aV (.tmp 32) (.tmp 33) 38 bK (base := w.heap.size) _ hd.length (bvs hd) _ bs.length c _ (bvs bs) rfl rfl rfl rfl (own_base HO1.out (by simp)) HR1.out (by simp [bvs]) (dR _) (by simp only [maxLen]; omega) (by omega) (by omega) ?_; intro A2 c2 w2 hown2 hg2 _)
   refine bodyPost_ret (results_tmp2 rfl _ _ _) rfl ?_
   refine ⟨_, rfl, HG1.out.grown hg2 (by omega) fun j hj => bI (own_base HO1.out (by simp)) j hj, mX HM.out rfl ?_⟩
   unfold OwnB; rw [List.length_append, gZ]; exact hown2
 ·
  have h3 : 16777216 < bs.length := by simp only [most] at h0; omega
  have HM := Lib.hid (show fE (.mk false bs xs) = none by rw [fE, if_pos (by omega)])
  clear h0 hr
  go_enter Tryz.func121, Tryz.ntmps121
  go_wp2_with fail
  refine bodyPost_ret (results_tmp2 rfl _ _ _) rfl ?_
  exact ⟨_, rfl, ay w _, qI HM.out rfl⟩
theorem A8 : ∀ (n : Nat) (r : Raw) (v : Value) (w : World), cnt r < n → lF w v r → Calls Tryz.prog 121 #[v] w (Ret (qZ w.heap.size r) w)
 | 0, r, v, w, hn, _ => by omega
 | n + 1, .mk false bs xs, v, w, hn, h => by
  obtain ⟨vb, vl, rfl, h1, A, c, _, rfl, _⟩ := iY h
  exact xK vb _ bs xs w h1 ⟨_, _, _, rfl⟩
 | n + 1, .mk true bs xs, v, w, hn, h => by
  have ih := Lib.hid (A8 n)
  obtain ⟨vb, vl, rfl, ⟨A9, c9, rfl, _⟩, A, c, rows, rfl, hc1, hc2, _, hr, hi⟩ := iY h
  have HR := Lib.hid hr
  have HI := Lib.hid hi
  have hd := Lib.hid (show fE (.mk true bs xs) = (gI xs []).map fun l => head l.length 192 ++ l by rw [fE])
  rw [cnt] at hn
  unfold maxLen at hc2
  clear h hr hi
  go_enter Tryz.func121, Tryz.ntmps121
  go_wp2_with fail
  go_loopw [5, 6] (fun ov i wr => ∃ (k : Nat) (acc : List UInt8), k ≤ xs.length ∧ i = .int .i64 k ∧ gI xs [] = gI (xs.drop k) acc ∧ acc.length ≤ 16777216 ∧ OwnB wr (w.heap.size + 1) ov acc ∧ Gr (w.alloc (.cells #[.bool true, .slice A9 bs.length c9, .slice A xs.length c] 138)) wr) (fun _ i _ => xs.length - (intOf i).toNat)
  case atStart => exact ⟨0, [], by omega, rfl, rfl, by simp, OwnB.nil _ _, Gr.refl _⟩
  case round =>
   obtain ⟨k, acc, hk, rfl, hM, hal, hown, hb⟩ := hrel
   obtain ⟨A3, c3, rfl, hd1, hd2⟩ := cZ hown
   have HM := Lib.hid hM
   have HO := Lib.hid hown
   have HB := Lib.hid hb
   have hbs := hb.size
   have hcl := hb.cell (p := ⟨w.heap.size, 2, none⟩) (by simp)
   have hcl2 : (w.alloc (.cells #[.bool true, .slice A9 bs.length c9, .slice A xs.length c] 138)).cell? ⟨w.heap.size, 2, none⟩ = some (.slice A xs.length c) := by rw [cell_of_row _ _ _ _ _ (0, 0) (heap_alloc_new w _)]; rfl
   rw [hcl2] at hcl
   simp only [dF] at hbs
   unfold maxLen at hd2
   clear hM hown hb hcl2
   by_cases h1 : k < xs.length
   ·
    obtain ⟨bl, o, f, vb', vl, rfl, hbl, e1, e2, e3, hx, ⟨A2, n2, c2, rfl⟩, A', n', c', rfl⟩ := uN HR.out HI.out k h1
    have e1' := (((ay w _).trans HB.out).cell (p := ⟨bl, o + k * 3, none⟩) hbl).trans e1
    have e2' := (((ay w _).trans HB.out).cell (p := ⟨bl, o + k * 3 + 1, none⟩) hbl).trans e2
    have e3' := (((ay w _).trans HB.out).cell (p := ⟨bl, o + k * 3 + 2, none⟩) hbl).trans e3
    have HX := Lib.hid (hx.gr ((ay w _).trans HB.out))
    have hdk : xs.drop k = xs[k] :: xs.drop (k + 1) := XI h1
    have hcnt := Ky xs k h1
    have HM2 := Lib.hid (show gI xs [] = match fE xs[k] with | none => none | some b => if acc.length + b.length > most then none else gI (xs.drop (k + 1)) (acc ++ b) by
     rw [HM.out, hdk, gI]
     cases fE xs[k] <;> rfl)
    clear e1 e2 e3 hx hdk HM
    go_wp2_with fail
    refine (ih.out xs[k] _ _ (by omega) HX.out).mono ?_
    rintro e w1 ⟨v1, rfl, hg1, hp1⟩
    have HG1 := Lib.hid (HB.out.trans hg1)
    have HO1 := Lib.hid (nH HO.out hg1)
    have hz1 := HG1.out.size
    simp only [dF] at hz1
    unfold qZ at hp1
    clear hg1 e1' e2' e3' hcl HO hcnt
    cases hpx : fE xs[k] with
    | none =>
     rw [hpx] at HM2 hp1
     dsimp only at hp1
     subst hp1
     have HM3 := Lib.hid (show fE (.mk true bs xs) = none by rw [hd.out, HM2.out]; rfl)
     clear HM2 hpx
     go_wp2_with fail
     refine bodyPost_ret (results_tmp2 rfl _ _ _) rfl ?_
     exact ⟨_, rfl, (ay w _).trans HG1.out, qI HM3.out rfl⟩
    | some bx =>
     rw [hpx] at HM2 hp1
     obtain ⟨vbx, rfl, hown4⟩ := hp1
     obtain ⟨A4, c4, rfl, he1, he2, hr4⟩ := hown4.isB
     clear hown4
     have HR4 := Lib.hid hr4
     have hbx := E8 _ _ hpx
     simp only [most] at hbx
     unfold maxLen at he2
     clear hr4 hpx
     by_cases h3 : acc.length + bx.length > 16777216
     ·
      have HM3 := Lib.hid (show fE (.mk true bs xs) = none by rw [hd.out, HM2.out]; dsimp only; rw [if_pos h3]; rfl)
      clear HM2
      go_wp2_with fail
      refine bodyPost_ret (results_tmp2 rfl _ _ _) rfl ?_
      exact ⟨_, rfl, (ay w _).trans HG1.out, qI HM3.out rfl⟩
     ·
      have HM3 := Lib.hid (show gI xs [] = gI (xs.drop (k + 1)) (acc ++ bx) by rw [HM2.out]; dsimp only; rw [if_neg h3])
      clear HM2
      go_wp2_with (at_builtin; refine aV _ _ 38 bK _ _ _ _ _ _ _ (bvs bx) rfl rfl rfl rfl HO1.out HR4.out (by simp [bvs]) (dR _) (by simp only [maxLen]; omega) (by omega) (by omega) ?_; intro A5 c5 w5 hown5 hg5 _)
      go_roundw
      case rel =>
       refine ⟨k + 1, acc ++ bx, by omega, by go_num, HM3.out, by rw [List.length_append]; omega, ?_, ?_⟩
       ·
        unfold OwnB
        rw [List.length_append, gZ]
        exact hown5
       · exact HG1.out.grown hg5 (by rw [dF]; omega) fun j hj => by rw [dF]; exact bI HO1.out j hj
      case measure => simp [intOf]; omega
   ·
    have h2 : xs.length ≤ k := by omega
    have HM2 := Lib.hid (show fE (.mk true bs xs) = some (head acc.length 192 ++ acc) by
     rw [hd.out, HM.out, XP h2, gI]
     rfl)
    clear h1 HM
    go_wp2_with fail
    refine (yL acc.length 192 _ (by omega) (by omega)).mono ?_
    rintro e w1 ⟨v1, rfl, hg1, ho1⟩
    obtain ⟨A1, c1, rfl, he1, he2⟩ := cZ ho1
    have hhl : (head acc.length 192).length + acc.length ≤ 16777225 := by rw [iZ]; exact vN _ (by simp only [most]; omega)
    obtain ⟨_, _, he, _, _, hrd⟩ := OwnB.isB HO.out
    injection he with he3 _ he4
    subst he3 he4
    have HRD := Lib.hid (hrd.gr hg1)
    have HO1 := Lib.hid ho1
    have HG1 := Lib.hid (((ay w _).trans HB.out).trans hg1)
    have hz1 := HG1.out.size
    unfold maxLen at he2
    unfold OwnB at HO1
    generalize head acc.length 192 = hh at HM2 HO1 hhl he1 ⊢
    clear ho1 hg1 hrd
    go_wp2_with (at_builtin; refine aV (.tmp 66) (.tmp 67) 38 bK (base := w.heap.size) _ hh.length (bvs hh) _ acc.length _ _ (bvs acc) rfl rfl rfl rfl (own_base HO1.out (by omega)) HRD.out (by simp [bvs]) (dR _) (by simp only [maxLen]; omega) (by omega) (by omega) ?_; intro A2 c2 w2 hown2 hg2 _)
    refine bodyPost_ret (results_tmp2 rfl _ _ _) rfl ?_
    refine ⟨_, rfl, HG1.out.grown hg2 (by omega) fun j hj => bI (own_base HO1.out (by omega)) j hj, mX HM2.out rfl ?_⟩
    unfold OwnB; rw [List.length_append, gZ]; exact hown2
theorem LH (v : Value) (x : Raw) (w : World) (h : lF w v x) : Calls Tryz.prog 70 #[v] w (Ret (fun v w' => qY w.heap.size x v w') w) := by
 have hx := h
 obtain ⟨lst, bs, xs⟩ := x
 obtain ⟨vb, vl, rfl, ⟨A9, c9, rfl, _⟩, A, c, rows, rfl, _⟩ := iY h
 clear h
 generalize hr : Raw.mk lst bs xs = r at hx ⊢
 have hpr := tN r
 have HX := Lib.hid (hx.gr (ay w (.cells #[.bool lst, .slice A9 bs.length c9, .slice A xs.length c] 138)))
 have hdl := zN 32 r
 clear hx hr
 go_enter Tryz.func70, Tryz.ntmps70
 go_wp2_with fail
 refine (EJ 32 r _ _ (Nat.le_refl _) HX.out).mono ?_
 rintro e w1 ⟨_, rfl, hg1, rfl⟩
 have HG1 := Lib.hid ((ay w _).trans hg1)
 have HX1 := Lib.hid (HX.out.gr hg1)
 have e0 := hg1.cell (p := ⟨w.heap.size, 0, none⟩) (by simp)
 have e1 := hg1.cell (p := ⟨w.heap.size, 1, none⟩) (by simp)
 have e2 := hg1.cell (p := ⟨w.heap.size, 2, none⟩) (by simp)
 rw [cell_of_row (w.alloc _) _ _ _ _ (0, 0) (heap_alloc_new w _)] at e0 e1 e2
 simp at e0 e1 e2
 clear hg1 HX
 by_cases h3 : dP r 32 > 32
 ·
  have HP := Lib.hid (show packed r = none by rw [hpr, if_pos h3])
  clear hpr
  go_wp2_with fail
  refine bodyPost_ret (results_tmp2 rfl _ _ _) rfl ?_
  refine ⟨_, rfl, HG1.out, ?_⟩
  unfold qY
  rw [HP.out]
  rfl
 ·
  rw [if_neg h3] at hpr
  have HPR := Lib.hid hpr
  have h4 : dP r 32 ≤ 32 := by omega
  clear h3 hpr
  go_wp2_with fail
  refine (A8 _ r _ _ (Nat.lt_succ_self _) HX1.out).mono ?_
  rintro e w2 ⟨v2, rfl, hg2, hp2⟩
  have HG2 := Lib.hid (HG1.out.trans hg2)
  unfold qZ at hp2
  clear hg2 HX1 e0 e1 e2
  cases hpx : fE r with
  | none =>
   rw [hpx] at hp2 HPR
   dsimp only at hp2
   subst hp2
   have HP := Lib.hid (show packed r = none from HPR.out)
   clear hpx HPR
   go_wp2_with fail
   refine bodyPost_ret (results_tmp2 rfl _ _ _) rfl ?_
   refine ⟨_, rfl, HG2.out, ?_⟩
   unfold qY
   rw [HP.out]
   rfl
  | some b =>
   rw [hpx] at hp2 HPR
   obtain ⟨vb2, rfl, hown4⟩ := hp2
   obtain ⟨A4, c4, rfl, he1, he2, hr4⟩ := hown4.isB
   have HO4 := Lib.hid (own_base hown4 (base' := w.heap.size) HG1.out.size)
   clear hown4
   have hbx := E8 _ _ hpx
   simp only [most] at hbx
   have HR4 := Lib.hid hr4
   have he2' := Lib.hid he2
   unfold maxLen at he2
   clear hr4 hpx
   by_cases h5 : b.length > most
   ·
    have HP := Lib.hid (show packed r = none by rw [HPR.out]; dsimp only; rw [if_pos h5])
    simp only [most] at h5
    clear HPR
    go_wp2_with fail
    refine bodyPost_ret (results_tmp2 rfl _ _ _) rfl ?_
    refine ⟨_, rfl, HG2.out, ?_⟩
    unfold qY
    rw [HP.out]
    rfl
   ·
    have HP := Lib.hid (show packed r = some b by rw [HPR.out]; dsimp only; rw [if_neg h5])
    have h6 : b.length ≤ 16777216 := by simp only [most] at h5; omega
    clear HPR h5
    go_wp2_with fail
    refine bodyPost_ret (results_tmp2 rfl _ _ _) rfl ?_
    refine ⟨_, rfl, HG2.out, ?_⟩
    unfold qY
    rw [HP.out]
    exact ⟨_, rfl, HO4.out⟩

def ofN (n : Nat) : List UInt8 := pad (be n)
end Go.Proofs.YtelbhdobjdnglaaGreat
namespace Go.Proofs.YtelbhdobjdnglaaGreat
set_option linter.unusedVariables false
set_option maxRecDepth 20000
set_option maxHeartbeats 4000000
open Go.RowKit Mono Rlp
namespace E
theorem yT {ok : Nat → Prop} {w w' : World} {x : Raw} {v : Value} (h : qY w.heap.size x v w') : cO (fun b => (ok b ∨ w.heap.size ≤ b) ∧ b < w'.heap.size) w' (og (packed x)) v := by
 unfold qY at h
 unfold og
 cases hp : packed x with
 | none =>
  rw [hp] at h
  rw [h]
  exact Ri (jK rfl) (jK rfl)
 | some b =>
  rw [hp] at h
  obtain ⟨vb, rfl, ho⟩ := h
  have h1 := nI ho
  exact Ri ((bM rfl).2 (by rw [Reads]; exact ⟨_, rfl, h1.mono (fun b hb => y7 b hb) fun _ _ => rfl⟩)) (jK rfl)
theorem Qd (x : Raw) : Fn 150 [aO x] (· = og (packed x)) := ⟨fun ok w xs hok hr => by
 obtain ⟨v, rfl, h⟩ := rW hr
 refine (OE v x w (BJ hok h)).mono ?_
 rintro e w' ⟨v', rfl, hg, hv⟩
 exact ⟨hg, _, _, rfl, rfl, yT hv⟩⟩
theorem DN (x : Raw) : Fn 70 [aO x] (· = og (packed x)) := ⟨fun ok w xs hok hr => by
 obtain ⟨v, rfl, h⟩ := rW hr
 refine (LH v x w (BJ hok h)).mono ?_
 rintro e w' ⟨v', rfl, hg, hv⟩
 exact ⟨hg, _, _, rfl, rfl, yT hv⟩⟩
theorem mF (l : List UInt8) : Fn 85 [.bs l] (· = .val (aO (.mk false l []))) := by
 refine Fn.walk 5 Tryz.func85 rfl Tryz.ntmps85 (by simp) fun X => ?_
 repeat
  (first
   | (apply ak; iterate 3 rfl) | (apply eH; iterate 7 rfl) | (apply Ah; iterate 5 rfl) | (apply aT; rfl; rfl; rfl; intro _)
   | (apply aI; rfl; exact saA; iterate 4 rfl) | ((with_reducible apply EK.h0); apply EK.round) | apply EL.nil
   | ((with_reducible apply EK.FQ); rfl)
   | (with_reducible first | apply EK.nc | apply EC.seq | apply EC.r0 | apply EC.k0 | apply EC.label | apply EC.b0 | apply EC.x0 | apply EC.ret | apply EK.n0 | apply EK.s0 | apply EK.dK | apply EK.aG | apply EK.aY))
 refine EK.lC 0 rfl rfl rfl rfl ?_ rfl
 (exact RL.a)
theorem DR (xs : List Raw) : Fn 123 [.sl 3 (dL xs)] (· = .val (aO (.mk true [] xs))) := by
 refine Fn.walk 5 Tryz.func123 rfl Tryz.ntmps123 (by simp) fun X => ?_
 repeat
  (first
   | (apply ak; iterate 3 rfl) | (apply eH; iterate 7 rfl) | (apply Ah; iterate 5 rfl) | (apply aT; rfl; rfl; rfl; intro _)
   | (apply aI; rfl; exact saA; iterate 4 rfl) | ((with_reducible apply EK.h0); apply EK.round) | apply EL.nil
   | ((with_reducible apply EK.FQ); rfl)
   | (with_reducible first | apply EK.nc | apply EC.seq | apply EC.r0 | apply EC.k0 | apply EC.label | apply EC.b0 | apply EC.x0 | apply EC.ret | apply EK.n0 | apply EK.s0 | apply EK.dK | apply EK.aG | apply EK.aY))
 refine EK.lC 0 rfl rfl rfl rfl ?_ rfl
 (exact RL.a)
theorem FnM.WL {f : FuncId} {ds : List D} {os : List Obj} {Φ : R → List Obj → Prop} (e z : Nat) (h : FnM f ds os (fun r os' => ∃ v ds' rest, r = .val (.v v) ∧ os' = .row v e z ds' :: rest ∧ Φ (.val (.sl z ds')) rest)) : FnM f ds os Φ := ⟨fun ok w xs h1 h2 h3 => (h.go ok w xs h1 h2 h3).mono fun en w' ⟨u, r, os', e1, ⟨v, ds', rest, e2, e3, hΦ⟩, ht, hv⟩ => by
 subst e2 e3
 obtain rfl := (bg.1 hv).2
 have hk : ∀ b, okM ok os w (.row u e z ds' :: rest) w' b → okM ok os w rest w' b := fun b hb => ⟨hb.1, hb.2.1, fun o ho => hb.2.2 o (Xw _ ho)⟩
 obtain ⟨rows, ⟨g1, hmine⟩, g2⟩ := ht.at_ (.row u e z ds') List.mem_cons_self
 have hap := Yj.1 ht.apart
 refine ⟨u, .val (.sl z ds'), rest, e1, hΦ, ⟨ht.gr, hap.2, fun o ho => (ht.at_ o (Xw _ ho)).move hk (fun _ _ => rfl) fun _ _ => rfl⟩, ?_⟩
 obtain ⟨A, c, rfl, hc1, hc2⟩ := cZ g1
 refine (bM rfl).2 ?_
 rw [Reads]
 refine ⟨A, c, rows, rfl, hc1, hc2, fun e => by subst e; exact oh g1, fun hn => ?_, au.mono hk (fun _ _ => rfl) z ds' rows g2⟩
 obtain ⟨b, o, rfl, hb, hc⟩ := rV g1 hn
 exact ⟨b, o, rfl, ⟨(hmine b rfl).elim (fun h => .inr (.inl h)) (fun h => .inr (.inr h)), hb.2, fun p hp e => hap.1 p hp b rfl e⟩, hc⟩⟩
inductive Tn where
 | nil
 | leaf (p v : List UInt8)
 | ext (p : List UInt8) (k : Tn)
 | br (ks : Nat → Tn) (v : List UInt8)
def dT : Tn → D
 | .nil => .v .nilIface
 | .leaf p v => .ifc 233 (.pd (.tup [.bs p, .bs v]))
 | .ext p k => .ifc 237 (.pd (.tup [.bs p, dT k]))
 | .br ks v => .ifc 241 (.pd (.tup [.tup ((List.range 16).map fun i => dT (ks i)), .bs v]))
theorem I8 (t : Tn) : (dT t).size = 1 ∧ (dT t).agg = false := by cases t <;> exact ⟨rfl, rfl⟩
def pkB (x : Raw) : List UInt8 := (packed x).getD []
def nG (x : Raw) : Raw := if (pkB x).length < 32 then x else .mk false (hash (pkB x)) []
def Tn.isNil : Tn → Bool
 | .nil => true
 | _ => false
def gK : Tn → Raw
 | .nil => .mk true [] []
 | .leaf p v => .mk true [] [.mk false (ppk p true) [], .mk false v []]
 | .ext p k => .mk true [] [.mk false (ppk p false) [], if k.isNil then .mk false [] [] else nG (gK k)]
 | .br ks v => .mk true [] ((List.range 16).map (fun i => if (ks i).isNil then .mk false [] [] else nG (gK (ks i))) ++ [.mk false v []])
def mQ (t : Tn) : Raw := if t.isNil then .mk false [] [] else nG (gK t)
def sumT (t : Tn) : List UInt8 := if t.isNil then lY else hash (pkB (gK t))
def Tn.ok : Tn → Prop
 | .nil => True
 | .leaf p v => p.length ≤ 536870912
 | .ext p k => p.length ≤ 536870912 ∧ k.ok
 | .br ks v => ∀ i, (ks i).ok
theorem Og (l : List UInt8) : FnM 183 [.sl 1 [.bs l]] [] (fun r os' => ∃ v, r = .val (.v v) ∧ os' = [.row v 138 3 [aO (.mk false l [])]]) := by
 refine FnM.walk 19 Tryz.func183 rfl Tryz.ntmps183 (by simp) fun X => ?_
 repeat
  (first
   | (apply ak; iterate 3 rfl) | (apply ah; iterate 3 rfl) | (apply aJ; iterate 4 rfl) | apply EL.nil
   | (with_reducible first | apply EK.nc | apply EC.seq | apply EC.r0 | apply EC.b0))
 refine EC.le (Le.row 138 3) ?_
 refine EC.Ph 2 (EK.round ?_)
 repeat
  (first
   | (apply Af (d' := aO (.mk false l [])); (iterate 5 rfl); (focus ((exact RL.a))); iterate 2 rfl) | (apply ak; iterate 3 rfl) | (apply ah; iterate 3 rfl)
   | (apply aH; iterate 5 rfl) | (apply aC (b := true); (iterate 2 rfl); exact aK; iterate 2 rfl)
   | (apply aC (b := false); (iterate 2 rfl); exact aK; iterate 2 rfl) | (apply jh; (iterate 3 rfl); (focus omega); (focus omega); iterate 2 rfl)
   | (apply bT; (iterate 4 rfl); exact ixA; iterate 2 rfl)
   | (apply jF; iterate 9 rfl)
   | ((apply ig; rfl; exact saA; (iterate 5 rfl); (focus (constructor <;> (first | (simp; done) | (simp; omega))))); intro _)
   | ((with_reducible apply EK.h0); apply EK.round) | apply EL.nil | (apply EC.t0; rfl) | (apply EC.f0; rfl)
   | (with_reducible first | apply EK.nc | apply EC.seq | apply EC.r0 | apply EC.k0 | apply EC.b0 | apply EC.x0 | apply EC.ret | apply EK.n0 | apply EK.s0 | apply EK.aY))
 rename_i v
 exact EK.TW rfl rfl ⟨v, rfl, rfl⟩
theorem Ur (l m : List UInt8) : FnM 183 [.sl 1 [.bs l, .bs m]] [] (fun r os' => ∃ v, r = .val (.v v) ∧ os' = [.row v 138 3 [aO (.mk false l []), aO (.mk false m [])]]) := by
 refine FnM.walk 19 Tryz.func183 rfl Tryz.ntmps183 (by simp) fun X => ?_
 repeat
  (first
   | (apply ak; iterate 3 rfl) | (apply ah; iterate 3 rfl) | (apply aJ; iterate 4 rfl) | apply EL.nil
   | (with_reducible first | apply EK.nc | apply EC.seq | apply EC.r0 | apply EC.b0))
 refine EC.le (Le.row 138 3) ?_
 refine EC.Ph 3 (EK.round ?_)
 repeat
  (first
   | (apply Af (d' := aO (.mk false l [])); (iterate 5 rfl); (focus ((exact RL.a))); iterate 2 rfl)
   | (apply Af (d' := aO (.mk false m [])); (iterate 5 rfl); (focus ((exact RL.a))); iterate 2 rfl) | (apply ak; iterate 3 rfl) | (apply ah; iterate 3 rfl)
   | (apply aH; iterate 5 rfl) | (apply aC (b := true); (iterate 2 rfl); exact aK; iterate 2 rfl)
   | (apply aC (b := false); (iterate 2 rfl); exact aK; iterate 2 rfl) | (apply jh; (iterate 3 rfl); (focus omega); (focus omega); iterate 2 rfl)
   | (apply bT; (iterate 4 rfl); exact ixA; iterate 2 rfl)
   | (apply jF; iterate 9 rfl)
   | ((apply ig; rfl; exact saA; (iterate 5 rfl); (focus (constructor <;> (first | (simp; done) | (simp; omega))))); intro _)
   | ((with_reducible apply EK.h0); apply EK.round) | apply EL.nil | (apply EC.t0; rfl) | (apply EC.f0; rfl)
   | (with_reducible first | apply EK.nc | apply EC.seq | apply EC.r0 | apply EC.k0 | apply EC.b0 | apply EC.x0 | apply EC.ret | apply EK.n0 | apply EK.s0 | apply EK.aY))
 rename_i v
 exact EK.TW rfl rfl ⟨v, rfl, rfl⟩
theorem PW (l : List UInt8) : Fn 183 [.sl 1 [.bs l]] (· = .val (.sl 3 [aO (.mk false l [])])) :=
 (FnM.WL (Φ := fun r os' => r = .val (.sl 3 [aO (.mk false l [])]) ∧ os' = []) 138 3 ((Og l).mono fun r os' ⟨v, h1, h2⟩ => ⟨v, _, [], h1, h2, rfl, rfl⟩)).toFn
theorem PV (l m : List UInt8) : Fn 183 [.sl 1 [.bs l, .bs m]] (· = .val (.sl 3 [aO (.mk false l []), aO (.mk false m [])])) :=
 (FnM.WL (Φ := fun r os' => r = .val (.sl 3 [aO (.mk false l []), aO (.mk false m [])]) ∧ os' = []) 138 3 ((Ur l m).mono fun r os' ⟨v, h1, h2⟩ => ⟨v, _, [], h1, h2, rfl, rfl⟩)).toFn
theorem KE (T : TypeId) (d : D) : Bin .eql 110 (.ifc T d) (.v .nilIface) (.bool false) := by
 refine ⟨rfl, fun ok w p q hp hq => ?_⟩
 obtain rfl := (bg.1 hq).2
 obtain ⟨cs, h1, rfl⟩ := hp
 rw [Reads] at h1
 obtain ⟨cs', rfl, _⟩ := h1
 exact ⟨fun x y => by simp [eqGuard, form, D.agg], run_eql_held_nil _ _ _ _ (by kernel_rfl)⟩
theorem GN : Bin .eql 110 (.v .nilIface) (.v .nilIface) (.bool true) := by
 refine ⟨rfl, fun ok w p q hp hq => ?_⟩
 obtain rfl := (bg.1 hp).2
 obtain rfl := (bg.1 hq).2
 exact ⟨fun x y => by cases x <;> cases y <;> kernel_rfl, by kernel_rfl⟩
theorem Qm {t : Tn} (h : t.isNil = false) : ∃ T d, dT t = .ifc T d ∧ Nat.beq T 179 = false := by
 cases t with
 | nil => cases h
 | leaf p v => exact ⟨_, _, by rw [dT], rfl⟩
 | ext p k => exact ⟨_, _, by rw [dT], rfl⟩
 | br ks v => exact ⟨_, _, by rw [dT], rfl⟩
theorem ug (t : Tn) (h : Fn 151 [dT t] (· = .val (aO (gK t)))) : Fn 99 [dT t] (· = .val (.bs (pkB (gK t)))) := by
 have h1 := Qd (gK t)
 unfold pkB
 refine Fn.walk 12 Tryz.func99 rfl Tryz.ntmps99 (by simp) fun X => ?_
 cases hp : packed (gK t) with
 | none =>
  rw [hp] at h1
  repeat
   (first
    | (apply aA (h); rfl; exact aj.refl _ _; exact enA; iterate 2 rfl) | (apply aA (h1); rfl; exact aj.refl _ _; exact enA; iterate 2 rfl)
    | (apply ak; iterate 3 rfl) | (apply ah; iterate 3 rfl) | (apply aF; iterate 4 rfl) | apply EL.nil
    | (with_reducible first | apply EK.nc | apply EC.seq | apply EC.r0 | apply EC.ret))
  refine EK.V4 rfl rfl ?_ rfl
  (exact RL.a)
 | some b =>
  rw [hp] at h1
  repeat
   (first
    | (apply aA (h); rfl; exact aj.refl _ _; exact enA; iterate 2 rfl) | (apply aA (h1); rfl; exact aj.refl _ _; exact enA; iterate 2 rfl)
    | (apply ak; iterate 3 rfl) | (apply ah; iterate 3 rfl) | (apply aF; iterate 4 rfl) | apply EL.nil
    | (with_reducible first | apply EK.nc | apply EC.seq | apply EC.r0 | apply EC.ret))
  exact EK.lZ rfl rfl rfl
theorem Gq (t : Tn) (h : t.isNil = false → Fn 151 [dT t] (· = .val (aO (gK t)))) : Fn 184 [dT t] (· = .val (aO (mQ t))) := by
 unfold mQ
 cases hn : t.isNil with
 | true =>
  cases t with
  | nil =>
   rw [if_pos rfl]
   have hb := GN
   have e : dT Tn.nil = .v .nilIface := rfl
   rw [e]
   refine Fn.walk 31 Tryz.func184 rfl Tryz.ntmps184 (by simp) fun X => ?_
   repeat
    (first
     | (apply dW; (iterate 2 rfl); exact hb; iterate 2 rfl) | (apply ak; iterate 3 rfl) | (apply eH; iterate 7 rfl)
     | (apply aT; rfl; rfl; rfl; intro _) | (apply aI; rfl; exact saA; iterate 4 rfl) | apply EL.nil
     | (apply EC.t0; rfl) | (with_reducible first | apply EK.nc | apply EC.seq | apply EC.r0 | apply EC.ret | apply EK.aG))
   refine EK.lC 0 rfl rfl rfl rfl ?_ rfl
   (exact RL.a)
  | leaf p v => cases hn
  | ext p k => cases hn
  | br ks v => cases hn
 | false =>
  rw [if_neg (by decide)]
  have h1 := h hn
  have h2 := ug t h1
  obtain ⟨T, d, e, hne⟩ := Qm hn
  rw [e] at h1 h2 ⊢
  have hb := KE T d
  unfold nG
  refine Fn.walk 31 Tryz.func184 rfl Tryz.ntmps184 (by simp) fun X => ?_
  by_cases hl : (pkB (gK t)).length < 32
  ·
   rw [if_pos hl]
   have hli : ((pkB (gK t)).length : Int) < 32 := by omega
   generalize gK t = x at *
   obtain ⟨xb, xl, xs⟩ := x
   rw [aO] at h1
   repeat
    (first
     | (apply dW; (iterate 2 rfl); exact hb; iterate 2 rfl) | (apply iC; rfl; rfl; exact hne; iterate 3 rfl)
     | (apply aA (h2); rfl; exact aj.refl _ _; exact enA; iterate 2 rfl) | (apply aA (h1); rfl; exact aj.refl _ _; exact enA; iterate 2 rfl)
     | (apply ak; iterate 3 rfl) | (apply ah; iterate 3 rfl) | (apply aF; iterate 4 rfl)
     | (apply aC (b := true); (iterate 2 rfl); exact aK; iterate 2 rfl) | (apply aP; iterate 4 rfl) | (apply aT; rfl; rfl; rfl; intro _)
     | (apply aI; rfl; exact saA; iterate 4 rfl) | apply EL.nil
     | (apply EC.t0; rfl) | (apply EC.f0; rfl) | (with_reducible first | apply EK.nc | apply EC.seq | apply EC.r0 | apply EC.k0 | apply EC.ret | apply EK.aG))
   refine EK.lC 1 rfl rfl rfl rfl ?_ rfl
   (exact RL.a)
  ·
   rw [if_neg hl]
   have hli : ¬ ((pkB (gK t)).length : Int) < 32 := by omega
   have h3 := uZ (pkB (gK t))
   repeat
    (first
     | (apply dW; (iterate 2 rfl); exact hb; iterate 2 rfl) | (apply iC; rfl; rfl; exact hne; iterate 3 rfl)
     | (apply aA (h2); rfl; exact aj.refl _ _; exact enA; iterate 2 rfl) | (apply aA (h3); rfl; exact aj.refl _ _; exact enA; iterate 2 rfl)
     | (apply ak; iterate 3 rfl) | (apply ah; iterate 3 rfl) | (apply aF; iterate 4 rfl)
     | (apply aC (b := false); (iterate 2 rfl); exact aK; iterate 2 rfl) | (apply aP; iterate 4 rfl) | (apply jF; iterate 9 rfl)
     | (apply aT; rfl; rfl; rfl; intro _) | (apply aI; rfl; exact saA; iterate 4 rfl) | apply EL.nil
     | (apply EC.f0; rfl) | (with_reducible first | apply EK.nc | apply EC.seq | apply EC.r0 | apply EC.k0))
   refine EL.le (Le.pin (p := 6) (pre := []) rfl rfl) ?_
   repeat
    (first
     | (apply Jj rF; iterate 6 rfl) | (apply eH; iterate 7 rfl)
     | (apply aI; rfl; exact saA; iterate 4 rfl) | apply EL.nil | ((with_reducible apply EK.h0); apply EK.code)
     | (with_reducible apply EC.ret))
   refine EK.lC 1 rfl rfl rfl rfl ?_ rfl
   (exact RL.a)
theorem Qb (t : Tn) (h : t.isNil = false → Fn 151 [dT t] (· = .val (aO (gK t)))) : Fn 57 [dT t] (· = .val (.arr 32 (sumT t))) := by
 unfold sumT
 cases hn : t.isNil with
 | true =>
  cases t with
  | nil =>
   rw [if_pos rfl]
   have hb := GN
   have h1 := BZ
   have e : dT Tn.nil = .v .nilIface := rfl
   rw [e]
   refine Fn.walk 19 Tryz.func57 rfl Tryz.ntmps57 (by simp) fun X => ?_
   repeat
    (first
     | (apply dW; (iterate 2 rfl); exact hb; iterate 2 rfl) | (apply aA (h1); rfl; exact aj.refl _ _; exact enA; iterate 2 rfl) | (apply ak; iterate 3 rfl)
     | (apply aT; rfl; rfl; rfl; intro _) | (apply aI; rfl; exact saA; iterate 4 rfl) | apply EL.nil
     | (apply EC.t0; rfl) | (with_reducible first | apply EK.nc | apply EC.seq | apply EC.r0 | apply EC.ret | apply EK.aG))
   refine EK.lC 0 rfl rfl rfl rfl ?_ rfl
   (exact RL.a)
  | leaf p v => cases hn
  | ext p k => cases hn
  | br ks v => cases hn
 | false =>
  rw [if_neg (by decide)]
  have h2 := ug t (h hn)
  obtain ⟨T, d, e, hne⟩ := Qm hn
  rw [e] at h2 ⊢
  have hb := KE T d
  have h3 := uZ (pkB (gK t))
  refine Fn.walk 19 Tryz.func57 rfl Tryz.ntmps57 (by simp) fun X => ?_
  repeat
   (first
    | (apply dW; (iterate 2 rfl); exact hb; iterate 2 rfl) | (apply iC; rfl; rfl; exact hne; iterate 3 rfl)
    | (apply aA (h2); rfl; exact aj.refl _ _; exact enA; iterate 2 rfl) | (apply aA (h3); rfl; exact aj.refl _ _; exact enA; iterate 2 rfl)
    | (apply ak; iterate 3 rfl) | (apply ah; iterate 3 rfl) | (apply aF; iterate 4 rfl) | (apply jF; iterate 9 rfl)
    | (apply aT; rfl; rfl; rfl; intro _) | (apply aI; rfl; exact saA; iterate 4 rfl) | apply EL.nil
    | (apply EC.f0; rfl) | (with_reducible first | apply EK.nc | apply EC.seq | apply EC.r0 | apply EC.k0 | apply EC.ret))
  refine EK.lC 1 rfl rfl rfl rfl ?_ rfl
  (exact RL.a)
end E
end Go.Proofs.YtelbhdobjdnglaaGreat
