/-
 Merged (wip/tools/merge.py): RefPack, RefPack2, Packs, RefOwn, Num4, Num5, AB0, TP2, TP3.
 Conditions: none.
-/
import Derived.Test.YtiledgojbpmoiaaGreatZR15
import Derived.Laws.BitsAllLaws
import Derived.Test.YtiledgojbpmoiaaGreatZR14
import Derived.Test.YtiledgojbpmoiaaGreatZR11
import Derived.Test.YtiledgojbpmoiaaGreatZR7
import Derived.Test.YtiledgojbpmoiaaGreatZR8
import Derived.Test.YtiledgojbpmoiaaGreatZR12
namespace Go.Proofs.YtiledgojbpmoiaaGreat
set_option linter.unusedVariables false
set_option maxRecDepth 20000
set_option maxHeartbeats 4000000
open Go.RowKit Mono Rlp
theorem RD : ∀ (xs : List Raw) (m n k : Nat), n ≤ k → (∀ x ∈ xs, dO x m ≤ k) → maxD xs m n ≤ k := fun xs m n k h1 h2 => (maxD_le xs m n k).2 ⟨h1, h2⟩
theorem zH : ∀ (m : Nat) (r : Raw), dO r m ≤ m + 1
 | m, .mk false bs xs => by rw [dO]; omega
 | 0, .mk true bs xs => by rw [dO]; omega
 | m + 1, .mk true bs xs => by
  rw [dO]
  have := RD xs m 0 (m + 1) (by omega) fun x _ => zH m x
  omega
theorem Eu : ∀ (m : Nat) (r : Raw) (v : Value) (w : World), m ≤ 32 → lu w v r → Calls Tryz.prog 122 #[v, .int .i64 m] w (Ret (eqV (.int .i64 (dO r m))) w)
 | m, .mk false bs xs, v, w, hm, h => by
  obtain ⟨vb, vl, rfl, _, _⟩ := iQ h
  clear h
  have hd := Lib.hid (show dO (.mk false bs xs) m = 0 by rw [dO])
  go_enter Tryz.func122, Tryz.ntmps122
  go_wp2_with fail
  refine bodyPost_ret (results_tmp rfl _ _ _) rfl ?_
  exact ⟨_, rfl, aB w _, by rw [hd.out]; rfl⟩
 | 0, .mk true bs xs, v, w, hm, h => by
  obtain ⟨vb, vl, rfl, _, _⟩ := iQ h
  clear h
  have hd := Lib.hid (show dO (.mk true bs xs) 0 = 1 by rw [dO])
  go_enter Tryz.func122, Tryz.ntmps122
  go_wp2_with fail
  refine bodyPost_ret (results_tmp rfl _ _ _) rfl ?_
  exact ⟨_, rfl, aB w _, by rw [hd.out]; rfl⟩
 | m + 1, .mk true bs xs, v, w, hm, h => by
  have ih := Lib.hid (Eu m)
  obtain ⟨vb, vl, rfl, _, A, c, rows, rfl, hc1, hc2, _, hr, hi⟩ := iQ h
  have HR := Lib.hid hr
  have HI := Lib.hid hi
  have hd := Lib.hid (show dO (.mk true bs xs) (m + 1) = maxD xs m 0 + 1 by rw [dO])
  have hdm : (((m : Int) + 1) == 0) = false := by simp; omega
  rw [show ((m + 1 : Nat) : Int) = (m : Int) + 1 from rfl]
  unfold maxLen at hc2
  clear h hr hi
  go_enter Tryz.func122, Tryz.ntmps122
  go_wp2_with fail
  go_loopw [5, 6] (fun nv i wr => ∃ k n : Nat, k ≤ xs.length ∧ i = .int .i64 k ∧ nv = .int .i64 n ∧ n ≤ 33 ∧ maxD xs m 0 = maxD (xs.drop k) m n ∧ Gr (w.alloc (.cells #[.bool true, vb, .slice A xs.length c] 157)) wr) (fun _ i _ => xs.length - (intOf i).toNat)
  case atStart => exact ⟨0, 0, by omega, rfl, rfl, by omega, rfl, Gr.refl _⟩
  case round =>
   obtain ⟨k, n, hk, rfl, rfl, hn, hM, hb⟩ := hrel
   have HM := Lib.hid hM
   have HB := Lib.hid hb
   have hbs := hb.size
   have hcl := hb.cell (p := ⟨w.heap.size, 2, none⟩) (by simp)
   have hcl2 : (w.alloc (.cells #[.bool true, vb, .slice A xs.length c] 157)).cell? ⟨w.heap.size, 2, none⟩ = some (.slice A xs.length c) := by rw [cell_of_row _ _ _ _ _ (0, 0) (heap_alloc_new w _)]; rfl
   rw [hcl2] at hcl
   clear hM hb hcl2
   by_cases h1 : k < xs.length
   ·
    obtain ⟨bl, o, f, vb', vl, rfl, hbl, e1, e2, e3, hx, ⟨A2, n2, c2, rfl⟩, A', n', c', rfl⟩ := uz HR.out HI.out k h1
    have e1' := (((aB w _).trans HB.out).cell (p := ⟨bl, o + k * 3, none⟩) hbl).trans e1
    have e2' := (((aB w _).trans HB.out).cell (p := ⟨bl, o + k * 3 + 1, none⟩) hbl).trans e2
    have e3' := (((aB w _).trans HB.out).cell (p := ⟨bl, o + k * 3 + 2, none⟩) hbl).trans e3
    have HX := Lib.hid (hx.gr ((aB w _).trans HB.out))
    have hdk : xs.drop k = xs[k] :: xs.drop (k + 1) := List.drop_eq_getElem_cons h1
    have hdl := zH m xs[k]
    have HM2 := Lib.hid (show maxD xs m 0 = maxD (xs.drop (k + 1)) m (if dO xs[k] m > n then dO xs[k] m else n) by rw [HM.out, hdk, maxD])
    clear e1 e2 e3 hx hdk HM
    go_wp2_with fail
    refine (ih.out xs[k] _ _ (by omega) HX.out).mono ?_
    rintro e w1 ⟨_, rfl, hg1, rfl⟩
    have HG1 := Lib.hid (HB.out.trans hg1)
    clear hg1 e1' e2' e3' hcl
    by_cases h3 : dO xs[k] m > n
    ·
     have HM3 := Lib.hid (show maxD xs m 0 = maxD (xs.drop (k + 1)) m (dO xs[k] m) by rw [HM2.out, if_pos h3])
     clear HM2
     go_wp2_with fail
     go_roundw
     case rel => exact ⟨k + 1, _, by omega, by go_num, rfl, by omega, HM3.out, HG1.out⟩
     case measure => simp [intOf]; omega
    ·
     have HM3 := Lib.hid (show maxD xs m 0 = maxD (xs.drop (k + 1)) m n by rw [HM2.out, if_neg h3])
     clear HM2
     go_wp2_with fail
     go_roundw
     case rel => exact ⟨k + 1, _, by omega, by go_num, rfl, by omega, HM3.out, HG1.out⟩
     case measure => simp [intOf]; omega
   ·
    have h2 : xs.length ≤ k := by omega
    have HM2 := Lib.hid (show dO (.mk true bs xs) (m + 1) = n + 1 by rw [hd.out, HM.out, List.drop_eq_nil_of_le h2, maxD])
    clear h1 HM
    go_wp2_with fail
    refine bodyPost_ret (results_tmp rfl _ _ _) rfl ?_
    refine ⟨_, rfl, (aB w _).trans HB.out, ?_⟩
    rw [HM2.out]
    rfl
theorem yG (n base : Nat) (w : World) (hn : n ≤ 9223372036854775807) (hb : base ≤ 192) : Calls Tryz.prog 173 #[.int .i64 n, .int .i64 base] w (Ret (fun v w' => OwnB w' w.heap.size v (head n base)) w) := by
 have hlen := vH 8 n (by omega)
 by_cases h56 : n < 56
 ·
  have hs := Lib.hid (show head n base = [UInt8.ofNat (base + n)] from if_pos h56)
  clear hlen
  go_enter Tryz.func173, Tryz.ntmps173
  go_wp2
  refine bodyPost_ret (results_tmp rfl _ _ _) rfl ?_
  refine ⟨_, rfl, aB w _, ?_⟩
  rw [hs.out]
  have := iG w #[.int .u8 ((base : Int) + (n : Int))] 5 1 1 w.heap.size w.heap.size rfl (Nat.le_refl _) (by simp [maxLen]) rfl
  refine ownB_of this ?_
  rw [← Int.natCast_add, uS _ (by omega)]
  rfl
 ·
  have hs := Lib.hid (show head n base = UInt8.ofNat (base + 55 + (be n).length) :: be n from if_neg h56)
  have h57 : 55 < n := by omega
  clear h56
  go_enter Tryz.func173, Tryz.ntmps173
  go_wp2
  go_loopw [5, 6] (fun v i wr => ∃ (m : Nat) (acc : List UInt8), m ≤ n ∧ i = .int .i64 m ∧ acc.reverse ++ le m = le n ∧ acc.length ≤ 8 ∧ OwnB wr w.heap.size v acc ∧ Below w.heap.size w wr) (fun _ i _ => (intOf i).toNat)
  case atStart => exact ⟨n, [], Nat.le_refl _, rfl, rfl, by simp, OwnB.nil _ _, Below.refl _ _⟩
  case round =>
   obtain ⟨m, acc, hm, rfl, hacc, hal, hown, hb⟩ := hrel
   obtain ⟨A', c', rfl, hc1, hc2⟩ := dw hown
   obtain ⟨_, _, he, _, _, hrd⟩ := OwnB.isB hown
   injection he with he1 _ he2
   subst he1 he2
   have hbs := hb.size
   have HO := Lib.hid hown
   have HB := Lib.hid hb
   have HA := Lib.hid hacc
   have HRD := Lib.hid hrd
   clear hown hb hacc hrd
   unfold maxLen at hc2
   by_cases h1 : 0 < m
   ·
    have hle := Lib.hid (Dt m h1)
    have hal2 : acc.length + 1 ≤ 8 := by
     have h2 := congrArg List.length HA.out
     rw [hle.out, List.length_append, List.length_cons, List.length_reverse] at h2
     omega
    have hlow := IX m
    go_wp2_with (at_builtin; refine bg (.tmp 22) (.tmp 23) 30 bV (base := w.heap.size) _ 1 [.int .u8 ((m : Int) % 256)] _ acc.length _ _ (bvs acc) rfl rfl rfl rfl (iG wr #[.int .u8 ((m : Int) % 256)] 5 1 1 wr.heap.size w.heap.size rfl hbs (by simp [maxLen]) rfl) (HRD.out.below ((Below.refl _ _).alloc (Nat.le_refl _) _)) (by simp [bvs]) (eG _) (by simp only [maxLen]; omega) (by omega) (by simp; omega) ?_; intro A2 c2 w2 hown2 hg2 _)
    go_roundw
    case rel =>
     refine ⟨m / 256, UInt8.ofNat m :: acc, by omega, by go_num, ?_, by simp; omega, ?_, (HB.out.alloc hbs _).grown hg2 (by simp; omega) fun j hj => by cases hj; exact hbs⟩
     · rw [List.reverse_cons, List.append_assoc, List.singleton_append, ← hle.out, HA.out]
     ·
      rw [Qy] at hown2
      exact ownB_of hown2 rfl
    case measure => simp [intOf]; omega
   ·
    have HE : Hid (acc = be n) := by
     refine Lib.hid ?_
     have h2 := HA.out
     rw [show m = 0 by omega, le_zero, List.append_nil] at h2
     unfold be
     rw [← h2, List.reverse_reverse]
    clear HA
    go_wp2_with (at_builtin; refine bg (.tmp 31) (.tmp 32) 30 bV (base := w.heap.size) _ 1 [.int .u8 ((base : Int) + 55 + (acc.length : Int))] _ acc.length _ _ (bvs acc) rfl rfl rfl rfl (iG wr #[.int .u8 ((base : Int) + 55 + (acc.length : Int))] 5 1 1 wr.heap.size w.heap.size rfl hbs (by simp [maxLen]) rfl) (HRD.out.below ((Below.refl _ _).alloc (Nat.le_refl _) _)) (by simp [bvs]) (eG _) (by simp only [maxLen]; omega) (by omega) (by simp; omega) ?_; intro A2 c2 w2 hown2 hg2 _)
    refine bodyPost_ret (results_tmp rfl _ _ _) rfl ?_
    refine ⟨_, rfl, (HB.out.alloc hbs _).grown hg2 (by simp; omega) fun j hj => by cases hj; exact hbs, ?_⟩
    refine ownB_of hown2 ?_
    have e1 : ((base : Int) + 55 + (acc.length : Int)) = ((base + 55 + acc.length : Nat) : Int) := by simp
    rw [hs.out, ← HE.out, e1, uS _ (by omega)]
    rfl
theorem A8 : ∀ (xs : List Raw) (acc l : List UInt8), gK xs acc = some l → acc.length ≤ most → l.length ≤ most
 | [], acc, l, h, ha => by rw [gK] at h; rw [← Option.some.inj h]; exact ha
 | x :: xs, acc, l, h, ha => by
  rw [gK] at h
  cases hx : fD x with
  | none => rw [hx] at h; cases h
  | some j =>
   rw [hx] at h
   dsimp only at h
   split at h
   · cases h
   · exact A8 xs _ l h (by rw [List.length_append]; omega)
theorem Fj (r : Raw) (b : List UInt8) (h : fD r = some b) : b.length ≤ most + 9 := by
 obtain ⟨lst, bs, xs⟩ := r
 cases lst with
 | false =>
  rw [fD] at h
  split at h
  · cases h
  · rw [← Option.some.inj h, oC]; exact Ol bs (by omega)
 | true =>
  rw [fD] at h
  cases hm : gK xs [] with
  | none => rw [hm] at h; cases h
  | some l =>
   rw [hm] at h
   have := A8 xs [] l hm (by simp)
   rw [← Option.some.inj h, List.length_append, iR]
   exact uV _ this
def qI (base : Nat) (r : Raw) : VP := fun v w => match packed r with
 | some b => ∃ vb, v = .tuple #[vb, .int .i64 0] ∧ OwnB w base vb b
 | none => v = .tuple #[.slice none 0 0, .int .i64 3]
theorem MJ {r : Raw} {b : List UInt8} (h : packed r = some b) : b = E r ∧ b.length ≤ most := by
 unfold packed at h
 cases hm : meas r 0 with
 | none => rw [hm] at h; cases h
 | some n =>
  rw [hm] at h
  dsimp only at h
  split at h
  · cases h
  ·
   cases h
   have := yX r 0 n hm
   exact ⟨rfl, by omega⟩
theorem OJ (v : Value) (x : Raw) (w : World) (h : lu w v x) : Calls Tryz.prog 137 #[v] w (Ret (fun v w' => qI w.heap.size x v w') w) := by
 have hx := h
 obtain ⟨lst, bs, xs⟩ := x
 obtain ⟨vb, vl, rfl, ⟨A9, c9, rfl, _⟩, A, c, rows, rfl, _⟩ := iQ h
 clear h
 generalize hr : Raw.mk lst bs xs = r at hx ⊢
 have HX := Lib.hid hx
 clear hx
 go_enter Tryz.func137, Tryz.ntmps137
 go_wp2_with fail
 refine (Hy _ r _ (HX.out.gr (aB w _))).mono ?_
 rintro e w1 ⟨v1, rfl, hg1, ho1⟩
 have HG1 := Lib.hid ((aB w _).trans hg1)
 have HO1 := Lib.hid ho1
 clear hg1 ho1 HX
 go_wp2_with fail
 refine (wG 32 0 rfl r v1 _ HO1.out).mono ?_
 rintro e w2 ⟨v2, rfl, hg2, hm2⟩
 have HG2 := Lib.hid (HG1.out.trans hg2)
 have HO2 := Lib.hid (HO1.out.gr hg2)
 unfold wX at hm2
 clear hg2 HO1 HG1 hr
 cases hmx : meas r 0 with
 | none =>
  rw [hmx] at hm2
  obtain ⟨z, rfl⟩ := hm2
  have HP := Lib.hid (show packed r = none by unfold packed; rw [hmx])
  clear hmx
  go_wp2_with fail
  refine bodyPost_ret (results_tmp2 rfl _ _ _) rfl ?_
  refine ⟨_, rfl, HG2.out, ?_⟩
  unfold qI
  rw [HP.out]
  rfl
 | some n =>
  rw [hmx] at hm2
  dsimp only at hm2
  subst hm2
  have hn := JO _ _ _ hmx
  simp only [most] at hn
  by_cases h3 : n > most
  ·
   have HP := Lib.hid (show packed r = none by unfold packed; rw [hmx]; dsimp only; rw [if_pos h3])
   simp only [most] at h3
   clear hmx
   go_wp2_with fail
   refine bodyPost_ret (results_tmp2 rfl _ _ _) rfl ?_
   refine ⟨_, rfl, HG2.out, ?_⟩
   unfold qI
   rw [HP.out]
   rfl
  ·
   have HP := Lib.hid (show packed r = some (E r) by unfold packed; rw [hmx]; dsimp only; rw [if_neg h3])
   have hl := (MJ HP.out).2
   simp only [most] at h3
   have h4 : n ≤ 16777216 := by omega
   clear hmx h3
   go_wp2_with fail
   refine (AP _ r v1 _ (Nat.lt_succ_self _) hl HO2.out).mono ?_
   rintro e w3 ⟨v3, rfl, hg3, ho3⟩
   have HG3 := Lib.hid (HG2.out.trans hg3)
   have HO3 := Lib.hid (own_base ho3 HG2.out.size)
   clear hg3 ho3
   go_wp2_with fail
   refine bodyPost_ret (results_tmp2 rfl _ _ _) rfl ?_
   refine ⟨_, rfl, HG3.out, ?_⟩
   unfold qI
   rw [HP.out]
   exact ⟨v3, rfl, HO3.out⟩
theorem Iz {w w0 : World} {B g : Nat} (b : UInt8) (h : w = w0.alloc (.cells #[bv b] 5)) (hg : w0.heap.size = g) (hb : B ≤ w0.heap.size) : OwnB w B (.slice (some ⟨g, 0, none⟩) 1 1) [b] := by
 subst h
 unfold OwnB
 exact iG w0 #[bv b] 5 1 1 g B hg hb (by simp [maxLen]) (by simp)
def qJ (B : Nat) (r : Raw) : VP := fun v w => match fD r with
 | some b => ∃ vb, v = .tuple #[vb, .bool true] ∧ OwnB w B vb b
 | none => v = .tuple #[.slice none 0 0, .bool false]
theorem mJ {B : Nat} {r : Raw} {b : List UInt8} {v vb : Value} {w : World} (h : fD r = some b) (hv : v = .tuple #[vb, .bool true]) (hb : OwnB w B vb b) : qJ B r v w := by unfold qJ; rw [h]; exact ⟨vb, hv, hb⟩
theorem qj {B : Nat} {r : Raw} {v : Value} {w : World} (h : fD r = none) (hv : v = .tuple #[.slice none 0 0, .bool false]) : qJ B r v w := by unfold qJ; rw [h]; exact hv
theorem xg (vb vl : Value) (bs : List UInt8) (xs : List Raw) (w : World) (hv : IsB w vb bs) (hvl : ∃ A n c, vl = .slice A n c) : Calls Tryz.prog 123 #[.agg #[.bool false, vb, vl]] w (Ret (qJ w.heap.size (.mk false bs xs)) w) := by
 obtain ⟨A, c, rfl, hc1, hc2, hr⟩ := hv
 obtain ⟨A9, n9, c9, rfl⟩ := hvl
 have HR := Lib.hid (hr.gr (aB w (.cells #[.bool false, .slice A bs.length c, .slice A9 n9 c9] 157)))
 unfold maxLen at hc2
 by_cases h0 : bs.length ≤ most
 ·
  simp only [most] at h0
  by_cases h1 : bs.length = 1
  ·
   obtain ⟨b, rfl⟩ := List.length_eq_one_iff.1 h1
   obtain ⟨bl, o, rfl, hbl, hcell⟩ := hr (by simp [bvs])
   have e1 := hcell 0 (bv b) rfl
   rw [Nat.add_zero] at e1
   unfold bv at e1
   clear hcell h1 hr
   have hbl2 := lC b
   simp only [List.length_singleton] at hc1 ⊢
   by_cases h2 : b < 128
   ·
    have h3 : b.toNat < 128 := UInt8.lt_iff_toNat_lt.1 h2
    have HM := Lib.hid (show fD (.mk false [b] xs) = some [b] by rw [fD, if_neg (by simp [most]), EB, if_pos ⟨rfl, h2⟩])
    clear h2
    go_enter Tryz.func123, Tryz.ntmps123
    go_wp2_with fail
    refine bodyPost_ret (results_tmp2 rfl _ _ _) rfl ?_
    refine ⟨_, rfl, (aB w _).trans (aB _ _), mJ HM.out rfl ?_⟩
    exact Iz (g := w.heap.size + 1) b rfl (by simp) (aB w _).size
   ·
    have h3 : 128 ≤ b.toNat := Nat.not_lt.1 fun e => h2 (UInt8.lt_iff_toNat_lt.2 e)
    have HM := Lib.hid (show fD (.mk false [b] xs) = some (head 1 128 ++ [b]) by rw [fD, if_neg (by simp [most]), EB, if_neg (fun h => h2 h.2)]; rfl)
    clear h2
    go_enter Tryz.func123, Tryz.ntmps123
    go_wp2_with fail
    refine (yG 1 128 _ (by omega) (by omega)).mono ?_
    rintro e w1 ⟨v1, rfl, hg1, ho1⟩
    obtain ⟨A1, c1, rfl, hd1, hd2⟩ := dw ho1
    have hhl : (head 1 128).length + 1 ≤ 16777225 := by rw [iR]; exact uV 1 (by simp only [most]; omega)
    have HO1 := Lib.hid ho1
    have HG1 := Lib.hid ((aB w _).trans hg1)
    have HR1 := Lib.hid (HR.out.gr hg1)
    have hz1 := HG1.out.size
    unfold maxLen at hd2
    unfold OwnB at HO1
    generalize head 1 128 = hd at HM HO1 hhl hd1 ⊢
    clear ho1 hg1
    go_wp2_with (at_builtin; refine bg (.tmp 32) (.tmp 33) 30 bV (base := w.heap.size) _ hd.length (bvs hd) _ 1 c _ (bvs [b]) rfl rfl rfl rfl (own_base HO1.out (by simp)) HR1.out (by simp [bvs]) (eG _) (by simp only [maxLen]; omega) (by omega) (by omega) ?_; intro A2 c2 w2 hown2 hg2 _)
    refine bodyPost_ret (results_tmp2 rfl _ _ _) rfl ?_
    refine ⟨_, rfl, HG1.out.grown hg2 (by omega) fun j hj => bZ (own_base HO1.out (by simp)) j hj, mJ HM.out rfl ?_⟩
    unfold OwnB; rw [List.length_append, gZ]; exact hown2
  ·
   have hd : ((bs.length : Int) == 1) = false := by simp; omega
   have HM := Lib.hid (show fD (.mk false bs xs) = some (head bs.length 128 ++ bs) by rw [fD, if_neg (by simp only [most]; omega), EB, if_neg (fun h => h1 h.1)])
   clear h1 hr
   go_enter Tryz.func123, Tryz.ntmps123
   go_wp2_with fail
   refine (yG bs.length 128 _ (by omega) (by omega)).mono ?_
   rintro e w1 ⟨v1, rfl, hg1, ho1⟩
   obtain ⟨A1, c1, rfl, hd1, hd2⟩ := dw ho1
   have hhl : (head bs.length 128).length + bs.length ≤ 16777225 := by rw [iR]; exact uV bs.length (by simp only [most]; omega)
   have HO1 := Lib.hid ho1
   have HG1 := Lib.hid ((aB w _).trans hg1)
   have HR1 := Lib.hid (HR.out.gr hg1)
   have hz1 := HG1.out.size
   unfold maxLen at hd2
   unfold OwnB at HO1
   generalize head bs.length 128 = hd at HM HO1 hhl hd1 ⊢
   clear ho1 hg1
   go_wp2_with (at_builtin; refine bg (.tmp 32) (.tmp 33) 30 bV (base := w.heap.size) _ hd.length (bvs hd) _ bs.length c _ (bvs bs) rfl rfl rfl rfl (own_base HO1.out (by simp)) HR1.out (by simp [bvs]) (eG _) (by simp only [maxLen]; omega) (by omega) (by omega) ?_; intro A2 c2 w2 hown2 hg2 _)
   refine bodyPost_ret (results_tmp2 rfl _ _ _) rfl ?_
   refine ⟨_, rfl, HG1.out.grown hg2 (by omega) fun j hj => bZ (own_base HO1.out (by simp)) j hj, mJ HM.out rfl ?_⟩
   unfold OwnB; rw [List.length_append, gZ]; exact hown2
 ·
  have h3 : 16777216 < bs.length := by simp only [most] at h0; omega
  have HM := Lib.hid (show fD (.mk false bs xs) = none by rw [fD, if_pos (by omega)])
  clear h0 hr
  go_enter Tryz.func123, Tryz.ntmps123
  go_wp2_with fail
  refine bodyPost_ret (results_tmp2 rfl _ _ _) rfl ?_
  exact ⟨_, rfl, aB w _, qj HM.out rfl⟩
theorem AQ : ∀ (n : Nat) (r : Raw) (v : Value) (w : World), cnt r < n → lu w v r → Calls Tryz.prog 123 #[v] w (Ret (qJ w.heap.size r) w)
 | 0, r, v, w, hn, _ => by omega
 | n + 1, .mk false bs xs, v, w, hn, h => by
  obtain ⟨vb, vl, rfl, h1, A, c, _, rfl, _⟩ := iQ h
  exact xg vb _ bs xs w h1 ⟨_, _, _, rfl⟩
 | n + 1, .mk true bs xs, v, w, hn, h => by
  have ih := Lib.hid (AQ n)
  obtain ⟨vb, vl, rfl, ⟨A9, c9, rfl, _⟩, A, c, rows, rfl, hc1, hc2, _, hr, hi⟩ := iQ h
  have HR := Lib.hid hr
  have HI := Lib.hid hi
  have hd := Lib.hid (show fD (.mk true bs xs) = (gK xs []).map fun l => head l.length 192 ++ l by rw [fD])
  rw [cnt] at hn
  unfold maxLen at hc2
  clear h hr hi
  go_enter Tryz.func123, Tryz.ntmps123
  go_wp2_with fail
  go_loopw [5, 6] (fun ov i wr => ∃ (k : Nat) (acc : List UInt8), k ≤ xs.length ∧ i = .int .i64 k ∧ gK xs [] = gK (xs.drop k) acc ∧ acc.length ≤ 16777216 ∧ OwnB wr (w.heap.size + 1) ov acc ∧ Gr (w.alloc (.cells #[.bool true, .slice A9 bs.length c9, .slice A xs.length c] 157)) wr) (fun _ i _ => xs.length - (intOf i).toNat)
  case atStart => exact ⟨0, [], by omega, rfl, rfl, by simp, OwnB.nil _ _, Gr.refl _⟩
  case round =>
   obtain ⟨k, acc, hk, rfl, hM, hal, hown, hb⟩ := hrel
   obtain ⟨A3, c3, rfl, hd1, hd2⟩ := dw hown
   have HM := Lib.hid hM
   have HO := Lib.hid hown
   have HB := Lib.hid hb
   have hbs := hb.size
   have hcl := hb.cell (p := ⟨w.heap.size, 2, none⟩) (by simp)
   have hcl2 : (w.alloc (.cells #[.bool true, .slice A9 bs.length c9, .slice A xs.length c] 157)).cell? ⟨w.heap.size, 2, none⟩ = some (.slice A xs.length c) := by rw [cell_of_row _ _ _ _ _ (0, 0) (heap_alloc_new w _)]; rfl
   rw [hcl2] at hcl
   simp only [eH] at hbs
   unfold maxLen at hd2
   clear hM hown hb hcl2
   by_cases h1 : k < xs.length
   ·
    obtain ⟨bl, o, f, vb', vl, rfl, hbl, e1, e2, e3, hx, ⟨A2, n2, c2, rfl⟩, A', n', c', rfl⟩ := uz HR.out HI.out k h1
    have e1' := (((aB w _).trans HB.out).cell (p := ⟨bl, o + k * 3, none⟩) hbl).trans e1
    have e2' := (((aB w _).trans HB.out).cell (p := ⟨bl, o + k * 3 + 1, none⟩) hbl).trans e2
    have e3' := (((aB w _).trans HB.out).cell (p := ⟨bl, o + k * 3 + 2, none⟩) hbl).trans e3
    have HX := Lib.hid (hx.gr ((aB w _).trans HB.out))
    have hdk : xs.drop k = xs[k] :: xs.drop (k + 1) := List.drop_eq_getElem_cons h1
    have hcnt := Kz xs k h1
    have HM2 := Lib.hid (show gK xs [] = match fD xs[k] with | none => none | some b => if acc.length + b.length > most then none else gK (xs.drop (k + 1)) (acc ++ b) by
     rw [HM.out, hdk, gK]
     cases fD xs[k] <;> rfl)
    clear e1 e2 e3 hx hdk HM
    go_wp2_with fail
    refine (ih.out xs[k] _ _ (by omega) HX.out).mono ?_
    rintro e w1 ⟨v1, rfl, hg1, hp1⟩
    have HG1 := Lib.hid (HB.out.trans hg1)
    have HO1 := Lib.hid (ql HO.out hg1)
    have hz1 := HG1.out.size
    simp only [eH] at hz1
    unfold qJ at hp1
    clear hg1 e1' e2' e3' hcl HO hcnt
    cases hpx : fD xs[k] with
    | none =>
     rw [hpx] at HM2 hp1
     dsimp only at hp1
     subst hp1
     have HM3 := Lib.hid (show fD (.mk true bs xs) = none by rw [hd.out, HM2.out]; rfl)
     clear HM2 hpx
     go_wp2_with fail
     refine bodyPost_ret (results_tmp2 rfl _ _ _) rfl ?_
     exact ⟨_, rfl, (aB w _).trans HG1.out, qj HM3.out rfl⟩
    | some bx =>
     rw [hpx] at HM2 hp1
     obtain ⟨vbx, rfl, hown4⟩ := hp1
     obtain ⟨A4, c4, rfl, he1, he2, hr4⟩ := hown4.isB
     clear hown4
     have HR4 := Lib.hid hr4
     have hbx := Fj _ _ hpx
     simp only [most] at hbx
     unfold maxLen at he2
     clear hr4 hpx
     by_cases h3 : acc.length + bx.length > 16777216
     ·
      have HM3 := Lib.hid (show fD (.mk true bs xs) = none by rw [hd.out, HM2.out]; dsimp only; rw [if_pos h3]; rfl)
      clear HM2
      go_wp2_with fail
      refine bodyPost_ret (results_tmp2 rfl _ _ _) rfl ?_
      exact ⟨_, rfl, (aB w _).trans HG1.out, qj HM3.out rfl⟩
     ·
      have HM3 := Lib.hid (show gK xs [] = gK (xs.drop (k + 1)) (acc ++ bx) by rw [HM2.out]; dsimp only; rw [if_neg h3])
      clear HM2
      go_wp2_with (at_builtin; refine bg _ _ 30 bV _ _ _ _ _ _ _ (bvs bx) rfl rfl rfl rfl HO1.out HR4.out (by simp [bvs]) (eG _) (by simp only [maxLen]; omega) (by omega) (by omega) ?_; intro A5 c5 w5 hown5 hg5 _)
      go_roundw
      case rel =>
       refine ⟨k + 1, acc ++ bx, by omega, by go_num, HM3.out, by rw [List.length_append]; omega, ?_, ?_⟩
       ·
        unfold OwnB
        rw [List.length_append, gZ]
        exact hown5
       · exact HG1.out.grown hg5 (by rw [eH]; omega) fun j hj => by rw [eH]; exact bZ HO1.out j hj
      case measure => simp [intOf]; omega
   ·
    have h2 : xs.length ≤ k := by omega
    have HM2 := Lib.hid (show fD (.mk true bs xs) = some (head acc.length 192 ++ acc) by
     rw [hd.out, HM.out, List.drop_eq_nil_of_le h2, gK]
     rfl)
    clear h1 HM
    go_wp2_with fail
    refine (yG acc.length 192 _ (by omega) (by omega)).mono ?_
    rintro e w1 ⟨v1, rfl, hg1, ho1⟩
    obtain ⟨A1, c1, rfl, he1, he2⟩ := dw ho1
    have hhl : (head acc.length 192).length + acc.length ≤ 16777225 := by rw [iR]; exact uV _ (by simp only [most]; omega)
    obtain ⟨_, _, he, _, _, hrd⟩ := OwnB.isB HO.out
    injection he with he3 _ he4
    subst he3 he4
    have HRD := Lib.hid (hrd.gr hg1)
    have HO1 := Lib.hid ho1
    have HG1 := Lib.hid (((aB w _).trans HB.out).trans hg1)
    have hz1 := HG1.out.size
    unfold maxLen at he2
    unfold OwnB at HO1
    generalize head acc.length 192 = hh at HM2 HO1 hhl he1 ⊢
    clear ho1 hg1 hrd
    go_wp2_with (at_builtin; refine bg (.tmp 66) (.tmp 67) 30 bV (base := w.heap.size) _ hh.length (bvs hh) _ acc.length _ _ (bvs acc) rfl rfl rfl rfl (own_base HO1.out (by omega)) HRD.out (by simp [bvs]) (eG _) (by simp only [maxLen]; omega) (by omega) (by omega) ?_; intro A2 c2 w2 hown2 hg2 _)
    refine bodyPost_ret (results_tmp2 rfl _ _ _) rfl ?_
    refine ⟨_, rfl, HG1.out.grown hg2 (by omega) fun j hj => bZ (own_base HO1.out (by omega)) j hj, mJ HM2.out rfl ?_⟩
    unfold OwnB; rw [List.length_append, gZ]; exact hown2
theorem LM (v : Value) (x : Raw) (w : World) (h : lu w v x) : Calls Tryz.prog 77 #[v] w (Ret (fun v w' => qI w.heap.size x v w') w) := by
 have hx := h
 obtain ⟨lst, bs, xs⟩ := x
 obtain ⟨vb, vl, rfl, ⟨A9, c9, rfl, _⟩, A, c, rows, rfl, _⟩ := iQ h
 clear h
 generalize hr : Raw.mk lst bs xs = r at hx ⊢
 have hpr := sN r
 have HX := Lib.hid (hx.gr (aB w (.cells #[.bool lst, .slice A9 bs.length c9, .slice A xs.length c] 157)))
 have hdl := zH 32 r
 clear hx hr
 go_enter Tryz.func77, Tryz.ntmps77
 go_wp2_with fail
 refine (Eu 32 r _ _ (Nat.le_refl _) HX.out).mono ?_
 rintro e w1 ⟨_, rfl, hg1, rfl⟩
 have HG1 := Lib.hid ((aB w _).trans hg1)
 have HX1 := Lib.hid (HX.out.gr hg1)
 have e0 := hg1.cell (p := ⟨w.heap.size, 0, none⟩) (by simp)
 have e1 := hg1.cell (p := ⟨w.heap.size, 1, none⟩) (by simp)
 have e2 := hg1.cell (p := ⟨w.heap.size, 2, none⟩) (by simp)
 rw [cell_of_row (w.alloc _) _ _ _ _ (0, 0) (heap_alloc_new w _)] at e0 e1 e2
 simp at e0 e1 e2
 clear hg1 HX
 by_cases h3 : dO r 32 > 32
 ·
  have HP := Lib.hid (show packed r = none by rw [hpr, if_pos h3])
  clear hpr
  go_wp2_with fail
  refine bodyPost_ret (results_tmp2 rfl _ _ _) rfl ?_
  refine ⟨_, rfl, HG1.out, ?_⟩
  unfold qI
  rw [HP.out]
  rfl
 ·
  rw [if_neg h3] at hpr
  have HPR := Lib.hid hpr
  have h4 : dO r 32 ≤ 32 := by omega
  clear h3 hpr
  go_wp2_with fail
  refine (AQ _ r _ _ (Nat.lt_succ_self _) HX1.out).mono ?_
  rintro e w2 ⟨v2, rfl, hg2, hp2⟩
  have HG2 := Lib.hid (HG1.out.trans hg2)
  unfold qJ at hp2
  clear hg2 HX1 e0 e1 e2
  cases hpx : fD r with
  | none =>
   rw [hpx] at hp2 HPR
   dsimp only at hp2
   subst hp2
   have HP := Lib.hid (show packed r = none from HPR.out)
   clear hpx HPR
   go_wp2_with fail
   refine bodyPost_ret (results_tmp2 rfl _ _ _) rfl ?_
   refine ⟨_, rfl, HG2.out, ?_⟩
   unfold qI
   rw [HP.out]
   rfl
  | some b =>
   rw [hpx] at hp2 HPR
   obtain ⟨vb2, rfl, hown4⟩ := hp2
   obtain ⟨A4, c4, rfl, he1, he2, hr4⟩ := hown4.isB
   have HO4 := Lib.hid (own_base hown4 (base' := w.heap.size) HG1.out.size)
   clear hown4
   have hbx := Fj _ _ hpx
   simp only [most] at hbx
   have HR4 := Lib.hid hr4
   have he2' := Lib.hid he2
   unfold maxLen at he2
   clear hr4 hpx
   by_cases h5 : b.length > most
   ·
    have HP := Lib.hid (show packed r = none by rw [HPR.out]; dsimp only; rw [if_pos h5])
    simp only [most] at h5
    clear HPR
    go_wp2_with fail
    refine bodyPost_ret (results_tmp2 rfl _ _ _) rfl ?_
    refine ⟨_, rfl, HG2.out, ?_⟩
    unfold qI
    rw [HP.out]
    rfl
   ·
    have HP := Lib.hid (show packed r = some b by rw [HPR.out]; dsimp only; rw [if_neg h5])
    have h6 : b.length ≤ 16777216 := by simp only [most] at h5; omega
    clear HPR h5
    go_wp2_with fail
    refine bodyPost_ret (results_tmp2 rfl _ _ _) rfl ?_
    refine ⟨_, rfl, HG2.out, ?_⟩
    unfold qI
    rw [HP.out]
    exact ⟨_, rfl, HO4.out⟩

def ofN (n : Nat) : List UInt8 := pad (be n)
end Go.Proofs.YtiledgojbpmoiaaGreat
namespace Go.Proofs.YtiledgojbpmoiaaGreat
set_option linter.unusedVariables false
set_option maxRecDepth 20000
set_option maxHeartbeats 4000000
open Go.RowKit Mono Rlp
namespace E
theorem yQ {ok : Nat → Prop} {w w' : World} {x : Raw} {v : Value} (h : qI w.heap.size x v w') : bY (fun b => (ok b ∨ w.heap.size ≤ b) ∧ b < w'.heap.size) w' (nM (packed x)) v := by
 unfold qI at h
 unfold nM
 cases hp : packed x with
 | none =>
  rw [hp] at h
  rw [h]
  exact Uh (jG rfl) (jG rfl)
 | some b =>
  rw [hp] at h
  obtain ⟨vb, rfl, ho⟩ := h
  have h1 := sO ho
  exact Uh ((bP rfl).2 (by rw [Reads]; exact ⟨_, rfl, h1.mono (fun b hb => FC b hb) fun _ _ => rfl⟩)) (jG rfl)
theorem Qj (x : Raw) : Fn 137 [aW x] (· = nM (packed x)) := ⟨fun ok w xs hok hr => by
 obtain ⟨v, rfl, h⟩ := um hr
 refine (OJ v x w (Bz hok h)).mono ?_
 rintro e w' ⟨v', rfl, hg, hv⟩
 exact ⟨hg, _, _, rfl, rfl, yQ hv⟩⟩
theorem DI (x : Raw) : Fn 77 [aW x] (· = nM (packed x)) := ⟨fun ok w xs hok hr => by
 obtain ⟨v, rfl, h⟩ := um hr
 refine (LM v x w (Bz hok h)).mono ?_
 rintro e w' ⟨v', rfl, hg, hv⟩
 exact ⟨hg, _, _, rfl, rfl, yQ hv⟩⟩
theorem nX (l : List UInt8) : Fn 80 [.bs l] (· = .val (aW (.mk false l []))) := by
 refine Fn.walk 5 Tryz.func80 rfl Tryz.ntmps80 (by simp) fun X => ?_
 repeat
  (first
   | (apply au; iterate 3 rfl) | (apply eU; iterate 7 rfl) | (apply aZ; rfl; rfl; rfl; intro _)
   | (apply aN; rfl; (focus (repeat first | exact .z | apply bC.s | apply aP.s)); iterate 4 rfl) | apply EL.nil | ((with_reducible apply EK.ah); apply EK.code)
   | (with_reducible first | apply EC.seq | apply EC.region | apply EC.ret))
 refine EK.kZ 0 rfl rfl rfl rfl ?_ rfl
 (exact RL.a)
theorem DJ (xs : List Raw) : Fn 125 [.sl 3 (eY xs)] (· = .val (aW (.mk true [] xs))) := by
 refine Fn.walk 5 Tryz.func125 rfl Tryz.ntmps125 (by simp) fun X => ?_
 repeat
  (first
   | (apply au; iterate 3 rfl) | (apply eU; iterate 7 rfl) | (apply aZ; rfl; rfl; rfl; intro _)
   | (apply aN; rfl; (focus (repeat first | exact .z | apply bC.s | apply aP.s)); iterate 4 rfl) | apply EL.nil | ((with_reducible apply EK.ah); apply EK.code)
   | (with_reducible first | apply EC.seq | apply EC.region | apply EC.ret))
 refine EK.kZ 0 rfl rfl rfl rfl ?_ rfl
 (exact RL.a)
theorem FnM.Wq {f : FuncId} {ds : List D} {os : List Obj} {Φ : R → List Obj → Prop} (e z : Nat) (h : FnM f ds os (fun r os' => ∃ v ds' rest, r = .val (.v v) ∧ os' = .row v e z ds' :: rest ∧ Φ (.val (.sl z ds')) rest)) : FnM f ds os Φ := ⟨fun ok w xs h1 h2 h3 => (h.go ok w xs h1 h2 h3).mono fun en w' ⟨u, r, os', e1, ⟨v, ds', rest, e2, e3, hΦ⟩, ht, hv⟩ => by
 subst e2 e3
 obtain rfl := (bF.1 hv).2
 have hk : ∀ b, okM ok os w (.row u e z ds' :: rest) w' b → okM ok os w rest w' b := fun b hb => ⟨hb.1, hb.2.1, fun o ho => hb.2.2 o (List.mem_cons_of_mem _ ho)⟩
 obtain ⟨rows, ⟨g1, hmine⟩, g2⟩ := ht.at_ (.row u e z ds') List.mem_cons_self
 have hap := List.pairwise_cons.1 ht.apart
 refine ⟨u, .val (.sl z ds'), rest, e1, hΦ, ⟨ht.gr, hap.2, fun o ho => (ht.at_ o (List.mem_cons_of_mem _ ho)).move hk (fun _ _ => rfl) fun _ _ => rfl⟩, ?_⟩
 obtain ⟨A, c, rfl, hc1, hc2⟩ := dw g1
 refine (bP rfl).2 ?_
 rw [Reads]
 refine ⟨A, c, rows, rfl, hc1, hc2, fun e => by subst e; exact uj g1, fun hn => ?_, ay.mono hk (fun _ _ => rfl) z ds' rows g2⟩
 obtain ⟨b, o, rfl, hb, hc⟩ := xH g1 hn
 exact ⟨b, o, rfl, ⟨(hmine b rfl).elim (fun h => .inr (.inl h)) (fun h => .inr (.inr h)), hb.2, fun p hp e => hap.1 p hp b rfl e⟩, hc⟩⟩
inductive Tn where
 | nil
 | leaf (p v : List UInt8)
 | ext (p : List UInt8) (k : Tn)
 | br (ks : Nat → Tn) (v : List UInt8)
def dT : Tn → D
 | .nil => .v .nilIface
 | .leaf p v => .ifc 233 (.pd (.tup [.bs p, .bs v]))
 | .ext p k => .ifc 237 (.pd (.tup [.bs p, dT k]))
 | .br ks v => .ifc 241 (.pd (.tup [.tup ((List.range 16).map fun i => dT (ks i)), .bs v]))
theorem jg (t : Tn) : (dT t).size = 1 ∧ (dT t).agg = false := by cases t <;> exact ⟨rfl, rfl⟩
def pkB (x : Raw) : List UInt8 := (packed x).getD []
def oI (x : Raw) : Raw := if (pkB x).length < 32 then x else .mk false (hash (pkB x)) []
def Tn.isNil : Tn → Bool
 | .nil => true
 | _ => false
def eu : Tn → Raw
 | .nil => .mk true [] []
 | .leaf p v => .mk true [] [.mk false (ppk p true) [], .mk false v []]
 | .ext p k => .mk true [] [.mk false (ppk p false) [], if k.isNil then .mk false [] [] else oI (eu k)]
 | .br ks v => .mk true [] ((List.range 16).map (fun i => if (ks i).isNil then .mk false [] [] else oI (eu (ks i))) ++ [.mk false v []])
def mF (t : Tn) : Raw := if t.isNil then .mk false [] [] else oI (eu t)
def sumT (t : Tn) : List UInt8 := if t.isNil then kE else hash (pkB (eu t))
def Tn.ok : Tn → Prop
 | .nil => True
 | .leaf p v => p.length ≤ 536870912
 | .ext p k => p.length ≤ 536870912 ∧ k.ok
 | .br ks v => ∀ i, (ks i).ok
theorem Oi (l : List UInt8) : FnM 185 [.sl 1 [.bs l]] [] (fun r os' => ∃ v, r = .val (.v v) ∧ os' = [.row v 157 3 [aW (.mk false l [])]]) := by
 refine FnM.walk 19 Tryz.func185 rfl Tryz.ntmps185 (by simp) fun X => ?_
 repeat
  (first
   | (apply au; iterate 3 rfl) | (apply ak; iterate 3 rfl) | (apply aJ; iterate 4 rfl) | apply EL.nil | ((with_reducible apply EK.ah); apply EK.code)
   | (with_reducible first | apply EC.seq | apply EC.region | apply EC.block))
 refine EC.le (Le.row 157 3) ?_
 refine EC.Pv 2 (EK.round ?_)
 repeat
  (first
   | (apply zZ (d' := aW (.mk false l [])); (iterate 5 rfl); (focus ((exact RL.a))); iterate 2 rfl) | (apply au; iterate 3 rfl) | (apply ak; iterate 3 rfl)
   | (apply aK; iterate 5 rfl) | (apply aC (b := true); (iterate 2 rfl); exact aO; iterate 2 rfl)
   | (apply aC (b := false); (iterate 2 rfl); exact aO; iterate 2 rfl) | (apply jd; (iterate 3 rfl); (focus omega); (focus omega); iterate 2 rfl)
   | (apply bJ; (iterate 4 rfl); (focus (first | exact ⟨by decide, rfl⟩ | (refine ⟨by omega, ?_⟩; rw [Int.toNat_natCast]; assumption))); iterate 2 rfl)
   | (apply jD; iterate 9 rfl)
   | ((apply je; rfl; (focus (repeat first | exact .z | apply bC.s | apply aP.s)); (iterate 5 rfl); (focus (constructor <;> (first | (simp; done) | (simp; omega))))); intro _)
   | ((with_reducible apply EK.ah); apply EK.round) | apply EL.nil | ((with_reducible apply EK.ah); apply EK.code) | (apply EC.cond_true; rfl) | (apply EC.cond_false; rfl)
   | (with_reducible first | apply EC.seq | apply EC.region | apply EC.skip | apply EC.block | apply EC.exit | apply EC.ret | apply EK.aI | apply EK.bG | apply EK.aQ))
 rename_i v
 exact EK.TK rfl rfl ⟨v, rfl, rfl⟩
theorem Ui (l m : List UInt8) : FnM 185 [.sl 1 [.bs l, .bs m]] [] (fun r os' => ∃ v, r = .val (.v v) ∧ os' = [.row v 157 3 [aW (.mk false l []), aW (.mk false m [])]]) := by
 refine FnM.walk 19 Tryz.func185 rfl Tryz.ntmps185 (by simp) fun X => ?_
 repeat
  (first
   | (apply au; iterate 3 rfl) | (apply ak; iterate 3 rfl) | (apply aJ; iterate 4 rfl) | apply EL.nil | ((with_reducible apply EK.ah); apply EK.code)
   | (with_reducible first | apply EC.seq | apply EC.region | apply EC.block))
 refine EC.le (Le.row 157 3) ?_
 refine EC.Pv 3 (EK.round ?_)
 repeat
  (first
   | (apply zZ (d' := aW (.mk false l [])); (iterate 5 rfl); (focus ((exact RL.a))); iterate 2 rfl)
   | (apply zZ (d' := aW (.mk false m [])); (iterate 5 rfl); (focus ((exact RL.a))); iterate 2 rfl) | (apply au; iterate 3 rfl) | (apply ak; iterate 3 rfl)
   | (apply aK; iterate 5 rfl) | (apply aC (b := true); (iterate 2 rfl); exact aO; iterate 2 rfl)
   | (apply aC (b := false); (iterate 2 rfl); exact aO; iterate 2 rfl) | (apply jd; (iterate 3 rfl); (focus omega); (focus omega); iterate 2 rfl)
   | (apply bJ; (iterate 4 rfl); (focus (first | exact ⟨by decide, rfl⟩ | (refine ⟨by omega, ?_⟩; rw [Int.toNat_natCast]; assumption))); iterate 2 rfl)
   | (apply jD; iterate 9 rfl)
   | ((apply je; rfl; (focus (repeat first | exact .z | apply bC.s | apply aP.s)); (iterate 5 rfl); (focus (constructor <;> (first | (simp; done) | (simp; omega))))); intro _)
   | ((with_reducible apply EK.ah); apply EK.round) | apply EL.nil | ((with_reducible apply EK.ah); apply EK.code) | (apply EC.cond_true; rfl) | (apply EC.cond_false; rfl)
   | (with_reducible first | apply EC.seq | apply EC.region | apply EC.skip | apply EC.block | apply EC.exit | apply EC.ret | apply EK.aI | apply EK.bG | apply EK.aQ))
 rename_i v
 exact EK.TK rfl rfl ⟨v, rfl, rfl⟩
theorem P8 (l : List UInt8) : Fn 185 [.sl 1 [.bs l]] (· = .val (.sl 3 [aW (.mk false l [])])) :=
 (FnM.Wq (Φ := fun r os' => r = .val (.sl 3 [aW (.mk false l [])]) ∧ os' = []) 157 3 ((Oi l).mono fun r os' ⟨v, h1, h2⟩ => ⟨v, _, [], h1, h2, rfl, rfl⟩)).toFn
theorem P7 (l m : List UInt8) : Fn 185 [.sl 1 [.bs l, .bs m]] (· = .val (.sl 3 [aW (.mk false l []), aW (.mk false m [])])) :=
 (FnM.Wq (Φ := fun r os' => r = .val (.sl 3 [aW (.mk false l []), aW (.mk false m [])]) ∧ os' = []) 157 3 ((Ui l m).mono fun r os' ⟨v, h1, h2⟩ => ⟨v, _, [], h1, h2, rfl, rfl⟩)).toFn
theorem KF (T : TypeId) (d : D) : Bin .eql 125 (.ifc T d) (.v .nilIface) (.bool false) := by
 refine ⟨rfl, fun ok w p q hp hq => ?_⟩
 obtain rfl := (bF.1 hq).2
 obtain ⟨cs, h1, rfl⟩ := hp
 rw [Reads] at h1
 obtain ⟨cs', rfl, _⟩ := h1
 exact ⟨fun x y => by simp [eqGuard, form, D.agg], run_eql_held_nil _ _ _ _ (by kernel_rfl)⟩
theorem GR : Bin .eql 125 (.v .nilIface) (.v .nilIface) (.bool true) := by
 refine ⟨rfl, fun ok w p q hp hq => ?_⟩
 obtain rfl := (bF.1 hp).2
 obtain rfl := (bF.1 hq).2
 exact ⟨fun x y => by cases x <;> cases y <;> kernel_rfl, by kernel_rfl⟩
theorem Qp {t : Tn} (h : t.isNil = false) : ∃ T d, dT t = .ifc T d ∧ Nat.beq T 167 = false := by
 cases t with
 | nil => cases h
 | leaf p v => exact ⟨_, _, by rw [dT], rfl⟩
 | ext p k => exact ⟨_, _, by rw [dT], rfl⟩
 | br ks v => exact ⟨_, _, by rw [dT], rfl⟩
theorem tq (t : Tn) (h : Fn 138 [dT t] (· = .val (aW (eu t)))) : Fn 91 [dT t] (· = .val (.bs (pkB (eu t)))) := by
 have h1 := Qj (eu t)
 unfold pkB
 refine Fn.walk 12 Tryz.func91 rfl Tryz.ntmps91 (by simp) fun X => ?_
 cases hp : packed (eu t) with
 | none =>
  rw [hp] at h1
  repeat
   (first
    | (apply aA (h); rfl; exact aj.refl _ _; exact enA; iterate 2 rfl) | (apply aA (h1); rfl; exact aj.refl _ _; exact enA; iterate 2 rfl)
    | (apply au; iterate 3 rfl) | (apply ak; iterate 3 rfl) | (apply aF; iterate 4 rfl) | apply EL.nil | ((with_reducible apply EK.ah); apply EK.code)
    | (with_reducible first | apply EC.seq | apply EC.region | apply EC.ret))
  refine EK.VL rfl rfl ?_ rfl
  (exact RL.a)
 | some b =>
  rw [hp] at h1
  repeat
   (first
    | (apply aA (h); rfl; exact aj.refl _ _; exact enA; iterate 2 rfl) | (apply aA (h1); rfl; exact aj.refl _ _; exact enA; iterate 2 rfl)
    | (apply au; iterate 3 rfl) | (apply ak; iterate 3 rfl) | (apply aF; iterate 4 rfl) | apply EL.nil | ((with_reducible apply EK.ah); apply EK.code)
    | (with_reducible first | apply EC.seq | apply EC.region | apply EC.ret))
  exact EK.kC rfl rfl rfl
theorem Gs (t : Tn) (h : t.isNil = false → Fn 138 [dT t] (· = .val (aW (eu t)))) : Fn 186 [dT t] (· = .val (aW (mF t))) := by
 unfold mF
 cases hn : t.isNil with
 | true =>
  cases t with
  | nil =>
   rw [if_pos rfl]
   have hb := GR
   have e : dT Tn.nil = .v .nilIface := rfl
   rw [e]
   refine Fn.walk 31 Tryz.func186 rfl Tryz.ntmps186 (by simp) fun X => ?_
   repeat
    (first
     | (apply dY; (iterate 2 rfl); exact hb; iterate 2 rfl) | (apply au; iterate 3 rfl) | (apply eU; iterate 7 rfl)
     | (apply aZ; rfl; rfl; rfl; intro _) | (apply aN; rfl; (focus (repeat first | exact .z | apply bC.s | apply aP.s)); iterate 4 rfl) | apply EL.nil
     | ((with_reducible apply EK.ah); apply EK.code) | (apply EC.cond_true; rfl) | (with_reducible first | apply EC.seq | apply EC.region | apply EC.ret | apply EK.aH))
   refine EK.kZ 0 rfl rfl rfl rfl ?_ rfl
   (exact RL.a)
  | leaf p v => cases hn
  | ext p k => cases hn
  | br ks v => cases hn
 | false =>
  rw [if_neg (by decide)]
  have h1 := h hn
  have h2 := tq t h1
  obtain ⟨T, d, e, hne⟩ := Qp hn
  rw [e] at h1 h2 ⊢
  have hb := KF T d
  unfold oI
  refine Fn.walk 31 Tryz.func186 rfl Tryz.ntmps186 (by simp) fun X => ?_
  by_cases hl : (pkB (eu t)).length < 32
  ·
   rw [if_pos hl]
   have hli : ((pkB (eu t)).length : Int) < 32 := by omega
   generalize eu t = x at *
   obtain ⟨xb, xl, xs⟩ := x
   rw [aW] at h1
   repeat
    (first
     | (apply dY; (iterate 2 rfl); exact hb; iterate 2 rfl) | (apply iC; rfl; rfl; exact hne; iterate 3 rfl)
     | (apply aA (h2); rfl; exact aj.refl _ _; exact enA; iterate 2 rfl) | (apply aA (h1); rfl; exact aj.refl _ _; exact enA; iterate 2 rfl)
     | (apply au; iterate 3 rfl) | (apply ak; iterate 3 rfl) | (apply aF; iterate 4 rfl)
     | (apply aC (b := true); (iterate 2 rfl); exact aO; iterate 2 rfl) | (apply aU; iterate 4 rfl) | (apply aZ; rfl; rfl; rfl; intro _)
     | (apply aN; rfl; (focus (repeat first | exact .z | apply bC.s | apply aP.s)); iterate 4 rfl) | apply EL.nil | ((with_reducible apply EK.ah); apply EK.code)
     | (apply EC.cond_true; rfl) | (apply EC.cond_false; rfl) | (with_reducible first | apply EC.seq | apply EC.region | apply EC.skip | apply EC.ret | apply EK.aH))
   refine EK.kZ 1 rfl rfl rfl rfl ?_ rfl
   (exact RL.a)
  ·
   rw [if_neg hl]
   have hli : ¬ ((pkB (eu t)).length : Int) < 32 := by omega
   have h3 := uK (pkB (eu t))
   repeat
    (first
     | (apply dY; (iterate 2 rfl); exact hb; iterate 2 rfl) | (apply iC; rfl; rfl; exact hne; iterate 3 rfl)
     | (apply aA (h2); rfl; exact aj.refl _ _; exact enA; iterate 2 rfl) | (apply aA (h3); rfl; exact aj.refl _ _; exact enA; iterate 2 rfl)
     | (apply au; iterate 3 rfl) | (apply ak; iterate 3 rfl) | (apply aF; iterate 4 rfl)
     | (apply aC (b := false); (iterate 2 rfl); exact aO; iterate 2 rfl) | (apply aU; iterate 4 rfl) | (apply jD; iterate 9 rfl)
     | (apply aZ; rfl; rfl; rfl; intro _) | (apply aN; rfl; (focus (repeat first | exact .z | apply bC.s | apply aP.s)); iterate 4 rfl) | apply EL.nil
     | ((with_reducible apply EK.ah); apply EK.code) | (apply EC.cond_false; rfl) | (with_reducible first | apply EC.seq | apply EC.region | apply EC.skip))
   refine EL.le (Le.pin (p := 6) (pre := []) rfl rfl) ?_
   repeat
    (first
     | (apply QK CJ; iterate 6 rfl) | (apply eU; iterate 7 rfl)
     | (apply aN; rfl; (focus (repeat first | exact .z | apply bC.s | apply aP.s)); iterate 4 rfl) | apply EL.nil | ((with_reducible apply EK.ah); apply EK.code)
     | (with_reducible apply EC.ret))
   refine EK.kZ 1 rfl rfl rfl rfl ?_ rfl
   (exact RL.a)
theorem Qh (t : Tn) (h : t.isNil = false → Fn 138 [dT t] (· = .val (aW (eu t)))) : Fn 70 [dT t] (· = .val (.arr 32 (sumT t))) := by
 unfold sumT
 cases hn : t.isNil with
 | true =>
  cases t with
  | nil =>
   rw [if_pos rfl]
   have hb := GR
   have h1 := BL
   have e : dT Tn.nil = .v .nilIface := rfl
   rw [e]
   refine Fn.walk 19 Tryz.func70 rfl Tryz.ntmps70 (by simp) fun X => ?_
   repeat
    (first
     | (apply dY; (iterate 2 rfl); exact hb; iterate 2 rfl) | (apply aA (h1); rfl; exact aj.refl _ _; exact enA; iterate 2 rfl) | (apply au; iterate 3 rfl)
     | (apply aZ; rfl; rfl; rfl; intro _) | (apply aN; rfl; (focus (repeat first | exact .z | apply bC.s | apply aP.s)); iterate 4 rfl) | apply EL.nil
     | ((with_reducible apply EK.ah); apply EK.code) | (apply EC.cond_true; rfl) | (with_reducible first | apply EC.seq | apply EC.region | apply EC.ret | apply EK.aH))
   refine EK.kZ 0 rfl rfl rfl rfl ?_ rfl
   (exact RL.a)
  | leaf p v => cases hn
  | ext p k => cases hn
  | br ks v => cases hn
 | false =>
  rw [if_neg (by decide)]
  have h2 := tq t (h hn)
  obtain ⟨T, d, e, hne⟩ := Qp hn
  rw [e] at h2 ⊢
  have hb := KF T d
  have h3 := uK (pkB (eu t))
  refine Fn.walk 19 Tryz.func70 rfl Tryz.ntmps70 (by simp) fun X => ?_
  repeat
   (first
    | (apply dY; (iterate 2 rfl); exact hb; iterate 2 rfl) | (apply iC; rfl; rfl; exact hne; iterate 3 rfl)
    | (apply aA (h2); rfl; exact aj.refl _ _; exact enA; iterate 2 rfl) | (apply aA (h3); rfl; exact aj.refl _ _; exact enA; iterate 2 rfl)
    | (apply au; iterate 3 rfl) | (apply ak; iterate 3 rfl) | (apply aF; iterate 4 rfl) | (apply jD; iterate 9 rfl)
    | (apply aZ; rfl; rfl; rfl; intro _) | (apply aN; rfl; (focus (repeat first | exact .z | apply bC.s | apply aP.s)); iterate 4 rfl) | apply EL.nil
    | ((with_reducible apply EK.ah); apply EK.code) | (apply EC.cond_false; rfl) | (with_reducible first | apply EC.seq | apply EC.region | apply EC.skip | apply EC.ret))
  refine EK.kZ 1 rfl rfl rfl rfl ?_ rfl
  (exact RL.a)
end E
end Go.Proofs.YtiledgojbpmoiaaGreat
