/-
 Merged: lemmas of this claim.
 Conditions: none.
-/
import Derived.Test.YtelbhdobjdnglaaGreatZT11
import Derived.Test.YtelbhdobjdnglaaGreatZT6
import Derived.Test.YtelbhdobjdnglaaGreatZT10
import Derived.Test.YtelbhdobjdnglaaGreatZT2
import Derived.BigQuiet
import Derived.Deep.QuietTactic
import Derived.Laws.BitsAllLaws
import Derived.Test.YtelbhdobjdnglaaGreatZT0
namespace Go.Proofs.YtelbhdobjdnglaaGreat
set_option maxHeartbeats 1000000
open Go.RowKit Mono
theorem Gi (x : UInt8) (w : World) : Calls Tryz.prog 226 #[bv x] w fun e w' => e = .returned (.bool (decide (15 < x.toNat))) ∧ w' = w := by
 unfold bv
 have hlx := jP x
 generalize x.toNat = n at hlx
 go_enter Tryz.func226, Tryz.ntmps226
 go_wp2
 go_ret
 simp
 omega
def KL (b : Bool) (w : World) (e : Ending) (w' : World) : Prop := e = .returned (.bool b) ∧ ∃ k, w' = w.drewN k
def VF (b : Int) (w : World) (e : Ending) (w' : World) : Prop := e = .returned (.int .i64 b) ∧ ∃ k, w' = w.drewN k
def qU : List UInt8 → Nat → Int
 | [], _ => -1
 | x :: l, k => if 15 < x.toNat then k else qU l (k + 1)
theorem Qz (l : List UInt8) : ∀ k, (0 ≤ qU l k ↔ ∃ x ∈ l, 15 < x.toNat) := by
 induction l with
 | nil => intro k; simp [qU]
 | cons x l ih =>
  intro k
  unfold qU
  split
  · simp [*]
  · rw [ih]; simp [*]
theorem Je (l : List UInt8) (k : Nat) (h : k < l.length) : qU (l.drop k) k = if 15 < l[k].toNat then (k : Int) else qU (l.drop (k + 1)) (k + 1) := by
 rw [XI h, qU]
theorem IJ (v1 : Value) (l : List UInt8) (w : World) (h1 : IsB w v1 l) :
  Calls Tryz.prog 228 #[v1, .func (.func 226) #[] #[]] w (VF (qU l 0) w) := by
 obtain ⟨A, c, rfl, hl1, hl2, hA⟩ := h1
 unfold maxLen at hl2
 have HA := Lib.hid hA
 clear hA
 go_enter Tryz.func228, Tryz.ntmps228
 go_wp2
 go_loopw [8] (fun i wr => ∃ k : Nat, k ≤ l.length ∧ i = .int .i64 k ∧ wr = w ∧ Hid (qU l 0 = qU (l.drop k) k)) (fun i _ => l.length - (intOf i).toNat)
 case atStart => exact ⟨0, by omega, rfl, rfl, Lib.hid (by simp)⟩
 case round =>
  obtain ⟨k, hk1, rfl, rfl, hC⟩ := hrel
  by_cases h1 : k < l.length
  ·
   obtain ⟨b1, o1, rfl, _, c1⟩ := HA.out (by intro e; have := bG l; rw [e] at this; simp at this; omega)
   have d1 := c1 k _ (jH l k h1)
   clear c1
   have hst := Lib.hid (Je l k h1)
   by_cases hb : 15 < l[k].toNat
   ·
    have he : decide (15 < l[k].toNat) = true := by simpa using hb
    have hf := Gi l[k] wr
    rw [he] at hf
    have HB := Lib.hid hb
    clear hb he
    generalize bv l[k] = u at d1 hf
    have HF := Lib.hid hf
    clear hf
    go_wp2_with (go_at_call 226; refine HF.out.mono ?_; rintro e w' ⟨rfl, rfl⟩)
    go_ret
    refine ⟨?_, 0, rfl⟩
    rw [hC.out, hst.out, if_pos HB.out]
    rfl
   ·
    have he : decide (15 < l[k].toNat) = false := by simpa using hb
    have hf := Gi l[k] wr
    rw [he] at hf
    have HB := Lib.hid hb
    clear hb he
    generalize bv l[k] = u at d1 hf
    have HF := Lib.hid hf
    clear hf
    go_wp2_with (go_at_call 226; refine HF.out.mono ?_; rintro e w' ⟨rfl, rfl⟩)
    go_roundw
    case rel => exact ⟨k + 1, by omega, by go_num, trivial, Lib.hid (by rw [hC.out, hst.out, if_neg HB.out])⟩
    case measure => simp [intOf]; omega
  ·
   have hd := Lib.hid (XP (Nat.le_of_not_lt h1))
   go_wp2
   go_ret
   exact ⟨by rw [hC.out, hd.out]; rfl, 0, rfl⟩
theorem AA (v1 : Value) (l : List UInt8) (w : World) (h1 : IsB w v1 l) :
  Calls Tryz.prog 225 #[v1, .func (.func 226) #[] #[]] w (KL (l.any fun x => decide (15 < x.toNat)) w) := by
 have hc := Lib.hid (IJ v1 l w h1)
 have hb := Lib.hid (Qz l 0)
 clear h1
 generalize qU l 0 = n at hc hb
 go_enter Tryz.func225, Tryz.ntmps225
 go_wp2_with fail
 refine hc.out.mono ?_
 rintro e w' ⟨rfl, k, rfl⟩
 go_wp2
 go_ret
 refine ⟨?_, k, rfl⟩
 show Ending.returned (.bool (decide (0 ≤ n))) = _
 congr 2
 have := hb.out
 rw [Bool.eq_iff_iff]
 simp only [decide_eq_true_eq, Y5]
 exact this
theorem MC (v1 : Value) (l : List UInt8) (w : World) (h1 : IsB w v1 l) :
  Calls Tryz.prog 219 #[v1] w (KL (!(l.any fun x => decide (15 < x.toNat))) w) := by
 have hc := Lib.hid (AA v1 l w h1)
 clear h1
 generalize (l.any fun x => decide (15 < x.toNat)) = n at hc
 go_enter Tryz.func219, Tryz.ntmps219
 go_wp2_with fail
 refine hc.out.mono ?_
 rintro e w' ⟨rfl, k, rfl⟩
 go_wp2
 go_ret
 exact ⟨by simp, k, rfl⟩
theorem BI : ∀ (p : List UInt8), (p.any fun x => decide (15 < x.toNat)) = true → joinL p = none
 | [], h => by simp at h
 | [_], _ => rfl
 | x :: y :: r, h => by
  rw [joinL]
  split
  ·
   rename_i hc
   rw [BI r (by
    simp only [List.any_cons, ZK, decide_eq_true_eq] at h
    rcases h with h | h | h
    · omega
    · omega
    · exact h)]
   rfl
  · rfl
theorem Ou (p : List UInt8) (h : (p.any fun x => decide (15 < x.toNat)) = false) (k : Nat) (hk : k < p.length) : p[k].toNat ≤ 15 := by
 rw [List.any_eq_false] at h
 have := h p[k] (XW hk)
 simpa using this
theorem rU (v1 : Value) (p : List UInt8) (w : World) (h1 : IsB w v1 p) (hlen : p.length ≤ 1073741824) :
  Calls Tryz.prog 204 #[v1] w (Ret (KR w.heap.size p) w) := by
 have hf := MC v1 p w h1
 obtain ⟨A, c, rfl, hl1, hl2, hA⟩ := h1
 clear hl1 hl2
 have HA := Lib.hid hA
 clear hA
 by_cases hodd : p.length % 2 = 1
 ·
  have HJ := Lib.hid (wz p hodd)
  have hoddI : (p.length : Int) % 2 = 1 := by omega
  clear hf hodd
  go_enter Tryz.func204, Tryz.ntmps204
  go_wp2_with fail
  refine bodyPost_ret (results_tmp2 rfl _ _ _) rfl ?_
  refine ⟨_, rfl, Below.refl _ _, .slice none 0 0, ?_, ?_⟩
  · rw [HJ.out]; rfl
  · rw [HJ.out]; exact OwnB.nil _ _
 ·
  have hev : p.length % 2 = 0 := by omega
  clear hodd
  have hevI : (p.length : Int) % 2 = 0 := by omega
  by_cases hbig : (p.any fun x => decide (15 < x.toNat)) = true
  ·
   rw [hbig] at hf
   have HJ := Lib.hid (BI p hbig)
   have HF := Lib.hid hf
   clear hf hbig
   go_enter Tryz.func204, Tryz.ntmps204
   go_wp2_with (go_at_call 219; refine HF.out.mono ?_; rintro e w' ⟨rfl, q, rfl⟩)
   refine bodyPost_ret (results_tmp2 rfl _ _ _) rfl ?_
   refine ⟨_, rfl, below_drewN (Below.refl _ _) q, .slice none 0 0, ?_, ?_⟩
   · rw [HJ.out]; rfl
   · rw [HJ.out]; exact OwnB.nil _ _
  ·
   have hbig' : (p.any fun x => decide (15 < x.toNat)) = false := by simpa using hbig
   rw [hbig'] at hf
   have HF := Lib.hid hf
   have HS0 := Lib.hid (Ou p hbig')
   clear hf hbig hbig'
   go_enter Tryz.func204, Tryz.ntmps204
   go_wp2_with (go_at_call 219; refine HF.out.mono ?_; rintro e w' ⟨rfl, q, rfl⟩)
   clear hevI
   go_loopw [4, 5] (fun v i wr => ∃ (j : Nat) (pre : List UInt8), 2 * j ≤ p.length ∧ i = .int .i64 (2 * j : Nat) ∧ pre.length = j ∧ OwnB wr w.heap.size v pre ∧ Below w.heap.size w wr ∧ Hid (joinL p = (joinL (p.drop (2 * j))).map (pre ++ ·))) (fun _ i _ => p.length - (intOf i).toNat)
   case atStart => exact ⟨0, [], by omega, rfl, rfl, OwnB.nil _ w.heap.size, below_drewN (Below.refl _ _) q, Lib.hid (by simp)⟩
   case round =>
    obtain ⟨j, pre, hj, rfl, hpre, hown, hb, hJ⟩ := hrel
    obtain ⟨A', c', rfl, hc1, hc2⟩ := cZ hown
    have hbs := hb.size
    have HO := Lib.hid hown
    have HB := Lib.hid hb
    have HP := Lib.hid hpre
    have hpl : pre.length ≤ j := by omega
    clear hown hb hpre
    by_cases h1 : 2 * j < p.length
    ·
     have h2 : 2 * j + 1 < p.length := by omega
     obtain ⟨b1, o1, rfl, hb1, c1⟩ := HA.out (by intro e; have := bG p; rw [e] at this; simp at this; omega)
     have hbw : b1 < wr.heap.size := by omega
     have r1 := (HB.out.cell (p := ⟨b1, o1 + 2 * j, none⟩) hb1).trans (c1 (2 * j) _ (jH p (2 * j) h1))
     have r2 := (HB.out.cell (p := ⟨b1, o1 + (2 * j + 1), none⟩) hb1).trans (c1 (2 * j + 1) _ (jH p (2 * j + 1) h2))
     have d1 := aZ (w := wr) (p := ⟨b1, o1 + 2 * j, none⟩) hbw r1
     have d2 := aZ (w := wr) (p := ⟨b1, o1 + (2 * j + 1), none⟩) hbw r2
     clear c1 r1 r2
     unfold bv at d1 d2
     have HS := Lib.hid (zn p (2 * j) h1 h2)
     have hcx := HS0.out (2 * j) h1
     have hcy := HS0.out (2 * j + 1) h2
     obtain ⟨x, hx⟩ : ∃ x, x = p[2 * j].toNat := ⟨_, rfl⟩
     obtain ⟨y, hy⟩ : ∃ y, y = p[2 * j + 1].toNat := ⟨_, rfl⟩
     rw [← hx] at d1 hcx
     rw [← hy] at d2 hcy
     have HX := Lib.hid hx
     have HY := Lib.hid hy
     clear hx hy
     go_wp2
     refine dO 13 (by kernel_rfl) (by kernel_rfl) (by kernel_rfl) ?_
     simp only [Xp, Xu, mP, Xq]
     refine dS 12 (by kernel_rfl) ?_
     simp only [Xp, Xu, mP, Xq]
     repeat (go_big_quiet_step (fail))
     refine wpQuiet_nil ?_
     refine CJ 33 (fun v w => IsB w v [p[2 * j] <<< 4 ||| p[2 * j + 1]]) rfl rfl (by kernel_rfl) (by kernel_rfl) (sW _) (fun xw => ?_) ?_
     ·
      simp [go_sem, fZ]
      rw [O5 x y hcx hcy]
      refine ⟨ay _ _, Dz _ _ [p[2 * j] <<< 4 ||| p[2 * j + 1]] ?_ (by simp [maxLen])⟩
      simp [bvs, bv, O4 x y hcx hcy _ _ HX.out.symm HY.out.symm]
     refine iE (by kernel_rfl) ?_
     intro W hW
     replace hW := hW.gr
     have hbs2 := hW.size
     intro v22 h22
     obtain ⟨A22, c22, rfl, _, _, hrd⟩ := h22
     unfold pJ
     go_wp2_with (at_builtin; refine aV _ _ 38 bK _ _ _ _ _ _ _ (bvs [p[2 * j] <<< 4 ||| p[2 * j + 1]]) rfl rfl rfl rfl (nH HO.out hW) hrd (by simp [bvs]) (dR _) (by simp only [maxLen]; simp; omega) (by simp; omega) (by omega) ?_; intro A2 c2 w2 hown2 hg2 _)
     go_roundw
     case rel =>
      refine ⟨j + 1, pre ++ [p[2 * j] <<< 4 ||| p[2 * j + 1]], by omega, by go_num, by simp [HP.out], ?_, (HB.out.trans (hW.mono hbs)).grown hg2 (by omega) fun j hj => bI HO.out j hj, Lib.hid ?_⟩
      ·
       unfold OwnB
       rw [gZ, List.length_append]
       exact hown2
      ·
       rw [hJ.out, HS.out, if_pos ⟨by rw [← HX.out]; exact hcx, by rw [← HY.out]; exact hcy⟩, show 2 * (j + 1) = 2 * j + 2 by omega]
       cases joinL (p.drop (2 * j + 2)) <;> simp
     case measure => simp [intOf]; omega
    ·
     have hd := Lib.hid (XP (Nat.le_of_not_lt h1))
     go_wp2
     refine bodyPost_ret (results_tmp2 rfl _ _ _) rfl ?_
     refine ⟨_, rfl, HB.out, .slice A' pre.length c', ?_, ?_⟩
     · rw [hJ.out, hd.out]; rfl
     · rw [hJ.out, hd.out]; simpa [joinL] using HO.out
def hdr (p : List UInt8) (leaf : Bool) : List UInt8 := if p.length % 2 = 1 then [if leaf then 3 else 1] else [if leaf then 2 else 0, 0]
theorem MB (v1 : Value) (p : List UInt8) (leaf : Bool) (w : World) (h1 : IsB w v1 p) (hlen : p.length ≤ 536870912) :
  Calls Tryz.prog 182 #[v1, .bool leaf] w (Ret (KR w.heap.size (hdr p leaf ++ p)) w) := by
 obtain ⟨A, c, rfl, hl1, hl2, hA⟩ := h1
 clear hl1 hl2
 have HA := Lib.hid hA
 clear hA
 by_cases hodd : p.length % 2 = 1
 ·
  have hoddI : (p.length : Int) % 2 = 1 := by omega
  have hh : hdr p leaf = [if leaf then 3 else 1] := by unfold hdr; rw [if_pos hodd]
  rw [hh]
  clear hh hodd
  cases leaf
  ·
   go_enter Tryz.func182, Tryz.ntmps182
   go_wp2_with (at_builtin; refine aV _ _ 38 bK _ 1 _ _ p.length _ w.heap.size (bvs p) rfl rfl rfl rfl (iI _ _ _ _ 1 _ w.heap.size rfl (Nat.le_refl _) (by simp [maxLen]) rfl) (HA.out.below (ay _ _)) (by rw [bG]; omega) (dR _) (by simp only [maxLen]; omega) (by omega) (by first | (simp; done) | (simp; omega)) ?_; intro A2 c2 w2 hown2 hg2 _; have ho2 := ownB_of (l := [1] ++ p) hown2 rfl; have hb2 := ho2.isB; have H2 := Lib.hid hb2; clear ho2 hb2 hown2)
   refine (rU _ _ _ H2.out (by simp; omega)).mono ?_
   rintro e w3 ⟨v3, rfl, hg3, v4, rfl, ho4⟩
   go_wp2
   refine bodyPost_ret (results_tmp2 rfl _ _ _) rfl ?_
   have hb1 : Below w.heap.size w w2 := Below.grown (ay _ _) hg2 (by first | (simp; done) | (simp; omega)) fun j hj => by injection hj with h; subst h; first | exact Nat.le_refl _ | simp
   exact ⟨_, rfl, hb1.trans (hg3.mono hb1.size), v4, rfl, own_base ho4 hb1.size⟩
  ·
   go_enter Tryz.func182, Tryz.ntmps182
   go_wp2_with (at_builtin; refine aV _ _ 38 bK _ 1 _ _ p.length _ w.heap.size (bvs p) rfl rfl rfl rfl (iI _ _ _ _ 1 _ w.heap.size rfl (Nat.le_refl _) (by simp [maxLen]) rfl) (HA.out.below (ay _ _)) (by rw [bG]; omega) (dR _) (by simp only [maxLen]; omega) (by omega) (by first | (simp; done) | (simp; omega)) ?_; intro A2 c2 w2 hown2 hg2 _; have ho2 := ownB_of (l := [3] ++ p) hown2 rfl; have hb2 := ho2.isB; have H2 := Lib.hid hb2; clear ho2 hb2 hown2)
   refine (rU _ _ _ H2.out (by simp; omega)).mono ?_
   rintro e w3 ⟨v3, rfl, hg3, v4, rfl, ho4⟩
   go_wp2
   refine bodyPost_ret (results_tmp2 rfl _ _ _) rfl ?_
   have hb1 : Below w.heap.size w w2 := Below.grown (ay _ _) hg2 (by first | (simp; done) | (simp; omega)) fun j hj => by injection hj with h; subst h; first | exact Nat.le_refl _ | simp
   exact ⟨_, rfl, hb1.trans (hg3.mono hb1.size), v4, rfl, own_base ho4 hb1.size⟩
 ·
  have hevI : (p.length : Int) % 2 = 0 := by omega
  have hh : hdr p leaf = [if leaf then 2 else 0, 0] := by unfold hdr; rw [if_neg hodd]
  rw [hh]
  clear hh hodd
  cases leaf
  ·
   go_enter Tryz.func182, Tryz.ntmps182
   go_wp2_with (at_builtin; refine aV _ _ 38 bK _ 2 _ _ p.length _ w.heap.size (bvs p) rfl rfl rfl rfl (iI _ _ _ _ 2 _ w.heap.size rfl (Nat.le_refl _) (by simp [maxLen]) rfl) (HA.out.below (ay _ _)) (by rw [bG]; omega) (dR _) (by simp only [maxLen]; omega) (by omega) (by first | (simp; done) | (simp; omega)) ?_; intro A2 c2 w2 hown2 hg2 _; have ho2 := ownB_of (l := (0::[0]) ++ p) hown2 rfl; have hb2 := ho2.isB; have H2 := Lib.hid hb2; clear ho2 hb2 hown2)
   refine (rU _ _ _ H2.out (by simp; omega)).mono ?_
   rintro e w3 ⟨v3, rfl, hg3, v4, rfl, ho4⟩
   go_wp2
   refine bodyPost_ret (results_tmp2 rfl _ _ _) rfl ?_
   have hb1 : Below w.heap.size w w2 := ((Below.refl _ _).alloc (Nat.le_refl _) _).grown hg2 (by first | (simp; done) | (simp; omega)) fun j hj => by injection hj with h; subst h; first | exact Nat.le_refl _ | simp
   exact ⟨_, rfl, hb1.trans (hg3.mono hb1.size), v4, rfl, own_base ho4 hb1.size⟩
  ·
   go_enter Tryz.func182, Tryz.ntmps182
   go_wp2_with (at_builtin; refine aV _ _ 38 bK _ 2 _ _ p.length _ w.heap.size (bvs p) rfl rfl rfl rfl (iI _ _ _ _ 2 _ w.heap.size rfl (Nat.le_refl _) (by simp [maxLen]) rfl) (HA.out.below (ay _ _)) (by rw [bG]; omega) (dR _) (by simp only [maxLen]; omega) (by omega) (by first | (simp; done) | (simp; omega)) ?_; intro A2 c2 w2 hown2 hg2 _; have ho2 := ownB_of (l := (2::[0]) ++ p) hown2 rfl; have hb2 := ho2.isB; have H2 := Lib.hid hb2; clear ho2 hb2 hown2)
   refine (rU _ _ _ H2.out (by simp; omega)).mono ?_
   rintro e w3 ⟨v3, rfl, hg3, v4, rfl, ho4⟩
   go_wp2
   refine bodyPost_ret (results_tmp2 rfl _ _ _) rfl ?_
   have hb1 : Below w.heap.size w w2 := ((Below.refl _ _).alloc (Nat.le_refl _) _).grown hg2 (by first | (simp; done) | (simp; omega)) fun j hj => by injection hj with h; subst h; first | exact Nat.le_refl _ | simp
   exact ⟨_, rfl, hb1.trans (hg3.mono hb1.size), v4, rfl, own_base ho4 hb1.size⟩
theorem LG (v1 : Value) (p : List UInt8) (leaf : Bool) (w : World) (h1 : IsB w v1 p) (hlen : p.length ≤ 536870912) :
  Calls Tryz.prog 122 #[v1, .bool leaf] w (Ret (KR w.heap.size (hdr p leaf ++ p)) w) := by
 obtain ⟨A, c, rfl, hl1, hl2, hA⟩ := h1
 clear hl1 hl2
 have HA := Lib.hid hA
 clear hA
 by_cases hodd : p.length % 2 = 1
 ·
  have hoddI : (p.length : Int) % 2 = 1 := by omega
  have hh : hdr p leaf = [if leaf then 3 else 1] := by unfold hdr; rw [if_pos hodd]
  rw [hh]
  clear hh hodd
  cases leaf
  ·
   go_enter Tryz.func122, Tryz.ntmps122
   go_wp2_with (at_builtin; refine aV _ _ 38 bK _ 1 _ _ p.length _ w.heap.size (bvs p) rfl rfl rfl rfl (iI _ _ _ _ 1 _ w.heap.size (by simp) (ay w _).size (by simp [maxLen]) rfl) (HA.out.below ((ay _ _).trans (ay _ _))) (by rw [bG]; omega) (dR _) (by simp only [maxLen]; omega) (by omega) (by first | (simp; done) | (simp; omega)) ?_; intro A2 c2 w2 hown2 hg2 _; have ho2 := ownB_of (l := [1] ++ p) hown2 rfl; have hb2 := ho2.isB; have H2 := Lib.hid hb2; clear ho2 hb2 hown2)
   refine (uy _ _ _ H2.out (by simp; omega)).mono ?_
   rintro e w3 ⟨v3, rfl, hg3, v4, rfl, ho4⟩
   go_wp2
   refine bodyPost_ret (results_tmp2 rfl _ _ _) rfl ?_
   have hb1 : Below w.heap.size w w2 := Below.grown ((ay _ _).trans (ay _ _)) hg2 (by first | (simp; done) | (simp; omega)) fun j hj => by injection hj with h; subst h; first | exact Nat.le_refl _ | simp
   exact ⟨_, rfl, hb1.trans (hg3.mono hb1.size), v4, rfl, own_base ho4 hb1.size⟩
  ·
   go_enter Tryz.func122, Tryz.ntmps122
   go_wp2_with (at_builtin; refine aV _ _ 38 bK _ 1 _ _ p.length _ w.heap.size (bvs p) rfl rfl rfl rfl (iI _ _ _ _ 1 _ w.heap.size (by simp) (ay w _).size (by simp [maxLen]) rfl) (HA.out.below ((ay _ _).trans (ay _ _))) (by rw [bG]; omega) (dR _) (by simp only [maxLen]; omega) (by omega) (by first | (simp; done) | (simp; omega)) ?_; intro A2 c2 w2 hown2 hg2 _; have ho2 := ownB_of (l := [3] ++ p) hown2 rfl; have hb2 := ho2.isB; have H2 := Lib.hid hb2; clear ho2 hb2 hown2)
   refine (uy _ _ _ H2.out (by simp; omega)).mono ?_
   rintro e w3 ⟨v3, rfl, hg3, v4, rfl, ho4⟩
   go_wp2
   refine bodyPost_ret (results_tmp2 rfl _ _ _) rfl ?_
   have hb1 : Below w.heap.size w w2 := Below.grown ((ay _ _).trans (ay _ _)) hg2 (by first | (simp; done) | (simp; omega)) fun j hj => by injection hj with h; subst h; first | exact Nat.le_refl _ | simp
   exact ⟨_, rfl, hb1.trans (hg3.mono hb1.size), v4, rfl, own_base ho4 hb1.size⟩
 ·
  have hevI : (p.length : Int) % 2 = 0 := by omega
  have hh : hdr p leaf = [if leaf then 2 else 0, 0] := by unfold hdr; rw [if_neg hodd]
  rw [hh]
  clear hh hodd
  cases leaf
  ·
   go_enter Tryz.func122, Tryz.ntmps122
   go_wp2_with (at_builtin; refine aV _ _ 38 bK _ 2 _ _ p.length _ w.heap.size (bvs p) rfl rfl rfl rfl (iI _ _ _ _ 2 _ w.heap.size rfl (Nat.le_refl _) (by simp [maxLen]) rfl) (HA.out.below (ay _ _)) (by rw [bG]; omega) (dR _) (by simp only [maxLen]; omega) (by omega) (by first | (simp; done) | (simp; omega)) ?_; intro A2 c2 w2 hown2 hg2 _; have ho2 := ownB_of (l := (0::[0]) ++ p) hown2 rfl; have hb2 := ho2.isB; have H2 := Lib.hid hb2; clear ho2 hb2 hown2)
   refine (uy _ _ _ H2.out (by simp; omega)).mono ?_
   rintro e w3 ⟨v3, rfl, hg3, v4, rfl, ho4⟩
   go_wp2
   refine bodyPost_ret (results_tmp2 rfl _ _ _) rfl ?_
   have hb1 : Below w.heap.size w w2 := ((Below.refl _ _).alloc (Nat.le_refl _) _).grown hg2 (by first | (simp; done) | (simp; omega)) fun j hj => by injection hj with h; subst h; first | exact Nat.le_refl _ | simp
   exact ⟨_, rfl, hb1.trans (hg3.mono hb1.size), v4, rfl, own_base ho4 hb1.size⟩
  ·
   go_enter Tryz.func122, Tryz.ntmps122
   go_wp2_with (at_builtin; refine aV _ _ 38 bK _ 2 _ _ p.length _ w.heap.size (bvs p) rfl rfl rfl rfl (iI _ _ _ _ 2 _ w.heap.size rfl (Nat.le_refl _) (by simp [maxLen]) rfl) (HA.out.below (ay _ _)) (by rw [bG]; omega) (dR _) (by simp only [maxLen]; omega) (by omega) (by first | (simp; done) | (simp; omega)) ?_; intro A2 c2 w2 hown2 hg2 _; have ho2 := ownB_of (l := (2::[0]) ++ p) hown2 rfl; have hb2 := ho2.isB; have H2 := Lib.hid hb2; clear ho2 hb2 hown2)
   refine (uy _ _ _ H2.out (by simp; omega)).mono ?_
   rintro e w3 ⟨v3, rfl, hg3, v4, rfl, ho4⟩
   go_wp2
   refine bodyPost_ret (results_tmp2 rfl _ _ _) rfl ?_
   have hb1 : Below w.heap.size w w2 := ((Below.refl _ _).alloc (Nat.le_refl _) _).grown hg2 (by first | (simp; done) | (simp; omega)) fun j hj => by injection hj with h; subst h; first | exact Nat.le_refl _ | simp
   exact ⟨_, rfl, hb1.trans (hg3.mono hb1.size), v4, rfl, own_base ho4 hb1.size⟩
end Go.Proofs.YtelbhdobjdnglaaGreat
namespace Go.Proofs.YtelbhdobjdnglaaGreat
set_option linter.unusedVariables false
open Go.RowKit Mono Rlp
namespace E
theorem uH {ok : Nat → Prop} {w w' : World} {v : Value} {l : List UInt8} (h : OwnB w' w.heap.size v l) : bY (fun b => (ok b ∨ w.heap.size ≤ b) ∧ b < w'.heap.size) w' (.bs l) v := by
 refine (bM rfl).2 ?_
 rw [Reads]
 exact ⟨_, rfl, (nI h).mono (fun b hb => ⟨.inr hb.1, hb.2⟩) fun _ _ => rfl⟩
def ppk (p : List UInt8) (leaf : Bool) : List UInt8 := (joinL (hdr p leaf ++ p)).getD []
theorem uX (l : List UInt8) (hl : l.length ≤ 1073741824) : Fn 90 [.bs l] (· = .val (.bs (split l))) := ⟨fun ok w xs hok hr => by
 obtain ⟨x, _, rfl, h, hn⟩ := hr
 cases hn
 refine (Ir x l w (kS hok h) hl).mono ?_
 rintro e w' ⟨v', rfl, hg, hv⟩
 exact ⟨hg, _, _, rfl, rfl, uH hv⟩⟩
theorem uV (l : List UInt8) (hl : l.length ≤ 1073741824) : Fn 69 [.bs l] (· = .val (.bs (split l))) := ⟨fun ok w xs hok hr => by
 obtain ⟨x, _, rfl, h, hn⟩ := hr
 cases hn
 refine (LC x l w (kS hok h) hl).mono ?_
 rintro e w' ⟨v', rfl, hg, hv⟩
 exact ⟨hg, _, _, rfl, rfl, uH hv⟩⟩
theorem J8 (p : List UInt8) (leaf : Bool) (hl : p.length ≤ 536870912) : Fn 182 [.bs p, .v (.bool leaf)] (· = .tpl [.bs (ppk p leaf), .v (.bool (joinL (hdr p leaf ++ p)).isSome)]) := ⟨fun ok w xs hok hr => by
 obtain ⟨x, _, rfl, h, y, _, rfl, h2, hn⟩ := hr
 cases hn
 obtain rfl := (bg.1 h2).2
 refine (MB x p leaf w (kS hok h) hl).mono ?_
 rintro e w' ⟨v', rfl, hg, v1, rfl, hv⟩
 exact ⟨hg, _, _, rfl, rfl, ⟨_, rfl, _, _, rfl, uH hv, _, _, rfl, bg.2 ⟨rfl, rfl⟩, rfl⟩⟩⟩
theorem Gm (p : List UInt8) (leaf : Bool) (hl : p.length ≤ 536870912) : Fn 122 [.bs p, .v (.bool leaf)] (· = .tpl [.bs (ppk p leaf), .v (.bool (joinL (hdr p leaf ++ p)).isSome)]) := ⟨fun ok w xs hok hr => by
 obtain ⟨x, _, rfl, h, y, _, rfl, h2, hn⟩ := hr
 cases hn
 obtain rfl := (bg.1 h2).2
 refine (LG x p leaf w (kS hok h) hl).mono ?_
 rintro e w' ⟨v', rfl, hg, v1, rfl, hv⟩
 exact ⟨hg, _, _, rfl, rfl, ⟨_, rfl, _, _, rfl, uH hv, _, _, rfl, bg.2 ⟨rfl, rfl⟩, rfl⟩⟩⟩
theorem Cb (l m : List UInt8) : Fn 124 [.bs l, .bs m] (· = .val (.v (.int .i64 (common l m : Nat)))) := ⟨fun ok w xs hok hr => by
 obtain ⟨x, _, rfl, h, y, _, rfl, h2, hn⟩ := hr
 cases hn
 refine (H6 x y l m w (kS hok h) (kS hok h2)).mono ?_
 rintro e w' ⟨rfl, k, rfl⟩
 exact ⟨⟨rfl, rfl, rfl, Nat.le_refl _, fun _ _ => rfl⟩, _, _, rfl, rfl, bg.2 ⟨rfl, rfl⟩⟩⟩
end E
end Go.Proofs.YtelbhdobjdnglaaGreat
namespace Go.Proofs.YtelbhdobjdnglaaGreat.Kec
abbrev L := BitVec 64
abbrev St := Nat → L
def upd (f : St) (k : Nat) (v : L) : St := fun j => if j = k then v else f j
def rotl (x : L) (n : Nat) : L := x <<< n ||| x >>> (64 - n)
theorem Ux (x : L) : x >>> 64 = 0 := by
 apply BitVec.eq_of_toNat_eq
 rw [BitVec.toNat_ushiftRight, YS]
 have := x.isLt
 exact Nat.div_eq_of_lt this
theorem rG (x : L) : rotl x 0 = x := by simp [rotl, Ux]
def turn (k : Nat) : Nat := [0, 1, 62, 28, 27, 36, 44, 6, 55, 20, 3, 10, 43, 25, 39, 41, 45, 15, 21, 8, 18, 2, 61, 56, 14].getD k 0
def rc (k : Nat) : L := ([0x0000000000000001, 0x0000000000008082, 0x800000000000808a, 0x8000000080008000, 0x000000000000808b, 0x0000000080000001,
 0x8000000080008081, 0x8000000000008009, 0x000000000000008a, 0x0000000000000088, 0x0000000080008009, 0x000000008000000a,
 0x000000008000808b, 0x800000000000008b, 0x8000000000008089, 0x8000000000008003, 0x8000000000008002, 0x8000000000000080,
 0x000000000000800a, 0x800000008000000a, 0x8000000080008081, 0x8000000000008080, 0x0000000080000001, 0x8000000080008008] : List L).getD k 0
def col (s : St) (x : Nat) : L := s x ^^^ s (x + 5) ^^^ s (x + 10) ^^^ s (x + 15) ^^^ s (x + 20)
def dd (s : St) (x : Nat) : L := col s ((x + 4) % 5) ^^^ rotl (col s ((x + 1) % 5)) 1
def place (k : Nat) : Nat := k / 5 + 5 * ((2 * (k % 5) + 3 * (k / 5)) % 5)
def bb (s : St) : Nat → St
 | 0 => fun _ => 0
 | k + 1 => upd (bb s k) (place k) (rotl (s k ^^^ dd s (k % 5)) (turn k))
def chi (b : St) (k : Nat) : L := b k ^^^ (~~~ b ((k % 5 + 1) % 5 + k / 5 * 5) &&& b ((k % 5 + 2) % 5 + k / 5 * 5))
def ss (b s : St) : Nat → St
 | 0 => s
 | k + 1 => upd (ss b s k) k (chi b k)
def round (s : St) (n : L) : St := upd (ss (bb s 25) s 25) 0 (ss (bb s 25) s 25 0 ^^^ n)
def perm (s : St) : Nat → St
 | 0 => s
 | k + 1 => round (perm s k) (rc k)
def th1 (d : L) (x : Nat) (a : St) : Nat → St
 | 0 => a
 | k + 1 => upd (th1 d x a k) (x + 5 * k) (th1 d x a k (x + 5 * k) ^^^ d)
def th (c a : St) : Nat → St
 | 0 => a
 | x + 1 => th1 (c ((x + 4) % 5) ^^^ rotl (c ((x + 1) % 5)) 1) x (th c a x) 5
structure Walk where
 x : Nat
 y : Nat
 cur : L
 a : St
def mv (a : St) : Nat → Walk
 | 0 => ⟨1, 0, a 1, a⟩
 | t + 1 =>
  let w := mv a t
  let x := w.y
  let y := (2 * w.x + 3 * w.y) % 5
  ⟨x, y, w.a (x + 5 * y), upd w.a (x + 5 * y) (rotl w.cur ((t + 1) * (t + 2) / 2 % 64))⟩
def ch1 (r a : St) (y : Nat) : Nat → St
 | 0 => a
 | x + 1 => upd (ch1 r a y x) (x + y) (r x ^^^ (~~~ r ((x + 1) % 5) &&& r ((x + 2) % 5)))
def ch (a : St) : Nat → St
 | 0 => a
 | y + 1 => ch1 (fun x => ch a y (x + 5 * y)) (ch a y) (5 * y) 5
def lf (l : BitVec 8) : BitVec 8 := if l &&& 128 ≠ 0 then (l <<< 1) ^^^ 0x71 else l <<< 1
def lfn (l : BitVec 8) : Nat → BitVec 8
 | 0 => l
 | j + 1 => lf (lfn l j)
def io (a : St) (l : BitVec 8) : Nat → St
 | 0 => a
 | j + 1 => if lfn l j &&& 1 = 1 then upd (io a l j) 0 (io a l j 0 ^^^ (1 : L) <<< (2 ^ j - 1)) else io a l j
def yH (a : St) (l : BitVec 8) : St := io (ch (mv (th (col a) a 5) 24).a 5) l 7
def yI (a : St) : Nat → St
 | 0 => a
 | k + 1 => yH (yI a k) (lfn 1 (7 * k))
def num (l : BitVec 8) : Nat → L
 | 0 => 0
 | j + 1 => if lfn l j &&& 1 = 1 then num l j ^^^ (1 : L) <<< (2 ^ j - 1) else num l j
theorem Ua (a : St) (l : BitVec 8) : ∀ j, io a l j = upd a 0 (a 0 ^^^ num l j)
 | 0 => by funext k; simp [io, num, upd]; intro h; rw [h]
 | j + 1 => by
  unfold io num
  rw [Ua a l j]
  split
  ·
   funext k
   by_cases hk : k = 0
   · subst hk; simp [upd, BitVec.xor_assoc]
   · simp [upd, hk]
  · rfl
theorem UH : ∀ k, k < 24 → num (lfn 1 (7 * k)) 7 = rc k := by decide +kernel
theorem WE (a : St) : ss (bb a 25) a 25 0 = ch (mv (th (col a) a 5) 24).a 5 0 := by simp [ss, bb, chi, upd, place, dd, col, turn, ch, ch1, mv, th, th1, rG]
theorem WC (a : St) : ss (bb a 25) a 25 1 = ch (mv (th (col a) a 5) 24).a 5 1 := by simp [ss, bb, chi, upd, place, dd, col, turn, ch, ch1, mv, th, th1]
theorem WB (a : St) : ss (bb a 25) a 25 2 = ch (mv (th (col a) a 5) 24).a 5 2 := by simp [ss, bb, chi, upd, place, dd, col, turn, ch, ch1, mv, th, th1]
theorem WA (a : St) : ss (bb a 25) a 25 3 = ch (mv (th (col a) a 5) 24).a 5 3 := by simp [ss, bb, chi, upd, place, dd, col, turn, ch, ch1, mv, th, th1, rG]
theorem Wy (a : St) : ss (bb a 25) a 25 4 = ch (mv (th (col a) a 5) 24).a 5 4 := by simp [ss, bb, chi, upd, place, dd, col, turn, ch, ch1, mv, th, th1, rG]
theorem Wx (a : St) : ss (bb a 25) a 25 5 = ch (mv (th (col a) a 5) 24).a 5 5 := by simp [ss, bb, chi, upd, place, dd, col, turn, ch, ch1, mv, th, th1]
theorem Wv (a : St) : ss (bb a 25) a 25 6 = ch (mv (th (col a) a 5) 24).a 5 6 := by simp [ss, bb, chi, upd, place, dd, col, turn, ch, ch1, mv, th, th1]
theorem Wu (a : St) : ss (bb a 25) a 25 7 = ch (mv (th (col a) a 5) 24).a 5 7 := by simp [ss, bb, chi, upd, place, dd, col, turn, ch, ch1, mv, th, th1]
theorem Ws (a : St) : ss (bb a 25) a 25 8 = ch (mv (th (col a) a 5) 24).a 5 8 := by simp [ss, bb, chi, upd, place, dd, col, turn, ch, ch1, mv, th, th1]
theorem Wq (a : St) : ss (bb a 25) a 25 9 = ch (mv (th (col a) a 5) 24).a 5 9 := by simp [ss, bb, chi, upd, place, dd, col, turn, ch, ch1, mv, th, th1]
theorem U6 (a : St) : ss (bb a 25) a 25 10 = ch (mv (th (col a) a 5) 24).a 5 10 := by simp [ss, bb, chi, upd, place, dd, col, turn, ch, ch1, mv, th, th1]
theorem U5 (a : St) : ss (bb a 25) a 25 11 = ch (mv (th (col a) a 5) 24).a 5 11 := by simp [ss, bb, chi, upd, place, dd, col, turn, ch, ch1, mv, th, th1]
theorem U4 (a : St) : ss (bb a 25) a 25 12 = ch (mv (th (col a) a 5) 24).a 5 12 := by simp [ss, bb, chi, upd, place, dd, col, turn, ch, ch1, mv, th, th1]
theorem U3 (a : St) : ss (bb a 25) a 25 13 = ch (mv (th (col a) a 5) 24).a 5 13 := by simp [ss, bb, chi, upd, place, dd, col, turn, ch, ch1, mv, th, th1]
theorem U2 (a : St) : ss (bb a 25) a 25 14 = ch (mv (th (col a) a 5) 24).a 5 14 := by simp [ss, bb, chi, upd, place, dd, col, turn, ch, ch1, mv, th, th1]
theorem U1 (a : St) : ss (bb a 25) a 25 15 = ch (mv (th (col a) a 5) 24).a 5 15 := by simp [ss, bb, chi, upd, place, dd, col, turn, ch, ch1, mv, th, th1]
theorem U0 (a : St) : ss (bb a 25) a 25 16 = ch (mv (th (col a) a 5) 24).a 5 16 := by simp [ss, bb, chi, upd, place, dd, col, turn, ch, ch1, mv, th, th1]
theorem UZ (a : St) : ss (bb a 25) a 25 17 = ch (mv (th (col a) a 5) 24).a 5 17 := by simp [ss, bb, chi, upd, place, dd, col, turn, ch, ch1, mv, th, th1]
theorem UY (a : St) : ss (bb a 25) a 25 18 = ch (mv (th (col a) a 5) 24).a 5 18 := by simp [ss, bb, chi, upd, place, dd, col, turn, ch, ch1, mv, th, th1]
theorem UW (a : St) : ss (bb a 25) a 25 19 = ch (mv (th (col a) a 5) 24).a 5 19 := by simp [ss, bb, chi, upd, place, dd, col, turn, ch, ch1, mv, th, th1]
theorem UU (a : St) : ss (bb a 25) a 25 20 = ch (mv (th (col a) a 5) 24).a 5 20 := by simp [ss, bb, chi, upd, place, dd, col, turn, ch, ch1, mv, th, th1]
theorem UR (a : St) : ss (bb a 25) a 25 21 = ch (mv (th (col a) a 5) 24).a 5 21 := by simp [ss, bb, chi, upd, place, dd, col, turn, ch, ch1, mv, th, th1]
theorem UQ (a : St) : ss (bb a 25) a 25 22 = ch (mv (th (col a) a 5) 24).a 5 22 := by simp [ss, bb, chi, upd, place, dd, col, turn, ch, ch1, mv, th, th1]
theorem UO (a : St) : ss (bb a 25) a 25 23 = ch (mv (th (col a) a 5) 24).a 5 23 := by simp [ss, bb, chi, upd, place, dd, col, turn, ch, ch1, mv, th, th1]
theorem UN (a : St) : ss (bb a 25) a 25 24 = ch (mv (th (col a) a 5) 24).a 5 24 := by simp [ss, bb, chi, upd, place, dd, col, turn, ch, ch1, mv, th, th1]
theorem lane (a : St) (k : Nat) (hk : k < 25) : ss (bb a 25) a 25 k = ch (mv (th (col a) a 5) 24).a 5 k := by
 match k, hk with
 | 0, _ => exact WE a
 | 1, _ => exact WC a
 | 2, _ => exact WB a
 | 3, _ => exact WA a
 | 4, _ => exact Wy a
 | 5, _ => exact Wx a
 | 6, _ => exact Wv a
 | 7, _ => exact Wu a
 | 8, _ => exact Ws a
 | 9, _ => exact Wq a
 | 10, _ => exact U6 a
 | 11, _ => exact U5 a
 | 12, _ => exact U4 a
 | 13, _ => exact U3 a
 | 14, _ => exact U2 a
 | 15, _ => exact U1 a
 | 16, _ => exact U0 a
 | 17, _ => exact UZ a
 | 18, _ => exact UY a
 | 19, _ => exact UW a
 | 20, _ => exact UU a
 | 21, _ => exact UR a
 | 22, _ => exact UQ a
 | 23, _ => exact UO a
 | 24, _ => exact UN a
 | k + 25, h => omega
def Same (a b : St) : Prop := ∀ k, k < 25 → a k = b k
end Go.Proofs.YtelbhdobjdnglaaGreat.Kec
namespace Go.Proofs.YtelbhdobjdnglaaGreat
set_option maxHeartbeats 400000
open Go.RowKit Mono
open Kec
def u (x : L) : Int := (x.toNat : Int)
theorem uq (x : L) : 0 ≤ u x ∧ u x < 18446744073709551616 := by
 have := x.isLt
 unfold u
 omega
theorem pX (x y : L) : bits .xor .u64 (u x) (u y) = u (x ^^^ y) := by
 unfold u
 rw [u64_xor_nat _ _ x.isLt y.isLt, BitVec.toNat_xor]
theorem Oa (x y : L) : bits .and .u64 (u x) (u y) = u (x &&& y) := by
 unfold u
 rw [u64_and_nat _ _ x.isLt y.isLt, BitVec.toNat_and]
theorem VQ (x y : L) : bits .or .u64 (u x) (u y) = u (x ||| y) := by
 unfold u
 rw [u64_or_nat _ _ x.isLt y.isLt, BitVec.toNat_or]
theorem Jq (x : L) (n : Nat) : IntKind.u64.wrap (u x * 2 ^ n) = u (x <<< n) := by
 unfold u
 rw [IntKind.wrap_u64, BitVec.toNat_shiftLeft, Nat.shiftLeft_eq]
 have h : ((x.toNat : Int) * 2 ^ n) = ((x.toNat * 2 ^ n : Nat) : Int) := by simp
 rw [h]
 exact (Int.natCast_emod _ _).symm
theorem Jp (x : L) (n : Nat) : u x / 2 ^ n = u (x >>> n) := by
 unfold u
 rw [BitVec.toNat_ushiftRight, YS]
 simp
def lv (x : L) : Value := .int .u64 (u x)
theorem rotate (x : L) (k : Nat) (hk : k < 64) (w : World) : Calls Tryz.prog 191 #[.int .u64 (u x), .int .i64 k] w fun e w' => e = .returned (.int .u64 (u (rotl x k))) ∧ w' = w := by
 have ha : bits .and .u64 (k : Int) 63 = k := by
  have := u64_and_nat k 63 (by omega) (by omega)
  rw [show ((63 : Nat) : Int) = 63 from rfl] at this
  rw [this]
  congr 1
  exact (Yo k 6).trans (Nat.mod_eq_of_lt hk)
 have hx := uq x
 have hx0 := hx.1
 clear hx
 go_enter Tryz.func191, Tryz.ntmps191
 go_wp2
 refine bodyPost_ret (results_tmp rfl _ _ _) rfl ⟨?_, rfl⟩
 show Ending.returned (.int .u64 (bits .or .u64 (IntKind.u64.wrap (u x * 2 ^ k)) (u x / 2 ^ (64 - k)))) = _
 rw [Jq, Jp, VQ]
 rfl
theorem rol (x : L) (k : Nat) (hk : k < 64) (w : World) : Calls Tryz.prog 105 #[.int .u64 (u x), .int .u64 k] w fun e w' => e = .returned (.int .u64 (u (rotl x k))) ∧ w' = w := by
 by_cases h0 : k = 0
 ·
  subst h0
  rw [rG]
  go_enter Tryz.func105, Tryz.ntmps105
  go_wp2
  exact bodyPost_ret (results_tmp rfl _ _ _) rfl ⟨rfl, rfl⟩
 ·
  have hk1 : 0 < k := by omega
  clear h0
  go_enter Tryz.func105, Tryz.ntmps105
  go_wp2
  refine bodyPost_ret (results_tmp rfl _ _ _) rfl ⟨?_, rfl⟩
  show Ending.returned (.int .u64 (bits .or .u64 (IntKind.u64.wrap (u x * 2 ^ k)) (u x / 2 ^ (64 - k)))) = _
  rw [Jq, Jp, VQ]
  rfl
def cellsOf (f : St) (n : Nat) : Array Value := ((List.range n).map fun k => lv (f k)).toArray
def dh (w : World) (g : Nat) (t : TypeId) (n : Nat) (f : St) : Prop := w.heap[g]? = some (.cells (cellsOf f n) t (0, 0))
theorem cellsOf_size (f : St) (n : Nat) : (cellsOf f n).size = n := by simp [cellsOf]
theorem ni (f : St) (n k : Nat) (h : k < n) : (cellsOf f n)[k]? = some (lv (f k)) := by simp [cellsOf, h]
theorem cellsOf_set (f : St) (n k : Nat) (v : L) : (cellsOf f n).setIfInBounds k (lv v) = cellsOf (Kec.upd f k v) n := by
 apply Array.ext_getElem?
 intro i
 rw [Array.getElem?_setIfInBounds]
 by_cases hi : i < n
 ·
  by_cases hk : k = i
  ·
   subst hk
   rw [if_pos rfl, cellsOf_size, if_pos hi, ni _ n k hi]
   congr 2
   exact (if_pos rfl).symm
  ·
   rw [if_neg hk, ni _ n i hi, ni _ n i hi]
   congr 2
   exact (if_neg (Ne.symm hk)).symm
 ·
  have h1 : (cellsOf f n)[i]? = none := Array.getElem?_eq_none (by rw [cellsOf_size]; omega)
  have h2 : (cellsOf (Kec.upd f k v) n)[i]? = none := Array.getElem?_eq_none (by rw [cellsOf_size]; omega)
  rw [h1, h2]
  by_cases hk : k = i
  · subst hk; rw [if_pos rfl, cellsOf_size, if_neg hi]
  · rw [if_neg hk]
section
variable {w w' : World} {g : Nat} {t : TypeId} {n : Nat} {f : St}
theorem dh.lt (h : dh w g t n f) : g < w.heap.size := by
 rcases XY g w.heap.size with h1 | h1
 · exact h1
 · unfold dh at h; rw [Array.getElem?_eq_none h1] at h; cases h
theorem dh.cell (h : dh w g t n f) (k : Nat) (hk : k < n) : w.cell? ⟨g, k, none⟩ = some (lv (f k)) := by
 rw [cell_of_row w g k _ t (0, 0) h]
 exact ni f n k hk
theorem dh.frozen (h : dh w g t n f) (k : Nat) : w.frozen? ⟨g, k, none⟩ = false := by
 unfold dh at h
 simp [World.frozen?, h]
theorem dh.gr (h : dh w g t n f) (hg : Gr w w') : dh w' g t n f := (hg.block g h.lt).trans h
theorem dh.set (h : dh w g t n f) (k : Nat) (v : L) : dh (w.setCell ⟨g, k, none⟩ (lv v)) g t n (Kec.upd f k v) := by
 unfold dh at h ⊢
 simp [World.setCell, Array.getElem?_modify, h, cellsOf_set]
theorem dh.far (h : dh w g t n f) {p : Addr} (hp : g ≠ p.block) (v : Value) : dh (w.setCell p v) g t n f := (Below.heap_setCell w p v g hp).trans h
theorem dh.alloc (h : dh w g t n f) (o : Obj) : dh (w.alloc o) g t n f := h.gr (ay w o)
theorem dh.grown (h : dh w g t n f) {row : Option Nat} (hg : w.grownBy w' row) (hne : some g ≠ row) : dh w' g t n f := (hg.block g h.lt hne).trans h
end
def Only (g : Nat) (w w' : World) : Prop := w.grownBy w' (some g)
theorem Only.Bz {w w' : World} (h : Gr w w') (g : Nat) : Only g w w' := ⟨h.os, h.tape, h.output, h.size, fun k hk _ => h.block k hk⟩
theorem Only.refl (g : Nat) (w : World) : Only g w w := Only.Bz (Gr.refl w) g
theorem Only.trans {g : Nat} {a b c : World} (h : Only g a b) (k : Only g b c) : Only g a c :=
 ⟨k.os.trans h.os, k.tape.trans h.tape, k.output.trans h.output, Yi h.size k.size, fun i hi hne => (k.block i (XM hi h.size) hne).trans (h.block i hi hne)⟩
theorem Only.set {g : Nat} (w : World) (k : Nat) (v : Value) : Only g w (w.setCell ⟨g, k, none⟩ v) :=
 ⟨rfl, rfl, rfl, by simp [World.setCell], fun i _ hne => Below.heap_setCell w _ v i (fun e => hne (by rw [e]))⟩
theorem Only.gr {g : Nat} {a b c : World} (hab : Gr a b) (h : Only g b c) (hg : a.heap.size ≤ g) : Gr a c :=
 ⟨h.os.trans hab.os, h.tape.trans hab.tape, h.output.trans hab.output, Yi hab.size h.size, fun i hi => (h.block i (XM hi hab.size) (fun e => by injection e with e; omega)).trans (hab.block i hi)⟩
end Go.Proofs.YtelbhdobjdnglaaGreat
namespace Go.Proofs.YtelbhdobjdnglaaGreat
set_option maxRecDepth 20000
set_option maxHeartbeats 1000000
open Go.RowKit Mono
open Kec (L St rotl)
def takeB (f : St) (k : Nat) (b : Nat) : St := Kec.upd f (k / 8) (f (k / 8) ^^^ (BitVec.ofNat 64 b) <<< (8 * (k % 8)))
theorem N9 (n : Nat) (h : n < 256) : u (BitVec.ofNat 64 n) = (n : Int) := by
 unfold u
 rw [BitVec.toNat_ofNat]
 omega
def TI (R : World → Prop) (e : Ending) (w' : World) : Prop := e = .returned (.tuple #[]) ∧ R w'
theorem zk (g : Nat) (t : TypeId) (f : St) (k n : Nat) (hk : k < 136) (hn : n < 256) (w : World) (hl : dh w g t 25 f) :
  Calls Tryz.prog 135 #[.pointer (some ⟨g, 0, none⟩), .int .i64 k, .int .u8 n] w (TI fun w' => dh w' g t 25 (takeB f k n) ∧ Only g w w') := by
 have hg := hl.lt
 have c1 := aZ (w := w) (p := ⟨g, k / 8, none⟩) hg (hl.cell (k / 8) (by omega))
 unfold lv at c1
 have hu := uq (f (k / 8))
 have hu0 := hu.1
 have HL := Lib.hid hl
 clear hl hu
 go_enter Tryz.func135, Tryz.ntmps135
 go_wp2
 refine dO 15 (by kernel_rfl) (by kernel_rfl) (by kernel_rfl) ?_
 simp only [Xp, Xu, mP, Xq]
 refine dS 15 (by kernel_rfl) ?_
 simp only [Xp, Xu, mP, Xq]
 repeat (go_big_quiet_step (fail))
 refine wpQuiet_nil ?_
 refine iE (by kernel_rfl) ?_
 intro W hW
 replace hW := hW.gr
 unfold pJ
 have HW := Lib.hid (HL.out.gr hW)
 have e1 := HW.out.cell (k / 8) (by omega)
 have e2 := HW.out.frozen (k / 8)
 unfold lv at e1
 go_wp2
 refine bodyPost_ret (results_none rfl _ _ _) rfl ⟨rfl, ?_⟩
 have hv : Value.int .u64 (bits .xor .u64 (u (f (k / 8))) (IntKind.u64.wrap ((n : Int) * 2 ^ (8 * (k % 8))))) = lv (f (k / 8) ^^^ (BitVec.ofNat 64 n) <<< (8 * (k % 8))) := by
  rw [← N9 n hn, Jq, pX]
  rfl
 rw [hv]
 exact ⟨HW.out.set _ _, (Only.Bz hW g).trans (Only.set _ _ _)⟩
def jU : Array Value := ((List.range 25).map fun k => Value.int .i64 (Kec.turn k)).toArray
def Turns (w : World) (g : Nat) (t : TypeId) : Prop := w.heap[g]? = some (.cells jU t (0, 0))
theorem Turns.cell {w : World} {g : Nat} {t : TypeId} (h : Turns w g t) (k : Nat) (hk : k < 25) : w.cell? ⟨g, k, none⟩ = some (.int .i64 (Kec.turn k)) := by
 rw [cell_of_row w g k _ t (0, 0) h]
 simp [jU, hk]
theorem Turns.lt {w : World} {g : Nat} {t : TypeId} (h : Turns w g t) : g < w.heap.size := by
 rcases XY g w.heap.size with h1 | h1
 · exact h1
 · unfold Turns at h; rw [Array.getElem?_eq_none h1] at h; cases h
theorem Turns.gr {w w' : World} {g : Nat} {t : TypeId} (h : Turns w g t) (hg : Gr w w') : Turns w' g t := (hg.block g h.lt).trans h
theorem Q9 : ∀ k, k < 25 → Kec.turn k < 64 := by decide
theorem OW : ∀ k, k < 25 → Kec.place k < 25 := by decide
def fC (f : St) (n : Nat) : St := fun j => if j < n then f j else 0
theorem mZ (f : St) (n : Nat) : Kec.upd (fC f n) n (f n) = fC f (n + 1) := by
 funext j
 unfold Kec.upd fC
 by_cases h : j = n
 · subst h; rw [if_pos rfl, if_pos (by omega)]
 ·
  rw [if_neg h]
  by_cases h2 : j < n
  · rw [if_pos h2, if_pos (by omega)]
  · rw [if_neg h2, if_neg (by omega)]
theorem mY (f : St) : fC f 0 = fun _ => 0 := by funext j; simp [fC]
theorem kR (w : World) (t : TypeId) (n : Nat) (c : Array Value) (h : c = cellsOf (fun _ => 0) n) : dh (w.alloc (.cells c t)) w.heap.size t n (fun _ => 0) := by
 subst h
 unfold dh World.alloc
 simp
theorem TQ (x : L) : bits .xor .u64 (if IntKind.u64.signed = true then -1 else IntKind.u64.max) (u x) = u (~~~x) := by
 have h : (if IntKind.u64.signed = true then -1 else IntKind.u64.max) = u (BitVec.allOnes 64) := rfl
 rw [h, pX, BitVec.allOnes_xor]
theorem wI (w : World) (o : Obj) : (w.alloc o).heap.size = w.heap.size + 1 := by simp
theorem TS (s : St) (k : Nat) : bits .xor .u64 (bits .xor .u64 (bits .xor .u64 (bits .xor .u64 (u (s k)) (u (s (k + 5)))) (u (s (k + 10)))) (u (s (k + 15)))) (u (s (k + 20))) = u (Kec.col s k) := by
 simp only [pX]
 rfl
theorem MW (g gt : Nat) (t tt : TypeId) (s : St) (n : L) (w : World) (hl : dh w g t 25 s) (ht : Turns w gt tt) :
  Calls Tryz.prog 171 #[.pointer (some ⟨g, 0, none⟩), .pointer (some ⟨gt, 0, none⟩), .int .u64 (u n)] w (TI fun w' => dh w' g t 25 (Kec.round s n) ∧ Only g w w') := by
 have hg := hl.lt
 have hgt := ht.lt
 have HL := Lib.hid hl
 have HT := Lib.hid ht
 clear hl ht
 go_enter Tryz.func171, Tryz.ntmps171
 go_wp2
 go_loopw [17] (fun i wr => ∃ k : Nat, k ≤ 5 ∧ i = .int .i64 k ∧ dh wr w.heap.size 200 5 (fC (Kec.col s) k) ∧ dh wr (w.heap.size + 1) 200 5 (fun _ => 0) ∧ Gr w wr) (fun i _ => 5 - (intOf i).toNat)
 case atStart =>
  refine ⟨0, by omega, rfl, ?_, ?_, ?_⟩
  ·
   rw [mY]
   exact (kR w 200 5 _ rfl).alloc _
  ·
   have := kR (w.alloc (.cells #[.int .u64 0, .int .u64 0, .int .u64 0, .int .u64 0, .int .u64 0] 200)) 200 5 _ rfl
   rw [wI] at this
   exact this
  · exact (ay w _).trans (ay _ _)
 case round =>
  obtain ⟨k, hk, rfl, hc, hd, hb⟩ := hrel
  have hbs := hb.size
  have HC := Lib.hid hc
  have HD := Lib.hid hd
  have HB := Lib.hid hb
  have hcl := hc.lt
  have hdl := hd.lt
  clear hc hd hb
  by_cases h1 : k < 5
  ·
   have c0 := aZ (w := wr) (p := ⟨g, k, none⟩) (by dsimp only; omega) ((HL.out.gr HB.out).cell k (by omega))
   have c1 := aZ (w := wr) (p := ⟨g, k + 5, none⟩) (by dsimp only; omega) ((HL.out.gr HB.out).cell (k + 5) (by omega))
   have c2 := aZ (w := wr) (p := ⟨g, k + 10, none⟩) (by dsimp only; omega) ((HL.out.gr HB.out).cell (k + 10) (by omega))
   have c3 := aZ (w := wr) (p := ⟨g, k + 15, none⟩) (by dsimp only; omega) ((HL.out.gr HB.out).cell (k + 15) (by omega))
   have c4 := aZ (w := wr) (p := ⟨g, k + 20, none⟩) (by dsimp only; omega) ((HL.out.gr HB.out).cell (k + 20) (by omega))
   unfold lv at c0 c1 c2 c3 c4
   go_wp2
   refine dO 35 (by kernel_rfl) (by kernel_rfl) (by kernel_rfl) ?_
   simp only [Xp, Xu, mP, Xq]
   refine dS 35 (by kernel_rfl) ?_
   simp only [Xp, Xu, mP, Xq]
   repeat (go_big_quiet_step (fail))
   refine wpQuiet_nil ?_
   refine iE (by kernel_rfl) ?_
   intro W hW
   replace hW := hW.gr
   unfold pJ
   rename_i wq hW
   have HQ := Lib.hid (HC.out.gr hW)
   have e2 := HQ.out.frozen k
   have e1 := HQ.out.cell k (by omega)
   unfold lv at e1
   go_wp2
   go_roundw
   case rel =>
    rw [TS]
    refine ⟨k + 1, by omega, by go_num, ?_, ?_, ?_⟩
    ·
     rw [← mZ]
     exact HQ.out.set k (Kec.col s k)
    · exact ((HD.out.gr hW)).far (by simp) _
    · exact (Only.set (g := w.heap.size) _ k _).gr (HB.out.trans hW) (Nat.le_refl _)
   case measure => simp [intOf]; omega
  ·
   have h5 : k = 5 := by omega
   subst h5
   go_wp2_with fail
   obtain ⟨wo, rfl⟩ : ∃ wo : World, wo = wr := ⟨_, rfl⟩
   go_loopw [56] (fun i wr => ∃ k : Nat, k ≤ 5 ∧ i = .int .i64 k ∧ dh wr w.heap.size 200 5 (fC (Kec.col s) 5) ∧ dh wr (w.heap.size + 1) 200 5 (fC (Kec.dd s) k) ∧ Gr w wr) (fun i _ => 5 - (intOf i).toNat)
   case atStart => exact ⟨0, by omega, rfl, HC.out, by rw [mY]; exact HD.out, HB.out⟩
   case round =>
    clear HB HC HD
    obtain ⟨k, hk, rfl, hc, hd, hb⟩ := hrel
    have hbs := hb.size
    have HC := Lib.hid hc
    have HD := Lib.hid hd
    have HB := Lib.hid hb
    have hcl := hc.lt
    have hdl := hd.lt
    clear hc hd hb
    by_cases h1 : k < 5
    ·
     have c0 := aZ (w := wr) (p := ⟨w.heap.size, (k + 4) % 5, none⟩) (by dsimp only; omega) (HC.out.cell ((k + 4) % 5) (by omega))
     have c1 := aZ (w := wr) (p := ⟨w.heap.size, (k + 1) % 5, none⟩) (by dsimp only; omega) (HC.out.cell ((k + 1) % 5) (by omega))
     unfold lv at c0 c1
     go_wp2
     refine dO 14 (by kernel_rfl) (by kernel_rfl) (by kernel_rfl) ?_
     simp only [Xp, Xu, mP, Xq]
     refine dS 11 (by kernel_rfl) ?_
     simp only [Xp, Xu, mP, Xq]
     repeat (go_big_quiet_step (fail))
     refine wpQuiet_nil ?_
     refine xR (.int .u64 (u (rotl (fC (Kec.col s) 5 ((k + 1) % 5)) 1))) rfl (by kernel_rfl) (by kernel_rfl) (fun xw => ?_) ?_
     ·
      refine lJ (by simp [go_sem]) ((rotate (fC (Kec.col s) 5 ((k + 1) % 5)) 1 (by omega) _).mono ?_)
      rintro e w' ⟨rfl, rfl⟩
      exact ⟨_, rfl, Gr.refl _, rfl⟩
     simp only [Act.put, Zd, YU, YX]
     refine dS 2 (by kernel_rfl) ?_
     simp only [Xp, Xu, mP, Xq]
     repeat (go_big_quiet_step (fail))
     refine wpQuiet_nil ?_
     refine iE (by kernel_rfl) ?_
     intro W hW
     replace hW := hW.gr
     unfold pJ
     rename_i wq hW
     have HQ := Lib.hid (HD.out.gr hW)
     have e2 := HQ.out.frozen k
     have e1 := HQ.out.cell k (by omega)
     unfold lv at e1
     go_wp2
     go_roundw
     case rel =>
      have hf : u (fC (Kec.col s) 5 ((k + 4) % 5)) = u (Kec.col s ((k + 4) % 5)) := by unfold fC; rw [if_pos (by omega)]
      have hf1 : fC (Kec.col s) 5 ((k + 1) % 5) = Kec.col s ((k + 1) % 5) := by unfold fC; rw [if_pos (by omega)]
      rw [hf, hf1, pX]
      refine ⟨k + 1, by omega, by go_num, ?_, ?_, ?_⟩
      · exact (HC.out.gr hW).far (by simp) _
      ·
       rw [← mZ]
       exact HQ.out.set k (Kec.dd s k)
      · exact (Only.set (g := w.heap.size + 1) _ k _).gr (HB.out.trans hW) (by omega)
     case measure => simp [intOf]; omega
    ·
     have h5 : k = 5 := by omega
     subst h5
     go_wp2_with fail
     obtain ⟨wo, rfl⟩ : ∃ wo : World, wo = wr := ⟨_, rfl⟩
     go_loopw [74] (fun i wr => ∃ k : Nat, k ≤ 25 ∧ i = .int .i64 k ∧ dh wr (w.heap.size + 1) 200 5 (fC (Kec.dd s) 5) ∧ dh wr wo.heap.size 231 25 (Kec.bb s k) ∧ Gr w wr) (fun i _ => 25 - (intOf i).toNat)
     case atStart => exact ⟨0, by omega, rfl, HD.out.alloc _, kR wo 231 25 _ rfl, HB.out.trans (ay _ _)⟩
     case round =>
      clear HB HC HD
      obtain ⟨k, hk, rfl, hd, he, hb⟩ := hrel
      have hbs2 := hb.size
      have HE := Lib.hid he
      have HD := Lib.hid hd
      have HB := Lib.hid hb
      have hel := he.lt
      clear he hd hb
      by_cases h1 : k < 25
      ·
       have c0 := aZ (w := wr) (p := ⟨g, k, none⟩) (by dsimp only; omega) ((HL.out.gr HB.out).cell k (by omega))
       have c1 := aZ (w := wr) (p := ⟨w.heap.size + 1, k % 5, none⟩) (by dsimp only; omega) (HD.out.cell (k % 5) (by omega))
       have c2 := aZ (w := wr) (p := ⟨gt, k, none⟩) (by dsimp only; omega) ((HT.out.gr HB.out).cell k (by omega))
       unfold lv at c0 c1
       go_wp2
       refine dO 25 (by kernel_rfl) (by kernel_rfl) (by kernel_rfl) ?_
       simp only [Xp, Xu, mP, Xq]
       refine dS 23 (by kernel_rfl) ?_
       simp only [Xp, Xu, mP, Xq]
       repeat (go_big_quiet_step (fail))
       refine wpQuiet_nil ?_
       refine xR (.int .u64 (u (rotl (s k ^^^ fC (Kec.dd s) 5 (k % 5)) (Kec.turn k)))) rfl (by kernel_rfl) (by kernel_rfl) (fun xw => ?_) ?_
       ·
        refine lJ (by simp [go_sem, pX]) ((rotate (s k ^^^ fC (Kec.dd s) 5 (k % 5)) (Kec.turn k) (Q9 k h1) _).mono ?_)
        rintro e w' ⟨rfl, rfl⟩
        exact ⟨_, rfl, Gr.refl _, rfl⟩
       simp only [Act.put, Zd, YU, YX]
       refine dS 1 (by kernel_rfl) ?_
       simp only [Xp, Xu, mP, Xq]
       repeat (go_big_quiet_step (fail))
       refine wpQuiet_nil ?_
       refine iE (by kernel_rfl) ?_
       intro W hW
       replace hW := hW.gr
       unfold pJ
       rename_i wq hW
       have HQ := Lib.hid (HE.out.gr hW)
       have e2 := HQ.out.frozen (Kec.place k)
       have e1 := HQ.out.cell (Kec.place k) (OW k h1)
       unfold lv at e1
       unfold Kec.place at e1 e2
       go_wp2
       go_roundw
       case rel =>
        have hv : u (rotl (s k ^^^ fC (Kec.dd s) 5 (k % 5)) (Kec.turn k)) = u (rotl (s k ^^^ Kec.dd s (k % 5)) (Kec.turn k)) := by
         unfold fC
         rw [if_pos (by omega)]
        rw [hv]
        refine ⟨k + 1, by omega, by go_num, ?_, ?_, ?_⟩
        · exact (HD.out.gr hW).far (by dsimp only; omega) _
        · exact HQ.out.set (Kec.place k) _
        · exact (Only.set (g := wo.heap.size) _ (Kec.place k) _).gr (HB.out.trans hW) (by omega)
       case measure => simp [intOf]; omega
      ·
       have h5 : k = 25 := by omega
       subst h5
       go_wp2_with fail
       obtain ⟨wo2, rfl⟩ : ∃ wo : World, wo = wr := ⟨_, rfl⟩
       go_loopw [107] (fun i wr => ∃ k : Nat, k ≤ 25 ∧ i = .int .i64 k ∧ dh wr wo.heap.size 231 25 (Kec.bb s 25) ∧ dh wr g t 25 (Kec.ss (Kec.bb s 25) s k) ∧ Only g w wr) (fun i _ => 25 - (intOf i).toNat)
       case atStart => exact ⟨0, by omega, rfl, HE.out, HL.out.gr HB.out, Only.Bz HB.out g⟩
       case round =>
        clear HB HE HD
        obtain ⟨k, hk, rfl, he, hl, ho⟩ := hrel
        have hbs3 := ho.size
        have HE := Lib.hid he
        have HM := Lib.hid hl
        have HO := Lib.hid ho
        have hel := he.lt
        clear he hl ho
        by_cases h1 : k < 25
        ·
         have c0 := aZ (w := wr) (p := ⟨wo.heap.size, k, none⟩) (by dsimp only; omega) (HE.out.cell k (by omega))
         have c1 := aZ (w := wr) (p := ⟨wo.heap.size, (k + 1) % 5 + k / 5 * 5, none⟩) (by dsimp only; omega) (HE.out.cell ((k + 1) % 5 + k / 5 * 5) (by omega))
         have c2 := aZ (w := wr) (p := ⟨wo.heap.size, (k + 2) % 5 + k / 5 * 5, none⟩) (by dsimp only; omega) (HE.out.cell ((k + 2) % 5 + k / 5 * 5) (by omega))
         unfold lv at c0 c1 c2
         go_wp2
         refine dO 24 (by kernel_rfl) (by kernel_rfl) (by kernel_rfl) ?_
         simp only [Xp, Xu, mP, Xq]
         refine dS 24 (by kernel_rfl) ?_
         simp only [Xp, Xu, mP, Xq]
         repeat (go_big_quiet_step (fail))
         refine wpQuiet_nil ?_
         refine iE (by kernel_rfl) ?_
         intro W hW
         replace hW := hW.gr
         unfold pJ
         rename_i wq hW
         have HQ := Lib.hid (HM.out.gr hW)
         have e2 := HQ.out.frozen k
         have e1 := HQ.out.cell k (by omega)
         unfold lv at e1
         go_wp2
         go_roundw
         case rel =>
          have hv : u (Kec.bb s 25 k ^^^ (~~~ Kec.bb s 25 ((k + 1) % 5 + k / 5 * 5) &&& Kec.bb s 25 ((k + 2) % 5 + k / 5 * 5))) = u (Kec.chi (Kec.bb s 25) k) := by
           unfold Kec.chi
           rw [show (k % 5 + 1) % 5 = (k + 1) % 5 by omega, show (k % 5 + 2) % 5 = (k + 2) % 5 by omega]
          rw [TQ, Oa, pX, hv]
          refine ⟨k + 1, by omega, by go_num, ?_, ?_, ?_⟩
          · exact (HE.out.gr hW).far (by dsimp only; omega) _
          · exact HQ.out.set k _
          · exact (HO.out.trans (Only.Bz hW g)).trans (Only.set _ _ _)
         case measure => simp [intOf]; omega
        ·
         have h5 : k = 25 := by omega
         subst h5
         have c0 := aZ (w := wr) (p := ⟨g, 0, none⟩) (by dsimp only; omega) (HM.out.cell 0 (by omega))
         unfold lv at c0
         go_wp2
         refine dO 8 (by kernel_rfl) (by kernel_rfl) (by kernel_rfl) ?_
         simp only [Xp, Xu, mP, Xq]
         refine dS 8 (by kernel_rfl) ?_
         simp only [Xp, Xu, mP, Xq]
         repeat (go_big_quiet_step (fail))
         refine wpQuiet_nil ?_
         refine iE (by kernel_rfl) ?_
         intro W hW
         replace hW := hW.gr
         unfold pJ
         rename_i wq hW
         have HQ := Lib.hid (HM.out.gr hW)
         have e2 := HQ.out.frozen 0
         have e1 := HQ.out.cell 0 (by omega)
         unfold lv at e1
         go_wp2
         refine bodyPost_ret (results_none rfl _ _ _) rfl ⟨rfl, ?_⟩
         rw [pX]
         exact ⟨HQ.out.set 0 _, (HO.out.trans (Only.Bz hW g)).trans (Only.set _ _ _)⟩
end Go.Proofs.YtelbhdobjdnglaaGreat
