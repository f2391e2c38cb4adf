/-
 Merged (wip/tools/merge.py): Join, Join2, Join3, Pack, TP1, Kec, KecMem, KecTake.
 Conditions: none.
-/
import Derived.Test.YtiledgojbpmoiaaGreatZQ11
import Derived.Test.YtiledgojbpmoiaaGreatZQ6
import Derived.Test.YtiledgojbpmoiaaGreatZQ10
import Derived.Test.YtiledgojbpmoiaaGreatZQ2
import Derived.BigQuiet
import Derived.Deep.QuietTactic
import Derived.Laws.BitsAllLaws
namespace Go.Proofs.YtiledgojbpmoiaaGreat
set_option maxHeartbeats 1000000
open Go.RowKit Mono
def joinL : List UInt8 → Option (List UInt8)
 | [] => some []
 | [_] => none
 | x :: y :: r => if x.toNat ≤ 15 ∧ y.toNat ≤ 15 then (joinL r).map fun t => (x <<< 4 ||| y) :: t else none
theorem vU : ∀ (p : List UInt8), p.length % 2 = 1 → joinL p = none
 | [], h => by simp at h
 | [_], _ => rfl
 | x :: y :: r, h => by
  rw [joinL, vU r (by simp at h; omega)]
  simp
theorem zf (p : List UInt8) (k : Nat) (h1 : k < p.length) (h2 : k + 1 < p.length) :
  joinL (p.drop k) = if p[k].toNat ≤ 15 ∧ p[k + 1].toNat ≤ 15 then (joinL (p.drop (k + 2))).map fun t => (p[k] <<< 4 ||| p[k + 1]) :: t else none := by
 rw [List.drop_eq_getElem_cons h1, List.drop_eq_getElem_cons h2, joinL]
def KU (base : Nat) (p : List UInt8) : VP := fun v w => ∃ v1, v = .tuple #[v1, .bool (joinL p).isSome] ∧ OwnB w base v1 ((joinL p).getD [])
theorem Oz (x y : Nat) (hx : x ≤ 15) (hy : y ≤ 15) (a b : UInt8) (ha : a.toNat = x) (hb : b.toNat = y) : (a <<< 4 ||| b).toNat = x * 16 + y := by
 have h : ∀ x : Fin 16, ∀ y : Fin 16, ((UInt8.ofNat x.1) <<< 4 ||| (UInt8.ofNat y.1)).toNat = x.1 * 16 + y.1 := by decide +kernel
 subst ha hb
 simpa using h ⟨a.toNat, by omega⟩ ⟨b.toNat, by omega⟩
theorem OA (x y : Nat) (hx : x ≤ 15) (hy : y ≤ 15) : bits .or .u8 ((x : Int) * 16) (y : Int) = ((x * 16 + y : Nat) : Int) := by
 have h : ∀ x : Fin 16, ∀ y : Fin 16, bits .or .u8 ((x.1 : Int) * 16) (y.1 : Int) = ((x.1 * 16 + y.1 : Nat) : Int) := by decide +kernel
 exact h ⟨x, by omega⟩ ⟨y, by omega⟩
theorem tY (v1 : Value) (p : List UInt8) (w : World) (h1 : IsB w v1 p) (hlen : p.length ≤ 1073741824) :
  Calls Tryz.prog 120 #[v1] w (Ret (KU w.heap.size p) w) := by
 obtain ⟨A, c, rfl, hl1, hl2, hA⟩ := h1
 clear hl1 hl2
 have HA := Lib.hid hA
 clear hA
 by_cases hodd : p.length % 2 = 1
 ·
  have HJ := Lib.hid (vU p hodd)
  go_enter Tryz.func120, Tryz.ntmps120
  go_wp2
  refine bodyPost_ret (results_tmp2 rfl _ _ _) rfl ?_
  refine ⟨_, rfl, Below.refl _ _, .slice none 0 0, ?_, ?_⟩
  · rw [HJ.out]; rfl
  · rw [HJ.out]; exact OwnB.nil _ _
 ·
  have hev : p.length % 2 = 0 := by omega
  clear hodd
  have hevI : (p.length : Int) % 2 = 0 := by omega
  go_enter Tryz.func120, Tryz.ntmps120
  go_wp2
  clear hevI
  go_loopw [4, 5] (fun v i wr => ∃ (j : Nat) (pre : List UInt8), 2 * j ≤ p.length ∧ i = .int .i64 (2 * j : Nat) ∧ pre.length = j ∧ OwnB wr w.heap.size v pre ∧ Below w.heap.size w wr ∧ Hid (joinL p = (joinL (p.drop (2 * j))).map (pre ++ ·))) (fun _ i _ => p.length - (intOf i).toNat)
  case atStart => exact ⟨0, [], by omega, rfl, rfl, OwnB.nil w w.heap.size, Below.refl _ _, Lib.hid (by simp)⟩
  case round =>
   obtain ⟨j, pre, hj, rfl, hpre, hown, hb, hJ⟩ := hrel
   obtain ⟨A', c', rfl, hc1, hc2⟩ := dB hown
   have hbs := hb.size
   have HO := Lib.hid hown
   have HB := Lib.hid hb
   have HP := Lib.hid hpre
   have hpl : pre.length ≤ j := by omega
   clear hown hb hpre
   by_cases h1 : 2 * j < p.length
   ·
    have h2 : 2 * j + 1 < p.length := by omega
    obtain ⟨b1, o1, rfl, hb1, c1⟩ := HA.out (by intro e; have := bI p; rw [e] at this; simp at this; omega)
    have hbw : b1 < wr.heap.size := by omega
    have r1 := (HB.out.cell (p := ⟨b1, o1 + 2 * j, none⟩) hb1).trans (c1 (2 * j) _ (jV p (2 * j) h1))
    have r2 := (HB.out.cell (p := ⟨b1, o1 + (2 * j + 1), none⟩) hb1).trans (c1 (2 * j + 1) _ (jV p (2 * j + 1) h2))
    have d1 := bg (w := wr) (p := ⟨b1, o1 + 2 * j, none⟩) hbw r1
    have d2 := bg (w := wr) (p := ⟨b1, o1 + (2 * j + 1), none⟩) hbw r2
    clear c1
    unfold bv at d1 d2 r1 r2
    have HS := Lib.hid (zf p (2 * j) h1 h2)
    have hx0 := qC p[2 * j]
    have hy0 := qC p[2 * j + 1]
    obtain ⟨x, hx⟩ : ∃ x, x = p[2 * j].toNat := ⟨_, rfl⟩
    obtain ⟨y, hy⟩ : ∃ y, y = p[2 * j + 1].toNat := ⟨_, rfl⟩
    rw [← hx] at d1 r1 hx0
    rw [← hy] at d2 r2 hy0
    have HX := Lib.hid hx
    have HY := Lib.hid hy
    clear hx hy
    by_cases hc : x ≤ 15 ∧ y ≤ 15
    ·
     obtain ⟨hcx, hcy⟩ := hc
     go_wp2
     refine dH 13 (by kernel_rfl) (by kernel_rfl) (by kernel_rfl) ?_
     simp only [List.take_succ_cons, List.take_zero, List.drop_succ_cons, List.drop_zero]
     refine dJ 12 (by kernel_rfl) ?_
     simp only [List.take_succ_cons, List.take_zero, List.drop_succ_cons, List.drop_zero]
     repeat (go_big_quiet_step (fail))
     refine wpQuiet_nil ?_
     refine CP 41 (fun v w => IsB w v [p[2 * j] <<< 4 ||| p[2 * j + 1]]) rfl rfl (by kernel_rfl) (by kernel_rfl) (rZ _) (fun xw => ?_) ?_
     ·
      simp [go_sem, fC]
      rw [OA x y hcx hcy]
      refine ⟨aC _ _, DI _ _ [p[2 * j] <<< 4 ||| p[2 * j + 1]] ?_ (by simp [maxLen])⟩
      simp [bvs, bv, Oz x y hcx hcy _ _ HX.out.symm HY.out.symm]
     refine gV (by kernel_rfl) ?_
     intro W hW
     replace hW := hW.gr
     have hbs2 := hW.size
     intro v22 h22
     obtain ⟨A22, c22, rfl, _, _, hrd⟩ := h22
     unfold oC
     go_wp2_with (at_builtin; refine bK _ _ 30 bQ _ _ _ _ _ _ _ (bvs [p[2 * j] <<< 4 ||| p[2 * j + 1]]) rfl rfl rfl rfl (vM HO.out hW) hrd (by simp [bvs]) (dM _) (by simp only [maxLen]; simp; omega) (by simp; omega) (by omega) ?_; intro A2 c2 w2 hown2 hg2 _)
     go_roundw
     case rel =>
      refine ⟨j + 1, pre ++ [p[2 * j] <<< 4 ||| p[2 * j + 1]], by omega, by go_num, by simp [HP.out], ?_, (HB.out.trans (hW.mono hbs)).grown hg2 (by omega) fun j hj => dR HO.out j hj, Lib.hid ?_⟩
      ·
       unfold OwnB
       rw [gu, List.length_append]
       exact hown2
      ·
       rw [hJ.out, HS.out, if_pos ⟨by rw [← HX.out]; exact hcx, by rw [← HY.out]; exact hcy⟩, show 2 * (j + 1) = 2 * j + 2 by omega]
       cases joinL (p.drop (2 * j + 2)) <;> simp
     case measure => simp [intOf]; omega
    ·
     by_cases hcx : x ≤ 15
     ·
      have hcy : 15 < y := by omega
      have hno := Lib.hid hc
      clear hc
      go_wp2
      refine bodyPost_ret (results_tmp2 rfl _ _ _) rfl ?_
      refine ⟨_, rfl, HB.out, .slice none 0 0, ?_, ?_⟩
      · rw [hJ.out, HS.out, if_neg (by rw [← HX.out, ← HY.out]; exact hno.out)]; rfl
      · rw [hJ.out, HS.out, if_neg (by rw [← HX.out, ← HY.out]; exact hno.out)]; exact OwnB.nil _ _
     ·
      have hcx' : 15 < x := by omega
      have hno := Lib.hid hc
      clear hc hcx
      go_wp2
      refine bodyPost_ret (results_tmp2 rfl _ _ _) rfl ?_
      refine ⟨_, rfl, HB.out, .slice none 0 0, ?_, ?_⟩
      · rw [hJ.out, HS.out, if_neg (by rw [← HX.out, ← HY.out]; exact hno.out)]; rfl
      · rw [hJ.out, HS.out, if_neg (by rw [← HX.out, ← HY.out]; exact hno.out)]; exact OwnB.nil _ _
   ·
    have hd := Lib.hid (List.drop_eq_nil_of_le (Nat.le_of_not_lt h1))
    go_wp2
    refine bodyPost_ret (results_tmp2 rfl _ _ _) rfl ?_
    refine ⟨_, rfl, HB.out, .slice A' pre.length c', ?_, ?_⟩
    · rw [hJ.out, hd.out]; rfl
    · rw [hJ.out, hd.out]; simpa [joinL] using HO.out
theorem Gz (x : UInt8) (w : World) : Calls Tryz.prog 240 #[bv x] w fun e w' => e = .returned (.bool (decide (15 < x.toNat))) ∧ w' = w := by
 unfold bv
 have hlx := qC x
 generalize x.toNat = n at hlx
 go_enter Tryz.func240, Tryz.ntmps240
 go_wp2
 go_ret
 simp
 omega
def KR (b : Bool) (w : World) (e : Ending) (w' : World) : Prop := e = .returned (.bool b) ∧ ∃ k, w' = w.drewN k
def Vh (b : Int) (w : World) (e : Ending) (w' : World) : Prop := e = .returned (.int .i64 b) ∧ ∃ k, w' = w.drewN k
def qE : List UInt8 → Nat → Int
 | [], _ => -1
 | x :: l, k => if 15 < x.toNat then k else qE l (k + 1)
theorem Qk (l : List UInt8) : ∀ k, (0 ≤ qE l k ↔ ∃ x ∈ l, 15 < x.toNat) := by
 induction l with
 | nil => intro k; simp [qE]
 | cons x l ih =>
  intro k
  unfold qE
  split
  · simp [*]
  · rw [ih]; simp [*]
theorem JA (l : List UInt8) (k : Nat) (h : k < l.length) : qE (l.drop k) k = if 15 < l[k].toNat then (k : Int) else qE (l.drop (k + 1)) (k + 1) := by
 rw [List.drop_eq_getElem_cons h, qE]
theorem Jh (v1 : Value) (l : List UInt8) (w : World) (h1 : IsB w v1 l) :
  Calls Tryz.prog 243 #[v1, .func (.func 240) #[] #[]] w (Vh (qE l 0) w) := by
 obtain ⟨A, c, rfl, hl1, hl2, hA⟩ := h1
 unfold maxLen at hl2
 have HA := Lib.hid hA
 clear hA
 go_enter Tryz.func243, Tryz.ntmps243
 go_wp2
 go_loopw [8] (fun i wr => ∃ k : Nat, k ≤ l.length ∧ i = .int .i64 k ∧ wr = w ∧ Hid (qE l 0 = qE (l.drop k) k)) (fun i _ => l.length - (intOf i).toNat)
 case atStart => exact ⟨0, by omega, rfl, rfl, Lib.hid (by simp)⟩
 case round =>
  obtain ⟨k, hk1, rfl, rfl, hC⟩ := hrel
  by_cases h1 : k < l.length
  ·
   obtain ⟨b1, o1, rfl, _, c1⟩ := HA.out (by intro e; have := bI l; rw [e] at this; simp at this; omega)
   have d1 := c1 k _ (jV l k h1)
   clear c1
   have hst := Lib.hid (JA l k h1)
   by_cases hb : 15 < l[k].toNat
   ·
    have he : decide (15 < l[k].toNat) = true := by simpa using hb
    have hf := Gz l[k] wr
    rw [he] at hf
    have HB := Lib.hid hb
    clear hb he
    generalize bv l[k] = u at d1 hf
    have HF := Lib.hid hf
    clear hf
    go_wp2_with (go_at_call 240; refine HF.out.mono ?_; rintro e w' ⟨rfl, rfl⟩)
    go_ret
    refine ⟨?_, 0, rfl⟩
    rw [hC.out, hst.out, if_pos HB.out]
    rfl
   ·
    have he : decide (15 < l[k].toNat) = false := by simpa using hb
    have hf := Gz l[k] wr
    rw [he] at hf
    have HB := Lib.hid hb
    clear hb he
    generalize bv l[k] = u at d1 hf
    have HF := Lib.hid hf
    clear hf
    go_wp2_with (go_at_call 240; refine HF.out.mono ?_; rintro e w' ⟨rfl, rfl⟩)
    go_roundw
    case rel => exact ⟨k + 1, by omega, by go_num, trivial, Lib.hid (by rw [hC.out, hst.out, if_neg HB.out])⟩
    case measure => simp [intOf]; omega
  ·
   have hd := Lib.hid (List.drop_eq_nil_of_le (Nat.le_of_not_lt h1))
   go_wp2
   go_ret
   exact ⟨by rw [hC.out, hd.out]; rfl, 0, rfl⟩
theorem Ah (v1 : Value) (l : List UInt8) (w : World) (h1 : IsB w v1 l) :
  Calls Tryz.prog 239 #[v1, .func (.func 240) #[] #[]] w (KR (l.any fun x => decide (15 < x.toNat)) w) := by
 have hc := Lib.hid (Jh v1 l w h1)
 have hb := Lib.hid (Qk l 0)
 clear h1
 generalize qE l 0 = n at hc hb
 go_enter Tryz.func239, Tryz.ntmps239
 go_wp2_with fail
 refine hc.out.mono ?_
 rintro e w' ⟨rfl, k, rfl⟩
 go_wp2
 go_ret
 refine ⟨?_, k, rfl⟩
 show Ending.returned (.bool (decide (0 ≤ n))) = _
 congr 2
 have := hb.out
 rw [Bool.eq_iff_iff]
 simp only [decide_eq_true_eq, List.any_eq_true]
 exact this
theorem L9 (v1 : Value) (l : List UInt8) (w : World) (h1 : IsB w v1 l) :
  Calls Tryz.prog 230 #[v1] w (KR (!(l.any fun x => decide (15 < x.toNat))) w) := by
 have hc := Lib.hid (Ah v1 l w h1)
 clear h1
 generalize (l.any fun x => decide (15 < x.toNat)) = n at hc
 go_enter Tryz.func230, Tryz.ntmps230
 go_wp2_with fail
 refine hc.out.mono ?_
 rintro e w' ⟨rfl, k, rfl⟩
 go_wp2
 go_ret
 exact ⟨by simp, k, rfl⟩
theorem BD : ∀ (p : List UInt8), (p.any fun x => decide (15 < x.toNat)) = true → joinL p = none
 | [], h => by simp at h
 | [_], _ => rfl
 | x :: y :: r, h => by
  rw [joinL]
  split
  ·
   rename_i hc
   rw [BD r (by
    simp only [List.any_cons, Bool.or_eq_true, decide_eq_true_eq] at h
    rcases h with h | h | h
    · omega
    · omega
    · exact h)]
   rfl
  · rfl
theorem NZ (p : List UInt8) (h : (p.any fun x => decide (15 < x.toNat)) = false) (k : Nat) (hk : k < p.length) : p[k].toNat ≤ 15 := by
 rw [List.any_eq_false] at h
 have := h p[k] (List.getElem_mem hk)
 simpa using this
theorem qQ (v1 : Value) (p : List UInt8) (w : World) (h1 : IsB w v1 p) (hlen : p.length ≤ 1073741824) :
  Calls Tryz.prog 209 #[v1] w (Ret (KU w.heap.size p) w) := by
 have hf := L9 v1 p w h1
 obtain ⟨A, c, rfl, hl1, hl2, hA⟩ := h1
 clear hl1 hl2
 have HA := Lib.hid hA
 clear hA
 by_cases hodd : p.length % 2 = 1
 ·
  have HJ := Lib.hid (vU p hodd)
  have hoddI : (p.length : Int) % 2 = 1 := by omega
  clear hf hodd
  go_enter Tryz.func209, Tryz.ntmps209
  go_wp2_with fail
  refine bodyPost_ret (results_tmp2 rfl _ _ _) rfl ?_
  refine ⟨_, rfl, Below.refl _ _, .slice none 0 0, ?_, ?_⟩
  · rw [HJ.out]; rfl
  · rw [HJ.out]; exact OwnB.nil _ _
 ·
  have hev : p.length % 2 = 0 := by omega
  clear hodd
  have hevI : (p.length : Int) % 2 = 0 := by omega
  by_cases hbig : (p.any fun x => decide (15 < x.toNat)) = true
  ·
   rw [hbig] at hf
   have HJ := Lib.hid (BD p hbig)
   have HF := Lib.hid hf
   clear hf hbig
   go_enter Tryz.func209, Tryz.ntmps209
   go_wp2_with (go_at_call 230; refine HF.out.mono ?_; rintro e w' ⟨rfl, q, rfl⟩)
   refine bodyPost_ret (results_tmp2 rfl _ _ _) rfl ?_
   refine ⟨_, rfl, below_drewN (Below.refl _ _) q, .slice none 0 0, ?_, ?_⟩
   · rw [HJ.out]; rfl
   · rw [HJ.out]; exact OwnB.nil _ _
  ·
   have hbig' : (p.any fun x => decide (15 < x.toNat)) = false := by simpa using hbig
   rw [hbig'] at hf
   have HF := Lib.hid hf
   have HS0 := Lib.hid (NZ p hbig')
   clear hf hbig hbig'
   go_enter Tryz.func209, Tryz.ntmps209
   go_wp2_with (go_at_call 230; refine HF.out.mono ?_; rintro e w' ⟨rfl, q, rfl⟩)
   clear hevI
   go_loopw [4, 5] (fun v i wr => ∃ (j : Nat) (pre : List UInt8), 2 * j ≤ p.length ∧ i = .int .i64 (2 * j : Nat) ∧ pre.length = j ∧ OwnB wr w.heap.size v pre ∧ Below w.heap.size w wr ∧ Hid (joinL p = (joinL (p.drop (2 * j))).map (pre ++ ·))) (fun _ i _ => p.length - (intOf i).toNat)
   case atStart => exact ⟨0, [], by omega, rfl, rfl, OwnB.nil _ w.heap.size, below_drewN (Below.refl _ _) q, Lib.hid (by simp)⟩
   case round =>
    obtain ⟨j, pre, hj, rfl, hpre, hown, hb, hJ⟩ := hrel
    obtain ⟨A', c', rfl, hc1, hc2⟩ := dB hown
    have hbs := hb.size
    have HO := Lib.hid hown
    have HB := Lib.hid hb
    have HP := Lib.hid hpre
    have hpl : pre.length ≤ j := by omega
    clear hown hb hpre
    by_cases h1 : 2 * j < p.length
    ·
     have h2 : 2 * j + 1 < p.length := by omega
     obtain ⟨b1, o1, rfl, hb1, c1⟩ := HA.out (by intro e; have := bI p; rw [e] at this; simp at this; omega)
     have hbw : b1 < wr.heap.size := by omega
     have r1 := (HB.out.cell (p := ⟨b1, o1 + 2 * j, none⟩) hb1).trans (c1 (2 * j) _ (jV p (2 * j) h1))
     have r2 := (HB.out.cell (p := ⟨b1, o1 + (2 * j + 1), none⟩) hb1).trans (c1 (2 * j + 1) _ (jV p (2 * j + 1) h2))
     have d1 := bg (w := wr) (p := ⟨b1, o1 + 2 * j, none⟩) hbw r1
     have d2 := bg (w := wr) (p := ⟨b1, o1 + (2 * j + 1), none⟩) hbw r2
     clear c1 r1 r2
     unfold bv at d1 d2
     have HS := Lib.hid (zf p (2 * j) h1 h2)
     have hcx := HS0.out (2 * j) h1
     have hcy := HS0.out (2 * j + 1) h2
     obtain ⟨x, hx⟩ : ∃ x, x = p[2 * j].toNat := ⟨_, rfl⟩
     obtain ⟨y, hy⟩ : ∃ y, y = p[2 * j + 1].toNat := ⟨_, rfl⟩
     rw [← hx] at d1 hcx
     rw [← hy] at d2 hcy
     have HX := Lib.hid hx
     have HY := Lib.hid hy
     clear hx hy
     go_wp2
     refine dH 13 (by kernel_rfl) (by kernel_rfl) (by kernel_rfl) ?_
     simp only [List.take_succ_cons, List.take_zero, List.drop_succ_cons, List.drop_zero]
     refine dJ 12 (by kernel_rfl) ?_
     simp only [List.take_succ_cons, List.take_zero, List.drop_succ_cons, List.drop_zero]
     repeat (go_big_quiet_step (fail))
     refine wpQuiet_nil ?_
     refine CP 33 (fun v w => IsB w v [p[2 * j] <<< 4 ||| p[2 * j + 1]]) rfl rfl (by kernel_rfl) (by kernel_rfl) (rZ _) (fun xw => ?_) ?_
     ·
      simp [go_sem, fC]
      rw [OA x y hcx hcy]
      refine ⟨aC _ _, DI _ _ [p[2 * j] <<< 4 ||| p[2 * j + 1]] ?_ (by simp [maxLen])⟩
      simp [bvs, bv, Oz x y hcx hcy _ _ HX.out.symm HY.out.symm]
     refine gV (by kernel_rfl) ?_
     intro W hW
     replace hW := hW.gr
     have hbs2 := hW.size
     intro v22 h22
     obtain ⟨A22, c22, rfl, _, _, hrd⟩ := h22
     unfold oC
     go_wp2_with (at_builtin; refine bK _ _ 30 bQ _ _ _ _ _ _ _ (bvs [p[2 * j] <<< 4 ||| p[2 * j + 1]]) rfl rfl rfl rfl (vM HO.out hW) hrd (by simp [bvs]) (dM _) (by simp only [maxLen]; simp; omega) (by simp; omega) (by omega) ?_; intro A2 c2 w2 hown2 hg2 _)
     go_roundw
     case rel =>
      refine ⟨j + 1, pre ++ [p[2 * j] <<< 4 ||| p[2 * j + 1]], by omega, by go_num, by simp [HP.out], ?_, (HB.out.trans (hW.mono hbs)).grown hg2 (by omega) fun j hj => dR HO.out j hj, Lib.hid ?_⟩
      ·
       unfold OwnB
       rw [gu, List.length_append]
       exact hown2
      ·
       rw [hJ.out, HS.out, if_pos ⟨by rw [← HX.out]; exact hcx, by rw [← HY.out]; exact hcy⟩, show 2 * (j + 1) = 2 * j + 2 by omega]
       cases joinL (p.drop (2 * j + 2)) <;> simp
     case measure => simp [intOf]; omega
    ·
     have hd := Lib.hid (List.drop_eq_nil_of_le (Nat.le_of_not_lt h1))
     go_wp2
     refine bodyPost_ret (results_tmp2 rfl _ _ _) rfl ?_
     refine ⟨_, rfl, HB.out, .slice A' pre.length c', ?_, ?_⟩
     · rw [hJ.out, hd.out]; rfl
     · rw [hJ.out, hd.out]; simpa [joinL] using HO.out
def hdr (p : List UInt8) (leaf : Bool) : List UInt8 := if p.length % 2 = 1 then [if leaf then 3 else 1] else [if leaf then 2 else 0, 0]
theorem L8 (v1 : Value) (p : List UInt8) (leaf : Bool) (w : World) (h1 : IsB w v1 p) (hlen : p.length ≤ 536870912) :
  Calls Tryz.prog 184 #[v1, .bool leaf] w (Ret (KU w.heap.size (hdr p leaf ++ p)) w) := by
 obtain ⟨A, c, rfl, hl1, hl2, hA⟩ := h1
 clear hl1 hl2
 have HA := Lib.hid hA
 clear hA
 by_cases hodd : p.length % 2 = 1
 ·
  have hoddI : (p.length : Int) % 2 = 1 := by omega
  have hh : hdr p leaf = [if leaf then 3 else 1] := by unfold hdr; rw [if_pos hodd]
  rw [hh]
  clear hh hodd
  cases leaf
  ·
   go_enter Tryz.func184, Tryz.ntmps184
   go_wp2_with (at_builtin; refine bK _ _ 30 bQ _ 1 _ _ p.length _ w.heap.size (bvs p) rfl rfl rfl rfl (iw _ _ _ _ 1 _ w.heap.size rfl (Nat.le_refl _) (by simp [maxLen]) rfl) (HA.out.below (aC _ _)) (by rw [bI]; omega) (dM _) (by simp only [maxLen]; omega) (by omega) (by first | (simp; done) | (simp; omega)) ?_; intro A2 c2 w2 hown2 hg2 _; have ho2 := ownB_of (l := [1] ++ p) hown2 rfl; have hb2 := ho2.isB; have H2 := Lib.hid hb2; clear ho2 hb2 hown2)
   refine (qQ _ _ _ H2.out (by simp; omega)).mono ?_
   rintro e w3 ⟨v3, rfl, hg3, v4, rfl, ho4⟩
   go_wp2
   refine bodyPost_ret (results_tmp2 rfl _ _ _) rfl ?_
   have hb1 : Below w.heap.size w w2 := Below.grown (aC _ _) hg2 (by first | (simp; done) | (simp; omega)) fun j hj => by injection hj with h; subst h; first | exact Nat.le_refl _ | simp
   exact ⟨_, rfl, hb1.trans (hg3.mono hb1.size), v4, rfl, own_base ho4 hb1.size⟩
  ·
   go_enter Tryz.func184, Tryz.ntmps184
   go_wp2_with (at_builtin; refine bK _ _ 30 bQ _ 1 _ _ p.length _ w.heap.size (bvs p) rfl rfl rfl rfl (iw _ _ _ _ 1 _ w.heap.size rfl (Nat.le_refl _) (by simp [maxLen]) rfl) (HA.out.below (aC _ _)) (by rw [bI]; omega) (dM _) (by simp only [maxLen]; omega) (by omega) (by first | (simp; done) | (simp; omega)) ?_; intro A2 c2 w2 hown2 hg2 _; have ho2 := ownB_of (l := [3] ++ p) hown2 rfl; have hb2 := ho2.isB; have H2 := Lib.hid hb2; clear ho2 hb2 hown2)
   refine (qQ _ _ _ H2.out (by simp; omega)).mono ?_
   rintro e w3 ⟨v3, rfl, hg3, v4, rfl, ho4⟩
   go_wp2
   refine bodyPost_ret (results_tmp2 rfl _ _ _) rfl ?_
   have hb1 : Below w.heap.size w w2 := Below.grown (aC _ _) hg2 (by first | (simp; done) | (simp; omega)) fun j hj => by injection hj with h; subst h; first | exact Nat.le_refl _ | simp
   exact ⟨_, rfl, hb1.trans (hg3.mono hb1.size), v4, rfl, own_base ho4 hb1.size⟩
 ·
  have hevI : (p.length : Int) % 2 = 0 := by omega
  have hh : hdr p leaf = [if leaf then 2 else 0, 0] := by unfold hdr; rw [if_neg hodd]
  rw [hh]
  clear hh hodd
  cases leaf
  ·
   go_enter Tryz.func184, Tryz.ntmps184
   go_wp2_with (at_builtin; refine bK _ _ 30 bQ _ 2 _ _ p.length _ w.heap.size (bvs p) rfl rfl rfl rfl (iw _ _ _ _ 2 _ w.heap.size rfl (Nat.le_refl _) (by simp [maxLen]) rfl) (HA.out.below (aC _ _)) (by rw [bI]; omega) (dM _) (by simp only [maxLen]; omega) (by omega) (by first | (simp; done) | (simp; omega)) ?_; intro A2 c2 w2 hown2 hg2 _; have ho2 := ownB_of (l := (0::[0]) ++ p) hown2 rfl; have hb2 := ho2.isB; have H2 := Lib.hid hb2; clear ho2 hb2 hown2)
   refine (qQ _ _ _ H2.out (by simp; omega)).mono ?_
   rintro e w3 ⟨v3, rfl, hg3, v4, rfl, ho4⟩
   go_wp2
   refine bodyPost_ret (results_tmp2 rfl _ _ _) rfl ?_
   have hb1 : Below w.heap.size w w2 := ((Below.refl _ _).alloc (Nat.le_refl _) _).grown hg2 (by first | (simp; done) | (simp; omega)) fun j hj => by injection hj with h; subst h; first | exact Nat.le_refl _ | simp
   exact ⟨_, rfl, hb1.trans (hg3.mono hb1.size), v4, rfl, own_base ho4 hb1.size⟩
  ·
   go_enter Tryz.func184, Tryz.ntmps184
   go_wp2_with (at_builtin; refine bK _ _ 30 bQ _ 2 _ _ p.length _ w.heap.size (bvs p) rfl rfl rfl rfl (iw _ _ _ _ 2 _ w.heap.size rfl (Nat.le_refl _) (by simp [maxLen]) rfl) (HA.out.below (aC _ _)) (by rw [bI]; omega) (dM _) (by simp only [maxLen]; omega) (by omega) (by first | (simp; done) | (simp; omega)) ?_; intro A2 c2 w2 hown2 hg2 _; have ho2 := ownB_of (l := (2::[0]) ++ p) hown2 rfl; have hb2 := ho2.isB; have H2 := Lib.hid hb2; clear ho2 hb2 hown2)
   refine (qQ _ _ _ H2.out (by simp; omega)).mono ?_
   rintro e w3 ⟨v3, rfl, hg3, v4, rfl, ho4⟩
   go_wp2
   refine bodyPost_ret (results_tmp2 rfl _ _ _) rfl ?_
   have hb1 : Below w.heap.size w w2 := ((Below.refl _ _).alloc (Nat.le_refl _) _).grown hg2 (by first | (simp; done) | (simp; omega)) fun j hj => by injection hj with h; subst h; first | exact Nat.le_refl _ | simp
   exact ⟨_, rfl, hb1.trans (hg3.mono hb1.size), v4, rfl, own_base ho4 hb1.size⟩
theorem LG (v1 : Value) (p : List UInt8) (leaf : Bool) (w : World) (h1 : IsB w v1 p) (hlen : p.length ≤ 536870912) :
  Calls Tryz.prog 124 #[v1, .bool leaf] w (Ret (KU w.heap.size (hdr p leaf ++ p)) w) := by
 obtain ⟨A, c, rfl, hl1, hl2, hA⟩ := h1
 clear hl1 hl2
 have HA := Lib.hid hA
 clear hA
 by_cases hodd : p.length % 2 = 1
 ·
  have hoddI : (p.length : Int) % 2 = 1 := by omega
  have hh : hdr p leaf = [if leaf then 3 else 1] := by unfold hdr; rw [if_pos hodd]
  rw [hh]
  clear hh hodd
  cases leaf
  ·
   go_enter Tryz.func124, Tryz.ntmps124
   go_wp2_with (at_builtin; refine bK _ _ 30 bQ _ 1 _ _ p.length _ w.heap.size (bvs p) rfl rfl rfl rfl (iw _ _ _ _ 1 _ w.heap.size (by simp) (aC w _).size (by simp [maxLen]) rfl) (HA.out.below ((aC _ _).trans (aC _ _))) (by rw [bI]; omega) (dM _) (by simp only [maxLen]; omega) (by omega) (by first | (simp; done) | (simp; omega)) ?_; intro A2 c2 w2 hown2 hg2 _; have ho2 := ownB_of (l := [1] ++ p) hown2 rfl; have hb2 := ho2.isB; have H2 := Lib.hid hb2; clear ho2 hb2 hown2)
   refine (tY _ _ _ H2.out (by simp; omega)).mono ?_
   rintro e w3 ⟨v3, rfl, hg3, v4, rfl, ho4⟩
   go_wp2
   refine bodyPost_ret (results_tmp2 rfl _ _ _) rfl ?_
   have hb1 : Below w.heap.size w w2 := Below.grown ((aC _ _).trans (aC _ _)) hg2 (by first | (simp; done) | (simp; omega)) fun j hj => by injection hj with h; subst h; first | exact Nat.le_refl _ | simp
   exact ⟨_, rfl, hb1.trans (hg3.mono hb1.size), v4, rfl, own_base ho4 hb1.size⟩
  ·
   go_enter Tryz.func124, Tryz.ntmps124
   go_wp2_with (at_builtin; refine bK _ _ 30 bQ _ 1 _ _ p.length _ w.heap.size (bvs p) rfl rfl rfl rfl (iw _ _ _ _ 1 _ w.heap.size (by simp) (aC w _).size (by simp [maxLen]) rfl) (HA.out.below ((aC _ _).trans (aC _ _))) (by rw [bI]; omega) (dM _) (by simp only [maxLen]; omega) (by omega) (by first | (simp; done) | (simp; omega)) ?_; intro A2 c2 w2 hown2 hg2 _; have ho2 := ownB_of (l := [3] ++ p) hown2 rfl; have hb2 := ho2.isB; have H2 := Lib.hid hb2; clear ho2 hb2 hown2)
   refine (tY _ _ _ H2.out (by simp; omega)).mono ?_
   rintro e w3 ⟨v3, rfl, hg3, v4, rfl, ho4⟩
   go_wp2
   refine bodyPost_ret (results_tmp2 rfl _ _ _) rfl ?_
   have hb1 : Below w.heap.size w w2 := Below.grown ((aC _ _).trans (aC _ _)) hg2 (by first | (simp; done) | (simp; omega)) fun j hj => by injection hj with h; subst h; first | exact Nat.le_refl _ | simp
   exact ⟨_, rfl, hb1.trans (hg3.mono hb1.size), v4, rfl, own_base ho4 hb1.size⟩
 ·
  have hevI : (p.length : Int) % 2 = 0 := by omega
  have hh : hdr p leaf = [if leaf then 2 else 0, 0] := by unfold hdr; rw [if_neg hodd]
  rw [hh]
  clear hh hodd
  cases leaf
  ·
   go_enter Tryz.func124, Tryz.ntmps124
   go_wp2_with (at_builtin; refine bK _ _ 30 bQ _ 2 _ _ p.length _ w.heap.size (bvs p) rfl rfl rfl rfl (iw _ _ _ _ 2 _ w.heap.size rfl (Nat.le_refl _) (by simp [maxLen]) rfl) (HA.out.below (aC _ _)) (by rw [bI]; omega) (dM _) (by simp only [maxLen]; omega) (by omega) (by first | (simp; done) | (simp; omega)) ?_; intro A2 c2 w2 hown2 hg2 _; have ho2 := ownB_of (l := (0::[0]) ++ p) hown2 rfl; have hb2 := ho2.isB; have H2 := Lib.hid hb2; clear ho2 hb2 hown2)
   refine (tY _ _ _ H2.out (by simp; omega)).mono ?_
   rintro e w3 ⟨v3, rfl, hg3, v4, rfl, ho4⟩
   go_wp2
   refine bodyPost_ret (results_tmp2 rfl _ _ _) rfl ?_
   have hb1 : Below w.heap.size w w2 := ((Below.refl _ _).alloc (Nat.le_refl _) _).grown hg2 (by first | (simp; done) | (simp; omega)) fun j hj => by injection hj with h; subst h; first | exact Nat.le_refl _ | simp
   exact ⟨_, rfl, hb1.trans (hg3.mono hb1.size), v4, rfl, own_base ho4 hb1.size⟩
  ·
   go_enter Tryz.func124, Tryz.ntmps124
   go_wp2_with (at_builtin; refine bK _ _ 30 bQ _ 2 _ _ p.length _ w.heap.size (bvs p) rfl rfl rfl rfl (iw _ _ _ _ 2 _ w.heap.size rfl (Nat.le_refl _) (by simp [maxLen]) rfl) (HA.out.below (aC _ _)) (by rw [bI]; omega) (dM _) (by simp only [maxLen]; omega) (by omega) (by first | (simp; done) | (simp; omega)) ?_; intro A2 c2 w2 hown2 hg2 _; have ho2 := ownB_of (l := (2::[0]) ++ p) hown2 rfl; have hb2 := ho2.isB; have H2 := Lib.hid hb2; clear ho2 hb2 hown2)
   refine (tY _ _ _ H2.out (by simp; omega)).mono ?_
   rintro e w3 ⟨v3, rfl, hg3, v4, rfl, ho4⟩
   go_wp2
   refine bodyPost_ret (results_tmp2 rfl _ _ _) rfl ?_
   have hb1 : Below w.heap.size w w2 := ((Below.refl _ _).alloc (Nat.le_refl _) _).grown hg2 (by first | (simp; done) | (simp; omega)) fun j hj => by injection hj with h; subst h; first | exact Nat.le_refl _ | simp
   exact ⟨_, rfl, hb1.trans (hg3.mono hb1.size), v4, rfl, own_base ho4 hb1.size⟩
end Go.Proofs.YtiledgojbpmoiaaGreat
namespace Go.Proofs.YtiledgojbpmoiaaGreat
set_option linter.unusedVariables false
open Go.RowKit Mono Rlp
namespace E
theorem ug {ok : Nat → Prop} {w w' : World} {v : Value} {l : List UInt8} (h : OwnB w' w.heap.size v l) : dw (fun b => (ok b ∨ w.heap.size ≤ b) ∧ b < w'.heap.size) w' (.bs l) v := by
 refine (cu rfl).2 ?_
 rw [Reads]
 exact ⟨_, rfl, (pY h).mono (fun b hb => ⟨.inr hb.1, hb.2⟩) fun _ _ => rfl⟩
def ppk (p : List UInt8) (leaf : Bool) : List UInt8 := (joinL (hdr p leaf ++ p)).getD []
theorem PG (l : List UInt8) (hl : l.length ≤ 1073741824) : Fn 86 [.bs l] (· = .val (.bs (split l))) := ⟨fun ok w xs hok hr => by
 obtain ⟨x, _, rfl, h, hn⟩ := hr
 cases hn
 refine (I8 x l w (kQ hok h) hl).mono ?_
 rintro e w' ⟨v', rfl, hg, hv⟩
 exact ⟨hg, _, _, rfl, rfl, ug hv⟩⟩
theorem GK (l : List UInt8) (hl : l.length ≤ 1073741824) : Fn 76 [.bs l] (· = .val (.bs (split l))) := ⟨fun ok w xs hok hr => by
 obtain ⟨x, _, rfl, h, hn⟩ := hr
 cases hn
 refine (LC x l w (kQ hok h) hl).mono ?_
 rintro e w' ⟨v', rfl, hg, hv⟩
 exact ⟨hg, _, _, rfl, rfl, ug hv⟩⟩
theorem Kz (p : List UInt8) (leaf : Bool) (hl : p.length ≤ 536870912) : Fn 184 [.bs p, .v (.bool leaf)] (· = .tpl [.bs (ppk p leaf), .v (.bool (joinL (hdr p leaf ++ p)).isSome)]) := ⟨fun ok w xs hok hr => by
 obtain ⟨x, _, rfl, h, y, _, rfl, h2, hn⟩ := hr
 cases hn
 obtain rfl := (bf.1 h2).2
 refine (L8 x p leaf w (kQ hok h) hl).mono ?_
 rintro e w' ⟨v', rfl, hg, v1, rfl, hv⟩
 exact ⟨hg, _, _, rfl, rfl, ⟨_, rfl, _, _, rfl, ug hv, _, _, rfl, bf.2 ⟨rfl, rfl⟩, rfl⟩⟩⟩
theorem GN (p : List UInt8) (leaf : Bool) (hl : p.length ≤ 536870912) : Fn 124 [.bs p, .v (.bool leaf)] (· = .tpl [.bs (ppk p leaf), .v (.bool (joinL (hdr p leaf ++ p)).isSome)]) := ⟨fun ok w xs hok hr => by
 obtain ⟨x, _, rfl, h, y, _, rfl, h2, hn⟩ := hr
 cases hn
 obtain rfl := (bf.1 h2).2
 refine (LG x p leaf w (kQ hok h) hl).mono ?_
 rintro e w' ⟨v', rfl, hg, v1, rfl, hv⟩
 exact ⟨hg, _, _, rfl, rfl, ⟨_, rfl, _, _, rfl, ug hv, _, _, rfl, bf.2 ⟨rfl, rfl⟩, rfl⟩⟩⟩
theorem Nc (l m : List UInt8) : Fn 166 [.bs l, .bs m] (· = .val (.v (.int .i64 (common l m : Nat)))) := ⟨fun ok w xs hok hr => by
 obtain ⟨x, _, rfl, h, y, _, rfl, h2, hn⟩ := hr
 cases hn
 refine (FD x y l m w (kQ hok h) (kQ hok h2)).mono ?_
 rintro e w' ⟨rfl, k, rfl⟩
 exact ⟨⟨rfl, rfl, rfl, Nat.le_refl _, fun _ _ => rfl⟩, _, _, rfl, rfl, bf.2 ⟨rfl, rfl⟩⟩⟩
theorem Nb (l m : List UInt8) : Fn 126 [.bs l, .bs m] (· = .val (.v (.int .i64 (common l m : Nat)))) := ⟨fun ok w xs hok hr => by
 obtain ⟨x, _, rfl, h, y, _, rfl, h2, hn⟩ := hr
 cases hn
 refine (Iu x y l m w (kQ hok h) (kQ hok h2)).mono ?_
 rintro e w' ⟨rfl, k, rfl⟩
 exact ⟨⟨rfl, rfl, rfl, Nat.le_refl _, fun _ _ => rfl⟩, _, _, rfl, rfl, bf.2 ⟨rfl, rfl⟩⟩⟩
end E
end Go.Proofs.YtiledgojbpmoiaaGreat
namespace Go.Proofs.YtiledgojbpmoiaaGreat.Kec
abbrev L := BitVec 64
abbrev St := Nat → L
def upd (f : St) (k : Nat) (v : L) : St := fun j => if j = k then v else f j
def rotl (x : L) (n : Nat) : L := x <<< n ||| x >>> (64 - n)
theorem Ud (x : L) : x >>> 64 = 0 := by
 apply BitVec.eq_of_toNat_eq
 rw [BitVec.toNat_ushiftRight, Nat.shiftRight_eq_div_pow]
 have := x.isLt
 exact Nat.div_eq_of_lt this
theorem qM (x : L) : rotl x 0 = x := by simp [rotl, Ud]
def turn (k : Nat) : Nat := [0, 1, 62, 28, 27, 36, 44, 6, 55, 20, 3, 10, 43, 25, 39, 41, 45, 15, 21, 8, 18, 2, 61, 56, 14].getD k 0
def rc (k : Nat) : L := ([0x0000000000000001, 0x0000000000008082, 0x800000000000808a, 0x8000000080008000, 0x000000000000808b, 0x0000000080000001,
 0x8000000080008081, 0x8000000000008009, 0x000000000000008a, 0x0000000000000088, 0x0000000080008009, 0x000000008000000a,
 0x000000008000808b, 0x800000000000008b, 0x8000000000008089, 0x8000000000008003, 0x8000000000008002, 0x8000000000000080,
 0x000000000000800a, 0x800000008000000a, 0x8000000080008081, 0x8000000000008080, 0x0000000080000001, 0x8000000080008008] : List L).getD k 0
def col (s : St) (x : Nat) : L := s x ^^^ s (x + 5) ^^^ s (x + 10) ^^^ s (x + 15) ^^^ s (x + 20)
def dd (s : St) (x : Nat) : L := col s ((x + 4) % 5) ^^^ rotl (col s ((x + 1) % 5)) 1
def place (k : Nat) : Nat := k / 5 + 5 * ((2 * (k % 5) + 3 * (k / 5)) % 5)
def bb (s : St) : Nat → St
 | 0 => fun _ => 0
 | k + 1 => upd (bb s k) (place k) (rotl (s k ^^^ dd s (k % 5)) (turn k))
def chi (b : St) (k : Nat) : L := b k ^^^ (~~~ b ((k % 5 + 1) % 5 + k / 5 * 5) &&& b ((k % 5 + 2) % 5 + k / 5 * 5))
def ss (b s : St) : Nat → St
 | 0 => s
 | k + 1 => upd (ss b s k) k (chi b k)
def round (s : St) (n : L) : St := upd (ss (bb s 25) s 25) 0 (ss (bb s 25) s 25 0 ^^^ n)
def perm (s : St) : Nat → St
 | 0 => s
 | k + 1 => round (perm s k) (rc k)
def th1 (d : L) (x : Nat) (a : St) : Nat → St
 | 0 => a
 | k + 1 => upd (th1 d x a k) (x + 5 * k) (th1 d x a k (x + 5 * k) ^^^ d)
def th (c a : St) : Nat → St
 | 0 => a
 | x + 1 => th1 (c ((x + 4) % 5) ^^^ rotl (c ((x + 1) % 5)) 1) x (th c a x) 5
structure Walk where
 x : Nat
 y : Nat
 cur : L
 a : St
def mv (a : St) : Nat → Walk
 | 0 => ⟨1, 0, a 1, a⟩
 | t + 1 =>
  let w := mv a t
  let x := w.y
  let y := (2 * w.x + 3 * w.y) % 5
  ⟨x, y, w.a (x + 5 * y), upd w.a (x + 5 * y) (rotl w.cur ((t + 1) * (t + 2) / 2 % 64))⟩
def ch1 (r a : St) (y : Nat) : Nat → St
 | 0 => a
 | x + 1 => upd (ch1 r a y x) (x + y) (r x ^^^ (~~~ r ((x + 1) % 5) &&& r ((x + 2) % 5)))
def ch (a : St) : Nat → St
 | 0 => a
 | y + 1 => ch1 (fun x => ch a y (x + 5 * y)) (ch a y) (5 * y) 5
def lf (l : BitVec 8) : BitVec 8 := if l &&& 128 ≠ 0 then (l <<< 1) ^^^ 0x71 else l <<< 1
def lfn (l : BitVec 8) : Nat → BitVec 8
 | 0 => l
 | j + 1 => lf (lfn l j)
def io (a : St) (l : BitVec 8) : Nat → St
 | 0 => a
 | j + 1 => if lfn l j &&& 1 = 1 then upd (io a l j) 0 (io a l j 0 ^^^ (1 : L) <<< (2 ^ j - 1)) else io a l j
def yD (a : St) (l : BitVec 8) : St := io (ch (mv (th (col a) a 5) 24).a 5) l 7
def yE (a : St) : Nat → St
 | 0 => a
 | k + 1 => yD (yE a k) (lfn 1 (7 * k))
def num (l : BitVec 8) : Nat → L
 | 0 => 0
 | j + 1 => if lfn l j &&& 1 = 1 then num l j ^^^ (1 : L) <<< (2 ^ j - 1) else num l j
theorem Tv (a : St) (l : BitVec 8) : ∀ j, io a l j = upd a 0 (a 0 ^^^ num l j)
 | 0 => by funext k; simp [io, num, upd]; intro h; rw [h]
 | j + 1 => by
  unfold io num
  rw [Tv a l j]
  split
  ·
   funext k
   by_cases hk : k = 0
   · subst hk; simp [upd, BitVec.xor_assoc]
   · simp [upd, hk]
  · rfl
theorem Um : ∀ k, k < 24 → num (lfn 1 (7 * k)) 7 = rc k := by decide +kernel
theorem VT (a : St) : ss (bb a 25) a 25 0 = ch (mv (th (col a) a 5) 24).a 5 0 := by simp [ss, bb, chi, upd, place, dd, col, turn, ch, ch1, mv, th, th1, qM]
theorem VR (a : St) : ss (bb a 25) a 25 1 = ch (mv (th (col a) a 5) 24).a 5 1 := by simp [ss, bb, chi, upd, place, dd, col, turn, ch, ch1, mv, th, th1]
theorem VQ (a : St) : ss (bb a 25) a 25 2 = ch (mv (th (col a) a 5) 24).a 5 2 := by simp [ss, bb, chi, upd, place, dd, col, turn, ch, ch1, mv, th, th1]
theorem VO (a : St) : ss (bb a 25) a 25 3 = ch (mv (th (col a) a 5) 24).a 5 3 := by simp [ss, bb, chi, upd, place, dd, col, turn, ch, ch1, mv, th, th1, qM]
theorem VN (a : St) : ss (bb a 25) a 25 4 = ch (mv (th (col a) a 5) 24).a 5 4 := by simp [ss, bb, chi, upd, place, dd, col, turn, ch, ch1, mv, th, th1, qM]
theorem VL (a : St) : ss (bb a 25) a 25 5 = ch (mv (th (col a) a 5) 24).a 5 5 := by simp [ss, bb, chi, upd, place, dd, col, turn, ch, ch1, mv, th, th1]
theorem VK (a : St) : ss (bb a 25) a 25 6 = ch (mv (th (col a) a 5) 24).a 5 6 := by simp [ss, bb, chi, upd, place, dd, col, turn, ch, ch1, mv, th, th1]
theorem VJ (a : St) : ss (bb a 25) a 25 7 = ch (mv (th (col a) a 5) 24).a 5 7 := by simp [ss, bb, chi, upd, place, dd, col, turn, ch, ch1, mv, th, th1]
theorem VI (a : St) : ss (bb a 25) a 25 8 = ch (mv (th (col a) a 5) 24).a 5 8 := by simp [ss, bb, chi, upd, place, dd, col, turn, ch, ch1, mv, th, th1]
theorem VH (a : St) : ss (bb a 25) a 25 9 = ch (mv (th (col a) a 5) 24).a 5 9 := by simp [ss, bb, chi, upd, place, dd, col, turn, ch, ch1, mv, th, th1]
theorem UL (a : St) : ss (bb a 25) a 25 10 = ch (mv (th (col a) a 5) 24).a 5 10 := by simp [ss, bb, chi, upd, place, dd, col, turn, ch, ch1, mv, th, th1]
theorem UK (a : St) : ss (bb a 25) a 25 11 = ch (mv (th (col a) a 5) 24).a 5 11 := by simp [ss, bb, chi, upd, place, dd, col, turn, ch, ch1, mv, th, th1]
theorem UJ (a : St) : ss (bb a 25) a 25 12 = ch (mv (th (col a) a 5) 24).a 5 12 := by simp [ss, bb, chi, upd, place, dd, col, turn, ch, ch1, mv, th, th1]
theorem UH (a : St) : ss (bb a 25) a 25 13 = ch (mv (th (col a) a 5) 24).a 5 13 := by simp [ss, bb, chi, upd, place, dd, col, turn, ch, ch1, mv, th, th1]
theorem UG (a : St) : ss (bb a 25) a 25 14 = ch (mv (th (col a) a 5) 24).a 5 14 := by simp [ss, bb, chi, upd, place, dd, col, turn, ch, ch1, mv, th, th1]
theorem UF (a : St) : ss (bb a 25) a 25 15 = ch (mv (th (col a) a 5) 24).a 5 15 := by simp [ss, bb, chi, upd, place, dd, col, turn, ch, ch1, mv, th, th1]
theorem UE (a : St) : ss (bb a 25) a 25 16 = ch (mv (th (col a) a 5) 24).a 5 16 := by simp [ss, bb, chi, upd, place, dd, col, turn, ch, ch1, mv, th, th1]
theorem UD (a : St) : ss (bb a 25) a 25 17 = ch (mv (th (col a) a 5) 24).a 5 17 := by simp [ss, bb, chi, upd, place, dd, col, turn, ch, ch1, mv, th, th1]
theorem UC (a : St) : ss (bb a 25) a 25 18 = ch (mv (th (col a) a 5) 24).a 5 18 := by simp [ss, bb, chi, upd, place, dd, col, turn, ch, ch1, mv, th, th1]
theorem UA (a : St) : ss (bb a 25) a 25 19 = ch (mv (th (col a) a 5) 24).a 5 19 := by simp [ss, bb, chi, upd, place, dd, col, turn, ch, ch1, mv, th, th1]
theorem Uz (a : St) : ss (bb a 25) a 25 20 = ch (mv (th (col a) a 5) 24).a 5 20 := by simp [ss, bb, chi, upd, place, dd, col, turn, ch, ch1, mv, th, th1]
theorem Uy (a : St) : ss (bb a 25) a 25 21 = ch (mv (th (col a) a 5) 24).a 5 21 := by simp [ss, bb, chi, upd, place, dd, col, turn, ch, ch1, mv, th, th1]
theorem Ux (a : St) : ss (bb a 25) a 25 22 = ch (mv (th (col a) a 5) 24).a 5 22 := by simp [ss, bb, chi, upd, place, dd, col, turn, ch, ch1, mv, th, th1]
theorem Uw (a : St) : ss (bb a 25) a 25 23 = ch (mv (th (col a) a 5) 24).a 5 23 := by simp [ss, bb, chi, upd, place, dd, col, turn, ch, ch1, mv, th, th1]
theorem Uu (a : St) : ss (bb a 25) a 25 24 = ch (mv (th (col a) a 5) 24).a 5 24 := by simp [ss, bb, chi, upd, place, dd, col, turn, ch, ch1, mv, th, th1]
theorem lane (a : St) (k : Nat) (hk : k < 25) : ss (bb a 25) a 25 k = ch (mv (th (col a) a 5) 24).a 5 k := by
 match k, hk with
 | 0, _ => exact VT a
 | 1, _ => exact VR a
 | 2, _ => exact VQ a
 | 3, _ => exact VO a
 | 4, _ => exact VN a
 | 5, _ => exact VL a
 | 6, _ => exact VK a
 | 7, _ => exact VJ a
 | 8, _ => exact VI a
 | 9, _ => exact VH a
 | 10, _ => exact UL a
 | 11, _ => exact UK a
 | 12, _ => exact UJ a
 | 13, _ => exact UH a
 | 14, _ => exact UG a
 | 15, _ => exact UF a
 | 16, _ => exact UE a
 | 17, _ => exact UD a
 | 18, _ => exact UC a
 | 19, _ => exact UA a
 | 20, _ => exact Uz a
 | 21, _ => exact Uy a
 | 22, _ => exact Ux a
 | 23, _ => exact Uw a
 | 24, _ => exact Uu a
 | k + 25, h => omega
def Same (a b : St) : Prop := ∀ k, k < 25 → a k = b k
end Go.Proofs.YtiledgojbpmoiaaGreat.Kec
namespace Go.Proofs.YtiledgojbpmoiaaGreat
set_option maxHeartbeats 400000
open Go.RowKit Mono
open Kec
def u (x : L) : Int := (x.toNat : Int)
theorem tu (x : L) : 0 ≤ u x ∧ u x < 18446744073709551616 := by
 have := x.isLt
 unfold u
 omega
theorem oQ (x y : L) : bits .xor .u64 (u x) (u y) = u (x ^^^ y) := by
 unfold u
 rw [u64_xor_nat _ _ x.isLt y.isLt, BitVec.toNat_xor]
theorem NJ (x y : L) : bits .and .u64 (u x) (u y) = u (x &&& y) := by
 unfold u
 rw [u64_and_nat _ _ x.isLt y.isLt, BitVec.toNat_and]
theorem Vs (x y : L) : bits .or .u64 (u x) (u y) = u (x ||| y) := by
 unfold u
 rw [u64_or_nat _ _ x.isLt y.isLt, BitVec.toNat_or]
theorem JK (x : L) (n : Nat) : IntKind.u64.wrap (u x * 2 ^ n) = u (x <<< n) := by
 unfold u
 rw [IntKind.wrap_u64, BitVec.toNat_shiftLeft, Nat.shiftLeft_eq]
 have h : ((x.toNat : Int) * 2 ^ n) = ((x.toNat * 2 ^ n : Nat) : Int) := by simp
 rw [h]
 exact (Int.natCast_emod _ _).symm
theorem JJ (x : L) (n : Nat) : u x / 2 ^ n = u (x >>> n) := by
 unfold u
 rw [BitVec.toNat_ushiftRight, Nat.shiftRight_eq_div_pow]
 simp
def lv (x : L) : Value := .int .u64 (u x)
theorem rotate (x : L) (k : Nat) (hk : k < 64) (w : World) : Calls Tryz.prog 203 #[.int .u64 (u x), .int .i64 k] w fun e w' => e = .returned (.int .u64 (u (rotl x k))) ∧ w' = w := by
 have ha : bits .and .u64 (k : Int) 63 = k := by
  have := u64_and_nat k 63 (by omega) (by omega)
  rw [show ((63 : Nat) : Int) = 63 from rfl] at this
  rw [this]
  congr 1
  exact (Nat.and_two_pow_sub_one_eq_mod k 6).trans (Nat.mod_eq_of_lt hk)
 have hx := tu x
 have hx0 := hx.1
 clear hx
 go_enter Tryz.func203, Tryz.ntmps203
 go_wp2
 refine bodyPost_ret (results_tmp rfl _ _ _) rfl ⟨?_, rfl⟩
 show Ending.returned (.int .u64 (bits .or .u64 (IntKind.u64.wrap (u x * 2 ^ k)) (u x / 2 ^ (64 - k)))) = _
 rw [JK, JJ, Vs]
 rfl
theorem rol (x : L) (k : Nat) (hk : k < 64) (w : World) : Calls Tryz.prog 117 #[.int .u64 (u x), .int .u64 k] w fun e w' => e = .returned (.int .u64 (u (rotl x k))) ∧ w' = w := by
 by_cases h0 : k = 0
 ·
  subst h0
  rw [qM]
  go_enter Tryz.func117, Tryz.ntmps117
  go_wp2
  exact bodyPost_ret (results_tmp rfl _ _ _) rfl ⟨rfl, rfl⟩
 ·
  have hk1 : 0 < k := by omega
  clear h0
  go_enter Tryz.func117, Tryz.ntmps117
  go_wp2
  refine bodyPost_ret (results_tmp rfl _ _ _) rfl ⟨?_, rfl⟩
  show Ending.returned (.int .u64 (bits .or .u64 (IntKind.u64.wrap (u x * 2 ^ k)) (u x / 2 ^ (64 - k)))) = _
  rw [JK, JJ, Vs]
  rfl
def cellsOf (f : St) (n : Nat) : Array Value := ((List.range n).map fun k => lv (f k)).toArray
def bY (w : World) (g : Nat) (t : TypeId) (n : Nat) (f : St) : Prop := w.heap[g]? = some (.cells (cellsOf f n) t (0, 0))
theorem cellsOf_size (f : St) (n : Nat) : (cellsOf f n).size = n := by simp [cellsOf]
theorem mY (f : St) (n k : Nat) (h : k < n) : (cellsOf f n)[k]? = some (lv (f k)) := by simp [cellsOf, h]
theorem cellsOf_set (f : St) (n k : Nat) (v : L) : (cellsOf f n).setIfInBounds k (lv v) = cellsOf (Kec.upd f k v) n := by
 apply Array.ext_getElem?
 intro i
 rw [Array.getElem?_setIfInBounds]
 by_cases hi : i < n
 ·
  by_cases hk : k = i
  ·
   subst hk
   rw [if_pos rfl, cellsOf_size, if_pos hi, mY _ n k hi]
   congr 2
   exact (if_pos rfl).symm
  ·
   rw [if_neg hk, mY _ n i hi, mY _ n i hi]
   congr 2
   exact (if_neg (Ne.symm hk)).symm
 ·
  have h1 : (cellsOf f n)[i]? = none := Array.getElem?_eq_none (by rw [cellsOf_size]; omega)
  have h2 : (cellsOf (Kec.upd f k v) n)[i]? = none := Array.getElem?_eq_none (by rw [cellsOf_size]; omega)
  rw [h1, h2]
  by_cases hk : k = i
  · subst hk; rw [if_pos rfl, cellsOf_size, if_neg hi]
  · rw [if_neg hk]
section
variable {w w' : World} {g : Nat} {t : TypeId} {n : Nat} {f : St}
theorem bY.lt (h : bY w g t n f) : g < w.heap.size := by
 rcases Nat.lt_or_ge g w.heap.size with h1 | h1
 · exact h1
 · unfold bY at h; rw [Array.getElem?_eq_none h1] at h; cases h
theorem bY.cell (h : bY w g t n f) (k : Nat) (hk : k < n) : w.cell? ⟨g, k, none⟩ = some (lv (f k)) := by
 rw [cell_of_row w g k _ t (0, 0) h]
 exact mY f n k hk
theorem bY.frozen (h : bY w g t n f) (k : Nat) : w.frozen? ⟨g, k, none⟩ = false := by
 unfold bY at h
 simp [World.frozen?, h]
theorem bY.gr (h : bY w g t n f) (hg : Gr w w') : bY w' g t n f := (hg.block g h.lt).trans h
theorem bY.set (h : bY w g t n f) (k : Nat) (v : L) : bY (w.setCell ⟨g, k, none⟩ (lv v)) g t n (Kec.upd f k v) := by
 unfold bY at h ⊢
 simp [World.setCell, Array.getElem?_modify, h, cellsOf_set]
theorem bY.far (h : bY w g t n f) {p : Addr} (hp : g ≠ p.block) (v : Value) : bY (w.setCell p v) g t n f := (Below.heap_setCell w p v g hp).trans h
theorem bY.alloc (h : bY w g t n f) (o : Obj) : bY (w.alloc o) g t n f := h.gr (aC w o)
theorem bY.grown (h : bY w g t n f) {row : Option Nat} (hg : w.grownBy w' row) (hne : some g ≠ row) : bY w' g t n f := (hg.block g h.lt hne).trans h
end
def Only (g : Nat) (w w' : World) : Prop := w.grownBy w' (some g)
theorem Only.Bo {w w' : World} (h : Gr w w') (g : Nat) : Only g w w' := ⟨h.os, h.tape, h.output, h.size, fun k hk _ => h.block k hk⟩
theorem Only.refl (g : Nat) (w : World) : Only g w w := Only.Bo (Gr.refl w) g
theorem Only.trans {g : Nat} {a b c : World} (h : Only g a b) (k : Only g b c) : Only g a c :=
 ⟨k.os.trans h.os, k.tape.trans h.tape, k.output.trans h.output, Nat.le_trans h.size k.size, fun i hi hne => (k.block i (Nat.lt_of_lt_of_le hi h.size) hne).trans (h.block i hi hne)⟩
theorem Only.set {g : Nat} (w : World) (k : Nat) (v : Value) : Only g w (w.setCell ⟨g, k, none⟩ v) :=
 ⟨rfl, rfl, rfl, by simp [World.setCell], fun i _ hne => Below.heap_setCell w _ v i (fun e => hne (by rw [e]))⟩
theorem Only.gr {g : Nat} {a b c : World} (hab : Gr a b) (h : Only g b c) (hg : a.heap.size ≤ g) : Gr a c :=
 ⟨h.os.trans hab.os, h.tape.trans hab.tape, h.output.trans hab.output, Nat.le_trans hab.size h.size, fun i hi => (h.block i (Nat.lt_of_lt_of_le hi hab.size) (fun e => by injection e with e; omega)).trans (hab.block i hi)⟩
end Go.Proofs.YtiledgojbpmoiaaGreat
namespace Go.Proofs.YtiledgojbpmoiaaGreat
set_option maxHeartbeats 400000
open Go.RowKit Mono
open Kec (L St rotl)
def takeB (f : St) (k : Nat) (b : Nat) : St := Kec.upd f (k / 8) (f (k / 8) ^^^ (BitVec.ofNat 64 b) <<< (8 * (k % 8)))
theorem NI (n : Nat) (h : n < 256) : u (BitVec.ofNat 64 n) = (n : Int) := by
 unfold u
 rw [BitVec.toNat_ofNat]
 omega
def SV (R : World → Prop) (e : Ending) (w' : World) : Prop := e = .returned (.tuple #[]) ∧ R w'
theorem y9 (g : Nat) (t : TypeId) (f : St) (k n : Nat) (hk : k < 136) (hn : n < 256) (w : World) (hl : bY w g t 25 f) :
  Calls Tryz.prog 131 #[.pointer (some ⟨g, 0, none⟩), .int .i64 k, .int .u8 n] w (SV fun w' => bY w' g t 25 (takeB f k n) ∧ Only g w w') := by
 have hg := hl.lt
 have c1 := bg (w := w) (p := ⟨g, k / 8, none⟩) hg (hl.cell (k / 8) (by omega))
 unfold lv at c1
 have hu := tu (f (k / 8))
 have hu0 := hu.1
 have HL := Lib.hid hl
 clear hl hu
 go_enter Tryz.func131, Tryz.ntmps131
 go_wp2
 refine dH 15 (by kernel_rfl) (by kernel_rfl) (by kernel_rfl) ?_
 simp only [List.take_succ_cons, List.take_zero, List.drop_succ_cons, List.drop_zero]
 refine dJ 15 (by kernel_rfl) ?_
 simp only [List.take_succ_cons, List.take_zero, List.drop_succ_cons, List.drop_zero]
 repeat (go_big_quiet_step (fail))
 refine wpQuiet_nil ?_
 refine gV (by kernel_rfl) ?_
 intro W hW
 replace hW := hW.gr
 unfold oC
 have HW := Lib.hid (HL.out.gr hW)
 have e1 := HW.out.cell (k / 8) (by omega)
 have e2 := HW.out.frozen (k / 8)
 unfold lv at e1
 go_wp2
 refine bodyPost_ret (results_none rfl _ _ _) rfl ⟨rfl, ?_⟩
 have hv : Value.int .u64 (bits .xor .u64 (u (f (k / 8))) (IntKind.u64.wrap ((n : Int) * 2 ^ (8 * (k % 8))))) = lv (f (k / 8) ^^^ (BitVec.ofNat 64 n) <<< (8 * (k % 8))) := by
  rw [← NI n hn, JK, oQ]
  rfl
 rw [hv]
 exact ⟨HW.out.set _ _, (Only.Bo hW g).trans (Only.set _ _ _)⟩
end Go.Proofs.YtiledgojbpmoiaaGreat
