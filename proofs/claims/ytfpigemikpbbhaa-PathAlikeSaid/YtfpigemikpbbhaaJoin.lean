/-
  path.Join and the reference's Join: the bytes of half bytes.
  Conditions: at most 2 to the 30th of them.
-/
import Derived.Test.YtfpigemikpbbhaaSplit
namespace Go.Proofs.Ytfpigemikpbbhaa
open Go.RowKit Mono

def joinL : List UInt8 → Option (List UInt8)
  | [] => some []
  | [_] => none
  | x :: y :: r => if x.toNat ≤ 15 ∧ y.toNat ≤ 15 then (joinL r).map fun t => (x <<< 4 ||| y) :: t else none
theorem joinL_odd : ∀ (p : List UInt8), p.length % 2 = 1 → joinL p = none
  | [], h => by simp at h
  | [_], _ => rfl
  | x :: y :: r, h => by
    rw [joinL, joinL_odd r (by simp at h; omega)]
    simp
theorem joinL_step (p : List UInt8) (k : Nat) (h1 : k < p.length) (h2 : k + 1 < p.length) :
    joinL (p.drop k) = if p[k].toNat ≤ 15 ∧ p[k + 1].toNat ≤ 15 then (joinL (p.drop (k + 2))).map fun t => (p[k] <<< 4 ||| p[k + 1]) :: t else none := by
  rw [List.drop_eq_getElem_cons h1, List.drop_eq_getElem_cons h2, joinL]
/-- What a join gives: the bytes, and whether there are some. -/
def JoinV (base : Nat) (p : List UInt8) : VP := fun v w => ∃ v1, v = .tuple #[v1, .bool (joinL p).isSome] ∧ OwnB w base v1 ((joinL p).getD [])
theorem orNib (x y : Nat) (hx : x ≤ 15) (hy : y ≤ 15) (a b : UInt8) (ha : a.toNat = x) (hb : b.toNat = y) : (a <<< 4 ||| b).toNat = x * 16 + y := by
  have h : ∀ x : Fin 16, ∀ y : Fin 16, ((UInt8.ofNat x.1) <<< 4 ||| (UInt8.ofNat y.1)).toNat = x.1 * 16 + y.1 := by decide +kernel
  subst ha hb
  simpa using h ⟨a.toNat, by omega⟩ ⟨b.toNat, by omega⟩

theorem orBits (x y : Nat) (hx : x ≤ 15) (hy : y ≤ 15) : bits .or .u8 ((x : Int) * 16) (y : Int) = ((x * 16 + y : Nat) : Int) := by
  have h : ∀ x : Fin 16, ∀ y : Fin 16, bits .or .u8 ((x.1 : Int) * 16) (y.1 : Int) = ((x.1 * 16 + y.1 : Nat) : Int) := by decide +kernel
  exact h ⟨x, by omega⟩ ⟨y, by omega⟩

set_option maxHeartbeats 400000 in
theorem ref_join (v1 : Value) (p : List UInt8) (w : World) (h1 : IsB w v1 p) (hlen : p.length ≤ 1073741824) :
    Calls Try.prog 19 #[v1] w (Ret (JoinV w.heap.size p) w) := by
  obtain ⟨A, c, rfl, hl1, hl2, hA⟩ := h1
  clear hl1 hl2
  have HA := Lib.hid hA
  clear hA
  by_cases hodd : p.length % 2 = 1
  · have HJ := Lib.hid (joinL_odd p hodd)
    go_enter Try.func19, Try.ntmps19
    go_wp2
    refine bodyPost_ret (results_tmp2 rfl _ _ _) rfl ?_
    refine ⟨_, rfl, Below.refl _ _, .slice none 0 0, ?_, ?_⟩
    · rw [HJ.out]; rfl
    · rw [HJ.out]; exact OwnB.nil _ _
  · have hev : p.length % 2 = 0 := by omega
    clear hodd
    have hevI : (p.length : Int) % 2 = 0 := by omega
    go_enter Try.func19, Try.ntmps19
    go_wp2
    clear hevI
    go_loopw [4, 5] (fun v i wr => ∃ (j : Nat) (pre : List UInt8), 2 * j ≤ p.length ∧ i = .int .i64 (2 * j : Nat) ∧ pre.length = j ∧ OwnB wr w.heap.size v pre ∧ Below w.heap.size w wr ∧ Hid (joinL p = (joinL (p.drop (2 * j))).map (pre ++ ·))) (fun _ i _ => p.length - (intOf i).toNat)
    case atStart => exact ⟨0, [], by omega, rfl, rfl, OwnB.nil w w.heap.size, Below.refl _ _, Lib.hid (by simp)⟩
    case round =>
      obtain ⟨j, pre, hj, rfl, hpre, hown, hb, hJ⟩ := hrel
      obtain ⟨A', c', rfl, hc1, hc2⟩ := own_form hown
      have hbs := hb.size
      have HO := Lib.hid hown
      have HB := Lib.hid hb
      have HP := Lib.hid hpre
      have hpl : pre.length ≤ j := by omega
      clear hown hb hpre
      by_cases h1 : 2 * j < p.length
      · have h2 : 2 * j + 1 < p.length := by omega
        obtain ⟨b1, o1, rfl, hb1, c1⟩ := HA.out (by intro e; have := bvs_length p; rw [e] at this; simp at this; omega)
        have hbw : b1 < wr.heap.size := by omega
        have r1 := (HB.out.cell (p := ⟨b1, o1 + 2 * j, none⟩) hb1).trans (c1 (2 * j) _ (bvs_at p (2 * j) h1))
        have r2 := (HB.out.cell (p := ⟨b1, o1 + (2 * j + 1), none⟩) hb1).trans (c1 (2 * j + 1) _ (bvs_at p (2 * j + 1) h2))
        have d1 := later_cell (w := wr) (p := ⟨b1, o1 + 2 * j, none⟩) hbw r1
        have d2 := later_cell (w := wr) (p := ⟨b1, o1 + (2 * j + 1), none⟩) hbw r2
        clear c1
        unfold bv at d1 d2 r1 r2
        have HS := Lib.hid (joinL_step p (2 * j) h1 h2)
        have hx0 := bv_lt p[2 * j]
        have hy0 := bv_lt p[2 * j + 1]
        obtain ⟨x, hx⟩ : ∃ x, x = p[2 * j].toNat := ⟨_, rfl⟩
        obtain ⟨y, hy⟩ : ∃ y, y = p[2 * j + 1].toNat := ⟨_, rfl⟩
        rw [← hx] at d1 r1 hx0
        rw [← hy] at d2 r2 hy0
        have HX := Lib.hid hx
        have HY := Lib.hid hy
        clear hx hy
        by_cases hc : x ≤ 15 ∧ y ≤ 15
        · obtain ⟨hcx, hcy⟩ := hc
          go_wp2
          refine wp_region_N 13 (by kernel_rfl) (by kernel_rfl) (by kernel_rfl) ?_
          simp only [List.take_succ_cons, List.take_zero, List.drop_succ_cons, List.drop_zero]
          refine wpN_quiet 12 (by kernel_rfl) ?_
          simp only [List.take_succ_cons, List.take_zero, List.drop_succ_cons, List.drop_zero]
          repeat (go_big_quiet_step (fail))
          refine wpQuiet_nil ?_
          refine wpN_gen 41 (fun v w => IsB w v [p[2 * j] <<< 4 ||| p[2 * j + 1]]) rfl rfl (by kernel_rfl) (by kernel_rfl) (stable_isB _) (fun xw => ?_) ?_
          · simp [go_sem, growsTo]
            rw [orBits x y hcx hcy]
            refine ⟨gr_alloc _ _, isB_new _ _ [p[2 * j] <<< 4 ||| p[2 * j + 1]] ?_ (by simp [maxLen])⟩
            simp [bvs, bv, orNib x y hcx hcy _ _ HX.out.symm HY.out.symm]
          refine wpN_nil (by kernel_rfl) ?_
          intro W hW
          replace hW := hW.gr
          have hbs2 := hW.size
          intro v22 h22
          obtain ⟨A22, c22, rfl, _, _, hrd⟩ := h22
          unfold finN
          go_wp2_with (at_builtin; refine wpL_append _ _ 22 slT_bytes _ _ _ _ _ _ _ (bvs [p[2 * j] <<< 4 ||| p[2 * j + 1]]) rfl rfl rfl rfl (own_gr HO.out hW) hrd (by simp [bvs]) (bvs_one _) (by simp only [maxLen]; simp; omega) (by simp; omega) (by omega) ?_; intro A2 c2 w2 hown2 hg2 _)
          go_roundw
          case rel =>
            refine ⟨j + 1, pre ++ [p[2 * j] <<< 4 ||| p[2 * j + 1]], by omega, by go_num, by simp [HP.out], ?_, (HB.out.trans (hW.mono hbs)).grown hg2 (by omega) fun j hj => own_block_ge HO.out j hj, Lib.hid ?_⟩
            · unfold OwnB
              rw [bvs_append, List.length_append]
              exact hown2
            · rw [hJ.out, HS.out, if_pos ⟨by rw [← HX.out]; exact hcx, by rw [← HY.out]; exact hcy⟩, show 2 * (j + 1) = 2 * j + 2 by omega]
              cases joinL (p.drop (2 * j + 2)) <;> simp
          case measure => simp [intOf]; omega
        · by_cases hcx : x ≤ 15
          · have hcy : 15 < y := by omega
            have hno := Lib.hid hc
            clear hc
            go_wp2
            refine bodyPost_ret (results_tmp2 rfl _ _ _) rfl ?_
            refine ⟨_, rfl, HB.out, .slice none 0 0, ?_, ?_⟩
            · rw [hJ.out, HS.out, if_neg (by rw [← HX.out, ← HY.out]; exact hno.out)]; rfl
            · rw [hJ.out, HS.out, if_neg (by rw [← HX.out, ← HY.out]; exact hno.out)]; exact OwnB.nil _ _
          · have hcx' : 15 < x := by omega
            have hno := Lib.hid hc
            clear hc hcx
            go_wp2
            refine bodyPost_ret (results_tmp2 rfl _ _ _) rfl ?_
            refine ⟨_, rfl, HB.out, .slice none 0 0, ?_, ?_⟩
            · rw [hJ.out, HS.out, if_neg (by rw [← HX.out, ← HY.out]; exact hno.out)]; rfl
            · rw [hJ.out, HS.out, if_neg (by rw [← HX.out, ← HY.out]; exact hno.out)]; exact OwnB.nil _ _
      · have hd := Lib.hid (List.drop_eq_nil_of_le (Nat.le_of_not_lt h1))
        go_wp2
        refine bodyPost_ret (results_tmp2 rfl _ _ _) rfl ?_
        refine ⟨_, rfl, HB.out, .slice A' pre.length c', ?_, ?_⟩
        · rw [hJ.out, hd.out]; rfl
        · rw [hJ.out, hd.out]; simpa [joinL] using HO.out
end Go.Proofs.Ytfpigemikpbbhaa
