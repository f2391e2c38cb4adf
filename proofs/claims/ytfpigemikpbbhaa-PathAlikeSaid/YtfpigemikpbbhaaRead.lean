/-
  path.Read and the reference's ReadPath.
  Conditions: at most 2 to the 29th bytes.
-/
import Derived.Test.YtfpigemikpbbhaaSplit
namespace Go.Proofs.Ytfpigemikpbbhaa
open Go.RowKit Mono

/-- A path's half bytes, and whether it is a leaf's. -/
def readP (b : List UInt8) : Option (List UInt8 × Bool) :=
  match split b with
  | [] => none
  | x :: r => if 3 < x.toNat then none else if x.toNat % 2 = 1 then some (r, decide (2 ≤ x.toNat)) else match r with
    | [] => none
    | y :: r => if y.toNat ≠ 0 then none else some (r, decide (2 ≤ x.toNat))
def ReadV (b : List UInt8) : VP := fun v w => ∃ v1, v = .tuple #[v1, .bool (((readP b).map (·.2)).getD false), .bool (readP b).isSome] ∧ IsB w v1 (((readP b).map (·.1)).getD [])
theorem stable_readV (b : List UInt8) : Stable (ReadV b) := fun _ _ _ hg ⟨v1, h1, h2⟩ => ⟨v1, h1, h2.gr hg⟩
theorem read_nil : readP [] = none := rfl
theorem read_cons (c : UInt8) (b : List UInt8) : readP (c :: b) = (if 3 < c.toNat / 16 then none else if c.toNat / 16 % 2 = 1 then some ((c &&& 15) :: split b, decide (2 ≤ c.toNat / 16))
    else if c.toNat % 16 ≠ 0 then none else some (split b, decide (2 ≤ c.toNat / 16))) := by
  have h1 : (c >>> 4).toNat = c.toNat / 16 := by rw [UInt8.toNat_shiftRight]; simp [Nat.shiftRight_eq_div_pow]
  have h2 : (c &&& 15).toNat = c.toNat % 16 := by rw [UInt8.toNat_and]; exact Nat.and_two_pow_sub_one_eq_mod _ 4
  have hs : split (c :: b) = (c >>> 4) :: (c &&& 15) :: split b := rfl
  unfold readP
  rw [hs]
  simp only [h1, h2]

theorem bits_and1 (x : Nat) (h : x < 256) : bits .and .u8 (x : Int) 1 = ((x % 2 : Nat) : Int) := by
  have h' : ∀ x : Fin 256, bits .and .u8 (x.1 : Int) 1 = ((x.1 % 2 : Nat) : Int) := by decide +kernel
  exact h' ⟨x, h⟩

set_option maxHeartbeats 400000 in
theorem path_read (v1 : Value) (b : List UInt8) (w : World) (h1 : IsB w v1 b) (hlen : b.length ≤ 536870912) :
    Calls Try.prog 23 #[v1] w (Ret (ReadV b) w) := by
  have hs := path_split v1 b w h1 (by omega)
  cases b with
  | nil =>
    have HS := Lib.hid hs
    clear hs h1
    go_enter Try.func23, Try.ntmps23
    go_wp2_with fail
    refine HS.out.mono ?_
    rintro e w1 ⟨v2, rfl, hg1, ho1⟩
    obtain ⟨A2, c2, rfl, _, _⟩ := own_form ho1
    go_wp2
    refine bodyPost_ret (results_tmp3 rfl _ _ _) rfl ?_
    exact ⟨_, rfl, hg1, .slice none 0 0, rfl, IsB.nil _⟩
  | cons c b =>
    have HS := Lib.hid hs
    have HR := Lib.hid (read_cons c b)
    clear hs h1
    go_enter Try.func23, Try.ntmps23
    go_wp2_with fail
    refine HS.out.mono ?_
    rintro e w1 ⟨v2, rfl, hg1, ho1⟩
    obtain ⟨A2, c2, rfl, hc1, hc2⟩ := own_form ho1
    have hsl : (split (c :: b)).length = 2 * b.length + 2 := by rw [split_length]; simp; omega
    have h1 : (c >>> 4).toNat = c.toNat / 16 := by rw [UInt8.toNat_shiftRight]; simp [Nat.shiftRight_eq_div_pow]
    have h2 : (c &&& 15).toNat = c.toNat % 16 := by rw [UInt8.toNat_and]; exact Nat.and_two_pow_sub_one_eq_mod _ 4
    have hrd := Rd.of_own ho1
    have hsp : bvs (split (c :: b)) = bv (c >>> 4) :: bv (c &&& 15) :: bvs (split b) := rfl
    obtain ⟨b1, o1, rfl, hb1, cc⟩ := hrd (by rw [hsp]; simp)
    have d1 := cc 0 (bv (c >>> 4)) (by rw [hsp]; rfl)
    have d2 := cc 1 (bv (c &&& 15)) (by rw [hsp]; rfl)
    unfold bv at d1 d2
    rw [h1] at d1
    rw [h2] at d2
    have H1 := Lib.hid h1
    have H2 := Lib.hid h2
    have HD := Lib.hid hrd
    have HN := Lib.hid hsl
    have hlc := bv_lt c
    have hn1 : 2 ≤ (split (c :: b)).length := by omega
    have hn2 : (split (c :: b)).length ≤ 1073741824 := by simp at hlen; omega
    clear h1 h2 cc hrd hsl hsp ho1 HS hlen
    generalize (split (c :: b)).length = n at *
    unfold maxLen at hc2
    simp only [Nat.add_zero] at d1
    generalize hx : c.toNat / 16 = x at *
    generalize hy : c.toNat % 16 = y at *
    have hx0 : x < 16 := by omega
    have hy0 : y < 16 := by omega
    have HX := Lib.hid hx
    have HY := Lib.hid hy
    clear hx hy
    have hn0 : ((n : Int) == 0) = false := beq_eq_false_iff_ne.2 (by omega)
    by_cases g1 : 3 < x
    · go_wp2
      refine bodyPost_ret (results_tmp3 rfl _ _ _) rfl ?_
      exact ⟨_, rfl, hg1, .slice none 0 0, by rw [HR.out, if_pos g1]; rfl, by rw [HR.out, if_pos g1]; exact IsB.nil _⟩
    · have g1' : x ≤ 3 := by omega
      have hlen2 : n = 2 * b.length + 2 := HN.out
      have HN2 := Lib.hid hlen2
      clear hlen2
      by_cases g2 : x % 2 = 1
      · have hb : bits .and .u8 (x : Int) 1 = 1 := by rw [bits_and1 x (by omega), g2]; rfl
        have HR' := HR.out
        rw [if_neg g1, if_pos g2] at HR'
        have HR2 := Lib.hid HR'
        have G2 := Lib.hid g2
        clear HR' HR g2 g1
        go_wp2
        refine bodyPost_ret (results_tmp3 rfl _ _ _) rfl ?_
        refine ⟨_, rfl, hg1, .slice (some ⟨b1, o1 + 1, none⟩) (n - 1) (c2 - 1), ?_, ?_⟩
        · rw [HR2.out]
          simp
          omega
        · rw [HR2.out]
          exact isB_cut' 1 HD.out (by rw [split_length, HN2.out]; simp; omega) hc1 (by simp only [maxLen]; omega) (by omega) (by omega)
      · have hb : bits .and .u8 (x : Int) 1 = 0 := by rw [bits_and1 x (by omega), show x % 2 = 0 by omega]; rfl
        by_cases g3 : y ≠ 0
        · have hy1 : ((y : Int) != 0) = true := by rw [bne_iff_ne]; omega
          have HR' := HR.out
          rw [if_neg g1, if_neg g2, if_pos g3] at HR'
          have HR2 := Lib.hid HR'
          clear HR' HR g2 g1 g3
          go_wp2
          refine bodyPost_ret (results_tmp3 rfl _ _ _) rfl ?_
          exact ⟨_, rfl, hg1, .slice none 0 0, by rw [HR2.out]; rfl, by rw [HR2.out]; exact IsB.nil _⟩
        · have hy1 : ((y : Int) != 0) = false := by rw [bne_eq_false_iff_eq]; omega
          have HR' := HR.out
          rw [if_neg g1, if_neg g2, if_neg g3] at HR'
          have HR2 := Lib.hid HR'
          clear HR' HR g2 g1 g3
          by_cases hcc : c2 = 2
          · subst hcc
            go_wp2
            refine bodyPost_ret (results_tmp3 rfl _ _ _) rfl ?_
            refine ⟨_, rfl, hg1, .slice (some ⟨b1, o1, none⟩) (n - 2) (2 - 2), ?_, ?_⟩
            · rw [HR2.out]
              simp
              omega
            · rw [HR2.out]
              have h := isB_cut 2 HD.out (n := n) (by rw [split_length, HN2.out]; simp; omega) hc1 (by simp only [maxLen]; omega) (by omega)
              rw [if_pos rfl] at h
              exact h
          · have hcc' : 2 < c2 := by omega
            clear hcc
            go_wp2
            refine bodyPost_ret (results_tmp3 rfl _ _ _) rfl ?_
            refine ⟨_, rfl, hg1, .slice (some ⟨b1, o1 + 2, none⟩) (n - 2) (c2 - 2), ?_, ?_⟩
            · rw [HR2.out]
              simp
              omega
            · rw [HR2.out]
              exact isB_cut' 2 HD.out (by rw [split_length, HN2.out]; simp; omega) hc1 (by simp only [maxLen]; omega) (by omega) (by omega)
end Go.Proofs.Ytfpigemikpbbhaa
