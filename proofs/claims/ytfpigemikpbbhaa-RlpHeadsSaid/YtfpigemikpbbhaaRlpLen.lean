/-
  rlp: the length that a head says.
  Conditions: the bytes are at most 2^46.
-/
import Derived.Test.YtfpigemikpbbhaaRlpRead
import Derived.Test.YtfpigemikpbbhaaRefPack
namespace Go.Proofs.Ytfpigemikpbbhaa
open Go.RowKit Mono Rlp

theorem i64_or_nat (a b : Nat) (ha : a < 2 ^ 63) (hb : b < 2 ^ 63) : bits .or .i64 (a : Int) (b : Int) = ((a ||| b : Nat) : Int) := by
  have key : (BitVec.ofInt 64 (a : Int) ||| BitVec.ofInt 64 (b : Int)).toNat = a ||| b := by
    rw [BitVec.toNat_or, BitVec.toNat_ofInt, BitVec.toNat_ofInt]
    congr 1
    · omega
    · omega
  show IntKind.i64.wrap ((BitVec.ofInt 64 (a : Int) ||| BitVec.ofInt 64 (b : Int)).toNat : Nat) = _
  have hlt := Nat.or_lt_two_pow ha hb
  rw [key, IntKind.wrap_i64]
  omega
theorem i64_join (n x : Nat) (hn : n ≤ 16777216) (hx : x < 256) : bits .or .i64 ((n : Int) * 256) (x : Int) = ((n * 256 + x : Nat) : Int) := by
  have := i64_or_nat (n * 256) x (by omega) (by omega)
  rw [nat_join 8 (n * 256) x (by omega) (by omega)] at this
  rw [← this]
  simp
theorem val_take (l : List UInt8) (j : Nat) (h : j < l.length) : val (l.take (j + 1)) = val (l.take j) * 256 + l[j].toNat := by
  rw [List.take_succ_eq_append_getElem h, val_snoc]
theorem val_mono (l : List UInt8) : ∀ (i j : Nat), i ≤ j → val (l.take i) ≤ val (l.take j) := by
  intro i j h
  induction j with
  | zero => obtain rfl : i = 0 := by omega
            exact Nat.le_refl _
  | succ j ih =>
    rcases Nat.lt_or_ge i (j + 1) with h1 | h1
    · rcases Nat.lt_or_ge j l.length with h2 | h2
      · have := ih (by omega)
        rw [val_take l j h2]
        omega
      · have h3 := ih (by omega)
        rw [List.take_of_length_le (l := l) (i := j) h2] at h3
        rw [List.take_of_length_le (l := l) (i := j + 1) (by omega)]
        exact h3
    · obtain rfl : i = j + 1 := by omega
      exact Nat.le_refl _

/-- What 'length' tells. -/
def LenV (b : List UInt8) (base : Nat) (v : Value) : Prop := match hdr b base with
  | some (h, n) => v = .tuple #[.int .i64 (h : Int), .int .i64 (n : Int), .bool true]
  | none => ∃ x y : Int, v = .tuple #[.int .i64 x, .int .i64 y, .bool false]
theorem lenV_some {b : List UInt8} {base h n : Nat} {v : Value} (hh : hdr b base = some (h, n)) (hv : v = .tuple #[.int .i64 (h : Int), .int .i64 (n : Int), .bool true]) : LenV b base v := by unfold LenV; rw [hh]; exact hv
theorem lenV_none {b : List UInt8} {base : Nat} {v : Value} (hh : hdr b base = none) (x y : Int) (hv : v = .tuple #[.int .i64 x, .int .i64 y, .bool false]) : LenV b base v := by unfold LenV; rw [hh]; exact ⟨x, y, hv⟩
def RetQ (V : Value → Prop) (w : World) (e : Ending) (w' : World) : Prop := w' = w ∧ ∃ v, e = .returned v ∧ V v

set_option maxHeartbeats 4000000 in
set_option maxRecDepth 20000 in
theorem rlp_length (v : Value) (c : UInt8) (t : List UInt8) (base : Nat) (w : World) (h : IsB w v (c :: t)) (hl : t.length ≤ 70368744177664) (hb : base ≤ 192) (h1 : base ≤ c.toNat) (h2 : c.toNat < base + 64) :
    Calls Try.prog 76 #[v, .int .i64 base] w (RetQ (LenV (c :: t) base) w) := by
  obtain ⟨A, cp, rfl, hc1, hc2, hr⟩ := h
  obtain ⟨bl, o, rfl, hbl, hcell⟩ := hr (by simp [bvs])
  have e0 := hcell 0 (bv c) rfl
  rw [Nat.add_zero] at e0
  unfold bv at e0
  have hcl := bv_lt c
  have HC : Hid (∀ j (hj : j < t.length), w.cell? ⟨bl, o + 1 + j, none⟩ = some (.int .u8 (t[j].toNat : Int))) := by
    refine Lib.hid fun j hj => ?_
    have := hcell (j + 1) (bv t[j]) (by simp [bvs, hj])
    rw [show o + 1 + j = o + (j + 1) by omega]
    exact this
  clear hcell hr
  unfold maxLen at hc2
  simp only [List.length_cons] at hc1 ⊢
  have hdr0 : hdr (c :: t) base = if c.toNat - base ≤ 55 then (if c.toNat - base ≤ t.length then some (1, c.toNat - base) else none)
      else if t.length + 1 < 1 + (c.toNat - base - 55) ∨ t.getD 0 0 = 0 then none
      else if val (t.take (c.toNat - base - 55)) > most then none
      else if 55 < val (t.take (c.toNat - base - 55)) ∧ val (t.take (c.toNat - base - 55)) ≤ t.length - (c.toNat - base - 55) then some (1 + (c.toNat - base - 55), val (t.take (c.toNat - base - 55))) else none := by
    unfold hdr
    simp only [List.getD_cons_zero, List.length_cons, List.getD_cons_succ, List.drop_succ_cons, List.drop_zero, Nat.add_sub_cancel]
  have HD := Lib.hid hdr0
  clear hdr0
  by_cases h3 : c.toNat - base ≤ 55
  · by_cases h4 : c.toNat - base ≤ t.length
    · have HH := Lib.hid (show hdr (c :: t) base = some (1, c.toNat - base) by rw [HD.out, if_pos h3, if_pos h4])
      go_enter Try.func76, Try.ntmps76
      go_wp2_with fail
      refine bodyPost_ret (results_tmp3 rfl _ _ _) rfl ⟨rfl, _, rfl, lenV_some HH.out ?_⟩
      simp
      omega
    · have HH := Lib.hid (show hdr (c :: t) base = none by rw [HD.out, if_pos h3, if_neg h4])
      go_enter Try.func76, Try.ntmps76
      go_wp2_with fail
      refine bodyPost_ret (results_tmp3 rfl _ _ _) rfl ⟨rfl, _, rfl, lenV_none HH.out 1 ((c.toNat : Int) - base) ?_⟩
      simp
      omega
  · obtain ⟨m, hm⟩ : ∃ m : Nat, m = c.toNat - base - 55 := ⟨_, rfl⟩
    rw [← hm] at HD
    have hm1 : 1 ≤ m := by omega
    have hm8 : m ≤ 8 := by omega
    have hmc : (c.toNat : Int) = base + 55 + m := by omega
    by_cases h4 : t.length + 1 < 1 + m
    · have HH := Lib.hid (show hdr (c :: t) base = none by rw [HD.out, if_neg h3, if_pos (.inl h4)])
      clear HD h3 hm
      rw [hmc] at e0
      clear hmc
      go_enter Try.func76, Try.ntmps76
      go_wp2_with fail
      refine bodyPost_ret (results_tmp3 rfl _ _ _) rfl ⟨rfl, _, rfl, lenV_none HH.out 0 0 rfl⟩
    · have h0t : 0 < t.length := by omega
      have e1 := HC.out 0 h0t
      rw [Nat.add_zero] at e1
      have hx0 := bv_lt (t[0]'h0t)
      by_cases h5 : t[0]'h0t = 0
      · have HH := Lib.hid (show hdr (c :: t) base = none by
          rw [HD.out, if_neg h3, if_pos (.inr (by rw [List.getD_eq_getElem?_getD, List.getElem?_eq_getElem h0t, h5]; rfl))])
        rw [h5] at e1
        rw [hmc] at e0
        have h6 : 1 + m ≤ t.length + 1 := by omega
        have e1' : w.cell? ⟨bl, o + 1, none⟩ = some (.int .u8 0) := e1
        clear HD h3 hm hmc e1 h5 h4
        go_enter Try.func76, Try.ntmps76
        go_wp2_with fail
        refine bodyPost_ret (results_tmp3 rfl _ _ _) rfl ⟨rfl, _, rfl, lenV_none HH.out 0 0 rfl⟩
      · have h6 : 1 + m ≤ t.length + 1 := by omega
        have h7 : 0 < (t[0]'h0t).toNat := by
          rcases Nat.eq_zero_or_pos (t[0]'h0t).toNat with h0 | h0
          · exact absurd (UInt8.toNat_inj.1 (by rw [h0]; rfl)) h5
          · exact h0
        have h8 : (((t[0]'h0t).toNat : Int) == 0) = false := by simp; omega
        have HH : Hid (hdr (c :: t) base = if val (t.take m) > most then none else if 55 < val (t.take m) ∧ val (t.take m) ≤ t.length - m then some (1 + m, val (t.take m)) else none) := by
          refine Lib.hid ?_
          rw [HD.out, if_neg h3, if_neg ?_]
          rintro (h | h)
          · omega
          · rw [List.getD_eq_getElem?_getD, List.getElem?_eq_getElem h0t] at h
            exact h5 h
        rw [hmc] at e0
        clear HD h3 hm h5 h4 hmc
        generalize (t[0]'h0t).toNat = x0 at e1 hx0 h7 h8
        go_enter Try.func76, Try.ntmps76
        go_wp2_with fail
        have k1 : ((base : Int) + 55 + m - base - 55) = m := by omega
        have k2 : base + 55 + m - base - 55 = m := by omega
        have k3 : 1 + m - 1 = m := by omega
        have k4 : decide ((t.length : Int) + 1 < 1 + (m : Int)) = false := by simp; omega
        have k5 : decide ((base : Int) + 55 + m - base ≤ 55) = false := by simp; omega
        simp only [k1, k2, k3, k4, k5]
        clear k1 k2 k3 k4 k5 h8 e1
        go_loopw [5, 42] (fun nv i wr => ∃ j : Nat, j ≤ m ∧ i = .int .i64 j ∧ nv = .int .i64 (val (t.take j) : Nat) ∧ val (t.take j) ≤ 16777216 ∧ wr = w) (fun _ i _ => m - (intOf i).toNat)
        case atStart => exact ⟨0, by omega, rfl, rfl, by simp [val], rfl⟩
        case round =>
          obtain ⟨j, hj, rfl, rfl, hv, rfl⟩ := hrel
          by_cases h9 : j < m
          · have e2 := HC.out j (by omega)
            have hxl := bv_lt (t[j]'(by omega))
            have HV := Lib.hid (val_take t j (by omega))
            generalize (t[j]'(by omega)).toNat = x at e2 hxl HV
            have HJ := Lib.hid (i64_join (val (t.take j)) x hv hxl)
            have hmm := val_mono t (j + 1) m (by omega)
            rw [HV.out] at hmm
            generalize val (t.take j) = n at HV HJ hmm hv
            have hjj := HJ.out
            by_cases h10 : n * 256 + x ≤ 16777216
            · go_wp2_with fail
              go_round
              case rel => exact ⟨j + 1, by omega, by go_num, by rw [HV.out]; go_num, by rw [HV.out]; exact h10, trivial⟩
              case measure => simp [intOf]; omega
            · have HH2 := Lib.hid (show hdr (c :: t) base = none by rw [HH.out, if_pos (by simp only [most]; omega)])
              have h11 : 16777216 < n * 256 + x := by omega
              clear h10 HH
              go_wp2_with fail
              refine bodyPost_ret (results_tmp3 rfl _ _ _) rfl ⟨rfl, _, rfl, lenV_none HH2.out 0 0 rfl⟩
          · have h10 : m ≤ j := by omega
            have h11 : t.take j = t.take m := by rw [show j = m by omega]
            rw [h11] at hv ⊢
            generalize val (t.take m) = n at HH hv ⊢
            clear h9 h11
            by_cases h12 : 55 < n ∧ n ≤ t.length - m
            · have HH2 := Lib.hid (show hdr (c :: t) base = some (1 + m, n) by rw [HH.out, if_neg (by simp only [most]; omega), if_pos h12])
              obtain ⟨h13, h14⟩ := h12
              have h15 : n + m ≤ t.length := by omega
              clear HH
              go_wp2_with fail
              refine bodyPost_ret (results_tmp3 rfl _ _ _) rfl ⟨rfl, _, rfl, lenV_some HH2.out ?_⟩
              simp
              omega
            · have HH2 := Lib.hid (show hdr (c :: t) base = none by rw [HH.out, if_neg (by simp only [most]; omega), if_neg h12])
              clear HH
              by_cases h13 : 55 < n
              · have h14 : t.length < n + m := by omega
                clear h12
                go_wp2_with fail
                refine bodyPost_ret (results_tmp3 rfl _ _ _) rfl ⟨rfl, _, rfl, lenV_none HH2.out (1 + m) n ?_⟩
                simp
                omega
              · have h14 : n ≤ 55 := by omega
                clear h12 h13
                go_wp2_with fail
                refine bodyPost_ret (results_tmp3 rfl _ _ _) rfl ⟨rfl, _, rfl, lenV_none HH2.out (1 + m) n ?_⟩
                simp
                try omega
end Go.Proofs.Ytfpigemikpbbhaa
