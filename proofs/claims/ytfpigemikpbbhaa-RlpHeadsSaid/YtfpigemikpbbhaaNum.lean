/-
  Numbers and words as items: the functions of rlp and of the reference.
  Conditions: none.
-/
import Derived.Test.YtfpigemikpbbhaaNumPlain
import Derived.Test.YtfpigemikpbbhaaRlpBig
import Derived.Test.YtfpigemikpbbhaaItem
import Derived.Test.YtfpigemikpbbhaaRlpReadW
import Derived.Test.YtfpigemikpbbhaaRlpLen
import Derived.Laws.CopyOwn
namespace Go.Proofs.Ytfpigemikpbbhaa
set_option linter.unusedVariables false
open Go.RowKit Mono Rlp

theorem gr_drewN {a w : World} (h : Gr a w) (n : Nat) : Gr a (w.drewN n) := below_drewN h n
/-- What 'bytes' tells. -/
def BytesV (x : Raw) : VP := fun v w => ∃ vb A n c, vb = .slice A n c ∧ n ≤ c ∧ c ≤ maxLen ∧ v = .tuple #[vb, .bool (numB x).isSome] ∧ ∀ bs, numB x = some bs → IsB w vb bs

set_option maxRecDepth 20000 in
set_option maxHeartbeats 1000000 in
theorem rlp_bytes (v : Value) (x : Raw) (w : World) (h : IsItem w v x) : Calls Try.prog 57 #[v] w (Ret (BytesV x) w) := by
  have HX := Lib.hid h
  obtain ⟨lx, bx, xs⟩ := x
  obtain ⟨vb1, vl1, rfl, ⟨A0, c0, rfl, hc0, hm0, _⟩, A1, c1, rows1, rfl, hc1, hm1, _⟩ := isItem_form h
  unfold maxLen at hm0 hm1
  clear h
  cases lx with
  | true =>
    go_enter Try.func57, Try.ntmps57
    go_wp2_with fail
    refine (rlp_of _ _ _ (HX.out.gr (gr_alloc w _))).mono ?_
    rintro e w1 ⟨v1, rfl, hg1, vl, rfl, hl⟩
    have HG1 := Lib.hid ((gr_alloc w _).trans hg1)
    clear hg1 hl
    go_wp2_with fail
    go_quiet (fail)
    go_wp2_with fail
    refine bodyPost_ret (results_tmp2 rfl _ _ _) rfl ⟨_, rfl, gr_drewN HG1.out nq, .slice none 0 0, none, 0, 0, rfl, Nat.le_refl _, by simp [maxLen], rfl, fun bs h => by cases h⟩
  | false =>
    go_enter Try.func57, Try.ntmps57
    go_wp2_with fail
    refine (rlp_of _ _ _ (HX.out.gr (gr_alloc w _))).mono ?_
    rintro e w1 ⟨v1, rfl, hg1, vl, rfl, hl⟩
    have HG1 := Lib.hid ((gr_alloc w _).trans hg1)
    obtain ⟨A, c, rfl, hd1, hd2, hr⟩ := hl
    have HR := Lib.hid hr
    have hd2' := hd2
    unfold maxLen at hd2
    clear hg1 hr
    rcases bx with _ | ⟨b, l⟩
    · simp only [List.length_nil] at *
      go_wp2_with fail
      go_quiet (fail)
      go_wp2_with fail
      refine bodyPost_ret (results_tmp2 rfl _ _ _) rfl ⟨_, rfl, gr_drewN HG1.out nq, _, A, 0, c, rfl, by omega, hd2', rfl, fun bs h => ?_⟩
      cases h
      exact ⟨A, c, rfl, hd1, hd2', HR.out⟩
    · obtain ⟨bl, o, rfl, hbl, hcell⟩ := isB_at HR.out 0 (by simp)
      have hlen : (b :: l).length = l.length + 1 := rfl
      rw [hlen] at *
      simp only [List.getElem_cons_zero] at hcell
      rw [Nat.add_zero] at hcell
      by_cases hb : b = 0
      · subst hb
        have hcell' : w1.cell? ⟨bl, o, none⟩ = some (.int .u8 0) := hcell
        clear hcell
        go_wp2_with fail
        go_quiet (fail)
        go_wp2_with fail
        refine bodyPost_ret (results_tmp2 rfl _ _ _) rfl ⟨_, rfl, gr_drewN HG1.out nq, .slice (some ⟨bl, o, none⟩) (l.length + 1) c, some ⟨bl, o, none⟩, l.length + 1, c, rfl, hd1, hd2', rfl, fun bs h => ?_⟩
        cases h
      · have hn : ((b.toNat : Int) == 0) = false := by
          rw [Bool.eq_false_iff]
          intro e
          have e2 : (b.toNat : Int) = 0 := by simpa using e
          exact hb (UInt8.toNat_inj.1 (by rw [show (0 : UInt8).toNat = 0 from rfl]; omega))
        have hsome : numB (.mk false (b :: l) xs) = some (b :: l) := by rw [numB, if_neg (by simpa using hb)]
        have HS := Lib.hid hsome
        clear hsome
        go_wp2_with fail
        go_quiet (fail)
        go_wp2_with fail
        refine bodyPost_ret (results_tmp2 rfl _ _ _) rfl ⟨_, rfl, gr_drewN HG1.out nq, .slice (some ⟨bl, o, none⟩) (l.length + 1) c, some ⟨bl, o, none⟩, l.length + 1, c, rfl, hd1, hd2', ?_, fun bs h => ?_⟩
        · rw [HS.out]
          simp
          exact .inr fun e => by rw [e] at hn; simp at hn
        · rw [HS.out] at h
          cases h
          exact ⟨_, c, rfl, hd1, hd2', HR.out⟩

theorem u64_join (n x : Nat) (hn : n < 2 ^ 56) (hx : x < 256) : bits .or .u64 ((n : Int) * 256) (x : Int) = ((n * 256 + x : Nat) : Int) := by
  have := u64_or_nat (n * 256) x (by omega) (by omega)
  rw [nat_join 8 (n * 256) x (by omega) (by omega)] at this
  rw [← this]
  simp
def intV (x : Raw) : Value := .tuple #[.int .i64 (((intR x).getD 0 : Nat) : Int), .bool (intR x).isSome]
theorem intV_none {x : Raw} (h : intR x = none) : intV x = .tuple #[.int .i64 0, .bool false] := by unfold intV; rw [h]; rfl
theorem intV_some {x : Raw} {n : Nat} (h : intR x = some n) : intV x = .tuple #[.int .i64 (n : Int), .bool true] := by unfold intV; rw [h]; rfl
set_option maxRecDepth 20000 in
set_option maxHeartbeats 1000000 in
theorem rlp_Int (v : Value) (x : Raw) (w : World) (h : IsItem w v x) : Calls Try.prog 36 #[v] w (Ret (eqV (intV x)) w) := by
  have HX := Lib.hid h
  obtain ⟨lx, bx, xs⟩ := x
  obtain ⟨vb1, vl1, rfl, ⟨A0, c0, rfl, hc0, hm0, _⟩, A1, c1, rows1, rfl, hc1, hm1, _⟩ := isItem_form h
  unfold maxLen at hm0 hm1
  clear h
  generalize bx.length = n0 at HX hc0 ⊢
  generalize xs.length = n1 at HX hc1 ⊢
  generalize Raw.mk lx bx xs = x at HX ⊢
  go_enter Try.func36, Try.ntmps36
  go_wp2_with fail
  refine (rlp_bytes _ x _ (HX.out.gr (gr_alloc w _))).mono ?_
  rintro e w1 ⟨v1, rfl, hg1, vb, A, n, c, rfl, hn1, hn2, rfl, hb⟩
  have HG1 := Lib.hid ((gr_alloc w _).trans hg1)
  unfold maxLen at hn2
  clear hg1
  cases hx : numB x with
  | none =>
    have HI := Lib.hid (intV_none (show intR x = none by unfold intR; rw [hx]; rfl))
    clear hb hx
    go_wp2_with fail
    refine bodyPost_ret (results_tmp2 rfl _ _ _) rfl ⟨_, rfl, HG1.out, ?_⟩
    unfold eqV
    rw [HI.out]
    rfl
  | some bs =>
    have hI : intR x = if bs.length ≤ 8 ∧ val bs ≤ 9223372036854775807 then some (val bs) else none := by unfold intR; rw [hx]; rfl
    obtain ⟨A', c', he, hd1, hd2, hr⟩ := hb bs hx
    injection he with e1 e2 e3
    subst e1 e2 e3
    have HR := Lib.hid hr
    clear hb hx hr hn1 hd2
    by_cases h8 : 8 < bs.length
    · have HI := Lib.hid (intV_none (show intR x = none by rw [hI, if_neg (fun h => by omega)]))
      clear hI
      go_wp2_with fail
      refine bodyPost_ret (results_tmp2 rfl _ _ _) rfl ⟨_, rfl, HG1.out, ?_⟩
      unfold eqV
      rw [HI.out]
      rfl
    · have h9 : bs.length ≤ 8 := by omega
      have HI := Lib.hid hI
      clear h8 hI
      go_wp2_with fail
      go_loopw [6, 23] (fun u i wr => ∃ k : Nat, k ≤ bs.length ∧ i = .int .i64 k ∧ u = .int .u64 (val (bs.take k) : Nat) ∧ wr = w1) (fun _ i _ => bs.length - (intOf i).toNat)
      case atStart => exact ⟨0, by omega, rfl, rfl, rfl⟩
      case round =>
        obtain ⟨k, hk, rfl, rfl, rfl⟩ := hrel
        by_cases h1 : k < bs.length
        · obtain ⟨bl, o, rfl, hbl, hcell⟩ := isB_at HR.out k h1
          have hlt : val (bs.take k) < 2 ^ 56 := by
            have h2 := val_lt (bs.take k)
            have h3 : 256 ^ (bs.take k).length ≤ 256 ^ 7 := Nat.pow_le_pow_right (by omega) (by rw [List.length_take]; omega)
            omega
          have hbk := bv_lt bs[k]
          have HJ := Lib.hid (u64_join (val (bs.take k)) bs[k].toNat hlt hbk)
          have HV := Lib.hid (val_take bs k h1)
          generalize val (bs.take k) = q at hlt HJ HV
          generalize bs[k].toNat = z at hcell hbk HJ HV
          go_wp2_with fail
          go_roundw
          case rel =>
            refine ⟨k + 1, by omega, by go_num, ?_, trivial⟩
            rw [HV.out, ← HJ.out]
          case measure => simp [intOf]; omega
        · have hk2 : k = bs.length := by omega
          have htk : bs.take k = bs := List.take_of_length_le (by omega)
          have hlt : val bs < 2 ^ 64 := by
            have h2 := val_lt bs
            have h3 : 256 ^ bs.length ≤ 256 ^ 8 := Nat.pow_le_pow_right (by omega) h9
            omega
          rw [htk]
          by_cases h3 : val bs ≤ 9223372036854775807
          · have HI2 := Lib.hid (intV_some (show intR x = some (val bs) by rw [HI.out, if_pos ⟨h9, h3⟩]))
            generalize val bs = q at h3 hlt HI2 ⊢
            go_wp2_with fail
            refine bodyPost_ret (results_tmp2 rfl _ _ _) rfl ⟨_, rfl, HG1.out, ?_⟩
            unfold eqV
            rw [HI2.out]
            simp
          · have HI2 := Lib.hid (intV_none (show intR x = none by rw [HI.out, if_neg (fun h => h3 h.2)]))
            have h4 : 9223372036854775807 < val bs := by omega
            generalize val bs = q at h3 h4 hlt HI2 ⊢
            clear h3
            go_wp2_with fail
            refine bodyPost_ret (results_tmp2 rfl _ _ _) rfl ⟨_, rfl, HG1.out, ?_⟩
            unfold eqV
            rw [HI2.out]
            simp
end Go.Proofs.Ytfpigemikpbbhaa
