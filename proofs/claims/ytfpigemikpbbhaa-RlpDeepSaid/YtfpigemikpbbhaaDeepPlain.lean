/-
  Lists within lists, each alone: what they are packed as, and what their bytes are read as.
  Conditions: none.
-/
import Derived.Test.YtfpigemikpbbhaaRlpPacks
namespace Go.Proofs.Ytfpigemikpbbhaa
set_option linter.unusedVariables false
namespace Rlp

def nest : Nat → Raw
  | 0 => .mk true [] []
  | k + 1 => .mk true [] [nest k]
theorem E_nest_zero : E (nest 0) = [192] := by decide +kernel
theorem EL_one (x : Raw) : EL [x] = E x := by rw [EL, EL, List.append_nil]
theorem head_small (n : Nat) (h : n < 56) : head n 192 = [UInt8.ofNat (192 + n)] := if_pos h
theorem head_mid (n : Nat) (h : 56 ≤ n) (h2 : n < 256) : head n 192 = [248, UInt8.ofNat n] := by
  unfold head
  rw [if_neg (by omega), be_pos n (by omega), show n / 256 = 0 by omega, be_zero]
  rfl
theorem E_nest_succ (k : Nat) (h : (E (nest k)).length < 256) : E (nest (k + 1)) = if (E (nest k)).length < 56 then UInt8.ofNat (192 + (E (nest k)).length) :: E (nest k) else 248 :: UInt8.ofNat (E (nest k)).length :: E (nest k) := by
  rw [nest, E, EL_one]
  by_cases h1 : (E (nest k)).length < 56
  · rw [if_pos h1, head_small _ h1]; rfl
  · rw [if_neg h1, head_mid _ (by omega) h]; rfl
theorem E_nest_le (k : Nat) (hk : k ≤ 100) : (E (nest k)).length ≤ 2 * k + 1 := by
  induction k with
  | zero => rw [E_nest_zero]; simp
  | succ k ih =>
    have := ih (by omega)
    rw [E_nest_succ k (by omega)]
    split <;> simp <;> omega
theorem meas_nest : ∀ k d, d + k < 32 → k ≤ 100 → ∃ n, meas (nest k) d = some n
  | 0, d, h, _ => by
    rw [nest, meas, if_neg (by omega), measL]
    exact ⟨_, rfl⟩
  | k + 1, d, h, hk => by
    obtain ⟨n, hn⟩ := meas_nest k (d + 1) (by omega) (by omega)
    have h1 := meas_E _ _ _ hn
    have h2 := E_nest_le k (by omega)
    rw [nest, meas, if_neg (by omega), measL, hn]
    dsimp only
    rw [if_neg (by simp only [most]; omega), measL]
    exact ⟨_, rfl⟩
theorem meas_nest_none : ∀ k d, d ≤ 32 → 32 ≤ d + k → meas (nest k) d = none
  | 0, d, h, h2 => by
    rw [nest, meas, if_pos (by omega)]
  | k + 1, d, h, h2 => by
    rw [nest, meas]
    by_cases hd : d = 32
    · rw [if_pos hd]
    · rw [if_neg hd, measL, meas_nest_none k (d + 1) (by omega) (by omega)]
      rfl
theorem packed_nest (k : Nat) (h : k < 32) : packed (nest k) = some (E (nest k)) := by
  obtain ⟨n, hn⟩ := meas_nest k 0 (by omega) (by omega)
  have h1 := meas_E _ _ _ hn
  have h2 := E_nest_le k (by omega)
  unfold packed
  rw [hn]
  dsimp only
  rw [if_neg (by simp only [most]; omega)]
theorem packed_nest_none (k : Nat) (h : 32 ≤ k) : packed (nest k) = none := by
  unfold packed
  rw [meas_nest_none k 0 (by omega) (by omega)]
theorem E_nest_first (k : Nat) (hk : k ≤ 100) : ∃ c l, E (nest k) = c :: l ∧ 192 ≤ c.toNat := by
  cases k with
  | zero => exact ⟨192, [], E_nest_zero, by decide⟩
  | succ k =>
    have h := E_nest_le k (by omega)
    rw [nest, E, EL_one]
    obtain ⟨c, l, hc, h1, _⟩ := head_first (E (nest k)).length 192 (.inr rfl) (by simp only [most]; omega)
    rw [hc]
    exact ⟨c, l ++ E (nest k), rfl, h1⟩
theorem parse_nest : ∀ m k, m ≤ k → k ≤ 100 → parse m (E (nest k)) = .error 3
  | 0, k, _, hk => by
    obtain ⟨c, l, hc, h1⟩ := E_nest_first k hk
    have g1 : ¬ c < 128 := fun e => by have := UInt8.lt_iff_toNat_lt.1 e; have h128 : (128 : UInt8).toNat = 128 := rfl; omega
    have g2 : ¬ c < 192 := fun e => by have := UInt8.lt_iff_toNat_lt.1 e; have h192 : (192 : UInt8).toNat = 192 := rfl; omega
    rw [hc, show parse 0 = stepP none from rfl, stepP_cons, if_neg g1, if_neg g2]
  | m + 1, 0, h, hk => by omega
  | m + 1, k + 1, h, hk => by
    have ih := parse_nest m k (by omega) (by omega)
    have hle := E_nest_le k (by omega)
    have hp := E_pos (nest k)
    obtain ⟨c, l, hc, h1, _⟩ := head_first (E (nest k)).length 192 (.inr rfl) (by simp only [most]; omega)
    have hh := hdr_head (E (nest k)).length 192 (E (nest k)) (.inr rfl) (Nat.le_refl _) (by simp only [most]; omega)
    have hdr1 : (head (E (nest k)).length 192 ++ E (nest k)).drop (head (E (nest k)).length 192).length = E (nest k) := List.drop_left' rfl
    have g1 : ¬ c < 128 := fun e => by have := UInt8.lt_iff_toNat_lt.1 e; have h128 : (128 : UInt8).toNat = 128 := rfl; omega
    have g2 : ¬ c < 192 := fun e => by have := UInt8.lt_iff_toNat_lt.1 e; have h192 : (192 : UInt8).toNat = 192 := rfl; omega
    rw [nest, E, EL_one]
    rw [hc] at hh hdr1 ⊢
    rw [List.cons_append] at hh hdr1 ⊢
    rw [show parse (m + 1) = stepP (some (parse m)) from rfl, stepP_cons, if_neg g1, if_neg g2]
    dsimp only
    rw [hh]
    dsimp only
    rw [hdr1, List.take_length]
    obtain ⟨c2, l2, hc2, _⟩ := E_nest_first k (by omega)
    have hl : (E (nest k)).length = l2.length + 1 := by rw [hc2]; rfl
    rw [hl]
    rw [hc2] at ih ⊢
    unfold parseL
    rw [ih]
end Rlp
open Rlp
theorem readE_nest (k : Nat) (h : k ≤ 100) : readE (E (nest k)) = if k < 32 then 0 else 3 := by
  by_cases h1 : k < 32
  · rw [if_pos h1]
    exact (readE_of (packed_nest k h1)).1
  · have h2 := E_nest_le k h
    rw [if_neg h1]
    unfold readE readR
    rw [if_neg (by simp only [most]; omega), parse_nest 32 k (by omega) h]
end Go.Proofs.Ytfpigemikpbbhaa
