/-
  A list's bytes: a head and its items' bytes (plain).
  Conditions: none.
-/
import Derived.Test.YtfpigemikpbbhaaLawSize
namespace Go.Proofs.Ytfpigemikpbbhaa
set_option linter.unusedVariables false
open Go.RowKit Rlp
namespace Rlp
mutual
/-- All byte strings within (a list's own too) are no longer than N. -/
def lens (N : Nat) : Raw → Prop
  | .mk _ bs xs => bs.length ≤ N ∧ lensL N xs
def lensL (N : Nat) : List Raw → Prop
  | [] => True
  | x :: xs => lens N x ∧ lensL N xs
end
mutual
def wt : Raw → Nat
  | .mk _ bs xs => 1 + bs.length + wtL xs
def wtL : List Raw → Nat
  | [] => 0
  | x :: xs => wt x + wtL xs
end
theorem lensL_iff (N : Nat) : ∀ xs : List Raw, lensL N xs ↔ ∀ x ∈ xs, lens N x
  | [] => by rw [lensL]; simp
  | x :: xs => by rw [lensL, lensL_iff N xs]; simp
mutual
theorem szR_wt (N : Nat) (hN : N ≤ 140737488355328) : ∀ (x : Raw) (left : Int), lens N x → 0 < left → left ≤ 5000 → 1 ≤ szR x left ∧ szR x left ≤ left + N + 1 ∧ (szR x left < left → szR x left = wt x)
  | .mk l bs xs, left, h, h1, h2 => by
    rw [lens] at h
    have h3 := h.1
    have h4 := szRL_wt N hN xs left (1 + (bs.length : Int)) h.2 h1 h2 (by omega) (by omega)
    rw [szR, wrap_i64_id (by omega) (by omega), wt]
    refine ⟨h4.1, h4.2.1, fun h5 => ?_⟩
    have := h4.2.2 h5
    omega
theorem szRL_wt (N : Nat) (hN : N ≤ 140737488355328) : ∀ (xs : List Raw) (left n : Int), lensL N xs → 0 < left → left ≤ 5000 → 1 ≤ n → n ≤ left + N + 1 → 1 ≤ szRL xs left n ∧ szRL xs left n ≤ left + N + 1 ∧ (szRL xs left n < left → szRL xs left n = n + wtL xs)
  | [], left, n, h, h1, h2, h3, h4 => by
    rw [szRL, wtL]
    exact ⟨h3, h4, fun _ => by simp⟩
  | x :: xs, left, n, h, h1, h2, h3, h4 => by
    rw [lensL] at h
    rw [szRL, wtL]
    by_cases h5 : n < left
    · rw [if_pos h5, wrap_i64_id (x := left - n) (by omega) (by omega)]
      have h6 := szR_wt N hN x (left - n) h.1 (by omega) (by omega)
      rw [wrap_i64_id (by omega) (by omega)]
      have h7 := szRL_wt N hN xs left (n + szR x (left - n)) h.2 h1 h2 (by omega) (by omega)
      refine ⟨h7.1, h7.2.1, fun h8 => ?_⟩
      have h9 := h7.2.2 h8
      have h10 := h6.2.2 (by omega)
      omega
    · rw [if_neg h5]
      exact ⟨h3, h4, fun h8 => by omega⟩
end
theorem be_short (n : Nat) (h : n < 256 ^ 3) : (be n).length ≤ 3 := be_length 3 n h
mutual
theorem E_wt : ∀ x : Raw, wt x ≤ 1000000 → (E x).length ≤ 9 * wt x
  | .mk false bs xs, h => by
    rw [wt] at h ⊢
    rw [E, EB_length]
    unfold szE szB
    have := be_short bs.length (by omega)
    repeat' split
    all_goals omega
  | .mk true bs xs, h => by
    rw [wt] at h ⊢
    have h1 := EL_wt xs (by omega)
    rw [E, List.length_append, head_length]
    unfold szB
    have := be_short (EL xs).length (by omega)
    split <;> omega
theorem EL_wt : ∀ xs : List Raw, wtL xs ≤ 1000000 → (EL xs).length ≤ 9 * wtL xs
  | [], h => by rw [EL]; simp
  | x :: xs, h => by
    rw [wtL] at h ⊢
    have h1 := E_wt x (by omega)
    have h2 := EL_wt xs (by omega)
    rw [EL, List.length_append]
    omega
end
/-- What the law's measure tells of an item's bytes. -/
theorem E_small (N : Nat) (hN : N ≤ 140737488355328) (x : Raw) (h : lens N x) (hb : bigR x = false) : (E x).length ≤ 45000 := by
  have h1 := szR_wt N hN x 5000 h (by omega) (by omega)
  have h2 : szR x 5000 < 5000 := by
    unfold bigR at hb
    have := of_decide_eq_false hb
    omega
  have h3 := h1.2.2 h2
  have h4 := E_wt x (by omega)
  omega
mutual
theorem deepR_mono : ∀ (x : Raw) (m : Nat), deepR x m ≤ deepR x (m + 1)
  | .mk false bs xs, m => by rw [deepR, deepR]; exact Nat.le_refl _
  | .mk true bs xs, 0 => by rw [deepR, deepR]; omega
  | .mk true bs xs, m + 1 => by
    rw [deepR, deepR]
    have := maxD_mono xs m 0 0 (Nat.le_refl _)
    omega
theorem maxD_mono : ∀ (xs : List Raw) (m a b : Nat), a ≤ b → maxD xs m a ≤ maxD xs (m + 1) b
  | [], m, a, b, h => by rw [maxD, maxD]; exact h
  | x :: xs, m, a, b, h => by
    rw [maxD, maxD]
    have h1 := deepR_mono x m
    refine maxD_mono xs m _ _ ?_
    split <;> split <;> omega
end
theorem packRL_of : ∀ (xs : List Raw) (acc : List UInt8), (∀ x ∈ xs, packR x = some (E x)) → acc.length + (EL xs).length ≤ most → packRL xs acc = some (acc ++ EL xs)
  | [], acc, h, hl => by rw [packRL, EL, List.append_nil]
  | x :: xs, acc, h, hl => by
    rw [EL, List.length_append] at hl
    rw [packRL, h x (by simp), EL]
    dsimp only
    rw [if_neg (by omega), packRL_of xs (acc ++ E x) (fun y hy => h y (by simp [hy])) (by rw [List.length_append]; omega), List.append_assoc]
theorem packR_of_packed {x : Raw} {b : List UInt8} (h : packed x = some b) : packR x = some (E x) := by
  rw [packed_ref] at h
  split at h
  · cases h
  · cases hp : packR x with
    | none => rw [hp] at h; cases h
    | some c => rw [packR_E x c hp]
/-- What a list of items is packed as, each of which is packed, small, and not too deep. -/
theorem packed_list (xs : List Raw) (h1 : ∀ x ∈ xs, ∃ b, packed x = some b) (h2 : ∀ x ∈ xs, deepR x 32 ≤ 31) (h3 : (EL xs).length ≤ 10000000) :
    packed (.mk true [] xs) = some (head (EL xs).length 192 ++ EL xs) ∧ (head (EL xs).length 192).length ≤ 4 := by
  have hb := be_short (EL xs).length (by omega)
  have hh : (head (EL xs).length 192).length ≤ 4 := by
    unfold head
    split
    · simp
    · simp; omega
  refine ⟨?_, hh⟩
  have hd : ¬ deepR (.mk true [] xs) 32 > 32 := by
    rw [deepR]
    have := (maxD_le xs 31 0 31).2 ⟨by omega, fun x hx => Nat.le_trans (deepR_mono x 31) (h2 x hx)⟩
    omega
  have hp : packR (.mk true [] xs) = some (head (EL xs).length 192 ++ EL xs) := by
    rw [packR, packRL_of xs [] (fun x hx => by obtain ⟨b, hb⟩ := h1 x hx; exact packR_of_packed hb) (by simp only [most, List.length_nil]; omega)]
    rfl
  rw [packed_ref, if_neg hd, hp]
  dsimp only
  rw [if_neg (by simp only [most, List.length_append]; omega)]
end Rlp
end Go.Proofs.Ytfpigemikpbbhaa
