/-
  Numbers and words as items (plain): zeros ahead, a word's bytes, what an item's number is.
  Conditions: none. No program is named here.
-/
import Derived.Test.YtfpigemikpbbhaaRlp
namespace Go.Proofs.Ytfpigemikpbbhaa
set_option linter.unusedVariables false
namespace Rlp

/-- Without the zeros ahead. -/
def strip : List UInt8 → List UInt8
  | [] => []
  | b :: l => if b = 0 then strip l else b :: l
theorem val_foldl (l : List UInt8) : ∀ n, l.foldl (fun n b => n * 256 + b.toNat) n = n * 256 ^ l.length + val l := by
  induction l with
  | nil => intro n; simp [val]
  | cons b l ih =>
    intro n
    have h1 := ih (n * 256 + b.toNat)
    have h2 := ih b.toNat
    have h3 : val (b :: l) = b.toNat * 256 ^ l.length + val l := by
      unfold val at h2 ⊢
      rw [List.foldl_cons, Nat.zero_mul, Nat.zero_add, h2]
    rw [List.foldl_cons, h1, h3, List.length_cons, Nat.pow_succ, Nat.add_mul, Nat.mul_assoc, Nat.mul_comm 256, Nat.add_assoc]
theorem val_cons (b : UInt8) (l : List UInt8) : val (b :: l) = b.toNat * 256 ^ l.length + val l := by
  have h := val_foldl l b.toNat
  unfold val at h ⊢
  rw [List.foldl_cons, Nat.zero_mul, Nat.zero_add, h]
theorem val_nil : val [] = 0 := rfl
theorem val_zeros (n : Nat) (l : List UInt8) : val (List.replicate n 0 ++ l) = val l := by
  induction n with
  | zero => rfl
  | succ n ih => rw [List.replicate_succ, List.cons_append, val_cons, ih]; simp
theorem val_strip : ∀ l : List UInt8, val (strip l) = val l
  | [] => rfl
  | b :: l => by
    rw [strip]
    split
    · rename_i h
      subst h
      rw [val_strip l, val_cons]
      simp
    · rfl
theorem strip_head : ∀ l : List UInt8, (strip l).head? ≠ some 0
  | [] => by simp [strip]
  | b :: l => by
    rw [strip]
    split
    · exact strip_head l
    · rename_i h
      simpa using h
theorem strip_be (l : List UInt8) (n : Nat) (h : val l = n) : strip l = be n := by
  rw [← h, ← val_strip l, be_val _ (strip_head l)]
theorem strip_length : ∀ l : List UInt8, (strip l).length ≤ l.length
  | [] => by simp [strip]
  | b :: l => by
    rw [strip]
    split
    · have := strip_length l
      simp
      omega
    · simp
theorem strip_zeros (l : List UInt8) : ∀ n, strip (List.replicate n 0 ++ l) = strip l
  | 0 => rfl
  | n + 1 => by rw [List.replicate_succ, List.cons_append, strip, if_pos rfl]; exact strip_zeros l n
theorem strip_drop (l : List UInt8) (k : Nat) (h : ∀ j (hj : j < l.length), j < k → l[j] = 0) : strip (l.drop k) = strip l := by
  induction k generalizing l with
  | zero => rfl
  | succ k ih =>
    cases l with
    | nil => rfl
    | cons b l =>
      have h0 : b = 0 := h 0 (by simp) (by omega)
      subst h0
      rw [List.drop_succ_cons, ih l (fun j hj hjk => h (j + 1) (by simpa using hj) (by omega)), strip, if_pos rfl]
theorem strip_at (l : List UInt8) (k : Nat) (hk : k < l.length) (h : l[k] ≠ 0) : strip (l.drop k) = l.drop k := by
  rw [List.drop_eq_getElem_cons hk, strip, if_neg h]
theorem val_lt (l : List UInt8) : val l < 256 ^ l.length := by
  induction l with
  | nil => simp [val]
  | cons b l ih =>
    have hb := b.toNat_lt
    rw [val_cons, List.length_cons, Nat.pow_succ]
    have h1 : b.toNat * 256 ^ l.length ≤ 255 * 256 ^ l.length := Nat.mul_le_mul_right _ (by omega)
    omega

/-- The bytes of an item that are a number's: no list, no zero ahead. -/
def numB : Raw → Option (List UInt8)
  | .mk false bs _ => if bs.head? = some 0 then none else some bs
  | .mk true _ _ => none
def pad (bs : List UInt8) : List UInt8 := List.replicate (32 - bs.length) 0 ++ bs
theorem pad_length (bs : List UInt8) (h : bs.length ≤ 32) : (pad bs).length = 32 := by
  unfold pad
  rw [List.length_append, List.length_replicate]
  omega
def zero32 : List UInt8 := List.replicate 32 0
theorem zero32_length : zero32.length = 32 := by simp [zero32]
/-- An item's word; none: it is none. -/
def wordR (x : Raw) : Option (List UInt8) := (numB x).bind fun bs => if bs.length ≤ 32 then some (pad bs) else none
/-- An item's number. -/
def intR (x : Raw) : Option Nat := (numB x).bind fun bs => if bs.length ≤ 8 ∧ val bs ≤ 9223372036854775807 then some (val bs) else none
/-- A word's number. -/
def wordInt (l : List UInt8) : Option Nat := if val l ≤ 9223372036854775807 then some (val l) else none
theorem wordR_length {x : Raw} {l : List UInt8} (h : wordR x = some l) : l.length = 32 := by
  unfold wordR at h
  cases hb : numB x with
  | none => rw [hb] at h; cases h
  | some bs =>
    rw [hb] at h
    simp only [Option.bind_some] at h
    split at h
    · cases h; exact pad_length bs (by assumption)
    · cases h
theorem numB_head {x : Raw} {bs : List UInt8} (h : numB x = some bs) : bs.head? ≠ some 0 := by
  obtain ⟨l, b, xs⟩ := x
  cases l
  · rw [numB] at h
    split at h
    · cases h
    · cases h; assumption
  · cases h
theorem val_long (bs : List UInt8) (h : bs.head? ≠ some 0) (h2 : 8 < bs.length) : 9223372036854775807 < val bs := by
  cases bs with
  | nil => simp at h2
  | cons b l =>
    have hb : b ≠ 0 := by simpa using h
    have hb0 : 0 < b.toNat := by
      rcases Nat.eq_zero_or_pos b.toNat with h0 | h0
      · exact absurd (UInt8.toNat_inj.1 (by rw [h0]; rfl)) hb
      · exact h0
    rw [val_cons]
    have h3 : 256 ^ 8 ≤ 256 ^ l.length := Nat.pow_le_pow_right (by omega) (by simp at h2; omega)
    have h4 : 1 * 256 ^ l.length ≤ b.toNat * 256 ^ l.length := Nat.mul_le_mul_right _ hb0
    omega
/-- The reference reads a number by way of a word. -/
theorem intR_word (x : Raw) : intR x = (wordR x).bind wordInt := by
  unfold intR wordR
  cases hb : numB x with
  | none => rfl
  | some bs =>
    have hh := numB_head hb
    simp only [Option.bind_some]
    by_cases h8 : bs.length ≤ 8
    · rw [if_pos (show bs.length ≤ 32 by omega), Option.bind_some]
      unfold wordInt pad
      rw [val_zeros]
      by_cases hv : val bs ≤ 9223372036854775807
      · rw [if_pos ⟨h8, hv⟩, if_pos hv]
      · rw [if_neg (fun h => hv h.2), if_neg hv]
    · rw [if_neg (fun h => h8 h.1)]
      have := val_long bs hh (by omega)
      split
      · rw [Option.bind_some]
        unfold wordInt pad
        rw [val_zeros, if_neg (by omega)]
      · rfl
/-- When a word is no number: a byte of the first 24 is not zero, or the 25-th is 128 or more. -/
theorem val_parts (l : List UInt8) (k : Nat) (h : k ≤ l.length) : val l = val (l.take k) * 256 ^ (l.length - k) + val (l.drop k) := by
  have h1 := val_foldl (l.drop k) (val (l.take k))
  have h2 : l = l.take k ++ l.drop k := (List.take_append_drop k l).symm
  conv => lhs; rw [h2]
  unfold val at h1 ⊢
  rw [List.foldl_append, h1, List.length_drop]
theorem val_take_zero (l : List UInt8) (k : Nat) (h : k ≤ l.length) (hz : ∀ j (hj : j < l.length), j < k → l[j] = 0) : val l = val (l.drop k) := by
  rw [← val_strip l, ← strip_drop l k hz, val_strip]
theorem wordInt_high (l : List UInt8) (hl : l.length = 32) (j : Nat) (hj : j < 24) (hn : l[j]'(by omega) ≠ 0) : wordInt l = none := by
  unfold wordInt
  rw [if_neg]
  have h1 := val_parts l (j + 1) (by omega)
  have h2 : l.take (j + 1) = l.take j ++ [l[j]'(by omega)] := (List.take_append_getElem (by omega)).symm
  rw [h2, val_snoc] at h1
  have hb0 : 0 < (l[j]'(by omega)).toNat := by
    rcases Nat.eq_zero_or_pos (l[j]'(by omega)).toNat with h0 | h0
    · exact absurd (UInt8.toNat_inj.1 (by rw [h0]; rfl)) hn
    · exact h0
  have h3 : 256 ^ 8 ≤ 256 ^ (l.length - (j + 1)) := Nat.pow_le_pow_right (by omega) (by omega)
  have h4 : 1 * 256 ^ (l.length - (j + 1)) ≤ (val (l.take j) * 256 + (l[j]'(by omega)).toNat) * 256 ^ (l.length - (j + 1)) := Nat.mul_le_mul_right _ (by omega)
  omega
theorem wordInt_top (l : List UInt8) (hl : l.length = 32) (hz : ∀ j (hj : j < l.length), j < 24 → l[j] = 0) (ht : 128 ≤ (l[24]'(by omega)).toNat) : wordInt l = none := by
  unfold wordInt
  rw [if_neg]
  have h1 := val_take_zero l 24 (by omega) hz
  rw [List.drop_eq_getElem_cons (by omega : 24 < l.length), val_cons, List.length_drop, show l.length - (24 + 1) = 7 by omega] at h1
  omega
theorem wordInt_low (l : List UInt8) (hl : l.length = 32) (hz : ∀ j (hj : j < l.length), j < 24 → l[j] = 0) (ht : (l[24]'(by omega)).toNat < 128) : wordInt l = some (val (l.drop 24)) ∧ val (l.drop 24) ≤ 9223372036854775807 := by
  have h1 := val_take_zero l 24 (by omega) hz
  have h2 := h1
  rw [List.drop_eq_getElem_cons (by omega : 24 < l.length), val_cons, List.length_drop, show l.length - (24 + 1) = 7 by omega] at h2
  have h3 := val_lt (l.drop (24 + 1))
  rw [List.length_drop, show l.length - (24 + 1) = 7 by omega] at h3
  refine ⟨?_, ?_⟩
  · unfold wordInt
    rw [if_pos (by omega), h1]
  · rw [← h1]
    omega
/-- The word of a number, its bytes from the last on. -/
theorem w_step (n m j : Nat) (t : List UInt8) (hj : t.length = j) (h : m * 256 ^ j + val t = n) : m / 256 * 256 ^ (j + 1) + val (UInt8.ofNat m :: t) = n := by
  rw [val_cons, hj, UInt8.toNat_ofNat', Nat.pow_succ, ← h, ← Nat.add_assoc, Nat.mul_comm (256 ^ j) 256, ← Nat.mul_assoc, ← Nat.add_mul]
  congr 2
  omega
theorem set_zeros (n : Nat) (b : UInt8) (t : List UInt8) : (List.replicate (n + 1) 0 ++ t).set n b = List.replicate n 0 ++ b :: t := by
  rw [List.replicate_succ', List.append_assoc, List.set_append_right _ _ (by simp)]
  simp
end Rlp
end Go.Proofs.Ytfpigemikpbbhaa
