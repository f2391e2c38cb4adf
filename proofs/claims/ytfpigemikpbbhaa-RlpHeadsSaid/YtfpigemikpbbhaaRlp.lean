/-
  Items in plain words: their bytes, how they are measured, packed and read.
  Conditions: none. No program is named here.
-/
import Derived.Test.YtfpigemikpbbhaaBase
namespace Go.Proofs.Ytfpigemikpbbhaa
namespace Rlp

/-- An item as the struct has it: both fields, whatever it is. -/
inductive Raw where
  | mk (list : Bool) (bs : List UInt8) (xs : List Raw)
abbrev most : Nat := 16777216

/-! ### A number's bytes -/
def le (n : Nat) : List UInt8 := if h : n = 0 then [] else UInt8.ofNat n :: le (n / 256)
termination_by n
decreasing_by omega
def be (n : Nat) : List UInt8 := (le n).reverse
theorem le_zero : le 0 = [] := by unfold le; rfl
theorem le_pos (n : Nat) (h : 0 < n) : le n = UInt8.ofNat n :: le (n / 256) := by
  conv => lhs; unfold le
  rw [dif_neg (by omega)]
theorem be_zero : be 0 = [] := by unfold be; rw [le_zero]; rfl
theorem be_pos (n : Nat) (h : 0 < n) : be n = be (n / 256) ++ [UInt8.ofNat n] := by unfold be; rw [le_pos n h, List.reverse_cons]
theorem le_length (k : Nat) : ∀ n, n < 256 ^ k → (le n).length ≤ k := by
  induction k with
  | zero => intro n h; have : n = 0 := by simpa using h
            subst this; rw [le_zero]; simp
  | succ k ih =>
    intro n h
    rcases Nat.eq_zero_or_pos n with h0 | h0
    · subst h0; rw [le_zero]; simp
    · rw [le_pos n h0, List.length_cons]
      have := ih (n / 256) (by rw [Nat.pow_succ] at h; omega)
      omega
theorem be_length (k n : Nat) (h : n < 256 ^ k) : (be n).length ≤ k := by unfold be; rw [List.length_reverse]; exact le_length k n h
def val (l : List UInt8) : Nat := l.foldl (fun n b => n * 256 + b.toNat) 0
theorem val_snoc (l : List UInt8) (b : UInt8) : val (l ++ [b]) = val l * 256 + b.toNat := by simp [val]
theorem val_be : ∀ n, val (be n) = n := by
  intro n
  induction n using Nat.strongRecOn with
  | ind n ih =>
    rcases Nat.eq_zero_or_pos n with h0 | h0
    · subst h0; rw [be_zero]; rfl
    · rw [be_pos n h0, val_snoc, ih (n / 256) (by omega), UInt8.toNat_ofNat']
      omega
theorem be_head (n : Nat) (h : 0 < n) : ∃ b l, be n = b :: l ∧ b ≠ 0 := by
  induction n using Nat.strongRecOn with
  | ind n ih =>
    rw [be_pos n h]
    rcases Nat.eq_zero_or_pos (n / 256) with h0 | h0
    · rw [h0, be_zero]
      refine ⟨UInt8.ofNat n, [], rfl, fun e => ?_⟩
      have h1 := congrArg UInt8.toNat e
      rw [UInt8.toNat_ofNat'] at h1
      have h2 : (0 : UInt8).toNat = 0 := rfl
      rw [h2] at h1
      omega
    · obtain ⟨b, l, h1, h2⟩ := ih (n / 256) (by omega) h0
      exact ⟨b, l ++ [UInt8.ofNat n], by rw [h1]; rfl, h2⟩
theorem val_pos (l : List UInt8) : ∀ b, b ≠ 0 → 0 < val (b :: l) := by
  intro b hb
  have hb0 : 0 < b.toNat := by
    rcases Nat.eq_zero_or_pos b.toNat with h0 | h0
    · exact absurd (UInt8.toNat_inj.1 (by rw [h0]; rfl)) hb
    · exact h0
  have h : ∀ (l : List UInt8) (n : Nat), 0 < n → 0 < l.foldl (fun n b => n * 256 + b.toNat) n := by
    intro l
    induction l with
    | nil => exact fun _ h => h
    | cons c l ih => exact fun n h => ih _ (show 0 < n * 256 + c.toNat by omega)
  exact h l _ (show 0 < 0 * 256 + b.toNat by omega)
/-- Bytes without a zero ahead are a number's. -/
theorem be_val : ∀ l : List UInt8, l.head? ≠ some 0 → be (val l) = l := by
  intro l
  induction h : l.length generalizing l with
  | zero =>
    intro _
    obtain rfl := List.eq_nil_of_length_eq_zero h
    exact be_zero
  | succ k ih =>
    intro hh
    have hne : l ≠ [] := fun e => by rw [e] at h; simp at h
    obtain ⟨m, b, rfl⟩ : ∃ m b, l = m ++ [b] := ⟨l.dropLast, l.getLast hne, (List.dropLast_concat_getLast hne).symm⟩
    have hm : m.length = k := by simpa using h
    have hbl := b.toNat_lt
    rw [val_snoc]
    rcases m with _ | ⟨c, m⟩
    · have hb : b ≠ 0 := fun e => hh (by rw [e]; rfl)
      have hb0 : 0 < b.toNat := by
        rcases Nat.eq_zero_or_pos b.toNat with h0 | h0
        · exact absurd (UInt8.toNat_inj.1 (by rw [h0]; rfl)) hb
        · exact h0
      have h1 : val ([] : List UInt8) = 0 := rfl
      rw [h1, Nat.zero_mul, Nat.zero_add, be_pos _ hb0, show b.toNat / 256 = 0 by omega, be_zero, UInt8.ofNat_toNat]
    · have hc : c ≠ 0 := fun e => hh (by rw [e]; rfl)
      have hv := val_pos m c hc
      rw [be_pos _ (by omega), show (val (c :: m) * 256 + b.toNat) / 256 = val (c :: m) by omega, ih (c :: m) hm (fun e => hc (by simpa using e))]
      have : UInt8.ofNat (val (c :: m) * 256 + b.toNat) = b := by
        apply UInt8.toNat_inj.1
        rw [UInt8.toNat_ofNat']
        omega
      rw [this]

/-! ### Heads and items -/
def head (n base : Nat) : List UInt8 := if n < 56 then [UInt8.ofNat (base + n)] else UInt8.ofNat (base + 55 + (be n).length) :: be n
/-- How many bytes a head and so many bytes take. -/
def szB (n : Nat) : Nat := if n < 56 then 1 + n else 1 + (be n).length + n
theorem head_length (n base : Nat) : (head n base).length + n = szB n := by
  unfold head szB
  split
  · simp
  · simp; omega
def EB (bs : List UInt8) : List UInt8 := if bs.length = 1 ∧ bs.getD 0 0 < 128 then bs else head bs.length 128 ++ bs
mutual
def E : Raw → List UInt8
  | .mk false bs _ => EB bs
  | .mk true _ xs => head (EL xs).length 192 ++ EL xs
def EL : List Raw → List UInt8
  | [] => []
  | x :: xs => E x ++ EL xs
end
/-- How many bytes stand for bytes. -/
def szE (bs : List UInt8) : Nat := if bs.length = 1 ∧ bs.getD 0 0 < 128 then 1 else szB bs.length
theorem EB_length (bs : List UInt8) : (EB bs).length = szE bs := by
  unfold EB szE
  split
  · rename_i h; exact h.1
  · rw [List.length_append, head_length]
mutual
/-- What the program's measure tells. -/
def meas : Raw → Nat → Option Nat
  | .mk false bs _, _ => if bs.length ≤ most then some (szE bs) else none
  | .mk true _ xs, d => if d = 32 then none else (measL xs (d + 1) 0).map szB
def measL : List Raw → Nat → Nat → Option Nat
  | [], _, n => some n
  | x :: xs, d, n => match meas x d with
    | none => none
    | some k => if n + k > most then none else measL xs d (n + k)
end
mutual
/-- What the reference's pack tells. -/
def packR : Raw → Option (List UInt8)
  | .mk false bs _ => if bs.length > most then none else some (EB bs)
  | .mk true _ xs => (packRL xs []).map fun l => head l.length 192 ++ l
def packRL : List Raw → List UInt8 → Option (List UInt8)
  | [], acc => some acc
  | x :: xs, acc => match packR x with
    | none => none
    | some b => if acc.length + b.length > most then none else packRL xs (acc ++ b)
end
mutual
/-- How deep lists stand, at most one more than m. -/
def deepR : Raw → Nat → Nat
  | .mk false _ _, _ => 0
  | .mk true _ _, 0 => 1
  | .mk true _ xs, m + 1 => maxD xs m 0 + 1
def maxD : List Raw → Nat → Nat → Nat
  | [], _, n => n
  | x :: xs, m, n => maxD xs m (if deepR x m > n then deepR x m else n)
end
theorem maxD_le : ∀ (xs : List Raw) (m n k : Nat), maxD xs m n ≤ k ↔ n ≤ k ∧ ∀ x ∈ xs, deepR x m ≤ k
  | [], m, n, k => by simp [maxD]
  | x :: xs, m, n, k => by
    rw [maxD, maxD_le xs]
    constructor
    · rintro ⟨h1, h2⟩
      split at h1
      · refine ⟨by omega, fun y hy => ?_⟩
        rcases List.mem_cons.1 hy with rfl | hy
        · exact h1
        · exact h2 y hy
      · refine ⟨h1, fun y hy => ?_⟩
        rcases List.mem_cons.1 hy with rfl | hy
        · omega
        · exact h2 y hy
    · rintro ⟨h1, h2⟩
      refine ⟨?_, fun y hy => h2 y (by simp [hy])⟩
      split
      · exact h2 x (by simp)
      · exact h1
theorem EL_append : ∀ xs ys : List Raw, EL (xs ++ ys) = EL xs ++ EL ys
  | [], ys => rfl
  | x :: xs, ys => by rw [List.cons_append, EL, EL, EL_append xs ys, List.append_assoc]
theorem measL_append : ∀ (xs ys : List Raw) (d n : Nat), measL (xs ++ ys) d n = (measL xs d n).bind fun k => measL ys d k
  | [], ys, d, n => rfl
  | x :: xs, ys, d, n => by
    rw [List.cons_append, measL, measL]
    cases meas x d with
    | none => rfl
    | some k =>
      dsimp only
      split
      · rfl
      · exact measL_append xs ys d (n + k)
theorem packRL_append : ∀ (xs ys : List Raw) (acc : List UInt8), packRL (xs ++ ys) acc = (packRL xs acc).bind fun k => packRL ys k
  | [], ys, acc => rfl
  | x :: xs, ys, acc => by
    rw [List.cons_append, packRL, packRL]
    cases packR x with
    | none => rfl
    | some k =>
      dsimp only
      split
      · rfl
      · exact packRL_append xs ys (acc ++ k)
mutual
theorem meas_E : ∀ (r : Raw) (d n : Nat), meas r d = some n → n = (E r).length
  | .mk false bs _, d, n, h => by
    rw [meas] at h
    split at h
    · rw [E, EB_length]; exact (Option.some.inj h).symm
    · cases h
  | .mk true _ xs, d, n, h => by
    rw [meas] at h
    split at h
    · cases h
    · cases hm : measL xs (d + 1) 0 with
      | none => rw [hm] at h; cases h
      | some k =>
        rw [hm] at h
        have hk := measL_E xs (d + 1) 0 k hm
        have hn : szB k = n := Option.some.inj h
        rw [E, List.length_append, head_length, ← hn, hk, Nat.zero_add]
theorem measL_E : ∀ (xs : List Raw) (d n k : Nat), measL xs d n = some k → k = n + (EL xs).length
  | [], d, n, k, h => by rw [measL] at h; rw [EL]; simpa using (Option.some.inj h).symm
  | x :: xs, d, n, k, h => by
    rw [measL] at h
    cases hx : meas x d with
    | none => rw [hx] at h; cases h
    | some j =>
      rw [hx] at h
      dsimp only at h
      split at h
      · cases h
      · have h1 := measL_E xs d (n + j) k h
        have h2 := meas_E x d j hx
        rw [EL, List.length_append, h1, h2]
        omega
end
mutual
theorem packR_E : ∀ (r : Raw) (b : List UInt8), packR r = some b → b = E r
  | .mk false bs _, b, h => by
    rw [packR] at h
    split at h
    · cases h
    · rw [E]; exact (Option.some.inj h).symm
  | .mk true _ xs, b, h => by
    rw [packR] at h
    cases hm : packRL xs [] with
    | none => rw [hm] at h; cases h
    | some l =>
      rw [hm] at h
      have hl := packRL_E xs [] l hm
      rw [E, ← Option.some.inj h, hl]
      rfl
theorem packRL_E : ∀ (xs : List Raw) (acc l : List UInt8), packRL xs acc = some l → l = acc ++ EL xs
  | [], acc, l, h => by rw [packRL] at h; rw [EL, List.append_nil]; exact (Option.some.inj h).symm
  | x :: xs, acc, l, h => by
    rw [packRL] at h
    cases hx : packR x with
    | none => rw [hx] at h; cases h
    | some j =>
      rw [hx] at h
      dsimp only at h
      split at h
      · cases h
      · have h1 := packRL_E xs (acc ++ j) l h
        have h2 := packR_E x j hx
        rw [EL, h1, h2, List.append_assoc]
end
mutual
/-- The program measures just what the reference packs. -/
theorem meas_pack : ∀ (r : Raw) (d m : Nat), d + m = 32 → ((meas r d).isSome = true ↔ deepR r m ≤ m ∧ (packR r).isSome = true)
  | .mk false bs _, d, m, h => by
    rw [meas, packR, deepR]
    by_cases hb : bs.length ≤ most
    · rw [if_pos hb, if_neg (by omega)]; simp
    · rw [if_neg hb, if_pos (by omega)]; simp
  | .mk true _ xs, d, 0, h => by
    rw [meas, if_pos (by omega), deepR]; simp
  | .mk true _ xs, d, m + 1, h => by
    rw [meas, if_neg (by omega), deepR, packR]
    have h1 := measL_pack xs (d + 1) m (by omega) []
    rw [Option.isSome_map, Option.isSome_map, show maxD xs m 0 + 1 ≤ m + 1 ↔ maxD xs m 0 ≤ m by omega, maxD_le]
    simp only [List.length_nil] at h1
    rw [h1]
    simp
theorem measL_pack : ∀ (xs : List Raw) (d m : Nat), d + m = 32 → ∀ acc : List UInt8, ((measL xs d acc.length).isSome = true ↔ (∀ x ∈ xs, deepR x m ≤ m) ∧ (packRL xs acc).isSome = true)
  | [], d, m, h, acc => by rw [measL, packRL]; simp
  | x :: xs, d, m, h, acc => by
    rw [measL, packRL]
    have h1 := meas_pack x d m h
    cases hx : meas x d with
    | none =>
      rw [hx] at h1
      simp only [Option.isSome_none, Bool.false_eq_true, false_iff] at h1 ⊢
      rintro ⟨h2, h3⟩
      refine h1 ⟨h2 x (by simp), ?_⟩
      cases hp : packR x with
      | none => rw [hp] at h3; cases h3
      | some b => rfl
    | some k =>
      rw [hx] at h1
      obtain ⟨h2, h3⟩ := h1.1 rfl
      cases hp : packR x with
      | none => rw [hp] at h3; cases h3
      | some b =>
        have hk : k = b.length := by rw [meas_E x d k hx, packR_E x b hp]
        dsimp only
        rw [hk]
        split
        · simp
        · have h4 := measL_pack xs d m h (acc ++ b)
          rw [List.length_append] at h4
          rw [h4]
          constructor
          · rintro ⟨h5, h6⟩
            refine ⟨fun y hy => ?_, h6⟩
            rcases List.mem_cons.1 hy with rfl | hy
            · exact h2
            · exact h5 y hy
          · rintro ⟨h5, h6⟩
            exact ⟨fun y hy => h5 y (by simp [hy]), h6⟩
end
mutual
/-- How many items. -/
def cnt : Raw → Nat
  | .mk _ _ xs => 1 + cntL xs
def cntL : List Raw → Nat
  | [] => 0
  | x :: xs => cnt x + cntL xs
end
theorem cnt_get : ∀ (xs : List Raw) (k : Nat) (h : k < xs.length), cnt xs[k] ≤ cntL xs
  | [], k, h => by simp at h
  | x :: xs, 0, h => by rw [cntL]; simp
  | x :: xs, k + 1, h => by
    have := cnt_get xs k (by simpa using h)
    rw [cntL]
    simp only [List.getElem_cons_succ]
    omega
/-- The bytes of an item, or that it has none. -/
def packed (r : Raw) : Option (List UInt8) := match meas r 0 with
  | some n => if n > most then none else some (E r)
  | none => none
theorem packed_ref (r : Raw) : packed r = if deepR r 32 > 32 then none else match packR r with
    | some b => if b.length > most then none else some b
    | none => none := by
  have h := meas_pack r 0 32 rfl
  unfold packed
  cases hm : meas r 0 with
  | none =>
    rw [hm] at h
    simp only [Option.isSome_none, Bool.false_eq_true, false_iff] at h
    dsimp only
    by_cases hd : deepR r 32 > 32
    · rw [if_pos hd]
    · rw [if_neg hd]
      cases hp : packR r with
      | none => rfl
      | some b => exact absurd ⟨by omega, by rw [hp]; rfl⟩ h
  | some n =>
    rw [hm] at h
    obtain ⟨h1, h2⟩ := h.1 rfl
    rw [if_neg (by omega)]
    cases hp : packR r with
    | none => rw [hp] at h2; cases h2
    | some b =>
      have e1 := meas_E r 0 n hm
      have e2 := packR_E r b hp
      dsimp only
      rw [e1, ← e2]
end Rlp
end Go.Proofs.Ytfpigemikpbbhaa
