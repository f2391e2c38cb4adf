/-
  Half bytes: what is split is joined again, what is packed is read again.
  Conditions: none. No program is named here.
-/
import Derived.Test.YtfpigemikpbbhaaPack
import Derived.Test.YtfpigemikpbbhaaRead
namespace Go.Proofs.Ytfpigemikpbbhaa

theorem nib_hi (x : UInt8) : (x >>> 4).toNat = x.toNat / 16 := by rw [UInt8.toNat_shiftRight]; simp [Nat.shiftRight_eq_div_pow]
theorem nib_lo (x : UInt8) : (x &&& 15).toNat = x.toNat % 16 := by rw [UInt8.toNat_and]; exact Nat.and_two_pow_sub_one_eq_mod _ 4
theorem nib_back (x : UInt8) : (x >>> 4) <<< 4 ||| (x &&& 15) = x := by
  have h := orNib (x.toNat / 16) (x.toNat % 16) (by have := x.toNat_lt; omega) (by omega) (x >>> 4) (x &&& 15) (nib_hi x) (nib_lo x)
  apply UInt8.toNat_inj.1
  rw [h]
  omega
theorem nib_apart (x y : UInt8) (hx : x.toNat ≤ 15) (hy : y.toNat ≤ 15) : (x <<< 4 ||| y) >>> 4 = x ∧ (x <<< 4 ||| y) &&& 15 = y := by
  have h := orNib x.toNat y.toNat hx hy x y rfl rfl
  constructor
  · apply UInt8.toNat_inj.1
    rw [nib_hi, h]
    omega
  · apply UInt8.toNat_inj.1
    rw [nib_lo, h]
    omega
theorem split_small (l : List UInt8) : ∀ x ∈ split l, x.toNat ≤ 15 := by
  intro x hx
  obtain ⟨y, _, hy⟩ := List.mem_flatMap.1 hx
  simp only [List.mem_cons, List.not_mem_nil, or_false] at hy
  rcases hy with rfl | rfl
  · rw [nib_hi]; have := y.toNat_lt; omega
  · rw [nib_lo]; omega
theorem join_split (l : List UInt8) : joinL (split l) = some l := by
  induction l with
  | nil => rfl
  | cons x l ih =>
    have hs : split (x :: l) = (x >>> 4) :: (x &&& 15) :: split l := rfl
    rw [hs, joinL, if_pos ⟨by rw [nib_hi]; have := x.toNat_lt; omega, by rw [nib_lo]; omega⟩, ih, nib_back]
    rfl
theorem split_join : ∀ (p m : List UInt8), joinL p = some m → split m = p
  | [], m, h => by simp [joinL] at h; subst h; rfl
  | [_], m, h => by simp [joinL] at h
  | x :: y :: r, m, h => by
    rw [joinL] at h
    split at h
    · rename_i hc
      cases hj : joinL r with
      | none => rw [hj] at h; simp at h
      | some t =>
        rw [hj] at h
        simp only [Option.map_some, Option.some.injEq] at h
        subst h
        have hs : split ((x <<< 4 ||| y) :: t) = ((x <<< 4 ||| y) >>> 4) :: ((x <<< 4 ||| y) &&& 15) :: split t := rfl
        rw [hs, (nib_apart x y hc.1 hc.2).1, (nib_apart x y hc.1 hc.2).2, split_join r t hj]
    · simp at h
theorem join_some : ∀ (p : List UInt8), p.length % 2 = 0 → (∀ x ∈ p, x.toNat ≤ 15) → ∃ m, joinL p = some m
  | [], _, _ => ⟨[], rfl⟩
  | [_], h, _ => by simp at h
  | x :: y :: r, h, hs => by
    obtain ⟨m, hm⟩ := join_some r (by simp at h; omega) fun z hz => hs z (by simp [hz])
    exact ⟨_, by rw [joinL, if_pos ⟨hs x (by simp), hs y (by simp)⟩, hm]; rfl⟩
theorem hdr_small (p : List UInt8) (leaf : Bool) : ∀ x ∈ hdr p leaf, x.toNat ≤ 15 := by
  unfold hdr
  split <;> cases leaf <;> decide
theorem hdr_even (p : List UInt8) (leaf : Bool) : (hdr p leaf ++ p).length % 2 = 0 := by
  unfold hdr
  split <;> simp <;> omega
/-- What is packed, and that it is read as it was. -/
theorem pack_back (p : List UInt8) (leaf : Bool) (hp : ∀ x ∈ p, x.toNat ≤ 15) : ∃ m, joinL (hdr p leaf ++ p) = some m ∧ readP m = some (p, leaf) ∧ m.length = p.length / 2 + 1 := by
  obtain ⟨m, hm⟩ := join_some (hdr p leaf ++ p) (hdr_even p leaf) fun x hx => by
    rcases List.mem_append.1 hx with h | h
    · exact hdr_small p leaf x h
    · exact hp x h
  have hs := split_join _ _ hm
  refine ⟨m, hm, ?_, ?_⟩
  · unfold readP
    rw [hs]
    unfold hdr
    by_cases hodd : p.length % 2 = 1
    · rw [if_pos hodd]
      cases leaf <;> rfl
    · rw [if_neg hodd]
      cases leaf <;> rfl
  · have h1 := split_length m
    rw [hs] at h1
    unfold hdr at h1
    split at h1 <;> simp at h1 <;> omega
end Go.Proofs.Ytfpigemikpbbhaa
