/-
  Keccak in plain words: bytes are taken in; the program's way and the reference's are one.
  Conditions: none. No program is named here.
-/
import Derived.Test.YtfpigemikpbbhaaKecPlain
import Derived.Test.YtfpigemikpbbhaaKecTake
namespace Go.Proofs.Ytfpigemikpbbhaa
open Kec (L St rotl Same)

/-- A byte is taken in; P is the permutation. -/
def absorbG (P : St → St) (p : St × Nat) (b : UInt8) : St × Nat := if p.2 + 1 = 136 then (P (takeB p.1 p.2 b.toNat), 0) else (takeB p.1 p.2 b.toNat, p.2 + 1)
def absorb (p : St × Nat) (b : UInt8) : St × Nat := absorbG (fun s => Kec.perm s 24) p b
def absorbs (l : List UInt8) : St × Nat := l.foldl absorb (fun _ => 0, 0)
def sponge (l : List UInt8) : St := Kec.perm (takeB (takeB (absorbs l).1 (absorbs l).2 1) 135 128) 24
theorem absorbs_snoc (l : List UInt8) (b : UInt8) : absorbs (l ++ [b]) = absorb (absorbs l) b := by simp [absorbs]
theorem absorbG_lt (P : St → St) (p : St × Nat) (b : UInt8) (h : p.2 < 136) : (absorbG P p b).2 < 136 := by
  unfold absorbG
  split
  · simp
  · dsimp only; omega
theorem absorb_lt (p : St × Nat) (b : UInt8) (h : p.2 < 136) : (absorb p b).2 < 136 := absorbG_lt _ p b h
theorem absorbs_lt' (l : List UInt8) : ∀ p : St × Nat, p.2 < 136 → (l.foldl absorb p).2 < 136 := by
  induction l with
  | nil => exact fun _ h => h
  | cons b l ih => exact fun p h => ih _ (absorb_lt p b h)
theorem absorbs_lt (l : List UInt8) : (absorbs l).2 < 136 := absorbs_lt' l _ (by simp)
theorem take_flat (ms : List (List UInt8)) (k : Nat) (h : k < ms.length) : (ms.take (k + 1)).flatten = (ms.take k).flatten ++ ms[k] := by
  rw [List.take_succ_eq_append_getElem h, List.flatten_append]
  simp only [List.flatten_cons, List.flatten_nil, List.append_nil]
theorem take_snoc (pre m : List UInt8) (j : Nat) (h : j < m.length) : absorbs (pre ++ m.take (j + 1)) = absorb (absorbs (pre ++ m.take j)) m[j] := by
  rw [List.take_succ_eq_append_getElem h, ← List.append_assoc, absorbs_snoc]

/-! ### The place -/
theorem absorb_at (p : St × Nat) (b : UInt8) (h : p.2 < 136) : (absorb p b).2 = (p.2 + 1) % 136 := by
  unfold absorb absorbG
  split
  · dsimp only; omega
  · dsimp only; omega
theorem fold_at (l : List UInt8) : ∀ p : St × Nat, p.2 < 136 → (l.foldl absorb p).2 = (p.2 + l.length) % 136 := by
  induction l with
  | nil => intro p h; simp; omega
  | cons b l ih =>
    intro p h
    rw [List.foldl_cons, ih _ (absorb_lt p b h), absorb_at p b h, List.length_cons]
    omega
theorem absorbs_at (l : List UInt8) : (absorbs l).2 = l.length % 136 := by
  have := fold_at l (fun _ => 0, 0) (by simp)
  simpa [absorbs] using this

/-! ### The padding -/
theorem takeB_zero (f : St) (k : Nat) : takeB f k 0 = f := by
  funext j
  unfold takeB Kec.upd
  split
  · subst_vars; simp
  · rfl
def pad (r : Nat) : List UInt8 := if r = 135 then [129] else 1 :: (List.replicate (134 - r) 0 ++ [128])
theorem fold_zeros : ∀ (n : Nat) (s : St) (k : Nat), k + n ≤ 135 → (List.replicate n (0 : UInt8)).foldl absorb (s, k) = (s, k + n)
  | 0, _, _, _ => rfl
  | n + 1, s, k, h => by
    rw [List.replicate_succ, List.foldl_cons]
    have : absorb (s, k) 0 = (s, k + 1) := by
      unfold absorb absorbG
      rw [if_neg (by dsimp only; omega)]
      dsimp only
      rw [show UInt8.toNat 0 = 0 from rfl, takeB_zero]
    rw [this, fold_zeros n s (k + 1) (by omega)]
    congr 1
    omega
theorem takeB_last (s : St) : takeB (takeB s 135 1) 135 128 = takeB s 135 129 := by
  funext j
  unfold takeB Kec.upd
  split
  · subst_vars
    simp only [if_true]
    rw [BitVec.xor_assoc]
    rfl
  · rfl
theorem fold_pad (s : St) (r : Nat) (h : r < 136) : (pad r).foldl absorb (s, r) = (Kec.perm (takeB (takeB s r 1) 135 128) 24, 0) := by
  unfold pad
  by_cases hr : r = 135
  · subst hr
    rw [if_pos rfl, List.foldl_cons, List.foldl_nil]
    unfold absorb absorbG
    rw [if_pos rfl, takeB_last]
    rfl
  · rw [if_neg hr, List.foldl_cons, List.foldl_append]
    have h1 : absorb (s, r) 1 = (takeB s r 1, r + 1) := by
      unfold absorb absorbG
      rw [if_neg (by dsimp only; omega)]
      rfl
    rw [h1, fold_zeros _ _ _ (by omega), show r + 1 + (134 - r) = 135 by omega, List.foldl_cons, List.foldl_nil]
    unfold absorb absorbG
    rw [if_pos rfl]
    rfl
theorem sponge_pad (l : List UInt8) : absorbs (l ++ pad (l.length % 136)) = (sponge l, 0) := by
  unfold absorbs
  rw [List.foldl_append]
  have h : List.foldl absorb (fun _ => 0, 0) l = ((absorbs l).1, l.length % 136) := by rw [← absorbs_at]; rfl
  rw [h, fold_pad _ _ (by omega)]
  unfold sponge
  rw [absorbs_at]

/-! ### The reference's way -/
def rtake (g : Nat → Nat) (s : St) : Nat → St
  | 0 => s
  | i + 1 => takeB (rtake g s i) i (g i)
def rabs (m : List UInt8) : Nat → St
  | 0 => fun _ => 0
  | j + 1 => Kec.rperm (rtake (fun i => (m.getD (136 * j + i) 0).toNat) (rabs m j) 136) 24
def rabsorb (p : St × Nat) (b : UInt8) : St × Nat := absorbG (fun s => Kec.rperm s 24) p b
theorem take_getD (m : List UInt8) (k : Nat) (h : k < m.length) : m.take (k + 1) = m.take k ++ [m.getD k 0] := by
  rw [List.take_succ_eq_append_getElem h]
  simp [h]
theorem rabs_in (m : List UInt8) (j : Nat) (hj : 136 * j + 136 ≤ m.length) (h0 : (m.take (136 * j)).foldl rabsorb (fun _ => 0, 0) = (rabs m j, 0)) :
    ∀ i, i ≤ 135 → (m.take (136 * j + i)).foldl rabsorb (fun _ => 0, 0) = (rtake (fun i => (m.getD (136 * j + i) 0).toNat) (rabs m j) i, i)
  | 0, _ => h0
  | i + 1, hi => by
    rw [← Nat.add_assoc, take_getD m _ (by omega), List.foldl_append, rabs_in m j hj h0 i (by omega), List.foldl_cons, List.foldl_nil]
    unfold rabsorb absorbG
    rw [if_neg (by dsimp only; omega)]
    rfl
theorem rabs_all (m : List UInt8) : ∀ j, 136 * j ≤ m.length → (m.take (136 * j)).foldl rabsorb (fun _ => 0, 0) = (rabs m j, 0)
  | 0, _ => rfl
  | j + 1, h => by
    have h0 := rabs_in m j (by omega) (rabs_all m j (by omega)) 135 (by omega)
    rw [show 136 * (j + 1) = 136 * j + 135 + 1 by omega, take_getD m _ (by omega), List.foldl_append, h0, List.foldl_cons, List.foldl_nil]
    unfold rabsorb absorbG
    rw [if_pos rfl]
    rfl

theorem takeB_same {a b : St} (h : Same a b) (k v : Nat) (hk : k < 136) : Same (takeB a k v) (takeB b k v) := h.upd _ (by rw [h _ (by omega)])
theorem fold_same (l : List UInt8) : ∀ p q : St × Nat, p.2 < 136 → p.2 = q.2 → Same p.1 q.1 → Same (l.foldl absorb p).1 (l.foldl rabsorb q).1 := by
  induction l with
  | nil => exact fun _ _ _ _ h => h
  | cons b l ih =>
    intro p q hp hpq h
    rw [List.foldl_cons, List.foldl_cons]
    obtain ⟨s, k⟩ := p
    obtain ⟨t, k'⟩ := q
    dsimp only at hp hpq h
    subst hpq
    unfold absorb rabsorb absorbG
    dsimp only
    by_cases hk : k + 1 = 136
    · rw [if_pos hk, if_pos hk]
      have hs := Kec.perm_same (takeB_same h k b.toNat hp) 24 (by omega)
      generalize Kec.perm (takeB s k b.toNat) 24 = x at hs ⊢
      generalize Kec.rperm (takeB t k b.toNat) 24 = y at hs ⊢
      exact ih (x, 0) (y, 0) (Nat.zero_lt_succ _) rfl hs
    · rw [if_neg hk, if_neg hk]
      exact ih _ _ (by dsimp only; omega) rfl (takeB_same h k _ hp)
/-- The two ways are one. -/
theorem sponge_same (l m : List UInt8) (j : Nat) (hm : m = l ++ pad (l.length % 136)) (hj : 136 * j = m.length) : Same (sponge l) (rabs m j) := by
  have h1 := rabs_all m j (by omega)
  rw [hj, List.take_length] at h1
  have h2 := fold_same m (fun _ => 0, 0) (fun _ => 0, 0) (by simp) rfl (Same.refl _)
  rw [h1] at h2
  have h3 := sponge_pad l
  rw [← hm] at h3
  unfold absorbs at h3
  rw [h3] at h2
  exact h2
theorem pad_length (r : Nat) (h : r < 136) : (pad r).length = 136 - r := by
  unfold pad
  split
  · subst_vars; rfl
  · simp; omega
/-- What the reference makes: zeros behind, then the last bit. -/
def zeros (l : List UInt8) (n : Nat) : List UInt8 := l ++ 1 :: List.replicate n 0
theorem zeros_length (l : List UInt8) (n : Nat) : (zeros l n).length = l.length + 1 + n := by simp [zeros]; omega
theorem zeros_snoc (l : List UInt8) (n : Nat) : zeros l n ++ [0] = zeros l (n + 1) := by
  unfold zeros
  rw [List.append_assoc, List.cons_append, ← List.replicate_succ']
theorem zeros_set (l : List UInt8) (n : Nat) (hn : n = 135 - l.length % 136) : (zeros l n).set ((zeros l n).length - 1) ((zeros l n).getD ((zeros l n).length - 1) 0 ||| 128) = l ++ pad (l.length % 136) := by
  rw [zeros_length]
  unfold zeros pad
  by_cases hr : l.length % 136 = 135
  · have h0 : n = 0 := by omega
    subst h0
    rw [if_pos hr]
    have : (1 ||| 128 : UInt8) = 129 := by decide
    simp [this]
  · have h1 : n = 134 - l.length % 136 + 1 := by omega
    rw [if_neg hr]
    generalize 134 - l.length % 136 = k at *
    subst h1
    rw [List.replicate_succ', show l ++ 1 :: (List.replicate k 0 ++ [0]) = (l ++ 1 :: List.replicate k (0 : UInt8)) ++ [0] by simp, show l.length + 1 + (k + 1) - 1 = (l ++ 1 :: List.replicate k (0 : UInt8)).length by simp; omega]
    simp

/-! ### The sum's bytes -/
def outB (f : St) (k : Nat) : UInt8 := UInt8.ofNat (f (k / 8) >>> (8 * (k % 8))).toNat
def outL (f : St) : List UInt8 := (List.range 32).map (outB f)
theorem outL_same {a b : St} (h : Same a b) : outL a = outL b := by
  unfold outL
  refine List.map_congr_left fun k hk => ?_
  have := List.mem_range.1 hk
  unfold outB
  rw [h _ (by omega)]
/-- The hash of bytes. -/
def hash (l : List UInt8) : List UInt8 := outL (sponge l)
theorem hash_length (l : List UInt8) : (hash l).length = 32 := by simp [hash, outL]
end Go.Proofs.Ytfpigemikpbbhaa
