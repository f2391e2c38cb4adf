/-
  Items in plain words: what bytes are read as.
  Conditions: none. No program is named here.
-/
import Derived.Test.YtfpigemikpbbhaaRlp
namespace Go.Proofs.Ytfpigemikpbbhaa
namespace Rlp
set_option maxRecDepth 100000

/-- The length that a head's bytes say: how many bytes the head has, and how many are behind it. -/
def hdr (b : List UInt8) (base : Nat) : Option (Nat × Nat) :=
  if (b.getD 0 0).toNat - base ≤ 55 then
    if (b.getD 0 0).toNat - base ≤ b.length - 1 then some (1, (b.getD 0 0).toNat - base) else none
  else if b.length < 1 + ((b.getD 0 0).toNat - base - 55) ∨ b.getD 1 0 = 0 then none
  else if val ((b.drop 1).take ((b.getD 0 0).toNat - base - 55)) > most then none
  else if 55 < val ((b.drop 1).take ((b.getD 0 0).toNat - base - 55)) ∧ val ((b.drop 1).take ((b.getD 0 0).toNat - base - 55)) ≤ b.length - 1 - ((b.getD 0 0).toNat - base - 55) then
    some (1 + ((b.getD 0 0).toNat - base - 55), val ((b.drop 1).take ((b.getD 0 0).toNat - base - 55)))
  else none
def parseL (p : List UInt8 → Except Nat (Raw × Nat)) : Nat → List UInt8 → Except Nat (List Raw)
  | _, [] => .ok []
  | 0, _ :: _ => .error 4
  | f + 1, c :: b => match p (c :: b) with
    | .error e => .error e
    | .ok (x, k) => match parseL p f ((c :: b).drop k) with
      | .error e => .error e
      | .ok xs => .ok (x :: xs)
/-- The item that bytes begin with, and how many bytes it has; p reads what stands within a list. -/
def stepP (p : Option (List UInt8 → Except Nat (Raw × Nat))) : List UInt8 → Except Nat (Raw × Nat)
  | [] => .error 4
  | c :: t =>
    if c < 128 then .ok (.mk false [c] [], 1)
    else if c < 192 then match hdr (c :: t) 128 with
      | none => .error 4
      | some (h, n) => if n = 1 ∧ (c :: t).getD h 0 < 128 then .error 4 else .ok (.mk false (((c :: t).drop h).take n) [], h + n)
    else match p with
      | none => .error 3
      | some p => match hdr (c :: t) 192 with
        | none => .error 4
        | some (h, n) => match parseL p n (((c :: t).drop h).take n) with
          | .error e => .error e
          | .ok xs => .ok (.mk true [] xs, h + n)
theorem stepP_cons (p : Option (List UInt8 → Except Nat (Raw × Nat))) (c : UInt8) (t : List UInt8) : stepP p (c :: t) =
    if c < 128 then .ok (.mk false [c] [], 1)
    else if c < 192 then match hdr (c :: t) 128 with
      | none => .error 4
      | some (h, n) => if n = 1 ∧ (c :: t).getD h 0 < 128 then .error 4 else .ok (.mk false (((c :: t).drop h).take n) [], h + n)
    else match p with
      | none => .error 3
      | some p => match hdr (c :: t) 192 with
        | none => .error 4
        | some (h, n) => match parseL p n (((c :: t).drop h).take n) with
          | .error e => .error e
          | .ok xs => .ok (.mk true [] xs, h + n) := rfl
/-- The same; d lists may stand within. -/
def parse : Nat → List UInt8 → Except Nat (Raw × Nat)
  | 0 => stepP none
  | d + 1 => stepP (some (parse d))
def readR (b : List UInt8) : Except Nat Raw := if b.length > most then .error 3 else match parse 32 b with
  | .error e => .error e
  | .ok (x, n) => if n = b.length then .ok x else .error 4

/-! ### What is read is an item's bytes -/
theorem hdr_spec {b : List UInt8} {base h n : Nat} (hb : hdr b base = some (h, n)) (h0 : b ≠ []) (h1 : base ≤ (b.getD 0 0).toNat) (_ : base ≤ 192) (h2 : (b.getD 0 0).toNat < base + 64) :
    b.take h = head n base ∧ h + n ≤ b.length ∧ 0 < h ∧ n ≤ b.length := by
  obtain ⟨c, t, rfl⟩ := List.exists_cons_of_ne_nil h0
  unfold hdr at hb
  simp only [List.getD_cons_zero, List.length_cons, List.getD_cons_succ, List.drop_succ_cons, List.drop_zero, Nat.add_sub_cancel] at hb h1 h2
  have hcl := c.toNat_lt
  split at hb
  · rename_i hk
    split at hb
    · rename_i hk2
      simp only [Option.some.injEq, Prod.mk.injEq] at hb
      obtain ⟨rfl, rfl⟩ := hb
      refine ⟨?_, by simp; omega, by omega, by simp; omega⟩
      unfold head
      rw [if_pos (by omega), show base + (c.toNat - base) = c.toNat by omega, UInt8.ofNat_toNat]
      rfl
    · cases hb
  · rename_i hk
    split at hb
    · cases hb
    · rename_i hk2
      split at hb
      · cases hb
      · split at hb
        · rename_i hk3 hk4
          simp only [Option.some.injEq, Prod.mk.injEq] at hb
          obtain ⟨rfl, rfl⟩ := hb
          obtain ⟨hm, hz⟩ : ¬ t.length + 1 < 1 + (c.toNat - base - 55) ∧ ¬ t.getD 0 0 = 0 := ⟨fun h => hk2 (.inl h), fun h => hk2 (.inr h)⟩
          refine ⟨?_, by simp; omega, by omega, by simp; omega⟩
          have hml : (t.take (c.toNat - base - 55)).length = c.toNat - base - 55 := by rw [List.length_take]; omega
          have hbe := be_val (t.take (c.toNat - base - 55)) (fun e => hz (by
            rcases t with _ | ⟨x, t⟩
            · simp at hml; omega
            · rw [show c.toNat - base - 55 = (c.toNat - base - 56) + 1 by omega, List.take_succ_cons] at e
              simpa using e))
          unfold head
          rw [if_neg (by omega), hbe, hml, Nat.add_comm 1, List.take_succ_cons]
          congr 1
          rw [show base + 55 + (c.toNat - base - 55) = c.toNat by omega, UInt8.ofNat_toNat]
        · cases hb
theorem parseL_E {p : List UInt8 → Except Nat (Raw × Nat)} (hp : ∀ b x k, p b = .ok (x, k) → b.take k = E x ∧ k ≤ b.length) : ∀ (f : Nat) (b : List UInt8) (xs : List Raw), parseL p f b = .ok xs → EL xs = b
  | _, [], xs, h => by unfold parseL at h; cases h; rfl
  | 0, _ :: _, xs, h => by unfold parseL at h; cases h
  | f + 1, c :: b, xs, h => by
    unfold parseL at h
    split at h
    · cases h
    · rename_i x k hx
      split at h
      · cases h
      · rename_i ys hy
        cases h
        have h1 := hp _ _ _ hx
        have h2 := parseL_E hp f _ ys hy
        rw [EL, h2, ← h1.1, List.take_append_drop]
theorem stepP_E (p : Option (List UInt8 → Except Nat (Raw × Nat))) (hp : ∀ q, p = some q → ∀ b x k, q b = .ok (x, k) → b.take k = E x ∧ k ≤ b.length ∧ 0 < k) (b : List UInt8) (x : Raw) (n : Nat) (h : stepP p b = .ok (x, n)) : b.take n = E x ∧ n ≤ b.length ∧ 0 < n := by
  cases b with
  | nil => cases h
  | cons c t =>
    rw [stepP_cons] at h
    split at h
    · rename_i hc
      cases h
      refine ⟨?_, by simp, by omega⟩
      rw [E, EB, if_pos ⟨rfl, hc⟩]
      rfl
    · rename_i hc
      have hcn : 128 ≤ c.toNat := by
        exact Nat.not_lt.1 fun e => hc (UInt8.lt_iff_toNat_lt.2 e)
      split at h
      · rename_i hc2
        have hcm : c.toNat < 192 := UInt8.lt_iff_toNat_lt.1 hc2
        split at h
        · cases h
        · rename_i k m hh
          split at h
          · cases h
          · rename_i hne
            cases h
            obtain ⟨h1, h2, h3, _⟩ := hdr_spec hh (by simp) (by simpa using hcn) (by omega) (by simp; omega)
            refine ⟨?_, h2, by omega⟩
            have hl : (((c :: t).drop k).take m).length = m := by rw [List.length_take, List.length_drop]; omega
            rw [E, EB, hl, if_neg ?_, ← h1, List.take_add]
            rintro ⟨h4, h5⟩
            refine hne ⟨h4, ?_⟩
            have h6 : (((c :: t).drop k).take m).getD 0 0 = (c :: t).getD k 0 := by
              simp only [List.getD_eq_getElem?_getD, List.getElem?_take, List.getElem?_drop]
              rw [if_pos (by omega), Nat.add_zero]
            rw [h6] at h5
            exact h5
      · rename_i hc2
        have hcm : 192 ≤ c.toNat := by
          exact Nat.not_lt.1 fun e => hc2 (UInt8.lt_iff_toNat_lt.2 e)
        have hcl := c.toNat_lt
        cases p with
        | none => cases h
        | some p =>
          dsimp only at h
          split at h
          · cases h
          · rename_i k m hh
            split at h
            · cases h
            · rename_i ys hy
              cases h
              obtain ⟨h1, h2, h3, _⟩ := hdr_spec hh (by simp) (by simpa using hcm) (by omega) (by simp; omega)
              refine ⟨?_, h2, by omega⟩
              have hE := parseL_E (fun b x k hb => ⟨(hp p rfl b x k hb).1, (hp p rfl b x k hb).2.1⟩) _ _ _ hy
              have hl : (((c :: t).drop k).take m).length = m := by rw [List.length_take, List.length_drop]; omega
              rw [E, hE, hl, ← h1, List.take_add]
theorem parse_E : ∀ (d : Nat) (b : List UInt8) (x : Raw) (n : Nat), parse d b = .ok (x, n) → b.take n = E x ∧ n ≤ b.length ∧ 0 < n
  | 0, b, x, n, h => stepP_E none (fun q e => by cases e) b x n h
  | d + 1, b, x, n, h => stepP_E (some (parse d)) (fun q e => by cases e; exact parse_E d) b x n h
theorem readR_E {b : List UInt8} {x : Raw} (h : readR b = .ok x) : b = E x := by
  unfold readR at h
  split at h
  · cases h
  · split at h
    · cases h
    · rename_i y n hy
      split at h
      · rename_i hn
        cases h
        have h1 := (parse_E 32 b x n hy).1
        rw [hn, List.take_length] at h1
        exact h1
      · cases h

/-! ### An item's bytes are read as it -/
mutual
def norm : Raw → Raw
  | .mk false bs _ => .mk false bs []
  | .mk true _ xs => .mk true [] (normL xs)
def normL : List Raw → List Raw
  | [] => []
  | x :: xs => norm x :: normL xs
end
theorem hdr_head (n base : Nat) (t : List UInt8) (hb : base = 128 ∨ base = 192) (h1 : n ≤ t.length) (h2 : n ≤ most) : hdr (head n base ++ t) base = some ((head n base).length, n) := by
  unfold head
  by_cases hn : n < 56
  · rw [if_pos hn]
    have hc : (UInt8.ofNat (base + n)).toNat = base + n := by rw [UInt8.toNat_ofNat']; omega
    unfold hdr
    simp only [List.singleton_append, List.getD_cons_zero, hc, List.length_cons, Nat.add_sub_cancel_left]
    rw [if_pos (by omega), if_pos (by omega)]
    rfl
  · rw [if_neg hn]
    have hl := be_length 4 n (by simp only [most] at h2; omega)
    obtain ⟨x, l, hx, hx0⟩ := be_head n (by omega)
    have hl1 : 0 < (be n).length := by rw [hx]; simp
    have hc : (UInt8.ofNat (base + 55 + (be n).length)).toNat = base + 55 + (be n).length := by rw [UInt8.toNat_ofNat']; omega
    unfold hdr
    have hg1 : (be n ++ t).getD 0 0 = x := by rw [hx]; rfl
    simp only [List.cons_append, List.getD_cons_zero, hc, List.length_cons, List.length_append, List.getD_cons_succ, List.drop_succ_cons, List.drop_zero, hg1]
    have hk : base + 55 + (be n).length - base - 55 = (be n).length := by omega
    rw [hk, List.take_left' rfl, val_be, if_neg (by omega), if_neg (by rintro (h | h); omega; exact hx0 h), if_neg (by omega), if_pos (by omega)]
    congr 2
    omega
theorem head_first (n base : Nat) (h : base = 128 ∨ base = 192) (h2 : n ≤ most) : ∃ c l, head n base = c :: l ∧ base ≤ c.toNat ∧ c.toNat < base + 64 := by
  unfold head
  by_cases hn : n < 56
  · rw [if_pos hn]
    have hc : (UInt8.ofNat (base + n)).toNat = base + n := by rw [UInt8.toNat_ofNat']; omega
    exact ⟨_, _, rfl, by omega, by omega⟩
  · rw [if_neg hn]
    have hl := be_length 4 n (by simp only [most] at h2; omega)
    have hc : (UInt8.ofNat (base + 55 + (be n).length)).toNat = base + 55 + (be n).length := by rw [UInt8.toNat_ofNat']; omega
    exact ⟨_, _, rfl, by omega, by omega⟩
theorem head_pos (n base : Nat) : 0 < (head n base).length := by
  unfold head
  split <;> simp
theorem E_pos : ∀ r : Raw, 0 < (E r).length
  | .mk false bs _ => by
    rw [E, EB]
    split
    · rename_i h; omega
    · rw [List.length_append]; have := head_pos bs.length 128; omega
  | .mk true _ xs => by rw [E, List.length_append]; have := head_pos (EL xs).length 192; omega
theorem meas_most (bs xs) (d n : Nat) (h : meas (.mk false bs xs) d = some n) : bs.length ≤ most := by
  rw [meas] at h
  split at h
  · assumption
  · cases h
theorem measL_of (xs : List Raw) (o : List UInt8) (d n : Nat) (h : meas (.mk true o xs) d = some n) : d ≠ 32 ∧ ∃ k, measL xs (d + 1) 0 = some k := by
  rw [meas] at h
  split at h
  · cases h
  · refine ⟨by assumption, ?_⟩
    cases hm : measL xs (d + 1) 0 with
    | none => rw [hm] at h; cases h
    | some k => exact ⟨k, rfl⟩
theorem parse_step (m : Nat) : ∃ p, parse m = stepP p ∧ (∀ k, m = k + 1 → p = some (parse k)) := by
  cases m with
  | zero => exact ⟨none, rfl, fun k e => by cases e⟩
  | succ m => exact ⟨some (parse m), rfl, fun k e => by cases e; rfl⟩
mutual
theorem parse_of : ∀ (r : Raw) (d m n : Nat) (t : List UInt8), d + m = 32 → meas r d = some n → (E r).length ≤ most → parse m (E r ++ t) = .ok (norm r, (E r).length)
  | .mk false bs xs, d, m, n, t, h, hm, hl => by
    have hb := meas_most bs xs d n hm
    rw [E, norm]
    unfold EB
    by_cases hs : bs.length = 1 ∧ bs.getD 0 0 < 128
    · rw [if_pos hs]
      obtain ⟨c, rfl⟩ := List.length_eq_one_iff.1 hs.1
      obtain ⟨p, hp, _⟩ := parse_step m
      rw [List.singleton_append, hp]
      rw [stepP_cons]
      rw [if_pos (by simpa using hs.2)]
      rfl
    · rw [if_neg hs]
      obtain ⟨c, l, hc, hc1, hc2⟩ := head_first bs.length 128 (.inl rfl) hb
      have hh := hdr_head bs.length 128 (bs ++ t) (.inl rfl) (by simp) hb
      have hgd : (head bs.length 128 ++ (bs ++ t)).getD (head bs.length 128).length 0 = (bs ++ t).getD 0 0 := by
        simp only [List.getD_eq_getElem?_getD]
        rw [List.getElem?_append_right (Nat.le_refl _), Nat.sub_self]
      have hdr1 : (head bs.length 128 ++ (bs ++ t)).drop (head bs.length 128).length = bs ++ t := List.drop_left' rfl
      rw [List.append_assoc, List.length_append]
      rw [hc] at hh hgd hdr1 ⊢
      rw [List.cons_append] at hh hgd hdr1 ⊢
      obtain ⟨p, hp, _⟩ := parse_step m
      rw [hp]
      rw [stepP_cons]
      have g1 : ¬ c < 128 := fun e => by have := UInt8.lt_iff_toNat_lt.1 e; have h128 : (128 : UInt8).toNat = 128 := rfl; omega
      have g2 : c < 192 := UInt8.lt_iff_toNat_lt.2 (by have h192 : (192 : UInt8).toNat = 192 := rfl; omega)
      rw [if_neg g1, if_pos g2, hh]
      dsimp only
      rw [if_neg ?_, hdr1, List.take_left' rfl]
      rintro ⟨h4, h5⟩
      rw [hgd] at h5
      refine hs ⟨h4, ?_⟩
      obtain ⟨x, rfl⟩ := List.length_eq_one_iff.1 h4
      simpa using h5
  | .mk true o xs, d, m, n, t, h, hm, hl => by
    obtain ⟨hd, k, hk⟩ := measL_of xs o d n hm
    have hkl := measL_E xs (d + 1) 0 k hk
    rw [Nat.zero_add] at hkl
    rw [E] at hl ⊢
    rw [norm]
    rw [List.length_append] at hl
    obtain ⟨m, rfl⟩ : ∃ m', m = m' + 1 := ⟨m - 1, by omega⟩
    obtain ⟨c, l, hc, hc1, hc2⟩ := head_first (EL xs).length 192 (.inr rfl) (by omega)
    have hh := hdr_head (EL xs).length 192 (EL xs ++ t) (.inr rfl) (by simp) (by omega)
    have hdr1 : (head (EL xs).length 192 ++ (EL xs ++ t)).drop (head (EL xs).length 192).length = EL xs ++ t := List.drop_left' rfl
    have hps := parseL_of xs (d + 1) m 0 k (by omega) hk (by omega) (EL xs).length (Nat.le_refl _)
    rw [List.append_assoc, List.length_append]
    rw [hc] at hh hdr1 ⊢
    rw [List.cons_append] at hh hdr1 ⊢
    rw [show parse (m + 1) = stepP (some (parse m)) from rfl]
    rw [stepP_cons]
    have g1 : ¬ c < 128 := fun e => by have := UInt8.lt_iff_toNat_lt.1 e; have h128 : (128 : UInt8).toNat = 128 := rfl; omega
    have g2 : ¬ c < 192 := fun e => by have := UInt8.lt_iff_toNat_lt.1 e; have h192 : (192 : UInt8).toNat = 192 := rfl; omega
    rw [if_neg g1, if_neg g2]
    dsimp only
    rw [hh]
    dsimp only
    rw [hdr1, List.take_left' rfl, hps]
theorem parseL_of : ∀ (xs : List Raw) (d m n k : Nat), d + m = 32 → measL xs d n = some k → (EL xs).length ≤ most → ∀ f, (EL xs).length ≤ f → parseL (parse m) f (EL xs) = .ok (normL xs)
  | [], d, m, n, k, h, hm, hl, f, hf => by rw [EL, normL]; unfold parseL; rfl
  | x :: xs, d, m, n, k, h, hm, hl, f, hf => by
    rw [EL, List.length_append] at hl hf
    have hp := E_pos x
    rw [measL] at hm
    cases hx : meas x d with
    | none => rw [hx] at hm; cases hm
    | some j =>
      rw [hx] at hm
      dsimp only at hm
      split at hm
      · cases hm
      · have h1 := parse_of x d m j (EL xs) h hx (by omega)
        obtain ⟨f, rfl⟩ : ∃ f', f = f' + 1 := ⟨f - 1, by omega⟩
        have h2 := parseL_of xs d m (n + j) k h hm (by omega) f (by omega)
        rw [EL, normL]
        obtain ⟨c, l, hc⟩ : ∃ c l, E x ++ EL xs = c :: l := by
          cases he : E x with
          | nil => rw [he] at hp; simp at hp
          | cons c l => exact ⟨c, l ++ EL xs, rfl⟩
        have hdr1 : (E x ++ EL xs).drop (E x).length = EL xs := List.drop_left' rfl
        rw [hc] at h1 hdr1 ⊢
        unfold parseL
        rw [h1]
        dsimp only
        rw [hdr1, h2]
end
theorem readR_of {r : Raw} {b : List UInt8} (h : packed r = some b) : readR b = .ok (norm r) := by
  unfold packed at h
  cases hm : meas r 0 with
  | none => rw [hm] at h; cases h
  | some n =>
    rw [hm] at h
    dsimp only at h
    split at h
    · cases h
    · rename_i hn
      cases h
      have hl := meas_E r 0 n hm
      have := parse_of r 0 32 n [] rfl hm (by omega)
      rw [List.append_nil] at this
      unfold readR
      rw [if_neg (by omega), this]
      dsimp only
      rw [if_pos rfl]

/-! ### Items that are one -/
mutual
def sameR : Raw → Raw → Bool
  | .mk la ba xa, .mk lb bb xb => if la ≠ lb then false else if la = false then decide (ba = bb) else if xa.length ≠ xb.length then false else sameL xa xb
def sameL : List Raw → List Raw → Bool
  | [], _ => true
  | x :: xs, y :: ys => sameR x y && sameL xs ys
  | _ :: _, [] => true
end
mutual
theorem same_norm : ∀ r : Raw, sameR (norm r) r = true
  | .mk false bs _ => by rw [norm, sameR]; simp
  | .mk true _ xs => by
    rw [norm, sameR]
    have h := same_normL xs
    simp [h.1, h.2]
theorem same_normL : ∀ xs : List Raw, (normL xs).length = xs.length ∧ sameL (normL xs) xs = true
  | [] => by rw [normL, sameL]; simp
  | x :: xs => by
    have h := same_normL xs
    rw [normL, sameL, same_norm x, h.2]
    simp [h.1]
end
mutual
theorem same_self : ∀ r : Raw, sameR r r = true
  | .mk l bs xs => by
    rw [sameR]
    have h := same_selfL xs
    simp [h]
theorem same_selfL : ∀ xs : List Raw, sameL xs xs = true
  | [] => by rw [sameL]
  | x :: xs => by rw [sameL, same_self x, same_selfL xs]; rfl
end
mutual
theorem same_E : ∀ a b : Raw, sameR a b = true → E a = E b
  | .mk la ba xa, .mk lb bb xb, h => by
    rw [sameR] at h
    by_cases hl : la = lb
    · subst hl
      rw [if_neg (by simp)] at h
      cases la with
      | false =>
        rw [if_pos rfl] at h
        have := of_decide_eq_true h
        rw [E, E, this]
      | true =>
        rw [if_neg (by simp)] at h
        split at h
        · cases h
        · rename_i hlen
          rw [E, E, same_EL xa xb (by simpa using hlen) h]
    · rw [if_pos hl] at h; cases h
theorem same_EL : ∀ xs ys : List Raw, xs.length = ys.length → sameL xs ys = true → EL xs = EL ys
  | [], [], _, _ => rfl
  | [], _ :: _, h, _ => by simp at h
  | _ :: _, [], h, _ => by simp at h
  | x :: xs, y :: ys, h, hs => by
    rw [sameL, Bool.and_eq_true] at hs
    rw [EL, EL, same_E x y hs.1, same_EL xs ys (by simpa using h) hs.2]
end
end Rlp
end Go.Proofs.Ytfpigemikpbbhaa
