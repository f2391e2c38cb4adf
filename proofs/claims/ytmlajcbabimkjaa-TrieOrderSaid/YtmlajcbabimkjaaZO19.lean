/-
  Merged (wip/tools/merge.py): TP7.
  Conditions: none.
-/
import Derived.Test.YtmlajcbabimkjaaZO18
import Derived.Test.YtmlajcbabimkjaaZO17
/-
  The trie of rising pairs (plain).
  Conditions: none.
-/
namespace Go.Proofs.Ytmlajcbabimkjaa
set_option linter.unusedVariables false
open Go.RowKit Mono Rlp
namespace E
theorem lex_drop : ∀ (at_ : Nat) (a b : List UInt8), a < b → a.take at_ = b.take at_ → a.drop at_ < b.drop at_
  | 0, a, b, h, _ => h
  | n + 1, [], [], h, _ => absurd h (List.lt_irrefl _)
  | n + 1, [], _ :: _, _, e => by simp at e
  | n + 1, _ :: _, [], h, _ => absurd h (List.not_lt_nil _)
  | n + 1, x :: a, y :: b, h, e => by
    simp only [List.take_succ_cons, List.cons.injEq] at e
    obtain ⟨rfl, e⟩ := e
    rcases List.cons_lt_cons_iff.1 h with h | ⟨_, h⟩
    · exact absurd h (by simp)
    · exact lex_drop n a b h e
theorem sandwich : ∀ (n : Nat) (a b c : List UInt8), a ≤ b → b ≤ c → a.take n = c.take n → n ≤ a.length → b.take n = a.take n ∧ n ≤ b.length
  | 0, a, b, c, _, _, _, _ => ⟨rfl, Nat.zero_le _⟩
  | n + 1, [], b, c, _, _, _, h => by simp at h
  | n + 1, x :: a, [], c, h, _, _, _ => by
    rw [← List.not_lt] at h
    exact absurd (List.nil_lt_cons x a) h
  | n + 1, x :: a, y :: b, [], _, _, e, _ => by simp at e
  | n + 1, x :: a, y :: b, z :: c, h1, h2, e, h => by
    simp only [List.take_succ_cons, List.cons.injEq] at e
    obtain ⟨rfl, e⟩ := e
    rw [List.cons_le_cons_iff] at h1 h2
    have hxy : x = y := by
      rcases h1 with h1 | ⟨h1, _⟩
      · rcases h2 with h2 | ⟨h2, _⟩
        · exact absurd (UInt8.lt_trans h1 h2) (by simp)
        · exact h2.symm
      · exact h1
    subst hxy
    have h1' : a ≤ b := by
      rcases h1 with h1 | ⟨_, h1⟩
      · exact absurd h1 (by simp)
      · exact h1
    have h2' : b ≤ c := by
      rcases h2 with h2 | ⟨_, h2⟩
      · exact absurd h2 (by simp)
      · exact h2
    obtain ⟨g1, g2⟩ := sandwich n a b c h1' h2' e (by simpa using h)
    exact ⟨by rw [List.take_succ_cons, List.take_succ_cons, g1], by simpa using g2⟩
theorem common_take : ∀ (a b : List UInt8), a.take (common a b) = b.take (common a b) ∧ common a b ≤ a.length ∧ common a b ≤ b.length
  | [], b => by simp [common]
  | _ :: _, [] => by simp [common]
  | x :: a, y :: b => by
    unfold common
    split
    · rename_i h
      subst h
      obtain ⟨g1, g2, g3⟩ := common_take a b
      refine ⟨by rw [List.take_succ_cons, List.take_succ_cons, g1], by simpa using g2, by simpa using g3⟩
    · simp
structure Rise (at_ : Nat) (l : List Pr) : Prop where
  ord : l.Pairwise fun a b => a.1 < b.1
  len : ∀ x ∈ l, at_ ≤ x.1.length
  pre : ∀ x ∈ l, ∀ y ∈ l, x.1.take at_ = y.1.take at_
  nib : ∀ x ∈ l, ∀ b ∈ x.1, b.toNat < 16
theorem Rise.sub {at_ : Nat} {l m : List Pr} (h : Rise at_ l) (hs : m.Sublist l) : Rise at_ m := ⟨h.ord.sublist hs, fun x hx => h.len x (hs.subset hx), fun x hx y hy => h.pre x (hs.subset hx) y (hs.subset hy), fun x hx => h.nib x (hs.subset hx)⟩
theorem Rise.longer {at_ : Nat} {x : Pr} {r : List Pr} (h : Rise at_ (x :: r)) {y : Pr} (hy : y ∈ r) : at_ < y.1.length := by
  have h1 := h.len y (List.mem_cons_of_mem _ hy)
  rcases Nat.lt_or_ge at_ y.1.length with h2 | h2
  · exact h2
  · exfalso
    have h3 := lex_drop at_ x.1 y.1 ((List.pairwise_cons.1 h.ord).1 y hy) (h.pre _ List.mem_cons_self _ (List.mem_cons_of_mem _ hy))
    rw [List.drop_eq_nil_of_le h2] at h3
    exact List.not_lt_nil _ h3
def nibA (at_ : Nat) (x : Pr) : UInt8 := x.1.getD at_ 0
theorem nibA_get {at_ : Nat} {x : Pr} (h : at_ < x.1.length) : x.1[at_]? = some (nibA at_ x) := by
  unfold nibA
  rw [List.getElem?_eq_getElem h, List.getD_eq_getElem?_getD, List.getElem?_eq_getElem h]
  rfl
theorem Rise.mono {at_ : Nat} {l : List Pr} (h : Rise at_ l) (hl : ∀ x ∈ l, at_ < x.1.length) {i j : Nat} (hi : i < l.length) (hj : j < l.length) (hij : i ≤ j) : (nibA at_ l[i]).toNat ≤ (nibA at_ l[j]).toNat := by
  rcases Nat.lt_or_ge i j with h1 | h1
  · have h2 := List.pairwise_iff_getElem.1 h.ord i j hi hj h1
    have h3 := lex_drop at_ _ _ h2 (h.pre _ (List.getElem_mem hi) _ (List.getElem_mem hj))
    have e1 := hl _ (List.getElem_mem hi)
    have e2 := hl _ (List.getElem_mem hj)
    rw [List.drop_eq_getElem_cons e1, List.drop_eq_getElem_cons e2] at h3
    have e3 : nibA at_ l[i] = l[i].1[at_] := by unfold nibA; rw [List.getD_eq_getElem?_getD, List.getElem?_eq_getElem e1]; rfl
    have e4 : nibA at_ l[j] = l[j].1[at_] := by unfold nibA; rw [List.getD_eq_getElem?_getD, List.getElem?_eq_getElem e2]; rfl
    rw [e3, e4]
    rcases List.cons_lt_cons_iff.1 h3 with h4 | ⟨h4, _⟩
    · exact Nat.le_of_lt (UInt8.lt_iff_toNat_lt.1 h4)
    · rw [h4]
      exact Nat.le_refl _
  · obtain rfl : i = j := by omega
    exact Nat.le_refl _
def bdF : Nat → List Pr → Nat → Tn
  | 0, _, _ => .nil
  | f + 1, l, at_ => match l with
    | [] => .nil
    | [x] => .leaf (x.1.drop at_) x.2
    | x :: y :: r =>
      if common (x.1.drop at_) (((y :: r).getLast (by simp)).1.drop at_) > 0 then
        .ext ((x.1.drop at_).take (common (x.1.drop at_) (((y :: r).getLast (by simp)).1.drop at_))) (bdF f (x :: y :: r) (at_ + common (x.1.drop at_) (((y :: r).getLast (by simp)).1.drop at_)))
      else if (x.1.drop at_).length = 0 then .br (fun d => bdF f ((y :: r).filter fun z => (nibA at_ z).toNat == d) (at_ + 1)) x.2
      else .br (fun d => bdF f ((x :: y :: r).filter fun z => (nibA at_ z).toNat == d) (at_ + 1)) []
theorem Rise.leDrop {at_ : Nat} {l : List Pr} (h : Rise at_ l) {i j : Nat} (hi : i < l.length) (hj : j < l.length) (hij : i ≤ j) : l[i].1.drop at_ ≤ l[j].1.drop at_ := by
  rcases Nat.lt_or_ge i j with h1 | h1
  · exact List.le_of_lt (lex_drop at_ _ _ (List.pairwise_iff_getElem.1 h.ord i j hi hj h1) (h.pre _ (List.getElem_mem hi) _ (List.getElem_mem hj)))
  · obtain rfl : i = j := by omega
    exact List.le_refl _
theorem Rise.more {at_ n : Nat} {l : List Pr} (h : Rise at_ l) (h0 : 0 < l.length) (hn : n = common (l[0].1.drop at_) (l[l.length - 1].1.drop at_)) : Rise (at_ + n) l := by
  obtain ⟨c1, c2, c3⟩ := common_take (l[0].1.drop at_) (l[l.length - 1].1.drop at_)
  rw [← hn] at c1 c2 c3
  have key : ∀ x ∈ l, (x.1.drop at_).take n = (l[0].1.drop at_).take n ∧ n ≤ (x.1.drop at_).length := fun x hx => by
    obtain ⟨i, hi, rfl⟩ := List.getElem_of_mem hx
    exact sandwich n _ _ _ (h.leDrop h0 hi (Nat.zero_le _)) (h.leDrop hi (by omega) (by omega)) c1 c2
  refine ⟨h.ord, fun x hx => ?_, fun x hx y hy => ?_, h.nib⟩
  · have h1 := (key x hx).2
    have h2 := h.len x hx
    rw [List.length_drop] at h1
    omega
  · rw [List.take_add, List.take_add, h.pre x hx y hy, (key x hx).1, (key y hy).1]
theorem bd_nil (f at_ : Nat) : bdF f [] at_ = .nil := by cases f <;> rfl
theorem bd_one (f at_ : Nat) (x : Pr) : bdF (f + 1) [x] at_ = .leaf (x.1.drop at_) x.2 := rfl
theorem bd_ext (f at_ : Nat) (l : List Pr) (h : 1 < l.length) (hn : common (l[0].1.drop at_) (l[l.length - 1].1.drop at_) > 0) : bdF (f + 1) l at_ = .ext ((l[0].1.drop at_).take (common (l[0].1.drop at_) (l[l.length - 1].1.drop at_))) (bdF f l (at_ + common (l[0].1.drop at_) (l[l.length - 1].1.drop at_))) := by
  match l, h with
  | x :: y :: r, _ =>
    have e : (y :: r).getLast (by simp) = (x :: y :: r)[(x :: y :: r).length - 1] := by rw [List.getLast_eq_getElem]; simp
    rw [bdF, e]
    exact if_pos hn
theorem bd_br0 (f at_ : Nat) (l : List Pr) (h : 1 < l.length) (hn : ¬ common (l[0].1.drop at_) (l[l.length - 1].1.drop at_) > 0) (h0 : (l[0].1.drop at_).length = 0) : bdF (f + 1) l at_ = .br (fun d => bdF f (l.tail.filter fun z => (nibA at_ z).toNat == d) (at_ + 1)) l[0].2 := by
  match l, h with
  | x :: y :: r, _ =>
    have e : (y :: r).getLast (by simp) = (x :: y :: r)[(x :: y :: r).length - 1] := by rw [List.getLast_eq_getElem]; simp
    rw [bdF, e]
    exact (if_neg hn).trans (if_pos h0)
theorem bd_br1 (f at_ : Nat) (l : List Pr) (h : 1 < l.length) (hn : ¬ common (l[0].1.drop at_) (l[l.length - 1].1.drop at_) > 0) (h0 : ¬ (l[0].1.drop at_).length = 0) : bdF (f + 1) l at_ = .br (fun d => bdF f (l.filter fun z => (nibA at_ z).toNat == d) (at_ + 1)) [] := by
  match l, h with
  | x :: y :: r, _ =>
    have e : (y :: r).getLast (by simp) = (x :: y :: r)[(x :: y :: r).length - 1] := by rw [List.getLast_eq_getElem]; simp
    rw [bdF, e]
    exact (if_neg hn).trans (if_neg h0)
def kidsTo (f at_ : Nat) (L : List Pr) (m : Nat) : List D := (List.range 16).map fun d => dT (bdF f ((L.take m).filter fun z => (nibA at_ z).toNat == d) (at_ + 1))
theorem kidsTo_zero (f at_ : Nat) (L : List Pr) : kidsTo f at_ L 0 = List.replicate 16 (.v .nilIface) := by
  unfold kidsTo
  simp only [List.take_zero, List.filter_nil, bd_nil]
  rfl
theorem kidsTo_all (f at_ : Nat) (L : List Pr) : kidsTo f at_ L L.length = (List.range 16).map fun d => dT (bdF f (L.filter fun z => (nibA at_ z).toNat == d) (at_ + 1)) := by
  unfold kidsTo
  rw [List.take_length]
theorem kidsTo_run (f at_ : Nat) (L : List Pr) (m n k : Nat) (hk : k < 16) (hrun : ∀ z ∈ (L.drop m).take n, (nibA at_ z).toNat = k) (hold : ∀ z ∈ L.take m, (nibA at_ z).toNat ≠ k) : kidsTo f at_ L (m + n) = (kidsTo f at_ L m).set k (dT (bdF f ((L.drop m).take n) (at_ + 1))) := by
  unfold kidsTo
  refine List.ext_getElem? fun d => ?_
  rw [List.take_add, List.getElem?_set]
  by_cases hd : k = d
  · subst hd
    rw [if_pos rfl, if_pos (by simpa using hk), List.getElem?_map, List.getElem?_range hk, Option.map_some, List.filter_append]
    have e1 : (L.take m).filter (fun z => (nibA at_ z).toNat == k) = [] := List.filter_eq_nil_iff.2 fun z hz => by simpa using hold z hz
    have e2 : ((L.drop m).take n).filter (fun z => (nibA at_ z).toNat == k) = (L.drop m).take n := List.filter_eq_self.2 fun z hz => by simpa using hrun z hz
    rw [e1, e2, List.nil_append]
  · rw [if_neg hd, List.getElem?_map, List.getElem?_map]
    by_cases h16 : d < 16
    · rw [List.getElem?_range h16, Option.map_some, Option.map_some, List.filter_append]
      have e2 : ((L.drop m).take n).filter (fun z => (nibA at_ z).toNat == d) = [] := List.filter_eq_nil_iff.2 fun z hz => by
        have := hrun z hz
        simp
        omega
      rw [e2, List.append_nil]
    · rw [List.getElem?_eq_none (by simp; omega)]
      rfl
end E
end Go.Proofs.Ytmlajcbabimkjaa
