/-
  Keccak in plain words: the permutations are one.
  Conditions: none. No program is named here.
-/
import Derived.Test.YtfpigemikpbbhaaKec
namespace Go.Proofs.Ytfpigemikpbbhaa.Kec

theorem Same.refl (a : St) : Same a a := fun _ _ => rfl
theorem Same.trans {a b c : St} (h : Same a b) (k : Same b c) : Same a c := fun i hi => (h i hi).trans (k i hi)
theorem Same.upd {a b : St} (h : Same a b) (k : Nat) {v v' : L} (hv : v = v') : Same (upd a k v) (upd b k v') := by
  intro i hi
  unfold Kec.upd
  rw [hv]
  split
  · rfl
  · exact h i hi
theorem col_same {a b : St} (h : Same a b) (x : Nat) (hx : x < 5) : col a x = col b x := by
  unfold col
  rw [h x (by omega), h (x + 5) (by omega), h (x + 10) (by omega), h (x + 15) (by omega), h (x + 20) (by omega)]
theorem dd_same {a b : St} (h : Same a b) (x : Nat) : dd a x = dd b x := by
  unfold dd
  rw [col_same h _ (Nat.mod_lt _ (by decide)), col_same h _ (Nat.mod_lt _ (by decide))]
theorem bb_same {a b : St} (h : Same a b) : ∀ k, k ≤ 25 → bb a k = bb b k
  | 0, _ => rfl
  | k + 1, hk => by
    unfold bb
    rw [bb_same h k (by omega), h k (by omega), dd_same h]
theorem ss_same {a b : St} (h : Same a b) (r : St) : ∀ k, Same (ss r a k) (ss r b k)
  | 0 => h
  | k + 1 => (ss_same h r k).upd k rfl
theorem round_same {a b : St} (h : Same a b) (n : L) : Same (round a n) (round b n) := by
  have h1 := ss_same h (bb a 25) 25
  unfold round
  rw [← bb_same h 25 (by omega)]
  exact h1.upd 0 (by rw [h1 0 (by omega)])
theorem rround_same (a : St) (k : Nat) (hk : k < 24) : Same (round a (rc k)) (rround a (lfn 1 (7 * k))) := by
  have h : Same (ss (bb a 25) a 25) (ch (mv (th (col a) a 5) 24).a 5) := fun i hi => lane a i hi
  unfold round rround
  rw [io_eq, num_rc k hk]
  exact h.upd 0 (by rw [h 0 (by omega)])
/-- The permutations are one. -/
theorem perm_same {a b : St} (h : Same a b) : ∀ k, k ≤ 24 → Same (perm a k) (rperm b k)
  | 0, _ => h
  | k + 1, hk => (round_same (perm_same h k (by omega)) (rc k)).trans (rround_same (rperm b k) k (by omega))
theorem lfn_add (l : BitVec 8) (i : Nat) : ∀ j, lfn l (i + j) = lfn (lfn l i) j
  | 0 => rfl
  | j + 1 => by
    show lf (lfn l (i + j)) = lf (lfn (lfn l i) j)
    rw [lfn_add l i j]
end Go.Proofs.Ytfpigemikpbbhaa.Kec
