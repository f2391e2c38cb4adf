/-
  Lanes in memory; a turned lane.
  Conditions: none.
-/
import Derived.Test.YtfpigemikpbbhaaKec
import Derived.BigQuiet
import Derived.Deep.QuietTactic
import Derived.Laws.BitsAllLaws
namespace Go.Proofs.Ytfpigemikpbbhaa
open Go.RowKit Mono
open Kec

/-- A lane's number. -/
def u (x : L) : Int := (x.toNat : Int)
theorem u_range (x : L) : 0 ≤ u x ∧ u x < 18446744073709551616 := by
  have := x.isLt
  unfold u
  omega
theorem u_xor (x y : L) : bits .xor .u64 (u x) (u y) = u (x ^^^ y) := by
  unfold u
  rw [u64_xor_nat _ _ x.isLt y.isLt, BitVec.toNat_xor]
theorem u_and (x y : L) : bits .and .u64 (u x) (u y) = u (x &&& y) := by
  unfold u
  rw [u64_and_nat _ _ x.isLt y.isLt, BitVec.toNat_and]
theorem u_or (x y : L) : bits .or .u64 (u x) (u y) = u (x ||| y) := by
  unfold u
  rw [u64_or_nat _ _ x.isLt y.isLt, BitVec.toNat_or]
theorem u_shl (x : L) (n : Nat) : IntKind.u64.wrap (u x * 2 ^ n) = u (x <<< n) := by
  unfold u
  rw [IntKind.wrap_u64, BitVec.toNat_shiftLeft, Nat.shiftLeft_eq]
  have h : ((x.toNat : Int) * 2 ^ n) = ((x.toNat * 2 ^ n : Nat) : Int) := by simp
  rw [h]
  exact (Int.natCast_emod _ _).symm
theorem u_shr (x : L) (n : Nat) : u x / 2 ^ n = u (x >>> n) := by
  unfold u
  rw [BitVec.toNat_ushiftRight, Nat.shiftRight_eq_div_pow]
  simp
def lv (x : L) : Value := .int .u64 (u x)

set_option maxHeartbeats 400000 in
theorem rotate (x : L) (k : Nat) (hk : k < 64) (w : World) : Calls Try.prog 78 #[.int .u64 (u x), .int .i64 k] w fun e w' => e = .returned (.int .u64 (u (rotl x k))) ∧ w' = w := by
  have ha : bits .and .u64 (k : Int) 63 = k := by
    have := u64_and_nat k 63 (by omega) (by omega)
    rw [show ((63 : Nat) : Int) = 63 from rfl] at this
    rw [this]
    congr 1
    exact (Nat.and_two_pow_sub_one_eq_mod k 6).trans (Nat.mod_eq_of_lt hk)
  have hx := u_range x
  have hx0 := hx.1
  clear hx
  go_enter Try.func78, Try.ntmps78
  go_wp2
  refine bodyPost_ret (results_tmp rfl _ _ _) rfl ⟨?_, rfl⟩
  show Ending.returned (.int .u64 (bits .or .u64 (IntKind.u64.wrap (u x * 2 ^ k)) (u x / 2 ^ (64 - k)))) = _
  rw [u_shl, u_shr, u_or]
  rfl
set_option maxHeartbeats 400000 in
theorem rol (x : L) (k : Nat) (hk : k < 64) (w : World) : Calls Try.prog 68 #[.int .u64 (u x), .int .u64 k] w fun e w' => e = .returned (.int .u64 (u (rotl x k))) ∧ w' = w := by
  by_cases h0 : k = 0
  · subst h0
    rw [rotl_zero]
    go_enter Try.func68, Try.ntmps68
    go_wp2
    exact bodyPost_ret (results_tmp rfl _ _ _) rfl ⟨rfl, rfl⟩
  · have hk1 : 0 < k := by omega
    clear h0
    go_enter Try.func68, Try.ntmps68
    go_wp2
    refine bodyPost_ret (results_tmp rfl _ _ _) rfl ⟨?_, rfl⟩
    show Ending.returned (.int .u64 (bits .or .u64 (IntKind.u64.wrap (u x * 2 ^ k)) (u x / 2 ^ (64 - k)))) = _
    rw [u_shl, u_shr, u_or]
    rfl

/-! ### Lanes in a block -/
def cellsOf (f : St) (n : Nat) : Array Value := ((List.range n).map fun k => lv (f k)).toArray
def Lanes (w : World) (g : Nat) (t : TypeId) (n : Nat) (f : St) : Prop := w.heap[g]? = some (.cells (cellsOf f n) t (0, 0))
theorem cellsOf_size (f : St) (n : Nat) : (cellsOf f n).size = n := by simp [cellsOf]
theorem cellsOf_get (f : St) (n k : Nat) (h : k < n) : (cellsOf f n)[k]? = some (lv (f k)) := by simp [cellsOf, h]
theorem cellsOf_set (f : St) (n k : Nat) (v : L) : (cellsOf f n).setIfInBounds k (lv v) = cellsOf (Kec.upd f k v) n := by
  apply Array.ext_getElem?
  intro i
  rw [Array.getElem?_setIfInBounds]
  by_cases hi : i < n
  · by_cases hk : k = i
    · subst hk
      rw [if_pos rfl, cellsOf_size, if_pos hi, cellsOf_get _ n k hi]
      congr 2
      exact (if_pos rfl).symm
    · rw [if_neg hk, cellsOf_get _ n i hi, cellsOf_get _ n i hi]
      congr 2
      exact (if_neg (Ne.symm hk)).symm
  · have h1 : (cellsOf f n)[i]? = none := Array.getElem?_eq_none (by rw [cellsOf_size]; omega)
    have h2 : (cellsOf (Kec.upd f k v) n)[i]? = none := Array.getElem?_eq_none (by rw [cellsOf_size]; omega)
    rw [h1, h2]
    by_cases hk : k = i
    · subst hk; rw [if_pos rfl, cellsOf_size, if_neg hi]
    · rw [if_neg hk]
section
variable {w w' : World} {g : Nat} {t : TypeId} {n : Nat} {f : St}
theorem Lanes.lt (h : Lanes w g t n f) : g < w.heap.size := by
  rcases Nat.lt_or_ge g w.heap.size with h1 | h1
  · exact h1
  · unfold Lanes at h; rw [Array.getElem?_eq_none h1] at h; cases h
theorem Lanes.cell (h : Lanes w g t n f) (k : Nat) (hk : k < n) : w.cell? ⟨g, k, none⟩ = some (lv (f k)) := by
  rw [cell_of_row w g k _ t (0, 0) h]
  exact cellsOf_get f n k hk
theorem Lanes.frozen (h : Lanes w g t n f) (k : Nat) : w.frozen? ⟨g, k, none⟩ = false := by
  unfold Lanes at h
  simp [World.frozen?, h]
theorem Lanes.gr (h : Lanes w g t n f) (hg : Gr w w') : Lanes w' g t n f := (hg.block g h.lt).trans h
theorem Lanes.set (h : Lanes w g t n f) (k : Nat) (v : L) : Lanes (w.setCell ⟨g, k, none⟩ (lv v)) g t n (Kec.upd f k v) := by
  unfold Lanes at h ⊢
  simp [World.setCell, Array.getElem?_modify, h, cellsOf_set]
theorem Lanes.far (h : Lanes w g t n f) {p : Addr} (hp : g ≠ p.block) (v : Value) : Lanes (w.setCell p v) g t n f := (Below.heap_setCell w p v g hp).trans h
theorem Lanes.alloc (h : Lanes w g t n f) (o : Obj) : Lanes (w.alloc o) g t n f := h.gr (gr_alloc w o)
theorem Lanes.grown (h : Lanes w g t n f) {row : Option Nat} (hg : w.grownBy w' row) (hne : some g ≠ row) : Lanes w' g t n f := (hg.block g h.lt hne).trans h
end
/-- Only block g has turned, and what is new. -/
def Only (g : Nat) (w w' : World) : Prop := w.grownBy w' (some g)
theorem Only.of_gr {w w' : World} (h : Gr w w') (g : Nat) : Only g w w' := ⟨h.os, h.tape, h.output, h.size, fun k hk _ => h.block k hk⟩
theorem Only.refl (g : Nat) (w : World) : Only g w w := Only.of_gr (Gr.refl w) g
theorem Only.trans {g : Nat} {a b c : World} (h : Only g a b) (k : Only g b c) : Only g a c :=
  ⟨k.os.trans h.os, k.tape.trans h.tape, k.output.trans h.output, Nat.le_trans h.size k.size, fun i hi hne => (k.block i (Nat.lt_of_lt_of_le hi h.size) hne).trans (h.block i hi hne)⟩
theorem Only.set {g : Nat} (w : World) (k : Nat) (v : Value) : Only g w (w.setCell ⟨g, k, none⟩ v) :=
  ⟨rfl, rfl, rfl, by simp [World.setCell], fun i _ hne => Below.heap_setCell w _ v i (fun e => hne (by rw [e]))⟩
/-- A block that was made since: nothing old has turned. -/
theorem Only.gr {g : Nat} {a b c : World} (hab : Gr a b) (h : Only g b c) (hg : a.heap.size ≤ g) : Gr a c :=
  ⟨h.os.trans hab.os, h.tape.trans hab.tape, h.output.trans hab.output, Nat.le_trans hab.size h.size, fun i hi => (h.block i (Nat.lt_of_lt_of_le hi hab.size) (fun e => by injection e with e; omega)).trans (hab.block i hi)⟩
end Go.Proofs.Ytfpigemikpbbhaa
