/-
 Merged: lemmas of this claim.
 Conditions: none.
-/
import Derived.Test.YtaoicebcdmpemaaGreatZB2
import Derived.BigQuiet
import Derived.Deep.QuietTactic
import Derived.Laws.BitsAllLaws
import Derived.Test.YtaoicebcdmpemaaGreatZB0
namespace Go.Proofs.YtaoicebcdmpemaaGreat.Kec
abbrev L := BitVec 64
abbrev St := Nat → L
def upd (f : St) (k : Nat) (v : L) : St := fun j => if j = k then v else f j
def rotl (x : L) (n : Nat) : L := x <<< n ||| x >>> (64 - n)
theorem Gx (x : L) : x >>> 64 = 0 := by
 apply BitVec.eq_of_toNat_eq
 rw [BitVec.toNat_ushiftRight, Nj]
 have := x.isLt
 exact Nat.div_eq_of_lt this
theorem jA (x : L) : rotl x 0 = x := by simp [rotl, Gx]
def turn (k : Nat) : Nat := [0, 1, 62, 28, 27, 36, 44, 6, 55, 20, 3, 10, 43, 25, 39, 41, 45, 15, 21, 8, 18, 2, 61, 56, 14].getD k 0
def rc (k : Nat) : L := ([0x0000000000000001, 0x0000000000008082, 0x800000000000808a, 0x8000000080008000, 0x000000000000808b, 0x0000000080000001,
 0x8000000080008081, 0x8000000000008009, 0x000000000000008a, 0x0000000000000088, 0x0000000080008009, 0x000000008000000a,
 0x000000008000808b, 0x800000000000008b, 0x8000000000008089, 0x8000000000008003, 0x8000000000008002, 0x8000000000000080,
 0x000000000000800a, 0x800000008000000a, 0x8000000080008081, 0x8000000000008080, 0x0000000080000001, 0x8000000080008008] : List L).getD k 0
def col (s : St) (x : Nat) : L := s x ^^^ s (x + 5) ^^^ s (x + 10) ^^^ s (x + 15) ^^^ s (x + 20)
def dd (s : St) (x : Nat) : L := col s ((x + 4) % 5) ^^^ rotl (col s ((x + 1) % 5)) 1
def place (k : Nat) : Nat := k / 5 + 5 * ((2 * (k % 5) + 3 * (k / 5)) % 5)
def bb (s : St) : Nat → St
 | 0 => fun _ => 0
 | k + 1 => upd (bb s k) (place k) (rotl (s k ^^^ dd s (k % 5)) (turn k))
def chi (b : St) (k : Nat) : L := b k ^^^ (~~~ b ((k % 5 + 1) % 5 + k / 5 * 5) &&& b ((k % 5 + 2) % 5 + k / 5 * 5))
def ss (b s : St) : Nat → St
 | 0 => s
 | k + 1 => upd (ss b s k) k (chi b k)
def round (s : St) (n : L) : St := upd (ss (bb s 25) s 25) 0 (ss (bb s 25) s 25 0 ^^^ n)
def perm (s : St) : Nat → St
 | 0 => s
 | k + 1 => round (perm s k) (rc k)
def th1 (d : L) (x : Nat) (a : St) : Nat → St
 | 0 => a
 | k + 1 => upd (th1 d x a k) (x + 5 * k) (th1 d x a k (x + 5 * k) ^^^ d)
def th (c a : St) : Nat → St
 | 0 => a
 | x + 1 => th1 (c ((x + 4) % 5) ^^^ rotl (c ((x + 1) % 5)) 1) x (th c a x) 5
structure Walk where
 x : Nat
 y : Nat
 cur : L
 a : St
def mv (a : St) : Nat → Walk
 | 0 => ⟨1, 0, a 1, a⟩
 | t + 1 =>
  let w := mv a t
  let x := w.y
  let y := (2 * w.x + 3 * w.y) % 5
  ⟨x, y, w.a (x + 5 * y), upd w.a (x + 5 * y) (rotl w.cur ((t + 1) * (t + 2) / 2 % 64))⟩
def ch1 (r a : St) (y : Nat) : Nat → St
 | 0 => a
 | x + 1 => upd (ch1 r a y x) (x + y) (r x ^^^ (~~~ r ((x + 1) % 5) &&& r ((x + 2) % 5)))
def ch (a : St) : Nat → St
 | 0 => a
 | y + 1 => ch1 (fun x => ch a y (x + 5 * y)) (ch a y) (5 * y) 5
def lf (l : BitVec 8) : BitVec 8 := if l &&& 128 ≠ 0 then (l <<< 1) ^^^ 0x71 else l <<< 1
def lfn (l : BitVec 8) : Nat → BitVec 8
 | 0 => l
 | j + 1 => lf (lfn l j)
def io (a : St) (l : BitVec 8) : Nat → St
 | 0 => a
 | j + 1 => if lfn l j &&& 1 = 1 then upd (io a l j) 0 (io a l j 0 ^^^ (1 : L) <<< (2 ^ j - 1)) else io a l j
def nH (a : St) (l : BitVec 8) : St := io (ch (mv (th (col a) a 5) 24).a 5) l 7
def nI (a : St) : Nat → St
 | 0 => a
 | k + 1 => nH (nI a k) (lfn 1 (7 * k))
def num (l : BitVec 8) : Nat → L
 | 0 => 0
 | j + 1 => if lfn l j &&& 1 = 1 then num l j ^^^ (1 : L) <<< (2 ^ j - 1) else num l j
theorem Gi (a : St) (l : BitVec 8) : ∀ j, io a l j = upd a 0 (a 0 ^^^ num l j)
 | 0 => by funext k; simp [io, num, upd]; intro h; rw [h]
 | j + 1 => by
  unfold io num
  rw [Gi a l j]
  split
  ·
   funext k
   by_cases hk : k = 0
   · subst hk; simp [upd, BitVec.xor_assoc]
   · simp [upd, hk]
  · rfl
theorem GV : ∀ k, k < 24 → num (lfn 1 (7 * k)) 7 = rc k := by decide +kernel
theorem Jt (a : St) : ss (bb a 25) a 25 0 = ch (mv (th (col a) a 5) 24).a 5 0 := by simp [ss, bb, chi, upd, place, dd, col, turn, ch, ch1, mv, th, th1, jA]
theorem Js (a : St) : ss (bb a 25) a 25 1 = ch (mv (th (col a) a 5) 24).a 5 1 := by simp [ss, bb, chi, upd, place, dd, col, turn, ch, ch1, mv, th, th1]
theorem Jr (a : St) : ss (bb a 25) a 25 2 = ch (mv (th (col a) a 5) 24).a 5 2 := by simp [ss, bb, chi, upd, place, dd, col, turn, ch, ch1, mv, th, th1]
theorem Jq (a : St) : ss (bb a 25) a 25 3 = ch (mv (th (col a) a 5) 24).a 5 3 := by simp [ss, bb, chi, upd, place, dd, col, turn, ch, ch1, mv, th, th1, jA]
theorem Jp (a : St) : ss (bb a 25) a 25 4 = ch (mv (th (col a) a 5) 24).a 5 4 := by simp [ss, bb, chi, upd, place, dd, col, turn, ch, ch1, mv, th, th1, jA]
theorem Jo (a : St) : ss (bb a 25) a 25 5 = ch (mv (th (col a) a 5) 24).a 5 5 := by simp [ss, bb, chi, upd, place, dd, col, turn, ch, ch1, mv, th, th1]
theorem Jm (a : St) : ss (bb a 25) a 25 6 = ch (mv (th (col a) a 5) 24).a 5 6 := by simp [ss, bb, chi, upd, place, dd, col, turn, ch, ch1, mv, th, th1]
theorem Jl (a : St) : ss (bb a 25) a 25 7 = ch (mv (th (col a) a 5) 24).a 5 7 := by simp [ss, bb, chi, upd, place, dd, col, turn, ch, ch1, mv, th, th1]
theorem Jk (a : St) : ss (bb a 25) a 25 8 = ch (mv (th (col a) a 5) 24).a 5 8 := by simp [ss, bb, chi, upd, place, dd, col, turn, ch, ch1, mv, th, th1]
theorem Jj (a : St) : ss (bb a 25) a 25 9 = ch (mv (th (col a) a 5) 24).a 5 9 := by simp [ss, bb, chi, upd, place, dd, col, turn, ch, ch1, mv, th, th1]
theorem Hy (a : St) : ss (bb a 25) a 25 10 = ch (mv (th (col a) a 5) 24).a 5 10 := by simp [ss, bb, chi, upd, place, dd, col, turn, ch, ch1, mv, th, th1]
theorem Hw (a : St) : ss (bb a 25) a 25 11 = ch (mv (th (col a) a 5) 24).a 5 11 := by simp [ss, bb, chi, upd, place, dd, col, turn, ch, ch1, mv, th, th1]
theorem Hu (a : St) : ss (bb a 25) a 25 12 = ch (mv (th (col a) a 5) 24).a 5 12 := by simp [ss, bb, chi, upd, place, dd, col, turn, ch, ch1, mv, th, th1]
theorem Ht (a : St) : ss (bb a 25) a 25 13 = ch (mv (th (col a) a 5) 24).a 5 13 := by simp [ss, bb, chi, upd, place, dd, col, turn, ch, ch1, mv, th, th1]
theorem Hr (a : St) : ss (bb a 25) a 25 14 = ch (mv (th (col a) a 5) 24).a 5 14 := by simp [ss, bb, chi, upd, place, dd, col, turn, ch, ch1, mv, th, th1]
theorem Hq (a : St) : ss (bb a 25) a 25 15 = ch (mv (th (col a) a 5) 24).a 5 15 := by simp [ss, bb, chi, upd, place, dd, col, turn, ch, ch1, mv, th, th1]
theorem Ho (a : St) : ss (bb a 25) a 25 16 = ch (mv (th (col a) a 5) 24).a 5 16 := by simp [ss, bb, chi, upd, place, dd, col, turn, ch, ch1, mv, th, th1]
theorem Hl (a : St) : ss (bb a 25) a 25 17 = ch (mv (th (col a) a 5) 24).a 5 17 := by simp [ss, bb, chi, upd, place, dd, col, turn, ch, ch1, mv, th, th1]
theorem Hg (a : St) : ss (bb a 25) a 25 18 = ch (mv (th (col a) a 5) 24).a 5 18 := by simp [ss, bb, chi, upd, place, dd, col, turn, ch, ch1, mv, th, th1]
theorem Hf (a : St) : ss (bb a 25) a 25 19 = ch (mv (th (col a) a 5) 24).a 5 19 := by simp [ss, bb, chi, upd, place, dd, col, turn, ch, ch1, mv, th, th1]
theorem He (a : St) : ss (bb a 25) a 25 20 = ch (mv (th (col a) a 5) 24).a 5 20 := by simp [ss, bb, chi, upd, place, dd, col, turn, ch, ch1, mv, th, th1]
theorem G9 (a : St) : ss (bb a 25) a 25 21 = ch (mv (th (col a) a 5) 24).a 5 21 := by simp [ss, bb, chi, upd, place, dd, col, turn, ch, ch1, mv, th, th1]
theorem G8 (a : St) : ss (bb a 25) a 25 22 = ch (mv (th (col a) a 5) 24).a 5 22 := by simp [ss, bb, chi, upd, place, dd, col, turn, ch, ch1, mv, th, th1]
theorem G7 (a : St) : ss (bb a 25) a 25 23 = ch (mv (th (col a) a 5) 24).a 5 23 := by simp [ss, bb, chi, upd, place, dd, col, turn, ch, ch1, mv, th, th1]
theorem G6 (a : St) : ss (bb a 25) a 25 24 = ch (mv (th (col a) a 5) 24).a 5 24 := by simp [ss, bb, chi, upd, place, dd, col, turn, ch, ch1, mv, th, th1]
theorem lane (a : St) (k : Nat) (hk : k < 25) : ss (bb a 25) a 25 k = ch (mv (th (col a) a 5) 24).a 5 k := by
 match k, hk with
 | 0, _ => exact Jt a
 | 1, _ => exact Js a
 | 2, _ => exact Jr a
 | 3, _ => exact Jq a
 | 4, _ => exact Jp a
 | 5, _ => exact Jo a
 | 6, _ => exact Jm a
 | 7, _ => exact Jl a
 | 8, _ => exact Jk a
 | 9, _ => exact Jj a
 | 10, _ => exact Hy a
 | 11, _ => exact Hw a
 | 12, _ => exact Hu a
 | 13, _ => exact Ht a
 | 14, _ => exact Hr a
 | 15, _ => exact Hq a
 | 16, _ => exact Ho a
 | 17, _ => exact Hl a
 | 18, _ => exact Hg a
 | 19, _ => exact Hf a
 | 20, _ => exact He a
 | 21, _ => exact G9 a
 | 22, _ => exact G8 a
 | 23, _ => exact G7 a
 | 24, _ => exact G6 a
 | k + 25, h => omega
def Same (a b : St) : Prop := ∀ k, k < 25 → a k = b k
end Go.Proofs.YtaoicebcdmpemaaGreat.Kec
namespace Go.Proofs.YtaoicebcdmpemaaGreat
set_option maxHeartbeats 400000
open Go.RowKit Mono
open Kec
def u (x : L) : Int := (x.toNat : Int)
theorem ku (x : L) : 0 ≤ u x ∧ u x < 18446744073709551616 := by
 have := x.isLt
 unfold u
 omega
theorem iK (x y : L) : bits .xor .u64 (u x) (u y) = u (x ^^^ y) := by
 unfold u
 rw [u64_xor_nat _ _ x.isLt y.isLt, BitVec.toNat_xor]
theorem Ap (x y : L) : bits .and .u64 (u x) (u y) = u (x &&& y) := by
 unfold u
 rw [u64_and_nat _ _ x.isLt y.isLt, BitVec.toNat_and]
theorem IY (x y : L) : bits .or .u64 (u x) (u y) = u (x ||| y) := by
 unfold u
 rw [u64_or_nat _ _ x.isLt y.isLt, BitVec.toNat_or]
theorem xW (x : L) (n : Nat) : IntKind.u64.wrap (u x * 2 ^ n) = u (x <<< n) := by
 unfold u
 rw [IntKind.wrap_u64, BitVec.toNat_shiftLeft, Nat.shiftLeft_eq]
 have h : ((x.toNat : Int) * 2 ^ n) = ((x.toNat * 2 ^ n : Nat) : Int) := by simp
 rw [h]
 exact (Int.natCast_emod _ _).symm
theorem xU (x : L) (n : Nat) : u x / 2 ^ n = u (x >>> n) := by
 unfold u
 rw [BitVec.toNat_ushiftRight, Nj]
 simp
def lv (x : L) : Value := .int .u64 (u x)
theorem rotate (x : L) (k : Nat) (hk : k < 64) (w : World) : Calls Tryz.prog 197 #[.int .u64 (u x), .int .i64 k] w fun e w' => e = .returned (.int .u64 (u (rotl x k))) ∧ w' = w := by
 have ha : bits .and .u64 (k : Int) 63 = k := by
  have := u64_and_nat k 63 (by omega) (by omega)
  rw [show ((63 : Nat) : Int) = 63 from rfl] at this
  rw [this]
  congr 1
  exact (MV k 6).trans (Nat.mod_eq_of_lt hk)
 have hx := ku x
 have hx0 := hx.1
 clear hx
 go_enter Tryz.func197, Tryz.ntmps197
 go_wp2
 refine bodyPost_ret (results_tmp rfl _ _ _) rfl ⟨?_, rfl⟩
 show Ending.returned (.int .u64 (bits .or .u64 (IntKind.u64.wrap (u x * 2 ^ k)) (u x / 2 ^ (64 - k)))) = _
 rw [xW, xU, IY]
 rfl
theorem rol (x : L) (k : Nat) (hk : k < 64) (w : World) : Calls Tryz.prog 147 #[.int .u64 (u x), .int .u64 k] w fun e w' => e = .returned (.int .u64 (u (rotl x k))) ∧ w' = w := by
 by_cases h0 : k = 0
 ·
  subst h0
  rw [jA]
  go_enter Tryz.func147, Tryz.ntmps147
  go_wp2
  exact bodyPost_ret (results_tmp rfl _ _ _) rfl ⟨rfl, rfl⟩
 ·
  have hk1 : 0 < k := by omega
  clear h0
  go_enter Tryz.func147, Tryz.ntmps147
  go_wp2
  refine bodyPost_ret (results_tmp rfl _ _ _) rfl ⟨?_, rfl⟩
  show Ending.returned (.int .u64 (bits .or .u64 (IntKind.u64.wrap (u x * 2 ^ k)) (u x / 2 ^ (64 - k)))) = _
  rw [xW, xU, IY]
  rfl
def cellsOf (f : St) (n : Nat) : Array Value := ((List.range n).map fun k => lv (f k)).toArray
def aB (w : World) (g : Nat) (t : TypeId) (n : Nat) (f : St) : Prop := w.heap[g]? = some (.cells (cellsOf f n) t (0, 0))
theorem cellsOf_size (f : St) (n : Nat) : (cellsOf f n).size = n := by simp [cellsOf]
theorem fZ (f : St) (n k : Nat) (h : k < n) : (cellsOf f n)[k]? = some (lv (f k)) := by simp [cellsOf, h]
theorem cellsOf_set (f : St) (n k : Nat) (v : L) : (cellsOf f n).setIfInBounds k (lv v) = cellsOf (Kec.upd f k v) n := by
 apply Array.ext_getElem?
 intro i
 rw [MG]
 by_cases hi : i < n
 ·
  by_cases hk : k = i
  ·
   subst hk
   rw [if_pos rfl, cellsOf_size, if_pos hi, fZ _ n k hi]
   congr 2
   exact (if_pos rfl).symm
  ·
   rw [if_neg hk, fZ _ n i hi, fZ _ n i hi]
   congr 2
   exact (if_neg (Ne.symm hk)).symm
 ·
  have h1 : (cellsOf f n)[i]? = none := Array.getElem?_eq_none (by rw [cellsOf_size]; omega)
  have h2 : (cellsOf (Kec.upd f k v) n)[i]? = none := Array.getElem?_eq_none (by rw [cellsOf_size]; omega)
  rw [h1, h2]
  by_cases hk : k = i
  · subst hk; rw [if_pos rfl, cellsOf_size, if_neg hi]
  · rw [if_neg hk]
section
variable {w w' : World} {g : Nat} {t : TypeId} {n : Nat} {f : St}
theorem aB.lt (h : aB w g t n f) : g < w.heap.size := by
 rcases KP g w.heap.size with h1 | h1
 · exact h1
 · unfold aB at h; rw [Array.getElem?_eq_none h1] at h; cases h
theorem aB.cell (h : aB w g t n f) (k : Nat) (hk : k < n) : w.cell? ⟨g, k, none⟩ = some (lv (f k)) := by
 rw [cell_of_row w g k _ t (0, 0) h]
 exact fZ f n k hk
theorem aB.frozen (h : aB w g t n f) (k : Nat) : w.frozen? ⟨g, k, none⟩ = false := by
 unfold aB at h
 simp [World.frozen?, h]
theorem aB.gr (h : aB w g t n f) (hg : Gr w w') : aB w' g t n f := (hg.block g h.lt).trans h
theorem aB.set (h : aB w g t n f) (k : Nat) (v : L) : aB (w.setCell ⟨g, k, none⟩ (lv v)) g t n (Kec.upd f k v) := by
 unfold aB at h ⊢
 simp [World.setCell, Array.getElem?_modify, h, cellsOf_set]
theorem aB.far (h : aB w g t n f) {p : Addr} (hp : g ≠ p.block) (v : Value) : aB (w.setCell p v) g t n f := (Below.heap_setCell w p v g hp).trans h
theorem aB.alloc (h : aB w g t n f) (o : Obj) : aB (w.alloc o) g t n f := h.gr (aH w o)
theorem aB.grown (h : aB w g t n f) {row : Option Nat} (hg : w.grownBy w' row) (hne : some g ≠ row) : aB w' g t n f := (hg.block g h.lt hne).trans h
end
def Only (g : Nat) (w w' : World) : Prop := w.grownBy w' (some g)
theorem Only.qx {w w' : World} (h : Gr w w') (g : Nat) : Only g w w' := ⟨h.os, h.tape, h.output, h.size, fun k hk _ => h.block k hk⟩
theorem Only.refl (g : Nat) (w : World) : Only g w w := Only.qx (Gr.refl w) g
theorem Only.trans {g : Nat} {a b c : World} (h : Only g a b) (k : Only g b c) : Only g a c :=
 ⟨k.os.trans h.os, k.tape.trans h.tape, k.output.trans h.output, La h.size k.size, fun i hi hne => (k.block i (KA hi h.size) hne).trans (h.block i hi hne)⟩
theorem Only.set {g : Nat} (w : World) (k : Nat) (v : Value) : Only g w (w.setCell ⟨g, k, none⟩ v) :=
 ⟨rfl, rfl, rfl, by simp [World.setCell], fun i _ hne => Below.heap_setCell w _ v i (fun e => hne (by rw [e]))⟩
theorem Only.gr {g : Nat} {a b c : World} (hab : Gr a b) (h : Only g b c) (hg : a.heap.size ≤ g) : Gr a c :=
 ⟨h.os.trans hab.os, h.tape.trans hab.tape, h.output.trans hab.output, La hab.size h.size, fun i hi => (h.block i (KA hi hab.size) (fun e => by injection e with e; omega)).trans (hab.block i hi)⟩
end Go.Proofs.YtaoicebcdmpemaaGreat
namespace Go.Proofs.YtaoicebcdmpemaaGreat
set_option maxRecDepth 20000
set_option maxHeartbeats 1000000
open Go.RowKit Mono
open Kec (L St rotl)
def takeB (f : St) (k : Nat) (b : Nat) : St := Kec.upd f (k / 8) (f (k / 8) ^^^ (BitVec.ofNat 64 b) <<< (8 * (k % 8)))
theorem Am (n : Nat) (h : n < 256) : u (BitVec.ofNat 64 n) = (n : Int) := by
 unfold u
 rw [BitVec.toNat_ofNat]
 omega
def Fq (R : World → Prop) (e : Ending) (w' : World) : Prop := e = .returned (.tuple #[]) ∧ R w'
theorem oz (g : Nat) (t : TypeId) (f : St) (k n : Nat) (hk : k < 136) (hn : n < 256) (w : World) (hl : aB w g t 25 f) :
  Calls Tryz.prog 142 #[.pointer (some ⟨g, 0, none⟩), .int .i64 k, .int .u8 n] w (Fq fun w' => aB w' g t 25 (takeB f k n) ∧ Only g w w') := by
 have hg := hl.lt
 have c1 := au (w := w) (p := ⟨g, k / 8, none⟩) hg (hl.cell (k / 8) (by omega))
 unfold lv at c1
 have hu := ku (f (k / 8))
 have hu0 := hu.1
 have HL := Lib.hid hl
 clear hl hu
 go_enter Tryz.func142, Tryz.ntmps142
 go_wp2
 refine aS 15 (by kernel_rfl) (by kernel_rfl) (by kernel_rfl) ?_
 simp only [J5, J9, J4, J7]
 refine aT 15 (by kernel_rfl) ?_
 simp only [J5, J9, J4, J7]
 repeat (go_big_quiet_step (fail))
 refine wpQuiet_nil ?_
 refine cu (by kernel_rfl) ?_
 intro W hW
 replace hW := hW.gr
 unfold jI
 have HW := Lib.hid (HL.out.gr hW)
 have e1 := HW.out.cell (k / 8) (by omega)
 have e2 := HW.out.frozen (k / 8)
 unfold lv at e1
 go_wp2
 refine bodyPost_ret (results_none rfl _ _ _) rfl ⟨rfl, ?_⟩
 have hv : Value.int .u64 (bits .xor .u64 (u (f (k / 8))) (IntKind.u64.wrap ((n : Int) * 2 ^ (8 * (k % 8))))) = lv (f (k / 8) ^^^ (BitVec.ofNat 64 n) <<< (8 * (k % 8))) := by
  rw [← Am n hn, xW, iK]
  rfl
 rw [hv]
 exact ⟨HW.out.set _ _, (Only.qx hW g).trans (Only.set _ _ _)⟩
def dH : Array Value := ((List.range 25).map fun k => Value.int .i64 (Kec.turn k)).toArray
def Turns (w : World) (g : Nat) (t : TypeId) : Prop := w.heap[g]? = some (.cells dH t (0, 0))
theorem Turns.cell {w : World} {g : Nat} {t : TypeId} (h : Turns w g t) (k : Nat) (hk : k < 25) : w.cell? ⟨g, k, none⟩ = some (.int .i64 (Kec.turn k)) := by
 rw [cell_of_row w g k _ t (0, 0) h]
 simp [dH, hk]
theorem Turns.lt {w : World} {g : Nat} {t : TypeId} (h : Turns w g t) : g < w.heap.size := by
 rcases KP g w.heap.size with h1 | h1
 · exact h1
 · unfold Turns at h; rw [Array.getElem?_eq_none h1] at h; cases h
theorem Turns.gr {w w' : World} {g : Nat} {t : TypeId} (h : Turns w g t) (hg : Gr w w') : Turns w' g t := (hg.block g h.lt).trans h
theorem DY : ∀ k, k < 25 → Kec.turn k < 64 := by decide
theorem AZ : ∀ k, k < 25 → Kec.place k < 25 := by decide
def aZ (f : St) (n : Nat) : St := fun j => if j < n then f j else 0
theorem fU (f : St) (n : Nat) : Kec.upd (aZ f n) n (f n) = aZ f (n + 1) := by
 funext j
 unfold Kec.upd aZ
 by_cases h : j = n
 · subst h; rw [if_pos rfl, if_pos (by omega)]
 ·
  rw [if_neg h]
  by_cases h2 : j < n
  · rw [if_pos h2, if_pos (by omega)]
  · rw [if_neg h2, if_neg (by omega)]
theorem fQ (f : St) : aZ f 0 = fun _ => 0 := by funext j; simp [aZ]
theorem dX (w : World) (t : TypeId) (n : Nat) (c : Array Value) (h : c = cellsOf (fun _ => 0) n) : aB (w.alloc (.cells c t)) w.heap.size t n (fun _ => 0) := by
 subst h
 unfold aB World.alloc
 simp
theorem F8 (x : L) : bits .xor .u64 (if IntKind.u64.signed = true then -1 else IntKind.u64.max) (u x) = u (~~~x) := by
 have h : (if IntKind.u64.signed = true then -1 else IntKind.u64.max) = u (BitVec.allOnes 64) := rfl
 rw [h, iK, BitVec.allOnes_xor]
theorem lI (w : World) (o : Obj) : (w.alloc o).heap.size = w.heap.size + 1 := by simp
theorem F9 (s : St) (k : Nat) : bits .xor .u64 (bits .xor .u64 (bits .xor .u64 (bits .xor .u64 (u (s k)) (u (s (k + 5)))) (u (s (k + 10)))) (u (s (k + 15)))) (u (s (k + 20))) = u (Kec.col s k) := by
 simp only [iK]
 rfl
theorem zC (g gt : Nat) (t tt : TypeId) (s : St) (n : L) (w : World) (hl : aB w g t 25 s) (ht : Turns w gt tt) :
  Calls Tryz.prog 171 #[.pointer (some ⟨g, 0, none⟩), .pointer (some ⟨gt, 0, none⟩), .int .u64 (u n)] w (Fq fun w' => aB w' g t 25 (Kec.round s n) ∧ Only g w w') := by
 have hg := hl.lt
 have hgt := ht.lt
 have HL := Lib.hid hl
 have HT := Lib.hid ht
 clear hl ht
 go_enter Tryz.func171, Tryz.ntmps171
 go_wp2
 go_loopw [17] (fun i wr => ∃ k : Nat, k ≤ 5 ∧ i = .int .i64 k ∧ aB wr w.heap.size 218 5 (aZ (Kec.col s) k) ∧ aB wr (w.heap.size + 1) 218 5 (fun _ => 0) ∧ Gr w wr) (fun i _ => 5 - (intOf i).toNat)
 case atStart =>
  refine ⟨0, by omega, rfl, ?_, ?_, ?_⟩
  ·
   rw [fQ]
   exact (dX w 218 5 _ rfl).alloc _
  ·
   have := dX (w.alloc (.cells #[.int .u64 0, .int .u64 0, .int .u64 0, .int .u64 0, .int .u64 0] 218)) 218 5 _ rfl
   rw [lI] at this
   exact this
  · exact (aH w _).trans (aH _ _)
 case round =>
  obtain ⟨k, hk, rfl, hc, hd, hb⟩ := hrel
  have hbs := hb.size
  have HC := Lib.hid hc
  have HD := Lib.hid hd
  have HB := Lib.hid hb
  have hcl := hc.lt
  have hdl := hd.lt
  clear hc hd hb
  by_cases h1 : k < 5
  ·
   have c0 := au (w := wr) (p := ⟨g, k, none⟩) (by dsimp only; omega) ((HL.out.gr HB.out).cell k (by omega))
   have c1 := au (w := wr) (p := ⟨g, k + 5, none⟩) (by dsimp only; omega) ((HL.out.gr HB.out).cell (k + 5) (by omega))
   have c2 := au (w := wr) (p := ⟨g, k + 10, none⟩) (by dsimp only; omega) ((HL.out.gr HB.out).cell (k + 10) (by omega))
   have c3 := au (w := wr) (p := ⟨g, k + 15, none⟩) (by dsimp only; omega) ((HL.out.gr HB.out).cell (k + 15) (by omega))
   have c4 := au (w := wr) (p := ⟨g, k + 20, none⟩) (by dsimp only; omega) ((HL.out.gr HB.out).cell (k + 20) (by omega))
   unfold lv at c0 c1 c2 c3 c4
   go_wp2
   refine aS 35 (by kernel_rfl) (by kernel_rfl) (by kernel_rfl) ?_
   simp only [J5, J9, J4, J7]
   refine aT 35 (by kernel_rfl) ?_
   simp only [J5, J9, J4, J7]
   repeat (go_big_quiet_step (fail))
   refine wpQuiet_nil ?_
   refine cu (by kernel_rfl) ?_
   intro W hW
   replace hW := hW.gr
   unfold jI
   rename_i wq hW
   have HQ := Lib.hid (HC.out.gr hW)
   have e2 := HQ.out.frozen k
   have e1 := HQ.out.cell k (by omega)
   unfold lv at e1
   go_wp2
   go_roundw
   case rel =>
    rw [F9]
    refine ⟨k + 1, by omega, by go_num, ?_, ?_, ?_⟩
    ·
     rw [← fU]
     exact HQ.out.set k (Kec.col s k)
    · exact ((HD.out.gr hW)).far (by simp) _
    · exact (Only.set (g := w.heap.size) _ k _).gr (HB.out.trans hW) (Nat.le_refl _)
   case measure => simp [intOf]; omega
  ·
   have h5 : k = 5 := by omega
   subst h5
   go_wp2_with fail
   obtain ⟨wo, rfl⟩ : ∃ wo : World, wo = wr := ⟨_, rfl⟩
   go_loopw [56] (fun i wr => ∃ k : Nat, k ≤ 5 ∧ i = .int .i64 k ∧ aB wr w.heap.size 218 5 (aZ (Kec.col s) 5) ∧ aB wr (w.heap.size + 1) 218 5 (aZ (Kec.dd s) k) ∧ Gr w wr) (fun i _ => 5 - (intOf i).toNat)
   case atStart => exact ⟨0, by omega, rfl, HC.out, by rw [fQ]; exact HD.out, HB.out⟩
   case round =>
    clear HB HC HD
    obtain ⟨k, hk, rfl, hc, hd, hb⟩ := hrel
    have hbs := hb.size
    have HC := Lib.hid hc
    have HD := Lib.hid hd
    have HB := Lib.hid hb
    have hcl := hc.lt
    have hdl := hd.lt
    clear hc hd hb
    by_cases h1 : k < 5
    ·
     have c0 := au (w := wr) (p := ⟨w.heap.size, (k + 4) % 5, none⟩) (by dsimp only; omega) (HC.out.cell ((k + 4) % 5) (by omega))
     have c1 := au (w := wr) (p := ⟨w.heap.size, (k + 1) % 5, none⟩) (by dsimp only; omega) (HC.out.cell ((k + 1) % 5) (by omega))
     unfold lv at c0 c1
     go_wp2
     refine aS 14 (by kernel_rfl) (by kernel_rfl) (by kernel_rfl) ?_
     simp only [J5, J9, J4, J7]
     refine aT 11 (by kernel_rfl) ?_
     simp only [J5, J9, J4, J7]
     repeat (go_big_quiet_step (fail))
     refine wpQuiet_nil ?_
     refine mO (.int .u64 (u (rotl (aZ (Kec.col s) 5 ((k + 1) % 5)) 1))) rfl (by kernel_rfl) (by kernel_rfl) (fun xw => ?_) ?_
     ·
      refine eY (by simp [go_sem]) ((rotate (aZ (Kec.col s) 5 ((k + 1) % 5)) 1 (by omega) _).mono ?_)
      rintro e w' ⟨rfl, rfl⟩
      exact ⟨_, rfl, Gr.refl _, rfl⟩
     simp only [Act.put, MP, L9, MJ]
     refine aT 2 (by kernel_rfl) ?_
     simp only [J5, J9, J4, J7]
     repeat (go_big_quiet_step (fail))
     refine wpQuiet_nil ?_
     refine cu (by kernel_rfl) ?_
     intro W hW
     replace hW := hW.gr
     unfold jI
     rename_i wq hW
     have HQ := Lib.hid (HD.out.gr hW)
     have e2 := HQ.out.frozen k
     have e1 := HQ.out.cell k (by omega)
     unfold lv at e1
     go_wp2
     go_roundw
     case rel =>
      have hf : u (aZ (Kec.col s) 5 ((k + 4) % 5)) = u (Kec.col s ((k + 4) % 5)) := by unfold aZ; rw [if_pos (by omega)]
      have hf1 : aZ (Kec.col s) 5 ((k + 1) % 5) = Kec.col s ((k + 1) % 5) := by unfold aZ; rw [if_pos (by omega)]
      rw [hf, hf1, iK]
      refine ⟨k + 1, by omega, by go_num, ?_, ?_, ?_⟩
      · exact (HC.out.gr hW).far (by simp) _
      ·
       rw [← fU]
       exact HQ.out.set k (Kec.dd s k)
      · exact (Only.set (g := w.heap.size + 1) _ k _).gr (HB.out.trans hW) (by omega)
     case measure => simp [intOf]; omega
    ·
     have h5 : k = 5 := by omega
     subst h5
     go_wp2_with fail
     obtain ⟨wo, rfl⟩ : ∃ wo : World, wo = wr := ⟨_, rfl⟩
     go_loopw [74] (fun i wr => ∃ k : Nat, k ≤ 25 ∧ i = .int .i64 k ∧ aB wr (w.heap.size + 1) 218 5 (aZ (Kec.dd s) 5) ∧ aB wr wo.heap.size 215 25 (Kec.bb s k) ∧ Gr w wr) (fun i _ => 25 - (intOf i).toNat)
     case atStart => exact ⟨0, by omega, rfl, HD.out.alloc _, dX wo 215 25 _ rfl, HB.out.trans (aH _ _)⟩
     case round =>
      clear HB HC HD
      obtain ⟨k, hk, rfl, hd, he, hb⟩ := hrel
      have hbs2 := hb.size
      have HE := Lib.hid he
      have HD := Lib.hid hd
      have HB := Lib.hid hb
      have hel := he.lt
      clear he hd hb
      by_cases h1 : k < 25
      ·
       have c0 := au (w := wr) (p := ⟨g, k, none⟩) (by dsimp only; omega) ((HL.out.gr HB.out).cell k (by omega))
       have c1 := au (w := wr) (p := ⟨w.heap.size + 1, k % 5, none⟩) (by dsimp only; omega) (HD.out.cell (k % 5) (by omega))
       have c2 := au (w := wr) (p := ⟨gt, k, none⟩) (by dsimp only; omega) ((HT.out.gr HB.out).cell k (by omega))
       unfold lv at c0 c1
       go_wp2
       refine aS 25 (by kernel_rfl) (by kernel_rfl) (by kernel_rfl) ?_
       simp only [J5, J9, J4, J7]
       refine aT 23 (by kernel_rfl) ?_
       simp only [J5, J9, J4, J7]
       repeat (go_big_quiet_step (fail))
       refine wpQuiet_nil ?_
       refine mO (.int .u64 (u (rotl (s k ^^^ aZ (Kec.dd s) 5 (k % 5)) (Kec.turn k)))) rfl (by kernel_rfl) (by kernel_rfl) (fun xw => ?_) ?_
       ·
        refine eY (by simp [go_sem, iK]) ((rotate (s k ^^^ aZ (Kec.dd s) 5 (k % 5)) (Kec.turn k) (DY k h1) _).mono ?_)
        rintro e w' ⟨rfl, rfl⟩
        exact ⟨_, rfl, Gr.refl _, rfl⟩
       simp only [Act.put, MP, L9, MJ]
       refine aT 1 (by kernel_rfl) ?_
       simp only [J5, J9, J4, J7]
       repeat (go_big_quiet_step (fail))
       refine wpQuiet_nil ?_
       refine cu (by kernel_rfl) ?_
       intro W hW
       replace hW := hW.gr
       unfold jI
       rename_i wq hW
       have HQ := Lib.hid (HE.out.gr hW)
       have e2 := HQ.out.frozen (Kec.place k)
       have e1 := HQ.out.cell (Kec.place k) (AZ k h1)
       unfold lv at e1
       unfold Kec.place at e1 e2
       go_wp2
       go_roundw
       case rel =>
        have hv : u (rotl (s k ^^^ aZ (Kec.dd s) 5 (k % 5)) (Kec.turn k)) = u (rotl (s k ^^^ Kec.dd s (k % 5)) (Kec.turn k)) := by
         unfold aZ
         rw [if_pos (by omega)]
        rw [hv]
        refine ⟨k + 1, by omega, by go_num, ?_, ?_, ?_⟩
        · exact (HD.out.gr hW).far (by dsimp only; omega) _
        · exact HQ.out.set (Kec.place k) _
        · exact (Only.set (g := wo.heap.size) _ (Kec.place k) _).gr (HB.out.trans hW) (by omega)
       case measure => simp [intOf]; omega
      ·
       have h5 : k = 25 := by omega
       subst h5
       go_wp2_with fail
       obtain ⟨wo2, rfl⟩ : ∃ wo : World, wo = wr := ⟨_, rfl⟩
       go_loopw [107] (fun i wr => ∃ k : Nat, k ≤ 25 ∧ i = .int .i64 k ∧ aB wr wo.heap.size 215 25 (Kec.bb s 25) ∧ aB wr g t 25 (Kec.ss (Kec.bb s 25) s k) ∧ Only g w wr) (fun i _ => 25 - (intOf i).toNat)
       case atStart => exact ⟨0, by omega, rfl, HE.out, HL.out.gr HB.out, Only.qx HB.out g⟩
       case round =>
        clear HB HE HD
        obtain ⟨k, hk, rfl, he, hl, ho⟩ := hrel
        have hbs3 := ho.size
        have HE := Lib.hid he
        have HM := Lib.hid hl
        have HO := Lib.hid ho
        have hel := he.lt
        clear he hl ho
        by_cases h1 : k < 25
        ·
         have c0 := au (w := wr) (p := ⟨wo.heap.size, k, none⟩) (by dsimp only; omega) (HE.out.cell k (by omega))
         have c1 := au (w := wr) (p := ⟨wo.heap.size, (k + 1) % 5 + k / 5 * 5, none⟩) (by dsimp only; omega) (HE.out.cell ((k + 1) % 5 + k / 5 * 5) (by omega))
         have c2 := au (w := wr) (p := ⟨wo.heap.size, (k + 2) % 5 + k / 5 * 5, none⟩) (by dsimp only; omega) (HE.out.cell ((k + 2) % 5 + k / 5 * 5) (by omega))
         unfold lv at c0 c1 c2
         go_wp2
         refine aS 24 (by kernel_rfl) (by kernel_rfl) (by kernel_rfl) ?_
         simp only [J5, J9, J4, J7]
         refine aT 24 (by kernel_rfl) ?_
         simp only [J5, J9, J4, J7]
         repeat (go_big_quiet_step (fail))
         refine wpQuiet_nil ?_
         refine cu (by kernel_rfl) ?_
         intro W hW
         replace hW := hW.gr
         unfold jI
         rename_i wq hW
         have HQ := Lib.hid (HM.out.gr hW)
         have e2 := HQ.out.frozen k
         have e1 := HQ.out.cell k (by omega)
         unfold lv at e1
         go_wp2
         go_roundw
         case rel =>
          have hv : u (Kec.bb s 25 k ^^^ (~~~ Kec.bb s 25 ((k + 1) % 5 + k / 5 * 5) &&& Kec.bb s 25 ((k + 2) % 5 + k / 5 * 5))) = u (Kec.chi (Kec.bb s 25) k) := by
           unfold Kec.chi
           rw [show (k % 5 + 1) % 5 = (k + 1) % 5 by omega, show (k % 5 + 2) % 5 = (k + 2) % 5 by omega]
          rw [F8, Ap, iK, hv]
          refine ⟨k + 1, by omega, by go_num, ?_, ?_, ?_⟩
          · exact (HE.out.gr hW).far (by dsimp only; omega) _
          · exact HQ.out.set k _
          · exact (HO.out.trans (Only.qx hW g)).trans (Only.set _ _ _)
         case measure => simp [intOf]; omega
        ·
         have h5 : k = 25 := by omega
         subst h5
         have c0 := au (w := wr) (p := ⟨g, 0, none⟩) (by dsimp only; omega) (HM.out.cell 0 (by omega))
         unfold lv at c0
         go_wp2
         refine aS 8 (by kernel_rfl) (by kernel_rfl) (by kernel_rfl) ?_
         simp only [J5, J9, J4, J7]
         refine aT 8 (by kernel_rfl) ?_
         simp only [J5, J9, J4, J7]
         repeat (go_big_quiet_step (fail))
         refine wpQuiet_nil ?_
         refine cu (by kernel_rfl) ?_
         intro W hW
         replace hW := hW.gr
         unfold jI
         rename_i wq hW
         have HQ := Lib.hid (HM.out.gr hW)
         have e2 := HQ.out.frozen 0
         have e1 := HQ.out.cell 0 (by omega)
         unfold lv at e1
         go_wp2
         refine bodyPost_ret (results_none rfl _ _ _) rfl ⟨rfl, ?_⟩
         rw [iK]
         exact ⟨HQ.out.set 0 _, (HO.out.trans (Only.qx hW g)).trans (Only.set _ _ _)⟩
end Go.Proofs.YtaoicebcdmpemaaGreat
