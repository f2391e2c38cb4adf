/-
  Merged (wip/tools/merge.py): KecSponge, KecSum, KecKeccak, TS2, EN, ET, TE.
  Conditions: none.
-/
import Derived.Test.YtmlajcbabimkjaaZT11
import Derived.Test.YtmlajcbabimkjaaZT10
import Derived.Test.YtmlajcbabimkjaaZT2
import Derived.Test.YtmlajcbabimkjaaZT7
import Derived.Test.YtmlajcbabimkjaaZT8
import Derived.Maps.RangeRun
/-
  Keccak in plain words: bytes are taken in; the program's way and the reference's are one.
  Conditions: none. No program is named here.
-/
namespace Go.Proofs.Ytmlajcbabimkjaa
open Kec (L St rotl Same)
def absorbG (P : St → St) (p : St × Nat) (b : UInt8) : St × Nat := if p.2 + 1 = 136 then (P (takeB p.1 p.2 b.toNat), 0) else (takeB p.1 p.2 b.toNat, p.2 + 1)
def absorb (p : St × Nat) (b : UInt8) : St × Nat := absorbG (fun s => Kec.perm s 24) p b
def absorbs (l : List UInt8) : St × Nat := l.foldl absorb (fun _ => 0, 0)
def sponge (l : List UInt8) : St := Kec.perm (takeB (takeB (absorbs l).1 (absorbs l).2 1) 135 128) 24
theorem absorbs_snoc (l : List UInt8) (b : UInt8) : absorbs (l ++ [b]) = absorb (absorbs l) b := by simp [absorbs]
theorem absorbG_lt (P : St → St) (p : St × Nat) (b : UInt8) (h : p.2 < 136) : (absorbG P p b).2 < 136 := by
  unfold absorbG
  split
  · simp
  · dsimp only; omega
theorem absorb_lt (p : St × Nat) (b : UInt8) (h : p.2 < 136) : (absorb p b).2 < 136 := absorbG_lt _ p b h
theorem absorbs_lt' (l : List UInt8) : ∀ p : St × Nat, p.2 < 136 → (l.foldl absorb p).2 < 136 := by
  induction l with
  | nil => exact fun _ h => h
  | cons b l ih => exact fun p h => ih _ (absorb_lt p b h)
theorem absorbs_lt (l : List UInt8) : (absorbs l).2 < 136 := absorbs_lt' l _ (by simp)
theorem take_flat (ms : List (List UInt8)) (k : Nat) (h : k < ms.length) : (ms.take (k + 1)).flatten = (ms.take k).flatten ++ ms[k] := by
  rw [List.take_succ_eq_append_getElem h, List.flatten_append]
  simp only [List.flatten_cons, List.flatten_nil, List.append_nil]
theorem take_snoc (pre m : List UInt8) (j : Nat) (h : j < m.length) : absorbs (pre ++ m.take (j + 1)) = absorb (absorbs (pre ++ m.take j)) m[j] := by
  rw [List.take_succ_eq_append_getElem h, ← List.append_assoc, absorbs_snoc]
/-! ### The place -/
theorem absorb_at (p : St × Nat) (b : UInt8) (h : p.2 < 136) : (absorb p b).2 = (p.2 + 1) % 136 := by
  unfold absorb absorbG
  split
  · dsimp only; omega
  · dsimp only; omega
theorem fold_at (l : List UInt8) : ∀ p : St × Nat, p.2 < 136 → (l.foldl absorb p).2 = (p.2 + l.length) % 136 := by
  induction l with
  | nil => intro p h; simp; omega
  | cons b l ih =>
    intro p h
    rw [List.foldl_cons, ih _ (absorb_lt p b h), absorb_at p b h, List.length_cons]
    omega
theorem absorbs_at (l : List UInt8) : (absorbs l).2 = l.length % 136 := by
  have := fold_at l (fun _ => 0, 0) (by simp)
  simpa [absorbs] using this
/-! ### The padding -/
theorem takeB_zero (f : St) (k : Nat) : takeB f k 0 = f := by
  funext j
  unfold takeB Kec.upd
  split
  · subst_vars; simp
  · rfl
def pad (r : Nat) : List UInt8 := if r = 135 then [129] else 1 :: (List.replicate (134 - r) 0 ++ [128])
theorem fold_zeros : ∀ (n : Nat) (s : St) (k : Nat), k + n ≤ 135 → (List.replicate n (0 : UInt8)).foldl absorb (s, k) = (s, k + n)
  | 0, _, _, _ => rfl
  | n + 1, s, k, h => by
    rw [List.replicate_succ, List.foldl_cons]
    have : absorb (s, k) 0 = (s, k + 1) := by
      unfold absorb absorbG
      rw [if_neg (by dsimp only; omega)]
      dsimp only
      rw [show UInt8.toNat 0 = 0 from rfl, takeB_zero]
    rw [this, fold_zeros n s (k + 1) (by omega)]
    congr 1
    omega
theorem takeB_last (s : St) : takeB (takeB s 135 1) 135 128 = takeB s 135 129 := by
  funext j
  unfold takeB Kec.upd
  split
  · subst_vars
    simp only [if_true]
    rw [BitVec.xor_assoc]
    rfl
  · rfl
theorem fold_pad (s : St) (r : Nat) (h : r < 136) : (pad r).foldl absorb (s, r) = (Kec.perm (takeB (takeB s r 1) 135 128) 24, 0) := by
  unfold pad
  by_cases hr : r = 135
  · subst hr
    rw [if_pos rfl, List.foldl_cons, List.foldl_nil]
    unfold absorb absorbG
    rw [if_pos rfl, takeB_last]
    rfl
  · rw [if_neg hr, List.foldl_cons, List.foldl_append]
    have h1 : absorb (s, r) 1 = (takeB s r 1, r + 1) := by
      unfold absorb absorbG
      rw [if_neg (by dsimp only; omega)]
      rfl
    rw [h1, fold_zeros _ _ _ (by omega), show r + 1 + (134 - r) = 135 by omega, List.foldl_cons, List.foldl_nil]
    unfold absorb absorbG
    rw [if_pos rfl]
    rfl
theorem sponge_pad (l : List UInt8) : absorbs (l ++ pad (l.length % 136)) = (sponge l, 0) := by
  unfold absorbs
  rw [List.foldl_append]
  have h : List.foldl absorb (fun _ => 0, 0) l = ((absorbs l).1, l.length % 136) := by rw [← absorbs_at]; rfl
  rw [h, fold_pad _ _ (by omega)]
  unfold sponge
  rw [absorbs_at]
/-! ### The reference's way -/
def rtake (g : Nat → Nat) (s : St) : Nat → St
  | 0 => s
  | i + 1 => takeB (rtake g s i) i (g i)
def rabs (m : List UInt8) : Nat → St
  | 0 => fun _ => 0
  | j + 1 => Kec.rperm (rtake (fun i => (m.getD (136 * j + i) 0).toNat) (rabs m j) 136) 24
def rabsorb (p : St × Nat) (b : UInt8) : St × Nat := absorbG (fun s => Kec.rperm s 24) p b
theorem take_getD (m : List UInt8) (k : Nat) (h : k < m.length) : m.take (k + 1) = m.take k ++ [m.getD k 0] := by
  rw [List.take_succ_eq_append_getElem h]
  simp [h]
theorem rabs_in (m : List UInt8) (j : Nat) (hj : 136 * j + 136 ≤ m.length) (h0 : (m.take (136 * j)).foldl rabsorb (fun _ => 0, 0) = (rabs m j, 0)) :
    ∀ i, i ≤ 135 → (m.take (136 * j + i)).foldl rabsorb (fun _ => 0, 0) = (rtake (fun i => (m.getD (136 * j + i) 0).toNat) (rabs m j) i, i)
  | 0, _ => h0
  | i + 1, hi => by
    rw [← Nat.add_assoc, take_getD m _ (by omega), List.foldl_append, rabs_in m j hj h0 i (by omega), List.foldl_cons, List.foldl_nil]
    unfold rabsorb absorbG
    rw [if_neg (by dsimp only; omega)]
    rfl
theorem rabs_all (m : List UInt8) : ∀ j, 136 * j ≤ m.length → (m.take (136 * j)).foldl rabsorb (fun _ => 0, 0) = (rabs m j, 0)
  | 0, _ => rfl
  | j + 1, h => by
    have h0 := rabs_in m j (by omega) (rabs_all m j (by omega)) 135 (by omega)
    rw [show 136 * (j + 1) = 136 * j + 135 + 1 by omega, take_getD m _ (by omega), List.foldl_append, h0, List.foldl_cons, List.foldl_nil]
    unfold rabsorb absorbG
    rw [if_pos rfl]
    rfl
theorem takeB_same {a b : St} (h : Same a b) (k v : Nat) (hk : k < 136) : Same (takeB a k v) (takeB b k v) := h.upd _ (by rw [h _ (by omega)])
theorem fold_same (l : List UInt8) : ∀ p q : St × Nat, p.2 < 136 → p.2 = q.2 → Same p.1 q.1 → Same (l.foldl absorb p).1 (l.foldl rabsorb q).1 := by
  induction l with
  | nil => exact fun _ _ _ _ h => h
  | cons b l ih =>
    intro p q hp hpq h
    rw [List.foldl_cons, List.foldl_cons]
    obtain ⟨s, k⟩ := p
    obtain ⟨t, k'⟩ := q
    dsimp only at hp hpq h
    subst hpq
    unfold absorb rabsorb absorbG
    dsimp only
    by_cases hk : k + 1 = 136
    · rw [if_pos hk, if_pos hk]
      have hs := Kec.perm_same (takeB_same h k b.toNat hp) 24 (by omega)
      generalize Kec.perm (takeB s k b.toNat) 24 = x at hs ⊢
      generalize Kec.rperm (takeB t k b.toNat) 24 = y at hs ⊢
      exact ih (x, 0) (y, 0) (Nat.zero_lt_succ _) rfl hs
    · rw [if_neg hk, if_neg hk]
      exact ih _ _ (by dsimp only; omega) rfl (takeB_same h k _ hp)
theorem sponge_same (l m : List UInt8) (j : Nat) (hm : m = l ++ pad (l.length % 136)) (hj : 136 * j = m.length) : Same (sponge l) (rabs m j) := by
  have h1 := rabs_all m j (by omega)
  rw [hj, List.take_length] at h1
  have h2 := fold_same m (fun _ => 0, 0) (fun _ => 0, 0) (by simp) rfl (Same.refl _)
  rw [h1] at h2
  have h3 := sponge_pad l
  rw [← hm] at h3
  unfold absorbs at h3
  rw [h3] at h2
  exact h2
def zeros (l : List UInt8) (n : Nat) : List UInt8 := l ++ 1 :: List.replicate n 0
theorem zeros_length (l : List UInt8) (n : Nat) : (zeros l n).length = l.length + 1 + n := by simp [zeros]; omega
theorem zeros_snoc (l : List UInt8) (n : Nat) : zeros l n ++ [0] = zeros l (n + 1) := by
  unfold zeros
  rw [List.append_assoc, List.cons_append, ← List.replicate_succ']
theorem zeros_set (l : List UInt8) (n : Nat) (hn : n = 135 - l.length % 136) : (zeros l n).set ((zeros l n).length - 1) ((zeros l n).getD ((zeros l n).length - 1) 0 ||| 128) = l ++ pad (l.length % 136) := by
  rw [zeros_length]
  unfold zeros pad
  by_cases hr : l.length % 136 = 135
  · have h0 : n = 0 := by omega
    subst h0
    rw [if_pos hr]
    have : (1 ||| 128 : UInt8) = 129 := by decide
    simp [this]
  · have h1 : n = 134 - l.length % 136 + 1 := by omega
    rw [if_neg hr]
    generalize 134 - l.length % 136 = k at *
    subst h1
    rw [List.replicate_succ', show l ++ 1 :: (List.replicate k 0 ++ [0]) = (l ++ 1 :: List.replicate k (0 : UInt8)) ++ [0] by simp, show l.length + 1 + (k + 1) - 1 = (l ++ 1 :: List.replicate k (0 : UInt8)).length by simp; omega]
    simp
/-! ### The sum's bytes -/
def outB (f : St) (k : Nat) : UInt8 := UInt8.ofNat (f (k / 8) >>> (8 * (k % 8))).toNat
def outL (f : St) : List UInt8 := (List.range 32).map (outB f)
theorem outL_same {a b : St} (h : Same a b) : outL a = outL b := by
  unfold outL
  refine List.map_congr_left fun k hk => ?_
  have := List.mem_range.1 hk
  unfold outB
  rw [h _ (by omega)]
def hash (l : List UInt8) : List UInt8 := outL (sponge l)
theorem hash_length (l : List UInt8) : (hash l).length = 32 := by simp [hash, outL]
end Go.Proofs.Ytmlajcbabimkjaa
/-
  keccak.Sum.
  Conditions: none.
-/
namespace Go.Proofs.Ytmlajcbabimkjaa
open Go.RowKit Mono
open Kec (L St rotl)
def outV (f : St) (k : Nat) : Value := .int .u8 (((f (k / 8) >>> (8 * (k % 8))).toNat % 256 : Nat) : Int)
def outC (f : St) (n : Nat) : Array Value := ((List.range 32).map fun k => if k < n then outV f k else .int .u8 0).toArray
def Out (w : World) (g : Nat) (f : St) (n : Nat) : Prop := w.heap[g]? = some (.cells (outC f n) 32 (0, 0))
theorem Out.lt {w : World} {g : Nat} {f : St} {n : Nat} (h : Out w g f n) : g < w.heap.size := by
  rcases Nat.lt_or_ge g w.heap.size with h1 | h1
  · exact h1
  · unfold Out at h; rw [Array.getElem?_eq_none h1] at h; cases h
theorem Out.cell {w : World} {g : Nat} {f : St} {n : Nat} (h : Out w g f n) (hn : n < 32) : w.cell? ⟨g, n, none⟩ = some (.int .u8 0) := by
  rw [cell_of_row w g n _ 32 (0, 0) h]
  simp [outC, hn]
theorem Out.frozen {w : World} {g : Nat} {f : St} {n : Nat} (h : Out w g f n) (k : Nat) : w.frozen? ⟨g, k, none⟩ = false := by
  unfold Out at h
  simp [World.frozen?, h]
theorem outC_set (f : St) (n : Nat) : (outC f n).setIfInBounds n (outV f n) = outC f (n + 1) := by
  apply Array.ext_getElem?
  intro i
  rw [Array.getElem?_setIfInBounds]
  unfold outC
  by_cases hi : i < 32
  · by_cases hk : n = i
    · subst hk
      simp [hi]
    · rw [if_neg hk]
      simp only [List.getElem?_toArray, List.getElem?_map, List.getElem?_range hi, Option.map_some, Option.some.injEq]
      by_cases h2 : i < n
      · rw [if_pos h2, if_pos (by omega)]
      · rw [if_neg h2, if_neg (by omega)]
  · simp [hi]
    omega
theorem Out.set {w : World} {g : Nat} {f : St} {n : Nat} (h : Out w g f n) : Out (w.setCell ⟨g, n, none⟩ (outV f n)) g f (n + 1) := by
  unfold Out at h ⊢
  simp [World.setCell, Array.getElem?_modify, h, outC_set]
theorem outC_size (f : St) (n : Nat) : (outC f n).size = 32 := by simp [outC]
theorem outC_size2 (f g : St) (n m : Nat) : (outC f n).size = (outC g m).size := by rw [outC_size, outC_size]
theorem outC_info (f : St) (n : Nat) : (Try.prog.info? 32).map (·.size) = some (outC f n).size := by
  rw [outC_size]
  kernel_rfl
theorem outC_one (f : St) (n : Nat) : (outC f n).all (·.oneCell') = true := by
  simp only [outC, List.all_toArray, List.all_eq_true, List.mem_map]
  rintro x ⟨k, _, rfl⟩
  split <;> rfl
theorem out_val (f : St) (k : Nat) : Value.int .u8 (u (f (k / 8)) / 2 ^ (8 * (k % 8)) % 256) = outV f k := by
  rw [u_shr]
  unfold outV u
  simp
set_option maxRecDepth 20000 in
set_option maxHeartbeats 1000000 in
theorem kec_sum (v : Value) (ms : List (List UInt8)) (w : World) (h : IsBB w v ms) : Calls Try.prog 63 #[v] w (Ret (fun v' _ => v' = .agg (outC (sponge ms.flatten) 32)) w) := by
  obtain ⟨A, c, vals, rfl, hc1, hc2, hlen, hrd, hel⟩ := h
  unfold maxLen at hc2
  have HRD := Lib.hid hrd
  have HEL := Lib.hid hel
  have HLEN := Lib.hid hlen
  clear hrd hel hlen
  go_enter Try.func63, Try.ntmps63
  go_wp2
  go_loopw [4, 13] (fun at_ i wr => ∃ k : Nat, k ≤ ms.length ∧ i = .int .i64 k ∧ at_ = .int .i64 ((absorbs (ms.take k).flatten).2 : Nat) ∧ Lanes wr (w.heap.size + 1) 176 25 (absorbs (ms.take k).flatten).1 ∧ Out wr w.heap.size (fun _ => 0) 0 ∧ Gr w wr) (fun _ i _ => ms.length - (intOf i).toNat)
  case atStart =>
    refine ⟨0, by omega, rfl, rfl, ?_, ?_, (gr_alloc w _).trans (gr_alloc _ _)⟩
    · have := lanes_new (w.alloc (.cells (outC (fun _ => 0) 0) 32)) 176 25 _ rfl
      rw [alloc_len] at this
      exact this
    · exact (Below.heap_alloc (w.alloc (.cells (outC (fun _ => 0) 0) 32)) _ _ (by simp)).trans (heap_alloc_new w _)
  case round =>
    obtain ⟨k, hk, rfl, rfl, hl, ho, hb⟩ := hrel
    have HL := Lib.hid hl
    have HO := Lib.hid ho
    have HB := Lib.hid hb
    clear hl ho hb
    by_cases h1 : k < ms.length
    · obtain ⟨b, o, x, rfl, hbl, hcell, hx⟩ := IsBB.at HLEN.out HRD.out HEL.out k h1
      have hcell' := (HB.out.cell (p := ⟨b, o + k, none⟩) hbl).trans hcell
      clear hcell
      obtain ⟨A2, c2, rfl, hd1, hd2, hr2⟩ := hx
      unfold maxLen at hd2
      have HR2 := Lib.hid (hr2.below HB.out)
      clear hr2
      go_wp2_with fail
      obtain ⟨wo, rfl⟩ : ∃ wo : World, wo = wr := ⟨_, rfl⟩
      go_loopw [4, 19] (fun at_ i wr => ∃ j : Nat, j ≤ ms[k].length ∧ i = .int .i64 j ∧ at_ = .int .i64 ((absorbs ((ms.take k).flatten ++ ms[k].take j)).2 : Nat) ∧ Lanes wr (w.heap.size + 1) 176 25 (absorbs ((ms.take k).flatten ++ ms[k].take j)).1 ∧ Out wr w.heap.size (fun _ => 0) 0 ∧ Only (w.heap.size + 1) wo wr) (fun _ i _ => ms[k].length - (intOf i).toNat)
      case atStart => exact ⟨0, by omega, rfl, by simp, by simpa using HL.out, HO.out, Only.refl _ _⟩
      case round =>
        clear HO HL
        obtain ⟨j, hj, rfl, rfl, hl, ho, hb⟩ := hrel
        have HL := Lib.hid hl
        have HO := Lib.hid ho
        have HP := Lib.hid hb
        clear hl ho hb
        have hlt := absorbs_lt ((ms.take k).flatten ++ ms[k].take j)
        by_cases h2 : j < ms[k].length
        · have hsn := Lib.hid (take_snoc (ms.take k).flatten ms[k] j h2)
          have hr3 := HR2.out.keep (fun p hp => World.cell?_of_block (HP.out.block p.block (by have := HB.out.size; omega) (fun e => by injection e with e; omega)))
          obtain ⟨b2, o2, rfl, hb2, hc2⟩ := isB_at hr3 j h2
          have hlt2 := bv_lt ms[k][j]
          go_wp2_with fail
          refine (kec_take (w.heap.size + 1) 176 _ _ _ hlt hlt2 _ HL.out).mono ?_
          rintro e w3 ⟨rfl, hl3, ho3⟩
          have HL3 := Lib.hid hl3
          have HP3 := Lib.hid (HP.out.trans ho3)
          have HO3 : Hid (Out w3 w.heap.size (fun _ => 0) 0) := Lib.hid ((ho3.block w.heap.size HO.out.lt (by simp)).trans HO.out)
          clear hl3 ho3 HL HP HO hc2 hr3
          by_cases h136 : (absorbs ((ms.take k).flatten ++ ms[k].take j)).2 + 1 = 136
          · have hA : absorbs ((ms.take k).flatten ++ ms[k].take (j + 1)) = _ := hsn.out.trans (if_pos h136)
            have HA := Lib.hid hA
            clear hA
            have h135 : (absorbs ((ms.take k).flatten ++ ms[k].take j)).2 = 135 := by omega
            rw [h135]
            go_wp2_with fail
            refine (kec_permute (w.heap.size + 1) 176 _ _ HL3.out).mono ?_
            rintro e w4 ⟨rfl, hl4, ho4⟩
            have HL4 := Lib.hid hl4
            have HP4 := Lib.hid (HP3.out.trans ho4)
            have HO4 : Hid (Out w4 w.heap.size (fun _ => 0) 0) := Lib.hid ((ho4.block w.heap.size HO3.out.lt (by simp)).trans HO3.out)
            clear hl4 ho4 HL3 HP3 HO3
            go_wp2_with fail
            go_roundw
            case rel => exact ⟨j + 1, by omega, by go_num, by rw [HA.out]; rfl, by rw [HA.out]; exact HL4.out, HO4.out, HP4.out⟩
            case measure => simp [intOf]; omega
          · have hA : absorbs ((ms.take k).flatten ++ ms[k].take (j + 1)) = _ := hsn.out.trans (if_neg h136)
            have HA := Lib.hid hA
            clear hA
            go_wp2_with fail
            go_roundw
            case rel => exact ⟨j + 1, by omega, by go_num, by rw [HA.out]; go_num, by rw [HA.out]; exact HL3.out, HO3.out, HP3.out⟩
            case measure => simp [intOf]; omega
        · have h5 : j = ms[k].length := by omega
          subst h5
          have hfl : (ms.take k).flatten ++ ms[k].take ms[k].length = (ms.take (k + 1)).flatten := by rw [List.take_length, take_flat ms k h1]
          rw [hfl] at HL
          rw [hfl]
          have HB2 := Lib.hid (Only.gr HB.out HP.out (by omega))
          clear HB HP hfl
          go_wp2_with fail
          go_roundw
          case rel => exact ⟨k + 1, by omega, by go_num, rfl, HL.out, HO.out, HB2.out⟩
          case measure => simp [intOf]; omega
    · have h5 : k = ms.length := by omega
      subst h5
      have hlt := absorbs_lt ms.flatten
      have hfl : (ms.take ms.length).flatten = ms.flatten := by rw [List.take_length]
      rw [hfl] at HL
      rw [hfl]
      clear hfl
      go_wp2_with fail
      refine (kec_take (w.heap.size + 1) 176 _ _ 1 hlt (by omega) _ HL.out).mono ?_
      rintro e w3 ⟨rfl, hl3, ho3⟩
      have HL3 := Lib.hid hl3
      have HB3 := Lib.hid (Only.gr HB.out ho3 (by omega))
      have HO3 : Hid (Out w3 w.heap.size (fun _ => 0) 0) := Lib.hid ((ho3.block w.heap.size HO.out.lt (by simp)).trans HO.out)
      clear hl3 ho3 HL HB HO
      go_wp2_with fail
      refine (kec_take (w.heap.size + 1) 176 _ 135 128 (by omega) (by omega) _ HL3.out).mono ?_
      rintro e w4 ⟨rfl, hl4, ho4⟩
      have HL4 := Lib.hid hl4
      have HB4 := Lib.hid (Only.gr HB3.out ho4 (by omega))
      have HO4 : Hid (Out w4 w.heap.size (fun _ => 0) 0) := Lib.hid ((ho4.block w.heap.size HO3.out.lt (by simp)).trans HO3.out)
      clear hl4 ho4 HL3 HB3 HO3
      go_wp2_with fail
      refine (kec_permute (w.heap.size + 1) 176 _ _ HL4.out).mono ?_
      rintro e w5 ⟨rfl, hl5, ho5⟩
      have HL5 : Hid (Lanes w5 (w.heap.size + 1) 176 25 (sponge ms.flatten)) := Lib.hid hl5
      have HB5 := Lib.hid (Only.gr HB4.out ho5 (by omega))
      have HO5 : Hid (Out w5 w.heap.size (fun _ => 0) 0) := Lib.hid ((ho5.block w.heap.size HO4.out.lt (by simp)).trans HO4.out)
      clear hl5 ho5 HL4 HB4 HO4
      go_wp2_with fail
      go_loopw [37] (fun i wr => ∃ k : Nat, k ≤ 32 ∧ i = .int .i64 k ∧ Lanes wr (w.heap.size + 1) 176 25 (sponge ms.flatten) ∧ Out wr w.heap.size (fun _ => 0) 0 ∧ Out wr w5.heap.size (sponge ms.flatten) k ∧ Gr w wr) (fun i _ => 32 - (intOf i).toNat)
      case atStart =>
        refine ⟨0, by omega, rfl, HL5.out.alloc _, ?_, heap_alloc_new w5 _, HB5.out.trans (gr_alloc _ _)⟩
        exact (Below.heap_alloc w5 _ _ HO5.out.lt).trans HO5.out
      case round =>
        have hs5 := HB5.out.size
        have hl5 := HL5.out.lt
        clear HL5 HB5 HO5
        obtain ⟨k, hk, rfl, hl, ho, hw5, hb⟩ := hrel
        have HL := Lib.hid hl
        have HO := Lib.hid ho
        have HW := Lib.hid hw5
        have HB := Lib.hid hb
        clear hl ho hw5 hb
        by_cases h1 : k < 32
        · have c1 := HL.out.cell (k / 8) (by omega)
          have c2 := HW.out.cell h1
          have c3 := HW.out.frozen k
          unfold lv at c1
          have hu := u_range (sponge ms.flatten (k / 8))
          have hu0 := hu.1
          clear hu
          go_wp2_with fail
          go_roundw
          case rel =>
            refine ⟨k + 1, by omega, by go_num, HL.out.far (by dsimp only; omega) _, ?_, ?_, ?_⟩
            · exact (Below.heap_setCell _ _ _ _ (by dsimp only; omega)).trans HO.out
            · rw [out_val]
              exact HW.out.set
            · exact (Only.set (g := w5.heap.size) _ k _).gr HB.out (by omega)
          case measure => simp [intOf]; omega
        · have h5 : k = 32 := by omega
          subst h5
          have HC := HW.out
          unfold Out at HC
          have HOO := HO.out
          unfold Out at HOO
          go_wp2_with first
            | refine wpList_load_row rfl 32 (.tmp 9) rfl w5.heap.size rfl 32 (outC (sponge ms.flatten) 32) (0, 0) _ HC rfl rfl (outC_info _ _) ?_
            | refine wpList_store_row rfl 32 (.tmp 2) (.tmp 52) rfl w.heap.size (outC (sponge ms.flatten) 32) rfl rfl 32 _ HOO (outC_info _ _) (outC_size2 _ _ _ _) (outC_one _ _) ?_
          exact bodyPost_ret (results_cell_row rfl _ _ w.heap.size 32 (outC (sponge ms.flatten) 32) (0, 0) _ rfl (heap_setRow_same _ _ _ _ _ HOO) rfl rfl (outC_info _ _)) rfl ⟨_, rfl, gr_setRow HB.out _ _ (Nat.le_refl _), rfl⟩
theorem outC_hash (l : List UInt8) : Value.agg (outC (sponge l) 32) = arrV (hash l) := by
  unfold outC arrV hash outL bvs
  rw [List.map_map]
  congr 2
theorem sum_all (v : Value) (ms : List (List UInt8)) (w : World) (h : IsBB w v ms) : Calls Try.prog 63 #[v] w (Ret (eqV (arrV (hash ms.flatten))) w) :=
  (kec_sum v ms w h).mono fun e w' ⟨x, he, hg, hx⟩ => ⟨x, he, hg, by unfold eqV; rw [hx, outC_hash]⟩
end Go.Proofs.Ytmlajcbabimkjaa
/-
  The reference's Keccak.
  Conditions: the bytes are at most 2^40.
-/
namespace Go.Proofs.Ytmlajcbabimkjaa
open Go.RowKit Mono
open Kec (L St rotl Same)
theorem u8_or128 (z : UInt8) : bits .or .u8 (z.toNat : Int) 128 = ((z ||| 128).toNat : Int) := by
  have h : ∀ q : BitVec 8, bits .or .u8 (q.toNat : Int) 128 = ((q ||| 128).toNat : Int) := by decide +kernel
  exact h z.toBitVec
theorem and_val (f : St) (k : Nat) : Value.int .u8 (bits .and .u64 (u (f (k / 8)) / 2 ^ (8 * (k % 8))) 255 % 256) = outV f k := by
  have h : (255 : Int) = u 255 := rfl
  rw [u_shr, h, u_and]
  unfold outV u
  rw [BitVec.toNat_and]
  have h2 : ((255 : L).toNat) = 2 ^ 8 - 1 := rfl
  rw [h2, Nat.and_two_pow_sub_one_eq_mod]
  congr 1
  omega
theorem outC_same {a b : St} (h : Same a b) : outC a 32 = outC b 32 := by
  unfold outC
  congr 1
  refine List.map_congr_left fun k hk => ?_
  have := List.mem_range.1 hk
  unfold outV
  rw [h _ (by omega)]
set_option maxRecDepth 20000 in
set_option maxHeartbeats 1000000 in
theorem ref_keccak (v : Value) (l : List UInt8) (w : World) (h : IsB w v l) (hlen : l.length ≤ 1099511627776) : Calls Try.prog 17 #[v] w (Ret (eqV (arrV (hash l))) w) := by
  obtain ⟨A, c, rfl, hl1, hl2, hA⟩ := h
  clear hl1 hl2
  have HA := Lib.hid hA
  clear hA
  go_enter Try.func17, Try.ntmps17
  go_wp2_with first
    | (at_builtin; refine wpL_append (.const (.slice none 0 0)) (.tmp 11) 23 slT_bytes (base := w.heap.size + 1) _ 0 [] A l.length c w.heap.size (bvs l) rfl rfl rfl rfl (OwnB.nil _ _) ((HA.out.below (Below.alloc (Below.refl _ _) (Nat.le_refl _) _))) (by simp [bvs]) (bvs_one _) (by simp only [maxLen]; omega) (by simp; omega) (by simp) ?_; intro A2 c2 w2 hown2 hg2 _; simp only [Nat.zero_add, List.nil_append] at hown2; have hz2 := hg2.size; simp only [alloc_len] at hz2; have HO2 := Lib.hid hown2; have HG2 := Lib.hid hg2; clear hown2 hg2; rw [Nat.zero_add])
    | (at_builtin; refine wpL_append (.tmp 12) (.tmp 13) 23 slT_bytes (base := w.heap.size + 1) _ l.length (bvs l) _ 1 1 (w2.heap.size + 1) [.int .u8 1] rfl rfl rfl rfl (HO2.out.alloc _) (Rd.new _ _ _) rfl (by simp [Value.oneCell']) (by simp only [maxLen]; omega) (by omega) (by simp; omega) ?_; intro A3 c3 w3 hown3 hg3 _)
  obtain ⟨w0, hw0⟩ : ∃ w0 : World, w0 = w.alloc (.cells (outC (fun _ => 0) 0) 32) := ⟨_, rfl⟩
  have hz0 : w0.heap.size = w.heap.size + 1 := by rw [hw0]; simp
  have HB3 : Hid (Below (w.heap.size + 1) w0 w3) := by
    refine Lib.hid ((((Below.refl _ w0).grown (B := w.heap.size + 1) (by rw [hw0]; exact HG2.out) (by omega) (fun j hj => by cases hj)).alloc (by omega) _).grown hg3 (by simp; omega) fun j hj => own_block_ge HO2.out j hj)
  have HO3 : Hid (OwnB w3 (w.heap.size + 1) (.slice A3 (l.length + 1) c3) (zeros l 0)) := by
    refine Lib.hid ?_
    have := zeros_length l 0
    exact ownB_of hown3 (by simp [zeros, bvs, bv])
  have HW0 := Lib.hid hw0
  clear hw0 hown3 hg3 HO2 HG2
  go_loopw [3] (fun v wr => ∃ n : Nat, n ≤ 135 - l.length % 136 ∧ OwnB wr (w.heap.size + 1) v (zeros l n) ∧ Below (w.heap.size + 1) w0 wr) (fun v _ => match v with | .slice _ n _ => l.length + 136 - n | _ => 0)
  case atStart => exact ⟨0, by omega, HO3.out, HB3.out⟩
  case round =>
    clear HO3 HB3
    obtain ⟨n, hn, hown, hb⟩ := hrel
    obtain ⟨A', c', rfl, hc1, hc2⟩ := own_form hown
    have hN := zeros_length l n
    have hbs := hb.size
    unfold OwnB at hown
    rw [hN] at hown hc1 ⊢
    have HO := Lib.hid hown
    have HB := Lib.hid hb
    have HN := Lib.hid hN
    clear hown hb hN
    unfold maxLen at hc2
    by_cases h1 : (l.length + 1 + n) % 136 = 0
    · have hn2 := Lib.hid (show n = 135 - l.length % 136 by omega)
      have hm := Lib.hid (show (l.length + 1 + n) % 136 = 0 from h1)
      obtain ⟨g, cp, cur, hv, hg1, hgh, _⟩ := HO.out.2.resolve_left (fun h => by have := h.2; omega)
      have hg2 := lt_of_some hgh
      clear hgh
      injection hv with hA' _ _
      subst hA'
      have e1 := HO.out.cellAt (l.length + n) (by omega)
      have e2 := HO.out.frozenAt (l.length + n)
      have hz : (zeros l n)[l.length + n]? = some ((zeros l n).getD (l.length + n) 0) := by
        have := HN.out
        rw [List.getD_eq_getElem?_getD, List.getElem?_eq_getElem (by omega)]
        rfl
      have hzz : (bvs (zeros l n))[l.length + n]? = some (bv ((zeros l n).getD (l.length + n) 0)) := by simp only [bvs, List.getElem?_map, hz, Option.map_some]
      rw [hzz] at e1
      have HZ := Lib.hid (HO.out.stored (l.length + n) (bv ((zeros l n).getD (l.length + n) 0 ||| 128)))
      have hs := zeros_set l n hn2.out
      rw [HN.out, show l.length + 1 + n - 1 = l.length + n by omega] at hs
      have HS := Lib.hid hs
      have HR := Lib.hid (u8_or128 ((zeros l n).getD (l.length + n) 0))
      clear hz hzz hs
      generalize (zeros l n).getD (l.length + n) 0 = z at e1 HZ HS HR
      unfold bv at e1
      have hzl := bv_lt z
      go_wp2_with fail
      obtain ⟨wL, hwL⟩ : ∃ wL : World, wL = (wr.setCell ⟨g, l.length + n, none⟩ (.int .u8 (bits .or .u8 (z.toNat : Int) 128))).alloc (.cells (cellsOf (fun _ => 0) 25) 88) := ⟨_, rfl⟩
      obtain ⟨m, hm0⟩ : ∃ m : List UInt8, m = l ++ pad (l.length % 136) := ⟨_, rfl⟩
      have hml : m.length = l.length + 1 + n := by
        rw [hm0, ← HS.out, List.length_set, HN.out]
      obtain ⟨J, hJ⟩ : ∃ J : Nat, 136 * J = l.length + 1 + n := ⟨(l.length + 1 + n) / 136, by have := hm.out; omega⟩
      have hsz : wL.heap.size = wr.heap.size + 1 := by rw [hwL]; simp
      have HL0 : Hid (Lanes wL wr.heap.size 88 25 (fun _ => 0)) := by
        refine Lib.hid ?_
        have := lanes_new (wr.setCell ⟨g, l.length + n, none⟩ (.int .u8 (bits .or .u8 (z.toNat : Int) 128))) 88 25 _ rfl
        rw [hwL]
        simpa using this
      have HRm : Hid (Rd wL wr.heap.size (some ⟨g, 0, none⟩) (bvs m)) := by
        refine Lib.hid ?_
        have h1 := Rd.of_own HZ.out.1
        rw [bvs_set, HS.out, ← hm0] at h1
        have h2 : wr.heap.size = (wr.setCell ⟨g, l.length + n, none⟩ (bv (z ||| 128))).heap.size := by simp
        rw [h2, hwL, HR.out]
        exact h1.below ((Below.refl _ _).alloc (Nat.le_refl _) _)
      have HBL : Hid (Below (w.heap.size + 1) w0 wL) := by
        refine Lib.hid ?_
        rw [hwL]
        exact (HB.out.setCell hg1 _).alloc (by simp; omega) _
      have HS2 := Lib.hid (sponge_same l m J hm0 (by omega))
      have HwL := Lib.hid hwL
      have HJ := Lib.hid hJ
      have HML := Lib.hid hml
      have hJ1 : 136 * J ≤ l.length + 1 + n := by omega
      have hJ2 : l.length + 1 + n ≤ 136 * J := by omega
      have hn3 : n ≤ 135 := by omega
      clear hwL hm0 hml hJ HZ HS HR e1 e2 HB HO
      obtain ⟨wp, rfl⟩ : ∃ wp : World, wp = wr := ⟨_, rfl⟩
      go_loopw [5] (fun i wx => ∃ j : Nat, j ≤ J ∧ i = .int .i64 (136 * (j : Int)) ∧ Lanes wx wp.heap.size 88 25 (rabs m j) ∧ Below wp.heap.size wL wx) (fun i _ => l.length + 136 - (intOf i).toNat)
      case atStart => exact ⟨0, by omega, rfl, by have := HL0.out; rw [HwL.out] at this; exact this, by rw [HwL.out]; exact Below.refl _ _⟩
      case round =>
        clear HL0
        obtain ⟨j, hj, rfl, hl, hb⟩ := hrel
        have HL := Lib.hid hl
        have HB := Lib.hid hb
        have hbs := hb.size
        clear hl hb
        by_cases h2 : j < J
        · have hj2 : 136 * j + 136 ≤ l.length + 1 + n := by omega
          have hd : decide ((136 * (j : Int)) < (l.length : Int) + 1 + (n : Int)) = true := by simp; omega
          go_wp2_with fail
          clear hd
          obtain ⟨wo, rfl⟩ : ∃ wo : World, wo = wr := ⟨_, rfl⟩
          go_loopw [6] (fun i wx => ∃ k : Nat, k ≤ 136 ∧ i = .int .i64 k ∧ Lanes wx wp.heap.size 88 25 (rtake (fun i => (m.getD (136 * j + i) 0).toNat) (rabs m j) k) ∧ Below wp.heap.size wo wx) (fun i _ => 136 - (intOf i).toNat)
          case atStart => exact ⟨0, by omega, rfl, HL.out, Below.refl _ _⟩
          case round =>
            clear HL
            obtain ⟨k, hk, rfl, hl, hb⟩ := hrel
            have HL := Lib.hid hl
            have HP := Lib.hid hb
            have hps := hb.size
            clear hl hb
            by_cases h3 : k < 136
            · have hkm : 136 * j + k < m.length := by have := HML.out; omega
              have hrm := (HRm.out.below HB.out).below HP.out
              obtain ⟨b2, o2, he2, hb2, hc2⟩ := isB_at hrm (136 * j + k) hkm
              injection he2 with he2
              injection he2 with he2 he3
              subst he2 he3
              have hgetD : m.getD (136 * j + k) 0 = m[136 * j + k] := by simp [hkm]
              rw [← hgetD, Nat.zero_add] at hc2
              clear hgetD hrm
              have HR : Hid (rtake (fun i => (m.getD (136 * j + i) 0).toNat) (rabs m j) (k + 1) = takeB (rtake (fun i => (m.getD (136 * j + i) 0).toNat) (rabs m j) k) k (m.getD (136 * j + k) 0).toNat) := Lib.hid rfl
              generalize rtake (fun i => (m.getD (136 * j + i) 0).toNat) (rabs m j) k = s at HL HR
              have hzl := bv_lt (m.getD (136 * j + k) 0)
              generalize m.getD (136 * j + k) 0 = z2 at hc2 HR hzl
              have d1 := later_cell (w := wr) (p := ⟨wp.heap.size, k / 8, none⟩) (by have := HL.out.lt; exact this) (HL.out.cell (k / 8) (by omega))
              have d2 := later_cell (w := wr) (p := ⟨g, 136 * j + k, none⟩) (by dsimp only; omega) hc2
              clear hc2
              unfold lv at d1
              have hu := u_range (s (k / 8))
              have hu0 := hu.1
              clear hu
              go_wp2_with fail
              refine wp_region_N 20 (by kernel_rfl) (by kernel_rfl) (by kernel_rfl) ?_
              simp only [List.take_succ_cons, List.take_zero, List.drop_succ_cons, List.drop_zero]
              refine wpN_quiet 20 (by kernel_rfl) ?_
              simp only [List.take_succ_cons, List.take_zero, List.drop_succ_cons, List.drop_zero]
              repeat (go_big_quiet_step (fail))
              refine wpQuiet_nil ?_
              refine wpN_nil (by kernel_rfl) ?_
              intro W hW
              replace hW := hW.gr
              unfold finN
              have HW := Lib.hid (HL.out.gr hW)
              have e1 := HW.out.cell (k / 8) (by omega)
              have e2 := HW.out.frozen (k / 8)
              unfold lv at e1
              go_wp2_with fail
              go_roundw
              case rel =>
                have hv : Value.int .u64 (bits .xor .u64 (u (s (k / 8))) (IntKind.u64.wrap ((z2.toNat : Int) * 2 ^ (k % 8 * 8)))) = lv (s (k / 8) ^^^ (BitVec.ofNat 64 z2.toNat) <<< (8 * (k % 8))) := by
                  rw [← u_byte z2.toNat hzl, u_shl, u_xor, Nat.mul_comm (k % 8) 8]
                  rfl
                rw [hv]
                refine ⟨k + 1, by omega, by go_num, ?_, ?_⟩
                · rw [HR.out]
                  exact HW.out.set _ _
                · exact (HP.out.trans (hW.mono (by omega))).setCell (Nat.le_refl _) _
              case measure => simp [intOf]; omega
            · have h5 : k = 136 := by omega
              rw [h5] at HL
              have h6 : 136 ≤ k := by omega
              clear h5 h3
              go_wp2_with fail
              obtain ⟨wq, rfl⟩ : ∃ wq : World, wq = wr := ⟨_, rfl⟩
              go_loopw [8] (fun i wx => ∃ k : Nat, k ≤ 24 ∧ i = .int .i64 k ∧ Lanes wx wp.heap.size 88 25 (Kec.rperm (rtake (fun i => (m.getD (136 * j + i) 0).toNat) (rabs m j) 136) k) ∧ Reg wx wq.heap.size 5 (Kec.lfn 1 (7 * k)) ∧ Below wp.heap.size wo wx) (fun i _ => 24 - (intOf i).toNat)
              case atStart => exact ⟨0, by omega, rfl, HL.out.alloc _, heap_alloc_new wq _, HP.out.alloc (by omega) _⟩
              case round =>
                have hlt := HL.out.lt
                clear HL HP
                obtain ⟨k, hk, rfl, hl, hr, hb⟩ := hrel
                have HL := Lib.hid hl
                have HR := Lib.hid hr
                have HP := Lib.hid hb
                clear hl hr hb
                by_cases h3 : k < 24
                · have HA1 := Lib.hid (Kec.lfn_add 1 (7 * k) 7)
                  go_wp2_with fail
                  refine (ref_round wp.heap.size wq.heap.size 88 5 _ _ _ HL.out HR.out hlt).mono ?_
                  rintro e w3 ⟨rfl, hl3, hr3, hb3⟩
                  have HL3 := Lib.hid hl3
                  have HR3 := Lib.hid hr3
                  have HB3 := Lib.hid hb3
                  clear hl3 hr3 hb3
                  go_wp2_with fail
                  go_roundw
                  case rel => exact ⟨k + 1, by omega, by go_num, HL3.out, by rw [Nat.mul_succ, HA1.out]; exact HR3.out, HP.out.trans HB3.out⟩
                  case measure => simp [intOf]; omega
                · have h5 : k = 24 := by omega
                  rw [h5] at HL
                  have h6 : 24 ≤ k := by omega
                  clear h5 h3 HR
                  go_wp2_with fail
                  go_roundw
                  case rel => exact ⟨j + 1, by omega, by go_num, HL.out, HB.out.trans HP.out⟩
                  case measure => simp [intOf]; omega
        · have h5 : j = J := by omega
          have h6 : l.length + 1 + n ≤ 136 * j := by omega
          rw [h5] at HL
          have hd : decide ((136 * (j : Int)) < (l.length : Int) + 1 + (n : Int)) = false := by simp; omega
          clear h2 h5
          have HG : Hid (Below (w.heap.size + 1) w0 wr) := Lib.hid (HBL.out.trans (HB.out.mono (by omega)))
          have hgl := HL.out.lt
          clear HBL HB HRm
          go_wp2_with fail
          obtain ⟨wo, rfl⟩ : ∃ wo : World, wo = wr := ⟨_, rfl⟩
          go_loopw [10] (fun i wx => ∃ k : Nat, k ≤ 32 ∧ i = .int .i64 k ∧ Lanes wx wp.heap.size 88 25 (rabs m J) ∧ Out wx wo.heap.size (rabs m J) k ∧ Below (w.heap.size + 1) w0 wx) (fun i _ => 32 - (intOf i).toNat)
          case atStart => exact ⟨0, by omega, rfl, HL.out.alloc _, heap_alloc_new wo _, HG.out.alloc (by omega) _⟩
          case round =>
            clear HL HG
            obtain ⟨k, hk, rfl, hl, hw5, hb⟩ := hrel
            have HL := Lib.hid hl
            have HW := Lib.hid hw5
            have HB := Lib.hid hb
            clear hl hw5 hb
            by_cases h1 : k < 32
            · have c1 := HL.out.cell (k / 8) (by omega)
              have c2 := HW.out.cell h1
              have c3 := HW.out.frozen k
              unfold lv at c1
              have hu := u_range (rabs m J (k / 8))
              have hu0 := hu.1
              clear hu
              go_wp2_with fail
              go_roundw
              case rel =>
                refine ⟨k + 1, by omega, by go_num, HL.out.far (by dsimp only; omega) _, ?_, ?_⟩
                · have hv : Value.int .u8 (bits .and .u64 (u (rabs m J (k / 8)) / 2 ^ (k % 8 * 8)) 255 % 256) = outV (rabs m J) k := by
                    rw [Nat.mul_comm (k % 8) 8]
                    exact and_val _ _
                  rw [hv]
                  exact HW.out.set
                · exact HB.out.setCell (by dsimp only; omega) _
              case measure => simp [intOf]; omega
            · have h5 : k = 32 := by omega
              rw [h5] at HW
              have h6 : 32 ≤ k := by omega
              clear h5 h1
              have HC := HW.out
              unfold Out at HC
              have HOO : wr.heap[w.heap.size]? = some (.cells (outC (fun _ => 0) 0) 32 (0, 0)) := by
                rw [HB.out.block w.heap.size (by omega), HW0.out]
                exact heap_alloc_new w _
              go_wp2_with first
                | refine wpList_load_row rfl 32 (.tmp 9) rfl wo.heap.size rfl 32 (outC (rabs m J) 32) (0, 0) _ HC rfl rfl (outC_info _ _) ?_
                | refine wpList_store_row rfl 32 (.tmp 2) (.tmp 86) rfl w.heap.size (outC (rabs m J) 32) rfl rfl 32 _ HOO (outC_info _ _) (outC_size2 _ _ _ _) (outC_one _ _) ?_
              have HR : Hid (Value.agg (outC (rabs m J) 32) = arrV (hash l)) := by
                refine Lib.hid ?_
                rw [← outC_hash, outC_same HS2.out]
              have hg0 : Gr w wr := by
                have h1 : Gr w w0 := by rw [HW0.out]; exact gr_alloc w _
                exact h1.trans (HB.out.mono (by omega))
              exact bodyPost_ret (results_cell_row rfl _ _ w.heap.size 32 (outC (rabs m J) 32) (0, 0) _ rfl (heap_setRow_same _ _ _ _ _ HOO) rfl rfl (outC_info _ _)) rfl ⟨_, rfl, gr_setRow hg0 _ _ (Nat.le_refl _), HR.out⟩
    · have hn2 : n + 1 ≤ 135 - l.length % 136 := by omega
      go_wp2_with (at_builtin; refine wpL_append (.tmp 19) (.tmp 20) 23 slT_bytes (base := w.heap.size + 1) _ (l.length + 1 + n) (bvs (zeros l n)) _ 1 1 (wr.heap.size + 1) [.int .u8 0] rfl rfl rfl rfl (HO.out.alloc _) (Rd.new _ _ _) rfl (by simp [Value.oneCell']) (by simp only [maxLen]; omega) (by omega) (by simp; omega) ?_; intro A2 c2 w2 hown2 hg2 _)
      go_roundw
      case rel =>
        refine ⟨n + 1, by omega, ownB_of hown2 ?_, (HB.out.alloc (by omega) _).grown hg2 (by simp; omega) fun j hj => own_block_ge HO.out j hj⟩
        rw [← zeros_snoc, bvs_append]
        rfl
      case measure =>
        show l.length + 136 - (l.length + 1 + n + 1) < l.length + 136 - (l.length + 1 + n)
        omega
end Go.Proofs.Ytmlajcbabimkjaa
/-
  keccak.Sum, munimentsref1.Keccak and the empty root, as the abstract machine calls them.
  Conditions: none.
-/
namespace Go.Proofs.Ytmlajcbabimkjaa
set_option linter.unusedVariables false
open Go.RowKit Mono Rlp
namespace E
theorem rows_bs {ok : Nat → Prop} {w : World} (hok : ∀ b, ok b → b < w.heap.size) : ∀ (ms : List (List UInt8)) (rows : List (List Value)), ReadsRows ok w 1 (ms.map D.bs) rows → rows.flatten.length = ms.length ∧ ∀ (i : Nat) (x : Value) (m : List UInt8), rows.flatten[i]? = some x → ms[i]? = some m → IsB w x m
  | [], rows, h => by
    rw [List.map_nil, ReadsRows] at h
    subst h
    exact ⟨rfl, fun i x m h => by simp at h⟩
  | m :: ms, rows, h => by
    rw [List.map_cons, ReadsRows] at h
    obtain ⟨r, rest, rfl, _, h2, h3⟩ := h
    have h4 := h2
    rw [Reads] at h4
    obtain ⟨u, rfl, _⟩ := h4
    obtain ⟨g1, g2⟩ := rows_bs hok ms rest h3
    refine ⟨by simp [g1], fun i x m' hx hm => ?_⟩
    cases i with
    | zero =>
      simp only [List.flatten_cons, List.singleton_append, List.getElem?_cons_zero, Option.some.injEq] at hx hm
      subst hx
      subst hm
      exact isB_of hok ((readV_one rfl).2 h2)
    | succ i =>
      simp only [List.flatten_cons, List.singleton_append, List.getElem?_cons_succ] at hx hm
      exact g2 i x m' hx hm
theorem isBB_of {ok : Nat → Prop} {w : World} (hok : ∀ b, ok b → b < w.heap.size) {ms : List (List UInt8)} {v : Value} (h : ReadV ok w (.sl 1 (ms.map D.bs)) v) : IsBB w v ms := by
  obtain ⟨cs, h1, rfl⟩ := h
  rw [Reads] at h1
  obtain ⟨A, c, rows, rfl, g1, g2, g3, g4, g5⟩ := h1
  rw [List.length_map] at g1 g3
  obtain ⟨k1, k2⟩ := rows_bs hok ms rows g5
  refine ⟨A, c, rows.flatten, ?_, g1, g2, k1, fun hn => ?_, k2⟩
  · show Value.slice A (ms.map D.bs).length c = _
    rw [List.length_map]
  · obtain ⟨b, o, e, hb, hc⟩ := g4 hn
    exact ⟨b, o, e, hok b hb, hc⟩
theorem f_kSum (ms : List (List UInt8)) : Fn 63 [.sl 1 (ms.map D.bs)] (· = .val (.arr 32 (hash ms.flatten))) := ⟨fun ok w xs hok hr => by
  obtain ⟨v, rfl, h⟩ := one_arg hr
  refine (sum_all v ms w (isBB_of hok h)).mono ?_
  rintro e w' ⟨_, rfl, hg, rfl⟩
  exact ⟨hg, _, _, rfl, rfl, arrV_mk (hash_length _)⟩⟩
theorem f_kSum1 (l : List UInt8) : Fn 63 [.sl 1 [.bs l]] (· = .val (.arr 32 (hash l))) := by
  have h := f_kSum [l]
  rw [List.flatten_cons, List.flatten_nil, List.append_nil] at h
  exact h
theorem f_Keccak (l : List UInt8) (hl : l.length ≤ 1099511627776) : Fn 17 [.bs l] (· = .val (.arr 32 (hash l))) := ⟨fun ok w xs hok hr => by
  obtain ⟨v, rfl, h⟩ := one_arg hr
  refine (ref_keccak v l w (isB_of hok h) hl).mono ?_
  rintro e w' ⟨_, rfl, hg, rfl⟩
  exact ⟨hg, _, _, rfl, rfl, arrV_mk (hash_length _)⟩⟩
theorem reads_bvs {ok : Nat → Prop} {w : World} : ∀ (l : List UInt8) (rows : List (List Value)), ReadsRows ok w 1 (l.map fun b => D.v (bv b)) rows → rows.flatten = bvs l
  | [], rows, h => by
    rw [List.map_nil, ReadsRows] at h
    subst h
    rfl
  | b :: l, rows, h => by
    rw [List.map_cons, ReadsRows] at h
    obtain ⟨r, rest, rfl, _, h2, h3⟩ := h
    rw [Reads] at h2
    rw [List.flatten_cons, reads_bvs l rest h3, h2.2]
    rfl
theorem Le.slB {N : Nat} {X : Cx N} {S : St} {t : Tmp} {l : List UInt8} (hl : look S.regs t = some (.val (.sl 1 (l.map fun b => D.v (bv b))))) : Le X S ⟨(t, .val (.bs l)) :: S.regs, S.objs, S.facts⟩ := fun a w h => by
  refine ⟨h.mem, fun u r hu => ?_, h.size, h.defers⟩
  unfold look at hu
  split at hu
  · rename_i e
    subst e
    obtain rfl := Option.some.inj hu
    have h1 := (readV_one (d := .sl 1 (l.map fun b => D.v (bv b))) rfl).1 (h.regs _ _ hl)
    refine (readV_one (d := .bs l) rfl).2 ?_
    rw [Reads] at h1
    rw [Reads]
    obtain ⟨A, c, rows, e, g1, g2, g3, g4, g5⟩ := h1
    rw [List.length_map] at e g1 g3
    refine ⟨_, rfl, A, c, List.singleton_inj.1 e, g1, g2, ?_⟩
    rw [← reads_bvs l rows g5]
    exact g4
  · exact h.regs u r hu
def root0 : List UInt8 := hash [128]
theorem f_shEmpty : Fn 62 [] (· = .val (.arr 32 root0)) := by
  have h1 := f_kSum1 [128]
  refine Fn.walk 4 Try.func62 rfl Try.ntmps62 (by simp) fun X => ?_
  repeat
    (first
     | (apply P_call (h1); exact rfl; (focus (repeat first | exact RefineL.refl _ _ | exact RL.nil | exact Rf.same | exact Rf.bs0 | exact Rf.sl0 | (apply Rf.fact; (focus (simp; done)); exact rfl) | apply Rf.tup | apply RL.cons)); (focus (intro _ _; simp [go_sem]; done)); (iterate 2 exact rfl))
     | (apply P_lit; (iterate 9 exact rfl); refine EL.le (Le.slB (t := 1) (l := [128]) rfl) ?_) | (apply P_lit; (iterate 9 exact rfl)) | (apply P_alloc; exact rfl; exact rfl; exact rfl; intro _)
     | (apply P_store; exact rfl; (focus (repeat first | exact .z | apply SetAt.s | apply SetAtF.s)); (iterate 4 exact rfl)) | apply EL.nil | ((with_reducible apply EK.then_normal); apply EK.code)
     | (with_reducible first | apply EC.seq | apply EC.region | apply EC.skip | apply EC.label | apply EC.block | apply EC.exit | apply EC.ret | apply EK.in_normal | apply EK.in_same | apply EK.in_ret | apply EK.then_ret | apply EK.then_exit))
  refine EK.retc1r 0 rfl rfl rfl rfl ?_ rfl
  (repeat first | exact RefineL.refl _ _ | exact RL.nil | exact Rf.same | exact Rf.bs0 | exact Rf.sl0 | (apply Rf.fact; (focus (simp; done)); exact rfl) | apply Rf.tup | apply RL.cons)
end E
end Go.Proofs.Ytmlajcbabimkjaa
/-
  The abstract machine: ranges over maps; an entry of a map's literal; pieces of a chain in another order.
  Conditions: none.
-/
namespace Go.Proofs.Ytmlajcbabimkjaa
set_option linter.unusedVariables false
open Go.RowKit Mono Rlp
open Go.ChangeMaps (setBlock)
namespace E
theorem All2.left {α β : Type} {R : α → β → Prop} : ∀ {l : List α} {m : List β}, All2 R l m → ∀ a ∈ l, ∃ b ∈ m, R a b
  | _, _, .nil, a, h => by cases h
  | _, _, .cons h1 h2, a, h => by
    rcases List.mem_cons.1 h with rfl | h
    · exact ⟨_, List.mem_cons_self, h1⟩
    · obtain ⟨b, hb, hr⟩ := h2.left a h
      exact ⟨b, List.mem_cons_of_mem _ hb, hr⟩
theorem All2.right {α β : Type} {R : α → β → Prop} : ∀ {l : List α} {m : List β}, All2 R l m → ∀ b ∈ m, ∃ a ∈ l, R a b
  | _, _, .nil, a, h => by cases h
  | _, _, .cons h1 h2, a, h => by
    rcases List.mem_cons.1 h with rfl | h
    · exact ⟨_, List.mem_cons_self, h1⟩
    · obtain ⟨b, hb, hr⟩ := h2.right a h
      exact ⟨b, List.mem_cons_of_mem _ hb, hr⟩
end E
end Go.Proofs.Ytmlajcbabimkjaa
/-
  The abstract machine: regions that draw their order, whose writing operations are not all in one row: at each place all that are ready.
  Conditions: none.
-/
namespace Go.Proofs.Ytmlajcbabimkjaa
set_option linter.unusedVariables false
open Go.RowKit Mono Rlp
namespace E
def readyL (l : List Oper) (chain done : List Nat) : List Nat := chain.filter fun k => !done.contains k && match l[k]? with
  | some o => o.after.toList.all fun e => !(Region.binds .any e) || !chain.contains e.on || done.contains e.on
  | none => true
def CT (N : Nat) (l : List Oper) (os1 : List Obj) (T : St → Prop) (chain : List Nat) : Nat → List Nat → St → Prop
  | 0, _, S => T S
  | m + 1, done, S => ∀ k ∈ readyL l chain done, CH N l.toArray os1 (fun S' => CT N l os1 T chain m (k :: done) S') (pickL l [k]) S
theorem CT.pick {N : Nat} {l : List Oper} {os1 : List Obj} {T : St → Prop} {chain : List Nat} {m : Nat} {done : List Nat} {S : St} (ks : List Nat) (hk : readyL l chain done = ks) (h : ∀ k ∈ ks, CH N l.toArray os1 (fun S' => CT N l os1 T chain m (k :: done) S') (pickL l [k]) S) : CT N l os1 T chain (m + 1) done S := by
  unfold CT
  rw [hk]
  exact h
theorem CT.nil {N : Nat} {l : List Oper} {os1 : List Obj} {T : St → Prop} {chain : List Nat} {done : List Nat} {S : St} (h : T S) : CT N l os1 T chain 0 done S := h
end E
end Go.Proofs.Ytmlajcbabimkjaa
/-
  The abstract machine, more: slices of bytes and of arrays that are known, an array's part, interfaces beside nil, what writes no piece.
  Conditions: none.
-/
namespace Go.Proofs.Ytmlajcbabimkjaa
set_option linter.unusedVariables false
open Go.RowKit Mono Rlp
namespace E
section
variable {N : Nat} {X : Cx N} {S : St} {ops : Array Oper} {o : Oper} {Q : Exit → Act → World → Prop} {l : List Oper} {TT : St → List Fr → Prop} {EE : List Fr} {rs : List (Tmp × R)} {os : List Obj} {fs : List (Value × D)}
theorem g_slpd {x : Operand} {T n m : Nat} {b : List UInt8} (hA : SliceA T n) (hn : Nat.ble n 4096 = true) (ho : o.op = .slice T x none none none) (hx : ev S x = some (.val (.pd (.arr m b)))) (hm : m = n) (h0 : Nat.blt 0 n = true) : Still ops S o (.val (.bs b)) := fun base ok a w ha => by
  subst hm
  have h1 := (readV_one rfl).1 (ha.ev hx fun t e => looks_of e (by rw [ho]; simp [Op.operands]))
  rw [Reads] at h1
  obtain ⟨g, k, cs, e, hg, hr, h2⟩ := h1
  rw [Reads] at h2
  obtain ⟨hl, rfl⟩ := h2
  have e' : a.eval x = .pointer (some ⟨g, k, none⟩) := List.singleton_inj.1 e
  simp only [Nat.ble_eq] at hn
  refine ⟨.slice (some ⟨g, k, none⟩) m m, ?_, (readV_one rfl).2 ?_⟩
  · unfold execOp
    simp only [ho, e', Option.map_none, Sem.run_bind, hA.ok w g k, Result.andThen_ok, Sem.run_pure]
  · rw [Reads]
    refine ⟨_, rfl, some ⟨g, k, none⟩, m, by rw [hl], by omega, by simp [maxLen]; omega, fun _ => ⟨g, k, rfl, hg, fun j u hu => hr j u hu⟩⟩
theorem P_slpd {t ty : Nat} {pos : String} {af : Array Edge} {gd : Option (Nat × Bool)} {x : Operand} {T n m : Nat} {b : List UInt8} (hA : SliceA T n) (hn : Nat.ble n 4096 = true) (hx : ev (⟨rs, os, fs⟩ : St) x = some (.val (.pd (.arr m b)))) (hm : m = n) (h0 : Nat.blt 0 n = true) (hg : guardOf ops ⟨rs, os, fs⟩ ⟨some t, .slice T x none none none, ty, pos, af, gd⟩ = some true) (hN : Nat.blt t N = true) (kk : EL X ops Q l ⟨(t, .val (.bs b)) :: rs, os, fs⟩) : EL X ops Q (⟨some t, .slice T x none none none, ty, pos, af, gd⟩ :: l) ⟨rs, os, fs⟩ := ES.still (g_slpd hA hn rfl hx hm h0) hg rfl hN kk
theorem bs_take1 {x y : Operand} {T e b : Nat} {k : Int} {m : List UInt8} (ho : o.op = .slice T x none (some y) none) (hx : ev S x = some (.val (.bs m))) (hy : ev S y = some (.val (.v (.int .i64 k)))) (hT : assoc slL T = some (e, 1, b)) (hk : 0 ≤ k ∧ k.toNat ≤ m.length) : Still ops S o (.val (.bs (m.take k.toNat))) := fun base ok a w ha => by
  obtain ⟨A, c, h1, h2, h3, h4⟩ := bs_ex (ha.ev hx (looks_op (by rw [ho]; simp [Op.operands])))
  have hy' := ev_v ha hy (looks_op (by rw [ho]; simp [Op.operands]))
  obtain ⟨hu, hs⟩ := elem_und hT
  refine ⟨.slice (if c = 0 then A else A.map (·.add (0 * 1))) (k.toNat - 0) (c - 0), ?_, bs_mk ⟨A, c, ?_, by rw [List.length_take]; omega, h3, fun hne => ?_⟩⟩
  · unfold execOp
    simp only [ho, h1, hy', Option.map_none, Option.map_some, Sem.run_bind]
    rw [run_sliceAt_slice _ _ _ _ _ _ hu, run_slice_h _ _ _ _ _ hu _ _ (by omega) (by omega), hs]
    simp only [Result.andThen_ok, Sem.run_pure, sliced]
  · have h5 : (if c = 0 then A else A.map (·.add (0 * 1))) = A := by
      split
      · rfl
      · cases A <;> simp [Addr.add]
    rw [h5, List.length_take, Nat.min_eq_left hk.2]
    rfl
  · rw [bvs_take] at hne ⊢
    obtain ⟨b, o, e1, e2, e3⟩ := h4 (fun e => hne (by rw [e]; simp))
    refine ⟨b, o, e1, e2, fun j u hu => e3 j u ?_⟩
    rw [List.getElem?_take] at hu
    split at hu
    · exact hu
    · cases hu
theorem bs_from1 {x y : Operand} {T e b : Nat} {k : Int} {m : List UInt8} (ho : o.op = .slice T x (some y) none none) (hx : ev S x = some (.val (.bs m))) (hy : ev S y = some (.val (.v (.int .i64 k)))) (hT : assoc slL T = some (e, 1, b)) (hk : 0 ≤ k ∧ k.toNat ≤ m.length) : Still ops S o (.val (.bs (m.drop k.toNat))) := fun base ok a w ha => by
  obtain ⟨A, c, h1, h2, h3, h4⟩ := bs_ex (ha.ev hx (looks_op (by rw [ho]; simp [Op.operands])))
  have hy' := ev_v ha hy (looks_op (by rw [ho]; simp [Op.operands]))
  obtain ⟨hu, hs⟩ := elem_und hT
  refine ⟨.slice (if c = k.toNat then A else A.map (·.add (k.toNat * 1))) (m.length - k.toNat) (c - k.toNat), ?_, bs_mk ⟨if c = k.toNat then A else A.map (·.add (k.toNat * 1)), c - k.toNat, by rw [List.length_drop], by rw [List.length_drop]; omega, by omega, ?_⟩⟩
  · unfold execOp
    have hr : (Instr.sliceAt T (.slice A m.length c) (some (.int .i64 k)) none none).run Try.prog w = .ok (.slice (if c = k.toNat then A else A.map (·.add (k.toNat * 1))) (m.length - k.toNat) (c - k.toNat)) w := by
      rw [run_sliceAt_slice (P := Try.prog) w T _ _ _ _ hu, run_slice_l (P := Try.prog) w T A m.length c hu .i64 k hk.1 (by omega), hs]
      rfl
    simp only [ho, h1, hy', Option.map_none, Option.map_some, Sem.run_bind, hr, Result.andThen_ok, Sem.run_pure]
  · have := rdp_drop (z := 1) h4 (by rw [bvs_length, Nat.mul_one]) h2 k.toNat hk.2
    rw [Nat.mul_one] at this
    rw [Nat.mul_one]
    unfold bvs at this ⊢
    rw [List.map_drop]
    exact this
theorem H_bsto {t ty : Nat} {pos : String} {af : Array Edge} {gd : Option (Nat × Bool)} {x y : Operand} {T e b : Nat} {k : Int} {m : List UInt8} (hx : ev (⟨rs, os, fs⟩ : St) x = some (.val (.bs m))) (hy : ev (⟨rs, os, fs⟩ : St) y = some (.val (.v (.int .i64 k)))) (hT : assoc slL T = some (e, 1, b)) (hk : 0 ≤ k ∧ k.toNat ≤ m.length) (hg : guardOf ops ⟨rs, os, fs⟩ ⟨some t, .slice T x none (some y) none, ty, pos, af, gd⟩ = some true) (hoff : offB N (some t) EE = true) (kk : EM N ops TT l ⟨(t, .val (.bs (m.take k.toNat))) :: rs, os, fs⟩ EE) : EM N ops TT (⟨some t, .slice T x none (some y) none, ty, pos, af, gd⟩ :: l) ⟨rs, os, fs⟩ EE := EH.still (bs_take1 rfl hx hy hT hk) hg rfl hoff kk
theorem H_bsfrom {t ty : Nat} {pos : String} {af : Array Edge} {gd : Option (Nat × Bool)} {x y : Operand} {T e b : Nat} {k : Int} {m : List UInt8} (hx : ev (⟨rs, os, fs⟩ : St) x = some (.val (.bs m))) (hy : ev (⟨rs, os, fs⟩ : St) y = some (.val (.v (.int .i64 k)))) (hT : assoc slL T = some (e, 1, b)) (hk : 0 ≤ k ∧ k.toNat ≤ m.length) (hg : guardOf ops ⟨rs, os, fs⟩ ⟨some t, .slice T x (some y) none none, ty, pos, af, gd⟩ = some true) (hoff : offB N (some t) EE = true) (kk : EM N ops TT l ⟨(t, .val (.bs (m.drop k.toNat))) :: rs, os, fs⟩ EE) : EM N ops TT (⟨some t, .slice T x (some y) none none, ty, pos, af, gd⟩ :: l) ⟨rs, os, fs⟩ EE := EH.still (bs_from1 rfl hx hy hT hk) hg rfl hoff kk
theorem g_indextup {x y : Operand} {T n e z : Nat} {k : Int} {ds : List D} {d : D} (ho : o.op = .index T x y) (hx : ev S x = some (.val (.tup ds))) (hy : ev S y = some (.val (.v (.int .i64 k)))) (hT : assoc arL T = some (n, e, z)) (hz : z = 1) (he : ∀ w, (isAgg e).run Try.prog w = .ok false w) (hs : ∀ d ∈ ds, d.size = 1 ∧ d.agg = false) (hn : ds.length = n) (hk : 0 ≤ k ∧ ds[k.toNat]? = some d) : Still ops S o (.val d) := fun base ok a w ha => by
  subst hz
  obtain ⟨cs, h1, h2⟩ := (readV_agg rfl).1 (ha.ev hx (looks_op (by rw [ho]; simp [Op.operands])))
  have hy' := ev_v ha hy (looks_op (by rw [ho]; simp [Op.operands]))
  obtain ⟨hk', rfl⟩ := List.getElem?_eq_some_iff.1 hk.2
  rw [Reads] at h1
  have hcs : ∀ (ds : List D) (cs : List Value), (∀ d ∈ ds, d.size = 1 ∧ d.agg = false) → ReadsL ok w ds cs → cs.length = ds.length ∧ ∀ (i : Nat) (hi : i < ds.length), ∃ u, cs[i]? = some u ∧ Reads ok w ds[i] [u] := by
    intro ds
    induction ds with
    | nil =>
      intro cs _ h
      rw [ReadsL] at h
      subst h
      exact ⟨rfl, fun i hi => absurd hi (Nat.not_lt_zero _)⟩
    | cons d ds ih =>
      intro cs hd h
      rw [ReadsL] at h
      obtain ⟨c1, c2, rfl, g1, g2⟩ := h
      obtain ⟨u, rfl⟩ : ∃ u, c1 = [u] := List.length_eq_one_iff.1 ((Reads.len _ _ g1).trans (hd d (by simp)).1)
      obtain ⟨i1, i2⟩ := ih c2 (fun d hd' => hd d (by simp [hd'])) g2
      refine ⟨by simp [i1], fun i hi => ?_⟩
      cases i with
      | zero => exact ⟨u, rfl, g1⟩
      | succ i => simpa using i2 i (by simpa using hi)
  obtain ⟨hl, hat⟩ := hcs ds cs hs h1
  obtain ⟨u, hu, hr⟩ := hat k.toNat hk'
  refine ⟨u, ?_, (readV_one (hs _ (List.getElem_mem hk')).2).2 hr⟩
  have hlt : k < (n : Int) := by omega
  have hA := arI' hT
  have hrun : (Instr.index T (.agg cs.toArray) (.int .i64 k)).run Try.prog w = .ok u w := by
    unfold Instr.index
    have h0 := hk.1
    simp [run_underlying hA.und, asIntOf, h0, hlt, run_size hA.size, part, he, hu]
  unfold execOp
  simp only [ho, h2, hy', Sem.run_bind, hrun, Result.andThen_ok, Sem.run_pure]
theorem Still.refine {d d' : D} (h : Still ops S o (.val d)) (hR : RefineL S.facts [d] [d']) : Still ops S o (.val d') := fun base ok a w ha => by
  obtain ⟨v, h1, h2⟩ := h base ok a w ha
  exact ⟨v, h1, Refine1.readV ha.facts hR h2⟩
theorem P_buildR {t ty : Nat} {pos : String} {af : Array Edge} {gd : Option (Nat × Bool)} {T : Nat} {parts : Array (Nat × Operand)} {lf : List (Nat × Nat × Bool)} {d0 d d' : D} {ps : List (Nat × D)} (hx : evps (⟨rs, os, fs⟩ : St) parts.toList = some ps) (hT : assoc stL T = some lf) (hz : assoc zeroL T = some d0) (hd0 : d0.agg = true) (hf : fillD (lf.map fun x => (x.1, x.2.1)) d0 ps = some d) (hR : RefineL fs [d] [d']) (hg : guardOf ops ⟨rs, os, fs⟩ ⟨some t, .build T parts, ty, pos, af, gd⟩ = some true) (hN : Nat.blt t N = true) (kk : EL X ops Q l ⟨(t, (.val d')) :: rs, os, fs⟩) : EL X ops Q (⟨some t, .build T parts, ty, pos, af, gd⟩ :: l) ⟨rs, os, fs⟩ := ES.still (Still.refine (g_buildI rfl hx hT hz hd0 hf) hR) hg rfl hN kk
end
theorem FnM.toFn {f : FuncId} {ds : List D} {Φ : R → Prop} (h : FnM f ds [] (fun r os' => Φ r ∧ os' = [])) : Fn f ds Φ := ⟨fun ok w xs hok hr => by
  refine (h.go ok w xs hok ⟨fun o ho => by simp at ho, .nil, fun b ⟨o, ho, _⟩ => by simp at ho⟩ hr).mono ?_
  rintro e w' ⟨v, r, os', rfl, ⟨hΦ, rfl⟩, ht, hv⟩
  refine ⟨ht.gr.gr fun b ⟨o, ho, _⟩ => by simp at ho, v, r, rfl, hΦ, hv.mono (fun b hb => ⟨?_, hb.2.1⟩) fun _ _ => rfl⟩
  rcases hb.1 with h | ⟨o, ho, _⟩ | h
  · exact .inl h
  · simp at ho
  · exact .inr h⟩
end E
end Go.Proofs.Ytmlajcbabimkjaa
