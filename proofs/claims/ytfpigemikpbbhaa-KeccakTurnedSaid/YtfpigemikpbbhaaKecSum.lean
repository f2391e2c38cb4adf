/-
  keccak.Sum.
  Conditions: none.
-/
import Derived.Test.YtfpigemikpbbhaaKecPerm
import Derived.Test.YtfpigemikpbbhaaKecSponge
import Derived.Test.YtfpigemikpbbhaaArr
namespace Go.Proofs.Ytfpigemikpbbhaa
open Go.RowKit Mono
open Kec (L St rotl)

/-- The sum's bytes. -/
def outV (f : St) (k : Nat) : Value := .int .u8 (((f (k / 8) >>> (8 * (k % 8))).toNat % 256 : Nat) : Int)
def outC (f : St) (n : Nat) : Array Value := ((List.range 32).map fun k => if k < n then outV f k else .int .u8 0).toArray
def Out (w : World) (g : Nat) (f : St) (n : Nat) : Prop := w.heap[g]? = some (.cells (outC f n) 36 (0, 0))
theorem Out.lt {w : World} {g : Nat} {f : St} {n : Nat} (h : Out w g f n) : g < w.heap.size := by
  rcases Nat.lt_or_ge g w.heap.size with h1 | h1
  · exact h1
  · unfold Out at h; rw [Array.getElem?_eq_none h1] at h; cases h
theorem Out.cell {w : World} {g : Nat} {f : St} {n : Nat} (h : Out w g f n) (hn : n < 32) : w.cell? ⟨g, n, none⟩ = some (.int .u8 0) := by
  rw [cell_of_row w g n _ 36 (0, 0) h]
  simp [outC, hn]
theorem Out.frozen {w : World} {g : Nat} {f : St} {n : Nat} (h : Out w g f n) (k : Nat) : w.frozen? ⟨g, k, none⟩ = false := by
  unfold Out at h
  simp [World.frozen?, h]
theorem outC_set (f : St) (n : Nat) : (outC f n).setIfInBounds n (outV f n) = outC f (n + 1) := by
  apply Array.ext_getElem?
  intro i
  rw [Array.getElem?_setIfInBounds]
  unfold outC
  by_cases hi : i < 32
  · by_cases hk : n = i
    · subst hk
      simp [hi]
    · rw [if_neg hk]
      simp only [List.getElem?_toArray, List.getElem?_map, List.getElem?_range hi, Option.map_some, Option.some.injEq]
      by_cases h2 : i < n
      · rw [if_pos h2, if_pos (by omega)]
      · rw [if_neg h2, if_neg (by omega)]
  · simp [hi]
    omega
theorem Out.set {w : World} {g : Nat} {f : St} {n : Nat} (h : Out w g f n) : Out (w.setCell ⟨g, n, none⟩ (outV f n)) g f (n + 1) := by
  unfold Out at h ⊢
  simp [World.setCell, Array.getElem?_modify, h, outC_set]

theorem outC_size (f : St) (n : Nat) : (outC f n).size = 32 := by simp [outC]
theorem outC_size2 (f g : St) (n m : Nat) : (outC f n).size = (outC g m).size := by rw [outC_size, outC_size]
theorem outC_info (f : St) (n : Nat) : (Try.prog.info? 36).map (·.size) = some (outC f n).size := by
  rw [outC_size]
  kernel_rfl
theorem outC_one (f : St) (n : Nat) : (outC f n).all (·.oneCell') = true := by
  simp only [outC, List.all_toArray, List.all_eq_true, List.mem_map]
  rintro x ⟨k, _, rfl⟩
  split <;> rfl
theorem out_val (f : St) (k : Nat) : Value.int .u8 (u (f (k / 8)) / 2 ^ (8 * (k % 8)) % 256) = outV f k := by
  rw [u_shr]
  unfold outV u
  simp

set_option maxRecDepth 20000 in
set_option maxHeartbeats 1000000 in
theorem kec_sum (v : Value) (ms : List (List UInt8)) (w : World) (h : IsBB w v ms) : Calls Try.prog 30 #[v] w (Ret (fun v' _ => v' = .agg (outC (sponge ms.flatten) 32)) w) := by
  obtain ⟨A, c, vals, rfl, hc1, hc2, hlen, hrd, hel⟩ := h
  unfold maxLen at hc2
  have HRD := Lib.hid hrd
  have HEL := Lib.hid hel
  have HLEN := Lib.hid hlen
  clear hrd hel hlen
  go_enter Try.func30, Try.ntmps30
  go_wp2
  go_loopw [4, 13] (fun at_ i wr => ∃ k : Nat, k ≤ ms.length ∧ i = .int .i64 k ∧ at_ = .int .i64 ((absorbs (ms.take k).flatten).2 : Nat) ∧ Lanes wr (w.heap.size + 1) 78 25 (absorbs (ms.take k).flatten).1 ∧ Out wr w.heap.size (fun _ => 0) 0 ∧ Gr w wr) (fun _ i _ => ms.length - (intOf i).toNat)
  case atStart =>
    refine ⟨0, by omega, rfl, rfl, ?_, ?_, (gr_alloc w _).trans (gr_alloc _ _)⟩
    · have := lanes_new (w.alloc (.cells (outC (fun _ => 0) 0) 36)) 78 25 _ rfl
      rw [alloc_len] at this
      exact this
    · exact (Below.heap_alloc (w.alloc (.cells (outC (fun _ => 0) 0) 36)) _ _ (by simp)).trans (heap_alloc_new w _)
  case round =>
    obtain ⟨k, hk, rfl, rfl, hl, ho, hb⟩ := hrel
    have HL := Lib.hid hl
    have HO := Lib.hid ho
    have HB := Lib.hid hb
    clear hl ho hb
    by_cases h1 : k < ms.length
    · obtain ⟨b, o, x, rfl, hbl, hcell, hx⟩ := IsBB.at HLEN.out HRD.out HEL.out k h1
      have hcell' := (HB.out.cell (p := ⟨b, o + k, none⟩) hbl).trans hcell
      clear hcell
      obtain ⟨A2, c2, rfl, hd1, hd2, hr2⟩ := hx
      unfold maxLen at hd2
      have HR2 := Lib.hid (hr2.below HB.out)
      clear hr2
      go_wp2_with fail
      obtain ⟨wo, rfl⟩ : ∃ wo : World, wo = wr := ⟨_, rfl⟩
      go_loopw [4, 19] (fun at_ i wr => ∃ j : Nat, j ≤ ms[k].length ∧ i = .int .i64 j ∧ at_ = .int .i64 ((absorbs ((ms.take k).flatten ++ ms[k].take j)).2 : Nat) ∧ Lanes wr (w.heap.size + 1) 78 25 (absorbs ((ms.take k).flatten ++ ms[k].take j)).1 ∧ Out wr w.heap.size (fun _ => 0) 0 ∧ Only (w.heap.size + 1) wo wr) (fun _ i _ => ms[k].length - (intOf i).toNat)
      case atStart => exact ⟨0, by omega, rfl, by simp, by simpa using HL.out, HO.out, Only.refl _ _⟩
      case round =>
        clear HO HL
        obtain ⟨j, hj, rfl, rfl, hl, ho, hb⟩ := hrel
        have HL := Lib.hid hl
        have HO := Lib.hid ho
        have HP := Lib.hid hb
        clear hl ho hb
        have hlt := absorbs_lt ((ms.take k).flatten ++ ms[k].take j)
        by_cases h2 : j < ms[k].length
        · have hsn := Lib.hid (take_snoc (ms.take k).flatten ms[k] j h2)
          have hr3 := HR2.out.keep (fun p hp => World.cell?_of_block (HP.out.block p.block (by have := HB.out.size; omega) (fun e => by injection e with e; omega)))
          obtain ⟨b2, o2, rfl, hb2, hc2⟩ := isB_at hr3 j h2
          have hlt2 := bv_lt ms[k][j]
          go_wp2_with fail
          refine (kec_take (w.heap.size + 1) 78 _ _ _ hlt hlt2 _ HL.out).mono ?_
          rintro e w3 ⟨rfl, hl3, ho3⟩
          have HL3 := Lib.hid hl3
          have HP3 := Lib.hid (HP.out.trans ho3)
          have HO3 : Hid (Out w3 w.heap.size (fun _ => 0) 0) := Lib.hid ((ho3.block w.heap.size HO.out.lt (by simp)).trans HO.out)
          clear hl3 ho3 HL HP HO hc2 hr3
          by_cases h136 : (absorbs ((ms.take k).flatten ++ ms[k].take j)).2 + 1 = 136
          · have hA : absorbs ((ms.take k).flatten ++ ms[k].take (j + 1)) = _ := hsn.out.trans (if_pos h136)
            have HA := Lib.hid hA
            clear hA
            have h135 : (absorbs ((ms.take k).flatten ++ ms[k].take j)).2 = 135 := by omega
            rw [h135]
            go_wp2_with fail
            refine (kec_permute (w.heap.size + 1) 78 _ _ HL3.out).mono ?_
            rintro e w4 ⟨rfl, hl4, ho4⟩
            have HL4 := Lib.hid hl4
            have HP4 := Lib.hid (HP3.out.trans ho4)
            have HO4 : Hid (Out w4 w.heap.size (fun _ => 0) 0) := Lib.hid ((ho4.block w.heap.size HO3.out.lt (by simp)).trans HO3.out)
            clear hl4 ho4 HL3 HP3 HO3
            go_wp2_with fail
            go_roundw
            case rel => exact ⟨j + 1, by omega, by go_num, by rw [HA.out]; rfl, by rw [HA.out]; exact HL4.out, HO4.out, HP4.out⟩
            case measure => simp [intOf]; omega
          · have hA : absorbs ((ms.take k).flatten ++ ms[k].take (j + 1)) = _ := hsn.out.trans (if_neg h136)
            have HA := Lib.hid hA
            clear hA
            go_wp2_with fail
            go_roundw
            case rel => exact ⟨j + 1, by omega, by go_num, by rw [HA.out]; go_num, by rw [HA.out]; exact HL3.out, HO3.out, HP3.out⟩
            case measure => simp [intOf]; omega
        · have h5 : j = ms[k].length := by omega
          subst h5
          have hfl : (ms.take k).flatten ++ ms[k].take ms[k].length = (ms.take (k + 1)).flatten := by rw [List.take_length, take_flat ms k h1]
          rw [hfl] at HL
          rw [hfl]
          have HB2 := Lib.hid (Only.gr HB.out HP.out (by omega))
          clear HB HP hfl
          go_wp2_with fail
          go_roundw
          case rel => exact ⟨k + 1, by omega, by go_num, rfl, HL.out, HO.out, HB2.out⟩
          case measure => simp [intOf]; omega
    · have h5 : k = ms.length := by omega
      subst h5
      have hlt := absorbs_lt ms.flatten
      have hfl : (ms.take ms.length).flatten = ms.flatten := by rw [List.take_length]
      rw [hfl] at HL
      rw [hfl]
      clear hfl
      go_wp2_with fail
      refine (kec_take (w.heap.size + 1) 78 _ _ 1 hlt (by omega) _ HL.out).mono ?_
      rintro e w3 ⟨rfl, hl3, ho3⟩
      have HL3 := Lib.hid hl3
      have HB3 := Lib.hid (Only.gr HB.out ho3 (by omega))
      have HO3 : Hid (Out w3 w.heap.size (fun _ => 0) 0) := Lib.hid ((ho3.block w.heap.size HO.out.lt (by simp)).trans HO.out)
      clear hl3 ho3 HL HB HO
      go_wp2_with fail
      refine (kec_take (w.heap.size + 1) 78 _ 135 128 (by omega) (by omega) _ HL3.out).mono ?_
      rintro e w4 ⟨rfl, hl4, ho4⟩
      have HL4 := Lib.hid hl4
      have HB4 := Lib.hid (Only.gr HB3.out ho4 (by omega))
      have HO4 : Hid (Out w4 w.heap.size (fun _ => 0) 0) := Lib.hid ((ho4.block w.heap.size HO3.out.lt (by simp)).trans HO3.out)
      clear hl4 ho4 HL3 HB3 HO3
      go_wp2_with fail
      refine (kec_permute (w.heap.size + 1) 78 _ _ HL4.out).mono ?_
      rintro e w5 ⟨rfl, hl5, ho5⟩
      have HL5 : Hid (Lanes w5 (w.heap.size + 1) 78 25 (sponge ms.flatten)) := Lib.hid hl5
      have HB5 := Lib.hid (Only.gr HB4.out ho5 (by omega))
      have HO5 : Hid (Out w5 w.heap.size (fun _ => 0) 0) := Lib.hid ((ho5.block w.heap.size HO4.out.lt (by simp)).trans HO4.out)
      clear hl5 ho5 HL4 HB4 HO4
      go_wp2_with fail
      go_loopw [37] (fun i wr => ∃ k : Nat, k ≤ 32 ∧ i = .int .i64 k ∧ Lanes wr (w.heap.size + 1) 78 25 (sponge ms.flatten) ∧ Out wr w.heap.size (fun _ => 0) 0 ∧ Out wr w5.heap.size (sponge ms.flatten) k ∧ Gr w wr) (fun i _ => 32 - (intOf i).toNat)
      case atStart =>
        refine ⟨0, by omega, rfl, HL5.out.alloc _, ?_, heap_alloc_new w5 _, HB5.out.trans (gr_alloc _ _)⟩
        exact (Below.heap_alloc w5 _ _ HO5.out.lt).trans HO5.out
      case round =>
        have hs5 := HB5.out.size
        have hl5 := HL5.out.lt
        clear HL5 HB5 HO5
        obtain ⟨k, hk, rfl, hl, ho, hw5, hb⟩ := hrel
        have HL := Lib.hid hl
        have HO := Lib.hid ho
        have HW := Lib.hid hw5
        have HB := Lib.hid hb
        clear hl ho hw5 hb
        by_cases h1 : k < 32
        · have c1 := HL.out.cell (k / 8) (by omega)
          have c2 := HW.out.cell h1
          have c3 := HW.out.frozen k
          unfold lv at c1
          have hu := u_range (sponge ms.flatten (k / 8))
          have hu0 := hu.1
          clear hu
          go_wp2_with fail
          go_roundw
          case rel =>
            refine ⟨k + 1, by omega, by go_num, HL.out.far (by dsimp only; omega) _, ?_, ?_, ?_⟩
            · exact (Below.heap_setCell _ _ _ _ (by dsimp only; omega)).trans HO.out
            · rw [out_val]
              exact HW.out.set
            · exact (Only.set (g := w5.heap.size) _ k _).gr HB.out (by omega)
          case measure => simp [intOf]; omega
        · have h5 : k = 32 := by omega
          subst h5
          have HC := HW.out
          unfold Out at HC
          have HOO := HO.out
          unfold Out at HOO
          go_wp2_with first
            | refine wpList_load_row rfl 36 (.tmp 9) rfl w5.heap.size rfl 36 (outC (sponge ms.flatten) 32) (0, 0) _ HC rfl rfl (outC_info _ _) ?_
            | refine wpList_store_row rfl 36 (.tmp 2) (.tmp 52) rfl w.heap.size (outC (sponge ms.flatten) 32) rfl rfl 36 _ HOO (outC_info _ _) (outC_size2 _ _ _ _) (outC_one _ _) ?_
          exact bodyPost_ret (results_cell_row rfl _ _ w.heap.size 36 (outC (sponge ms.flatten) 32) (0, 0) _ rfl (heap_setRow_same _ _ _ _ _ HOO) rfl rfl (outC_info _ _)) rfl ⟨_, rfl, gr_setRow HB.out _ _ (Nat.le_refl _), rfl⟩
theorem outC_hash (l : List UInt8) : Value.agg (outC (sponge l) 32) = arrV (hash l) := by
  unfold outC arrV hash outL bvs
  rw [List.map_map]
  congr 2
/-- keccak.Sum: the hash of its lists' bytes. -/
theorem sum_all (v : Value) (ms : List (List UInt8)) (w : World) (h : IsBB w v ms) : Calls Try.prog 30 #[v] w (Ret (eqV (arrV (hash ms.flatten))) w) :=
  (kec_sum v ms w h).mono fun e w' ⟨x, he, hg, hx⟩ => ⟨x, he, hg, by unfold eqV; rw [hx, outC_hash]⟩
end Go.Proofs.Ytfpigemikpbbhaa
