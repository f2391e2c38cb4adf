/-
  Merged (wip/tools/merge.py): KecSum, KecKeccak, Rlp, Rd, E1.
  Conditions: none.
-/
import Derived.Test.YtdhicdnmgmkpkaaGreatZE3
import Derived.Test.YtdhicdnmgmkpkaaGreatZE2
import Derived.Laws.Rows
import Derived.Deep.LoopGhost
import Derived.Deep.MidRow
/-
  keccak.Sum.
  Conditions: none.
-/
namespace Go.Proofs.YtdhicdnmgmkpkaaGreat
open Go.RowKit Mono
open Kec (L St rotl)
def outV (f : St) (k : Nat) : Value := .int .u8 (((f (k / 8) >>> (8 * (k % 8))).toNat % 256 : Nat) : Int)
def outC (f : St) (n : Nat) : Array Value := ((List.range 32).map fun k => if k < n then outV f k else .int .u8 0).toArray
def Out (w : World) (g : Nat) (f : St) (n : Nat) : Prop := w.heap[g]? = some (.cells (outC f n) 34 (0, 0))
theorem Out.lt {w : World} {g : Nat} {f : St} {n : Nat} (h : Out w g f n) : g < w.heap.size := by
  rcases Nat.lt_or_ge g w.heap.size with h1 | h1
  · exact h1
  · unfold Out at h; rw [Array.getElem?_eq_none h1] at h; cases h
theorem Out.cell {w : World} {g : Nat} {f : St} {n : Nat} (h : Out w g f n) (hn : n < 32) : w.cell? ⟨g, n, none⟩ = some (.int .u8 0) := by
  rw [cell_of_row w g n _ 34 (0, 0) h]
  simp [outC, hn]
theorem Out.frozen {w : World} {g : Nat} {f : St} {n : Nat} (h : Out w g f n) (k : Nat) : w.frozen? ⟨g, k, none⟩ = false := by
  unfold Out at h
  simp [World.frozen?, h]
theorem outC_set (f : St) (n : Nat) : (outC f n).setIfInBounds n (outV f n) = outC f (n + 1) := by
  apply Array.ext_getElem?
  intro i
  rw [Array.getElem?_setIfInBounds]
  unfold outC
  by_cases hi : i < 32
  · by_cases hk : n = i
    · subst hk
      simp [hi]
    · rw [if_neg hk]
      simp only [List.getElem?_toArray, List.getElem?_map, List.getElem?_range hi, Option.map_some, Option.some.injEq]
      by_cases h2 : i < n
      · rw [if_pos h2, if_pos (by omega)]
      · rw [if_neg h2, if_neg (by omega)]
  · simp [hi]
    omega
theorem Out.set {w : World} {g : Nat} {f : St} {n : Nat} (h : Out w g f n) : Out (w.setCell ⟨g, n, none⟩ (outV f n)) g f (n + 1) := by
  unfold Out at h ⊢
  simp [World.setCell, Array.getElem?_modify, h, outC_set]
theorem outC_size (f : St) (n : Nat) : (outC f n).size = 32 := by simp [outC]
theorem outC_size2 (f g : St) (n m : Nat) : (outC f n).size = (outC g m).size := by rw [outC_size, outC_size]
theorem outC_info (f : St) (n : Nat) : (Tryz.prog.info? 34).map (·.size) = some (outC f n).size := by
  rw [outC_size]
  kernel_rfl
theorem outC_one (f : St) (n : Nat) : (outC f n).all (·.oneCell') = true := by
  simp only [outC, List.all_toArray, List.all_eq_true, List.mem_map]
  rintro x ⟨k, _, rfl⟩
  split <;> rfl
theorem out_val (f : St) (k : Nat) : Value.int .u8 (u (f (k / 8)) / 2 ^ (8 * (k % 8)) % 256) = outV f k := by
  rw [u_shr]
  unfold outV u
  simp
set_option maxRecDepth 20000 in
set_option maxHeartbeats 1000000 in
theorem kec_sum (v : Value) (ms : List (List UInt8)) (w : World) (h : IsBB w v ms) : Calls Tryz.prog 176 #[v] w (Ret (fun v' _ => v' = .agg (outC (sponge ms.flatten) 32)) w) := by
  obtain ⟨A, c, vals, rfl, hc1, hc2, hlen, hrd, hel⟩ := h
  unfold maxLen at hc2
  have HRD := Lib.hid hrd
  have HEL := Lib.hid hel
  have HLEN := Lib.hid hlen
  clear hrd hel hlen
  go_enter Tryz.func176, Tryz.ntmps176
  go_wp2
  go_loopw [4, 13] (fun at_ i wr => ∃ k : Nat, k ≤ ms.length ∧ i = .int .i64 k ∧ at_ = .int .i64 ((absorbs (ms.take k).flatten).2 : Nat) ∧ Lanes wr (w.heap.size + 1) 295 25 (absorbs (ms.take k).flatten).1 ∧ Out wr w.heap.size (fun _ => 0) 0 ∧ Gr w wr) (fun _ i _ => ms.length - (intOf i).toNat)
  case atStart =>
    refine ⟨0, by omega, rfl, rfl, ?_, ?_, (gr_alloc w _).trans (gr_alloc _ _)⟩
    · have := lanes_new (w.alloc (.cells (outC (fun _ => 0) 0) 34)) 295 25 _ rfl
      rw [alloc_len] at this
      exact this
    · exact (Below.heap_alloc (w.alloc (.cells (outC (fun _ => 0) 0) 34)) _ _ (by simp)).trans (heap_alloc_new w _)
  case round =>
    obtain ⟨k, hk, rfl, rfl, hl, ho, hb⟩ := hrel
    have HL := Lib.hid hl
    have HO := Lib.hid ho
    have HB := Lib.hid hb
    clear hl ho hb
    by_cases h1 : k < ms.length
    · obtain ⟨b, o, x, rfl, hbl, hcell, hx⟩ := IsBB.at HLEN.out HRD.out HEL.out k h1
      have hcell' := (HB.out.cell (p := ⟨b, o + k, none⟩) hbl).trans hcell
      clear hcell
      obtain ⟨A2, c2, rfl, hd1, hd2, hr2⟩ := hx
      unfold maxLen at hd2
      have HR2 := Lib.hid (hr2.below HB.out)
      clear hr2
      go_wp2_with fail
      obtain ⟨wo, rfl⟩ : ∃ wo : World, wo = wr := ⟨_, rfl⟩
      go_loopw [4, 19] (fun at_ i wr => ∃ j : Nat, j ≤ ms[k].length ∧ i = .int .i64 j ∧ at_ = .int .i64 ((absorbs ((ms.take k).flatten ++ ms[k].take j)).2 : Nat) ∧ Lanes wr (w.heap.size + 1) 295 25 (absorbs ((ms.take k).flatten ++ ms[k].take j)).1 ∧ Out wr w.heap.size (fun _ => 0) 0 ∧ Only (w.heap.size + 1) wo wr) (fun _ i _ => ms[k].length - (intOf i).toNat)
      case atStart => exact ⟨0, by omega, rfl, by simp, by simpa using HL.out, HO.out, Only.refl _ _⟩
      case round =>
        clear HO HL
        obtain ⟨j, hj, rfl, rfl, hl, ho, hb⟩ := hrel
        have HL := Lib.hid hl
        have HO := Lib.hid ho
        have HP := Lib.hid hb
        clear hl ho hb
        have hlt := absorbs_lt ((ms.take k).flatten ++ ms[k].take j)
        by_cases h2 : j < ms[k].length
        · have hsn := Lib.hid (take_snoc (ms.take k).flatten ms[k] j h2)
          have hr3 := HR2.out.keep (fun p hp => World.cell?_of_block (HP.out.block p.block (by have := HB.out.size; omega) (fun e => by injection e with e; omega)))
          obtain ⟨b2, o2, rfl, hb2, hc2⟩ := isB_at hr3 j h2
          have hlt2 := bv_lt ms[k][j]
          go_wp2_with fail
          refine (kec_take (w.heap.size + 1) 295 _ _ _ hlt hlt2 _ HL.out).mono ?_
          rintro e w3 ⟨rfl, hl3, ho3⟩
          have HL3 := Lib.hid hl3
          have HP3 := Lib.hid (HP.out.trans ho3)
          have HO3 : Hid (Out w3 w.heap.size (fun _ => 0) 0) := Lib.hid ((ho3.block w.heap.size HO.out.lt (by simp)).trans HO.out)
          clear hl3 ho3 HL HP HO hc2 hr3
          by_cases h136 : (absorbs ((ms.take k).flatten ++ ms[k].take j)).2 + 1 = 136
          · have hA : absorbs ((ms.take k).flatten ++ ms[k].take (j + 1)) = _ := hsn.out.trans (if_pos h136)
            have HA := Lib.hid hA
            clear hA
            have h135 : (absorbs ((ms.take k).flatten ++ ms[k].take j)).2 = 135 := by omega
            rw [h135]
            go_wp2_with fail
            refine (kec_permute (w.heap.size + 1) 295 _ _ HL3.out).mono ?_
            rintro e w4 ⟨rfl, hl4, ho4⟩
            have HL4 := Lib.hid hl4
            have HP4 := Lib.hid (HP3.out.trans ho4)
            have HO4 : Hid (Out w4 w.heap.size (fun _ => 0) 0) := Lib.hid ((ho4.block w.heap.size HO3.out.lt (by simp)).trans HO3.out)
            clear hl4 ho4 HL3 HP3 HO3
            go_wp2_with fail
            go_roundw
            case rel => exact ⟨j + 1, by omega, by go_num, by rw [HA.out]; rfl, by rw [HA.out]; exact HL4.out, HO4.out, HP4.out⟩
            case measure => simp [intOf]; omega
          · have hA : absorbs ((ms.take k).flatten ++ ms[k].take (j + 1)) = _ := hsn.out.trans (if_neg h136)
            have HA := Lib.hid hA
            clear hA
            go_wp2_with fail
            go_roundw
            case rel => exact ⟨j + 1, by omega, by go_num, by rw [HA.out]; go_num, by rw [HA.out]; exact HL3.out, HO3.out, HP3.out⟩
            case measure => simp [intOf]; omega
        · have h5 : j = ms[k].length := by omega
          subst h5
          have hfl : (ms.take k).flatten ++ ms[k].take ms[k].length = (ms.take (k + 1)).flatten := by rw [List.take_length, take_flat ms k h1]
          rw [hfl] at HL
          rw [hfl]
          have HB2 := Lib.hid (Only.gr HB.out HP.out (by omega))
          clear HB HP hfl
          go_wp2_with fail
          go_roundw
          case rel => exact ⟨k + 1, by omega, by go_num, rfl, HL.out, HO.out, HB2.out⟩
          case measure => simp [intOf]; omega
    · have h5 : k = ms.length := by omega
      subst h5
      have hlt := absorbs_lt ms.flatten
      have hfl : (ms.take ms.length).flatten = ms.flatten := by rw [List.take_length]
      rw [hfl] at HL
      rw [hfl]
      clear hfl
      go_wp2_with fail
      refine (kec_take (w.heap.size + 1) 295 _ _ 1 hlt (by omega) _ HL.out).mono ?_
      rintro e w3 ⟨rfl, hl3, ho3⟩
      have HL3 := Lib.hid hl3
      have HB3 := Lib.hid (Only.gr HB.out ho3 (by omega))
      have HO3 : Hid (Out w3 w.heap.size (fun _ => 0) 0) := Lib.hid ((ho3.block w.heap.size HO.out.lt (by simp)).trans HO.out)
      clear hl3 ho3 HL HB HO
      go_wp2_with fail
      refine (kec_take (w.heap.size + 1) 295 _ 135 128 (by omega) (by omega) _ HL3.out).mono ?_
      rintro e w4 ⟨rfl, hl4, ho4⟩
      have HL4 := Lib.hid hl4
      have HB4 := Lib.hid (Only.gr HB3.out ho4 (by omega))
      have HO4 : Hid (Out w4 w.heap.size (fun _ => 0) 0) := Lib.hid ((ho4.block w.heap.size HO3.out.lt (by simp)).trans HO3.out)
      clear hl4 ho4 HL3 HB3 HO3
      go_wp2_with fail
      refine (kec_permute (w.heap.size + 1) 295 _ _ HL4.out).mono ?_
      rintro e w5 ⟨rfl, hl5, ho5⟩
      have HL5 : Hid (Lanes w5 (w.heap.size + 1) 295 25 (sponge ms.flatten)) := Lib.hid hl5
      have HB5 := Lib.hid (Only.gr HB4.out ho5 (by omega))
      have HO5 : Hid (Out w5 w.heap.size (fun _ => 0) 0) := Lib.hid ((ho5.block w.heap.size HO4.out.lt (by simp)).trans HO4.out)
      clear hl5 ho5 HL4 HB4 HO4
      go_wp2_with fail
      go_loopw [37] (fun i wr => ∃ k : Nat, k ≤ 32 ∧ i = .int .i64 k ∧ Lanes wr (w.heap.size + 1) 295 25 (sponge ms.flatten) ∧ Out wr w.heap.size (fun _ => 0) 0 ∧ Out wr w5.heap.size (sponge ms.flatten) k ∧ Gr w wr) (fun i _ => 32 - (intOf i).toNat)
      case atStart =>
        refine ⟨0, by omega, rfl, HL5.out.alloc _, ?_, heap_alloc_new w5 _, HB5.out.trans (gr_alloc _ _)⟩
        exact (Below.heap_alloc w5 _ _ HO5.out.lt).trans HO5.out
      case round =>
        have hs5 := HB5.out.size
        have hl5 := HL5.out.lt
        clear HL5 HB5 HO5
        obtain ⟨k, hk, rfl, hl, ho, hw5, hb⟩ := hrel
        have HL := Lib.hid hl
        have HO := Lib.hid ho
        have HW := Lib.hid hw5
        have HB := Lib.hid hb
        clear hl ho hw5 hb
        by_cases h1 : k < 32
        · have c1 := HL.out.cell (k / 8) (by omega)
          have c2 := HW.out.cell h1
          have c3 := HW.out.frozen k
          unfold lv at c1
          have hu := u_range (sponge ms.flatten (k / 8))
          have hu0 := hu.1
          clear hu
          go_wp2_with fail
          go_roundw
          case rel =>
            refine ⟨k + 1, by omega, by go_num, HL.out.far (by dsimp only; omega) _, ?_, ?_, ?_⟩
            · exact (Below.heap_setCell _ _ _ _ (by dsimp only; omega)).trans HO.out
            · rw [out_val]
              exact HW.out.set
            · exact (Only.set (g := w5.heap.size) _ k _).gr HB.out (by omega)
          case measure => simp [intOf]; omega
        · have h5 : k = 32 := by omega
          subst h5
          have HC := HW.out
          unfold Out at HC
          have HOO := HO.out
          unfold Out at HOO
          go_wp2_with first
            | refine wpList_load_row rfl 34 (.tmp 9) rfl w5.heap.size rfl 34 (outC (sponge ms.flatten) 32) (0, 0) _ HC rfl rfl (outC_info _ _) ?_
            | refine wpList_store_row rfl 34 (.tmp 2) (.tmp 52) rfl w.heap.size (outC (sponge ms.flatten) 32) rfl rfl 34 _ HOO (outC_info _ _) (outC_size2 _ _ _ _) (outC_one _ _) ?_
          exact bodyPost_ret (results_cell_row rfl _ _ w.heap.size 34 (outC (sponge ms.flatten) 32) (0, 0) _ rfl (heap_setRow_same _ _ _ _ _ HOO) rfl rfl (outC_info _ _)) rfl ⟨_, rfl, gr_setRow HB.out _ _ (Nat.le_refl _), rfl⟩
theorem outC_hash (l : List UInt8) : Value.agg (outC (sponge l) 32) = arrV (hash l) := by
  unfold outC arrV hash outL bvs
  rw [List.map_map]
  congr 2
theorem sum_all (v : Value) (ms : List (List UInt8)) (w : World) (h : IsBB w v ms) : Calls Tryz.prog 176 #[v] w (Ret (eqV (arrV (hash ms.flatten))) w) :=
  (kec_sum v ms w h).mono fun e w' ⟨x, he, hg, hx⟩ => ⟨x, he, hg, by unfold eqV; rw [hx, outC_hash]⟩
end Go.Proofs.YtdhicdnmgmkpkaaGreat
/-
  The reference's Keccak.
  Conditions: the bytes are at most 2^40.
-/
namespace Go.Proofs.YtdhicdnmgmkpkaaGreat
open Go.RowKit Mono
open Kec (L St rotl Same)
theorem u8_or128 (z : UInt8) : bits .or .u8 (z.toNat : Int) 128 = ((z ||| 128).toNat : Int) := by
  have h : ∀ q : BitVec 8, bits .or .u8 (q.toNat : Int) 128 = ((q ||| 128).toNat : Int) := by decide +kernel
  exact h z.toBitVec
theorem and_val (f : St) (k : Nat) : Value.int .u8 (bits .and .u64 (u (f (k / 8)) / 2 ^ (8 * (k % 8))) 255 % 256) = outV f k := by
  have h : (255 : Int) = u 255 := rfl
  rw [u_shr, h, u_and]
  unfold outV u
  rw [BitVec.toNat_and]
  have h2 : ((255 : L).toNat) = 2 ^ 8 - 1 := rfl
  rw [h2, Nat.and_two_pow_sub_one_eq_mod]
  congr 1
  omega
theorem outC_same {a b : St} (h : Same a b) : outC a 32 = outC b 32 := by
  unfold outC
  congr 1
  refine List.map_congr_left fun k hk => ?_
  have := List.mem_range.1 hk
  unfold outV
  rw [h _ (by omega)]
set_option maxRecDepth 20000 in
set_option maxHeartbeats 1000000 in
theorem ref_keccak (v : Value) (l : List UInt8) (w : World) (h : IsB w v l) (hlen : l.length ≤ 1099511627776) : Calls Tryz.prog 109 #[v] w (Ret (eqV (arrV (hash l))) w) := by
  obtain ⟨A, c, rfl, hl1, hl2, hA⟩ := h
  clear hl1 hl2
  have HA := Lib.hid hA
  clear hA
  go_enter Tryz.func109, Tryz.ntmps109
  go_wp2_with first
    | (at_builtin; refine wpL_append (.const (.slice none 0 0)) (.tmp 11) 35 slT_bytes (base := w.heap.size + 1) _ 0 [] A l.length c w.heap.size (bvs l) rfl rfl rfl rfl (OwnB.nil _ _) ((HA.out.below (Below.alloc (Below.refl _ _) (Nat.le_refl _) _))) (by simp [bvs]) (bvs_one _) (by simp only [maxLen]; omega) (by simp; omega) (by simp) ?_; intro A2 c2 w2 hown2 hg2 _; simp only [Nat.zero_add, List.nil_append] at hown2; have hz2 := hg2.size; simp only [alloc_len] at hz2; have HO2 := Lib.hid hown2; have HG2 := Lib.hid hg2; clear hown2 hg2; rw [Nat.zero_add])
    | (at_builtin; refine wpL_append (.tmp 12) (.tmp 13) 35 slT_bytes (base := w.heap.size + 1) _ l.length (bvs l) _ 1 1 (w2.heap.size + 1) [.int .u8 1] rfl rfl rfl rfl (HO2.out.alloc _) (Rd.new _ _ _) rfl (by simp [Value.oneCell']) (by simp only [maxLen]; omega) (by omega) (by simp; omega) ?_; intro A3 c3 w3 hown3 hg3 _)
  obtain ⟨w0, hw0⟩ : ∃ w0 : World, w0 = w.alloc (.cells (outC (fun _ => 0) 0) 34) := ⟨_, rfl⟩
  have hz0 : w0.heap.size = w.heap.size + 1 := by rw [hw0]; simp
  have HB3 : Hid (Below (w.heap.size + 1) w0 w3) := by
    refine Lib.hid ((((Below.refl _ w0).grown (B := w.heap.size + 1) (by rw [hw0]; exact HG2.out) (by omega) (fun j hj => by cases hj)).alloc (by omega) _).grown hg3 (by simp; omega) fun j hj => own_block_ge HO2.out j hj)
  have HO3 : Hid (OwnB w3 (w.heap.size + 1) (.slice A3 (l.length + 1) c3) (zeros l 0)) := by
    refine Lib.hid ?_
    have := zeros_length l 0
    exact ownB_of hown3 (by simp [zeros, bvs, bv])
  have HW0 := Lib.hid hw0
  clear hw0 hown3 hg3 HO2 HG2
  go_loopw [3] (fun v wr => ∃ n : Nat, n ≤ 135 - l.length % 136 ∧ OwnB wr (w.heap.size + 1) v (zeros l n) ∧ Below (w.heap.size + 1) w0 wr) (fun v _ => match v with | .slice _ n _ => l.length + 136 - n | _ => 0)
  case atStart => exact ⟨0, by omega, HO3.out, HB3.out⟩
  case round =>
    clear HO3 HB3
    obtain ⟨n, hn, hown, hb⟩ := hrel
    obtain ⟨A', c', rfl, hc1, hc2⟩ := own_form hown
    have hN := zeros_length l n
    have hbs := hb.size
    unfold OwnB at hown
    rw [hN] at hown hc1 ⊢
    have HO := Lib.hid hown
    have HB := Lib.hid hb
    have HN := Lib.hid hN
    clear hown hb hN
    unfold maxLen at hc2
    by_cases h1 : (l.length + 1 + n) % 136 = 0
    · have hn2 := Lib.hid (show n = 135 - l.length % 136 by omega)
      have hm := Lib.hid (show (l.length + 1 + n) % 136 = 0 from h1)
      obtain ⟨g, cp, cur, hv, hg1, hgh, _⟩ := HO.out.2.resolve_left (fun h => by have := h.2; omega)
      have hg2 := lt_of_some hgh
      clear hgh
      injection hv with hA' _ _
      subst hA'
      have e1 := HO.out.cellAt (l.length + n) (by omega)
      have e2 := HO.out.frozenAt (l.length + n)
      have hz : (zeros l n)[l.length + n]? = some ((zeros l n).getD (l.length + n) 0) := by
        have := HN.out
        rw [List.getD_eq_getElem?_getD, List.getElem?_eq_getElem (by omega)]
        rfl
      have hzz : (bvs (zeros l n))[l.length + n]? = some (bv ((zeros l n).getD (l.length + n) 0)) := by simp only [bvs, List.getElem?_map, hz, Option.map_some]
      rw [hzz] at e1
      have HZ := Lib.hid (HO.out.stored (l.length + n) (bv ((zeros l n).getD (l.length + n) 0 ||| 128)))
      have hs := zeros_set l n hn2.out
      rw [HN.out, show l.length + 1 + n - 1 = l.length + n by omega] at hs
      have HS := Lib.hid hs
      have HR := Lib.hid (u8_or128 ((zeros l n).getD (l.length + n) 0))
      clear hz hzz hs
      generalize (zeros l n).getD (l.length + n) 0 = z at e1 HZ HS HR
      unfold bv at e1
      have hzl := bv_lt z
      go_wp2_with fail
      obtain ⟨wL, hwL⟩ : ∃ wL : World, wL = (wr.setCell ⟨g, l.length + n, none⟩ (.int .u8 (bits .or .u8 (z.toNat : Int) 128))).alloc (.cells (cellsOf (fun _ => 0) 25) 210) := ⟨_, rfl⟩
      obtain ⟨m, hm0⟩ : ∃ m : List UInt8, m = l ++ pad (l.length % 136) := ⟨_, rfl⟩
      have hml : m.length = l.length + 1 + n := by
        rw [hm0, ← HS.out, List.length_set, HN.out]
      obtain ⟨J, hJ⟩ : ∃ J : Nat, 136 * J = l.length + 1 + n := ⟨(l.length + 1 + n) / 136, by have := hm.out; omega⟩
      have hsz : wL.heap.size = wr.heap.size + 1 := by rw [hwL]; simp
      have HL0 : Hid (Lanes wL wr.heap.size 210 25 (fun _ => 0)) := by
        refine Lib.hid ?_
        have := lanes_new (wr.setCell ⟨g, l.length + n, none⟩ (.int .u8 (bits .or .u8 (z.toNat : Int) 128))) 210 25 _ rfl
        rw [hwL]
        simpa using this
      have HRm : Hid (Rd wL wr.heap.size (some ⟨g, 0, none⟩) (bvs m)) := by
        refine Lib.hid ?_
        have h1 := Rd.of_own HZ.out.1
        rw [bvs_set, HS.out, ← hm0] at h1
        have h2 : wr.heap.size = (wr.setCell ⟨g, l.length + n, none⟩ (bv (z ||| 128))).heap.size := by simp
        rw [h2, hwL, HR.out]
        exact h1.below ((Below.refl _ _).alloc (Nat.le_refl _) _)
      have HBL : Hid (Below (w.heap.size + 1) w0 wL) := by
        refine Lib.hid ?_
        rw [hwL]
        exact (HB.out.setCell hg1 _).alloc (by simp; omega) _
      have HS2 := Lib.hid (sponge_same l m J hm0 (by omega))
      have HwL := Lib.hid hwL
      have HJ := Lib.hid hJ
      have HML := Lib.hid hml
      have hJ1 : 136 * J ≤ l.length + 1 + n := by omega
      have hJ2 : l.length + 1 + n ≤ 136 * J := by omega
      have hn3 : n ≤ 135 := by omega
      clear hwL hm0 hml hJ HZ HS HR e1 e2 HB HO
      obtain ⟨wp, rfl⟩ : ∃ wp : World, wp = wr := ⟨_, rfl⟩
      go_loopw [5] (fun i wx => ∃ j : Nat, j ≤ J ∧ i = .int .i64 (136 * (j : Int)) ∧ Lanes wx wp.heap.size 210 25 (rabs m j) ∧ Below wp.heap.size wL wx) (fun i _ => l.length + 136 - (intOf i).toNat)
      case atStart => exact ⟨0, by omega, rfl, by have := HL0.out; rw [HwL.out] at this; exact this, by rw [HwL.out]; exact Below.refl _ _⟩
      case round =>
        clear HL0
        obtain ⟨j, hj, rfl, hl, hb⟩ := hrel
        have HL := Lib.hid hl
        have HB := Lib.hid hb
        have hbs := hb.size
        clear hl hb
        by_cases h2 : j < J
        · have hj2 : 136 * j + 136 ≤ l.length + 1 + n := by omega
          have hd : decide ((136 * (j : Int)) < (l.length : Int) + 1 + (n : Int)) = true := by simp; omega
          go_wp2_with fail
          clear hd
          obtain ⟨wo, rfl⟩ : ∃ wo : World, wo = wr := ⟨_, rfl⟩
          go_loopw [6] (fun i wx => ∃ k : Nat, k ≤ 136 ∧ i = .int .i64 k ∧ Lanes wx wp.heap.size 210 25 (rtake (fun i => (m.getD (136 * j + i) 0).toNat) (rabs m j) k) ∧ Below wp.heap.size wo wx) (fun i _ => 136 - (intOf i).toNat)
          case atStart => exact ⟨0, by omega, rfl, HL.out, Below.refl _ _⟩
          case round =>
            clear HL
            obtain ⟨k, hk, rfl, hl, hb⟩ := hrel
            have HL := Lib.hid hl
            have HP := Lib.hid hb
            have hps := hb.size
            clear hl hb
            by_cases h3 : k < 136
            · have hkm : 136 * j + k < m.length := by have := HML.out; omega
              have hrm := (HRm.out.below HB.out).below HP.out
              obtain ⟨b2, o2, he2, hb2, hc2⟩ := isB_at hrm (136 * j + k) hkm
              injection he2 with he2
              injection he2 with he2 he3
              subst he2 he3
              have hgetD : m.getD (136 * j + k) 0 = m[136 * j + k] := by simp [hkm]
              rw [← hgetD, Nat.zero_add] at hc2
              clear hgetD hrm
              have HR : Hid (rtake (fun i => (m.getD (136 * j + i) 0).toNat) (rabs m j) (k + 1) = takeB (rtake (fun i => (m.getD (136 * j + i) 0).toNat) (rabs m j) k) k (m.getD (136 * j + k) 0).toNat) := Lib.hid rfl
              generalize rtake (fun i => (m.getD (136 * j + i) 0).toNat) (rabs m j) k = s at HL HR
              have hzl := bv_lt (m.getD (136 * j + k) 0)
              generalize m.getD (136 * j + k) 0 = z2 at hc2 HR hzl
              have d1 := later_cell (w := wr) (p := ⟨wp.heap.size, k / 8, none⟩) (by have := HL.out.lt; exact this) (HL.out.cell (k / 8) (by omega))
              have d2 := later_cell (w := wr) (p := ⟨g, 136 * j + k, none⟩) (by dsimp only; omega) hc2
              clear hc2
              unfold lv at d1
              have hu := u_range (s (k / 8))
              have hu0 := hu.1
              clear hu
              go_wp2_with fail
              refine wp_region_N 20 (by kernel_rfl) (by kernel_rfl) (by kernel_rfl) ?_
              simp only [List.take_succ_cons, List.take_zero, List.drop_succ_cons, List.drop_zero]
              refine wpN_quiet 20 (by kernel_rfl) ?_
              simp only [List.take_succ_cons, List.take_zero, List.drop_succ_cons, List.drop_zero]
              repeat (go_big_quiet_step (fail))
              refine wpQuiet_nil ?_
              refine wpN_nil (by kernel_rfl) ?_
              intro W hW
              replace hW := hW.gr
              unfold finN
              have HW := Lib.hid (HL.out.gr hW)
              have e1 := HW.out.cell (k / 8) (by omega)
              have e2 := HW.out.frozen (k / 8)
              unfold lv at e1
              go_wp2_with fail
              go_roundw
              case rel =>
                have hv : Value.int .u64 (bits .xor .u64 (u (s (k / 8))) (IntKind.u64.wrap ((z2.toNat : Int) * 2 ^ (k % 8 * 8)))) = lv (s (k / 8) ^^^ (BitVec.ofNat 64 z2.toNat) <<< (8 * (k % 8))) := by
                  rw [← u_byte z2.toNat hzl, u_shl, u_xor, Nat.mul_comm (k % 8) 8]
                  rfl
                rw [hv]
                refine ⟨k + 1, by omega, by go_num, ?_, ?_⟩
                · rw [HR.out]
                  exact HW.out.set _ _
                · exact (HP.out.trans (hW.mono (by omega))).setCell (Nat.le_refl _) _
              case measure => simp [intOf]; omega
            · have h5 : k = 136 := by omega
              rw [h5] at HL
              have h6 : 136 ≤ k := by omega
              clear h5 h3
              go_wp2_with fail
              obtain ⟨wq, rfl⟩ : ∃ wq : World, wq = wr := ⟨_, rfl⟩
              go_loopw [8] (fun i wx => ∃ k : Nat, k ≤ 24 ∧ i = .int .i64 k ∧ Lanes wx wp.heap.size 210 25 (Kec.rperm (rtake (fun i => (m.getD (136 * j + i) 0).toNat) (rabs m j) 136) k) ∧ Reg wx wq.heap.size 5 (Kec.lfn 1 (7 * k)) ∧ Below wp.heap.size wo wx) (fun i _ => 24 - (intOf i).toNat)
              case atStart => exact ⟨0, by omega, rfl, HL.out.alloc _, heap_alloc_new wq _, HP.out.alloc (by omega) _⟩
              case round =>
                have hlt := HL.out.lt
                clear HL HP
                obtain ⟨k, hk, rfl, hl, hr, hb⟩ := hrel
                have HL := Lib.hid hl
                have HR := Lib.hid hr
                have HP := Lib.hid hb
                clear hl hr hb
                by_cases h3 : k < 24
                · have HA1 := Lib.hid (Kec.lfn_add 1 (7 * k) 7)
                  go_wp2_with fail
                  refine (ref_round wp.heap.size wq.heap.size 210 5 _ _ _ HL.out HR.out hlt).mono ?_
                  rintro e w3 ⟨rfl, hl3, hr3, hb3⟩
                  have HL3 := Lib.hid hl3
                  have HR3 := Lib.hid hr3
                  have HB3 := Lib.hid hb3
                  clear hl3 hr3 hb3
                  go_wp2_with fail
                  go_roundw
                  case rel => exact ⟨k + 1, by omega, by go_num, HL3.out, by rw [Nat.mul_succ, HA1.out]; exact HR3.out, HP.out.trans HB3.out⟩
                  case measure => simp [intOf]; omega
                · have h5 : k = 24 := by omega
                  rw [h5] at HL
                  have h6 : 24 ≤ k := by omega
                  clear h5 h3 HR
                  go_wp2_with fail
                  go_roundw
                  case rel => exact ⟨j + 1, by omega, by go_num, HL.out, HB.out.trans HP.out⟩
                  case measure => simp [intOf]; omega
        · have h5 : j = J := by omega
          have h6 : l.length + 1 + n ≤ 136 * j := by omega
          rw [h5] at HL
          have hd : decide ((136 * (j : Int)) < (l.length : Int) + 1 + (n : Int)) = false := by simp; omega
          clear h2 h5
          have HG : Hid (Below (w.heap.size + 1) w0 wr) := Lib.hid (HBL.out.trans (HB.out.mono (by omega)))
          have hgl := HL.out.lt
          clear HBL HB HRm
          go_wp2_with fail
          obtain ⟨wo, rfl⟩ : ∃ wo : World, wo = wr := ⟨_, rfl⟩
          go_loopw [10] (fun i wx => ∃ k : Nat, k ≤ 32 ∧ i = .int .i64 k ∧ Lanes wx wp.heap.size 210 25 (rabs m J) ∧ Out wx wo.heap.size (rabs m J) k ∧ Below (w.heap.size + 1) w0 wx) (fun i _ => 32 - (intOf i).toNat)
          case atStart => exact ⟨0, by omega, rfl, HL.out.alloc _, heap_alloc_new wo _, HG.out.alloc (by omega) _⟩
          case round =>
            clear HL HG
            obtain ⟨k, hk, rfl, hl, hw5, hb⟩ := hrel
            have HL := Lib.hid hl
            have HW := Lib.hid hw5
            have HB := Lib.hid hb
            clear hl hw5 hb
            by_cases h1 : k < 32
            · have c1 := HL.out.cell (k / 8) (by omega)
              have c2 := HW.out.cell h1
              have c3 := HW.out.frozen k
              unfold lv at c1
              have hu := u_range (rabs m J (k / 8))
              have hu0 := hu.1
              clear hu
              go_wp2_with fail
              go_roundw
              case rel =>
                refine ⟨k + 1, by omega, by go_num, HL.out.far (by dsimp only; omega) _, ?_, ?_⟩
                · have hv : Value.int .u8 (bits .and .u64 (u (rabs m J (k / 8)) / 2 ^ (k % 8 * 8)) 255 % 256) = outV (rabs m J) k := by
                    rw [Nat.mul_comm (k % 8) 8]
                    exact and_val _ _
                  rw [hv]
                  exact HW.out.set
                · exact HB.out.setCell (by dsimp only; omega) _
              case measure => simp [intOf]; omega
            · have h5 : k = 32 := by omega
              rw [h5] at HW
              have h6 : 32 ≤ k := by omega
              clear h5 h1
              have HC := HW.out
              unfold Out at HC
              have HOO : wr.heap[w.heap.size]? = some (.cells (outC (fun _ => 0) 0) 34 (0, 0)) := by
                rw [HB.out.block w.heap.size (by omega), HW0.out]
                exact heap_alloc_new w _
              go_wp2_with first
                | refine wpList_load_row rfl 34 (.tmp 9) rfl wo.heap.size rfl 34 (outC (rabs m J) 32) (0, 0) _ HC rfl rfl (outC_info _ _) ?_
                | refine wpList_store_row rfl 34 (.tmp 2) (.tmp 86) rfl w.heap.size (outC (rabs m J) 32) rfl rfl 34 _ HOO (outC_info _ _) (outC_size2 _ _ _ _) (outC_one _ _) ?_
              have HR : Hid (Value.agg (outC (rabs m J) 32) = arrV (hash l)) := by
                refine Lib.hid ?_
                rw [← outC_hash, outC_same HS2.out]
              have hg0 : Gr w wr := by
                have h1 : Gr w w0 := by rw [HW0.out]; exact gr_alloc w _
                exact h1.trans (HB.out.mono (by omega))
              exact bodyPost_ret (results_cell_row rfl _ _ w.heap.size 34 (outC (rabs m J) 32) (0, 0) _ rfl (heap_setRow_same _ _ _ _ _ HOO) rfl rfl (outC_info _ _)) rfl ⟨_, rfl, gr_setRow hg0 _ _ (Nat.le_refl _), HR.out⟩
    · have hn2 : n + 1 ≤ 135 - l.length % 136 := by omega
      go_wp2_with (at_builtin; refine wpL_append (.tmp 19) (.tmp 20) 35 slT_bytes (base := w.heap.size + 1) _ (l.length + 1 + n) (bvs (zeros l n)) _ 1 1 (wr.heap.size + 1) [.int .u8 0] rfl rfl rfl rfl (HO.out.alloc _) (Rd.new _ _ _) rfl (by simp [Value.oneCell']) (by simp only [maxLen]; omega) (by omega) (by simp; omega) ?_; intro A2 c2 w2 hown2 hg2 _)
      go_roundw
      case rel =>
        refine ⟨n + 1, by omega, ownB_of hown2 ?_, (HB.out.alloc (by omega) _).grown hg2 (by simp; omega) fun j hj => own_block_ge HO.out j hj⟩
        rw [← zeros_snoc, bvs_append]
        rfl
      case measure =>
        show l.length + 136 - (l.length + 1 + n + 1) < l.length + 136 - (l.length + 1 + n)
        omega
end Go.Proofs.YtdhicdnmgmkpkaaGreat
/-
  Items in plain words: their bytes, how they are measured, packed and read.
  Conditions: none. No program is named here.
-/
namespace Go.Proofs.YtdhicdnmgmkpkaaGreat
namespace Rlp
inductive Raw where
  | mk (list : Bool) (bs : List UInt8) (xs : List Raw)
abbrev most : Nat := 16777216
/-! ### A number's bytes -/
def le (n : Nat) : List UInt8 := if h : n = 0 then [] else UInt8.ofNat n :: le (n / 256)
termination_by n
decreasing_by omega
def be (n : Nat) : List UInt8 := (le n).reverse
def val (l : List UInt8) : Nat := l.foldl (fun n b => n * 256 + b.toNat) 0
/-! ### Heads and items -/
def head (n base : Nat) : List UInt8 := if n < 56 then [UInt8.ofNat (base + n)] else UInt8.ofNat (base + 55 + (be n).length) :: be n
def EB (bs : List UInt8) : List UInt8 := if bs.length = 1 ∧ bs.getD 0 0 < 128 then bs else head bs.length 128 ++ bs
mutual
def E : Raw → List UInt8
  | .mk false bs _ => EB bs
  | .mk true _ xs => head (EL xs).length 192 ++ EL xs
def EL : List Raw → List UInt8
  | [] => []
  | x :: xs => E x ++ EL xs
end
mutual
def cnt : Raw → Nat
  | .mk _ _ xs => 1 + cntL xs
def cntL : List Raw → Nat
  | [] => 0
  | x :: xs => cnt x + cntL xs
end
end Rlp
end Go.Proofs.YtdhicdnmgmkpkaaGreat
/-
  Words for memory, of whatever blocks: a slice that reads as a list of cells, bytes; rows of the call's own read so.
  Conditions: none.
-/
namespace Go.Proofs.YtdhicdnmgmkpkaaGreat
open Go.RowKit Mono Rlp
def RdP (ok : Nat → Prop) (w : World) (A : Option Addr) (xs : List Value) : Prop :=
  xs ≠ [] → ∃ b o, A = some ⟨b, o, none⟩ ∧ ok b ∧ ∀ j u, xs[j]? = some u → w.cell? ⟨b, o + j, none⟩ = some u
theorem RdP.mono {ok ok' : Nat → Prop} {w w' : World} {A : Option Addr} {xs : List Value} (h : RdP ok w A xs) (h1 : ∀ b, ok b → ok' b) (h2 : ∀ p : Addr, ok p.block → w'.cell? p = w.cell? p) : RdP ok' w' A xs := fun hn => by
  obtain ⟨b, o, e, hb, hc⟩ := h hn
  exact ⟨b, o, e, h1 b hb, fun j u hu => (h2 _ hb).trans (hc j u hu)⟩
def IsBP (ok : Nat → Prop) (w : World) (v : Value) (l : List UInt8) : Prop :=
  ∃ A c, v = .slice A l.length c ∧ l.length ≤ c ∧ c ≤ maxLen ∧ RdP ok w A (bvs l)
theorem IsBP.mono {ok ok' : Nat → Prop} {w w' : World} {v : Value} {l : List UInt8} (h : IsBP ok w v l) (h1 : ∀ b, ok b → ok' b) (h2 : ∀ p : Addr, ok p.block → w'.cell? p = w.cell? p) : IsBP ok' w' v l := by
  obtain ⟨A, c, h3, h4, h5, h6⟩ := h
  exact ⟨A, c, h3, h4, h5, h6.mono h1 h2⟩
theorem ownB_P {w : World} {base : Nat} {v : Value} {l : List UInt8} (h : OwnB w base v l) : IsBP (fun k => base ≤ k ∧ k < w.heap.size) w v l := by
  obtain ⟨A, c, rfl, h1, h2⟩ := own_form h
  refine ⟨A, c, rfl, h1, h2, fun hn => ?_⟩
  have hl : 0 < l.length := by
    rcases Nat.eq_zero_or_pos l.length with h0 | h0
    · obtain rfl := List.eq_nil_of_length_eq_zero h0
      exact absurd rfl hn
    · exact h0
  obtain ⟨g, rfl, hb, hg⟩ := own_some h hl
  exact ⟨g, 0, rfl, ⟨hb, hg⟩, fun j u hu => by
    have := World.ownsRow.cells h (g := g) rfl j u hu
    rwa [add_none] at this⟩
theorem own_RdP {w : World} {base e size n c : Nat} {A : Option Addr} {xs : List Value} (h : w.ownsRow base e size (.slice A n c) n xs) : RdP (fun k => base ≤ k ∧ k < w.heap.size) w A xs := fun hn => by
  rcases h.2 with ⟨hv, hz⟩ | ⟨g, cap, cur, hv, hb, hh, _⟩
  · have := h.1
    rw [hz, Nat.zero_mul] at this
    exact absurd (List.eq_nil_of_length_eq_zero this) hn
  · injection hv with hA _ _
    subst hA
    refine ⟨g, 0, rfl, ⟨hb, lt_of_some hh⟩, fun j u hu => ?_⟩
    have := World.ownsRow.cells h (g := g) rfl j u hu
    rwa [add_none] at this
theorem own_none {w : World} {base e size n c : Nat} {xs : List Value} (h : w.ownsRow base e size (.slice none n c) n xs) : n = 0 ∧ c = 0 := by
  rcases h.2 with ⟨hv, hz⟩ | ⟨g, cap, cur, hv, _⟩
  · injection hv with _ _ hc
    exact ⟨hz, hc⟩
  · injection hv with hA _ _
    cases hA
end Go.Proofs.YtdhicdnmgmkpkaaGreat
/-
  An abstract machine: what cells read as (D), what slots hold (R), pieces of memory (Obj); how it stands to the world.
  Conditions: none. No program is named here.
-/
namespace Go.Proofs.YtdhicdnmgmkpkaaGreat
set_option linter.unusedVariables false
open Go.RowKit Mono Rlp
namespace E
inductive D where
  | v (x : Value)
  | arr (n : Nat) (l : List UInt8)
  | bs (l : List UInt8)
  | sl (z : Nat) (ds : List D)
  | tup (ds : List D)
  | pd (d : D)
  | ifc (t : TypeId) (d : D)
mutual
def D.size : D → Nat
  | .arr n _ => n
  | .tup ds => D.sizes ds
  | _ => 1
def D.sizes : List D → Nat
  | [] => 0
  | d :: ds => d.size + D.sizes ds
end
def D.agg : D → Bool
  | .arr _ _ => true
  | .tup _ => true
  | _ => false
def form (d : D) (cs : List Value) : Value := if d.agg then .agg cs.toArray else cs.headD undef
mutual
def Reads (ok : Nat → Prop) (w : World) : D → List Value → Prop
  | .v x, cs => x.oneCell' = true ∧ cs = [x]
  | .arr n l, cs => l.length = n ∧ cs = bvs l
  | .bs l, cs => ∃ u, cs = [u] ∧ IsBP ok w u l
  | .sl z ds, cs => ∃ A c rows, cs = [.slice A ds.length c] ∧ ds.length ≤ c ∧ c ≤ maxLen ∧ (A = none → ds.length = 0 ∧ c = 0) ∧ RdP ok w A rows.flatten ∧ ReadsRows ok w z ds rows
  | .tup ds, cs => ReadsL ok w ds cs
  | .pd d, cs => ∃ b o cs', cs = [.pointer (some ⟨b, o, none⟩)] ∧ ok b ∧ w.rangeAt b o cs' ∧ Reads ok w d cs'
  | .ifc t d, cs => ∃ cs', cs = [.iface t (form d cs')] ∧ Reads ok w d cs'
def ReadsL (ok : Nat → Prop) (w : World) : List D → List Value → Prop
  | [], cs => cs = []
  | d :: ds, cs => ∃ c1 c2, cs = c1 ++ c2 ∧ Reads ok w d c1 ∧ ReadsL ok w ds c2
def ReadsRows (ok : Nat → Prop) (w : World) (z : Nat) : List D → List (List Value) → Prop
  | [], rows => rows = []
  | d :: ds, rows => ∃ r rest, rows = r :: rest ∧ r.length = z ∧ Reads ok w d r ∧ ReadsRows ok w z ds rest
end
def ReadV (ok : Nat → Prop) (w : World) (d : D) (x : Value) : Prop := ∃ cs, Reads ok w d cs ∧ x = form d cs
def ReadVs (ok : Nat → Prop) (w : World) : List D → List Value → Prop
  | [], xs => xs = []
  | d :: ds, xs => ∃ x rest, xs = x :: rest ∧ ReadV ok w d x ∧ ReadVs ok w ds rest
inductive R where
  | val (d : D)
  | tpl (ds : List D)
  | any
def ReadR (ok : Nat → Prop) (w : World) : R → Value → Prop
  | .val d, x => ReadV ok w d x
  | .tpl ds, x => ∃ vs, x = .tuple vs.toArray ∧ ReadVs ok w ds vs
  | .any, _ => True
/-! ### Laws of reading -/
section
variable {ok ok' : Nat → Prop} {w w' : World}
theorem range_mono {b o : Nat} {cs : List Value} (h2 : ∀ p : Addr, ok p.block → w'.cell? p = w.cell? p) (hb : ok b) (h : w.rangeAt b o cs) : w'.rangeAt b o cs := fun j v hv => (h2 ⟨b, o + j, none⟩ hb).trans (h j v hv)
mutual
theorem Reads.mono (h1 : ∀ b, ok b → ok' b) (h2 : ∀ p : Addr, ok p.block → w'.cell? p = w.cell? p) : ∀ (d : D) (cs : List Value), Reads ok w d cs → Reads ok' w' d cs
  | .v x, cs, h => by rw [Reads] at h ⊢; exact h
  | .arr n l, cs, h => by rw [Reads] at h ⊢; exact h
  | .bs l, cs, h => by
    rw [Reads] at h ⊢
    obtain ⟨u, h3, h4⟩ := h
    exact ⟨u, h3, h4.mono h1 h2⟩
  | .sl z ds, cs, h => by
    rw [Reads] at h ⊢
    obtain ⟨A, c, rows, g1, g2, g3, g4, g5, g6⟩ := h
    exact ⟨A, c, rows, g1, g2, g3, g4, g5.mono h1 h2, ReadsRows.mono h1 h2 z ds rows g6⟩
  | .tup ds, cs, h => by
    rw [Reads] at h ⊢
    exact ReadsL.mono h1 h2 ds cs h
  | .pd d, cs, h => by
    rw [Reads] at h ⊢
    obtain ⟨b, o, cs', g1, g2, g3, g4⟩ := h
    exact ⟨b, o, cs', g1, h1 b g2, range_mono h2 g2 g3, Reads.mono h1 h2 d cs' g4⟩
  | .ifc t d, cs, h => by
    rw [Reads] at h ⊢
    obtain ⟨cs', g1, g2⟩ := h
    exact ⟨cs', g1, Reads.mono h1 h2 d cs' g2⟩
theorem ReadsL.mono (h1 : ∀ b, ok b → ok' b) (h2 : ∀ p : Addr, ok p.block → w'.cell? p = w.cell? p) : ∀ (ds : List D) (cs : List Value), ReadsL ok w ds cs → ReadsL ok' w' ds cs
  | [], cs, h => by rw [ReadsL] at h ⊢; exact h
  | d :: ds, cs, h => by
    rw [ReadsL] at h ⊢
    obtain ⟨c1, c2, g1, g2, g3⟩ := h
    exact ⟨c1, c2, g1, Reads.mono h1 h2 d c1 g2, ReadsL.mono h1 h2 ds c2 g3⟩
theorem ReadsRows.mono (h1 : ∀ b, ok b → ok' b) (h2 : ∀ p : Addr, ok p.block → w'.cell? p = w.cell? p) (z : Nat) : ∀ (ds : List D) (rows : List (List Value)), ReadsRows ok w z ds rows → ReadsRows ok' w' z ds rows
  | [], rows, h => by rw [ReadsRows] at h ⊢; exact h
  | d :: ds, rows, h => by
    rw [ReadsRows] at h ⊢
    obtain ⟨r, rest, g1, g2, g3, g4⟩ := h
    exact ⟨r, rest, g1, g2, Reads.mono h1 h2 d r g3, ReadsRows.mono h1 h2 z ds rest g4⟩
end
mutual
theorem Reads.len : ∀ (d : D) (cs : List Value), Reads ok w d cs → cs.length = d.size
  | .v x, cs, h => by rw [Reads] at h; rw [h.2]; rfl
  | .arr n l, cs, h => by rw [Reads] at h; rw [h.2, bvs_length, h.1]; rfl
  | .bs l, cs, h => by rw [Reads] at h; obtain ⟨u, rfl, _⟩ := h; rfl
  | .sl z ds, cs, h => by rw [Reads] at h; obtain ⟨A, c, rows, rfl, _⟩ := h; rfl
  | .tup ds, cs, h => by rw [Reads] at h; exact ReadsL.len ds cs h
  | .pd d, cs, h => by rw [Reads] at h; obtain ⟨b, o, cs', rfl, _⟩ := h; rfl
  | .ifc t d, cs, h => by rw [Reads] at h; obtain ⟨cs', rfl, _⟩ := h; rfl
theorem ReadsL.len : ∀ (ds : List D) (cs : List Value), ReadsL ok w ds cs → cs.length = D.sizes ds
  | [], cs, h => by rw [ReadsL] at h; rw [h]; rfl
  | d :: ds, cs, h => by
    rw [ReadsL] at h
    obtain ⟨c1, c2, rfl, g2, g3⟩ := h
    rw [List.length_append, Reads.len d c1 g2, ReadsL.len ds c2 g3]
    rfl
end
mutual
theorem Reads.one : ∀ (d : D) (cs : List Value), Reads ok w d cs → ∀ u ∈ cs, u.oneCell' = true
  | .v x, cs, h, u, hu => by
    rw [Reads] at h
    rw [h.2] at hu
    obtain rfl : u = x := by simpa using hu
    exact h.1
  | .arr n l, cs, h, u, hu => by rw [Reads] at h; rw [h.2] at hu; exact bvs_one l u hu
  | .bs l, cs, h, u, hu => by
    rw [Reads] at h
    obtain ⟨x, rfl, A, c, rfl, _⟩ := h
    obtain rfl : u = _ := by simpa using hu
    rfl
  | .sl z ds, cs, h, u, hu => by
    rw [Reads] at h
    obtain ⟨A, c, rows, rfl, _⟩ := h
    obtain rfl : u = _ := by simpa using hu
    rfl
  | .tup ds, cs, h, u, hu => by rw [Reads] at h; exact ReadsL.one ds cs h u hu
  | .pd d, cs, h, u, hu => by
    rw [Reads] at h
    obtain ⟨b, o, cs', rfl, _⟩ := h
    obtain rfl : u = _ := by simpa using hu
    rfl
  | .ifc t d, cs, h, u, hu => by
    rw [Reads] at h
    obtain ⟨cs', rfl, _⟩ := h
    obtain rfl : u = _ := by simpa using hu
    rfl
theorem ReadsL.one : ∀ (ds : List D) (cs : List Value), ReadsL ok w ds cs → ∀ u ∈ cs, u.oneCell' = true
  | [], cs, h, u, hu => by rw [ReadsL] at h; rw [h] at hu; cases hu
  | d :: ds, cs, h, u, hu => by
    rw [ReadsL] at h
    obtain ⟨c1, c2, rfl, g2, g3⟩ := h
    rcases List.mem_append.1 hu with hu | hu
    · exact Reads.one d c1 g2 u hu
    · exact ReadsL.one ds c2 g3 u hu
end
theorem form_cells {d : D} {cs : List Value} (h : Reads ok w d cs) : (form d cs).cells = cs.toArray := by
  unfold form
  cases hd : d.agg with
  | true => rfl
  | false =>
    have h1 : cs.length = 1 := by
      have := Reads.len d cs h
      cases d <;> simp [D.agg] at hd <;> simpa [D.size] using this
    obtain ⟨c, rfl⟩ := List.length_eq_one_iff.1 h1
    have := Reads.one d _ h c (by simp)
    simp only [Bool.false_eq_true, if_false, List.headD_cons]
    cases c <;> simp [Value.oneCell'] at this <;> rfl
theorem ReadV.mono (h1 : ∀ b, ok b → ok' b) (h2 : ∀ p : Addr, ok p.block → w'.cell? p = w.cell? p) {d : D} {x : Value} (h : ReadV ok w d x) : ReadV ok' w' d x := by
  obtain ⟨cs, h3, h4⟩ := h
  exact ⟨cs, Reads.mono h1 h2 d cs h3, h4⟩
theorem ReadVs.mono (h1 : ∀ b, ok b → ok' b) (h2 : ∀ p : Addr, ok p.block → w'.cell? p = w.cell? p) : ∀ (ds : List D) (xs : List Value), ReadVs ok w ds xs → ReadVs ok' w' ds xs
  | [], xs, h => h
  | d :: ds, xs, h => by
    obtain ⟨x, rest, g1, g2, g3⟩ := h
    exact ⟨x, rest, g1, g2.mono h1 h2, ReadVs.mono h1 h2 ds rest g3⟩
theorem ReadR.mono (h1 : ∀ b, ok b → ok' b) (h2 : ∀ p : Addr, ok p.block → w'.cell? p = w.cell? p) {r : R} {x : Value} (h : ReadR ok w r x) : ReadR ok' w' r x := by
  cases r with
  | val d => exact ReadV.mono h1 h2 h
  | tpl ds =>
    obtain ⟨vs, g1, g2⟩ := h
    exact ⟨vs, g1, ReadVs.mono h1 h2 ds vs g2⟩
  | any => trivial
theorem readV_v {x y : Value} : ReadV ok w (.v x) y ↔ x.oneCell' = true ∧ y = x := by
  constructor
  · rintro ⟨cs, h, rfl⟩
    rw [Reads] at h
    rw [h.2]
    exact ⟨h.1, rfl⟩
  · rintro ⟨h, rfl⟩
    exact ⟨[y], by rw [Reads]; exact ⟨h, rfl⟩, rfl⟩
theorem readV_one {d : D} (hd : d.agg = false) {x : Value} : ReadV ok w d x ↔ Reads ok w d [x] := by
  have hf : ∀ cs, form d cs = cs.headD undef := fun cs => by unfold form; rw [hd]; rfl
  constructor
  · rintro ⟨cs, h, rfl⟩
    have h1 : cs.length = 1 := by
      have := Reads.len d cs h
      cases d <;> simp [D.agg] at hd <;> simpa [D.size] using this
    obtain ⟨c, rfl⟩ := List.length_eq_one_iff.1 h1
    rw [hf]
    exact h
  · intro h
    exact ⟨[x], h, by rw [hf]; rfl⟩
theorem readV_agg {d : D} (hd : d.agg = true) {x : Value} : ReadV ok w d x ↔ ∃ cs, Reads ok w d cs ∧ x = .agg cs.toArray := by
  have hf : ∀ cs, form d cs = .agg cs.toArray := fun cs => by unfold form; rw [hd]; rfl
  constructor
  · rintro ⟨cs, h, rfl⟩
    exact ⟨cs, h, hf cs⟩
  · rintro ⟨cs, h, rfl⟩
    exact ⟨cs, h, (hf cs).symm⟩
theorem ReadsRows.get {z : Nat} : ∀ (ds : List D) (rows : List (List Value)), ReadsRows ok w z ds rows → ∀ k (hk : k < ds.length), ∃ r, rows[k]? = some r ∧ r.length = z ∧ Reads ok w ds[k] r
  | [], rows, _, k, hk => absurd hk (by simp)
  | d :: ds, rows, h, k, hk => by
    rw [ReadsRows] at h
    obtain ⟨r, rest, rfl, g2, g3, g4⟩ := h
    cases k with
    | zero => exact ⟨r, rfl, g2, g3⟩
    | succ k => exact ReadsRows.get ds rest g4 k (by simpa using hk)
theorem ReadsRows.lens {z : Nat} : ∀ (ds : List D) (rows : List (List Value)), ReadsRows ok w z ds rows → rows.length = ds.length ∧ ∀ r ∈ rows, r.length = z
  | [], rows, h => by rw [ReadsRows] at h; subst h; simp
  | d :: ds, rows, h => by
    rw [ReadsRows] at h
    obtain ⟨r, rest, rfl, g2, g3, g4⟩ := h
    obtain ⟨h1, h2⟩ := ReadsRows.lens ds rest g4
    exact ⟨by simp [h1], fun x hx => by
      rcases List.mem_cons.1 hx with rfl | hx
      · exact g2
      · exact h2 x hx⟩
theorem ReadsRows.append {z : Nat} : ∀ (ds es : List D) (rows more : List (List Value)), ReadsRows ok w z ds rows → ReadsRows ok w z es more → ReadsRows ok w z (ds ++ es) (rows ++ more)
  | [], es, rows, more, h, h' => by rw [ReadsRows] at h; subst h; exact h'
  | d :: ds, es, rows, more, h, h' => by
    rw [ReadsRows] at h
    obtain ⟨r, rest, rfl, g2, g3, g4⟩ := h
    rw [List.cons_append, List.cons_append, ReadsRows]
    exact ⟨r, _, rfl, g2, g3, ReadsRows.append ds es rest more g4 h'⟩
theorem ReadsRows.one {z : Nat} : ∀ (ds : List D) (rows : List (List Value)), ReadsRows ok w z ds rows → ∀ u ∈ rows.flatten, u.oneCell' = true
  | [], rows, h, u, hu => by rw [ReadsRows] at h; subst h; simp at hu
  | d :: ds, rows, h, u, hu => by
    rw [ReadsRows] at h
    obtain ⟨r, rest, rfl, g2, g3, g4⟩ := h
    rw [List.flatten_cons] at hu
    rcases List.mem_append.1 hu with hu | hu
    · exact Reads.one d r g3 u hu
    · exact ReadsRows.one ds rest g4 u hu
theorem ReadsRows.drop {z : Nat} : ∀ (ds : List D) (rows : List (List Value)) (k : Nat), ReadsRows ok w z ds rows → ReadsRows ok w z (ds.drop k) (rows.drop k)
  | ds, rows, 0, h => by simpa using h
  | [], rows, k + 1, h => by rw [ReadsRows] at h; subst h; simp [ReadsRows]
  | d :: ds, rows, k + 1, h => by
    rw [ReadsRows] at h
    obtain ⟨r, rest, rfl, g2, g3, g4⟩ := h
    simpa using ReadsRows.drop ds rest k g4
theorem ReadsRows.take {z : Nat} : ∀ (ds : List D) (rows : List (List Value)) (k : Nat), ReadsRows ok w z ds rows → ReadsRows ok w z (ds.take k) (rows.take k)
  | ds, rows, 0, h => by simp [ReadsRows]
  | [], rows, k + 1, h => by rw [ReadsRows] at h; subst h; simp [ReadsRows]
  | d :: ds, rows, k + 1, h => by
    rw [ReadsRows] at h
    obtain ⟨r, rest, rfl, g2, g3, g4⟩ := h
    rw [List.take_succ_cons, List.take_succ_cons, ReadsRows]
    exact ⟨r, _, rfl, g2, g3, ReadsRows.take ds rest k g4⟩
end
/-! ### A part -/
mutual
def D.sub : D → Nat → Nat → Bool → Option D
  | .tup ds, off, sz, ag => if off = 0 ∧ D.sizes ds = sz ∧ ag = true then some (.tup ds) else D.subL ds off sz ag
  | .arr n l, off, sz, ag => if off = 0 ∧ n = sz ∧ ag = true then some (.arr n l) else none
  | d, off, sz, ag => if off = 0 ∧ 1 = sz ∧ ag = false then some d else none
def D.subL : List D → Nat → Nat → Bool → Option D
  | [], _, _, _ => none
  | d :: ds, off, sz, ag => if off < d.size then d.sub off sz ag else D.subL ds (off - d.size) sz ag
end
mutual
def D.upd : D → Nat → D → Option D
  | .tup ds, off, new => if off = 0 ∧ D.sizes ds = new.size ∧ new.agg = true then some new else (D.updL ds off new).map .tup
  | .arr n l, off, new => if off = 0 ∧ n = new.size ∧ new.agg = true then some new else none
  | d, off, new => if off = 0 ∧ 1 = new.size ∧ new.agg = false then some new else none
def D.updL : List D → Nat → D → Option (List D)
  | [], _, _ => none
  | d :: ds, off, new => if off < d.size then (d.upd off new).map (· :: ds) else (D.updL ds (off - d.size) new).map (d :: ·)
end
section
variable {ok : Nat → Prop} {w : World}
theorem sub_leaf {d d' : D} {off sz : Nat} {ag : Bool} (h : (if off = 0 ∧ 1 = sz ∧ ag = false then some d else none) = some d') (hd : d.agg = false) (hs : d.size = 1) {cs : List Value} (hr : Reads ok w d cs) :
    d'.size = sz ∧ d'.agg = ag ∧ ∃ pre mid post, cs = pre ++ mid ++ post ∧ pre.length = off ∧ Reads ok w d' mid := by
  split at h
  · rename_i hc
    cases h
    exact ⟨by rw [hs]; exact hc.2.1, by rw [hd, hc.2.2], [], cs, [], by simp, hc.1.symm, hr⟩
  · cases h
mutual
theorem sub_spec : ∀ (d : D) (off sz : Nat) (ag : Bool) (d' : D) (cs : List Value), d.sub off sz ag = some d' → Reads ok w d cs → d'.size = sz ∧ d'.agg = ag ∧ ∃ pre mid post, cs = pre ++ mid ++ post ∧ pre.length = off ∧ Reads ok w d' mid
  | .tup ds, off, sz, ag, d', cs, h, hr => by
    rw [D.sub] at h
    split at h
    · rename_i hc
      cases h
      exact ⟨hc.2.1, hc.2.2.symm, [], cs, [], by simp, hc.1.symm, hr⟩
    · rw [Reads] at hr
      exact subL_spec ds off sz ag d' cs h hr
  | .arr n l, off, sz, ag, d', cs, h, hr => by
    rw [D.sub] at h
    split at h
    · rename_i hc
      cases h
      exact ⟨hc.2.1, hc.2.2.symm, [], cs, [], by simp, hc.1.symm, hr⟩
    · cases h
  | .v x, off, sz, ag, d', cs, h, hr => sub_leaf (by simpa only [D.sub] using h) rfl rfl hr
  | .bs l, off, sz, ag, d', cs, h, hr => sub_leaf (by simpa only [D.sub] using h) rfl rfl hr
  | .sl z ds, off, sz, ag, d', cs, h, hr => sub_leaf (by simpa only [D.sub] using h) rfl rfl hr
  | .pd d, off, sz, ag, d', cs, h, hr => sub_leaf (by simpa only [D.sub] using h) rfl rfl hr
  | .ifc t d, off, sz, ag, d', cs, h, hr => sub_leaf (by simpa only [D.sub] using h) rfl rfl hr
theorem subL_spec : ∀ (ds : List D) (off sz : Nat) (ag : Bool) (d' : D) (cs : List Value), D.subL ds off sz ag = some d' → ReadsL ok w ds cs → d'.size = sz ∧ d'.agg = ag ∧ ∃ pre mid post, cs = pre ++ mid ++ post ∧ pre.length = off ∧ Reads ok w d' mid
  | [], off, sz, ag, d', cs, h, hr => by rw [D.subL] at h; cases h
  | d :: ds, off, sz, ag, d', cs, h, hr => by
    rw [D.subL] at h
    rw [ReadsL] at hr
    obtain ⟨c1, c2, rfl, g2, g3⟩ := hr
    have hl := Reads.len d c1 g2
    split at h
    · obtain ⟨e1, e2, pre, mid, post, rfl, h2, h3⟩ := sub_spec d off sz ag d' c1 h g2
      exact ⟨e1, e2, pre, mid, post ++ c2, by simp, h2, h3⟩
    · obtain ⟨e1, e2, pre, mid, post, rfl, h2, h3⟩ := subL_spec ds _ sz ag d' c2 h g3
      exact ⟨e1, e2, c1 ++ pre, mid, post, by simp, by rw [List.length_append]; omega, h3⟩
end
theorem upd_leaf {d new d'' : D} {off : Nat} (h : (if off = 0 ∧ 1 = new.size ∧ new.agg = false then some new else none) = some d'') (hd : d.agg = false) (hs : d.size = 1) {cs mid' : List Value} (hr : Reads ok w d cs) (hn : Reads ok w new mid') :
    d''.size = d.size ∧ d''.agg = d.agg ∧ ∃ pre mid post, cs = pre ++ mid ++ post ∧ pre.length = off ∧ mid.length = mid'.length ∧ Reads ok w d'' (pre ++ mid' ++ post) := by
  split at h
  · rename_i hc
    cases h
    exact ⟨by rw [hs, ← hc.2.1], by rw [hd, hc.2.2], [], cs, [], by simp, hc.1.symm, by rw [Reads.len _ _ hr, Reads.len _ _ hn, hs, hc.2.1], by simpa using hn⟩
  · cases h
mutual
theorem upd_spec : ∀ (d : D) (off : Nat) (new d'' : D) (cs mid' : List Value), d.upd off new = some d'' → Reads ok w d cs → Reads ok w new mid' →
    d''.size = d.size ∧ d''.agg = d.agg ∧ ∃ pre mid post, cs = pre ++ mid ++ post ∧ pre.length = off ∧ mid.length = mid'.length ∧ Reads ok w d'' (pre ++ mid' ++ post)
  | .tup ds, off, new, d'', cs, mid', h, hr, hn => by
    rw [D.upd] at h
    split at h
    · rename_i hc
      cases h
      have hl := Reads.len _ _ hr
      refine ⟨hc.2.1.symm, hc.2.2, [], cs, [], by simp, hc.1.symm, ?_, by simpa using hn⟩
      rw [hl, Reads.len _ _ hn]
      exact hc.2.1
    · rw [Reads] at hr
      cases hu : D.updL ds off new with
      | none => rw [hu] at h; cases h
      | some ds' =>
        rw [hu] at h
        cases h
        obtain ⟨e1, pre, mid, post, h1, h2, h3, h4⟩ := updL_spec ds off new ds' cs mid' hu hr hn
        exact ⟨e1, rfl, pre, mid, post, h1, h2, h3, by rw [Reads]; exact h4⟩
  | .arr n l, off, new, d'', cs, mid', h, hr, hn => by
    rw [D.upd] at h
    split at h
    · rename_i hc
      cases h
      refine ⟨hc.2.1.symm, hc.2.2, [], cs, [], by simp, hc.1.symm, ?_, by simpa using hn⟩
      rw [Reads.len _ _ hr, Reads.len _ _ hn]
      exact hc.2.1
    · cases h
  | .v x, off, new, d'', cs, mid', h, hr, hn => upd_leaf (by simpa only [D.upd] using h) rfl rfl hr hn
  | .bs l, off, new, d'', cs, mid', h, hr, hn => upd_leaf (by simpa only [D.upd] using h) rfl rfl hr hn
  | .sl z ds, off, new, d'', cs, mid', h, hr, hn => upd_leaf (by simpa only [D.upd] using h) rfl rfl hr hn
  | .pd d, off, new, d'', cs, mid', h, hr, hn => upd_leaf (by simpa only [D.upd] using h) rfl rfl hr hn
  | .ifc t d, off, new, d'', cs, mid', h, hr, hn => upd_leaf (by simpa only [D.upd] using h) rfl rfl hr hn
theorem updL_spec : ∀ (ds : List D) (off : Nat) (new : D) (ds' : List D) (cs mid' : List Value), D.updL ds off new = some ds' → ReadsL ok w ds cs → Reads ok w new mid' →
    D.sizes ds' = D.sizes ds ∧ ∃ pre mid post, cs = pre ++ mid ++ post ∧ pre.length = off ∧ mid.length = mid'.length ∧ ReadsL ok w ds' (pre ++ mid' ++ post)
  | [], off, new, ds', cs, mid', h, hr, hn => by rw [D.updL] at h; cases h
  | d :: ds, off, new, ds', cs, mid', h, hr, hn => by
    rw [D.updL] at h
    rw [ReadsL] at hr
    obtain ⟨c1, c2, rfl, g2, g3⟩ := hr
    have hl := Reads.len d c1 g2
    split at h
    · cases hu : d.upd off new with
      | none => rw [hu] at h; cases h
      | some e =>
        rw [hu] at h
        cases h
        obtain ⟨e1, e2, pre, mid, post, rfl, h2, h3, h4⟩ := upd_spec d off new e c1 mid' hu g2 hn
        refine ⟨by rw [D.sizes, D.sizes, e1], pre, mid, post ++ c2, by simp, h2, h3, ?_⟩
        rw [ReadsL]
        exact ⟨_, c2, by simp, h4, g3⟩
    · cases hu : D.updL ds (off - d.size) new with
      | none => rw [hu] at h; cases h
      | some es =>
        rw [hu] at h
        cases h
        obtain ⟨e1, pre, mid, post, rfl, h2, h3, h4⟩ := updL_spec ds (off - d.size) new es c2 mid' hu g3 hn
        refine ⟨by rw [D.sizes, D.sizes, e1], c1 ++ pre, mid, post, by simp, by rw [List.length_append]; omega, h3, ?_⟩
        rw [ReadsL]
        exact ⟨c1, _, by simp, g2, h4⟩
end
end
end E
end Go.Proofs.YtdhicdnmgmkpkaaGreat
