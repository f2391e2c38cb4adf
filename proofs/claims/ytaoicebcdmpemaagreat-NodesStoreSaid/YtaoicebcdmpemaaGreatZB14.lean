/-
 Merged: lemmas of this claim.
 Conditions: none.
-/
import Derived.Test.YtaoicebcdmpemaaGreatZB13
import Derived.Test.YtaoicebcdmpemaaGreatZB2
import Derived.Test.YtaoicebcdmpemaaGreatZB10
import Derived.Test.YtaoicebcdmpemaaGreatZB11
import Derived.Test.YtaoicebcdmpemaaGreatZB6
import Derived.Test.YtaoicebcdmpemaaGreatZB7
import Derived.Laws.Rows
import Derived.BigQuiet
import Derived.Deep.QuietTactic
import Derived.RegionTactic
import Derived.BigRegion
import Derived.Lib.SliceRun
import Derived.Test.YtaoicebcdmpemaaGreatZB5
import Derived.Laws.BitsAllLaws
import Derived.Test.YtaoicebcdmpemaaGreatZB0
namespace Go.Proofs.YtaoicebcdmpemaaGreat
set_option maxRecDepth 20000
set_option maxHeartbeats 1000000
open Go.RowKit Mono
open Kec (L St rotl)
def rJ (f : St) (k : Nat) : Value := .int .u8 (((f (k / 8) >>> (8 * (k % 8))).toNat % 256 : Nat) : Int)
def dO (f : St) (n : Nat) : Array Value := ((List.range 32).map fun k => if k < n then rJ f k else .int .u8 0).toArray
def Out (w : World) (g : Nat) (f : St) (n : Nat) : Prop := w.heap[g]? = some (.cells (dO f n) 36 (0, 0))
theorem Out.lt {w : World} {g : Nat} {f : St} {n : Nat} (h : Out w g f n) : g < w.heap.size := by
 rcases KP g w.heap.size with h1 | h1
 · exact h1
 · unfold Out at h; rw [Array.getElem?_eq_none h1] at h; cases h
theorem Out.cell {w : World} {g : Nat} {f : St} {n : Nat} (h : Out w g f n) (hn : n < 32) : w.cell? ⟨g, n, none⟩ = some (.int .u8 0) := by
 rw [cell_of_row w g n _ 36 (0, 0) h]
 simp [dO, hn]
theorem Out.frozen {w : World} {g : Nat} {f : St} {n : Nat} (h : Out w g f n) (k : Nat) : w.frozen? ⟨g, k, none⟩ = false := by
 unfold Out at h
 simp [World.frozen?, h]
theorem Bd (f : St) (n : Nat) : (dO f n).setIfInBounds n (rJ f n) = dO f (n + 1) := by
 apply Array.ext_getElem?
 intro i
 rw [MG]
 unfold dO
 by_cases hi : i < 32
 ·
  by_cases hk : n = i
  ·
   subst hk
   simp [hi]
  ·
   rw [if_neg hk]
   simp only [MK, List.getElem?_map, List.getElem?_range hi, Nk, MB]
   by_cases h2 : i < n
   · rw [if_pos h2, if_pos (by omega)]
   · rw [if_neg h2, if_neg (by omega)]
 ·
  simp [hi]
  omega
theorem Out.set {w : World} {g : Nat} {f : St} {n : Nat} (h : Out w g f n) : Out (w.setCell ⟨g, n, none⟩ (rJ f n)) g f (n + 1) := by
 unfold Out at h ⊢
 simp [World.setCell, Array.getElem?_modify, h, Bd]
theorem lq (f : St) (n : Nat) : (dO f n).size = 32 := by simp [dO]
theorem nU (f g : St) (n m : Nat) : (dO f n).size = (dO g m).size := by rw [lq, lq]
theorem fC (f : St) (n : Nat) : (Tryz.prog.info? 36).map (·.size) = some (dO f n).size := by
 rw [lq]
 kernel_rfl
theorem uj (f : St) (n : Nat) : (dO f n).all (·.oneCell') = true := by
 simp only [dO, List.all_toArray, KQ, KI]
 rintro x ⟨k, _, rfl⟩
 split <;> rfl
theorem Ea (f : St) (k : Nat) : Value.int .u8 (u (f (k / 8)) / 2 ^ (8 * (k % 8)) % 256) = rJ f k := by
 rw [xU]
 unfold rJ u
 simp
theorem En (v : Value) (ms : List (List UInt8)) (w : World) (h : pW w v ms) : Calls Tryz.prog 102 #[v] w (Ret (fun v' _ => v' = .agg (dO (dU ms.flatten) 32)) w) := by
 obtain ⟨A, c, vals, rfl, hc1, hc2, hlen, hrd, hel⟩ := h
 unfold maxLen at hc2
 have HRD := Lib.hid hrd
 have HEL := Lib.hid hel
 have HLEN := Lib.hid hlen
 clear hrd hel hlen
 go_enter Tryz.func102, Tryz.ntmps102
 go_wp2
 go_loopw [4, 13] (fun at_ i wr => ∃ k : Nat, k ≤ ms.length ∧ i = .int .i64 k ∧ at_ = .int .i64 ((bD (ms.take k).flatten).2 : Nat) ∧ aB wr (w.heap.size + 1) 215 25 (bD (ms.take k).flatten).1 ∧ Out wr w.heap.size (fun _ => 0) 0 ∧ Gr w wr) (fun _ i _ => ms.length - (intOf i).toNat)
 case atStart =>
  refine ⟨0, by omega, rfl, rfl, ?_, ?_, (aH w _).trans (aH _ _)⟩
  ·
   have := dX (w.alloc (.cells (dO (fun _ => 0) 0) 36)) 215 25 _ rfl
   rw [lI] at this
   exact this
  · exact (Below.heap_alloc (w.alloc (.cells (dO (fun _ => 0) 0) 36)) _ _ (by simp)).trans (heap_alloc_new w _)
 case round =>
  obtain ⟨k, hk, rfl, rfl, hl, ho, hb⟩ := hrel
  have HL := Lib.hid hl
  have HO := Lib.hid ho
  have HB := Lib.hid hb
  clear hl ho hb
  by_cases h1 : k < ms.length
  ·
   obtain ⟨b, o, x, rfl, hbl, hcell, hx⟩ := pW.at HLEN.out HRD.out HEL.out k h1
   have hcell' := (HB.out.cell (p := ⟨b, o + k, none⟩) hbl).trans hcell
   clear hcell
   obtain ⟨A2, c2, rfl, hd1, hd2, hr2⟩ := hx
   unfold maxLen at hd2
   have HR2 := Lib.hid (hr2.below HB.out)
   clear hr2
   go_wp2_with fail
   obtain ⟨wo, rfl⟩ : ∃ wo : World, wo = wr := ⟨_, rfl⟩
   go_loopw [4, 19] (fun at_ i wr => ∃ j : Nat, j ≤ ms[k].length ∧ i = .int .i64 j ∧ at_ = .int .i64 ((bD ((ms.take k).flatten ++ ms[k].take j)).2 : Nat) ∧ aB wr (w.heap.size + 1) 215 25 (bD ((ms.take k).flatten ++ ms[k].take j)).1 ∧ Out wr w.heap.size (fun _ => 0) 0 ∧ Only (w.heap.size + 1) wo wr) (fun _ i _ => ms[k].length - (intOf i).toNat)
   case atStart => exact ⟨0, by omega, rfl, by simp, by simpa using HL.out, HO.out, Only.refl _ _⟩
   case round =>
    clear HO HL
    obtain ⟨j, hj, rfl, rfl, hl, ho, hb⟩ := hrel
    have HL := Lib.hid hl
    have HO := Lib.hid ho
    have HP := Lib.hid hb
    clear hl ho hb
    have hlt := pq ((ms.take k).flatten ++ ms[k].take j)
    by_cases h2 : j < ms[k].length
    ·
     have hsn := Lib.hid (take_snoc (ms.take k).flatten ms[k] j h2)
     have hr3 := HR2.out.keep (fun p hp => World.cell?_of_block (HP.out.block p.block (by have := HB.out.size; omega) (fun e => by injection e with e; omega)))
     obtain ⟨b2, o2, rfl, hb2, hc2⟩ := Bz hr3 j h2
     have hlt2 := yM ms[k][j]
     go_wp2_with fail
     refine (oz (w.heap.size + 1) 215 _ _ _ hlt hlt2 _ HL.out).mono ?_
     rintro e w3 ⟨rfl, hl3, ho3⟩
     have HL3 := Lib.hid hl3
     have HP3 := Lib.hid (HP.out.trans ho3)
     have HO3 : Hid (Out w3 w.heap.size (fun _ => 0) 0) := Lib.hid ((ho3.block w.heap.size HO.out.lt (by simp)).trans HO.out)
     clear hl3 ho3 HL HP HO hc2 hr3
     by_cases h136 : (bD ((ms.take k).flatten ++ ms[k].take j)).2 + 1 = 136
     ·
      have hA : bD ((ms.take k).flatten ++ ms[k].take (j + 1)) = _ := hsn.out.trans (if_pos h136)
      have HA := Lib.hid hA
      clear hA
      have h135 : (bD ((ms.take k).flatten ++ ms[k].take j)).2 = 135 := by omega
      rw [h135]
      go_wp2_with fail
      refine (lW (w.heap.size + 1) 215 _ _ HL3.out).mono ?_
      rintro e w4 ⟨rfl, hl4, ho4⟩
      have HL4 := Lib.hid hl4
      have HP4 := Lib.hid (HP3.out.trans ho4)
      have HO4 : Hid (Out w4 w.heap.size (fun _ => 0) 0) := Lib.hid ((ho4.block w.heap.size HO3.out.lt (by simp)).trans HO3.out)
      clear hl4 ho4 HL3 HP3 HO3
      go_wp2_with fail
      go_roundw
      case rel => exact ⟨j + 1, by omega, by go_num, by rw [HA.out]; rfl, by rw [HA.out]; exact HL4.out, HO4.out, HP4.out⟩
      case measure => simp [intOf]; omega
     ·
      have hA : bD ((ms.take k).flatten ++ ms[k].take (j + 1)) = _ := hsn.out.trans (if_neg h136)
      have HA := Lib.hid hA
      clear hA
      go_wp2_with fail
      go_roundw
      case rel => exact ⟨j + 1, by omega, by go_num, by rw [HA.out]; go_num, by rw [HA.out]; exact HL3.out, HO3.out, HP3.out⟩
      case measure => simp [intOf]; omega
    ·
     have h5 : j = ms[k].length := by omega
     subst h5
     have hfl : (ms.take k).flatten ++ ms[k].take ms[k].length = (ms.take (k + 1)).flatten := by rw [L8, yU ms k h1]
     rw [hfl] at HL
     rw [hfl]
     have HB2 := Lib.hid (Only.gr HB.out HP.out (by omega))
     clear HB HP hfl
     go_wp2_with fail
     go_roundw
     case rel => exact ⟨k + 1, by omega, by go_num, rfl, HL.out, HO.out, HB2.out⟩
     case measure => simp [intOf]; omega
  ·
   have h5 : k = ms.length := by omega
   subst h5
   have hlt := pq ms.flatten
   have hfl : (ms.take ms.length).flatten = ms.flatten := by rw [L8]
   rw [hfl] at HL
   rw [hfl]
   clear hfl
   go_wp2_with fail
   refine (oz (w.heap.size + 1) 215 _ _ 1 hlt (by omega) _ HL.out).mono ?_
   rintro e w3 ⟨rfl, hl3, ho3⟩
   have HL3 := Lib.hid hl3
   have HB3 := Lib.hid (Only.gr HB.out ho3 (by omega))
   have HO3 : Hid (Out w3 w.heap.size (fun _ => 0) 0) := Lib.hid ((ho3.block w.heap.size HO.out.lt (by simp)).trans HO.out)
   clear hl3 ho3 HL HB HO
   go_wp2_with fail
   refine (oz (w.heap.size + 1) 215 _ 135 128 (by omega) (by omega) _ HL3.out).mono ?_
   rintro e w4 ⟨rfl, hl4, ho4⟩
   have HL4 := Lib.hid hl4
   have HB4 := Lib.hid (Only.gr HB3.out ho4 (by omega))
   have HO4 : Hid (Out w4 w.heap.size (fun _ => 0) 0) := Lib.hid ((ho4.block w.heap.size HO3.out.lt (by simp)).trans HO3.out)
   clear hl4 ho4 HL3 HB3 HO3
   go_wp2_with fail
   refine (lW (w.heap.size + 1) 215 _ _ HL4.out).mono ?_
   rintro e w5 ⟨rfl, hl5, ho5⟩
   have HL5 : Hid (aB w5 (w.heap.size + 1) 215 25 (dU ms.flatten)) := Lib.hid hl5
   have HB5 := Lib.hid (Only.gr HB4.out ho5 (by omega))
   have HO5 : Hid (Out w5 w.heap.size (fun _ => 0) 0) := Lib.hid ((ho5.block w.heap.size HO4.out.lt (by simp)).trans HO4.out)
   clear hl5 ho5 HL4 HB4 HO4
   go_wp2_with fail
   go_loopw [37] (fun i wr => ∃ k : Nat, k ≤ 32 ∧ i = .int .i64 k ∧ aB wr (w.heap.size + 1) 215 25 (dU ms.flatten) ∧ Out wr w.heap.size (fun _ => 0) 0 ∧ Out wr w5.heap.size (dU ms.flatten) k ∧ Gr w wr) (fun i _ => 32 - (intOf i).toNat)
   case atStart =>
    refine ⟨0, by omega, rfl, HL5.out.alloc _, ?_, heap_alloc_new w5 _, HB5.out.trans (aH _ _)⟩
    exact (Below.heap_alloc w5 _ _ HO5.out.lt).trans HO5.out
   case round =>
    have hs5 := HB5.out.size
    have hl5 := HL5.out.lt
    clear HL5 HB5 HO5
    obtain ⟨k, hk, rfl, hl, ho, hw5, hb⟩ := hrel
    have HL := Lib.hid hl
    have HO := Lib.hid ho
    have HW := Lib.hid hw5
    have HB := Lib.hid hb
    clear hl ho hw5 hb
    by_cases h1 : k < 32
    ·
     have c1 := HL.out.cell (k / 8) (by omega)
     have c2 := HW.out.cell h1
     have c3 := HW.out.frozen k
     unfold lv at c1
     have hu := ku (dU ms.flatten (k / 8))
     have hu0 := hu.1
     clear hu
     go_wp2_with fail
     go_roundw
     case rel =>
      refine ⟨k + 1, by omega, by go_num, HL.out.far (by dsimp only; omega) _, ?_, ?_, ?_⟩
      · exact (Below.heap_setCell _ _ _ _ (by dsimp only; omega)).trans HO.out
      ·
       rw [Ea]
       exact HW.out.set
      · exact (Only.set (g := w5.heap.size) _ k _).gr HB.out (by omega)
     case measure => simp [intOf]; omega
    ·
     have h5 : k = 32 := by omega
     subst h5
     have HC := HW.out
     unfold Out at HC
     have HOO := HO.out
     unfold Out at HOO
     go_wp2_with first
      | refine wpList_load_row rfl 36 (.tmp 9) rfl w5.heap.size rfl 36 (dO (dU ms.flatten) 32) (0, 0) _ HC rfl rfl (fC _ _) ?_
      | refine wpList_store_row rfl 36 (.tmp 2) (.tmp 52) rfl w.heap.size (dO (dU ms.flatten) 32) rfl rfl 36 _ HOO (fC _ _) (nU _ _ _ _) (uj _ _) ?_
     exact bodyPost_ret (results_cell_row rfl _ _ w.heap.size 36 (dO (dU ms.flatten) 32) (0, 0) _ rfl (gU _ _ _ _ _ HOO) rfl rfl (fC _ _)) rfl ⟨_, rfl, qA HB.out _ _ (Nat.le_refl _), rfl⟩
theorem qp (l : List UInt8) : Value.agg (dO (dU l) 32) = bg (hash l) := by
 unfold dO bg hash GR bvs
 rw [LU]
 congr 2
theorem DZ (v : Value) (ms : List (List UInt8)) (w : World) (h : pW w v ms) : Calls Tryz.prog 102 #[v] w (Ret (eqV (bg (hash ms.flatten))) w) :=
 (En v ms w h).mono fun e w' ⟨x, he, hg, hx⟩ => ⟨x, he, hg, by unfold eqV; rw [hx, qp]⟩
end Go.Proofs.YtaoicebcdmpemaaGreat
namespace Go.Proofs.YtaoicebcdmpemaaGreat
set_option maxRecDepth 20000
set_option maxHeartbeats 1000000
open Go.RowKit Mono
open Kec (L St rotl Same)
theorem u8_or128 (z : UInt8) : bits .or .u8 (z.toNat : Int) 128 = ((z ||| 128).toNat : Int) := by
 have h : ∀ q : BitVec 8, bits .or .u8 (q.toNat : Int) 128 = ((q ||| 128).toNat : Int) := by decide +kernel
 exact h z.toBitVec
theorem and_val (f : St) (k : Nat) : Value.int .u8 (bits .and .u64 (u (f (k / 8)) / 2 ^ (8 * (k % 8))) 255 % 256) = rJ f k := by
 have h : (255 : Int) = u 255 := rfl
 rw [xU, h, Ap]
 unfold rJ u
 rw [BitVec.toNat_and]
 have h2 : ((255 : L).toNat) = 2 ^ 8 - 1 := rfl
 rw [h2, MV]
 congr 1
 omega
theorem zq {a b : St} (h : Same a b) : dO a 32 = dO b 32 := by
 unfold dO
 congr 1
 refine MF fun k hk => ?_
 have := Na.1 hk
 unfold rJ
 rw [h _ (by omega)]
theorem wF (v : Value) (l : List UInt8) (w : World) (h : IsB w v l) (hlen : l.length ≤ 1099511627776) : Calls Tryz.prog 69 #[v] w (Ret (eqV (bg (hash l))) w) := by
 obtain ⟨A, c, rfl, hl1, hl2, hA⟩ := h
 clear hl1 hl2
 have HA := Lib.hid hA
 clear hA
 go_enter Tryz.func69, Tryz.ntmps69
 go_wp2_with first
  | (at_builtin; refine dS (.const (.slice none 0 0)) (.tmp 11) 41 dW (base := w.heap.size + 1) _ 0 [] A l.length c w.heap.size (bvs l) rfl rfl rfl rfl (OwnB.nil _ _) ((HA.out.below (Below.alloc (Below.refl _ _) (Nat.le_refl _) _))) (by simp [bvs]) (iH _) (by simp only [maxLen]; omega) (by simp; omega) (by simp) ?_; intro A2 c2 w2 hown2 hg2 _; simp only [KJ, J8] at hown2; have hz2 := hg2.size; simp only [lI] at hz2; have HO2 := Lib.hid hown2; have HG2 := Lib.hid hg2; clear hown2 hg2; rw [KJ])
  | (at_builtin; refine dS (.tmp 12) (.tmp 13) 41 dW (base := w.heap.size + 1) _ l.length (bvs l) _ 1 1 (w2.heap.size + 1) [.int .u8 1] rfl rfl rfl rfl (HO2.out.alloc _) (Rd.new _ _ _) rfl (by simp [Value.oneCell']) (by simp only [maxLen]; omega) (by omega) (by simp; omega) ?_; intro A3 c3 w3 hown3 hg3 _)
 obtain ⟨w0, hw0⟩ : ∃ w0 : World, w0 = w.alloc (.cells (dO (fun _ => 0) 0) 36) := ⟨_, rfl⟩
 have hz0 : w0.heap.size = w.heap.size + 1 := by rw [hw0]; simp
 have HB3 : Hid (Below (w.heap.size + 1) w0 w3) := by
  refine Lib.hid ((((Below.refl _ w0).grown (B := w.heap.size + 1) (by rw [hw0]; exact HG2.out) (by omega) (fun j hj => by cases hj)).alloc (by omega) _).grown hg3 (by simp; omega) fun j hj => eX HO2.out j hj)
 have HO3 : Hid (OwnB w3 (w.heap.size + 1) (.slice A3 (l.length + 1) c3) (zeros l 0)) := by
  refine Lib.hid ?_
  have := zeros_length l 0
  exact ownB_of hown3 (by simp [zeros, bvs, bv])
 have HW0 := Lib.hid hw0
 clear hw0 hown3 hg3 HO2 HG2
 go_loopw [3] (fun v wr => ∃ n : Nat, n ≤ 135 - l.length % 136 ∧ OwnB wr (w.heap.size + 1) v (zeros l n) ∧ Below (w.heap.size + 1) w0 wr) (fun v _ => match v with | .slice _ n _ => l.length + 136 - n | _ => 0)
 case atStart => exact ⟨0, by omega, HO3.out, HB3.out⟩
 case round =>
  clear HO3 HB3
  obtain ⟨n, hn, hown, hb⟩ := hrel
  obtain ⟨A', c', rfl, hc1, hc2⟩ := eF hown
  have hN := zeros_length l n
  have hbs := hb.size
  unfold OwnB at hown
  rw [hN] at hown hc1 ⊢
  have HO := Lib.hid hown
  have HB := Lib.hid hb
  have HN := Lib.hid hN
  clear hown hb hN
  unfold maxLen at hc2
  by_cases h1 : (l.length + 1 + n) % 136 = 0
  ·
   have hn2 := Lib.hid (show n = 135 - l.length % 136 by omega)
   have hm := Lib.hid (show (l.length + 1 + n) % 136 = 0 from h1)
   obtain ⟨g, cp, cur, hv, hg1, hgh, _⟩ := HO.out.2.resolve_left (fun h => by have := h.2; omega)
   have hg2 := lt_of_some hgh
   clear hgh
   injection hv with hA' _ _
   subst hA'
   have e1 := HO.out.cellAt (l.length + n) (by omega)
   have e2 := HO.out.frozenAt (l.length + n)
   have hz : (zeros l n)[l.length + n]? = some ((zeros l n).getD (l.length + n) 0) := by
    have := HN.out
    rw [LZ, List.getElem?_eq_getElem (by omega)]
    rfl
   have hzz : (bvs (zeros l n))[l.length + n]? = some (bv ((zeros l n).getD (l.length + n) 0)) := by simp only [bvs, List.getElem?_map, hz, Nk]
   rw [hzz] at e1
   have HZ := Lib.hid (HO.out.stored (l.length + n) (bv ((zeros l n).getD (l.length + n) 0 ||| 128)))
   have hs := yQ l n hn2.out
   rw [HN.out, show l.length + 1 + n - 1 = l.length + n by omega] at hs
   have HS := Lib.hid hs
   have HR := Lib.hid (u8_or128 ((zeros l n).getD (l.length + n) 0))
   clear hz hzz hs
   generalize (zeros l n).getD (l.length + n) 0 = z at e1 HZ HS HR
   unfold bv at e1
   have hzl := yM z
   go_wp2_with fail
   obtain ⟨wL, hwL⟩ : ∃ wL : World, wL = (wr.setCell ⟨g, l.length + n, none⟩ (.int .u8 (bits .or .u8 (z.toNat : Int) 128))).alloc (.cells (cellsOf (fun _ => 0) 25) 181) := ⟨_, rfl⟩
   obtain ⟨m, hm0⟩ : ∃ m : List UInt8, m = l ++ xk (l.length % 136) := ⟨_, rfl⟩
   have hml : m.length = l.length + 1 + n := by
    rw [hm0, ← HS.out, Me, HN.out]
   obtain ⟨J, hJ⟩ : ∃ J : Nat, 136 * J = l.length + 1 + n := ⟨(l.length + 1 + n) / 136, by have := hm.out; omega⟩
   have hsz : wL.heap.size = wr.heap.size + 1 := by rw [hwL]; simp
   have HL0 : Hid (aB wL wr.heap.size 181 25 (fun _ => 0)) := by
    refine Lib.hid ?_
    have := dX (wr.setCell ⟨g, l.length + n, none⟩ (.int .u8 (bits .or .u8 (z.toNat : Int) 128))) 181 25 _ rfl
    rw [hwL]
    simpa using this
   have HRm : Hid (Rd wL wr.heap.size (some ⟨g, 0, none⟩) (bvs m)) := by
    refine Lib.hid ?_
    have h1 := Rd.GU HZ.out.1
    rw [Fg, HS.out, ← hm0] at h1
    have h2 : wr.heap.size = (wr.setCell ⟨g, l.length + n, none⟩ (bv (z ||| 128))).heap.size := by simp
    rw [h2, hwL, HR.out]
    exact h1.below ((Below.refl _ _).alloc (Nat.le_refl _) _)
   have HBL : Hid (Below (w.heap.size + 1) w0 wL) := by
    refine Lib.hid ?_
    rw [hwL]
    exact (HB.out.setCell hg1 _).alloc (by simp; omega) _
   have HS2 := Lib.hid (sZ l m J hm0 (by omega))
   have HwL := Lib.hid hwL
   have HJ := Lib.hid hJ
   have HML := Lib.hid hml
   have hJ1 : 136 * J ≤ l.length + 1 + n := by omega
   have hJ2 : l.length + 1 + n ≤ 136 * J := by omega
   have hn3 : n ≤ 135 := by omega
   clear hwL hm0 hml hJ HZ HS HR e1 e2 HB HO
   obtain ⟨wp, rfl⟩ : ∃ wp : World, wp = wr := ⟨_, rfl⟩
   go_loopw [5] (fun i wx => ∃ j : Nat, j ≤ J ∧ i = .int .i64 (136 * (j : Int)) ∧ aB wx wp.heap.size 181 25 (gK m j) ∧ Below wp.heap.size wL wx) (fun i _ => l.length + 136 - (intOf i).toNat)
   case atStart => exact ⟨0, by omega, rfl, by have := HL0.out; rw [HwL.out] at this; exact this, by rw [HwL.out]; exact Below.refl _ _⟩
   case round =>
    clear HL0
    obtain ⟨j, hj, rfl, hl, hb⟩ := hrel
    have HL := Lib.hid hl
    have HB := Lib.hid hb
    have hbs := hb.size
    clear hl hb
    by_cases h2 : j < J
    ·
     have hj2 : 136 * j + 136 ≤ l.length + 1 + n := by omega
     have hd : decide ((136 * (j : Int)) < (l.length : Int) + 1 + (n : Int)) = true := by simp; omega
     go_wp2_with fail
     clear hd
     obtain ⟨wo, rfl⟩ : ∃ wo : World, wo = wr := ⟨_, rfl⟩
     go_loopw [6] (fun i wx => ∃ k : Nat, k ≤ 136 ∧ i = .int .i64 k ∧ aB wx wp.heap.size 181 25 (lU (fun i => (m.getD (136 * j + i) 0).toNat) (gK m j) k) ∧ Below wp.heap.size wo wx) (fun i _ => 136 - (intOf i).toNat)
     case atStart => exact ⟨0, by omega, rfl, HL.out, Below.refl _ _⟩
     case round =>
      clear HL
      obtain ⟨k, hk, rfl, hl, hb⟩ := hrel
      have HL := Lib.hid hl
      have HP := Lib.hid hb
      have hps := hb.size
      clear hl hb
      by_cases h3 : k < 136
      ·
       have hkm : 136 * j + k < m.length := by have := HML.out; omega
       have hrm := (HRm.out.below HB.out).below HP.out
       obtain ⟨b2, o2, he2, hb2, hc2⟩ := Bz hrm (136 * j + k) hkm
       injection he2 with he2
       injection he2 with he2 he3
       subst he2 he3
       have hgetD : m.getD (136 * j + k) 0 = m[136 * j + k] := by simp [hkm]
       rw [← hgetD, KJ] at hc2
       clear hgetD hrm
       have HR : Hid (lU (fun i => (m.getD (136 * j + i) 0).toNat) (gK m j) (k + 1) = takeB (lU (fun i => (m.getD (136 * j + i) 0).toNat) (gK m j) k) k (m.getD (136 * j + k) 0).toNat) := Lib.hid rfl
       generalize lU (fun i => (m.getD (136 * j + i) 0).toNat) (gK m j) k = s at HL HR
       have hzl := yM (m.getD (136 * j + k) 0)
       generalize m.getD (136 * j + k) 0 = z2 at hc2 HR hzl
       have d1 := au (w := wr) (p := ⟨wp.heap.size, k / 8, none⟩) (by have := HL.out.lt; exact this) (HL.out.cell (k / 8) (by omega))
       have d2 := au (w := wr) (p := ⟨g, 136 * j + k, none⟩) (by dsimp only; omega) hc2
       clear hc2
       unfold lv at d1
       have hu := ku (s (k / 8))
       have hu0 := hu.1
       clear hu
       go_wp2_with fail
       refine aS 20 (by kernel_rfl) (by kernel_rfl) (by kernel_rfl) ?_
       simp only [J5, J9, J4, J7]
       refine aT 20 (by kernel_rfl) ?_
       simp only [J5, J9, J4, J7]
       repeat (go_big_quiet_step (fail))
       refine wpQuiet_nil ?_
       refine cu (by kernel_rfl) ?_
       intro W hW
       replace hW := hW.gr
       unfold jI
       have HW := Lib.hid (HL.out.gr hW)
       have e1 := HW.out.cell (k / 8) (by omega)
       have e2 := HW.out.frozen (k / 8)
       unfold lv at e1
       go_wp2_with fail
       go_roundw
       case rel =>
        have hv : Value.int .u64 (bits .xor .u64 (u (s (k / 8))) (IntKind.u64.wrap ((z2.toNat : Int) * 2 ^ (k % 8 * 8)))) = lv (s (k / 8) ^^^ (BitVec.ofNat 64 z2.toNat) <<< (8 * (k % 8))) := by
         rw [← Am z2.toNat hzl, xW, iK, Nat.mul_comm (k % 8) 8]
         rfl
        rw [hv]
        refine ⟨k + 1, by omega, by go_num, ?_, ?_⟩
        ·
         rw [HR.out]
         exact HW.out.set _ _
        · exact (HP.out.trans (hW.mono (by omega))).setCell (Nat.le_refl _) _
       case measure => simp [intOf]; omega
      ·
       have h5 : k = 136 := by omega
       rw [h5] at HL
       have h6 : 136 ≤ k := by omega
       clear h5 h3
       go_wp2_with fail
       obtain ⟨wq, rfl⟩ : ∃ wq : World, wq = wr := ⟨_, rfl⟩
       go_loopw [8] (fun i wx => ∃ k : Nat, k ≤ 24 ∧ i = .int .i64 k ∧ aB wx wp.heap.size 181 25 (Kec.nI (lU (fun i => (m.getD (136 * j + i) 0).toNat) (gK m j) 136) k) ∧ Reg wx wq.heap.size 5 (Kec.lfn 1 (7 * k)) ∧ Below wp.heap.size wo wx) (fun i _ => 24 - (intOf i).toNat)
       case atStart => exact ⟨0, by omega, rfl, HL.out.alloc _, heap_alloc_new wq _, HP.out.alloc (by omega) _⟩
       case round =>
        have hlt := HL.out.lt
        clear HL HP
        obtain ⟨k, hk, rfl, hl, hr, hb⟩ := hrel
        have HL := Lib.hid hl
        have HR := Lib.hid hr
        have HP := Lib.hid hb
        clear hl hr hb
        by_cases h3 : k < 24
        ·
         have HA1 := Lib.hid (Kec.yx 1 (7 * k) 7)
         go_wp2_with fail
         refine (y5 wp.heap.size wq.heap.size 181 5 _ _ _ HL.out HR.out hlt).mono ?_
         rintro e w3 ⟨rfl, hl3, hr3, hb3⟩
         have HL3 := Lib.hid hl3
         have HR3 := Lib.hid hr3
         have HB3 := Lib.hid hb3
         clear hl3 hr3 hb3
         go_wp2_with fail
         go_roundw
         case rel => exact ⟨k + 1, by omega, by go_num, HL3.out, by rw [Nat.mul_succ, HA1.out]; exact HR3.out, HP.out.trans HB3.out⟩
         case measure => simp [intOf]; omega
        ·
         have h5 : k = 24 := by omega
         rw [h5] at HL
         have h6 : 24 ≤ k := by omega
         clear h5 h3 HR
         go_wp2_with fail
         go_roundw
         case rel => exact ⟨j + 1, by omega, by go_num, HL.out, HB.out.trans HP.out⟩
         case measure => simp [intOf]; omega
    ·
     have h5 : j = J := by omega
     have h6 : l.length + 1 + n ≤ 136 * j := by omega
     rw [h5] at HL
     have hd : decide ((136 * (j : Int)) < (l.length : Int) + 1 + (n : Int)) = false := by simp; omega
     clear h2 h5
     have HG : Hid (Below (w.heap.size + 1) w0 wr) := Lib.hid (HBL.out.trans (HB.out.mono (by omega)))
     have hgl := HL.out.lt
     clear HBL HB HRm
     go_wp2_with fail
     obtain ⟨wo, rfl⟩ : ∃ wo : World, wo = wr := ⟨_, rfl⟩
     go_loopw [10] (fun i wx => ∃ k : Nat, k ≤ 32 ∧ i = .int .i64 k ∧ aB wx wp.heap.size 181 25 (gK m J) ∧ Out wx wo.heap.size (gK m J) k ∧ Below (w.heap.size + 1) w0 wx) (fun i _ => 32 - (intOf i).toNat)
     case atStart => exact ⟨0, by omega, rfl, HL.out.alloc _, heap_alloc_new wo _, HG.out.alloc (by omega) _⟩
     case round =>
      clear HL HG
      obtain ⟨k, hk, rfl, hl, hw5, hb⟩ := hrel
      have HL := Lib.hid hl
      have HW := Lib.hid hw5
      have HB := Lib.hid hb
      clear hl hw5 hb
      by_cases h1 : k < 32
      ·
       have c1 := HL.out.cell (k / 8) (by omega)
       have c2 := HW.out.cell h1
       have c3 := HW.out.frozen k
       unfold lv at c1
       have hu := ku (gK m J (k / 8))
       have hu0 := hu.1
       clear hu
       go_wp2_with fail
       go_roundw
       case rel =>
        refine ⟨k + 1, by omega, by go_num, HL.out.far (by dsimp only; omega) _, ?_, ?_⟩
        ·
         have hv : Value.int .u8 (bits .and .u64 (u (gK m J (k / 8)) / 2 ^ (k % 8 * 8)) 255 % 256) = rJ (gK m J) k := by
          rw [Nat.mul_comm (k % 8) 8]
          exact and_val _ _
         rw [hv]
         exact HW.out.set
        · exact HB.out.setCell (by dsimp only; omega) _
       case measure => simp [intOf]; omega
      ·
       have h5 : k = 32 := by omega
       rw [h5] at HW
       have h6 : 32 ≤ k := by omega
       clear h5 h1
       have HC := HW.out
       unfold Out at HC
       have HOO : wr.heap[w.heap.size]? = some (.cells (dO (fun _ => 0) 0) 36 (0, 0)) := by
        rw [HB.out.block w.heap.size (by omega), HW0.out]
        exact heap_alloc_new w _
       go_wp2_with first
        | refine wpList_load_row rfl 36 (.tmp 9) rfl wo.heap.size rfl 36 (dO (gK m J) 32) (0, 0) _ HC rfl rfl (fC _ _) ?_
        | refine wpList_store_row rfl 36 (.tmp 2) (.tmp 86) rfl w.heap.size (dO (gK m J) 32) rfl rfl 36 _ HOO (fC _ _) (nU _ _ _ _) (uj _ _) ?_
       have HR : Hid (Value.agg (dO (gK m J) 32) = bg (hash l)) := by
        refine Lib.hid ?_
        rw [← qp, zq HS2.out]
       have hg0 : Gr w wr := by
        have h1 : Gr w w0 := by rw [HW0.out]; exact aH w _
        exact h1.trans (HB.out.mono (by omega))
       exact bodyPost_ret (results_cell_row rfl _ _ w.heap.size 36 (dO (gK m J) 32) (0, 0) _ rfl (gU _ _ _ _ _ HOO) rfl rfl (fC _ _)) rfl ⟨_, rfl, qA hg0 _ _ (Nat.le_refl _), HR.out⟩
  ·
   have hn2 : n + 1 ≤ 135 - l.length % 136 := by omega
   go_wp2_with (at_builtin; refine dS (.tmp 19) (.tmp 20) 41 dW (base := w.heap.size + 1) _ (l.length + 1 + n) (bvs (zeros l n)) _ 1 1 (wr.heap.size + 1) [.int .u8 0] rfl rfl rfl rfl (HO.out.alloc _) (Rd.new _ _ _) rfl (by simp [Value.oneCell']) (by simp only [maxLen]; omega) (by omega) (by simp; omega) ?_; intro A2 c2 w2 hown2 hg2 _)
   go_roundw
   case rel =>
    refine ⟨n + 1, by omega, ownB_of hown2 ?_, (HB.out.alloc (by omega) _).grown hg2 (by simp; omega) fun j hj => eX HO.out j hj⟩
    rw [← vO, oZ]
    rfl
   case measure =>
    show l.length + 136 - (l.length + 1 + n + 1) < l.length + 136 - (l.length + 1 + n)
    omega
end Go.Proofs.YtaoicebcdmpemaaGreat
namespace Go.Proofs.YtaoicebcdmpemaaGreat
set_option linter.unusedVariables false
open Go.RowKit Mono Rlp
namespace E
theorem yc {ok : Nat → Prop} {w : World} (hok : ∀ b, ok b → b < w.heap.size) : ∀ (ms : List (List UInt8)) (rows : List (List Value)), ah ok w 1 (ms.map D.bs) rows → rows.flatten.length = ms.length ∧ ∀ (i : Nat) (x : Value) (m : List UInt8), rows.flatten[i]? = some x → ms[i]? = some m → IsB w x m
 | [], rows, h => by
  rw [KU, ah] at h
  subst h
  exact ⟨rfl, fun i x m h => by simp at h⟩
 | m :: ms, rows, h => by
  rw [KD, ah] at h
  obtain ⟨r, rest, rfl, _, h2, h3⟩ := h
  have h4 := h2
  rw [Reads] at h4
  obtain ⟨u, rfl, _⟩ := h4
  obtain ⟨g1, g2⟩ := yc hok ms rest h3
  refine ⟨by simp [g1], fun i x m' hx hm => ?_⟩
  cases i with
  | zero =>
   simp only [KG, List.singleton_append, KT, MB] at hx hm
   subst hx
   subst hm
   exact jU hok ((aI rfl).2 h2)
  | succ i =>
   simp only [KG, List.singleton_append, KZ] at hx hm
   exact g2 i x m' hx hm
theorem Ep {ok : Nat → Prop} {w : World} (hok : ∀ b, ok b → b < w.heap.size) {ms : List (List UInt8)} {v : Value} (h : aP ok w (.sl 1 (ms.map D.bs)) v) : pW w v ms := by
 obtain ⟨cs, h1, rfl⟩ := h
 rw [Reads] at h1
 obtain ⟨A, c, rows, rfl, g1, g2, g3, g4, g5⟩ := h1
 rw [Kv] at g1 g3
 obtain ⟨k1, k2⟩ := yc hok ms rows g5
 refine ⟨A, c, rows.flatten, ?_, g1, g2, k1, fun hn => ?_, k2⟩
 ·
  show Value.slice A (ms.map D.bs).length c = _
  rw [Kv]
 ·
  obtain ⟨b, o, e, hb, hc⟩ := g4 hn
  exact ⟨b, o, e, hok b hb, hc⟩
theorem Ib (ms : List (List UInt8)) : Fn 102 [.sl 1 (ms.map D.bs)] (· = .val (.arr 32 (hash ms.flatten))) := ⟨fun ok w xs hok hr => by
 obtain ⟨v, rfl, h⟩ := mP hr
 refine (DZ v ms w (Ep hok h)).mono ?_
 rintro e w' ⟨_, rfl, hg, rfl⟩
 exact ⟨hg, _, _, rfl, rfl, yO (lX _)⟩⟩
theorem EZ (l : List UInt8) : Fn 102 [.sl 1 [.bs l]] (· = .val (.arr 32 (hash l))) := by
 have h := Ib [l]
 rw [KG, List.flatten_nil, MS] at h
 exact h
theorem CX (l : List UInt8) (hl : l.length ≤ 1099511627776) : Fn 69 [.bs l] (· = .val (.arr 32 (hash l))) := ⟨fun ok w xs hok hr => by
 obtain ⟨v, rfl, h⟩ := mP hr
 refine (wF v l w (jU hok h) hl).mono ?_
 rintro e w' ⟨_, rfl, hg, rfl⟩
 exact ⟨hg, _, _, rfl, rfl, yO (lX _)⟩⟩
theorem ql {ok : Nat → Prop} {w : World} : ∀ (l : List UInt8) (rows : List (List Value)), ah ok w 1 (l.map fun b => D.v (bv b)) rows → rows.flatten = bvs l
 | [], rows, h => by
  rw [KU, ah] at h
  subst h
  rfl
 | b :: l, rows, h => by
  rw [KD, ah] at h
  obtain ⟨r, rest, rfl, _, h2, h3⟩ := h
  rw [Reads] at h2
  rw [KG, ql l rest h3, h2.2]
  rfl
theorem Le.slB {N : Nat} {X : Cx N} {S : St} {t : Tmp} {l : List UInt8} (hl : look S.regs t = some (.val (.sl 1 (l.map fun b => D.v (bv b))))) : Le X S ⟨(t, .val (.bs l)) :: S.regs, S.objs, S.facts⟩ := fun a w h => by
 refine ⟨h.mem, fun u r hu => ?_, h.size, h.defers⟩
 unfold look at hu
 split at hu
 ·
  rename_i e
  subst e
  obtain rfl := Lu hu
  have h1 := (aI (d := .sl 1 (l.map fun b => D.v (bv b))) rfl).1 (h.regs _ _ hl)
  refine (aI (d := .bs l) rfl).2 ?_
  rw [Reads] at h1
  rw [Reads]
  obtain ⟨A, c, rows, e, g1, g2, g3, g4, g5⟩ := h1
  rw [Kv] at e g1 g3
  refine ⟨_, rfl, A, c, List.singleton_inj.1 e, g1, g2, ?_⟩
  rw [← ql l rows g5]
  exact g4
 · exact h.regs u r hu
def jc : List UInt8 := hash [128]
theorem qM : Fn 57 [] (· = .val (.arr 32 jc)) := by
 have h1 := EZ [128]
 refine Fn.walk 4 Tryz.func57 rfl Tryz.ntmps57 (by simp) fun X => ?_
 repeat
  (first
   | (refine bG (h1) (kk := ?_)) | (apply Dt; (iterate 9 rfl); refine EL.le (Le.slB (t := 1) (l := [128]) rfl) ?_)
   | (refine stp ?_; intros))
 refine EK.AO 0 rfl rfl rfl rfl ?_ rfl
 (exact RL.a)
theorem Ci : Fn 25 [] (· = .val (.arr 32 jc)) := by
 have h1 := CX [128] (by decide)
 refine Fn.walk 3 Tryz.func25 rfl Tryz.ntmps25 (by simp) fun X => ?_
 repeat
  (first
   | (refine bG (h1) (kk := ?_)) | (apply Dt; (iterate 9 rfl); refine EL.le (Le.slB (t := 1) (l := [128]) rfl) ?_)
   | (refine stp ?_; intros))
 refine EK.AO 0 rfl rfl rfl rfl ?_ rfl
 (exact RL.a)
end E
end Go.Proofs.YtaoicebcdmpemaaGreat
namespace Go.Proofs.YtaoicebcdmpemaaGreat
set_option linter.unusedVariables false
open Go.RowKit Mono Rlp
mutual
def cO (ok : Nat → Prop) (w : World) : Raw → List Value → Prop
 | .mk b bs xs, cs => ∃ vb A c rows, cs = [.bool b, vb, .slice A xs.length c] ∧ mM ok w vb bs ∧ xs.length ≤ c ∧ c ≤ maxLen ∧ (A = none → xs.length = 0 ∧ c = 0) ∧ RdP ok w A rows.flatten ∧ aV ok w xs rows
def aV (ok : Nat → Prop) (w : World) : List Raw → List (List Value) → Prop
 | [], rows => rows = []
 | x :: xs, rows => ∃ r rest, rows = r :: rest ∧ cO ok w x r ∧ aV ok w xs rest
end
def eU (w : World) (x : Raw) (cs : List Value) : Prop := cO (fun b => b < w.heap.size) w x cs
def bF (w : World) (xs : List Raw) (rows : List (List Value)) : Prop := aV (fun b => b < w.heap.size) w xs rows
mutual
theorem cO.mono {ok ok' : Nat → Prop} {w w' : World} (h1 : ∀ b, ok b → ok' b) (h2 : ∀ p : Addr, ok p.block → w'.cell? p = w.cell? p) : ∀ (x : Raw) (cs : List Value), cO ok w x cs → cO ok' w' x cs
 | .mk b bs xs, cs, h => by
  rw [cO] at h ⊢
  obtain ⟨vb, A, c, rows, g1, g2, g3, g4, g5, g6, g7⟩ := h
  exact ⟨vb, A, c, rows, g1, g2.mono h1 h2, g3, g4, g5, g6.mono h1 h2, aV.mono h1 h2 xs rows g7⟩
theorem aV.mono {ok ok' : Nat → Prop} {w w' : World} (h1 : ∀ b, ok b → ok' b) (h2 : ∀ p : Addr, ok p.block → w'.cell? p = w.cell? p) : ∀ (xs : List Raw) (rows : List (List Value)), aV ok w xs rows → aV ok' w' xs rows
 | [], rows, h => by rw [aV] at h ⊢; exact h
 | x :: xs, rows, h => by
  rw [aV] at h ⊢
  obtain ⟨r, rest, g1, g2, g3⟩ := h
  exact ⟨r, rest, g1, cO.mono h1 h2 x r g2, aV.mono h1 h2 xs rest g3⟩
end
theorem eU.eq (w : World) (b : Bool) (bs : List UInt8) (xs : List Raw) (cs : List Value) : eU w (.mk b bs xs) cs = ∃ vb A c rows, cs = [.bool b, vb, .slice A xs.length c] ∧ IsB w vb bs ∧ xs.length ≤ c ∧ c ≤ maxLen ∧ (A = none → xs.length = 0 ∧ c = 0) ∧ Rd w w.heap.size A rows.flatten ∧ bF w xs rows := by
 unfold eU
 rw [cO]
 rfl
theorem bF.nil_eq (w : World) (rows : List (List Value)) : bF w [] rows = (rows = []) := by unfold bF; rw [aV]
theorem bF.yL (w : World) (x : Raw) (xs : List Raw) (rows : List (List Value)) : bF w (x :: xs) rows = ∃ r rest, rows = r :: rest ∧ eU w x r ∧ bF w xs rest := by
 unfold bF
 rw [aV]
 rfl
theorem eU.gr {w w' : World} (hg : Gr w w') (x : Raw) (cs : List Value) (h : eU w x cs) : eU w' x cs :=
 cO.mono (fun b hb => KA hb hg.size) (fun p hp => hg.cell hp) x cs h
theorem bF.gr {w w' : World} (hg : Gr w w') (xs : List Raw) (rows : List (List Value)) (h : bF w xs rows) : bF w' xs rows :=
 aV.mono (fun b hb => KA hb hg.size) (fun p hp => hg.cell hp) xs rows h
theorem aV.append {ok : Nat → Prop} {w : World} : ∀ (xs ys : List Raw) (rows rest : List (List Value)), aV ok w xs rows → aV ok w ys rest → aV ok w (xs ++ ys) (rows ++ rest)
 | [], ys, rows, rest, h, h2 => by rw [aV] at h; subst h; exact h2
 | x :: xs, ys, rows, rest, h, h2 => by
  rw [aV] at h
  obtain ⟨r, rs, rfl, h3, h4⟩ := h
  rw [Ko, aV]
  exact ⟨r, rs ++ rest, rfl, h3, aV.append xs ys rs rest h4 h2⟩
theorem cO.len {ok : Nat → Prop} {w : World} {x : Raw} {cs : List Value} (h : cO ok w x cs) : ∃ b A1 n1 c1 A n c, cs = [.bool b, .slice A1 n1 c1, .slice A n c] := by
 cases x
 rw [cO] at h
 obtain ⟨vb, A, c, rows, h1, ⟨A1, c1, rfl, _⟩, _⟩ := h
 exact ⟨_, _, _, _, _, _, _, h1⟩
theorem eU.len {w : World} {x : Raw} {cs : List Value} (h : eU w x cs) : ∃ b vb A n c, cs = [.bool b, vb, .slice A n c] := by
 cases x
 rw [eU.eq] at h
 obtain ⟨vb, A, c, rows, h1, _⟩ := h
 exact ⟨_, _, _, _, _, h1⟩
theorem bF.length {w : World} : ∀ (xs : List Raw) (rows : List (List Value)), bF w xs rows → rows.length = xs.length
 | [], rows, h => by rw [bF.nil_eq] at h; rw [h]; rfl
 | x :: xs, rows, h => by
  rw [bF.yL] at h
  obtain ⟨r, rest, rfl, _, h3⟩ := h
  simp [bF.length xs rest h3]
theorem bF.get {w : World} : ∀ (xs : List Raw) (rows : List (List Value)), bF w xs rows → ∀ k (hk : k < xs.length), ∃ cs, eU w xs[k] cs ∧ ∀ j u, cs[j]? = some u → rows.flatten[k * 3 + j]? = some u
 | [], rows, _, k, hk => by simp at hk
 | x :: xs, rows, h, k, hk => by
  rw [bF.yL] at h
  obtain ⟨r, rest, rfl, h2, h3⟩ := h
  obtain ⟨b, vb, A, n, c, hr⟩ := h2.len
  have hr3 : r.length = 3 := by rw [hr]; rfl
  cases k with
  | zero =>
   refine ⟨r, h2, fun j u hu => ?_⟩
   have hj := (Kw.1 hu).1
   rw [Nat.zero_mul, KJ, KG, LC hj]
   exact hu
  | succ k =>
   obtain ⟨cs, h4, h5⟩ := bF.get xs rest h3 k (by simpa using hk)
   refine ⟨cs, h4, fun j u hu => ?_⟩
   rw [KG, Lr (by omega), hr3, ← h5 j u hu]
   congr 1
   omega
def sU (w : World) (v : Value) (x : Raw) : Prop := ∃ cs, v = .agg cs.toArray ∧ eU w x cs
def jF (w : World) (v : Value) (xs : List Raw) : Prop := ∃ A c rows, v = .slice A xs.length c ∧ xs.length ≤ c ∧ c ≤ maxLen ∧ (A = none → xs.length = 0 ∧ c = 0) ∧ Rd w w.heap.size A rows.flatten ∧ bF w xs rows
theorem sU.gr {w w' : World} {v : Value} {x : Raw} (h : sU w v x) (hg : Gr w w') : sU w' v x := by
 obtain ⟨cs, h1, h2⟩ := h
 exact ⟨cs, h1, h2.gr hg⟩
theorem jF.gr {w w' : World} {v : Value} {xs : List Raw} (h : jF w v xs) (hg : Gr w w') : jF w' v xs := by
 obtain ⟨A, c, rows, h1, h2, h3, h4, h5, h6⟩ := h
 exact ⟨A, c, rows, h1, h2, h3, h4, h5.gr hg, h6.gr hg⟩
theorem jF.nil (w : World) : jF w (.slice none 0 0) [] := ⟨none, 0, [], rfl, Nat.le_refl _, by simp [maxLen], fun _ => ⟨rfl, rfl⟩, Rd.nil, by rw [bF.nil_eq]⟩
@[go_sem] theorem JB (v : Value) (w : World) : (Instr.typeAssert (.iface 41 v) 246 41 true).run Tryz.prog w = .ok (.tuple #[v, .bool true]) w := by kernel_rfl
@[go_sem] theorem Gp (v : Value) (w : World) : (Instr.typeAssert (.iface 102 v) 246 41 true).run Tryz.prog w = .ok (.tuple #[.slice none 0 0, .bool false]) w := by kernel_rfl
@[go_sem] theorem JA (v : Value) (w : World) : (Instr.typeAssert (.iface 102 v) 246 102 true).run Tryz.prog w = .ok (.tuple #[v, .bool true]) w := by kernel_rfl
def IG (w : World) (v : Value) : Raw → Prop
 | .mk false bs _ => ∃ vb, v = .iface 41 vb ∧ IsB w vb bs
 | .mk true _ xs => ∃ vl, v = .iface 102 vl ∧ jF w vl xs
theorem IG.gr {w w' : World} {v : Value} {x : Raw} (h : IG w v x) (hg : Gr w w') : IG w' v x := by
 obtain ⟨b, bs, xs⟩ := x
 cases b
 ·
  obtain ⟨vb, h1, h2⟩ := h
  exact ⟨vb, h1, h2.gr hg⟩
 ·
  obtain ⟨vb, h1, h2⟩ := h
  exact ⟨vb, h1, h2.gr hg⟩
def pJ (ok : Nat → Prop) (w : World) (v : Value) (x : Raw) : Prop := ∃ cs, v = .agg cs.toArray ∧ cO ok w x cs
theorem pJ.mono {ok ok' : Nat → Prop} {w w' : World} {v : Value} {x : Raw} (h : pJ ok w v x) (h1 : ∀ b, ok b → ok' b) (h2 : ∀ p : Addr, ok p.block → w'.cell? p = w.cell? p) : pJ ok' w' v x := by
 obtain ⟨cs, e, h⟩ := h
 exact ⟨cs, e, cO.mono h1 h2 x cs h⟩
theorem pJ.is {ok : Nat → Prop} {w : World} {v : Value} {x : Raw} (h : pJ ok w v x) (h1 : ∀ b, ok b → b < w.heap.size) : sU w v x := h.mono h1 fun _ _ => rfl
end Go.Proofs.YtaoicebcdmpemaaGreat
namespace Go.Proofs.YtaoicebcdmpemaaGreat
set_option linter.unusedVariables false
open Go.RowKit Mono Rlp
namespace E

end E
end Go.Proofs.YtaoicebcdmpemaaGreat
namespace Go.Proofs.YtaoicebcdmpemaaGreat
set_option linter.unusedVariables false
set_option maxHeartbeats 1000000
open Go.RowKit Mono Rlp
theorem mF (v : Value) (l : List UInt8) (w : World) (h : IsB w v l) (hl : l.length ≤ 140737488355328) : Calls Tryz.prog 96 #[v] w (Ret (fun v w' => OwnB w' w.heap.size v l) w) := by
 obtain ⟨A, c, rfl, hc1, hc2, hr⟩ := h
 cases A with
 | none =>
  have hl0 : l = [] := by
   by_cases hn : bvs l = []
   · simpa [bvs] using hn
   ·
    obtain ⟨b, o, e, _⟩ := hr hn
    cases e
  subst hl0
  clear hr
  have hq := Lib.run_eql_slice_nil w 41 5 none 0 c 0 0 Tryz.underlying41
  go_enter Tryz.func96, Tryz.ntmps96
  go_wp2
  refine bodyPost_ret (results_tmp rfl _ _ _) rfl ?_
  exact ⟨_, rfl, Gr.refl _, OwnB.nil _ _⟩
 | some a =>
  have HR := Lib.hid hr
  clear hr
  have hq := Lib.run_eql_slice_nil w 41 5 (some a) l.length c 0 0 Tryz.underlying41
  go_enter Tryz.func96, Tryz.ntmps96
  go_wp2_with (at_builtin; refine dS (.tmp 5) (.tmp 6) 41 dW (base := w.heap.size) _ 0 [] _ l.length c w.heap.size (bvs l) rfl rfl rfl rfl (yt w #[] 5 1 0 w.heap.size w.heap.size rfl (Nat.le_refl _) (by simp [maxLen]) rfl) (HR.out.below ((Below.refl _ _).alloc (Nat.le_refl _) _)) (by simp [bvs]) (iH _) (by simp only [maxLen]; omega) (by omega) (by simp) ?_; intro A2 c2 w2 hown2 hg2 _)
  refine bodyPost_ret (results_tmp rfl _ _ _) rfl ?_
  refine ⟨_, rfl, ((Below.refl _ _).alloc (Nat.le_refl _) _).grown hg2 (by simp) (fun j hj => by cases hj; exact Nat.le_refl _), ?_⟩
  rw [KJ, J8] at hown2
  exact hown2
end Go.Proofs.YtaoicebcdmpemaaGreat
namespace Go.Proofs.YtaoicebcdmpemaaGreat
namespace Rlp
set_option maxRecDepth 100000
def hdr (b : List UInt8) (base : Nat) : Option (Nat × Nat) :=
 if (b.getD 0 0).toNat - base ≤ 55 then
  if (b.getD 0 0).toNat - base ≤ b.length - 1 then some (1, (b.getD 0 0).toNat - base) else none
 else if b.length < 1 + ((b.getD 0 0).toNat - base - 55) ∨ b.getD 1 0 = 0 then none
 else if val ((b.drop 1).take ((b.getD 0 0).toNat - base - 55)) > most then none
 else if 55 < val ((b.drop 1).take ((b.getD 0 0).toNat - base - 55)) ∧ val ((b.drop 1).take ((b.getD 0 0).toNat - base - 55)) ≤ b.length - 1 - ((b.getD 0 0).toNat - base - 55) then
  some (1 + ((b.getD 0 0).toNat - base - 55), val ((b.drop 1).take ((b.getD 0 0).toNat - base - 55)))
 else none
end Rlp
end Go.Proofs.YtaoicebcdmpemaaGreat
namespace Go.Proofs.YtaoicebcdmpemaaGreat
set_option linter.unusedVariables false
open Go.RowKit Mono Rlp
set_option maxRecDepth 100000 in
theorem kF (w : World) (l : List UInt8) : (Instr.box 36 (bg l)).run Tryz.prog w = .ok (.pointer (some ⟨w.heap.size, 0, none⟩)) (w.alloc (.cells (bvs l).toArray 36)) := by kernel_rfl
end Go.Proofs.YtaoicebcdmpemaaGreat
namespace Go.Proofs.YtaoicebcdmpemaaGreat
set_option linter.unusedVariables false
open Go.RowKit Mono Rlp
namespace E
inductive Tn where
 | nil
 | leaf (p v : List UInt8)
 | ext (p : List UInt8) (k : Tn)
 | br (ks : Nat → Tn) (v : List UInt8)
def dT : Tn → D
 | .nil => .v .nilIface
 | .leaf p v => .ifc 165 (.pd (.tup [.bs p, .bs v]))
 | .ext p k => .ifc 168 (.pd (.tup [.bs p, dT k]))
 | .br ks v => .ifc 173 (.pd (.tup [.tup ((List.range 16).map fun i => dT (ks i)), .bs v]))
def Tn.isNil : Tn → Bool
 | .nil => true
 | _ => false
def Tn.ok : Tn → Prop
 | .nil => True
 | .leaf p v => p.length ≤ 536870912
 | .ext p k => p.length ≤ 536870912 ∧ k.ok
 | .br ks v => ∀ i, (ks i).ok
theorem EK.iC {N : Nat} {X : Cx N} {fn : Func} {Φ : R → List Obj → Prop} {S : St} {t u : Tmp} {d e d' e' : D} (os' : List Obj) (hres : fn.results = #[.tmp t, .tmp u]) (hl : look S.regs t = some (.val d)) (hk : look S.regs u = some (.val e)) (hR : aj S.facts [d, e] [d', e']) (ho : os'.Sublist S.objs) (hΦ : Φ (.tpl [d', e']) os') : EK X (bodyPost Tryz.prog fn (jZ X Φ) .ret) S := by
 refine EK.le (S' := ⟨S.regs, os', S.facts⟩) ?_ (EK.Gz hres hl hk hR hΦ)
 exact fun a w h => ⟨h.mem.less ho (fun f hf => hf), fun t r ht => aC.mono (fun b hb => kK ho hb) (fun _ _ => rfl) (h.regs t r ht), h.size, h.defers⟩
abbrev nsO (s m : Nat) : Obj := .var s 116 (.tup [.v (.map (some m))])
abbrev ntO (t s : Nat) (root : D) (f : Nat) : Obj := .var t 120 (.tup [.v (ptr s), root, .v (.map (some f))])
theorem CQ (s : Nat) : Fn 30 [.v (ptr s), .v (.slice none 0 0)] (· = .val (.v (.int .i64 0))) := by
 refine FnM.toFn ?_
 refine FnM.walk 41 Tryz.func30 rfl Tryz.ntmps30 (by simp) fun X => ?_
 repeat (refine stp ?_; intros)
 refine EC.Ji 1 ?_
 apply EK.round
 repeat (refine stp ?_; intros)
 exact EK.aY [] rfl rfl (Kr _) ⟨rfl, rfl⟩
theorem EX : FnM 19 [.v (.slice none 0 0)] [] (fun r os' => ∃ s m, r = .val (.v (ptr s)) ∧ os' = [nsO s m, .map m 32 0 []]) := by
 refine FnM.walk 11 Tryz.func19 rfl Tryz.ntmps19 (by simp) fun X => ?_
 repeat
  (first
   | (apply jE; (iterate 3 rfl); intro m) | (apply qV; rfl; rfl; rfl; intro g) | (refine bG (CQ _) (kk := ?_))
   | (refine stp ?_; intros))
 exact EK.aY [nsO g m, .map m 32 0 []] rfl rfl (by (repeat first | exact Kr _ | apply List.Sublist.cons_cons | apply List.Sublist.cons)) ⟨_, _, rfl, rfl⟩
theorem kQ (x : Value) (t : Tn) (h : t = .nil ∨ ∃ p v, t = .leaf p v) : Fn 60 [.v x, dT t] (· = .val (dT t)) := by
 refine FnM.toFn ?_
 refine FnM.walk 40 Tryz.func60 rfl Tryz.ntmps60 (by simp) fun X => ?_
 rcases h with rfl | ⟨p, v, rfl⟩
 ·
  rw [dT]
  repeat (refine stp ?_; intros)
  exact EK.aY [] rfl rfl (Kr _) ⟨rfl, rfl⟩
 ·
  rw [dT]
  repeat (refine stp ?_; intros)
  exact EK.aY [] rfl rfl (Kr _) ⟨rfl, rfl⟩
theorem Cm (s : Nat) : FnM 20 [.v (ptr s), .arr 32 zero32] [] (fun r os' => ∃ t f, r = .tpl [.v (ptr t), .v (.int .i64 0)] ∧ os' = [ntO t s (.v .nilIface) f, .it f (.map #[] 0)]) := by
 have hE := qM
 have hn := (sK (T := 49) (by kernel_rfl) (some ⟨s, 0, none⟩)).1
 have h1 := (gW zero32 jc).1
 have h2 := (gW zero32 zero32).1
 refine FnM.walk 34 Tryz.func20 rfl Tryz.ntmps20 (by simp) fun X => ?_
 repeat
  (first
   | (apply FC; (iterate 2 rfl); intro m) | (apply qV; rfl; rfl; rfl; intro g) | (refine mJ (hrun := hn) (kk := ?_))
   | (refine stp ?_; intros))
 generalize jc = r0 at *
 cases hz : (zero32 == r0) with
 | true =>
  rw [hz] at h1
  refine EC.draw 8 (by kernel_rfl) ?_
  simp only [J5, J9, J4, J7]
  repeat
   (first
    | (refine dR (hrun := h1) (kk := ?_)) | (refine bP (hE) (kk := ?_)) | (refine sth ?_; intros))
  repeat (refine stp ?_; intros)
  rename_i g1
  exact EK.iC [ntO g s (.v .nilIface) m, .it m (.map #[] 0)] rfl rfl rfl (aj.refl _ _) (by (repeat first | exact Kr _ | apply List.Sublist.cons_cons | apply List.Sublist.cons)) ⟨_, _, rfl, rfl⟩
 | false =>
  rw [hz] at h1
  refine EC.draw 8 (by kernel_rfl) ?_
  simp only [J5, J9, J4, J7]
  repeat
   (first
    | (refine dR (hrun := h1) (kk := ?_)) | (refine bP (hE) (kk := ?_))
    | (refine dR (hrun := h2) (kk := ?_)) | (refine sth ?_; intros))
  repeat (refine stp ?_; intros)
  rename_i g1
  exact EK.iC [ntO g s (.v .nilIface) m, .it m (.map #[] 0)] rfl rfl rfl (aj.refl _ _) (by (repeat first | exact Kr _ | apply List.Sublist.cons_cons | apply List.Sublist.cons)) ⟨_, _, rfl, rfl⟩
theorem CB (t s f c : Nat) (dk : D) : FnM 108 [.v (ptr t), .ifc 165 dk] [ntO t s (.v .nilIface) f, .it f (.map #[] c)] (fun r os' => r = .val (.ifc 165 dk) ∧ ∃ es, os' = [ntO t s (.v .nilIface) f, .it f (.map es (c + 1))]) := by
 refine FnM.walk 11 Tryz.func108 rfl Tryz.ntmps108 (by simp) fun X => ?_
 repeat (refine stp ?_; intros)
 refine EL.le (Le.pick [1, 0] [_, _] rfl (by decide) rfl) ?_
 refine EL.mut (os := [_]) (rest := [_]) rfl (fun _ h => by cases h) (zu rfl rfl rfl rfl Tryz.underlying117 Tryz.underlying118 (by kernel_rfl) Tryz.underlying165) ?_
 rintro _ _ ⟨rfl, es, rfl⟩
 simp only [St.put, Ko, J8]
 repeat (refine stp ?_; intros)
 refine EK.le (Le.pick [1, 0] [_, _] rfl (by decide) rfl) ?_
 exact EK.aY [_, _] rfl rfl (by (repeat first | exact Kr _ | apply List.Sublist.cons_cons | apply List.Sublist.cons)) ⟨rfl, es, rfl⟩
theorem CG (t s f c : Nat) (p v : List UInt8) : FnM 109 [.v (ptr t), .bs p, .bs v] [ntO t s (.v .nilIface) f, .it f (.map #[] c)] (fun r os' => r = .val (dT (.leaf p v)) ∧ ∃ es, os' = [ntO t s (.v .nilIface) f, .it f (.map es (c + 1))]) := by
 refine FnM.walk 14 Tryz.func109 rfl Tryz.ntmps109 (by simp) fun X => ?_
 repeat
  (first
   | (apply qV; rfl; rfl; rfl; intro g; refine EL.le (Le.pin (p := 11) (pre := []) rfl rfl) ?_; simp only [J8]) | (refine stp ?_; intros))
 refine aO (os := [_, _]) (CB t s f c (.pd (.tup [.bs p, .bs v]))) (kk := ?_)
 rintro _ _ ⟨rfl, es, rfl⟩
 repeat (refine stp ?_; intros)
 exact EK.aY [_, _] rfl rfl (by (repeat first | exact Kr _ | apply List.Sublist.cons_cons | apply List.Sublist.cons)) ⟨rfl, es, rfl⟩
end E
end Go.Proofs.YtaoicebcdmpemaaGreat
namespace Go.Proofs.YtaoicebcdmpemaaGreat
set_option linter.unusedVariables false
set_option maxHeartbeats 1000000
open Go.RowKit Mono Rlp
theorem Ij (v : Value) (l : List UInt8) (w : World) (h : IsB w v l) (hl : l.length ≤ 140737488355328) : Calls Tryz.prog 66 #[v] w (Ret (fun v w' => OwnB w' w.heap.size v l) w) := by
 obtain ⟨A, c, rfl, hc1, hc2, hr⟩ := h
 cases A with
 | none =>
  have hl0 : l = [] := by
   by_cases hn : bvs l = []
   · simpa [bvs] using hn
   ·
    obtain ⟨b, o, e, _⟩ := hr hn
    cases e
  subst hl0
  clear hr
  have hq := Lib.run_eql_slice_nil w 41 5 none 0 c 0 0 Tryz.underlying41
  go_enter Tryz.func66, Tryz.ntmps66
  go_wp2
  refine bodyPost_ret (results_tmp rfl _ _ _) rfl ?_
  exact ⟨_, rfl, Gr.refl _, OwnB.nil _ _⟩
 | some a =>
  have HR := Lib.hid hr
  clear hr
  have hq := Lib.run_eql_slice_nil w 41 5 (some a) l.length c 0 0 Tryz.underlying41
  go_enter Tryz.func66, Tryz.ntmps66
  go_wp2_with (at_builtin; refine dS (.tmp 5) (.tmp 6) 41 dW (base := w.heap.size) _ 0 [] _ l.length c w.heap.size (bvs l) rfl rfl rfl rfl (yt w #[] 5 1 0 w.heap.size w.heap.size rfl (Nat.le_refl _) (by simp [maxLen]) rfl) (HR.out.below ((Below.refl _ _).alloc (Nat.le_refl _) _)) (by simp [bvs]) (iH _) (by simp only [maxLen]; omega) (by omega) (by simp) ?_; intro A2 c2 w2 hown2 hg2 _)
  refine bodyPost_ret (results_tmp rfl _ _ _) rfl ?_
  refine ⟨_, rfl, ((Below.refl _ _).alloc (Nat.le_refl _) _).grown hg2 (by simp) (fun j hj => by cases hj; exact Nat.le_refl _), ?_⟩
  rw [KJ, J8] at hown2
  exact hown2
namespace E
theorem mW (l : List UInt8) (hl : l.length ≤ 140737488355328) : Fn 66 [.bs l] (· = .val (.bs l)) := ⟨fun ok w xs hok hr => by
 obtain ⟨x, _, rfl, hx, rfl⟩ := hr
 refine (Ij x l w (jU hok hx) hl).mono ?_
 rintro e w' ⟨v, rfl, hg, ho⟩
 exact ⟨hg, v, .val (.bs l), rfl, rfl, (aI rfl).2 (by rw [Reads]; exact ⟨v, rfl, mM.mono (xg ho) (fun b hb => ⟨.inr hb.1, hb.2⟩) fun _ _ => rfl⟩)⟩⟩
end E
end Go.Proofs.YtaoicebcdmpemaaGreat
namespace Go.Proofs.YtaoicebcdmpemaaGreat
set_option linter.unusedVariables false
open Go.RowKit Mono Rlp
namespace E

end E
end Go.Proofs.YtaoicebcdmpemaaGreat
