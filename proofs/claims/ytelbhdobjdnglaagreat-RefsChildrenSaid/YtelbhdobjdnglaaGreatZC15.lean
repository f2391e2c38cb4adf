/-
 Merged: lemmas of this claim.
 Conditions: none.
-/
import Derived.Test.YtelbhdobjdnglaaGreatZC14
import Derived.Test.YtelbhdobjdnglaaGreatZC2
import Derived.Test.YtelbhdobjdnglaaGreatZC12
import Derived.Test.YtelbhdobjdnglaaGreatZC7
import Derived.Test.YtelbhdobjdnglaaGreatZC8
import Derived.Laws.Rows
import Derived.Test.YtelbhdobjdnglaaGreatZC0
namespace Go.Proofs.YtelbhdobjdnglaaGreat
set_option maxRecDepth 20000
set_option maxHeartbeats 1000000
open Go.RowKit Mono
open Kec (L St rotl)
def Dz (f : St) (k : Nat) : Value := .int .u8 (((f (k / 8) >>> (8 * (k % 8))).toNat % 256 : Nat) : Int)
def jP (f : St) (n : Nat) : Array Value := ((List.range 32).map fun k => if k < n then Dz f k else .int .u8 0).toArray
def Out (w : World) (g : Nat) (f : St) (n : Nat) : Prop := w.heap[g]? = some (.cells (jP f n) 29 (0, 0))
theorem Out.lt {w : World} {g : Nat} {f : St} {n : Nat} (h : Out w g f n) : g < w.heap.size := by
 rcases Xx g w.heap.size with h1 | h1
 · exact h1
 · unfold Out at h; rw [Array.getElem?_eq_none h1] at h; cases h
theorem Out.cell {w : World} {g : Nat} {f : St} {n : Nat} (h : Out w g f n) (hn : n < 32) : w.cell? ⟨g, n, none⟩ = some (.int .u8 0) := by
 rw [cell_of_row w g n _ 29 (0, 0) h]
 simp [jP, hn]
theorem Out.frozen {w : World} {g : Nat} {f : St} {n : Nat} (h : Out w g f n) (k : Nat) : w.frozen? ⟨g, k, none⟩ = false := by
 unfold Out at h
 simp [World.frozen?, h]
theorem OO (f : St) (n : Nat) : (jP f n).setIfInBounds n (Dz f n) = jP f (n + 1) := by
 apply Array.ext_getElem?
 intro i
 rw [YC]
 unfold jP
 by_cases hi : i < 32
 ·
  by_cases hk : n = i
  ·
   subst hk
   simp [hi]
  ·
   rw [if_neg hk]
   simp only [Y8, Xl, YA hi, XW, Xw]
   by_cases h2 : i < n
   · rw [if_pos h2, if_pos (by omega)]
   · rw [if_neg h2, if_neg (by omega)]
 ·
  simp [hi]
  omega
theorem Out.set {w : World} {g : Nat} {f : St} {n : Nat} (h : Out w g f n) : Out (w.setCell ⟨g, n, none⟩ (Dz f n)) g f (n + 1) := by
 unfold Out at h ⊢
 simp [World.setCell, Array.getElem?_modify, h, OO]
theorem vH (f : St) (n : Nat) : (jP f n).size = 32 := by simp [jP]
theorem yY (f g : St) (n m : Nat) : (jP f n).size = (jP g m).size := by rw [vH, vH]
theorem lF (f : St) (n : Nat) : (Tryz.prog.info? 29).map (·.size) = some (jP f n).size := by
 rw [vH]
 kernel_rfl
theorem Fp (f : St) (n : Nat) : (jP f n).all (·.oneCell') = true := by
 simp only [jP, List.all_toArray, Xk, Xg]
 rintro x ⟨k, _, rfl⟩
 split <;> rfl
theorem Rn (f : St) (k : Nat) : Value.int .u8 (u (f (k / 8)) / 2 ^ (8 * (k % 8)) % 256) = Dz f k := by
 rw [Ju]
 unfold Dz u
 simp
theorem RG (v : Value) (ms : List (List UInt8)) (w : World) (h : Az w v ms) : Calls Tryz.prog 91 #[v] w (Ret (fun v' _ => v' = .agg (jP (jD ms.flatten) 32)) w) := by
 obtain ⟨A, c, vals, rfl, hc1, hc2, hlen, hrd, hel⟩ := h
 unfold maxLen at hc2
 have HRD := Lib.hid hrd
 have HEL := Lib.hid hel
 have HLEN := Lib.hid hlen
 clear hrd hel hlen
 go_enter Tryz.func91, Tryz.ntmps91
 go_wp2
 go_loopw [4, 13] (fun at_ i wr => ∃ k : Nat, k ≤ ms.length ∧ i = .int .i64 k ∧ at_ = .int .i64 ((eH (ms.take k).flatten).2 : Nat) ∧ bY wr (w.heap.size + 1) 231 25 (eH (ms.take k).flatten).1 ∧ Out wr w.heap.size (fun _ => 0) 0 ∧ Gr w wr) (fun _ i _ => ms.length - (intOf i).toNat)
 case atStart =>
  refine ⟨0, by omega, rfl, rfl, ?_, ?_, (au w _).trans (au _ _)⟩
  ·
   have := kF (w.alloc (.cells (jP (fun _ => 0) 0) 29)) 231 25 _ rfl
   rw [wu] at this
   exact this
  · exact (Below.heap_alloc (w.alloc (.cells (jP (fun _ => 0) 0) 29)) _ _ (by simp)).trans (heap_alloc_new w _)
 case round =>
  obtain ⟨k, hk, rfl, rfl, hl, ho, hb⟩ := hrel
  have HL := Lib.hid hl
  have HO := Lib.hid ho
  have HB := Lib.hid hb
  clear hl ho hb
  by_cases h1 : k < ms.length
  ·
   obtain ⟨b, o, x, rfl, hbl, hcell, hx⟩ := Az.at HLEN.out HRD.out HEL.out k h1
   have hcell' := (HB.out.cell (p := ⟨b, o + k, none⟩) hbl).trans hcell
   clear hcell
   obtain ⟨A2, c2, rfl, hd1, hd2, hr2⟩ := hx
   unfold maxLen at hd2
   have HR2 := Lib.hid (hr2.below HB.out)
   clear hr2
   go_wp2_with fail
   obtain ⟨wo, rfl⟩ : ∃ wo : World, wo = wr := ⟨_, rfl⟩
   go_loopw [4, 19] (fun at_ i wr => ∃ j : Nat, j ≤ ms[k].length ∧ i = .int .i64 j ∧ at_ = .int .i64 ((eH ((ms.take k).flatten ++ ms[k].take j)).2 : Nat) ∧ bY wr (w.heap.size + 1) 231 25 (eH ((ms.take k).flatten ++ ms[k].take j)).1 ∧ Out wr w.heap.size (fun _ => 0) 0 ∧ Only (w.heap.size + 1) wo wr) (fun _ i _ => ms[k].length - (intOf i).toNat)
   case atStart => exact ⟨0, by omega, rfl, by simp, by simpa using HL.out, HO.out, Only.refl _ _⟩
   case round =>
    clear HO HL
    obtain ⟨j, hj, rfl, rfl, hl, ho, hb⟩ := hrel
    have HL := Lib.hid hl
    have HO := Lib.hid ho
    have HP := Lib.hid hb
    clear hl ho hb
    have hlt := zV ((ms.take k).flatten ++ ms[k].take j)
    by_cases h2 : j < ms[k].length
    ·
     have hsn := Lib.hid (take_snoc (ms.take k).flatten ms[k] j h2)
     have hr3 := HR2.out.keep (fun p hp => World.cell?_of_block (HP.out.block p.block (by have := HB.out.size; omega) (fun e => by injection e with e; omega)))
     obtain ⟨b2, o2, rfl, hb2, hc2⟩ := vP hr3 j h2
     have hlt2 := jh ms[k][j]
     go_wp2_with fail
     refine (zl (w.heap.size + 1) 231 _ _ _ hlt hlt2 _ HL.out).mono ?_
     rintro e w3 ⟨rfl, hl3, ho3⟩
     have HL3 := Lib.hid hl3
     have HP3 := Lib.hid (HP.out.trans ho3)
     have HO3 : Hid (Out w3 w.heap.size (fun _ => 0) 0) := Lib.hid ((ho3.block w.heap.size HO.out.lt (by simp)).trans HO.out)
     clear hl3 ho3 HL HP HO hc2 hr3
     by_cases h136 : (eH ((ms.take k).flatten ++ ms[k].take j)).2 + 1 = 136
     ·
      have hA : eH ((ms.take k).flatten ++ ms[k].take (j + 1)) = _ := hsn.out.trans (if_pos h136)
      have HA := Lib.hid hA
      clear hA
      have h135 : (eH ((ms.take k).flatten ++ ms[k].take j)).2 = 135 := by omega
      rw [h135]
      go_wp2_with fail
      refine (wV (w.heap.size + 1) 231 _ _ HL3.out).mono ?_
      rintro e w4 ⟨rfl, hl4, ho4⟩
      have HL4 := Lib.hid hl4
      have HP4 := Lib.hid (HP3.out.trans ho4)
      have HO4 : Hid (Out w4 w.heap.size (fun _ => 0) 0) := Lib.hid ((ho4.block w.heap.size HO3.out.lt (by simp)).trans HO3.out)
      clear hl4 ho4 HL3 HP3 HO3
      go_wp2_with fail
      go_roundw
      case rel => exact ⟨j + 1, by omega, by go_num, by rw [HA.out]; rfl, by rw [HA.out]; exact HL4.out, HO4.out, HP4.out⟩
      case measure => simp [intOf]; omega
     ·
      have hA : eH ((ms.take k).flatten ++ ms[k].take (j + 1)) = _ := hsn.out.trans (if_neg h136)
      have HA := Lib.hid hA
      clear hA
      go_wp2_with fail
      go_roundw
      case rel => exact ⟨j + 1, by omega, by go_num, by rw [HA.out]; go_num, by rw [HA.out]; exact HL3.out, HO3.out, HP3.out⟩
      case measure => simp [intOf]; omega
    ·
     have h5 : j = ms[k].length := by omega
     subst h5
     have hfl : (ms.take k).flatten ++ ms[k].take ms[k].length = (ms.take (k + 1)).flatten := by rw [Yb, KQ ms k h1]
     rw [hfl] at HL
     rw [hfl]
     have HB2 := Lib.hid (Only.gr HB.out HP.out (by omega))
     clear HB HP hfl
     go_wp2_with fail
     go_roundw
     case rel => exact ⟨k + 1, by omega, by go_num, rfl, HL.out, HO.out, HB2.out⟩
     case measure => simp [intOf]; omega
  ·
   have h5 : k = ms.length := by omega
   subst h5
   have hlt := zV ms.flatten
   have hfl : (ms.take ms.length).flatten = ms.flatten := by rw [Yb]
   rw [hfl] at HL
   rw [hfl]
   clear hfl
   go_wp2_with fail
   refine (zl (w.heap.size + 1) 231 _ _ 1 hlt (by omega) _ HL.out).mono ?_
   rintro e w3 ⟨rfl, hl3, ho3⟩
   have HL3 := Lib.hid hl3
   have HB3 := Lib.hid (Only.gr HB.out ho3 (by omega))
   have HO3 : Hid (Out w3 w.heap.size (fun _ => 0) 0) := Lib.hid ((ho3.block w.heap.size HO.out.lt (by simp)).trans HO.out)
   clear hl3 ho3 HL HB HO
   go_wp2_with fail
   refine (zl (w.heap.size + 1) 231 _ 135 128 (by omega) (by omega) _ HL3.out).mono ?_
   rintro e w4 ⟨rfl, hl4, ho4⟩
   have HL4 := Lib.hid hl4
   have HB4 := Lib.hid (Only.gr HB3.out ho4 (by omega))
   have HO4 : Hid (Out w4 w.heap.size (fun _ => 0) 0) := Lib.hid ((ho4.block w.heap.size HO3.out.lt (by simp)).trans HO3.out)
   clear hl4 ho4 HL3 HB3 HO3
   go_wp2_with fail
   refine (wV (w.heap.size + 1) 231 _ _ HL4.out).mono ?_
   rintro e w5 ⟨rfl, hl5, ho5⟩
   have HL5 : Hid (bY w5 (w.heap.size + 1) 231 25 (jD ms.flatten)) := Lib.hid hl5
   have HB5 := Lib.hid (Only.gr HB4.out ho5 (by omega))
   have HO5 : Hid (Out w5 w.heap.size (fun _ => 0) 0) := Lib.hid ((ho5.block w.heap.size HO4.out.lt (by simp)).trans HO4.out)
   clear hl5 ho5 HL4 HB4 HO4
   go_wp2_with fail
   go_loopw [37] (fun i wr => ∃ k : Nat, k ≤ 32 ∧ i = .int .i64 k ∧ bY wr (w.heap.size + 1) 231 25 (jD ms.flatten) ∧ Out wr w.heap.size (fun _ => 0) 0 ∧ Out wr w5.heap.size (jD ms.flatten) k ∧ Gr w wr) (fun i _ => 32 - (intOf i).toNat)
   case atStart =>
    refine ⟨0, by omega, rfl, HL5.out.alloc _, ?_, heap_alloc_new w5 _, HB5.out.trans (au _ _)⟩
    exact (Below.heap_alloc w5 _ _ HO5.out.lt).trans HO5.out
   case round =>
    have hs5 := HB5.out.size
    have hl5 := HL5.out.lt
    clear HL5 HB5 HO5
    obtain ⟨k, hk, rfl, hl, ho, hw5, hb⟩ := hrel
    have HL := Lib.hid hl
    have HO := Lib.hid ho
    have HW := Lib.hid hw5
    have HB := Lib.hid hb
    clear hl ho hw5 hb
    by_cases h1 : k < 32
    ·
     have c1 := HL.out.cell (k / 8) (by omega)
     have c2 := HW.out.cell h1
     have c3 := HW.out.frozen k
     unfold lv at c1
     have hu := uf (jD ms.flatten (k / 8))
     have hu0 := hu.1
     clear hu
     go_wp2_with fail
     go_roundw
     case rel =>
      refine ⟨k + 1, by omega, by go_num, HL.out.far (by dsimp only; omega) _, ?_, ?_, ?_⟩
      · exact (Below.heap_setCell _ _ _ _ (by dsimp only; omega)).trans HO.out
      ·
       rw [Rn]
       exact HW.out.set
      · exact (Only.set (g := w5.heap.size) _ k _).gr HB.out (by omega)
     case measure => simp [intOf]; omega
    ·
     have h5 : k = 32 := by omega
     subst h5
     have HC := HW.out
     unfold Out at HC
     have HOO := HO.out
     unfold Out at HOO
     go_wp2_with first
      | refine wpList_load_row rfl 29 (.tmp 9) rfl w5.heap.size rfl 29 (jP (jD ms.flatten) 32) (0, 0) _ HC rfl rfl (lF _ _) ?_
      | refine wpList_store_row rfl 29 (.tmp 2) (.tmp 52) rfl w.heap.size (jP (jD ms.flatten) 32) rfl rfl 29 _ HOO (lF _ _) (yY _ _ _ _) (Fp _ _) ?_
     exact bodyPost_ret (results_cell_row rfl _ _ w.heap.size 29 (jP (jD ms.flatten) 32) (0, 0) _ rfl (aS _ _ _ _ _ HOO) rfl rfl (lF _ _)) rfl ⟨_, rfl, bQ HB.out _ _ (Nat.le_refl _), rfl⟩
theorem BJ (l : List UInt8) : Value.agg (jP (jD l) 32) = dG (hash l) := by
 unfold jP dG hash L9 bvs
 rw [XU]
 congr 2
theorem QX (v : Value) (ms : List (List UInt8)) (w : World) (h : Az w v ms) : Calls Tryz.prog 91 #[v] w (Ret (eqV (dG (hash ms.flatten))) w) :=
 (RG v ms w h).mono fun e w' ⟨x, he, hg, hx⟩ => ⟨x, he, hg, by unfold eqV; rw [hx, BJ]⟩
end Go.Proofs.YtelbhdobjdnglaaGreat
namespace Go.Proofs.YtelbhdobjdnglaaGreat
set_option maxRecDepth 20000
set_option maxHeartbeats 1000000
open Go.RowKit Mono
open Kec (L St rotl Same)
theorem u8_or128 (z : UInt8) : bits .or .u8 (z.toNat : Int) 128 = ((z ||| 128).toNat : Int) := by
 have h : ∀ q : BitVec 8, bits .or .u8 (q.toNat : Int) 128 = ((q ||| 128).toNat : Int) := by decide +kernel
 exact h z.toBitVec
theorem and_val (f : St) (k : Nat) : Value.int .u8 (bits .and .u64 (u (f (k / 8)) / 2 ^ (8 * (k % 8))) 255 % 256) = Dz f k := by
 have h : (255 : Int) = u 255 := rfl
 rw [Ju, h, NZ]
 unfold Dz u
 rw [BitVec.toNat_and]
 have h2 : ((255 : L).toNat) = 2 ^ 8 - 1 := rfl
 rw [h2, X9]
 congr 1
 omega
theorem Mc {a b : St} (h : Same a b) : jP a 32 = jP b 32 := by
 unfold jP
 congr 1
 refine XL fun k hk => ?_
 have := X7.1 hk
 unfold Dz
 rw [h _ (by omega)]
theorem Ib (v : Value) (l : List UInt8) (w : World) (h : IsB w v l) (hlen : l.length ≤ 1099511627776) : Calls Tryz.prog 18 #[v] w (Ret (eqV (dG (hash l))) w) := by
 obtain ⟨A, c, rfl, hl1, hl2, hA⟩ := h
 clear hl1 hl2
 have HA := Lib.hid hA
 clear hA
 go_enter Tryz.func18, Tryz.ntmps18
 go_wp2_with first
  | (at_builtin; refine bn (.const (.slice none 0 0)) (.tmp 11) 38 cu (base := w.heap.size + 1) _ 0 [] A l.length c w.heap.size (bvs l) rfl rfl rfl rfl (OwnB.nil _ _) ((HA.out.below (Below.alloc (Below.refl _ _) (Nat.le_refl _) _))) (by simp [bvs]) (dR _) (by simp only [maxLen]; omega) (by simp; omega) (by simp) ?_; intro A2 c2 w2 hown2 hg2 _; simp only [Xj, WJ] at hown2; have hz2 := hg2.size; simp only [wu] at hz2; have HO2 := Lib.hid hown2; have HG2 := Lib.hid hg2; clear hown2 hg2; rw [Xj])
  | (at_builtin; refine bn (.tmp 12) (.tmp 13) 38 cu (base := w.heap.size + 1) _ l.length (bvs l) _ 1 1 (w2.heap.size + 1) [.int .u8 1] rfl rfl rfl rfl (HO2.out.alloc _) (Rd.new _ _ _) rfl (by simp [Value.oneCell']) (by simp only [maxLen]; omega) (by omega) (by simp; omega) ?_; intro A3 c3 w3 hown3 hg3 _)
 obtain ⟨w0, hw0⟩ : ∃ w0 : World, w0 = w.alloc (.cells (jP (fun _ => 0) 0) 29) := ⟨_, rfl⟩
 have hz0 : w0.heap.size = w.heap.size + 1 := by rw [hw0]; simp
 have HB3 : Hid (Below (w.heap.size + 1) w0 w3) := by
  refine Lib.hid ((((Below.refl _ w0).grown (B := w.heap.size + 1) (by rw [hw0]; exact HG2.out) (by omega) (fun j hj => by cases hj)).alloc (by omega) _).grown hg3 (by simp; omega) fun j hj => bP HO2.out j hj)
 have HO3 : Hid (OwnB w3 (w.heap.size + 1) (.slice A3 (l.length + 1) c3) (zeros l 0)) := by
  refine Lib.hid ?_
  have := zeros_length l 0
  exact ownB_of hown3 (by simp [zeros, bvs, bv])
 have HW0 := Lib.hid hw0
 clear hw0 hown3 hg3 HO2 HG2
 go_loopw [3] (fun v wr => ∃ n : Nat, n ≤ 135 - l.length % 136 ∧ OwnB wr (w.heap.size + 1) v (zeros l n) ∧ Below (w.heap.size + 1) w0 wr) (fun v _ => match v with | .slice _ n _ => l.length + 136 - n | _ => 0)
 case atStart => exact ⟨0, by omega, HO3.out, HB3.out⟩
 case round =>
  clear HO3 HB3
  obtain ⟨n, hn, hown, hb⟩ := hrel
  obtain ⟨A', c', rfl, hc1, hc2⟩ := dB hown
  have hN := zeros_length l n
  have hbs := hb.size
  unfold OwnB at hown
  rw [hN] at hown hc1 ⊢
  have HO := Lib.hid hown
  have HB := Lib.hid hb
  have HN := Lib.hid hN
  clear hown hb hN
  unfold maxLen at hc2
  by_cases h1 : (l.length + 1 + n) % 136 = 0
  ·
   have hn2 := Lib.hid (show n = 135 - l.length % 136 by omega)
   have hm := Lib.hid (show (l.length + 1 + n) % 136 = 0 from h1)
   obtain ⟨g, cp, cur, hv, hg1, hgh, _⟩ := HO.out.2.resolve_left (fun h => by have := h.2; omega)
   have hg2 := lt_of_some hgh
   clear hgh
   injection hv with hA' _ _
   subst hA'
   have e1 := HO.out.cellAt (l.length + n) (by omega)
   have e2 := HO.out.frozenAt (l.length + n)
   have hz : (zeros l n)[l.length + n]? = some ((zeros l n).getD (l.length + n) 0) := by
    have := HN.out
    rw [List.getD_eq_getElem?_getD, List.getElem?_eq_getElem (by omega)]
    rfl
   have hzz : (bvs (zeros l n))[l.length + n]? = some (bv ((zeros l n).getD (l.length + n) 0)) := by simp only [bvs, Xl, hz, XW]
   rw [hzz] at e1
   have HZ := Lib.hid (HO.out.stored (l.length + n) (bv ((zeros l n).getD (l.length + n) 0 ||| 128)))
   have hs := KL l n hn2.out
   rw [HN.out, show l.length + 1 + n - 1 = l.length + n by omega] at hs
   have HS := Lib.hid hs
   have HR := Lib.hid (u8_or128 ((zeros l n).getD (l.length + n) 0))
   clear hz hzz hs
   generalize (zeros l n).getD (l.length + n) 0 = z at e1 HZ HS HR
   unfold bv at e1
   have hzl := jh z
   go_wp2_with fail
   obtain ⟨wL, hwL⟩ : ∃ wL : World, wL = (wr.setCell ⟨g, l.length + n, none⟩ (.int .u8 (bits .or .u8 (z.toNat : Int) 128))).alloc (.cells (cellsOf (fun _ => 0) 25) 118) := ⟨_, rfl⟩
   obtain ⟨m, hm0⟩ : ∃ m : List UInt8, m = l ++ IJ (l.length % 136) := ⟨_, rfl⟩
   have hml : m.length = l.length + 1 + n := by
    rw [hm0, ← HS.out, Yh, HN.out]
   obtain ⟨J, hJ⟩ : ∃ J : Nat, 136 * J = l.length + 1 + n := ⟨(l.length + 1 + n) / 136, by have := hm.out; omega⟩
   have hsz : wL.heap.size = wr.heap.size + 1 := by rw [hwL]; simp
   have HL0 : Hid (bY wL wr.heap.size 118 25 (fun _ => 0)) := by
    refine Lib.hid ?_
    have := kF (wr.setCell ⟨g, l.length + n, none⟩ (.int .u8 (bits .or .u8 (z.toNat : Int) 128))) 118 25 _ rfl
    rw [hwL]
    simpa using this
   have HRm : Hid (Rd wL wr.heap.size (some ⟨g, 0, none⟩) (bvs m)) := by
    refine Lib.hid ?_
    have h1 := Rd.OQ HZ.out.1
    rw [SV, HS.out, ← hm0] at h1
    have h2 : wr.heap.size = (wr.setCell ⟨g, l.length + n, none⟩ (bv (z ||| 128))).heap.size := by simp
    rw [h2, hwL, HR.out]
    exact h1.below ((Below.refl _ _).alloc (Nat.le_refl _) _)
   have HBL : Hid (Below (w.heap.size + 1) w0 wL) := by
    refine Lib.hid ?_
    rw [hwL]
    exact (HB.out.setCell hg1 _).alloc (by simp; omega) _
   have HS2 := Lib.hid (ED l m J hm0 (by omega))
   have HwL := Lib.hid hwL
   have HJ := Lib.hid hJ
   have HML := Lib.hid hml
   have hJ1 : 136 * J ≤ l.length + 1 + n := by omega
   have hJ2 : l.length + 1 + n ≤ 136 * J := by omega
   have hn3 : n ≤ 135 := by omega
   clear hwL hm0 hml hJ HZ HS HR e1 e2 HB HO
   obtain ⟨wp, rfl⟩ : ∃ wp : World, wp = wr := ⟨_, rfl⟩
   go_loopw [5] (fun i wx => ∃ j : Nat, j ≤ J ∧ i = .int .i64 (136 * (j : Int)) ∧ bY wx wp.heap.size 118 25 (og m j) ∧ Below wp.heap.size wL wx) (fun i _ => l.length + 136 - (intOf i).toNat)
   case atStart => exact ⟨0, by omega, rfl, by have := HL0.out; rw [HwL.out] at this; exact this, by rw [HwL.out]; exact Below.refl _ _⟩
   case round =>
    clear HL0
    obtain ⟨j, hj, rfl, hl, hb⟩ := hrel
    have HL := Lib.hid hl
    have HB := Lib.hid hb
    have hbs := hb.size
    clear hl hb
    by_cases h2 : j < J
    ·
     have hj2 : 136 * j + 136 ≤ l.length + 1 + n := by omega
     have hd : decide ((136 * (j : Int)) < (l.length : Int) + 1 + (n : Int)) = true := by simp; omega
     go_wp2_with fail
     clear hd
     obtain ⟨wo, rfl⟩ : ∃ wo : World, wo = wr := ⟨_, rfl⟩
     go_loopw [6] (fun i wx => ∃ k : Nat, k ≤ 136 ∧ i = .int .i64 k ∧ bY wx wp.heap.size 118 25 (wM (fun i => (m.getD (136 * j + i) 0).toNat) (og m j) k) ∧ Below wp.heap.size wo wx) (fun i _ => 136 - (intOf i).toNat)
     case atStart => exact ⟨0, by omega, rfl, HL.out, Below.refl _ _⟩
     case round =>
      clear HL
      obtain ⟨k, hk, rfl, hl, hb⟩ := hrel
      have HL := Lib.hid hl
      have HP := Lib.hid hb
      have hps := hb.size
      clear hl hb
      by_cases h3 : k < 136
      ·
       have hkm : 136 * j + k < m.length := by have := HML.out; omega
       have hrm := (HRm.out.below HB.out).below HP.out
       obtain ⟨b2, o2, he2, hb2, hc2⟩ := vP hrm (136 * j + k) hkm
       injection he2 with he2
       injection he2 with he2 he3
       subst he2 he3
       have hgetD : m.getD (136 * j + k) 0 = m[136 * j + k] := by simp [hkm]
       rw [← hgetD, Xj] at hc2
       clear hgetD hrm
       have HR : Hid (wM (fun i => (m.getD (136 * j + i) 0).toNat) (og m j) (k + 1) = takeB (wM (fun i => (m.getD (136 * j + i) 0).toNat) (og m j) k) k (m.getD (136 * j + k) 0).toNat) := Lib.hid rfl
       generalize wM (fun i => (m.getD (136 * j + i) 0).toNat) (og m j) k = s at HL HR
       have hzl := jh (m.getD (136 * j + k) 0)
       generalize m.getD (136 * j + k) 0 = z2 at hc2 HR hzl
       have d1 := bg (w := wr) (p := ⟨wp.heap.size, k / 8, none⟩) (by have := HL.out.lt; exact this) (HL.out.cell (k / 8) (by omega))
       have d2 := bg (w := wr) (p := ⟨g, 136 * j + k, none⟩) (by dsimp only; omega) hc2
       clear hc2
       unfold lv at d1
       have hu := uf (s (k / 8))
       have hu0 := hu.1
       clear hu
       go_wp2_with fail
       refine dH 20 (by kernel_rfl) (by kernel_rfl) (by kernel_rfl) ?_
       simp only [WH, WO, WG, WM]
       refine dM 20 (by kernel_rfl) ?_
       simp only [WH, WO, WG, WM]
       repeat (go_big_quiet_step (fail))
       refine wpQuiet_nil ?_
       refine gK (by kernel_rfl) ?_
       intro W hW
       replace hW := hW.gr
       unfold oD
       have HW := Lib.hid (HL.out.gr hW)
       have e1 := HW.out.cell (k / 8) (by omega)
       have e2 := HW.out.frozen (k / 8)
       unfold lv at e1
       go_wp2_with fail
       go_roundw
       case rel =>
        have hv : Value.int .u64 (bits .xor .u64 (u (s (k / 8))) (IntKind.u64.wrap ((z2.toNat : Int) * 2 ^ (k % 8 * 8)))) = lv (s (k / 8) ^^^ (BitVec.ofNat 64 z2.toNat) <<< (8 * (k % 8))) := by
         rw [← NY z2.toNat hzl, Jv, pV, Nat.mul_comm (k % 8) 8]
         rfl
        rw [hv]
        refine ⟨k + 1, by omega, by go_num, ?_, ?_⟩
        ·
         rw [HR.out]
         exact HW.out.set _ _
        · exact (HP.out.trans (hW.mono (by omega))).setCell (Nat.le_refl _) _
       case measure => simp [intOf]; omega
      ·
       have h5 : k = 136 := by omega
       rw [h5] at HL
       have h6 : 136 ≤ k := by omega
       clear h5 h3
       go_wp2_with fail
       obtain ⟨wq, rfl⟩ : ∃ wq : World, wq = wr := ⟨_, rfl⟩
       go_loopw [8] (fun i wx => ∃ k : Nat, k ≤ 24 ∧ i = .int .i64 k ∧ bY wx wp.heap.size 118 25 (Kec.yF (wM (fun i => (m.getD (136 * j + i) 0).toNat) (og m j) 136) k) ∧ Reg wx wq.heap.size 5 (Kec.lfn 1 (7 * k)) ∧ Below wp.heap.size wo wx) (fun i _ => 24 - (intOf i).toNat)
       case atStart => exact ⟨0, by omega, rfl, HL.out.alloc _, heap_alloc_new wq _, HP.out.alloc (by omega) _⟩
       case round =>
        have hlt := HL.out.lt
        clear HL HP
        obtain ⟨k, hk, rfl, hl, hr, hb⟩ := hrel
        have HL := Lib.hid hl
        have HR := Lib.hid hr
        have HP := Lib.hid hb
        clear hl hr hb
        by_cases h3 : k < 24
        ·
         have HA1 := Lib.hid (Kec.JR 1 (7 * k) 7)
         go_wp2_with fail
         refine (KZ wp.heap.size wq.heap.size 118 5 _ _ _ HL.out HR.out hlt).mono ?_
         rintro e w3 ⟨rfl, hl3, hr3, hb3⟩
         have HL3 := Lib.hid hl3
         have HR3 := Lib.hid hr3
         have HB3 := Lib.hid hb3
         clear hl3 hr3 hb3
         go_wp2_with fail
         go_roundw
         case rel => exact ⟨k + 1, by omega, by go_num, HL3.out, by rw [Nat.mul_succ, HA1.out]; exact HR3.out, HP.out.trans HB3.out⟩
         case measure => simp [intOf]; omega
        ·
         have h5 : k = 24 := by omega
         rw [h5] at HL
         have h6 : 24 ≤ k := by omega
         clear h5 h3 HR
         go_wp2_with fail
         go_roundw
         case rel => exact ⟨j + 1, by omega, by go_num, HL.out, HB.out.trans HP.out⟩
         case measure => simp [intOf]; omega
    ·
     have h5 : j = J := by omega
     have h6 : l.length + 1 + n ≤ 136 * j := by omega
     rw [h5] at HL
     have hd : decide ((136 * (j : Int)) < (l.length : Int) + 1 + (n : Int)) = false := by simp; omega
     clear h2 h5
     have HG : Hid (Below (w.heap.size + 1) w0 wr) := Lib.hid (HBL.out.trans (HB.out.mono (by omega)))
     have hgl := HL.out.lt
     clear HBL HB HRm
     go_wp2_with fail
     obtain ⟨wo, rfl⟩ : ∃ wo : World, wo = wr := ⟨_, rfl⟩
     go_loopw [10] (fun i wx => ∃ k : Nat, k ≤ 32 ∧ i = .int .i64 k ∧ bY wx wp.heap.size 118 25 (og m J) ∧ Out wx wo.heap.size (og m J) k ∧ Below (w.heap.size + 1) w0 wx) (fun i _ => 32 - (intOf i).toNat)
     case atStart => exact ⟨0, by omega, rfl, HL.out.alloc _, heap_alloc_new wo _, HG.out.alloc (by omega) _⟩
     case round =>
      clear HL HG
      obtain ⟨k, hk, rfl, hl, hw5, hb⟩ := hrel
      have HL := Lib.hid hl
      have HW := Lib.hid hw5
      have HB := Lib.hid hb
      clear hl hw5 hb
      by_cases h1 : k < 32
      ·
       have c1 := HL.out.cell (k / 8) (by omega)
       have c2 := HW.out.cell h1
       have c3 := HW.out.frozen k
       unfold lv at c1
       have hu := uf (og m J (k / 8))
       have hu0 := hu.1
       clear hu
       go_wp2_with fail
       go_roundw
       case rel =>
        refine ⟨k + 1, by omega, by go_num, HL.out.far (by dsimp only; omega) _, ?_, ?_⟩
        ·
         have hv : Value.int .u8 (bits .and .u64 (u (og m J (k / 8)) / 2 ^ (k % 8 * 8)) 255 % 256) = Dz (og m J) k := by
          rw [Nat.mul_comm (k % 8) 8]
          exact and_val _ _
         rw [hv]
         exact HW.out.set
        · exact HB.out.setCell (by dsimp only; omega) _
       case measure => simp [intOf]; omega
      ·
       have h5 : k = 32 := by omega
       rw [h5] at HW
       have h6 : 32 ≤ k := by omega
       clear h5 h1
       have HC := HW.out
       unfold Out at HC
       have HOO : wr.heap[w.heap.size]? = some (.cells (jP (fun _ => 0) 0) 29 (0, 0)) := by
        rw [HB.out.block w.heap.size (by omega), HW0.out]
        exact heap_alloc_new w _
       go_wp2_with first
        | refine wpList_load_row rfl 29 (.tmp 9) rfl wo.heap.size rfl 29 (jP (og m J) 32) (0, 0) _ HC rfl rfl (lF _ _) ?_
        | refine wpList_store_row rfl 29 (.tmp 2) (.tmp 86) rfl w.heap.size (jP (og m J) 32) rfl rfl 29 _ HOO (lF _ _) (yY _ _ _ _) (Fp _ _) ?_
       have HR : Hid (Value.agg (jP (og m J) 32) = dG (hash l)) := by
        refine Lib.hid ?_
        rw [← BJ, Mc HS2.out]
       have hg0 : Gr w wr := by
        have h1 : Gr w w0 := by rw [HW0.out]; exact au w _
        exact h1.trans (HB.out.mono (by omega))
       exact bodyPost_ret (results_cell_row rfl _ _ w.heap.size 29 (jP (og m J) 32) (0, 0) _ rfl (aS _ _ _ _ _ HOO) rfl rfl (lF _ _)) rfl ⟨_, rfl, bQ hg0 _ _ (Nat.le_refl _), HR.out⟩
  ·
   have hn2 : n + 1 ≤ 135 - l.length % 136 := by omega
   go_wp2_with (at_builtin; refine bn (.tmp 19) (.tmp 20) 38 cu (base := w.heap.size + 1) _ (l.length + 1 + n) (bvs (zeros l n)) _ 1 1 (wr.heap.size + 1) [.int .u8 0] rfl rfl rfl rfl (HO.out.alloc _) (Rd.new _ _ _) rfl (by simp [Value.oneCell']) (by simp only [maxLen]; omega) (by omega) (by simp; omega) ?_; intro A2 c2 w2 hown2 hg2 _)
   go_roundw
   case rel =>
    refine ⟨n + 1, by omega, ownB_of hown2 ?_, (HB.out.alloc (by omega) _).grown hg2 (by simp; omega) fun j hj => bP HO.out j hj⟩
    rw [← G8, iF]
    rfl
   case measure =>
    show l.length + 136 - (l.length + 1 + n + 1) < l.length + 136 - (l.length + 1 + n)
    omega
end Go.Proofs.YtelbhdobjdnglaaGreat
namespace Go.Proofs.YtelbhdobjdnglaaGreat
set_option linter.unusedVariables false
open Go.RowKit Mono Rlp
namespace E
theorem JB {ok : Nat → Prop} {w : World} (hok : ∀ b, ok b → b < w.heap.size) : ∀ (ms : List (List UInt8)) (rows : List (List Value)), ay ok w 1 (ms.map D.bs) rows → rows.flatten.length = ms.length ∧ ∀ (i : Nat) (x : Value) (m : List UInt8), rows.flatten[i]? = some x → ms[i]? = some m → IsB w x m
 | [], rows, h => by
  rw [X3, ay] at h
  subst h
  exact ⟨rfl, fun i x m h => by simp at h⟩
 | m :: ms, rows, h => by
  rw [Xm, ay] at h
  obtain ⟨r, rest, rfl, _, h2, h3⟩ := h
  have h4 := h2
  rw [Reads] at h4
  obtain ⟨u, rfl, _⟩ := h4
  obtain ⟨g1, g2⟩ := JB hok ms rest h3
  refine ⟨by simp [g1], fun i x m' hx hm => ?_⟩
  cases i with
  | zero =>
   simp only [Xv, YK, WQ, Xw] at hx hm
   subst hx
   subst hm
   exact nJ hok ((dn rfl).2 h2)
  | succ i =>
   simp only [Xv, YK, WR] at hx hm
   exact g2 i x m' hx hm
theorem RJ {ok : Nat → Prop} {w : World} (hok : ∀ b, ok b → b < w.heap.size) {ms : List (List UInt8)} {v : Value} (h : bW ok w (.sl 1 (ms.map D.bs)) v) : Az w v ms := by
 obtain ⟨cs, h1, rfl⟩ := h
 rw [Reads] at h1
 obtain ⟨A, c, rows, rfl, g1, g2, g3, g4, g5⟩ := h1
 rw [WY] at g1 g3
 obtain ⟨k1, k2⟩ := JB hok ms rows g5
 refine ⟨A, c, rows.flatten, ?_, g1, g2, k1, fun hn => ?_, k2⟩
 ·
  show Value.slice A (ms.map D.bs).length c = _
  rw [WY]
 ·
  obtain ⟨b, o, e, hb, hc⟩ := g4 hn
  exact ⟨b, o, e, hok b hb, hc⟩
theorem UL (ms : List (List UInt8)) : Fn 91 [.sl 1 (ms.map D.bs)] (· = .val (.arr 32 (hash ms.flatten))) := ⟨fun ok w xs hok hr => by
 obtain ⟨v, rfl, h⟩ := jQ hr
 refine (QX v ms w (RJ hok h)).mono ?_
 rintro e w' ⟨_, rfl, hg, rfl⟩
 exact ⟨hg, _, _, rfl, rfl, rP (qK _)⟩⟩
theorem SG (l : List UInt8) : Fn 91 [.sl 1 [.bs l]] (· = .val (.arr 32 (hash l))) := by
 have h := UL [l]
 rw [Xv, List.flatten_nil, XB] at h
 exact h
theorem Gu (l : List UInt8) (hl : l.length ≤ 1099511627776) : Fn 18 [.bs l] (· = .val (.arr 32 (hash l))) := ⟨fun ok w xs hok hr => by
 obtain ⟨v, rfl, h⟩ := jQ hr
 refine (Ib v l w (nJ hok h) hl).mono ?_
 rintro e w' ⟨_, rfl, hg, rfl⟩
 exact ⟨hg, _, _, rfl, rfl, rP (qK _)⟩⟩
theorem Bq {ok : Nat → Prop} {w : World} : ∀ (l : List UInt8) (rows : List (List Value)), ay ok w 1 (l.map fun b => D.v (bv b)) rows → rows.flatten = bvs l
 | [], rows, h => by
  rw [X3, ay] at h
  subst h
  rfl
 | b :: l, rows, h => by
  rw [Xm, ay] at h
  obtain ⟨r, rest, rfl, _, h2, h3⟩ := h
  rw [Reads] at h2
  rw [Xv, Bq l rest h3, h2.2]
  rfl
theorem Le.slB {N : Nat} {X : Cx N} {S : St} {t : Tmp} {l : List UInt8} (hl : look S.regs t = some (.val (.sl 1 (l.map fun b => D.v (bv b))))) : Le X S ⟨(t, .val (.bs l)) :: S.regs, S.objs, S.facts⟩ := fun a w h => by
 refine ⟨h.mem, fun u r hu => ?_, h.size, h.defers⟩
 unfold look at hu
 split at hu
 ·
  rename_i e
  subst e
  obtain rfl := Xr hu
  have h1 := (dn (d := .sl 1 (l.map fun b => D.v (bv b))) rfl).1 (h.regs _ _ hl)
  refine (dn (d := .bs l) rfl).2 ?_
  rw [Reads] at h1
  rw [Reads]
  obtain ⟨A, c, rows, e, g1, g2, g3, g4, g5⟩ := h1
  rw [WY] at e g1 g3
  refine ⟨_, rfl, A, c, List.singleton_inj.1 e, g1, g2, ?_⟩
  rw [← Bq l rows g5]
  exact g4
 · exact h.regs u r hu
def iY : List UInt8 := hash [128]
theorem vV : Fn 89 [] (· = .val (.arr 32 iY)) := by
 have h1 := SG [128]
 refine Fn.walk 4 Tryz.func89 rfl Tryz.ntmps89 (by simp) fun X => ?_
 repeat
  (first
   | (apply aC (h1); rfl; exact aj.refl _ _; exact enA; iterate 2 rfl) | (apply mG; (iterate 9 rfl); refine EL.le (Le.slB (t := 1) (l := [128]) rfl) ?_)
   | (apply mG; iterate 9 rfl) | (apply aT; rfl; rfl; rfl; intro _)
   | (apply aO; rfl; exact saA; iterate 4 rfl) | apply EL.nil
   | (with_reducible first | apply EK.nc | apply EC.seq | apply EC.r0 | apply EC.ret))
 refine EK.yJ 0 rfl rfl rfl rfl ?_ rfl
 (exact RL.a)
theorem Gn : Fn 61 [] (· = .val (.arr 32 iY)) := by
 have h1 := Gu [128] (by decide)
 refine Fn.walk 3 Tryz.func61 rfl Tryz.ntmps61 (by simp) fun X => ?_
 repeat
  (first
   | (apply aC (h1); rfl; exact aj.refl _ _; exact enA; iterate 2 rfl) | (apply mG; (iterate 9 rfl); refine EL.le (Le.slB (t := 1) (l := [128]) rfl) ?_)
   | (apply aT; rfl; rfl; rfl; intro _) | (apply aO; rfl; exact saA; iterate 4 rfl) | apply EL.nil
   | (with_reducible first | apply EK.nc | apply EC.seq | apply EC.r0 | apply EC.ret))
 refine EK.yJ 0 rfl rfl rfl rfl ?_ rfl
 (exact RL.a)
end E
end Go.Proofs.YtelbhdobjdnglaaGreat
namespace Go.Proofs.YtelbhdobjdnglaaGreat
set_option linter.unusedVariables false
set_option maxHeartbeats 400000
open Go.RowKit Mono Rlp
mutual
def eU (ok : Nat → Prop) (w : World) : Raw → List Value → Prop
 | .mk b bs xs, cs => ∃ vb A c rows, cs = [.bool b, vb, .slice A xs.length c] ∧ wC ok w vb bs ∧ xs.length ≤ c ∧ c ≤ maxLen ∧ (A = none → xs.length = 0 ∧ c = 0) ∧ RdP ok w A rows.flatten ∧ bF ok w xs rows
def bF (ok : Nat → Prop) (w : World) : List Raw → List (List Value) → Prop
 | [], rows => rows = []
 | x :: xs, rows => ∃ r rest, rows = r :: rest ∧ eU ok w x r ∧ bF ok w xs rest
end
def jW (w : World) (x : Raw) (cs : List Value) : Prop := eU (fun b => b < w.heap.size) w x cs
def fB (w : World) (xs : List Raw) (rows : List (List Value)) : Prop := bF (fun b => b < w.heap.size) w xs rows
mutual
theorem eU.mono {ok ok' : Nat → Prop} {w w' : World} (h1 : ∀ b, ok b → ok' b) (h2 : ∀ p : Addr, ok p.block → w'.cell? p = w.cell? p) : ∀ (x : Raw) (cs : List Value), eU ok w x cs → eU ok' w' x cs
 | .mk b bs xs, cs, h => by
  rw [eU] at h ⊢
  obtain ⟨vb, A, c, rows, g1, g2, g3, g4, g5, g6, g7⟩ := h
  exact ⟨vb, A, c, rows, g1, g2.mono h1 h2, g3, g4, g5, g6.mono h1 h2, bF.mono h1 h2 xs rows g7⟩
theorem bF.mono {ok ok' : Nat → Prop} {w w' : World} (h1 : ∀ b, ok b → ok' b) (h2 : ∀ p : Addr, ok p.block → w'.cell? p = w.cell? p) : ∀ (xs : List Raw) (rows : List (List Value)), bF ok w xs rows → bF ok' w' xs rows
 | [], rows, h => by rw [bF] at h ⊢; exact h
 | x :: xs, rows, h => by
  rw [bF] at h ⊢
  obtain ⟨r, rest, g1, g2, g3⟩ := h
  exact ⟨r, rest, g1, eU.mono h1 h2 x r g2, bF.mono h1 h2 xs rest g3⟩
end
theorem jW.eq (w : World) (b : Bool) (bs : List UInt8) (xs : List Raw) (cs : List Value) : jW w (.mk b bs xs) cs = ∃ vb A c rows, cs = [.bool b, vb, .slice A xs.length c] ∧ IsB w vb bs ∧ xs.length ≤ c ∧ c ≤ maxLen ∧ (A = none → xs.length = 0 ∧ c = 0) ∧ Rd w w.heap.size A rows.flatten ∧ fB w xs rows := by
 unfold jW
 rw [eU]
 rfl
theorem fB.nil_eq (w : World) (rows : List (List Value)) : fB w [] rows = (rows = []) := by unfold fB; rw [bF]
theorem fB.Kr (w : World) (x : Raw) (xs : List Raw) (rows : List (List Value)) : fB w (x :: xs) rows = ∃ r rest, rows = r :: rest ∧ jW w x r ∧ fB w xs rest := by
 unfold fB
 rw [bF]
 rfl
theorem jW.gr {w w' : World} (hg : Gr w w') (x : Raw) (cs : List Value) (h : jW w x cs) : jW w' x cs :=
 eU.mono (fun b hb => Xd hb hg.size) (fun p hp => hg.cell hp) x cs h
theorem fB.gr {w w' : World} (hg : Gr w w') (xs : List Raw) (rows : List (List Value)) (h : fB w xs rows) : fB w' xs rows :=
 bF.mono (fun b hb => Xd hb hg.size) (fun p hp => hg.cell hp) xs rows h
theorem bF.append {ok : Nat → Prop} {w : World} : ∀ (xs ys : List Raw) (rows rest : List (List Value)), bF ok w xs rows → bF ok w ys rest → bF ok w (xs ++ ys) (rows ++ rest)
 | [], ys, rows, rest, h, h2 => by rw [bF] at h; subst h; exact h2
 | x :: xs, ys, rows, rest, h, h2 => by
  rw [bF] at h
  obtain ⟨r, rs, rfl, h3, h4⟩ := h
  rw [WL, bF]
  exact ⟨r, rs ++ rest, rfl, h3, bF.append xs ys rs rest h4 h2⟩
theorem eU.len {ok : Nat → Prop} {w : World} {x : Raw} {cs : List Value} (h : eU ok w x cs) : ∃ b A1 n1 c1 A n c, cs = [.bool b, .slice A1 n1 c1, .slice A n c] := by
 cases x
 rw [eU] at h
 obtain ⟨vb, A, c, rows, h1, ⟨A1, c1, rfl, _⟩, _⟩ := h
 exact ⟨_, _, _, _, _, _, _, h1⟩
theorem jW.len {w : World} {x : Raw} {cs : List Value} (h : jW w x cs) : ∃ b vb A n c, cs = [.bool b, vb, .slice A n c] := by
 cases x
 rw [jW.eq] at h
 obtain ⟨vb, A, c, rows, h1, _⟩ := h
 exact ⟨_, _, _, _, _, h1⟩
theorem fB.length {w : World} : ∀ (xs : List Raw) (rows : List (List Value)), fB w xs rows → rows.length = xs.length
 | [], rows, h => by rw [fB.nil_eq] at h; rw [h]; rfl
 | x :: xs, rows, h => by
  rw [fB.Kr] at h
  obtain ⟨r, rest, rfl, _, h3⟩ := h
  simp [fB.length xs rest h3]
theorem fB.get {w : World} : ∀ (xs : List Raw) (rows : List (List Value)), fB w xs rows → ∀ k (hk : k < xs.length), ∃ cs, jW w xs[k] cs ∧ ∀ j u, cs[j]? = some u → rows.flatten[k * 3 + j]? = some u
 | [], rows, _, k, hk => by simp at hk
 | x :: xs, rows, h, k, hk => by
  rw [fB.Kr] at h
  obtain ⟨r, rest, rfl, h2, h3⟩ := h
  obtain ⟨b, vb, A, n, c, hr⟩ := h2.len
  have hr3 : r.length = 3 := by rw [hr]; rfl
  cases k with
  | zero =>
   refine ⟨r, h2, fun j u hu => ?_⟩
   have hj := (Xf.1 hu).1
   rw [Za, Xj, Xv, XZ hj]
   exact hu
  | succ k =>
   obtain ⟨cs, h4, h5⟩ := fB.get xs rest h3 k (by simpa using hk)
   refine ⟨cs, h4, fun j u hu => ?_⟩
   rw [Xv, XY (by omega), hr3, ← h5 j u hu]
   congr 1
   omega
def jl (w : World) (v : Value) (x : Raw) : Prop := ∃ cs, v = .agg cs.toArray ∧ jW w x cs
def pO (w : World) (v : Value) (xs : List Raw) : Prop := ∃ A c rows, v = .slice A xs.length c ∧ xs.length ≤ c ∧ c ≤ maxLen ∧ (A = none → xs.length = 0 ∧ c = 0) ∧ Rd w w.heap.size A rows.flatten ∧ fB w xs rows
theorem jl.gr {w w' : World} {v : Value} {x : Raw} (h : jl w v x) (hg : Gr w w') : jl w' v x := by
 obtain ⟨cs, h1, h2⟩ := h
 exact ⟨cs, h1, h2.gr hg⟩
theorem pO.gr {w w' : World} {v : Value} {xs : List Raw} (h : pO w v xs) (hg : Gr w w') : pO w' v xs := by
 obtain ⟨A, c, rows, h1, h2, h3, h4, h5, h6⟩ := h
 exact ⟨A, c, rows, h1, h2, h3, h4, h5.gr hg, h6.gr hg⟩
theorem eX {w : World} {v : Value} {b : Bool} {bs : List UInt8} {xs : List Raw} (h : jl w v (.mk b bs xs)) : ∃ vb vl, v = .agg #[.bool b, vb, vl] ∧ IsB w vb bs ∧ pO w vl xs := by
 obtain ⟨cs, rfl, h⟩ := h
 rw [jW.eq] at h
 obtain ⟨vb, A, c, rows, rfl, h2, h3, h4, h5, h6, h7⟩ := h
 exact ⟨vb, _, rfl, h2, A, c, rows, rfl, h3, h4, h5, h6, h7⟩
theorem pO.nil (w : World) : pO w (.slice none 0 0) [] := ⟨none, 0, [], rfl, Nat.le_refl _, by simp [maxLen], fun _ => ⟨rfl, rfl⟩, Rd.nil, by rw [fB.nil_eq]⟩
theorem uH {w : World} {A : Option Addr} {xs : List Raw} {rows : List (List Value)} (hr : Rd w w.heap.size A rows.flatten) (h : fB w xs rows) (k : Nat) (hk : k < xs.length) :
  ∃ bl o f vb vl, A = some ⟨bl, o, none⟩ ∧ bl < w.heap.size ∧ w.cell? ⟨bl, o + k * 3, none⟩ = some (.bool f) ∧ w.cell? ⟨bl, o + k * 3 + 1, none⟩ = some vb ∧ w.cell? ⟨bl, o + k * 3 + 2, none⟩ = some vl ∧
   jl w (.agg #[.bool f, vb, vl]) xs[k] ∧ (∃ A' n c, vb = .slice A' n c) ∧ (∃ A' n c, vl = .slice A' n c) := by
 obtain ⟨cs, h1, h2⟩ := fB.get xs rows h k hk
 obtain ⟨f, vb, A', n, c, rfl⟩ := h1.len
 have hvb : ∃ A' n c, vb = .slice A' n c := by
  have h3 := h1
  generalize xs[k] = x at h3
  obtain ⟨b', bs', xs'⟩ := x
  rw [jW.eq] at h3
  obtain ⟨vb', A2, c2, rows2, h4, h5, _⟩ := h3
  simp only [Zn] at h4
  obtain ⟨A3, c3, h6, _⟩ := h5
  exact ⟨_, _, _, h4.2.1.trans h6⟩
 have hne : rows.flatten ≠ [] := fun e => by
  have := h2 0 _ rfl
  rw [e] at this
  simp at this
 obtain ⟨bl, o, rfl, hb, hc⟩ := hr hne
 exact ⟨bl, o, f, vb, .slice A' n c, rfl, hb, hc _ _ (h2 0 _ rfl), hc _ _ (h2 1 _ rfl), hc _ _ (h2 2 _ rfl), ⟨_, rfl, h1⟩, hvb, A', n, c, rfl⟩
@[go_sem] theorem V8 (v : Value) (w : World) : (Instr.typeAssert (.iface 38 v) 275 38 true).run Tryz.prog w = .ok (.tuple #[v, .bool true]) w := by kernel_rfl
@[go_sem] theorem TN (v : Value) (w : World) : (Instr.typeAssert (.iface 136 v) 275 38 true).run Tryz.prog w = .ok (.tuple #[.slice none 0 0, .bool false]) w := by kernel_rfl
@[go_sem] theorem V7 (v : Value) (w : World) : (Instr.typeAssert (.iface 136 v) 275 136 true).run Tryz.prog w = .ok (.tuple #[v, .bool true]) w := by kernel_rfl
def NR (w : World) (v : Value) : Raw → Prop
 | .mk false bs _ => ∃ vb, v = .iface 38 vb ∧ IsB w vb bs
 | .mk true _ xs => ∃ vl, v = .iface 136 vl ∧ pO w vl xs
theorem NR.gr {w w' : World} {v : Value} {x : Raw} (h : NR w v x) (hg : Gr w w') : NR w' v x := by
 obtain ⟨b, bs, xs⟩ := x
 cases b
 ·
  obtain ⟨vb, h1, h2⟩ := h
  exact ⟨vb, h1, h2.gr hg⟩
 ·
  obtain ⟨vb, h1, h2⟩ := h
  exact ⟨vb, h1, h2.gr hg⟩
theorem yH (v : Value) (x : Raw) (w : World) (h : jl w v x) : Calls Tryz.prog 179 #[v] w (Ret (fun v w' => NR w' v x) w) := by
 obtain ⟨b, bs, xs⟩ := x
 obtain ⟨vb, vl, rfl, h1, h2⟩ := eX h
 have H1 := Lib.hid h1
 have H2 := Lib.hid h2
 clear h h1 h2
 cases b with
 | false =>
  go_enter Tryz.func179, Tryz.ntmps179
  go_wp2
  refine bodyPost_ret (results_tmp rfl _ _ _) rfl ?_
  exact ⟨_, rfl, au w _, _, rfl, H1.out.gr (au w _)⟩
 | true =>
  go_enter Tryz.func179, Tryz.ntmps179
  go_wp2
  refine bodyPost_ret (results_tmp rfl _ _ _) rfl ?_
  exact ⟨_, rfl, au w _, _, rfl, H2.out.gr (au w _)⟩
def jk (ok : Nat → Prop) (w : World) (v : Value) (x : Raw) : Prop := ∃ cs, v = .agg cs.toArray ∧ eU ok w x cs
theorem jk.mono {ok ok' : Nat → Prop} {w w' : World} {v : Value} {x : Raw} (h : jk ok w v x) (h1 : ∀ b, ok b → ok' b) (h2 : ∀ p : Addr, ok p.block → w'.cell? p = w.cell? p) : jk ok' w' v x := by
 obtain ⟨cs, e, h⟩ := h
 exact ⟨cs, e, eU.mono h1 h2 x cs h⟩
theorem jk.is {ok : Nat → Prop} {w : World} {v : Value} {x : Raw} (h : jk ok w v x) (h1 : ∀ b, ok b → b < w.heap.size) : jl w v x := h.mono h1 fun _ _ => rfl
theorem fZ {ok : Nat → Prop} {w : World} {vb : Value} {l : List UInt8} (h : wC ok w vb l) : jk ok w (.agg #[.bool false, vb, .slice none 0 0]) (.mk false l []) := by
 refine ⟨[.bool false, vb, .slice none 0 0], rfl, ?_⟩
 rw [eU]
 exact ⟨vb, none, 0, [], rfl, h, Nat.le_refl _, by simp [maxLen], fun _ => ⟨rfl, rfl⟩, fun hn => absurd rfl hn, by rw [bF]⟩
theorem jF : SlT Tryz.prog 136 138 3 56 :=
 ⟨Tryz.underlying136, by
  have h : (Tryz.prog.info? 138).map (fun i => (i.zero, i.size, i.bytes)) = some (some (.agg #[.bool false, .slice none 0 0, .slice none 0 0]), 3, 56) := by kernel_rfl
  obtain ⟨i, hi, hz, h1, h2⟩ := info_parts h
  exact ⟨i, _, hi, hz, h1, h2, rfl⟩, by omega⟩
end Go.Proofs.YtelbhdobjdnglaaGreat
namespace Go.Proofs.YtelbhdobjdnglaaGreat
set_option linter.unusedVariables false
open Go.RowKit Mono Rlp
namespace E
mutual
def aX : Raw → D
 | .mk b bs xs => .tup [.v (.bool b), .bs bs, .sl 3 (bG xs)]
def bG : List Raw → List D
 | [] => []
 | x :: xs => aX x :: bG xs
end
theorem gJ : ∀ xs : List Raw, bG xs = xs.map aX
 | [] => rfl
 | x :: xs => by rw [bG, Xm, gJ xs]
theorem kK (xs : List Raw) : (bG xs).length = xs.length := by rw [gJ, WY]
section
variable {ok : Nat → Prop} {w : World}
theorem Je (x : Raw) : (aX x).size = 3 := by
 obtain ⟨b, bs, xs⟩ := x
 rw [aX]
 rfl
theorem NH (x : Raw) : (aX x).agg = true := by
 obtain ⟨b, bs, xs⟩ := x
 rw [aX]
 rfl
mutual
theorem oU : ∀ (x : Raw) (cs : List Value), Reads ok w (aX x) cs ↔ eU ok w x cs
 | .mk b bs xs, cs => by
  rw [aX, Reads, eU, dF]
  constructor
  ·
   rintro ⟨c1, c2, rfl, h1, h2⟩
   rw [dF] at h2
   obtain ⟨c3, c4, rfl, h3, h4⟩ := h2
   rw [dF] at h4
   obtain ⟨c5, c6, rfl, h5, h6⟩ := h4
   rw [dF] at h6
   subst h6
   rw [Reads] at h1
   rw [Reads] at h3
   rw [Reads] at h5
   obtain ⟨u, rfl, h3⟩ := h3
   obtain ⟨A, c, rows, rfl, g2, g3, g4, g5, g6⟩ := h5
   rw [h1.2]
   rw [kK] at *
   exact ⟨u, A, c, rows, rfl, h3, g2, g3, g4, g5, (mO xs rows).1 g6⟩
  ·
   rintro ⟨vb, A, c, rows, rfl, g1, g2, g3, g4, g5, g6⟩
   refine ⟨[.bool b], [vb, .slice A xs.length c], rfl, by rw [Reads]; exact ⟨rfl, rfl⟩, ?_⟩
   rw [dF]
   refine ⟨[vb], [.slice A xs.length c], rfl, by rw [Reads]; exact ⟨vb, rfl, g1⟩, ?_⟩
   rw [dF]
   refine ⟨[.slice A xs.length c], [], rfl, ?_, by rw [dF]⟩
   rw [Reads, kK]
   exact ⟨A, c, rows, rfl, g2, g3, g4, g5, (mO xs rows).2 g6⟩
theorem mO : ∀ (xs : List Raw) (rows : List (List Value)), ay ok w 3 (bG xs) rows ↔ bF ok w xs rows
 | [], rows => by rw [bG, ay, bF]
 | x :: xs, rows => by
  rw [bG, ay, bF]
  constructor
  ·
   rintro ⟨r, rest, rfl, h1, h2, h3⟩
   exact ⟨r, rest, rfl, (oU x r).1 h2, (mO xs rest).1 h3⟩
  ·
   rintro ⟨r, rest, rfl, h2, h3⟩
   have h4 := (oU x r).2 h2
   exact ⟨r, rest, rfl, by rw [Reads.len _ _ h4, Je], h4, (mO xs rest).2 h3⟩
end
theorem sZ {x : Raw} {v : Value} : bW ok w (aX x) v ↔ jk ok w v x := by
 rw [nZ (NH x)]
 constructor
 ·
  rintro ⟨cs, h, rfl⟩
  exact ⟨cs, rfl, (oU x cs).1 h⟩
 ·
  rintro ⟨cs, rfl, h⟩
  exact ⟨cs, (oU x cs).2 h, rfl⟩
theorem lI (hok : ∀ b, ok b → b < w.heap.size) {x : Raw} {v : Value} (h : bW ok w (aX x) v) : jl w v x := jk.is (sZ.1 h) hok
theorem Ez {d e : D} {x y : Value} (h1 : bW ok w d x) (h2 : bW ok w e y) : bU ok w (.tpl [d, e]) (.tuple #[x, y]) := ⟨[x, y], rfl, x, [y], rfl, h1, y, [], rfl, h2, rfl⟩
end
def qG (o : Option (List UInt8)) : R := match o with
 | some b => .tpl [.bs b, .v (.int .i64 0)]
 | none => .tpl [.v (.slice none 0 0), .v (.int .i64 3)]
theorem y8 {ok : Nat → Prop} {w w' : World} (b : Nat) (h : w.heap.size ≤ b ∧ b < w'.heap.size) : (ok b ∨ w.heap.size ≤ b) ∧ b < w'.heap.size := ⟨.inr h.1, h.2⟩
end E
end Go.Proofs.YtelbhdobjdnglaaGreat
