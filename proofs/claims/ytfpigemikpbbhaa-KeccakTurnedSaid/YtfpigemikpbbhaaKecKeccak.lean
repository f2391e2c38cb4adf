/-
  The reference's Keccak.
  Conditions: the bytes are at most 2^40.
-/
import Derived.Test.YtfpigemikpbbhaaKecRef
import Derived.Test.YtfpigemikpbbhaaKecSum
namespace Go.Proofs.Ytfpigemikpbbhaa
open Go.RowKit Mono
open Kec (L St rotl Same)

theorem u8_or128 (z : UInt8) : bits .or .u8 (z.toNat : Int) 128 = ((z ||| 128).toNat : Int) := by
  have h : ∀ q : BitVec 8, bits .or .u8 (q.toNat : Int) 128 = ((q ||| 128).toNat : Int) := by decide +kernel
  exact h z.toBitVec
theorem and_val (f : St) (k : Nat) : Value.int .u8 (bits .and .u64 (u (f (k / 8)) / 2 ^ (8 * (k % 8))) 255 % 256) = outV f k := by
  have h : (255 : Int) = u 255 := rfl
  rw [u_shr, h, u_and]
  unfold outV u
  rw [BitVec.toNat_and]
  have h2 : ((255 : L).toNat) = 2 ^ 8 - 1 := rfl
  rw [h2, Nat.and_two_pow_sub_one_eq_mod]
  congr 1
  omega
theorem outC_same {a b : St} (h : Same a b) : outC a 32 = outC b 32 := by
  unfold outC
  congr 1
  refine List.map_congr_left fun k hk => ?_
  have := List.mem_range.1 hk
  unfold outV
  rw [h _ (by omega)]
set_option maxRecDepth 20000 in
set_option maxHeartbeats 1000000 in
theorem ref_keccak (v : Value) (l : List UInt8) (w : World) (h : IsB w v l) (hlen : l.length ≤ 1099511627776) : Calls Try.prog 29 #[v] w (Ret (eqV (arrV (hash l))) w) := by
  obtain ⟨A, c, rfl, hl1, hl2, hA⟩ := h
  clear hl1 hl2
  have HA := Lib.hid hA
  clear hA
  go_enter Try.func29, Try.ntmps29
  go_wp2_with first
    | (at_builtin; refine wpL_append (.const (.slice none 0 0)) (.tmp 11) 22 slT_bytes (base := w.heap.size + 1) _ 0 [] A l.length c w.heap.size (bvs l) rfl rfl rfl rfl (OwnB.nil _ _) ((HA.out.below (Below.alloc (Below.refl _ _) (Nat.le_refl _) _))) (by simp [bvs]) (bvs_one _) (by simp only [maxLen]; omega) (by simp; omega) (by simp) ?_; intro A2 c2 w2 hown2 hg2 _; simp only [Nat.zero_add, List.nil_append] at hown2; have hz2 := hg2.size; simp only [alloc_len] at hz2; have HO2 := Lib.hid hown2; have HG2 := Lib.hid hg2; clear hown2 hg2; rw [Nat.zero_add])
    | (at_builtin; refine wpL_append (.tmp 12) (.tmp 13) 22 slT_bytes (base := w.heap.size + 1) _ l.length (bvs l) _ 1 1 (w2.heap.size + 1) [.int .u8 1] rfl rfl rfl rfl (HO2.out.alloc _) (Rd.new _ _ _) rfl (by simp [Value.oneCell']) (by simp only [maxLen]; omega) (by omega) (by simp; omega) ?_; intro A3 c3 w3 hown3 hg3 _)
  obtain ⟨w0, hw0⟩ : ∃ w0 : World, w0 = w.alloc (.cells (outC (fun _ => 0) 0) 36) := ⟨_, rfl⟩
  have hz0 : w0.heap.size = w.heap.size + 1 := by rw [hw0]; simp
  have HB3 : Hid (Below (w.heap.size + 1) w0 w3) := by
    refine Lib.hid ((((Below.refl _ w0).grown (B := w.heap.size + 1) (by rw [hw0]; exact HG2.out) (by omega) (fun j hj => by cases hj)).alloc (by omega) _).grown hg3 (by simp; omega) fun j hj => own_block_ge HO2.out j hj)
  have HO3 : Hid (OwnB w3 (w.heap.size + 1) (.slice A3 (l.length + 1) c3) (zeros l 0)) := by
    refine Lib.hid ?_
    have := zeros_length l 0
    exact ownB_of hown3 (by simp [zeros, bvs, bv])
  have HW0 := Lib.hid hw0
  clear hw0 hown3 hg3 HO2 HG2
  go_loopw [3] (fun v wr => ∃ n : Nat, n ≤ 135 - l.length % 136 ∧ OwnB wr (w.heap.size + 1) v (zeros l n) ∧ Below (w.heap.size + 1) w0 wr) (fun v _ => match v with | .slice _ n _ => l.length + 136 - n | _ => 0)
  case atStart => exact ⟨0, by omega, HO3.out, HB3.out⟩
  case round =>
    clear HO3 HB3
    obtain ⟨n, hn, hown, hb⟩ := hrel
    obtain ⟨A', c', rfl, hc1, hc2⟩ := own_form hown
    have hN := zeros_length l n
    have hbs := hb.size
    unfold OwnB at hown
    rw [hN] at hown hc1 ⊢
    have HO := Lib.hid hown
    have HB := Lib.hid hb
    have HN := Lib.hid hN
    clear hown hb hN
    unfold maxLen at hc2
    by_cases h1 : (l.length + 1 + n) % 136 = 0
    · have hn2 := Lib.hid (show n = 135 - l.length % 136 by omega)
      have hm := Lib.hid (show (l.length + 1 + n) % 136 = 0 from h1)
      obtain ⟨g, cp, cur, hv, hg1, hgh, _⟩ := HO.out.2.resolve_left (fun h => by have := h.2; omega)
      have hg2 := lt_of_some hgh
      clear hgh
      injection hv with hA' _ _
      subst hA'
      have e1 := HO.out.cellAt (l.length + n) (by omega)
      have e2 := HO.out.frozenAt (l.length + n)
      have hz : (zeros l n)[l.length + n]? = some ((zeros l n).getD (l.length + n) 0) := by
        have := HN.out
        rw [List.getD_eq_getElem?_getD, List.getElem?_eq_getElem (by omega)]
        rfl
      have hzz : (bvs (zeros l n))[l.length + n]? = some (bv ((zeros l n).getD (l.length + n) 0)) := by simp only [bvs, List.getElem?_map, hz, Option.map_some]
      rw [hzz] at e1
      have HZ := Lib.hid (HO.out.stored (l.length + n) (bv ((zeros l n).getD (l.length + n) 0 ||| 128)))
      have hs := zeros_set l n hn2.out
      rw [HN.out, show l.length + 1 + n - 1 = l.length + n by omega] at hs
      have HS := Lib.hid hs
      have HR := Lib.hid (u8_or128 ((zeros l n).getD (l.length + n) 0))
      clear hz hzz hs
      generalize (zeros l n).getD (l.length + n) 0 = z at e1 HZ HS HR
      unfold bv at e1
      have hzl := bv_lt z
      go_wp2_with fail
      obtain ⟨wL, hwL⟩ : ∃ wL : World, wL = (wr.setCell ⟨g, l.length + n, none⟩ (.int .u8 (bits .or .u8 (z.toNat : Int) 128))).alloc (.cells (cellsOf (fun _ => 0) 25) 74) := ⟨_, rfl⟩
      obtain ⟨m, hm0⟩ : ∃ m : List UInt8, m = l ++ pad (l.length % 136) := ⟨_, rfl⟩
      have hml : m.length = l.length + 1 + n := by
        rw [hm0, ← HS.out, List.length_set, HN.out]
      obtain ⟨J, hJ⟩ : ∃ J : Nat, 136 * J = l.length + 1 + n := ⟨(l.length + 1 + n) / 136, by have := hm.out; omega⟩
      have hsz : wL.heap.size = wr.heap.size + 1 := by rw [hwL]; simp
      have HL0 : Hid (Lanes wL wr.heap.size 74 25 (fun _ => 0)) := by
        refine Lib.hid ?_
        have := lanes_new (wr.setCell ⟨g, l.length + n, none⟩ (.int .u8 (bits .or .u8 (z.toNat : Int) 128))) 74 25 _ rfl
        rw [hwL]
        simpa using this
      have HRm : Hid (Rd wL wr.heap.size (some ⟨g, 0, none⟩) (bvs m)) := by
        refine Lib.hid ?_
        have h1 := Rd.of_own HZ.out.1
        rw [bvs_set, HS.out, ← hm0] at h1
        have h2 : wr.heap.size = (wr.setCell ⟨g, l.length + n, none⟩ (bv (z ||| 128))).heap.size := by simp
        rw [h2, hwL, HR.out]
        exact h1.below ((Below.refl _ _).alloc (Nat.le_refl _) _)
      have HBL : Hid (Below (w.heap.size + 1) w0 wL) := by
        refine Lib.hid ?_
        rw [hwL]
        exact (HB.out.setCell hg1 _).alloc (by simp; omega) _
      have HS2 := Lib.hid (sponge_same l m J hm0 (by omega))
      have HwL := Lib.hid hwL
      have HJ := Lib.hid hJ
      have HML := Lib.hid hml
      have hJ1 : 136 * J ≤ l.length + 1 + n := by omega
      have hJ2 : l.length + 1 + n ≤ 136 * J := by omega
      have hn3 : n ≤ 135 := by omega
      clear hwL hm0 hml hJ HZ HS HR e1 e2 HB HO
      obtain ⟨wp, rfl⟩ : ∃ wp : World, wp = wr := ⟨_, rfl⟩
      go_loopw [5] (fun i wx => ∃ j : Nat, j ≤ J ∧ i = .int .i64 (136 * (j : Int)) ∧ Lanes wx wp.heap.size 74 25 (rabs m j) ∧ Below wp.heap.size wL wx) (fun i _ => l.length + 136 - (intOf i).toNat)
      case atStart => exact ⟨0, by omega, rfl, by have := HL0.out; rw [HwL.out] at this; exact this, by rw [HwL.out]; exact Below.refl _ _⟩
      case round =>
        clear HL0
        obtain ⟨j, hj, rfl, hl, hb⟩ := hrel
        have HL := Lib.hid hl
        have HB := Lib.hid hb
        have hbs := hb.size
        clear hl hb
        by_cases h2 : j < J
        · have hj2 : 136 * j + 136 ≤ l.length + 1 + n := by omega
          have hd : decide ((136 * (j : Int)) < (l.length : Int) + 1 + (n : Int)) = true := by simp; omega
          go_wp2_with fail
          clear hd
          obtain ⟨wo, rfl⟩ : ∃ wo : World, wo = wr := ⟨_, rfl⟩
          go_loopw [6] (fun i wx => ∃ k : Nat, k ≤ 136 ∧ i = .int .i64 k ∧ Lanes wx wp.heap.size 74 25 (rtake (fun i => (m.getD (136 * j + i) 0).toNat) (rabs m j) k) ∧ Below wp.heap.size wo wx) (fun i _ => 136 - (intOf i).toNat)
          case atStart => exact ⟨0, by omega, rfl, HL.out, Below.refl _ _⟩
          case round =>
            clear HL
            obtain ⟨k, hk, rfl, hl, hb⟩ := hrel
            have HL := Lib.hid hl
            have HP := Lib.hid hb
            have hps := hb.size
            clear hl hb
            by_cases h3 : k < 136
            · have hkm : 136 * j + k < m.length := by have := HML.out; omega
              have hrm := (HRm.out.below HB.out).below HP.out
              obtain ⟨b2, o2, he2, hb2, hc2⟩ := isB_at hrm (136 * j + k) hkm
              injection he2 with he2
              injection he2 with he2 he3
              subst he2 he3
              have hgetD : m.getD (136 * j + k) 0 = m[136 * j + k] := by simp [hkm]
              rw [← hgetD, Nat.zero_add] at hc2
              clear hgetD hrm
              have HR : Hid (rtake (fun i => (m.getD (136 * j + i) 0).toNat) (rabs m j) (k + 1) = takeB (rtake (fun i => (m.getD (136 * j + i) 0).toNat) (rabs m j) k) k (m.getD (136 * j + k) 0).toNat) := Lib.hid rfl
              generalize rtake (fun i => (m.getD (136 * j + i) 0).toNat) (rabs m j) k = s at HL HR
              have hzl := bv_lt (m.getD (136 * j + k) 0)
              generalize m.getD (136 * j + k) 0 = z2 at hc2 HR hzl
              have d1 := later_cell (w := wr) (p := ⟨wp.heap.size, k / 8, none⟩) (by have := HL.out.lt; exact this) (HL.out.cell (k / 8) (by omega))
              have d2 := later_cell (w := wr) (p := ⟨g, 136 * j + k, none⟩) (by dsimp only; omega) hc2
              clear hc2
              unfold lv at d1
              have hu := u_range (s (k / 8))
              have hu0 := hu.1
              clear hu
              go_wp2_with fail
              refine wp_region_N 20 (by kernel_rfl) (by kernel_rfl) (by kernel_rfl) ?_
              simp only [List.take_succ_cons, List.take_zero, List.drop_succ_cons, List.drop_zero]
              refine wpN_quiet 20 (by kernel_rfl) ?_
              simp only [List.take_succ_cons, List.take_zero, List.drop_succ_cons, List.drop_zero]
              repeat (go_big_quiet_step (fail))
              refine wpQuiet_nil ?_
              refine wpN_nil (by kernel_rfl) ?_
              intro W hW
              replace hW := hW.gr
              unfold finN
              have HW := Lib.hid (HL.out.gr hW)
              have e1 := HW.out.cell (k / 8) (by omega)
              have e2 := HW.out.frozen (k / 8)
              unfold lv at e1
              go_wp2_with fail
              go_roundw
              case rel =>
                have hv : Value.int .u64 (bits .xor .u64 (u (s (k / 8))) (IntKind.u64.wrap ((z2.toNat : Int) * 2 ^ (k % 8 * 8)))) = lv (s (k / 8) ^^^ (BitVec.ofNat 64 z2.toNat) <<< (8 * (k % 8))) := by
                  rw [← u_byte z2.toNat hzl, u_shl, u_xor, Nat.mul_comm (k % 8) 8]
                  rfl
                rw [hv]
                refine ⟨k + 1, by omega, by go_num, ?_, ?_⟩
                · rw [HR.out]
                  exact HW.out.set _ _
                · exact (HP.out.trans (hW.mono (by omega))).setCell (Nat.le_refl _) _
              case measure => simp [intOf]; omega
            · have h5 : k = 136 := by omega
              rw [h5] at HL
              have h6 : 136 ≤ k := by omega
              clear h5 h3
              go_wp2_with fail
              obtain ⟨wq, rfl⟩ : ∃ wq : World, wq = wr := ⟨_, rfl⟩
              go_loopw [8] (fun i wx => ∃ k : Nat, k ≤ 24 ∧ i = .int .i64 k ∧ Lanes wx wp.heap.size 74 25 (Kec.rperm (rtake (fun i => (m.getD (136 * j + i) 0).toNat) (rabs m j) 136) k) ∧ Reg wx wq.heap.size 5 (Kec.lfn 1 (7 * k)) ∧ Below wp.heap.size wo wx) (fun i _ => 24 - (intOf i).toNat)
              case atStart => exact ⟨0, by omega, rfl, HL.out.alloc _, heap_alloc_new wq _, HP.out.alloc (by omega) _⟩
              case round =>
                have hlt := HL.out.lt
                clear HL HP
                obtain ⟨k, hk, rfl, hl, hr, hb⟩ := hrel
                have HL := Lib.hid hl
                have HR := Lib.hid hr
                have HP := Lib.hid hb
                clear hl hr hb
                by_cases h3 : k < 24
                · have HA1 := Lib.hid (Kec.lfn_add 1 (7 * k) 7)
                  go_wp2_with fail
                  refine (ref_round wp.heap.size wq.heap.size 74 5 _ _ _ HL.out HR.out hlt).mono ?_
                  rintro e w3 ⟨rfl, hl3, hr3, hb3⟩
                  have HL3 := Lib.hid hl3
                  have HR3 := Lib.hid hr3
                  have HB3 := Lib.hid hb3
                  clear hl3 hr3 hb3
                  go_wp2_with fail
                  go_roundw
                  case rel => exact ⟨k + 1, by omega, by go_num, HL3.out, by rw [Nat.mul_succ, HA1.out]; exact HR3.out, HP.out.trans HB3.out⟩
                  case measure => simp [intOf]; omega
                · have h5 : k = 24 := by omega
                  rw [h5] at HL
                  have h6 : 24 ≤ k := by omega
                  clear h5 h3 HR
                  go_wp2_with fail
                  go_roundw
                  case rel => exact ⟨j + 1, by omega, by go_num, HL.out, HB.out.trans HP.out⟩
                  case measure => simp [intOf]; omega
        · have h5 : j = J := by omega
          have h6 : l.length + 1 + n ≤ 136 * j := by omega
          rw [h5] at HL
          have hd : decide ((136 * (j : Int)) < (l.length : Int) + 1 + (n : Int)) = false := by simp; omega
          clear h2 h5
          have HG : Hid (Below (w.heap.size + 1) w0 wr) := Lib.hid (HBL.out.trans (HB.out.mono (by omega)))
          have hgl := HL.out.lt
          clear HBL HB HRm
          go_wp2_with fail
          obtain ⟨wo, rfl⟩ : ∃ wo : World, wo = wr := ⟨_, rfl⟩
          go_loopw [10] (fun i wx => ∃ k : Nat, k ≤ 32 ∧ i = .int .i64 k ∧ Lanes wx wp.heap.size 74 25 (rabs m J) ∧ Out wx wo.heap.size (rabs m J) k ∧ Below (w.heap.size + 1) w0 wx) (fun i _ => 32 - (intOf i).toNat)
          case atStart => exact ⟨0, by omega, rfl, HL.out.alloc _, heap_alloc_new wo _, HG.out.alloc (by omega) _⟩
          case round =>
            clear HL HG
            obtain ⟨k, hk, rfl, hl, hw5, hb⟩ := hrel
            have HL := Lib.hid hl
            have HW := Lib.hid hw5
            have HB := Lib.hid hb
            clear hl hw5 hb
            by_cases h1 : k < 32
            · have c1 := HL.out.cell (k / 8) (by omega)
              have c2 := HW.out.cell h1
              have c3 := HW.out.frozen k
              unfold lv at c1
              have hu := u_range (rabs m J (k / 8))
              have hu0 := hu.1
              clear hu
              go_wp2_with fail
              go_roundw
              case rel =>
                refine ⟨k + 1, by omega, by go_num, HL.out.far (by dsimp only; omega) _, ?_, ?_⟩
                · have hv : Value.int .u8 (bits .and .u64 (u (rabs m J (k / 8)) / 2 ^ (k % 8 * 8)) 255 % 256) = outV (rabs m J) k := by
                    rw [Nat.mul_comm (k % 8) 8]
                    exact and_val _ _
                  rw [hv]
                  exact HW.out.set
                · exact HB.out.setCell (by dsimp only; omega) _
              case measure => simp [intOf]; omega
            · have h5 : k = 32 := by omega
              rw [h5] at HW
              have h6 : 32 ≤ k := by omega
              clear h5 h1
              have HC := HW.out
              unfold Out at HC
              have HOO : wr.heap[w.heap.size]? = some (.cells (outC (fun _ => 0) 0) 36 (0, 0)) := by
                rw [HB.out.block w.heap.size (by omega), HW0.out]
                exact heap_alloc_new w _
              go_wp2_with first
                | refine wpList_load_row rfl 36 (.tmp 9) rfl wo.heap.size rfl 36 (outC (rabs m J) 32) (0, 0) _ HC rfl rfl (outC_info _ _) ?_
                | refine wpList_store_row rfl 36 (.tmp 2) (.tmp 86) rfl w.heap.size (outC (rabs m J) 32) rfl rfl 36 _ HOO (outC_info _ _) (outC_size2 _ _ _ _) (outC_one _ _) ?_
              have HR : Hid (Value.agg (outC (rabs m J) 32) = arrV (hash l)) := by
                refine Lib.hid ?_
                rw [← outC_hash, outC_same HS2.out]
              have hg0 : Gr w wr := by
                have h1 : Gr w w0 := by rw [HW0.out]; exact gr_alloc w _
                exact h1.trans (HB.out.mono (by omega))
              exact bodyPost_ret (results_cell_row rfl _ _ w.heap.size 36 (outC (rabs m J) 32) (0, 0) _ rfl (heap_setRow_same _ _ _ _ _ HOO) rfl rfl (outC_info _ _)) rfl ⟨_, rfl, gr_setRow hg0 _ _ (Nat.le_refl _), HR.out⟩
    · have hn2 : n + 1 ≤ 135 - l.length % 136 := by omega
      go_wp2_with (at_builtin; refine wpL_append (.tmp 19) (.tmp 20) 22 slT_bytes (base := w.heap.size + 1) _ (l.length + 1 + n) (bvs (zeros l n)) _ 1 1 (wr.heap.size + 1) [.int .u8 0] rfl rfl rfl rfl (HO.out.alloc _) (Rd.new _ _ _) rfl (by simp [Value.oneCell']) (by simp only [maxLen]; omega) (by omega) (by simp; omega) ?_; intro A2 c2 w2 hown2 hg2 _)
      go_roundw
      case rel =>
        refine ⟨n + 1, by omega, ownB_of hown2 ?_, (HB.out.alloc (by omega) _).grown hg2 (by simp; omega) fun j hj => own_block_ge HO.out j hj⟩
        rw [← zeros_snoc, bvs_append]
        rfl
      case measure =>
        show l.length + 136 - (l.length + 1 + n + 1) < l.length + 136 - (l.length + 1 + n)
        omega
end Go.Proofs.Ytfpigemikpbbhaa
