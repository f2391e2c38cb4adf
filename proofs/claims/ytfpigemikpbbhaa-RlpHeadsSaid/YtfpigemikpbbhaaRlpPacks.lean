/-
  RlpPacks: every item's bytes, and that they are read as it.
  Conditions: none.
-/
import Derived.Test.YtfpigemikpbbhaaLawSize
import Derived.Test.YtfpigemikpbbhaaRlpOne
namespace Go.Proofs.Ytfpigemikpbbhaa
set_option linter.unusedVariables false
open Go.RowKit Mono Rlp

theorem cells3 {w : World} {g : Nat} {a b c : Value} {T : TypeId} (h : w.heap[g]? = some (.cells #[a, b, c] T (0, 0))) : w.cell? ⟨g, 0, none⟩ = some a ∧ w.cell? ⟨g, 1, none⟩ = some b ∧ w.cell? ⟨g, 2, none⟩ = some c :=
  ⟨by rw [cell_of_row _ _ _ _ _ (0, 0) h]; rfl, by rw [cell_of_row _ _ _ _ _ (0, 0) h]; rfl, by rw [cell_of_row _ _ _ _ _ (0, 0) h]; rfl⟩
theorem readE_of {r : Raw} {b : List UInt8} (h : packed r = some b) : readE b = 0 ∧ readX b = norm r := by
  unfold readE readX
  rw [readR_of h]
  exact ⟨rfl, rfl⟩

set_option maxRecDepth 20000 in
set_option maxHeartbeats 4000000 in
theorem packs_all (v : Value) (x : Raw) (w : World) (h : IsItem w v x) : Calls Try.prog 11 #[v] w (Ret (eqV (.bool true)) w) := by
  have HX := Lib.hid h
  obtain ⟨lx, bx, xs⟩ := x
  obtain ⟨vb1, vl1, rfl, ⟨A0, c0, rfl, hc0, hm0, _⟩, A1, c1, rows1, rfl, hc1, hm1, _⟩ := isItem_form h
  unfold maxLen at hm0 hm1
  generalize bx.length = n0 at HX hc0 ⊢
  generalize xs.length = n1 at HX hc1 ⊢
  clear h
  generalize Raw.mk lx bx xs = x at HX ⊢
  go_enter Try.func11, Try.ntmps11
  go_wp2_with fail
  refine (rlp_alive _).mono ?_
  rintro e w1 ⟨_, rfl, hg1, rfl⟩
  have hr1 : w1.heap[w.heap.size]? = some (.cells #[.bool lx, .slice A0 n0 c0, .slice A1 n1 c1] 45 (0, 0)) := (hg1.block _ (by simp)).trans (heap_alloc_new w _)
  have HG1 := Lib.hid ((gr_alloc w _).trans hg1)
  have hs1 := hg1.size
  simp only [size_new] at hs1
  obtain ⟨q0, q1, q2⟩ := cells3 hr1
  clear hg1
  go_wp2_with fail
  refine (law_big x _ _ (HX.out.gr HG1.out)).mono ?_
  rintro e w2 ⟨_, rfl, hg2, rfl⟩
  have hr2 := (hg2.block _ (by omega)).trans hr1
  have HG2 := Lib.hid (HG1.out.trans hg2)
  have hs2 := hg2.size
  clear q0 q1 q2 hr1
  obtain ⟨q0, q1, q2⟩ := cells3 hr2
  clear hg2 HG1
  cases bigR x with
  | true =>
    go_wp2_with fail
    refine bodyPost_ret (results_tmp rfl _ _ _) rfl ⟨_, rfl, HG2.out, ?_⟩
    simp [eqV]
  | false =>
    go_wp2_with fail
    refine (rlp_pack _ x _ (HX.out.gr HG2.out)).mono ?_
    rintro e w3 ⟨v3, rfl, hg3, hv3⟩
    have hr3 := (hg3.block _ (by omega)).trans hr2
    have HG3 := Lib.hid (HG2.out.trans hg3)
    have hs3 := hg3.size
    clear q0 q1 q2 hr2
    obtain ⟨q0, q1, q2⟩ := cells3 hr3
    clear hg3
    cases hp : packed x with
    | none =>
      obtain rfl := packV_none hp hv3
      clear hv3
      go_wp2_with fail
      refine (ref_Pack _ x _ (HX.out.gr HG3.out)).mono ?_
      rintro e w4 ⟨v4, rfl, hg4, hv4⟩
      obtain rfl := packV2_none hp hv4
      have HG4 := Lib.hid (HG3.out.trans hg4)
      have k1 := conv_bytes (IsB.nil w4)
      clear hg4 hv4 q0 q1 q2 hr3 hp
      go_wp2_with (go_at_call 34; refine (law_num _ _).mono ?_; rintro e w' ⟨rfl, rfl⟩)
      refine bodyPost_ret (results_tmp rfl _ _ _) rfl ⟨_, rfl, HG4.out, ?_⟩
      simp [eqV]
    | some b =>
      obtain ⟨vb3, rfl, ho3⟩ := packV_some hp hv3
      have hlen := (packed_le hp).2
      have HRE := Lib.hid (readE_of hp)
      have HPOS : Hid (0 < b.length) := Lib.hid (by rw [(packed_le hp).1]; exact E_pos x)
      obtain ⟨A3, c3, rfl, hd1, hd2⟩ := own_form ho3
      unfold maxLen at hd2
      have HO3 := Lib.hid ho3
      clear hv3 ho3
      go_wp2_with fail
      refine (ref_Pack _ x _ (HX.out.gr HG3.out)).mono ?_
      rintro e w4 ⟨v4, rfl, hg4, hv4⟩
      obtain ⟨vb4, rfl, ho4⟩ := packV2_some hp hv4
      have hr4 := (hg4.block _ (by omega)).trans hr3
      have HO4 := Lib.hid (own_gr HO3.out hg4)
      have HG4 := Lib.hid (HG3.out.trans hg4)
      have hs4 := hg4.size
      have k1 := conv_bytes (OwnB.isB HO4.out)
      have k2 := conv_bytes ho4
      obtain ⟨A4, c4, rfl, hf1, hf2, _⟩ := ho4
      unfold maxLen at hf2
      simp only [most] at hlen
      clear hg4 hv4 q0 q1 q2 hr3 hp
      go_wp2_with (go_at_call 34; refine (law_num _ _).mono ?_; rintro e w4 ⟨rfl, rfl⟩)
      refine (rlp_Read _ b _ (OwnB.isB HO4.out)).mono ?_
      rintro e w5 ⟨v5, rfl, hg5, hv5⟩
      obtain ⟨vi5, rfl, hi5⟩ := readV_both hv5
      have hre := HRE.out
      rw [hre.2] at hi5
      rw [hre.1]
      clear hre
      have hpos : 0 < b.length := HPOS.out
      obtain ⟨cs5, rfl, hat5⟩ := hi5
      obtain ⟨f5, A5, n5, c5, A6, n6, c6, rfl⟩ := hat5.len
      obtain ⟨g, rfl, hgb, hgl⟩ := own_some HO4.out hpos
      have hs5 := hg5.size
      have HO5 := Lib.hid (own_gr (own_gr HO4.out hg5) (gr_alloc w5 (.cells #[.bool f5, .slice A5 n5 c5, .slice A6 n6 c6] 45)))
      have HG5 := Lib.hid ((HG4.out.trans hg5).trans (gr_alloc w5 (.cells #[.bool f5, .slice A5 n5 c5, .slice A6 n6 c6] 45)))
      have hr5 : (w5.alloc (.cells #[.bool f5, .slice A5 n5 c5, .slice A6 n6 c6] 45)).heap[w.heap.size]? = _ := (heap_old _ _ _ (by omega)).trans ((hg5.block _ (by omega)).trans hr4)
      have hx5 : (w5.alloc (.cells #[.bool f5, .slice A5 n5 c5, .slice A6 n6 c6] 45)).heap[w5.heap.size]? = _ := heap_alloc_new w5 _
      have HAT := Lib.hid hat5
      clear hg5 hv5 hat5 k1 k2 HRE hr4 HO4 HG4 HO3 HG3
      go_wp2_with fail
      go_loopw [11] (fun i wr => ∃ (k : Nat) (m : List UInt8), k ≤ b.length ∧ i = .int .i64 k ∧ m.length = b.length ∧ wr.ownsRow w2.heap.size 5 1 (.slice (some ⟨g, 0, none⟩) b.length c3) b.length (bvs m) ∧ wr.heap.size = w5.heap.size + 1 ∧ Gr w wr ∧ ∀ j, j ≠ g → wr.heap[j]? = (w5.alloc (.cells #[.bool f5, .slice A5 n5 c5, .slice A6 n6 c6] 45)).heap[j]?) (fun i _ => b.length - (intOf i).toNat)
      case atStart => exact ⟨0, b, by omega, rfl, rfl, HO5.out, by simp, HG5.out, fun j _ => rfl⟩
      case round =>
        obtain ⟨k, m, hk, rfl, hml, hom, hsz, hgw, hfar⟩ := hrel
        have HOM := Lib.hid hom
        have HGW := Lib.hid hgw
        have HFAR := Lib.hid hfar
        clear hom hgw hfar
        have hrw : wr.heap[w.heap.size]? = some (.cells #[.bool lx, .slice A0 n0 c0, .slice A1 n1 c1] 45 (0, 0)) := (HFAR.out _ (by omega)).trans hr5
        have hry : wr.heap[w5.heap.size]? = some (.cells #[.bool f5, .slice A5 n5 c5, .slice A6 n6 c6] 45 (0, 0)) := (HFAR.out _ (by omega)).trans hx5
        by_cases h1 : k < b.length
        · have hkm : k < m.length := by omega
          have hbl := bv_lt m[k]
          have e1 := HOM.out.cellAt k (by omega)
          rw [bvs_at m _ hkm] at e1
          unfold bv at e1
          have f2 := HOM.out.frozenAt k
          go_wp2_with fail
          go_roundw
          case rel =>
            have hst := HOM.out.stored k (bv (m[k] ^^^ 255))
            rw [bvs_set] at hst
            have hx : (.int .u8 (bits .xor .u8 (m[k].toNat : Int) 255) : Value) = bv (m[k] ^^^ 255) := by
              have := xor_u8 m[k] 255
              unfold bv
              rw [← this]
              rfl
            rw [hx]
            refine ⟨k + 1, m.set k (m[k] ^^^ 255), by omega, by go_num, by rw [List.length_set, hml], hst.1, ?_, HGW.out.setCell (by simp; omega) _, fun j hj => ?_⟩
            · rw [← hsz]
              simp [World.setCell]
            · rw [← HFAR.out j hj]
              exact Below.heap_setCell _ _ _ _ (by simpa using hj)
          case measure => simp [intOf]; omega
        · have h2 : b.length ≤ k := by omega
          obtain ⟨q0, q1, q2⟩ := cells3 hrw
          obtain ⟨p0, p1, p2⟩ := cells3 hry
          have HN : Hid (IsItem wr (.agg #[.bool f5, .slice A5 n5 c5, .slice A6 n6 c6]) (norm x)) := by
            refine Lib.hid ⟨_, rfl, ItemAtP.mono (ok := fun j => w4.heap.size ≤ j ∧ j < w5.heap.size) (fun j hj => by have := hj.2; rw [hsz]; omega) (fun p hp => ?_) _ _ HAT.out⟩
            exact World.cell?_of_block ((HFAR.out _ (by have := hp.1; omega)).trans (heap_old _ _ _ hp.2))
          clear h1 hrw hry
          go_wp2_with (go_at_call 34; refine (law_num _ _).mono ?_; rintro e wr ⟨rfl, rfl⟩)
          refine (same_any (norm x) x _ _ _ HN.out (HX.out.gr HGW.out)).mono ?_
          rintro e w7 ⟨_, rfl, hg7, rfl⟩
          have HG7 := Lib.hid (HGW.out.trans hg7)
          rw [same_norm]
          clear hg7 q0 q1 q2 p0 p1 p2
          go_wp2_with fail
          refine bodyPost_ret (results_tmp rfl _ _ _) rfl ⟨_, rfl, HG7.out, ?_⟩
          simp [eqV]
end Go.Proofs.Ytfpigemikpbbhaa
