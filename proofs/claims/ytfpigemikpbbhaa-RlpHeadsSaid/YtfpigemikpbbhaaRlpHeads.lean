/-
  RlpHeads: how many bytes stand ahead of how many.
  Conditions: none.
-/
import Derived.Test.YtfpigemikpbbhaaHeadsPlain
import Derived.Test.YtfpigemikpbbhaaRlpAlive
import Derived.Test.YtfpigemikpbbhaaRlpPacks
import Derived.Deep.DeepCutAuto
namespace Go.Proofs.Ytfpigemikpbbhaa
set_option linter.unusedVariables false
open Go.RowKit Mono Rlp

theorem fill_step (n k : Nat) (h : k < n) : (List.replicate k (200 : UInt8) ++ List.replicate (n - k) 0).set k 200 = List.replicate (k + 1) 200 ++ List.replicate (n - (k + 1)) 0 := by
  rw [show n - k = (n - (k + 1)) + 1 by omega, List.replicate_succ (n := n - (k + 1)), List.set_append_right _ _ (by simp)]
  simp [List.replicate_succ']
set_option maxRecDepth 20000 in
set_option maxHeartbeats 4000000 in
theorem heads_in (n : Nat) (lst : Bool) (w : World) (h : n ≤ 70000) : Calls Try.prog 15 #[.int .i64 n, .bool lst] w (Ret (eqV (.bool true)) w) := by
  go_enter Try.func15, Try.ntmps15
  go_wp2_with first
    | (go_at_call 31; refine (rlp_alive _).mono ?_; rintro e w1 ⟨_, rfl, hg1, rfl⟩; have HG1 := Lib.hid hg1; clear hg1)
    | (guard_target = wpList _ _ _ (Oper.mk _ (Op.makeSlice _ _ _) _ _ _ _ :: _) _ _; refine wpL_make_bytes (.tmp 28) w1.heap.size n rfl rfl rfl (by omega) (Nat.le_refl _) ?_; intro w2 ho2 hg2; have HO2 := Lib.hid ho2; have HG2 := Lib.hid (HG1.out.trans hg2); have hs2 := hg2.size; clear ho2 hg2)
  have hO2 := HO2.out
  unfold OwnB at hO2
  rw [List.length_replicate] at hO2
  have hg12 : w1.heap.size < w2.heap.size := by
    rcases hO2.2 with ⟨hv, _⟩ | ⟨g, cap, cur, hv, hb, hh, _⟩
    · injection hv with hv; cases hv
    · injection hv with hv
      injection hv with hv
      injection hv with hv
      subst hv
      exact lt_of_some hh
  have HO3 : Hid ((w2.alloc (.cells #[.bool false, .slice (some ⟨w1.heap.size, 0, none⟩) n n, .slice none 0 0] 45)).ownsRow w1.heap.size 5 1 (.slice (some ⟨w1.heap.size, 0, none⟩) n n) n (bvs (List.replicate 0 200 ++ List.replicate (n - 0) 0))) := Lib.hid (by simpa using hO2.alloc _)
  have HG3 := Lib.hid (HG2.out.trans (gr_alloc w2 (.cells #[.bool false, .slice (some ⟨w1.heap.size, 0, none⟩) n n, .slice none 0 0] 45)))
  have HR3 := Lib.hid (heap_alloc_new w2 (.cells #[.bool false, .slice (some ⟨w1.heap.size, 0, none⟩) n n, .slice none 0 0] 45))
  have hsw := HG1.out.size
  clear hO2 HO2 HG2 HG1
  generalize w2.alloc (.cells #[.bool false, .slice (some ⟨w1.heap.size, 0, none⟩) n n, .slice none 0 0] 45) = w3 at HO3 HG3 HR3 ⊢
  go_loopw [7] (fun i wr => ∃ k : Nat, k ≤ n ∧ i = .int .i64 k ∧ Hid (wr.ownsRow w1.heap.size 5 1 (.slice (some ⟨w1.heap.size, 0, none⟩) n n) n (bvs (List.replicate k 200 ++ List.replicate (n - k) 0))) ∧ Hid (wr.heap[w2.heap.size]? = some (.cells #[.bool false, .slice (some ⟨w1.heap.size, 0, none⟩) n n, .slice none 0 0] 45 (0, 0))) ∧ Hid (Gr w wr)) (fun i _ => n - (intOf i).toNat)
  case atStart => exact ⟨0, by omega, rfl, HO3, HR3, HG3⟩
  case round =>
    clear HO3 HR3 HG3
    obtain ⟨k, hk, rfl, HO, HR, HG⟩ := hrel
    by_cases h1 : k < n
    · obtain ⟨q0, q1, q2⟩ := cells_of3 HR.out
      have e1 := HO.out.cellAt k (by omega)
      have f1 := HO.out.frozenAt k
      have hx : (bvs (List.replicate k 200 ++ List.replicate (n - k) 0))[k]? = some (.int .u8 0) := by
        simp only [bvs, List.getElem?_map]
        rw [List.getElem?_append_right (by simp)]
        simp [List.getElem?_replicate, bv]
        omega
      rw [hx] at e1
      have hst := HO.out.stored k (bv 200)
      rw [bvs_set, fill_step n k h1] at hst
      have HST := Lib.hid hst.1
      clear hx hst
      go_wp2_with fail
      go_roundw
      case rel =>
        exact ⟨k + 1, by omega, by go_num, HST, Lib.hid ((Below.heap_setCell _ _ _ _ (by simp; omega)).trans HR.out), Lib.hid (HG.out.setCell (by simpa using hsw) _)⟩
      case measure => simp [intOf]; omega
    · obtain rfl : k = n := by omega
      obtain ⟨q0, q1, q2⟩ := cells_of3 HR.out
      have HB : Hid (IsB wr (.slice (some ⟨w1.heap.size, 0, none⟩) k k) (List.replicate k 200)) := Lib.hid (by
        have := OwnB.isB (ownB_of (l := List.replicate k 200) HO.out (by simp))
        exact this)
      clear h1 HO
      go_upto_if 40 with (fail)
      go_cut [0] (fun s0 wx => ∃ (nn : Nat) (x : Raw) (bb : List UInt8) (f : Bool) (A A2 : Option Addr) (m c m2 c2 : Nat), nn ≤ 70000 ∧ s0 = .int .i64 nn ∧ Hid (wx.heap[w2.heap.size]? = some (.cells #[.bool f, .slice A m c, .slice A2 m2 c2] 45 (0, 0))) ∧ Hid (IsItem wx (.agg #[.bool f, .slice A m c, .slice A2 m2 c2]) x) ∧ Hid (packed x = some bb) ∧ bb.length = heads nn + nn ∧ Hid (Gr w wx))
      case first =>
        cases lst with
        | false =>
          obtain ⟨bb, hp, hl⟩ := packed_200 k h
          have HP := Lib.hid hp
          clear hp
          go_wp2_with fail
          go_meet
          exact ⟨k, _, bb, false, _, _, k, k, 0, 0, h, rfl, HR, Lib.hid (isItem_mk HB.out (IsItems.nil _)), HP, hl, HG⟩
        | true =>
          go_wp2_with fail
          have HRI : Hid ((wr.alloc (.cells #[.bool true, .slice none 0 0, .slice none 0 0] 45)).heap[w2.heap.size]? = _) := Lib.hid ((heap_old wr _ _ (lt_of_some HR.out)).trans HR.out)
          have HRL := Lib.hid (heap_alloc_new wr (.cells #[.bool true, .slice none 0 0, .slice none 0 0] 45))
          have HGL := Lib.hid (HG.out.trans (gr_alloc wr (.cells #[.bool true, .slice none 0 0, .slice none 0 0] 45)))
          have hsl : wr.heap.size + 1 ≤ (wr.alloc (.cells #[.bool true, .slice none 0 0, .slice none 0 0] 45)).heap.size := by simp
          have hlt2 := lt_of_some HR.out
          have hgs := HG.out.size
          obtain ⟨wb, hwb⟩ : ∃ wb : World, wb = wr := ⟨_, rfl⟩
          rw [← hwb] at HRI HRL HGL hsl hlt2 hgs ⊢
          clear hwb HR HB HG q0 q1 q2
          generalize wb.alloc (.cells #[.bool true, .slice none 0 0, .slice none 0 0] 45) = wl at HRI HRL HGL hsl ⊢
          go_loopw [9] (fun i wr => ∃ (done : List Raw) (A : Option Addr) (c : Nat) (rows : List (List Value)), done.length ≤ k ∧ done.length ≤ 700 ∧ i = .int .i64 done.length ∧ Hid (done = sevens done.length) ∧ Hid (wr.heap[wb.heap.size]? = some (.cells #[.bool true, .slice none 0 0, .slice A done.length c] 45 (0, 0))) ∧ Hid (wr.ownsRow (wb.heap.size + 1) 45 3 (.slice A done.length c) done.length rows.flatten) ∧ Hid (ItemsAtP (okL (wb.heap.size + 1) wb.heap.size (.slice A done.length c) wr.heap.size) wr done rows) ∧ wb.heap.size + 1 ≤ wr.heap.size ∧ Hid (wr.heap[w2.heap.size]? = some (.cells #[.bool false, .slice (some ⟨w1.heap.size, 0, none⟩) k k, .slice none 0 0] 45 (0, 0))) ∧ Hid (Gr w wr)) (fun i _ => k - (intOf i).toNat)
          case atStart => exact ⟨[], none, 0, [], by simp, by simp, rfl, Lib.hid rfl, HRL, Lib.hid (World.ownsRow_nil _ _ _ _), Lib.hid (by rw [ItemsAtP]), hsl, HRI, HGL⟩
          case round =>
            clear HRI HRL HGL hsl
            obtain ⟨done, A, c, rows, hd1, hd2, rfl, HD, HRL, HOW, HIT, hsz, HRI, HG⟩ := hrel
            obtain ⟨_, _, he, hc1, hc2⟩ := own_form HOW.out
            injection he with he1 he2 he3
            subst he1 he3
            unfold maxLen at hc2
            by_cases h1 : done.length < k
            · by_cases h2 : done.length < 700
              · obtain ⟨q0, q1, q2⟩ := cells_of3 HRL.out
                have HD2 : Hid (done ++ [.mk false [7] []] = sevens (done.length + 1)) := Lib.hid (by
                  have := HD.out
                  conv => lhs; rw [this]
                  unfold sevens
                  rw [List.replicate_succ'])
                go_wp2_with (at_builtin; refine wpL_append (.tmp 52) (.tmp 55) 42 slT_items (base := wb.heap.size + 1) (.slice A done.length c) done.length rows.flatten _ 1 1 (wr.heap.size + 2) [.bool false, .slice (some ⟨wr.heap.size, 0, none⟩) 1 1, .slice none 0 0] rfl rfl rfl rfl (own_gr HOW.out ((gr_alloc wr (.cells #[.int .u8 7] 5)).trans (gr_alloc _ (.cells #[.bool false, .slice (some ⟨wr.heap.size, 0, none⟩) 1 1, .slice none 0 0] 45)))) (by have := Rd.new (wr.alloc (.cells #[.int .u8 7] 5)) #[.bool false, .slice (some ⟨wr.heap.size, 0, none⟩) 1 1, .slice none 0 0] 45; simpa using this) rfl (by simp [Value.oneCell']) (by simp only [maxLen]; omega) (by omega) (by simp; omega) ?_; intro A5 c5 w5 hown5 hg5 hbk5; have ho5 : w5.heap[wb.heap.size]? = some (.cells #[.bool true, .slice none 0 0, .slice A done.length c] 45 (0, 0)) := (hg5.block wb.heap.size (by simp; omega) (fun e => by have := own_block_ge HOW.out _ e.symm; omega)).trans (((gr_alloc wr (.cells #[.int .u8 7] 5)).trans (gr_alloc _ (.cells #[.bool false, .slice (some ⟨wr.heap.size, 0, none⟩) 1 1, .slice none 0 0] 45))).block _ (lt_of_some HRL.out) |>.trans HRL.out); have e5 : w5.cell? ⟨wb.heap.size, 2, none⟩ = some (.slice A done.length c) := (by rw [cell_of_row w5 _ _ _ _ (0, 0) ho5]; rfl); have f5 := frozen_of_row w5 wb.heap.size 2 _ _ ho5; have HOWN5 := Lib.hid hown5; have HG5 := Lib.hid hg5; have HBK5 := Lib.hid hbk5; clear hown5 hg5 hbk5 ho5)
                go_roundw
                case rel =>
                  obtain ⟨r1, r2, r3, r4, r5, r6⟩ := items_push (g := wb.heap.size) (B := wb.heap.size + 1) (w0 := w) (x := .mk false [7] []) (r := [.bool false, .slice (some ⟨wr.heap.size, 0, none⟩) 1 1, .slice none 0 0]) (by omega) (by omega) hsz (gr_alloc wr (.cells #[.int .u8 7] 5)) (gr_alloc _ (.cells #[.bool false, .slice (some ⟨wr.heap.size, 0, none⟩) 1 1, .slice none 0 0] 45)) HOW.out HIT.out (by
                    rw [ItemAtP]
                    exact ⟨_, none, 0, [], rfl, ⟨_, 1, rfl, Nat.le_refl _, by simp [maxLen], fun _ => ⟨wr.heap.size, 0, rfl, ⟨Nat.le_refl _, by simp⟩, fun j u hu => by rw [Nat.zero_add, cell_of_row _ _ _ _ _ (0, 0) (heap_alloc_new wr _), ← hu]; simp [bvs, bv]⟩⟩, Nat.le_refl _, by simp [maxLen], fun _ => ⟨rfl, rfl⟩, fun hn => absurd rfl hn, by rw [ItemsAtP]⟩) HG5.out HOWN5.out (by simpa using HBK5.out) HRL.out HG.out
                  have hdl : (done ++ [Raw.mk false [7] []]).length = done.length + 1 := by simp
                  refine ⟨done ++ [.mk false [7] []], A5, c5, rows ++ [[.bool false, .slice (some ⟨wr.heap.size, 0, none⟩) 1 1, .slice none 0 0]], by rw [hdl]; omega, by rw [hdl]; omega, by rw [hdl]; go_num, ?_, ?_, ?_, ?_, r4, ?_, Lib.hid r5⟩
                  · rw [hdl]; exact HD2
                  · rw [hdl]; exact Lib.hid r1
                  · rw [hdl]; exact Lib.hid r2
                  · rw [hdl]; exact Lib.hid r3
                  · refine Lib.hid ((r6 _ (lt_of_some HRI.out) (by omega) (fun e => ?_)).trans HRI.out)
                    have := own_block_ge HOW.out _ e
                    omega
                case measure => simp [intOf]; omega
              · skip
                have h3 : 700 < k := by omega
                have HEQ : Hid (done.length = 700) := Lib.hid (by omega)
                have hl := lt_of_some HRI.out
                obtain ⟨q0, q1, q2⟩ := cells_of3 HRL.out
                have HLI := Lib.hid (list_item HOW.out HIT.out)
                have HLI2 : Hid (IsItem (wr.setRow w2.heap.size #[.bool true, .slice none 0 0, .slice A done.length c]) (.agg #[.bool true, .slice none 0 0, .slice A done.length c]) (.mk true [] done)) := Lib.hid ((HLI.out.mono (fun b hb => hb) (fun p hp => cell_setRow (by have := hp.1; omega))).is (fun b hb => by rw [size_setRow]; exact hb.2))
                have HG2 := Lib.hid (gr_setRow HG.out w2.heap.size #[.bool true, .slice none 0 0, .slice A done.length c] (by omega))
                have HRS := Lib.hid (heap_setRow_same wr w2.heap.size _ #[.bool true, .slice none 0 0, .slice A done.length c] _ HRI.out)
                clear HLI HIT HOW HRL
                obtain ⟨bb, hp, hl⟩ := packed_7 700 (by omega)
                have HP : Hid (packed (.mk true [] done) = some bb) := Lib.hid (by rw [HD.out, HEQ.out]; exact hp)
                clear hp
                go_wp2_with (guard_target = wpList _ _ _ (Oper.mk _ (Op.store _ _ _) _ _ _ _ :: _) _ _; refine wpList_store_row rfl 45 (.tmp 6) (.tmp 58) rfl w2.heap.size #[.bool true, .slice none 0 0, .slice A done.length c] rfl rfl 45 _ HRI.out (by kernel_rfl) rfl (by simp [Value.oneCell']) ?_)
                go_meet
                exact ⟨700, .mk true [] done, bb, true, none, A, 0, 0, done.length, c, by omega, rfl, HRS, HLI2, HP, hl, HG2⟩
            · skip
              have h3 : ¬ 700 < k := by omega
              have HEQ : Hid (done.length = k) := Lib.hid (by omega)
              have h5 : k ≤ 700 := by omega
              have hl := lt_of_some HRI.out
              obtain ⟨q0, q1, q2⟩ := cells_of3 HRL.out
              have HLI := Lib.hid (list_item HOW.out HIT.out)
              have HLI2 : Hid (IsItem (wr.setRow w2.heap.size #[.bool true, .slice none 0 0, .slice A done.length c]) (.agg #[.bool true, .slice none 0 0, .slice A done.length c]) (.mk true [] done)) := Lib.hid ((HLI.out.mono (fun b hb => hb) (fun p hp => cell_setRow (by have := hp.1; omega))).is (fun b hb => by rw [size_setRow]; exact hb.2))
              have HG2 := Lib.hid (gr_setRow HG.out w2.heap.size #[.bool true, .slice none 0 0, .slice A done.length c] (by omega))
              have HRS := Lib.hid (heap_setRow_same wr w2.heap.size _ #[.bool true, .slice none 0 0, .slice A done.length c] _ HRI.out)
              clear HLI HIT HOW HRL
              obtain ⟨bb, hp, hl⟩ := packed_7 k (by omega)
              have HP : Hid (packed (.mk true [] done) = some bb) := Lib.hid (by rw [HD.out, HEQ.out]; exact hp)
              clear hp
              go_wp2_with (guard_target = wpList _ _ _ (Oper.mk _ (Op.store _ _ _) _ _ _ _ :: _) _ _; refine wpList_store_row rfl 45 (.tmp 6) (.tmp 58) rfl w2.heap.size #[.bool true, .slice none 0 0, .slice A done.length c] rfl rfl 45 _ HRI.out (by kernel_rfl) rfl (by simp [Value.oneCell']) ?_)
              go_meet
              exact ⟨k, .mk true [] done, bb, true, none, A, 0, 0, done.length, c, by omega, rfl, HRS, HLI2, HP, hl, HG2⟩
      case rest =>
        clear HB q0 q1 q2 HR HG hk h
        obtain ⟨nn, x, bb, f, A, A2, m, c, m2, c2, hnn, rfl, HR, HX, HP, hbl, HG⟩ := hcut
        have HBL := Lib.hid hbl
        clear hbl
        have HRE := Lib.hid (readE_of HP.out)
        obtain ⟨q0, q1, q2⟩ := cells_of3 HR.out
        go_upto_if 67 with (go_at_call 33; refine (rlp_pack _ x _ HX.out).mono ?_; rintro e w4 ⟨v4, rfl, hg4, hv4⟩; obtain ⟨vb4, rfl, ho4⟩ := packV_some HP.out hv4; have HG3 := Lib.hid (HG.out.trans hg4); have HR3 := Lib.hid ((hg4.block _ (lt_of_some HR.out)).trans HR.out); have HX3 := Lib.hid (HX.out.gr hg4); have HO3 := Lib.hid ho4; obtain ⟨A3, c3, rfl, hd1, hd2⟩ := own_form ho4; clear hg4 hv4 ho4)
        unfold maxLen at hd2
        clear HG HR HX q0 q1 q2
        by_cases h55 : nn < 56
        · have hbb : (((bb.length : Nat) : Int) == 1 + (nn : Int)) = true := by
            rw [HBL.out, heads, if_pos h55]
            simp
          have h56 : ¬ 55 < nn := by omega
          clear HBL h55
          go_wp2_with (go_at_call 46; refine (rlp_Read _ bb _ (OwnB.isB HO3.out)).mono ?_; rintro e w5 ⟨v5, rfl, hg5, hv5⟩; obtain ⟨vi5, rfl, hi5⟩ := readV_both hv5; rw [HRE.out.2] at hi5; rw [HRE.out.1]; have HI5 := Lib.hid (hi5.is fun k hk => hk.2); obtain ⟨cs5, rfl, hat5⟩ := hi5; obtain ⟨f5, A5, n5, c5, A6, n6, c6, rfl⟩ := hat5.len; have HG5 := Lib.hid (HG3.out.trans hg5); have HR5 := Lib.hid ((hg5.block _ (lt_of_some HR3.out)).trans HR3.out); have hlt5 := lt_of_some HR5.out; have HX5 := Lib.hid (HX3.out.gr hg5); clear hg5 hv5 hat5)
          have HG6 := Lib.hid (HG5.out.trans (gr_alloc w5 (.cells #[.bool f5, .slice A5 n5 c5, .slice A6 n6 c6] 45)))
          have HI6 := Lib.hid (HI5.out.gr (gr_alloc w5 (.cells #[.bool f5, .slice A5 n5 c5, .slice A6 n6 c6] 45)))
          have HX6 := Lib.hid (HX5.out.gr (gr_alloc w5 (.cells #[.bool f5, .slice A5 n5 c5, .slice A6 n6 c6] 45)))
          have HK5 := Lib.hid (heap_alloc_new w5 (.cells #[.bool f5, .slice A5 n5 c5, .slice A6 n6 c6] 45))
          have HK6 := Lib.hid ((heap_old w5 (.cells #[.bool f5, .slice A5 n5 c5, .slice A6 n6 c6] 45) _ hlt5).trans HR5.out)
          clear HG5 HI5 HX5 HR5 hlt5
          generalize w5.alloc (.cells #[.bool f5, .slice A5 n5 c5, .slice A6 n6 c6] 45) = w6 at HG6 HI6 HX6 HK5 HK6 ⊢
          obtain ⟨p0, p1, p2⟩ := cells_of3 HK5.out
          obtain ⟨r0, r1, r2⟩ := cells_of3 HK6.out
          go_wp2_with first
            | (go_at_call 34; refine (law_num _ _).mono ?_; rintro e w6 ⟨rfl, rfl⟩)
            | (go_at_call 40; refine (same_any _ x _ _ _ HI6.out HX6.out).mono ?_; rintro e w7 ⟨_, rfl, hg7, rfl⟩; rw [same_norm]; have HG7 := Lib.hid (HG6.out.trans hg7); clear hg7)
          refine bodyPost_ret (results_tmp rfl _ _ _) rfl ⟨_, rfl, HG7.out, ?_⟩
          simp [eqV, hbb]
        · have hbb : (((bb.length : Nat) : Int) == (heads nn : Int) + (nn : Int)) = true := by
            rw [HBL.out]
            simp
          have h56 : 55 < nn := by omega
          have HHD : Hid (heads nn = 1 + (le nn).length) := Lib.hid (by rw [heads, if_neg h55]; unfold be; rw [List.length_reverse])
          have hll := le_length 8 nn (by omega)
          clear HBL h55
          go_wp2_with fail
          obtain ⟨wz, hwz⟩ : ∃ wz : World, wz = w4 := ⟨_, rfl⟩
          rw [← hwz] at HG3 HR3 HX3 HO3 ⊢
          clear hwz
          go_loopw [12, 13] (fun hd kv wr => ∃ (m q : Nat), kv = .int .i64 m ∧ hd = .int .i64 q ∧ m ≤ nn ∧ q ≤ 9 ∧ Hid (q + (le m).length = heads nn) ∧ wr = wz) (fun _ kv _ => (intOf kv).toNat)
          case atStart => exact ⟨nn, 1, rfl, rfl, Nat.le_refl _, by omega, Lib.hid HHD.out.symm, rfl⟩
          case round =>
            obtain ⟨m, q, rfl, rfl, hm, hq9, HQ, rfl⟩ := hrel
            by_cases h1 : 0 < m
            · have HQ2 : Hid (q + 1 + (le (m / 256)).length = heads nn) := Lib.hid (by rw [← HQ.out, le_pos m h1, List.length_cons]; omega)
              have hq10 : q + 1 ≤ 9 := by
                have h3 := HQ2.out
                rw [HHD.out] at h3
                omega
              clear hbb
              go_wp2_with fail
              go_roundw
              case rel => exact ⟨m / 256, q + 1, by go_num, by go_num, by omega, hq10, HQ2, trivial⟩
              case measure => simp [intOf]; omega
            · obtain rfl : m = 0 := by omega
              have hqh : q = heads nn := by
                have := HQ.out
                rw [le_zero] at this
                simpa using this
              have hbb2 : (((bb.length : Nat) : Int) == (q : Int) + (nn : Int)) = true := by rw [hqh]; exact hbb
              clear hbb hqh HQ HHD h1 hll
              go_wp2_with (go_at_call 46; refine (rlp_Read _ bb _ (OwnB.isB HO3.out)).mono ?_; rintro e w5 ⟨v5, rfl, hg5, hv5⟩; obtain ⟨vi5, rfl, hi5⟩ := readV_both hv5; rw [HRE.out.2] at hi5; rw [HRE.out.1]; have HI5 := Lib.hid (hi5.is fun k hk => hk.2); obtain ⟨cs5, rfl, hat5⟩ := hi5; obtain ⟨f5, A5, n5, c5, A6, n6, c6, rfl⟩ := hat5.len; have HG5 := Lib.hid (HG3.out.trans hg5); have HR5 := Lib.hid ((hg5.block _ (lt_of_some HR3.out)).trans HR3.out); have hlt5 := lt_of_some HR5.out; have HX5 := Lib.hid (HX3.out.gr hg5); clear hg5 hv5 hat5)
              have HG6 := Lib.hid (HG5.out.trans (gr_alloc w5 (.cells #[.bool f5, .slice A5 n5 c5, .slice A6 n6 c6] 45)))
              have HI6 := Lib.hid (HI5.out.gr (gr_alloc w5 (.cells #[.bool f5, .slice A5 n5 c5, .slice A6 n6 c6] 45)))
              have HX6 := Lib.hid (HX5.out.gr (gr_alloc w5 (.cells #[.bool f5, .slice A5 n5 c5, .slice A6 n6 c6] 45)))
              have HK5 := Lib.hid (heap_alloc_new w5 (.cells #[.bool f5, .slice A5 n5 c5, .slice A6 n6 c6] 45))
              have HK6 := Lib.hid ((heap_old w5 (.cells #[.bool f5, .slice A5 n5 c5, .slice A6 n6 c6] 45) _ hlt5).trans HR5.out)
              clear HG5 HI5 HX5 HR5 hlt5
              generalize w5.alloc (.cells #[.bool f5, .slice A5 n5 c5, .slice A6 n6 c6] 45) = w6 at HG6 HI6 HX6 HK5 HK6 ⊢
              obtain ⟨p0, p1, p2⟩ := cells_of3 HK5.out
              obtain ⟨r0, r1, r2⟩ := cells_of3 HK6.out
              go_wp2_with first
                | (go_at_call 34; refine (law_num _ _).mono ?_; rintro e w6 ⟨rfl, rfl⟩)
                | (go_at_call 40; refine (same_any _ x _ _ _ HI6.out HX6.out).mono ?_; rintro e w7 ⟨_, rfl, hg7, rfl⟩; rw [same_norm]; have HG7 := Lib.hid (HG6.out.trans hg7); clear hg7)
              refine bodyPost_ret (results_tmp rfl _ _ _) rfl ⟨_, rfl, HG7.out, ?_⟩
              simp [eqV, hbb2]
set_option maxRecDepth 20000 in
set_option maxHeartbeats 1000000 in
theorem heads_all (z : Int) (lst : Bool) (w : World) (h1 : -9223372036854775808 ≤ z) (h2 : z ≤ 9223372036854775807) : Calls Try.prog 15 #[.int .i64 z, .bool lst] w (Ret (eqV (.bool true)) w) := by
  by_cases h3 : z < 0
  · go_enter Try.func15, Try.ntmps15
    go_wp2_with fail
    refine (rlp_alive _).mono ?_
    rintro e w1 ⟨_, rfl, hg1, rfl⟩
    go_wp2_with fail
    refine bodyPost_ret (results_tmp rfl _ _ _) rfl ⟨_, rfl, hg1, ?_⟩
    simp [eqV]
  · by_cases h4 : 70000 < z
    · have h5 : 0 ≤ z := by omega
      clear h3
      go_enter Try.func15, Try.ntmps15
      go_wp2_with fail
      refine (rlp_alive _).mono ?_
      rintro e w1 ⟨_, rfl, hg1, rfl⟩
      go_wp2_with fail
      refine bodyPost_ret (results_tmp rfl _ _ _) rfl ⟨_, rfl, hg1, ?_⟩
      simp [eqV]
    · obtain ⟨n, rfl⟩ := Int.eq_ofNat_of_zero_le (show 0 ≤ z by omega)
      exact heads_in n lst w (by omega)
end Go.Proofs.Ytfpigemikpbbhaa
