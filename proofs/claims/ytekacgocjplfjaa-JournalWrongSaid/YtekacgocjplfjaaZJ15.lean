/-
  Merged (wip/tools/merge.py): RPack, E14.
  Conditions: none.
-/
import Derived.Test.YtekacgocjplfjaaZJ14
import Derived.Test.YtekacgocjplfjaaZJ7
import Derived.Test.YtekacgocjplfjaaZJ12
import Derived.Laws.IdiomCopy
/-
  The reference's PackDiff.
  Conditions: none.
-/
namespace Go.Proofs.Ytekacgocjplfjaa
set_option linter.unusedVariables false
open Go.RowKit Mono Rlp Jn

theorem enter_List (args : Array Value) (w : World) : (callFunc 23 args).run Try.prog w = .ok (.enter 23 args) w := by simp [go_sem]
theorem enter_Bytes (args : Array Value) (w : World) : (callFunc 25 args).run Try.prog w = .ok (.enter 25 args) w := by simp [go_sem]
/-- Bytes in new memory. -/
def NewB (B : Nat) (l : List UInt8) : VP := fun v w => IsBP (fun k => B ≤ k ∧ k < w.heap.size) w v l
theorem stable_newB (B : Nat) (l : List UInt8) : Stable (NewB B l) := fun _ _ _ hg h => IsBP.mono h (fun b hb => ⟨hb.1, Nat.lt_of_lt_of_le hb.2 hg.size⟩) fun p hp => hg.cell hp.2
/-- 'append([]byte(nil), l...)': a copy in new memory. -/
theorem growsTo_append_new {w : World} {o : Oper} {a : Act} {x : Operand} {v : Value} {l : List UInt8} {B : Nat} (hB : B ≤ w.heap.size)
    (ho : o.op = .call { callee := .builtin .append, args := #[.const (.slice none 0 0), x], argTypes := #[29, 29] }) (hx : a.eval x = v) (h : IsB w v l) (hl : l.length ≤ 140737488355328) :
    growsTo Try.prog (NewB B l) w ((execOp a.eval o).run Try.prog w) := by
  obtain ⟨A, c, rfl, h1, h2, hr⟩ := h
  obtain ⟨A', c', w', hrun, hown, hg, hb⟩ := run_append_rd (P := Try.prog) (ty := o.type) slT_bytes (World.ownsRow_nil w w.heap.size _ _) (m := l.length) (c := c) (news := bvs l) (by rw [bvs_length]; omega) hr (bvs_one _) (by simp only [maxLen] at *; omega) (by omega) (Nat.le_refl _)
  have hs : a.eval (.const (.slice none 0 0)) = .slice none 0 0 := rfl
  unfold execOp
  simp only [ho, resolve, invoke, builtin, Sem.run_bind, Sem.run_pure, Result.andThen_ok, List.map_toArray, List.map_cons, List.map_nil, hs, hx, hrun]
  refine ⟨⟨hg.os, hg.tape, hg.output, hg.size, fun k hk => hg.block k hk (by simp [Value.ownBlock])⟩, ?_⟩
  have := ownB_P (w := w') (base := w.heap.size) (v := .slice A' (0 + l.length) c') (l := l) (by unfold OwnB; simpa using hown)
  exact IsBP.mono this (fun b hb => ⟨by have := hb.1; omega, hb.2⟩) fun _ _ => rfl
theorem own_block_lt {w : World} {base : Nat} {e : TypeId} {size : Nat} {v : Value} {n : Nat} {xs : List Value} (h : w.ownsRow base e size v n xs) (k : Nat) (hk : v.ownBlock = some k) : k < w.heap.size := (h.lt k hk).2
theorem packV2_some' {r : Raw} {b : List UInt8} {v : Value} {w : World} (h : packed r = some b) (hv : PackV2 r v w) : ∃ vb, v = .tuple #[vb, .int .i64 0] ∧ IsB w vb b := by unfold PackV2 at hv; rw [h] at hv; exact hv
theorem packV2_none' {r : Raw} {v : Value} {w : World} (h : packed r = none) (hv : PackV2 r v w) : v = .tuple #[.slice none 0 0, .int .i64 3] := by unfold PackV2 at hv; rw [h] at hv; exact hv
theorem enter_Pack (args : Array Value) (w : World) : (callFunc 27 args).run Try.prog w = .ok (.enter 27 args) w := by simp [go_sem]
theorem isItem_parts {w : World} {b : Bool} {vb vl : Value} {x : Raw} (h : IsItem w (.agg #[.bool b, vb, vl]) x) : ItemAtP (fun k => 0 ≤ k ∧ k < w.heap.size) w x [.bool b, vb, vl] := by
  obtain ⟨cs, e, h⟩ := h
  obtain rfl : [.bool b, vb, vl] = cs := by
    have := congrArg Value.cells e
    simpa [Value.cells] using congrArg Array.toList this
  exact ItemAtP.mono (fun k hk => ⟨Nat.zero_le _, hk⟩) (fun _ _ => rfl) _ _ h
set_option maxRecDepth 20000 in
set_option maxHeartbeats 8000000 in
theorem r_PackDiff (v : Value) (d : Df) (w : World) (h : IsDf w v d) (hsm : d.small) : Calls Try.prog 10 #[v] w (Ret (PackDV d) w) := by
  obtain ⟨vl, rfl, hl, hdok⟩ := h
  have HV := Lib.hid hl
  have HDOK := Lib.hid hdok
  have HSM := Lib.hid hsm
  obtain ⟨A, ca, rfl, hc1, hc2⟩ := IsChsP.form hl
  unfold maxLen at hc2
  clear hl hdok
  have hbox := fun w => box_of 26 (dfC d (.slice A d.chs.length ca)).toArray w
  go_enter Try.func10, Try.ntmps10
  go_wp2_with (guard_target = wpList _ _ _ (Oper.mk _ (Op.box _ _) _ _ _ _ :: _) _ _; refine wpL_box_of hbox w.heap.size rfl (.tmp 0) rfl rfl rfl ?_; intro w0 hR0 hG0 hs0)
  clear hbox
  go_loopw [4, 5] (fun lv i wr => ∃ (k : Nat) (rows : List (List Value)), k ≤ d.chs.length ∧ i = .int .i64 k ∧ Hid (mayTo d.chs k = true) ∧ Hid (OwnIs wr (w.heap.size + 1) (fun _ => True) lv ((d.chs.take k).map chI) rows) ∧ Hid (wr.heap[w.heap.size]? = some (.cells (dfC d (.slice A d.chs.length ca)).toArray 26 (0, 0))) ∧ w.heap.size + 1 ≤ wr.heap.size ∧ Hid (Gr w wr)) (fun _ i _ => d.chs.length - (intOf i).toNat)
  case atStart => exact ⟨0, [], by omega, rfl, Lib.hid rfl, Lib.hid (OwnIs.nil _ _ _), hR0, by omega, hG0⟩
  case round =>
    clear hR0 hG0 hs0
    obtain ⟨k, rows, hk, rfl, HM, HOW, HR, hsz, HG⟩ := hrel
    obtain ⟨wo, rfl⟩ : ∃ wo : World, wo = wr := ⟨_, rfl⟩
    obtain ⟨A0, c0, rfl, hd1, hd2⟩ := HOW.out.form
    have hlk : ((d.chs.take k).map chI).length = k := by rw [List.length_map, List.length_take]; omega
    rw [hlk] at HOW hd1 ⊢
    clear hlk
    unfold maxLen at hd2
    obtain ⟨qi, qp, q64⟩ := df_var HR.out HDOK.out
    clear qi qp
    by_cases h1 : k < d.chs.length
    · obtain ⟨bl, o, vc, vs, rfl, hbl, hrg, hvc, hvs, hok⟩ := IsChsP.at HV.out k h1
      have HRG := Lib.hid (range_gr hrg HG.out hbl)
      have HOK := Lib.hid hok
      have HVC := Lib.hid hvc
      have HVS := Lib.hid (IsSl.gr hvs HG.out)
      obtain ⟨Ac, cc, rfl, _, _, _⟩ := hvc
      obtain ⟨As, cs, rfl, hs1, hs2⟩ := IsSlP.form hvs
      unfold maxLen at hs2
      have hone := all_oneCell_toArray (chC_one (c := d.chs[k]) (vc := .slice Ac d.chs[k].code.length cc) (vs := .slice As d.chs[k].slots.length cs) rfl rfl)
      have HONE := Lib.hid hone
      clear hrg hvs hone
      go_upto_region 6 with first
        | (guard_target = wpList _ _ _ (Oper.mk _ (Op.load _ _) _ _ _ _ :: _) _ _; refine wpList_load_mid rfl 51 (.tmp 20) rfl bl (o + k * 56) rfl (chC d.chs[k] (.slice Ac d.chs[k].code.length cc) (.slice As d.chs[k].slots.length cs)) _ HRG.out Try.underlying51 rfl (change_info _ HOK.out _ _) ?_)
        | (guard_target = wpList _ _ _ (Oper.mk _ (Op.alloc _) _ _ _ _ :: _) _ _; refine wpL_alloc_of alloc_change wo.heap.size rfl rfl rfl ?_; intro wa hRa hGa hsa)
        | (guard_target = wpList _ _ _ (Oper.mk _ (Op.store _ _ _) _ _ _ _ :: _) _ _; refine wpList_store_row rfl 51 (.tmp 6) (.tmp 21) rfl wo.heap.size (chC d.chs[k] (.slice Ac d.chs[k].code.length cc) (.slice As d.chs[k].slots.length cs)).toArray rfl rfl 51 _ hRa.out (by rw [List.size_toArray]; exact change_info _ HOK.out _ _) (by rw [List.size_toArray, List.size_toArray, chC_length HOK.out]; rfl) HONE.out ?_)
      go_frame
      have HRv : Hid ((wa.setRow wo.heap.size (chC d.chs[k] (.slice Ac d.chs[k].code.length cc) (.slice As d.chs[k].slots.length cs)).toArray).heap[wo.heap.size]? = _) := Lib.hid (heap_setRow_same _ _ _ _ _ hRa.out)
      have HGv : Hid (Gr wo (wa.setRow wo.heap.size (chC d.chs[k] (.slice Ac d.chs[k].code.length cc) (.slice As d.chs[k].slots.length cs)).toArray)) := Lib.hid (gr_setRow hGa.out _ _ (Nat.le_refl _))
      have hsv : (wa.setRow wo.heap.size (chC d.chs[k] (.slice Ac d.chs[k].code.length cc) (.slice As d.chs[k].slots.length cs)).toArray).heap.size = wo.heap.size + 1 := by rw [size_setRow, hsa]
      clear hRa hGa hsa HRG HONE hok q64
      generalize wa.setRow wo.heap.size (chC d.chs[k] (.slice Ac d.chs[k].code.length cc) (.slice As d.chs[k].slots.length cs)).toArray = wv at HRv HGv hsv ⊢
      obtain ⟨qa, q20, q21, qb, q54, q55⟩ := ch_var HRv.out HOK.out
      obtain ⟨qi, qp, q64⟩ := df_var ((HGv.out.block _ (lt_of_some HR.out)).trans HR.out) HDOK.out
      have hlv : wo.heap.size < wv.heap.size := by omega
      have hnr := HOK.out.2.2.1
      have hnr2 := HOK.out.2.2.2.1
      go_cut [42] (fun s42 wx => ∃ bad : Bool, s42 = .bool bad ∧ Hid (bad = true → may d.chs = false) ∧ Hid (bad = false → 0 ≤ d.chs[k].nonce ∧ ∀ m (hm : k = m + 1), cmp (d.chs[m]'(by omega)).addr d.chs[k].addr < 0) ∧ Hid (Gr wv wx))
      case first =>
        have Q21 := later_cell (w := wv) (p := ⟨wo.heap.size, 21, none⟩) hlv q21
        have Q64 := later_cell (w := wv) (p := ⟨w.heap.size, 64, none⟩) (by show w.heap.size < _; omega) q64
        clear q20 q21 qb q54 q55 qi qp q64
        by_cases hneg : d.chs[k].nonce < 0
        · have HB : Hid (may d.chs = false) := Lib.hid (may_badC d.chs k h1 (by unfold mayC; rw [decide_eq_false (by omega)]; rfl))
          refine wp_region_N 21 (by kernel_rfl) (by kernel_rfl) (by kernel_rfl) ?_
          simp only [List.take_succ_cons, List.take_zero, List.drop_succ_cons, List.drop_zero]
          refine wpN_quiet 21 (by kernel_rfl) ?_
          simp only [List.take_succ_cons, List.take_zero, List.drop_succ_cons, List.drop_zero]
          repeat (go_big_quiet_step (fail))
          refine wpQuiet_nil ?_
          refine wpN_nil (by kernel_rfl) ?_
          intro W hW
          replace hW := hW.gr
          unfold finN
          go_wp2_with fail
          go_meet
          exact ⟨true, rfl, Lib.hid fun _ => HB.out, Lib.hid (fun e => by cases e), Lib.hid hW⟩
        · have hpos : 0 ≤ d.chs[k].nonce := by omega
          have HP := Lib.hid hpos
          rcases k with _ | m
          · skip
            refine wp_region_N 21 (by kernel_rfl) (by kernel_rfl) (by kernel_rfl) ?_
            simp only [List.take_succ_cons, List.take_zero, List.drop_succ_cons, List.drop_zero]
            refine wpN_quiet 21 (by kernel_rfl) ?_
            simp only [List.take_succ_cons, List.take_zero, List.drop_succ_cons, List.drop_zero]
            repeat (go_big_quiet_step (fail))
            refine wpQuiet_nil ?_
            refine wpN_nil (by kernel_rfl) ?_
            intro W hW
            replace hW := hW.gr
            unfold finN
            go_wp2_with fail
            go_meet
            exact ⟨false, by simp, Lib.hid (fun e => by cases e), Lib.hid (fun _ => ⟨HP.out, fun m hm => by omega⟩), Lib.hid hW⟩
          · obtain ⟨bl2, o2, vc2, vs2, e2, hbl2, hrg2, _, _, hok2⟩ := IsChsP.at HV.out m (by omega)
            injection e2 with e2
            injection e2 with e2 e3
            subst e2 e3
            have hgs := HG.out.size
            have hblv : bl < wv.heap.size := by omega
            obtain ⟨qp, _⟩ := ch_parts (range_gr (range_gr hrg2 HG.out hbl) HGv.out (by omega)) hok2
            have k3 := conv_later (isB_range qp hblv hok2.1 (by simp [maxLen]))
            have k4 := conv_later (isB_range qa hlv HOK.out.1 (by simp [maxLen]))
            have k1 := fun x : Later wv => slice_addr_all x.1 bl (o + m * 56)
            have k2 := fun x : Later wv => slice_addr_all x.1 wo.heap.size 0
            clear qp qa hrg2 hok2
            refine wp_region_N 21 (by kernel_rfl) (by kernel_rfl) (by kernel_rfl) ?_
            simp only [List.take_succ_cons, List.take_zero, List.drop_succ_cons, List.drop_zero]
            refine wpN_quiet 21 (by kernel_rfl) ?_
            simp only [List.take_succ_cons, List.take_zero, List.drop_succ_cons, List.drop_zero]
            repeat (go_big_quiet_step (fail))
            refine wpQuiet_nil ?_
            refine wpN_nil (by kernel_rfl) ?_
            intro W hW
            replace hW := hW.gr
            unfold finN
            go_wp2_with fail
            go_meet
            refine ⟨decide (0 ≤ cmpB (d.chs[m]'(by omega)).addr d.chs[m + 1].addr), ?_, ?_, ?_, Lib.hid hW⟩
            · rw [bs_toList, bs_toList, less_cmp]
              by_cases hlt : cmpB (d.chs[m]'(by omega)).addr d.chs[m + 1].addr < 0
              · rw [decide_eq_true hlt, decide_eq_false (by omega)]; rfl
              · rw [decide_eq_false hlt, decide_eq_true (by omega)]; rfl
            · exact Lib.hid fun e => may_badR d.chs m h1 (by have := of_decide_eq_true e; show ¬ cmpB _ _ < 0; omega)
            · refine Lib.hid fun e => ⟨HP.out, fun m' hm => ?_⟩
              obtain rfl : m = m' := by omega
              have := of_decide_eq_false e
              show cmpB _ _ < 0
              omega
      case rest =>
        obtain ⟨bad, rfl, HB1, HB2, HGX⟩ := hcut
        cases bad with
        | true =>
          have HP : Hid (packD d = .error 1) := Lib.hid (by unfold packD; rw [HB1.out rfl]; rfl)
          go_wp2_with fail
          refine bodyPost_ret (results_tmp2 rfl _ _ _) rfl ⟨_, rfl, (HG.out.trans HGv.out).trans HGX.out, ?_⟩
          unfold PackDV
          rw [HP.out]
          rfl
        | false =>
          have HBN := Lib.hid (HB2.out rfl)
          have hgx := HGX.out.size
          clear qa q20 q21 qb q54 q55 qi qp q64
          obtain ⟨qa, q20, q21, qb, q54, q55⟩ := ch_var ((HGX.out.block _ hlv).trans HRv.out) HOK.out
          go_wp2_with fail
          have HGC := Lib.hid ((HG.out.trans HGv.out).trans HGX.out)
          have HGO := Lib.hid (HGv.out.trans HGX.out)
          have HVS2 := Lib.hid (IsSl.gr (IsSl.gr HVS.out HGv.out) HGX.out)
          have HRC := Lib.hid ((HGX.out.block _ hlv).trans HRv.out)
          have HDC := Lib.hid ((HGX.out.block _ (Nat.lt_of_lt_of_le (lt_of_some HR.out) HGv.out.size)).trans ((HGv.out.block _ (lt_of_some HR.out)).trans HR.out))
          have hlc : wo.heap.size < wc.heap.size := Nat.lt_of_lt_of_le hlv HGX.out.size
          clear qa q20 q21 qb q54 q55 HGX HGv HB1 HB2 HVS
          obtain ⟨wb, hwb⟩ : ∃ wb : World, wb = wc := ⟨_, rfl⟩
          rw [← hwb] at HGC HGO HVS2 HRC HDC hlc ⊢
          clear hwb
          go_loopw [7, 8] (fun sv i wr => ∃ (j : Nat) (srows : List (List Value)), j ≤ d.chs[k].slots.length ∧ i = .int .i64 j ∧ Hid (rises ((d.chs[k].slots.map (·.key)).take j) = true) ∧ Hid (OwnIs wr wb.heap.size (fun b => b < w.heap.size ∨ wb.heap.size ≤ b) sv ((d.chs[k].slots.take j).map slotI) srows) ∧ wb.heap.size ≤ wr.heap.size ∧ Hid (Gr wb wr)) (fun _ i _ => d.chs[k].slots.length - (intOf i).toNat)
          case atStart => exact ⟨0, [], by omega, rfl, Lib.hid rfl, Lib.hid (OwnIs.nil _ _ _), Nat.le_refl _, Lib.hid (Gr.refl _)⟩
          case round =>
            obtain ⟨j, srows, hj, rfl, HRS, HOS, hsj, HGJ⟩ := hrel
            obtain ⟨A8, c8, rfl, he1, he2⟩ := HOS.out.form
            have hlj : ((d.chs[k].slots.take j).map slotI).length = j := by rw [List.length_map, List.length_take]; omega
            rw [hlj] at HOS he1 ⊢
            have HLJ := Lib.hid hlj
            clear hlj
            unfold maxLen at he2
            have hwr := HGJ.out.size
            have hlr : wo.heap.size < wr.heap.size := by omega
            obtain ⟨qa, q20, q21, qb, q54, q55⟩ := ch_var ((HGJ.out.block _ hlc).trans HRC.out) HOK.out
            have hsm := HSM.out.2 _ (List.getElem_mem h1)
            by_cases h2 : j < d.chs[k].slots.length
            · obtain ⟨bs, os, rfl, hbs, hsr, hsok⟩ := IsSlP.at HVS2.out j h2
              have HSOK := Lib.hid hsok
              obtain ⟨rk, rv⟩ := sl_parts (range_gr hsr HGJ.out hbs) hsok
              have HRK := Lib.hid rk
              have HRV := Lib.hid rv
              have hbss : bs < wr.heap.size := by omega
              have HTK : Hid ((d.chs[k].slots.take (j + 1)).map slotI = (d.chs[k].slots.take j).map slotI ++ [slotI d.chs[k].slots[j]]) := Lib.hid (by rw [← List.take_append_getElem h2, List.map_append]; rfl)
              clear hsr hsok rk rv
              go_upto_region 12 with (fail)
              have Q55 := later_cell (w := wr) (p := ⟨wo.heap.size, 55, none⟩) hlr q55
              clear qa q20 q21 qb q54 q55
              go_cut [68] (fun s68 wx => ∃ bad : Bool, s68 = .bool bad ∧ Hid (bad = true → rises (d.chs[k].slots.map (·.key)) = false) ∧ Hid (bad = false → rises ((d.chs[k].slots.map (·.key)).take (j + 1)) = true) ∧ Hid (Gr wr wx))
              case first =>
                rcases j with _ | m
                · have HT : Hid (rises ((d.chs[k].slots.map (·.key)).take (0 + 1)) = true) := Lib.hid (by
                    cases d.chs[k].slots with
                    | nil => rfl
                    | cons a t => rfl)
                  refine wp_region_N 19 (by kernel_rfl) (by kernel_rfl) (by kernel_rfl) ?_
                  simp only [List.take_succ_cons, List.take_zero, List.drop_succ_cons, List.drop_zero]
                  refine wpN_quiet 16 (by kernel_rfl) ?_
                  simp only [List.take_succ_cons, List.take_zero, List.drop_succ_cons, List.drop_zero]
                  repeat (go_big_quiet_step (fail))
                  refine wpQuiet_nil ?_
                  refine wpN_skip (by kernel_rfl) (by kernel_rfl) ?_
                  simp only [Act.put, List.setIfInBounds_toArray, List.set_cons_succ, List.set_cons_zero]
                  refine wpN_quiet 2 (by kernel_rfl) ?_
                  simp only [List.take_succ_cons, List.take_zero, List.drop_succ_cons, List.drop_zero]
                  repeat (go_big_quiet_step (fail))
                  refine wpQuiet_nil ?_
                  refine wpN_nil (by kernel_rfl) ?_
                  intro W hW
                  replace hW := hW.gr
                  unfold finN
                  go_wp2_with fail
                  go_meet
                  exact ⟨false, by simp, Lib.hid (fun e => by cases e), Lib.hid fun _ => HT.out, Lib.hid hW⟩
                · obtain ⟨bs2, os2, e2, hbs2, hsr2, hsok2⟩ := IsSlP.at HVS2.out m (by omega)
                  injection e2 with e2
                  injection e2 with e2 e3
                  subst e2 e3
                  obtain ⟨rp, _⟩ := sl_parts (range_gr hsr2 HGJ.out hbs) hsok2
                  have HRP := Lib.hid rp
                  have HSOK2 := Lib.hid hsok2
                  clear rp hsr2 hsok2
                  refine wp_region_N 19 (by kernel_rfl) (by kernel_rfl) (by kernel_rfl) ?_
                  simp only [List.take_succ_cons, List.take_zero, List.drop_succ_cons, List.drop_zero]
                  refine wpN_quiet 9 (by kernel_rfl) ?_
                  simp only [List.take_succ_cons, List.take_zero, List.drop_succ_cons, List.drop_zero]
                  repeat (go_big_quiet_step (fail))
                  refine wpQuiet_nil ?_
                  refine wpN_val (arrV d.chs[k].slots[m].key) rfl (by kernel_rfl) (by kernel_rfl) (fun xw => growsTo_load_range (range_gr HRP.out xw.2 hbss) HSOK2.out.1 rfl rfl) ?_
                  simp only [Act.put, List.setIfInBounds_toArray, List.set_cons_succ, List.set_cons_zero]
                  refine wpN_quiet 5 (by kernel_rfl) ?_
                  simp only [List.take_succ_cons, List.take_zero, List.drop_succ_cons, List.drop_zero]
                  repeat (go_big_quiet_step (fail))
                  refine wpQuiet_nil ?_
                  refine wpN_val (arrV d.chs[k].slots[m + 1].key) rfl (by kernel_rfl) (by kernel_rfl) (fun xw => growsTo_load_range (range_gr HRK.out xw.2 hbss) HSOK.out.1 rfl rfl) ?_
                  simp only [Act.put, List.setIfInBounds_toArray, List.set_cons_succ, List.set_cons_zero]
                  refine wpN_val (.bool (decide (cmpB d.chs[k].slots[m].key d.chs[k].slots[m + 1].key < 0))) rfl (by kernel_rfl) (by kernel_rfl) (fun xw => growsTo_call (by simp [go_sem]) ((ref_Less _ _ HSOK2.out.1 HSOK.out.1 _).mono ?_)) ?_
                  · rintro e w' ⟨v, rfl, hg, hv⟩
                    exact ⟨_, rfl, hg, hv⟩
                  simp only [Act.put, List.setIfInBounds_toArray, List.set_cons_succ, List.set_cons_zero]
                  refine wpN_quiet 2 (by kernel_rfl) ?_
                  simp only [List.take_succ_cons, List.take_zero, List.drop_succ_cons, List.drop_zero]
                  repeat (go_big_quiet_step (fail))
                  refine wpQuiet_nil ?_
                  refine wpN_nil (by kernel_rfl) ?_
                  intro W hW
                  replace hW := hW.gr
                  unfold finN
                  go_wp2_with fail
                  go_meet
                  refine ⟨!decide (cmpB d.chs[k].slots[m].key d.chs[k].slots[m + 1].key < 0), rfl, ?_, ?_, Lib.hid hW⟩
                  · refine Lib.hid fun e => rises_bad _ m (by simpa using h2) ?_
                    simp only [List.getElem_map]
                    show ¬ cmpB _ _ < 0
                    simpa using e
                  · refine Lib.hid fun e => ?_
                    rw [rises_take _ m (by simpa using h2), HRS.out]
                    simp only [List.getElem_map, Bool.true_and, decide_eq_true_eq]
                    show cmpB _ _ < 0
                    simpa using e
              case rest =>
                obtain ⟨bad, rfl, HB1, HB2, HGX⟩ := hcut
                cases bad with
                | true =>
                  have HP : Hid (packD d = .error 1) := Lib.hid (by unfold packD; rw [may_badC d.chs k h1 (by unfold mayC; rw [risesS_eq, HB1.out rfl, Bool.and_false])]; rfl)
                  clear Q55
                  go_wp2_with fail
                  refine bodyPost_ret (results_tmp2 rfl _ _ _) rfl ⟨_, rfl, (HGC.out.trans HGJ.out).trans HGX.out, ?_⟩
                  unfold PackDV
                  rw [HP.out]
                  rfl
                | false =>
                  have HRS2 := Lib.hid (HB2.out rfl)
                  have hgx := HGX.out.size
                  have HOS2 := Lib.hid (HOS.out.gr HGX.out)
                  have HRK2 := Lib.hid (range_gr HRK.out HGX.out hbss)
                  have HRV2 := Lib.hid (range_gr HRV.out HGX.out hbss)
                  have hbsc : bs < wc.heap.size := by omega
                  clear Q55 HRK HRV HB1 HB2
                  obtain ⟨qa, q20, q21, qb, q54, q55⟩ := ch_var ((HGX.out.block _ hlr).trans ((HGJ.out.block _ hlc).trans HRC.out)) HOK.out
                  have Q55 := later_cell (w := wc) (p := ⟨wo.heap.size, 55, none⟩) (by show wo.heap.size < _; omega) q55
                  clear qa q20 q21 qb q54 q55
                  generalize d.chs[k].slots[j] = s at HSOK HTK HRK2 HRV2
                  go_wp2_with fail
                  refine wp_region_N 18 (by kernel_rfl) (by kernel_rfl) (by kernel_rfl) ?_
                  simp only [List.take_succ_cons, List.take_zero, List.drop_succ_cons, List.drop_zero]
                  refine wpN_quiet 6 (by kernel_rfl) ?_
                  simp only [List.take_succ_cons, List.take_zero, List.drop_succ_cons, List.drop_zero]
                  repeat (go_big_quiet_step (fail))
                  refine wpQuiet_nil ?_
                  refine wpN_val (arrV s.key) rfl (by kernel_rfl) (by kernel_rfl) (fun xw => growsTo_load_range (range_gr HRK2.out xw.2 hbsc) HSOK.out.1 rfl rfl) ?_
                  simp only [Act.put, List.setIfInBounds_toArray, List.set_cons_succ, List.set_cons_zero]
                  refine wpN_gen 76 (NewI wc.heap.size (wordI s.key)) rfl rfl (by kernel_rfl) (by kernel_rfl) (stable_newI _ _) (fun xw => growsTo_call (by simp [go_sem]) ((ref_Big s.key HSOK.out.1 _).mono ?_)) ?_
                  · rintro e w' ⟨v, rfl, hg, hv⟩
                    exact ⟨_, rfl, hg, hv.mono (fun b hb => ⟨Nat.le_trans xw.2.size hb.1, hb.2⟩) (fun _ _ => rfl)⟩
                  refine wpN_quiet 5 (by kernel_rfl) ?_
                  simp only [List.take_succ_cons, List.take_zero, List.drop_succ_cons, List.drop_zero]
                  repeat (go_big_quiet_step (fail))
                  refine wpQuiet_nil ?_
                  refine wpN_val (arrV s.val) rfl (by kernel_rfl) (by kernel_rfl) (fun xw => growsTo_load_range (range_gr HRV2.out xw.2 hbsc) HSOK.out.2 rfl rfl) ?_
                  simp only [Act.put, List.setIfInBounds_toArray, List.set_cons_succ, List.set_cons_zero]
                  refine wpN_gen 83 (NewI wc.heap.size (wordI s.val)) rfl rfl (by kernel_rfl) (by kernel_rfl) (stable_newI _ _) (fun xw => growsTo_call (by simp [go_sem]) ((ref_Big s.val HSOK.out.2 _).mono ?_)) ?_
                  · rintro e w' ⟨v, rfl, hg, hv⟩
                    exact ⟨_, rfl, hg, hv.mono (fun b hb => ⟨Nat.le_trans xw.2.size hb.1, hb.2⟩) (fun _ _ => rfl)⟩
                  refine wpN_free 84 (NewIs wc.heap.size [wordI s.key, wordI s.val]) rfl rfl (stable_newIs _ _) (fun b w' hC hb => ?_) ?_
                  · have h21 : NewI wc.heap.size (wordI s.key) (b.tmps.getD 76 undef) w' := hb 76 (by decide)
                    have h24 : NewI wc.heap.size (wordI s.val) (b.tmps.getD 83 undef) w' := hb 83 (by decide)
                    obtain ⟨b1, A1, n1, k1, A2, n2, k2, e1, i1⟩ := newI_form h21
                    obtain ⟨b3, A3, n3, k3, A4, n4, k4, e2, i2⟩ := newI_form h24
                    have hB := hC.gr.size
                    refine growsTo_build2 rfl e1 e2 (newIs_alloc (xs := [wordI s.key, wordI s.val]) (rows := [[.bool b1, .slice A1 n1 k1, .slice A2 n2 k2], [.bool b3, .slice A3 n3 k3, .slice A4 n4 k4]]) hC.gr.size rfl ?_ (by simp [maxLen]) 2 rfl (by omega))
                    rw [ItemsAtP]
                    exact ⟨_, _, rfl, i1, by rw [ItemsAtP]; exact ⟨_, _, rfl, i2, by rw [ItemsAtP]⟩⟩
                  refine wpN_free 85 (NewI wc.heap.size (slotI s)) rfl rfl (stable_newI _ _) (fun b w' hC hb => ?_) ?_
                  · have h25 : NewIs wc.heap.size [wordI s.key, wordI s.val] (b.tmps.getD 84 undef) w' := hb 84 (by decide)
                    have h25' := h25
                    obtain ⟨A5, c5, rows5, e5, _⟩ := h25
                    refine growsTo_call1 rfl enter_List ?_
                    rw [e5] at h25' ⊢
                    refine (r_List _ _ _ _).mono ?_
                    rintro e w'' ⟨_, rfl, hg, rfl⟩
                    exact ⟨_, rfl, hg, stable_newI _ _ _ _ _ hg (newI_list h25')⟩
                  refine wpN_free 86 (NewIs wc.heap.size [slotI s]) rfl rfl (stable_newIs _ _) (fun b w' hC hb => ?_) ?_
                  · have h26 : NewI wc.heap.size (slotI s) (b.tmps.getD 85 undef) w' := hb 85 (by decide)
                    obtain ⟨b1, A1, n1, k1, A2, n2, k2, e1, i1⟩ := newI_form h26
                    refine growsTo_build1 rfl e1 (newIs_alloc (xs := [slotI s]) (rows := [[.bool b1, .slice A1 n1 k1, .slice A2 n2 k2]]) hC.gr.size rfl ?_ (by simp [maxLen]) 1 rfl (by omega))
                    rw [ItemsAtP]
                    exact ⟨_, _, rfl, i1, by rw [ItemsAtP]⟩
                  refine wpN_nil (by kernel_rfl) ?_
                  intro W hW
                  replace hW := hW.gr
                  intro v86 h86 v85 _ v84 _ v83 _ v76 _
                  obtain ⟨A7, c7, rows7, rfl, hk1, hk2, _, hrd7, hit7⟩ := h86
                  unfold finN
                  rw [ItemsAtP] at hit7
                  obtain ⟨r7, rest7, rfl, hir7, hre7⟩ := hit7
                  rw [ItemsAtP] at hre7
                  subst hre7
                  obtain ⟨b7, Ax, nx, cx, Ay, ny, cy, rfl⟩ := hir7.len
                  have HRD7 : Hid (Rd W W.heap.size A7 [.bool b7, .slice Ax nx cx, .slice Ay ny cy]) := Lib.hid (show RdP (fun b => b < W.heap.size) W A7 _ from by simpa using hrd7.mono (ok' := fun b => b < W.heap.size) (fun b hb => hb.2) (fun _ _ => rfl))
                  have HIR7 := Lib.hid hir7
                  have hW2 := hW.size
                  have HOS3 := Lib.hid (HOS2.out.gr hW)
                  have hown : W.ownsRow wb.heap.size 56 3 (.slice A8 j c8) j srows.flatten := by
                    have := HOS3.out.own
                    rwa [HLJ.out] at this
                  have HOW2 := Lib.hid hown
                  clear hrd7 hir7 hown
                  simp only [List.length_cons, List.length_nil] at hk1 ⊢
                  go_wp2_with (at_builtin; refine wpL_append (.tmp 69) (.tmp 86) 54 slT_items (base := wb.heap.size) (.slice A8 j c8) j srows.flatten A7 1 c7 W.heap.size [.bool b7, .slice Ax nx cx, .slice Ay ny cy] rfl rfl rfl rfl HOW2.out HRD7.out rfl (by simp [Value.oneCell']) (by simp only [maxLen]; omega) (by omega) (by omega) ?_; intro A5 c5 w5 hown5 hg5 hbk5; have HOWN5 := Lib.hid hown5; have HG5 := Lib.hid hg5; have HBK5 := Lib.hid hbk5; clear hown5 hg5 hbk5)
                  go_roundw
                  case rel =>
                    have hlt := HOW2.out.lt
                    have hpush := OwnIs.push (x := slotI s) (r := [.bool b7, .slice Ax nx cx, .slice Ay ny cy]) HOS3.out (ItemAtP.mono (fun b hb => ⟨⟨hb.2, fun e => by have := (own_block_lt HOS2.out.own b e); have := hb.1; omega⟩, .inr (by have := hb.1; omega)⟩) (fun _ _ => rfl) _ _ HIR7.out) HG5.out (by rw [HLJ.out]; exact HOWN5.out) HBK5.out
                    rw [← HTK.out] at hpush
                    refine ⟨j + 1, _, by omega, by go_num, HRS2, Lib.hid hpush, by have := HG5.out.size; omega, Lib.hid ?_⟩
                    exact ((HGJ.out.trans HGX.out).trans hW).grown HG5.out (by omega) fun b e => (hlt b e).1
                  case measure => simp [intOf]; omega
            · have HMC : Hid (mayC d.chs[k] = true) := Lib.hid (by
                have := HRS.out
                rw [List.take_of_length_le (by simp; omega)] at this
                unfold mayC
                rw [risesS_eq, this, decide_eq_true HBN.out.1]
                rfl)
              have HDD : Hid ((d.chs[k].slots.take j).map slotI = d.chs[k].slots.map slotI) := Lib.hid (by rw [List.take_of_length_le (by omega)])
              have HTKC : Hid ((d.chs.take (k + 1)).map chI = (d.chs.take k).map chI ++ [chI d.chs[k]]) := Lib.hid (by rw [← List.take_append_getElem h1, List.map_append]; rfl)
              obtain ⟨gn, hgn⟩ : ∃ gn : Nat, gn = (if d.chs[k].gone then 1 else 0 : Nat) := ⟨_, rfl⟩
              go_upto_if 89 with (fail)
              go_cut [9] (fun s9 wx => s9 = .int .i64 (gn : Int) ∧ wx = wr)
              case first =>
                cases hgo : d.chs[k].gone with
                | true =>
                  rw [hgo] at q20
                  go_wp2_with fail
                  go_meet
                  exact ⟨by simp [hgn, hgo], rfl⟩
                | false =>
                  rw [hgo] at q20
                  go_wp2_with fail
                  go_meet
                  exact ⟨by simp [hgn, hgo], rfl⟩
              case rest =>
                obtain ⟨rfl, hwx⟩ := hcut
                subst hwx
                have HGN := Lib.hid hgn
                have hgn1 : gn ≤ 1 := by rw [hgn]; split <;> omega
                clear hgn
                have hgo := HGO.out.size
                have hgc := HG.out.size
                have k1 := fun x : Later wc => slice_addr_all x.1 wo.heap.size 0
                have HQA := Lib.hid qa
                have HQB := Lib.hid qb
                have Q21 := later_cell (w := wc) (p := ⟨wo.heap.size, 21, none⟩) hlr q21
                have Q54 := later_cell (w := wc) (p := ⟨wo.heap.size, 54, none⟩) hlr q54
                have HGW := Lib.hid (HGC.out.trans HGJ.out)
                have HGOW := Lib.hid (HGO.out.trans HGJ.out)
                have HVCW : Hid (IsBP (fun b => b < w.heap.size) wc (.slice Ac d.chs[k].code.length cc) d.chs[k].code) := Lib.hid (HVC.out.mono (fun b hb => hb) fun p hp => HGW.out.cell hp)
                have HMT : Hid (mayTo d.chs (k + 1) = true) := Lib.hid (by
                  have h1' := h1
                  rcases k with _ | m
                  · exact mayTo_one d.chs h1' HMC.out
                  · exact mayTo_succ d.chs m h1' HM.out HMC.out (HBN.out.2 m rfl))
                generalize d.chs[k] = c at *
                clear qa q20 q21 qb q54 q55 HVS2 HRC HGC HGO
                go_wp2_with fail
                refine wp_region_N 21 (by kernel_rfl) (by kernel_rfl) (by kernel_rfl) ?_
                simp only [List.take_succ_cons, List.take_zero, List.drop_succ_cons, List.drop_zero]
                refine wpN_quiet 3 (by kernel_rfl) ?_
                simp only [List.take_succ_cons, List.take_zero, List.drop_succ_cons, List.drop_zero]
                repeat (go_big_quiet_step (fail))
                refine wpQuiet_nil ?_
                refine wpN_gen 93 (NewB wc.heap.size c.addr) rfl rfl (by kernel_rfl) (by kernel_rfl) (stable_newB _ _) (fun xw => growsTo_append_new xw.2.size rfl rfl (isB_range (range_gr HQA.out xw.2 hlr) (Nat.lt_of_lt_of_le hlr xw.2.size) HOK.out.1 (by simp [maxLen])) (by have := HOK.out.1; omega)) ?_
                refine wpN_free 94 (NewI wc.heap.size (bytesI c.addr)) rfl rfl (stable_newI _ _) (fun b w' hC hb => ?_) ?_
                · have h93 : NewB wc.heap.size c.addr (b.tmps.getD 93 undef) w' := hb 93 (by decide)
                  refine growsTo_call1 rfl enter_Bytes ((ref_bytes _ c.addr wc.heap.size w' h93).mono ?_)
                  rintro e w'' ⟨v, rfl, hg, hv⟩
                  exact ⟨_, rfl, hg, hv.mono (fun b hb => ⟨hb.1, Nat.lt_of_lt_of_le hb.2 hg.size⟩) fun _ _ => rfl⟩
                refine wpN_quiet 1 (by kernel_rfl) ?_
                simp only [List.take_succ_cons, List.take_zero, List.drop_succ_cons, List.drop_zero]
                repeat (go_big_quiet_step (fail))
                refine wpQuiet_nil ?_
                refine wpN_gen 96 (NewI wc.heap.size (numI gn)) rfl rfl (by kernel_rfl) (by kernel_rfl) (stable_newI _ _) (fun xw => growsTo_call (by simp [go_sem]) ((ref_Num (gn : Int) _ (by omega) (by omega)).mono ?_)) ?_
                · rintro e w' ⟨v, rfl, hg, hv⟩
                  exact ⟨_, rfl, hg, hv.mono (fun b hb => ⟨Nat.le_trans xw.2.size hb.1, hb.2⟩) (fun _ _ => rfl)⟩
                refine wpN_quiet 2 (by kernel_rfl) ?_
                simp only [List.take_succ_cons, List.take_zero, List.drop_succ_cons, List.drop_zero]
                repeat (go_big_quiet_step (fail))
                refine wpQuiet_nil ?_
                refine wpN_gen 99 (NewI wc.heap.size (numI c.nonce.toNat)) rfl rfl (by kernel_rfl) (by kernel_rfl) (stable_newI _ _) (fun xw => growsTo_call (by simp [go_sem]) ((ref_Num c.nonce _ hnr hnr2).mono ?_)) ?_
                · rintro e w' ⟨v, rfl, hg, hv⟩
                  exact ⟨_, rfl, hg, hv.mono (fun b hb => ⟨Nat.le_trans xw.2.size hb.1, hb.2⟩) (fun _ _ => rfl)⟩
                refine wpN_quiet 1 (by kernel_rfl) ?_
                simp only [List.take_succ_cons, List.take_zero, List.drop_succ_cons, List.drop_zero]
                repeat (go_big_quiet_step (fail))
                refine wpQuiet_nil ?_
                refine wpN_val (arrV c.bal) rfl (by kernel_rfl) (by kernel_rfl) (fun xw => growsTo_load_range (range_gr HQB.out xw.2 hlr) HOK.out.2.1 rfl rfl) ?_
                simp only [Act.put, List.setIfInBounds_toArray, List.set_cons_succ, List.set_cons_zero]
                refine wpN_gen 102 (NewI wc.heap.size (wordI c.bal)) rfl rfl (by kernel_rfl) (by kernel_rfl) (stable_newI _ _) (fun xw => growsTo_call (by simp [go_sem]) ((ref_Big c.bal HOK.out.2.1 _).mono ?_)) ?_
                · rintro e w' ⟨v, rfl, hg, hv⟩
                  exact ⟨_, rfl, hg, hv.mono (fun b hb => ⟨Nat.le_trans xw.2.size hb.1, hb.2⟩) (fun _ _ => rfl)⟩
                refine wpN_quiet 2 (by kernel_rfl) ?_
                simp only [List.take_succ_cons, List.take_zero, List.drop_succ_cons, List.drop_zero]
                repeat (go_big_quiet_step (fail))
                refine wpQuiet_nil ?_
                refine wpN_val (.agg #[.bool false, .slice Ac c.code.length cc, .slice none 0 0]) rfl (by kernel_rfl) (by kernel_rfl) (fun xw => growsTo_call (by simp [go_sem]) ((r_Bytes Ac c.code.length cc _).mono ?_)) ?_
                · rintro e w' ⟨v, rfl, hg, hv⟩
                  exact ⟨_, rfl, hg, hv⟩
                simp only [Act.put, List.setIfInBounds_toArray, List.set_cons_succ, List.set_cons_zero]
                refine wpN_quiet 1 (by kernel_rfl) ?_
                simp only [List.take_succ_cons, List.take_zero, List.drop_succ_cons, List.drop_zero]
                repeat (go_big_quiet_step (fail))
                refine wpQuiet_nil ?_
                refine wpN_val (.agg #[.bool true, .slice none 0 0, .slice A8 j c8]) rfl (by kernel_rfl) (by kernel_rfl) (fun xw => growsTo_call (by simp [go_sem]) ((r_List A8 j c8 _).mono ?_)) ?_
                · rintro e w' ⟨v, rfl, hg, hv⟩
                  exact ⟨_, rfl, hg, hv⟩
                simp only [Act.put, List.setIfInBounds_toArray, List.set_cons_succ, List.set_cons_zero]
                refine wpN_free 108 (PartIs w.heap.size wb.heap.size [bytesI c.addr, numI gn, numI c.nonce.toNat, wordI c.bal, bytesI c.code, listI (c.slots.map slotI)]) rfl rfl (stable_partIs _ _ _) (fun b w' hC hb => ?_) ?_
                · have h33 : NewI wc.heap.size (bytesI c.addr) (b.tmps.getD 94 undef) w' := hb 94 (by decide)
                  have h35 : NewI wc.heap.size (numI gn) (b.tmps.getD 96 undef) w' := hb 96 (by decide)
                  have h38 : NewI wc.heap.size (numI c.nonce.toNat) (b.tmps.getD 99 undef) w' := hb 99 (by decide)
                  have h41 : NewI wc.heap.size (wordI c.bal) (b.tmps.getD 102 undef) w' := hb 102 (by decide)
                  have h44 : b.tmps.getD 105 undef = .agg #[.bool false, .slice Ac c.code.length cc, .slice none 0 0] := hb 105 (by decide)
                  have h45 : b.tmps.getD 107 undef = .agg #[.bool true, .slice none 0 0, .slice A8 j c8] := hb 107 (by decide)
                  have hgb := hC.gr
                  have up : ∀ {x : Raw} {cs : List Value}, ItemAtP (fun k => wc.heap.size ≤ k ∧ k < w'.heap.size) w' x cs → ItemAtP (fun k => (k < w.heap.size ∨ wb.heap.size ≤ k) ∧ k < w'.heap.size) w' x cs := fun h => ItemAtP.mono (fun k hk => ⟨.inr (by have := hk.1; omega), hk.2⟩) (fun _ _ => rfl) _ _ h
                  obtain ⟨a1, A1, n1, k1, A2, n2, k2, e1, i1⟩ := newI_form h33
                  obtain ⟨a2, A3, n3, k3, A4, n4, k4, e2, i2⟩ := newI_form h35
                  obtain ⟨a3, A5, n5, k5, A6, n6, k6, e3, i3⟩ := newI_form h38
                  obtain ⟨a4, A7, n7, k7, A9, n8, k8, e4, i4⟩ := newI_form h41
                  have i5 : ItemAtP (fun k => (k < w.heap.size ∨ wb.heap.size ≤ k) ∧ k < w'.heap.size) w' (bytesI c.code) [.bool false, .slice Ac c.code.length cc, .slice none 0 0] := by
                    obtain ⟨cs5, e5, h5⟩ := itemIn_bytes (ok := fun k => (k < w.heap.size ∨ wb.heap.size ≤ k) ∧ k < w'.heap.size) (w := w') (HVCW.out.mono (fun k hk => ⟨.inl hk, by have := hgb.size; omega⟩) fun p hp => hgb.cell (by omega))
                    obtain rfl : [.bool false, .slice Ac c.code.length cc, .slice none 0 0] = cs5 := by
                      have := congrArg Value.cells e5
                      simpa [Value.cells] using congrArg Array.toList this
                    exact h5
                  have i6 : ItemAtP (fun k => (k < w.heap.size ∨ wb.heap.size ≤ k) ∧ k < w'.heap.size) w' (listI (c.slots.map slotI)) [.bool true, .slice none 0 0, .slice A8 j c8] := by
                    have h6 := partI_list ((HOS.out.gr hgb).part (Nat.le_refl _))
                    rw [HDD.out] at h6
                    obtain ⟨cs6, e6, h6⟩ := h6
                    obtain rfl : [.bool true, .slice none 0 0, .slice A8 j c8] = cs6 := by
                      have := congrArg Value.cells e6
                      simpa [Value.cells] using congrArg Array.toList this
                    exact h6
                  refine growsTo_build6 rfl e1 e2 e3 e4 h44 h45 (partIs_alloc (xs := [bytesI c.addr, numI gn, numI c.nonce.toNat, wordI c.bal, bytesI c.code, listI (c.slots.map slotI)])
                    (rows := [[.bool a1, .slice A1 n1 k1, .slice A2 n2 k2], [.bool a2, .slice A3 n3 k3, .slice A4 n4 k4], [.bool a3, .slice A5 n5 k5, .slice A6 n6 k6], [.bool a4, .slice A7 n7 k7, .slice A9 n8 k8], [.bool false, .slice Ac c.code.length cc, .slice none 0 0], [.bool true, .slice none 0 0, .slice A8 j c8]])
                    (by have := hgb.size; omega) rfl ?_ (by simp [maxLen]) 6 rfl (by omega))
                  rw [ItemsAtP]
                  refine ⟨_, _, rfl, up i1, ?_⟩
                  rw [ItemsAtP]
                  refine ⟨_, _, rfl, up i2, ?_⟩
                  rw [ItemsAtP]
                  refine ⟨_, _, rfl, up i3, ?_⟩
                  rw [ItemsAtP]
                  refine ⟨_, _, rfl, up i4, ?_⟩
                  rw [ItemsAtP]
                  refine ⟨_, _, rfl, i5, ?_⟩
                  rw [ItemsAtP]
                  refine ⟨_, _, rfl, i6, ?_⟩
                  rw [ItemsAtP]
                refine wpN_free 109 (PartI w.heap.size wb.heap.size (chI c)) rfl rfl (stable_partI _ _ _) (fun b w' hC hb => ?_) ?_
                · have h46 : PartIs w.heap.size wb.heap.size [bytesI c.addr, numI gn, numI c.nonce.toNat, wordI c.bal, bytesI c.code, listI (c.slots.map slotI)] (b.tmps.getD 108 undef) w' := hb 108 (by decide)
                  have h46' := h46
                  obtain ⟨A5, c5, rows5, e5, _⟩ := h46
                  refine growsTo_call1 rfl enter_List ?_
                  rw [e5] at h46' ⊢
                  refine (r_List _ _ _ _).mono ?_
                  rintro e w'' ⟨_, rfl, hg, rfl⟩
                  have := partI_list h46'
                  rw [HGN.out] at this
                  exact ⟨_, rfl, hg, stable_partI _ _ _ _ _ _ hg this⟩
                refine wpN_free 110 (PartIs w.heap.size wb.heap.size [chI c]) rfl rfl (stable_partIs _ _ _) (fun b w' hC hb => ?_) ?_
                · have h26 : PartI w.heap.size wb.heap.size (chI c) (b.tmps.getD 109 undef) w' := hb 109 (by decide)
                  obtain ⟨b1, A1, n1, k1, A2, n2, k2, e1, i1⟩ := partI_form h26
                  refine growsTo_build1 rfl e1 (partIs_alloc (xs := [chI c]) (rows := [[.bool b1, .slice A1 n1 k1, .slice A2 n2 k2]]) (by have := hC.gr.size; omega) rfl ?_ (by simp [maxLen]) 1 rfl (by omega))
                  rw [ItemsAtP]
                  exact ⟨_, _, rfl, i1, by rw [ItemsAtP]⟩
                refine wpN_nil (by kernel_rfl) ?_
                intro W hW
                replace hW := hW.gr
                intro v110 h110 v109 _ v108 _ v102 _ v99 _ v96 _ v94 _ v93 _
                obtain ⟨A7, c7, rows7, rfl, hk1, hk2, _, hrd7, hit7⟩ := h110
                unfold finN
                simp only [Act.put, List.setIfInBounds_toArray, List.set_cons_succ, List.set_cons_zero]
                rw [ItemsAtP] at hit7
                obtain ⟨r7, rest7, rfl, hir7, hre7⟩ := hit7
                rw [ItemsAtP] at hre7
                subst hre7
                obtain ⟨b7, Ax, nx, cx, Ay, ny, cy, rfl⟩ := hir7.len
                have HRD7 : Hid (Rd W W.heap.size A7 [.bool b7, .slice Ax nx cx, .slice Ay ny cy]) := Lib.hid (show RdP (fun b => b < W.heap.size) W A7 _ from by simpa using hrd7.mono (ok' := fun b => b < W.heap.size) (fun b hb => hb.2) (fun _ _ => rfl))
                have HIR7 := Lib.hid hir7
                have hW2 := hW.size
                have HOW3 := Lib.hid (HOW.out.gr (HGOW.out.trans hW))
                have hlk : ((d.chs.take k).map chI).length = k := by rw [List.length_map, List.length_take]; omega
                have HLK := Lib.hid hlk
                have hown : W.ownsRow (w.heap.size + 1) 56 3 (.slice A0 k c0) k rows.flatten := by
                  have := HOW3.out.own
                  rwa [hlk] at this
                have HOW2 := Lib.hid hown
                have hbig := HSM.out.1
                clear hrd7 hir7 hown hlk
                simp only [List.length_cons, List.length_nil] at hk1 ⊢
                go_wp2_with (at_builtin; refine wpL_append (.tmp 90) (.tmp 110) 54 slT_items (base := w.heap.size + 1) (.slice A0 k c0) k rows.flatten A7 1 c7 W.heap.size [.bool b7, .slice Ax nx cx, .slice Ay ny cy] rfl rfl rfl rfl HOW2.out HRD7.out rfl (by simp [Value.oneCell']) (by simp only [maxLen]; omega) (by omega) (by omega) ?_; intro A5 c5 w5 hown5 hg5 hbk5; have HOWN5 := Lib.hid hown5; have HG5 := Lib.hid hg5; have HBK5 := Lib.hid hbk5; clear hown5 hg5 hbk5)
                go_roundw
                case rel =>
                  have hlt := HOW.out.own.lt
                  have hpush := OwnIs.push (x := chI c) (r := [.bool b7, .slice Ax nx cx, .slice Ay ny cy]) HOW3.out (ItemAtP.mono (fun b hb => ⟨⟨hb.2, fun e => by have := hlt b e; have := hb.1; omega⟩, trivial⟩) (fun _ _ => rfl) _ _ HIR7.out) HG5.out (by rw [HLK.out]; exact HOWN5.out) HBK5.out
                  rw [← HTKC.out] at hpush
                  refine ⟨k + 1, _, by omega, by go_num, HMT, Lib.hid hpush, Lib.hid ?_, by have := HG5.out.size; omega, Lib.hid ?_⟩
                  · rw [HG5.out.block _ (by omega) (fun e => by have := hlt _ e.symm; omega), (HGOW.out.trans hW).block _ (lt_of_some HR.out)]
                    exact HR.out
                  · exact (HGW.out.trans hW).grown HG5.out (by omega) fun b e => by have := hlt b e; omega
                case measure => simp [intOf]; omega
    · have HDD : Hid ((d.chs.take k).map chI = d.chs.map chI) := Lib.hid (by rw [List.take_of_length_le (by omega)])
      have HMY : Hid (may d.chs = true) := Lib.hid (by rw [← mayTo_all d.chs k (by omega)]; exact HM.out)
      obtain ⟨qi, qp, _⟩ := df_var HR.out HDOK.out
      have hl0 := lt_of_some HR.out
      have HQI := Lib.hid qi
      have HQP := Lib.hid qp
      have k1 := fun x : Later wo => slice_word_off x.1 w.heap.size 0
      have k2 := fun x : Later wo => slice_word_off x.1 w.heap.size 32
      have HLI : Hid (IsItem wo (.agg #[.bool true, .slice none 0 0, .slice A0 k c0]) (listI (d.chs.map chI))) := Lib.hid (by rw [← HDD.out]; exact HOW.out.list)
      clear qi qp
      go_wp2_with fail
      cases hp : packed (dfI d) with
      | none =>
        have HP : Hid (packD d = .error 3) := Lib.hid (by unfold packD; rw [HMY.out, hp]; rfl)
        refine wp_region_N 15 (by kernel_rfl) (by kernel_rfl) (by kernel_rfl) ?_
        simp only [List.take_succ_cons, List.take_zero, List.drop_succ_cons, List.drop_zero]
        refine wpN_quiet 2 (by kernel_rfl) ?_
        simp only [List.take_succ_cons, List.take_zero, List.drop_succ_cons, List.drop_zero]
        repeat (go_big_quiet_step (fail))
        refine wpQuiet_nil ?_
        refine wpN_val (.agg #[.bool false, .slice (some ⟨w.heap.size, 0, none⟩) 32 32, .slice none 0 0]) rfl (by kernel_rfl) (by kernel_rfl) (fun xw => growsTo_call (by simp [go_sem]) ((r_Bytes (some ⟨w.heap.size, 0, none⟩) 32 32 _).mono ?_)) ?_
        · rintro e w' ⟨v, rfl, hg, hv⟩
          exact ⟨_, rfl, hg, hv⟩
        simp only [Act.put, List.setIfInBounds_toArray, List.set_cons_succ, List.set_cons_zero]
        refine wpN_quiet 2 (by kernel_rfl) ?_
        simp only [List.take_succ_cons, List.take_zero, List.drop_succ_cons, List.drop_zero]
        repeat (go_big_quiet_step (fail))
        refine wpQuiet_nil ?_
        refine wpN_val (.agg #[.bool false, .slice (some ⟨w.heap.size, 32, none⟩) 32 32, .slice none 0 0]) rfl (by kernel_rfl) (by kernel_rfl) (fun xw => growsTo_call (by simp [go_sem]) ((r_Bytes (some ⟨w.heap.size, 32, none⟩) 32 32 _).mono ?_)) ?_
        · rintro e w' ⟨v, rfl, hg, hv⟩
          exact ⟨_, rfl, hg, hv⟩
        simp only [Act.put, List.setIfInBounds_toArray, List.set_cons_succ, List.set_cons_zero]
        refine wpN_quiet 1 (by kernel_rfl) ?_
        simp only [List.take_succ_cons, List.take_zero, List.drop_succ_cons, List.drop_zero]
        repeat (go_big_quiet_step (fail))
        refine wpQuiet_nil ?_
        refine wpN_val (.agg #[.bool true, .slice none 0 0, .slice A0 k c0]) rfl (by kernel_rfl) (by kernel_rfl) (fun xw => growsTo_call (by simp [go_sem]) ((r_List A0 k c0 _).mono ?_)) ?_
        · rintro e w' ⟨v, rfl, hg, hv⟩
          exact ⟨_, rfl, hg, hv⟩
        simp only [Act.put, List.setIfInBounds_toArray, List.set_cons_succ, List.set_cons_zero]
        refine wpN_free 120 (NewIs 0 [bytesI d.id, bytesI d.par, listI (d.chs.map chI)]) rfl rfl (stable_newIs _ _) (fun b w' hC hb => ?_) ?_
        · have h1 : b.tmps.getD 114 undef = .agg #[.bool false, .slice (some ⟨w.heap.size, 0, none⟩) 32 32, .slice none 0 0] := hb 114 (by decide)
          have h2 : b.tmps.getD 117 undef = .agg #[.bool false, .slice (some ⟨w.heap.size, 32, none⟩) 32 32, .slice none 0 0] := hb 117 (by decide)
          have h3 : b.tmps.getD 119 undef = .agg #[.bool true, .slice none 0 0, .slice A0 k c0] := hb 119 (by decide)
          have hgb := hC.gr
          have hl1 := Nat.lt_of_lt_of_le hl0 hgb.size
          have i1 : IsItem w' (.agg #[.bool false, .slice (some ⟨w.heap.size, 0, none⟩) 32 32, .slice none 0 0]) (bytesI d.id) := isItem_mk (isB_range (range_gr HQI.out hgb hl0) hl1 HDOK.out.1 (by simp [maxLen])) (IsItems.nil _)
          have i2 : IsItem w' (.agg #[.bool false, .slice (some ⟨w.heap.size, 32, none⟩) 32 32, .slice none 0 0]) (bytesI d.par) := isItem_mk (isB_range (range_gr HQP.out hgb hl0) hl1 HDOK.out.2.1 (by simp [maxLen])) (IsItems.nil _)
          have i3 := HLI.out.gr hgb
          refine growsTo_build3 rfl h1 h2 h3 (newIs_alloc (xs := [bytesI d.id, bytesI d.par, listI (d.chs.map chI)]) (rows := [[.bool false, .slice (some ⟨w.heap.size, 0, none⟩) 32 32, .slice none 0 0], [.bool false, .slice (some ⟨w.heap.size, 32, none⟩) 32 32, .slice none 0 0], [.bool true, .slice none 0 0, .slice A0 k c0]]) (Nat.zero_le _) rfl ?_ (by simp [maxLen]) 3 rfl (by omega))
          rw [ItemsAtP]
          refine ⟨_, _, rfl, isItem_parts i1, ?_⟩
          rw [ItemsAtP]
          refine ⟨_, _, rfl, isItem_parts i2, ?_⟩
          rw [ItemsAtP]
          refine ⟨_, _, rfl, isItem_parts i3, ?_⟩
          rw [ItemsAtP]
        refine wpN_free 121 (NewI 0 (dfI d)) rfl rfl (stable_newI _ _) (fun b w' hC hb => ?_) ?_
        · have h34 : NewIs 0 [bytesI d.id, bytesI d.par, listI (d.chs.map chI)] (b.tmps.getD 120 undef) w' := hb 120 (by decide)
          have h34' := h34
          obtain ⟨A5, c5, rows5, e5, _⟩ := h34
          refine growsTo_call1 rfl enter_List ?_
          rw [e5] at h34' ⊢
          refine (r_List _ _ _ _).mono ?_
          rintro e w'' ⟨_, rfl, hg, rfl⟩
          exact ⟨_, rfl, hg, stable_newI _ _ _ _ _ hg (newI_list h34')⟩
        refine wpN_conv 121 _ (.tuple #[.slice none 0 0, .int .i64 3]) (by decide) rfl (by kernel_rfl) (by kernel_rfl) (fun b w' _ h => growsTo_call1 rfl enter_Pack ((ref_Pack _ (dfI d) _ (ItemIn.is h fun b hb => hb.2)).mono ?_)) ?_
        · rintro e w'' ⟨v, rfl, hg, hv⟩
          exact ⟨_, rfl, hg, packV2_none' hp hv⟩
        simp only [Act.put, List.setIfInBounds_toArray, List.set_cons_succ, List.set_cons_zero]
        refine wpN_quiet 4 (by kernel_rfl) ?_
        simp only [List.take_succ_cons, List.take_zero, List.drop_succ_cons, List.drop_zero]
        repeat (go_big_quiet_step (fail))
        refine wpQuiet_nil ?_
        refine wpN_nil (by kernel_rfl) ?_
        intro W hW
        replace hW := hW.gr
        intro v121 _ v120 _
        unfold finN
        simp only [Act.put, List.setIfInBounds_toArray, List.set_cons_succ, List.set_cons_zero]
        go_wp2_with fail
        refine bodyPost_ret (results_tmp2 rfl _ _ _) rfl ⟨_, rfl, HG.out.trans hW, ?_⟩
        unfold PackDV
        rw [HP.out]
        rfl
      | some bb =>
        have HP : Hid (packD d = .ok bb) := Lib.hid (by unfold packD; rw [HMY.out, hp]; rfl)
        refine wp_region_N 15 (by kernel_rfl) (by kernel_rfl) (by kernel_rfl) ?_
        simp only [List.take_succ_cons, List.take_zero, List.drop_succ_cons, List.drop_zero]
        refine wpN_quiet 2 (by kernel_rfl) ?_
        simp only [List.take_succ_cons, List.take_zero, List.drop_succ_cons, List.drop_zero]
        repeat (go_big_quiet_step (fail))
        refine wpQuiet_nil ?_
        refine wpN_val (.agg #[.bool false, .slice (some ⟨w.heap.size, 0, none⟩) 32 32, .slice none 0 0]) rfl (by kernel_rfl) (by kernel_rfl) (fun xw => growsTo_call (by simp [go_sem]) ((r_Bytes (some ⟨w.heap.size, 0, none⟩) 32 32 _).mono ?_)) ?_
        · rintro e w' ⟨v, rfl, hg, hv⟩
          exact ⟨_, rfl, hg, hv⟩
        simp only [Act.put, List.setIfInBounds_toArray, List.set_cons_succ, List.set_cons_zero]
        refine wpN_quiet 2 (by kernel_rfl) ?_
        simp only [List.take_succ_cons, List.take_zero, List.drop_succ_cons, List.drop_zero]
        repeat (go_big_quiet_step (fail))
        refine wpQuiet_nil ?_
        refine wpN_val (.agg #[.bool false, .slice (some ⟨w.heap.size, 32, none⟩) 32 32, .slice none 0 0]) rfl (by kernel_rfl) (by kernel_rfl) (fun xw => growsTo_call (by simp [go_sem]) ((r_Bytes (some ⟨w.heap.size, 32, none⟩) 32 32 _).mono ?_)) ?_
        · rintro e w' ⟨v, rfl, hg, hv⟩
          exact ⟨_, rfl, hg, hv⟩
        simp only [Act.put, List.setIfInBounds_toArray, List.set_cons_succ, List.set_cons_zero]
        refine wpN_quiet 1 (by kernel_rfl) ?_
        simp only [List.take_succ_cons, List.take_zero, List.drop_succ_cons, List.drop_zero]
        repeat (go_big_quiet_step (fail))
        refine wpQuiet_nil ?_
        refine wpN_val (.agg #[.bool true, .slice none 0 0, .slice A0 k c0]) rfl (by kernel_rfl) (by kernel_rfl) (fun xw => growsTo_call (by simp [go_sem]) ((r_List A0 k c0 _).mono ?_)) ?_
        · rintro e w' ⟨v, rfl, hg, hv⟩
          exact ⟨_, rfl, hg, hv⟩
        simp only [Act.put, List.setIfInBounds_toArray, List.set_cons_succ, List.set_cons_zero]
        refine wpN_free 120 (NewIs 0 [bytesI d.id, bytesI d.par, listI (d.chs.map chI)]) rfl rfl (stable_newIs _ _) (fun b w' hC hb => ?_) ?_
        · have h1 : b.tmps.getD 114 undef = .agg #[.bool false, .slice (some ⟨w.heap.size, 0, none⟩) 32 32, .slice none 0 0] := hb 114 (by decide)
          have h2 : b.tmps.getD 117 undef = .agg #[.bool false, .slice (some ⟨w.heap.size, 32, none⟩) 32 32, .slice none 0 0] := hb 117 (by decide)
          have h3 : b.tmps.getD 119 undef = .agg #[.bool true, .slice none 0 0, .slice A0 k c0] := hb 119 (by decide)
          have hgb := hC.gr
          have hl1 := Nat.lt_of_lt_of_le hl0 hgb.size
          have i1 : IsItem w' (.agg #[.bool false, .slice (some ⟨w.heap.size, 0, none⟩) 32 32, .slice none 0 0]) (bytesI d.id) := isItem_mk (isB_range (range_gr HQI.out hgb hl0) hl1 HDOK.out.1 (by simp [maxLen])) (IsItems.nil _)
          have i2 : IsItem w' (.agg #[.bool false, .slice (some ⟨w.heap.size, 32, none⟩) 32 32, .slice none 0 0]) (bytesI d.par) := isItem_mk (isB_range (range_gr HQP.out hgb hl0) hl1 HDOK.out.2.1 (by simp [maxLen])) (IsItems.nil _)
          have i3 := HLI.out.gr hgb
          refine growsTo_build3 rfl h1 h2 h3 (newIs_alloc (xs := [bytesI d.id, bytesI d.par, listI (d.chs.map chI)]) (rows := [[.bool false, .slice (some ⟨w.heap.size, 0, none⟩) 32 32, .slice none 0 0], [.bool false, .slice (some ⟨w.heap.size, 32, none⟩) 32 32, .slice none 0 0], [.bool true, .slice none 0 0, .slice A0 k c0]]) (Nat.zero_le _) rfl ?_ (by simp [maxLen]) 3 rfl (by omega))
          rw [ItemsAtP]
          refine ⟨_, _, rfl, isItem_parts i1, ?_⟩
          rw [ItemsAtP]
          refine ⟨_, _, rfl, isItem_parts i2, ?_⟩
          rw [ItemsAtP]
          refine ⟨_, _, rfl, isItem_parts i3, ?_⟩
          rw [ItemsAtP]
        refine wpN_free 121 (NewI 0 (dfI d)) rfl rfl (stable_newI _ _) (fun b w' hC hb => ?_) ?_
        · have h34 : NewIs 0 [bytesI d.id, bytesI d.par, listI (d.chs.map chI)] (b.tmps.getD 120 undef) w' := hb 120 (by decide)
          have h34' := h34
          obtain ⟨A5, c5, rows5, e5, _⟩ := h34
          refine growsTo_call1 rfl enter_List ?_
          rw [e5] at h34' ⊢
          refine (r_List _ _ _ _).mono ?_
          rintro e w'' ⟨_, rfl, hg, rfl⟩
          exact ⟨_, rfl, hg, stable_newI _ _ _ _ _ hg (newI_list h34')⟩
        refine wpN_free 122 (fun v w => ∃ vb, v = .tuple #[vb, .int .i64 0] ∧ IsB w vb bb) rfl rfl (fun v w w' hg ⟨vb, e, h⟩ => ⟨vb, e, h.gr hg⟩) (fun b w' hC hb => ?_) ?_
        · have h35 : NewI 0 (dfI d) (b.tmps.getD 121 undef) w' := hb 121 (by decide)
          refine growsTo_call1 rfl enter_Pack ((ref_Pack _ (dfI d) _ (ItemIn.is h35 fun b hb => hb.2)).mono ?_)
          rintro e w'' ⟨v, rfl, hg, hv⟩
          exact ⟨_, rfl, hg, packV2_some' hp hv⟩
        refine wpN_free 123 (fun v w => IsB w v bb) rfl rfl (stable_isB _) (fun b w' hC hb => ?_) ?_
        · obtain ⟨vb, e, h⟩ : ∃ vb, b.tmps.getD 122 undef = .tuple #[vb, .int .i64 0] ∧ IsB w' vb bb := hb 122 (by decide)
          exact growsTo_ext 0 rfl e rfl h
        refine wpN_conv 122 _ (.int .i64 0) (by decide) rfl (by kernel_rfl) (by kernel_rfl) (fun b w' _ h => ?_) ?_
        · obtain ⟨vb, e, h⟩ := h
          exact growsTo_ext 1 rfl e rfl rfl
        simp only [Act.put, List.setIfInBounds_toArray, List.set_cons_succ, List.set_cons_zero]
        refine wpN_copy 2 123 _ rfl (.inr rfl) rfl rfl (stable_isB _) ?_
        refine wpN_quiet 1 (by kernel_rfl) ?_
        simp only [List.take_succ_cons, List.take_zero, List.drop_succ_cons, List.drop_zero]
        repeat (go_big_quiet_step (fail))
        refine wpQuiet_nil ?_
        refine wpN_nil (by kernel_rfl) ?_
        intro W hW
        replace hW := hW.gr
        intro v2 h2 v123 _ v122 _ v121 _ v120 _
        unfold finN
        simp only [Act.put, List.setIfInBounds_toArray, List.set_cons_succ, List.set_cons_zero]
        have HV2 := Lib.hid h2
        go_wp2_with fail
        refine bodyPost_ret (results_tmp2 rfl _ _ _) rfl ⟨_, rfl, HG.out.trans hW, ?_⟩
        unfold PackDV
        rw [HP.out]
        exact ⟨v2, rfl, HV2.out⟩
end Go.Proofs.Ytekacgocjplfjaa
/-
  The abstract machine: an array seen as a slice, copy into a variable's array, a copy of bytes in new memory.
  Conditions: none.
-/
namespace Go.Proofs.Ytekacgocjplfjaa
set_option linter.unusedVariables false
open Go.RowKit Mono Rlp
namespace E
/-- Arrays of n bytes. -/
structure SliceA (T n : Nat) : Prop where
  ok : ∀ w g o, (Instr.sliceAt T (.pointer (some ⟨g, o, none⟩)) none none none).run Try.prog w = .ok (.slice (some ⟨g, o, none⟩) n n) w
section
variable {N : Nat} {X : Cx N} {S : St} {ops : Array Oper} {o : Oper} {Q : Exit → Act → World → Prop} {l : List Oper} {TT : St → List Fr → Prop} {EE : List Fr} {rs : List (Tmp × R)} {os : List Obj} {fs : List (Value × D)}
theorem g_slarr {x : Operand} {T n g k : Nat} (hA : SliceA T n) (ho : o.op = .slice T x none none none) (hx : ev S x = some (.val (.v (.pointer (some ⟨g, k, none⟩))))) : Still ops S o (.val (.v (.slice (some ⟨g, k, none⟩) n n))) := fun base ok a w ha => by
  have hx' := ev_v ha hx fun t e => looks_of e (by rw [ho]; simp [Op.operands])
  refine ⟨_, ?_, v_mk rfl⟩
  unfold execOp
  simp only [ho, hx', Option.map_none, Sem.run_bind, hA.ok w g k, Result.andThen_ok, Sem.run_pure]
theorem P_slarr {t ty : Nat} {pos : String} {af : Array Edge} {gd : Option (Nat × Bool)} {x : Operand} {T n g k : Nat} (hA : SliceA T n) (hx : ev (⟨rs, os, fs⟩ : St) x = some (.val (.v (.pointer (some ⟨g, k, none⟩))))) (hg : guardOf ops ⟨rs, os, fs⟩ ⟨some t, .slice T x none none none, ty, pos, af, gd⟩ = some true) (hN : Nat.blt t N = true) (kk : EL X ops Q l ⟨(t, .val (.v (.slice (some ⟨g, k, none⟩) n n))) :: rs, os, fs⟩) : EL X ops Q (⟨some t, .slice T x none none none, ty, pos, af, gd⟩ :: l) ⟨rs, os, fs⟩ := ES.still (g_slarr hA rfl hx) hg rfl hN kk
theorem H_slarr {t ty : Nat} {pos : String} {af : Array Edge} {gd : Option (Nat × Bool)} {x : Operand} {T n g k : Nat} (hA : SliceA T n) (hx : ev (⟨rs, os, fs⟩ : St) x = some (.val (.v (.pointer (some ⟨g, k, none⟩))))) (hg : guardOf ops ⟨rs, os, fs⟩ ⟨some t, .slice T x none none none, ty, pos, af, gd⟩ = some true) (hoff : offB N (some t) EE = true) (kk : EM N ops TT l ⟨(t, .val (.v (.slice (some ⟨g, k, none⟩) n n))) :: rs, os, fs⟩ EE) : EM N ops TT (⟨some t, .slice T x none none none, ty, pos, af, gd⟩ :: l) ⟨rs, os, fs⟩ EE := EH.still (g_slarr hA rfl hx) hg rfl hoff kk
/-- 'copy' of as many bytes as the array has, into a variable's array. -/
theorem EL.copy {T U e b g n k c : Nat} {x y : Operand} {t : TypeId} {d d'' : D} {m : List UInt8} (i : Nat) (ho : o.op = .call { callee := .builtin .copy, args := #[x, y], argTypes := #[T, U] }) (hg : guardOf ops S o = some true) (hd : ∀ t, o.dst = some t → t < N) (hT : assoc slL T = some (e, 1, b))
    (hx : ev S x = some (.val (.v (.slice (some ⟨g, n, none⟩) k c)))) (hi : S.objs[i]? = some (.var g t d)) (hy : ev S y = some (.val (.bs m))) (hm : m.length = k) (h0 : Nat.blt 0 k = true) (hu : d.upd n (.arr k m) = some d'')
    (kk : EL X ops Q l (St.put ⟨S.regs, S.objs.set i (.var g t d''), S.facts⟩ o.dst (.val (.v (.int .i64 (k : Int)))))) : EL X ops Q (o :: l) S := by
  constructor
  intro a w ha
  have hk := ha.kn fun t => t ∈ o.looksAt ops
  have hx' := ev_v hk hx fun t e => looks_of e (by rw [ho]; simp [Op.operands, Call.operands])
  obtain ⟨A, c', h1, h2, h3, h4⟩ := bs_ex (hk.ev hy fun t e => looks_of e (by rw [ho]; simp [Op.operands, Call.operands]))
  have h0' : 0 < k := by simpa using h0
  obtain ⟨bl, o', rfl, hb, hc⟩ := h4 (fun e => by have := congrArg List.length e; rw [bvs_length] at this; simp at this; rw [this] at hm; simp at hm; omega)
  obtain ⟨hge, cs, h5, h6⟩ := ha.mem.var hi
  have hnew : Reads (X.ok S.objs w) w (.arr k m) (bvs m) := by rw [Reads]; exact ⟨hm, rfl⟩
  obtain ⟨e1, e2, pre, mid, post, rfl, h7, h8, h9⟩ := upd_spec d n (.arr k m) d'' cs (bvs m) hu h6 hnew
  have hcell : ∀ j, j < (bvs m).length → (w.cell? ⟨g, n + j, none⟩).isSome = true := fun j hj => by
    rw [cell_of_row w g (n + j) _ t (0, 0) h5]
    simp only [List.getElem?_toArray, List.append_assoc]
    rw [List.getElem?_append_right (by omega), List.getElem?_append_left (by omega)]
    simp
    omega
  have hf : ∀ j, j < (bvs m).length → w.frozen? ⟨g, n + j, none⟩ = false := fun j _ => by simp [World.frozen?, h5]
  have hsl := slI hT
  have hrun := run_copy_cells (P := Try.prog) w T U o.type e g n k c ⟨bl, o', none⟩ m.length c' (bvs m) hsl.und hsl.size (by rw [bvs_length, hm]; simp) (fun j v hv => by rw [add_none]; exact hc j v hv) hcell hf (bvs_one m)
  unfold wpList
  rw [if_pos (wanted_of ha hg)]
  refine .inl ?_
  unfold Oper.wp execOp
  simp only [ho, resolve, invoke, builtin, Sem.run_bind, Sem.run_pure, Result.andThen_ok, List.map_toArray, List.map_cons, List.map_nil, hx', h1, hrun]
  have ht := ha.turn (q := .var g t d'') (w' := w.setCells g n (bvs m)) hi (grownBy_setCells g (bvs m) n w) (.inl rfl) fun hok hcell => ⟨hge, pre ++ bvs m ++ post, by
    have := setCells_row (bvs m) pre mid post w h8 h5
    rwa [h7] at this, Reads.mono hok hcell _ _ h9⟩
  rw [bvs_length, hm]
  exact kk.go _ _ (ht.put hd (v_mk rfl))
/-- A copy of bytes. -/
theorem g_apnew {x : Operand} {m : List UInt8} (ho : o.op = .call { callee := .builtin .append, args := #[.const (.slice none 0 0), x], argTypes := #[29, 29] }) (hx : ev S x = some (.val (.bs m))) (hl : m.length ≤ 140737488355328) : Grows ops S o (· = .val (.bs m)) := fun base ok a w ha => by
  have hr := ha.ev hx fun t e => looks_of e (by rw [ho]; simp [Op.operands, Call.operands])
  refine growsTo_mono (fun v w' hg hv => ⟨_, rfl, (readV_one rfl).2 (by rw [Reads]; exact ⟨v, rfl, IsBP.mono hv (fun b hb => ⟨.inr hb.1, hb.2⟩) fun _ _ => rfl⟩)⟩) (growsTo_append_new (B := w.heap.size) (Nat.le_refl _) ho rfl (isB_of ha.lt hr) hl)
theorem P_apnew {t ty : Nat} {pos : String} {af : Array Edge} {gd : Option (Nat × Bool)} {x : Operand} {m : List UInt8} (hl : m.length ≤ 140737488355328) (hx : ev (⟨rs, os, fs⟩ : St) x = some (.val (.bs m))) (hg : guardOf ops ⟨rs, os, fs⟩ ⟨some t, .call { callee := .builtin .append, args := #[.const (.slice none 0 0), x], argTypes := #[29, 29] }, ty, pos, af, gd⟩ = some true) (hN : Nat.blt t N = true) (kk : EL X ops Q l ⟨(t, .val (.bs m)) :: rs, os, fs⟩) : EL X ops Q (⟨some t, .call { callee := .builtin .append, args := #[.const (.slice none 0 0), x], argTypes := #[29, 29] }, ty, pos, af, gd⟩ :: l) ⟨rs, os, fs⟩ := ES.grow (g_apnew rfl hx hl) hg rfl hN kk
theorem P_copy {t ty : Nat} {pos : String} {af : Array Edge} {gd : Option (Nat × Bool)} {T U e b g n k c : Nat} {x y : Operand} {tv : TypeId} {d d'' : D} {m : List UInt8} (i : Nat) (hm : m.length = k) (hx : ev (⟨rs, os, fs⟩ : St) x = some (.val (.v (.slice (some ⟨g, n, none⟩) k c)))) (hy : ev (⟨rs, os, fs⟩ : St) y = some (.val (.bs m))) (hi : os[i]? = some (.var g tv d)) (hT : assoc slL T = some (e, 1, b)) (h0 : Nat.blt 0 k = true) (hu : d.upd n (.arr k m) = some d'') (hg : guardOf ops ⟨rs, os, fs⟩ ⟨some t, .call { callee := .builtin .copy, args := #[x, y], argTypes := #[T, U] }, ty, pos, af, gd⟩ = some true) (hN : Nat.blt t N = true) (kk : EL X ops Q l ⟨(t, .val (.v (.int .i64 (k : Int)))) :: rs, os.set i (.var g tv d''), fs⟩) : EL X ops Q (⟨some t, .call { callee := .builtin .copy, args := #[x, y], argTypes := #[T, U] }, ty, pos, af, gd⟩ :: l) ⟨rs, os, fs⟩ :=
  EL.copy i rfl hg (dst_lt rfl hN) hT hx hi hy hm h0 hu kk
end
theorem sl_word : SliceA 23 32 := ⟨fun w g o => slice_word_off w g o⟩
end E
end Go.Proofs.Ytekacgocjplfjaa
