/-
  Merged (wip/tools/merge.py): JPack, Push2.
  Conditions: none.
-/
import Derived.Test.YtekacgocjplfjaaZJ13
import Derived.Test.YtekacgocjplfjaaZJ10
/-
  journal: Pack.
  Conditions: none.
-/
namespace Go.Proofs.Ytekacgocjplfjaa
set_option linter.unusedVariables false
open Go.RowKit Mono Rlp Jn

theorem df_var {w : World} {g : Nat} {d : Df} {vl : Value} {t : TypeId} (h : w.heap[g]? = some (.cells (dfC d vl).toArray t (0, 0))) (hd : d.ok) :
    w.rangeAt g 0 (bvs d.id) ∧ w.rangeAt g 32 (bvs d.par) ∧ w.cell? ⟨g, 64, none⟩ = some vl := by
  have := df_parts (range_row h) hd
  simpa using this
/-- What Pack tells. -/
def PackDV (d : Df) : VP := fun v w => match packD d with
  | .ok b => ∃ vb, v = .tuple #[vb, .int .i64 0] ∧ IsB w vb b
  | .error e => v = .tuple #[.slice none 0 0, .int .i64 (e : Int)]
theorem packDV_ok {d : Df} {b : List UInt8} {v : Value} {w : World} (h : packD d = .ok b) (hv : PackDV d v w) : ∃ vb, v = .tuple #[vb, .int .i64 0] ∧ IsB w vb b := by unfold PackDV at hv; rw [h] at hv; exact hv
theorem packDV_err {d : Df} {e : Nat} {v : Value} {w : World} (h : packD d = .error e) (hv : PackDV d v w) : v = .tuple #[.slice none 0 0, .int .i64 (e : Int)] := by unfold PackDV at hv; rw [h] at hv; exact hv
/-- How great a diff may be here. -/
def Jn.Df.small (d : Df) : Prop := d.chs.length ≤ 1000000 ∧ ∀ c ∈ d.chs, c.code.length ≤ 140737488355328 ∧ c.slots.length ≤ 2199023255552
theorem growsTo_load_row {w : World} {g : Nat} {cs : Array Value} {t ty : TypeId} {d : TypeDesc} (h : w.heap[g]? = some (.cells cs t (0, 0))) (hu : Try.prog.underlying ty = some d) (hd : d.isRow = true) (hi : (Try.prog.info? ty).map (·.size) = some cs.size) {op : Oper} {a : Act} {x : Operand} (ho : op.op = .load ty x) (hx : a.eval x = .pointer (some ⟨g, 0, none⟩)) :
    growsTo Try.prog (eqV (.agg cs)) w ((execOp a.eval op).run Try.prog w) := by
  have hr := run_loadAt_mid (P := Try.prog) w g 0 ty cs.toList d (range_row (t := t) (by simpa using h)) hu hd (by simpa using hi)
  unfold execOp
  simp only [ho, hx, Sem.run_bind, Sem.run_pure, Result.andThen_ok, hr]
  exact ⟨Gr.refl w, by simp [eqV]⟩
theorem slice_word_off (w : World) (g o : Nat) : (Instr.sliceAt 23 (.pointer (some ⟨g, o, none⟩)) none none none).run Try.prog w = .ok (.slice (some ⟨g, o, none⟩) 32 32) w := by
  have hn : Try.prog.arrayLen 23 = 32 := by kernel_rfl
  have hs : (sizeOf (Try.prog.elem 23)).run Try.prog w = .ok 1 w := by kernel_rfl
  rw [run_sliceAt_array_all (P := Try.prog) w 23 ⟨g, o, none⟩ (by kernel_rfl), hs]
  simp [slicedAt, hn, add_none, Result.andThen]
theorem growsTo_ext {V : VP} {w : World} {o : Oper} {b : Act} {t : Tmp} {x y z : Value} (i : Nat) (ho : o.op = .extract (.tmp t) i) (e : b.tmps.getD t undef = .tuple #[x, y]) (hi : (#[x, y] : Array Value)[i]? = some z) (h : V z w) : growsTo Try.prog V w ((execOp b.eval o).run Try.prog w) := by
  have hr : (Instr.extract (.tuple #[x, y]) i).run Try.prog w = .ok z w := by
    unfold Instr.extract
    simp [hi]
  unfold execOp
  simp only [ho, Act.eval, e, Sem.run_bind, Sem.run_pure, hr, Result.andThen_ok]
  exact ⟨Gr.refl w, h⟩
theorem enter_pack (args : Array Value) (w : World) : (callFunc 20 args).run Try.prog w = .ok (.enter 20 args) w := by simp [go_sem]
theorem packV_some' {B : Nat} {r : Raw} {b : List UInt8} {v : Value} {w : World} (h : packed r = some b) (hv : PackV B r v w) : ∃ vb, v = .tuple #[vb, .int .i64 0] ∧ OwnB w B vb b := by unfold PackV at hv; rw [h] at hv; exact hv
theorem packV_none' {B : Nat} {r : Raw} {v : Value} {w : World} (h : packed r = none) (hv : PackV B r v w) : v = .tuple #[.slice none 0 0, .int .i64 3] := by unfold PackV at hv; rw [h] at hv; exact hv
set_option maxRecDepth 20000 in
set_option maxHeartbeats 4000000 in
theorem j_Pack (v : Value) (d : Df) (w : World) (h : IsDf w v d) (hsm : d.small) : Calls Try.prog 9 #[v] w (Ret (PackDV d) w) := by
  obtain ⟨vl, rfl, hl, hdok⟩ := h
  have HV := Lib.hid hl
  have HDOK := Lib.hid hdok
  have HSM := Lib.hid hsm
  obtain ⟨A, ca, rfl, hc1, hc2⟩ := IsChsP.form hl
  unfold maxLen at hc2
  clear hl hdok
  have hbox := fun w => box_of 26 (dfC d (.slice A d.chs.length ca)).toArray w
  go_enter Try.func9, Try.ntmps9
  go_upto_if 10 with first
    | (guard_target = wpList _ _ _ (Oper.mk _ (Op.box _ _) _ _ _ _ :: _) _ _; refine wpL_box_of hbox w.heap.size rfl (.tmp 0) rfl rfl rfl ?_; intro w0 hR0 hG0 hs0; obtain ⟨qi, qp, q64⟩ := df_var hR0.out HDOK.out)
    | (go_at_call 17; refine (j_may _ d.chs _ (IsChs.gr HV.out hG0.out)).mono ?_; rintro e w1 ⟨_, rfl, hg1, rfl⟩; have HG1 := Lib.hid (hG0.out.trans hg1); have HR1 := Lib.hid ((hg1.block _ (lt_of_some hR0.out)).trans hR0.out); have hs1 := hg1.size; clear hg1)
  clear qi qp q64 hR0 hG0 hbox
  cases hm : may d.chs with
  | false =>
    have HP : Hid (packD d = .error 1) := Lib.hid (by unfold packD; rw [hm]; rfl)
    go_wp2_with fail
    refine bodyPost_ret (results_tmp2 rfl _ _ _) rfl ⟨_, rfl, HG1.out, ?_⟩
    unfold PackDV
    rw [HP.out]
    rfl
  | true =>
    have HM := Lib.hid hm
    clear hm
    go_wp2_with (go_at_call 18; refine (j_list none 0 0 _).mono ?_; rintro e w2 ⟨_, rfl, hg2, rfl⟩; have hs2 := hg2.size; have HG2 := Lib.hid ((HG1.out.trans hg2).trans (gr_alloc w2 (.cells #[.bool true, .slice none 0 0, .slice none 0 0] 56))); have HR2 := Lib.hid ((heap_old w2 (.cells #[.bool true, .slice none 0 0, .slice none 0 0] 56) _ (Nat.lt_of_lt_of_le (lt_of_some HR1.out) hs2)).trans ((hg2.block _ (lt_of_some HR1.out)).trans HR1.out)); have HL2 := Lib.hid (heap_alloc_new w2 (.cells #[.bool true, .slice none 0 0, .slice none 0 0] 56)); obtain ⟨qi, qp, q64⟩ := df_var HR2.out HDOK.out; clear hg2)
    have hsl : (w2.alloc (.cells #[.bool true, .slice none 0 0, .slice none 0 0] 56)).heap.size = w2.heap.size + 1 := by simp
    have hs02 : w.heap.size + 1 ≤ w2.heap.size := by omega
    generalize w2.alloc (.cells #[.bool true, .slice none 0 0, .slice none 0 0] 56) = wl at HG2 HR2 HL2 qi qp q64 hsl ⊢
    clear qi qp q64 HG1 HR1
    go_loopw [15] (fun i wr => ∃ (done : List Raw) (A0 : Option Addr) (c0 : Nat) (rows : List (List Value)), done.length ≤ d.chs.length ∧ i = .int .i64 done.length ∧ Hid (done = (d.chs.take done.length).map chI) ∧ Hid (wr.heap[w2.heap.size]? = some (.cells #[.bool true, .slice none 0 0, .slice A0 done.length c0] 56 (0, 0))) ∧ Hid (wr.ownsRow (w2.heap.size + 1) 56 3 (.slice A0 done.length c0) done.length rows.flatten) ∧ Hid (ItemsAtP (okL (w2.heap.size + 1) w2.heap.size (.slice A0 done.length c0) wr.heap.size) wr done rows) ∧ w2.heap.size + 1 ≤ wr.heap.size ∧ Hid (wr.heap[w.heap.size]? = some (.cells (dfC d (.slice A d.chs.length ca)).toArray 26 (0, 0))) ∧ Hid (Gr w wr)) (fun i _ => d.chs.length - (intOf i).toNat)
    case atStart => exact ⟨[], none, 0, [], by simp, rfl, Lib.hid (by simp), HL2, Lib.hid (World.ownsRow_nil _ _ _ _), Lib.hid (by rw [ItemsAtP]), by omega, HR2, HG2⟩
    case round =>
      clear HG2 HR2 HL2 hsl
      obtain ⟨done, A0, c0, rows, hd1, rfl, HD, HRL, HOW, HIT, hsz, HR, HG⟩ := hrel
      obtain ⟨_, _, he, hca1, hca2⟩ := own_form HOW.out
      injection he with he1 he2 he3
      subst he1 he3
      unfold maxLen at hca2
      by_cases h1 : done.length < d.chs.length
      · obtain ⟨bl, o, vc, vs, rfl, hbl, hrg, hvc, hvs, hok⟩ := IsChsP.at HV.out done.length h1
        have HRG := Lib.hid (range_gr hrg HG.out hbl)
        have HOK := Lib.hid hok
        have HVC : Hid (IsB wr vc d.chs[done.length].code) := Lib.hid (IsB.gr hvc HG.out)
        have HVS := Lib.hid (IsSl.gr hvs HG.out)
        have hcs := HSM.out.2 _ (List.getElem_mem h1)
        have HTK : Hid ((d.chs.take (done.length + 1)).map chI = done ++ [chI (d.chs[done.length])]) := Lib.hid (by
          rw [← List.take_append_getElem h1, List.map_append]
          congr 1
          exact HD.out.symm)
        have hone := all_oneCell_toArray (chC_one (c := d.chs[done.length]) (vc := vc) (vs := vs) (by obtain ⟨_, _, rfl, _⟩ := hvc; rfl) (by obtain ⟨_, _, rfl, _⟩ := hvs; rfl))
        have HONE := Lib.hid hone
        clear hrg hok hvc hvs hone
        generalize d.chs[done.length] = c at HRG HOK HVC HVS HTK HONE hcs
        go_upto_region 7 with first
          | (guard_target = wpList _ _ _ (Oper.mk _ (Op.load _ _) _ _ _ _ :: _) _ _; refine wpList_load_mid rfl 51 (.tmp 17) rfl bl (o + done.length * 56) rfl (chC c vc vs) _ HRG.out Try.underlying51 rfl (change_info _ HOK.out _ _) ?_)
          | (guard_target = wpList _ _ _ (Oper.mk _ (Op.alloc _) _ _ _ _ :: _) _ _; refine wpL_alloc_of alloc_change wr.heap.size rfl rfl rfl ?_; intro wa hRa hGa hsa)
          | (guard_target = wpList _ _ _ (Oper.mk _ (Op.store _ _ _) _ _ _ _ :: _) _ _; refine wpList_store_row rfl 51 (.tmp 6) (.tmp 18) rfl wr.heap.size (chC c vc vs).toArray rfl rfl 51 _ hRa.out (by rw [List.size_toArray]; exact change_info _ HOK.out _ _) (by rw [List.size_toArray, List.size_toArray, chC_length HOK.out]; rfl) HONE.out ?_)
        go_frame
        have HRv : Hid ((wa.setRow wr.heap.size (chC c vc vs).toArray).heap[wr.heap.size]? = _) := Lib.hid (heap_setRow_same _ _ _ _ _ hRa.out)
        have HGv : Hid (Gr wr (wa.setRow wr.heap.size (chC c vc vs).toArray)) := Lib.hid (gr_setRow hGa.out _ _ (Nat.le_refl _))
        have hsv : (wa.setRow wr.heap.size (chC c vc vs).toArray).heap.size = wr.heap.size + 1 := by rw [size_setRow, hsa]
        clear hRa hGa hsa HRG HONE
        generalize wa.setRow wr.heap.size (chC c vc vs).toArray = wv at HRv HGv hsv ⊢
        have hrl := lt_of_some HRL.out
        have q2 := later_cell (w := wv) (p := ⟨w2.heap.size, 2, none⟩) (by show w2.heap.size < _; omega) (cells_of3 ((HGv.out.block _ hrl).trans HRL.out)).2.2
        refine wp_region_N 5 (by kernel_rfl) (by kernel_rfl) (by kernel_rfl) ?_
        simp only [List.take_succ_cons, List.take_zero, List.drop_succ_cons, List.drop_zero]
        refine wpN_quiet 2 (by kernel_rfl) ?_
        simp only [List.take_succ_cons, List.take_zero, List.drop_succ_cons, List.drop_zero]
        repeat (go_big_quiet_step (fail))
        refine wpQuiet_nil ?_
        refine wpN_val (.agg (chC c vc vs).toArray) rfl (by kernel_rfl) (by kernel_rfl) (fun xw => growsTo_load_row ((xw.2.block _ (lt_of_some HRv.out)).trans HRv.out) Try.underlying51 rfl (by rw [List.size_toArray]; exact change_info _ HOK.out _ _) rfl rfl) ?_
        simp only [Act.put, List.setIfInBounds_toArray, List.set_cons_succ, List.set_cons_zero]
        refine wpN_gen 22 (NewI wv.heap.size (chI c)) rfl rfl (by kernel_rfl) (by kernel_rfl) (stable_newI _ _) (fun xw => growsTo_call (by simp [go_sem]) ((j_change c vc vs _ HOK.out ((HVC.out.gr HGv.out).gr xw.2) (IsSl.gr (IsSl.gr HVS.out HGv.out) xw.2) hcs.1 hcs.2).mono ?_)) ?_
        · rintro e w' ⟨v, rfl, hg, hv⟩
          exact ⟨_, rfl, hg, hv.mono (fun b hb => ⟨Nat.le_trans xw.2.size hb.1, hb.2⟩) (fun _ _ => rfl)⟩
        refine wpN_free 23 (NewIs wv.heap.size [chI c]) rfl rfl (stable_newIs _ _) (fun b w' hC hb => ?_) ?_
        · have h26 : NewI wv.heap.size (chI c) (b.tmps.getD 22 undef) w' := hb 22 (by decide)
          obtain ⟨b1, A1, n1, k1, A2, n2, k2, e1, i1⟩ := newI_form h26
          refine growsTo_build1 rfl e1 (newIs_alloc (xs := [chI c]) (rows := [[.bool b1, .slice A1 n1 k1, .slice A2 n2 k2]]) hC.gr.size rfl ?_ (by simp [maxLen]) 1 rfl (by omega))
          rw [ItemsAtP]
          exact ⟨_, _, rfl, i1, by rw [ItemsAtP]⟩
        refine wpN_nil (by kernel_rfl) ?_
        intro W hW
        replace hW := hW.gr
        intro v23 h23 v22 _
        obtain ⟨A7, c7, rows7, rfl, hk1, hk2, _, hrd7, hit7⟩ := h23
        unfold finN
        rw [ItemsAtP] at hit7
        obtain ⟨r7, rest7, rfl, hir7, hre7⟩ := hit7
        rw [ItemsAtP] at hre7
        subst hre7
        obtain ⟨b7, Ax, nx, cx, Ay, ny, cy, rfl⟩ := hir7.len
        have HRD7 : Hid (Rd W W.heap.size A7 [.bool b7, .slice Ax nx cx, .slice Ay ny cy]) := Lib.hid (show RdP (fun b => b < W.heap.size) W A7 _ from by simpa using hrd7.mono (ok' := fun b => b < W.heap.size) (fun b hb => hb.2) (fun _ _ => rfl))
        have HIR7 := Lib.hid hir7
        have hW2 := hW.size
        have HOW2 := Lib.hid (own_gr HOW.out (HGv.out.trans hW))
        have HGW := Lib.hid (HGv.out.trans hW)
        have hbig := HSM.out.1
        clear hrd7 hir7 HVC HVS HRv
        simp only [List.length_cons, List.length_nil] at hk1 ⊢
        go_wp2_with (at_builtin; refine wpL_append (.tmp 20) (.tmp 23) 54 slT_items (base := w2.heap.size + 1) (.slice A0 done.length c0) done.length rows.flatten A7 1 c7 W.heap.size [.bool b7, .slice Ax nx cx, .slice Ay ny cy] rfl rfl rfl rfl HOW2.out HRD7.out rfl (by simp [Value.oneCell']) (by simp only [maxLen]; omega) (by omega) (by omega) ?_; intro A5 c5 w5 hown5 hg5 hbk5; have ho5 : w5.heap[w2.heap.size]? = some (.cells #[.bool true, .slice none 0 0, .slice A0 done.length c0] 56 (0, 0)) := (hg5.block w2.heap.size (by omega) (fun e => by have := own_block_ge HOW.out _ e.symm; omega)).trans ((HGW.out.block _ hrl).trans HRL.out); have e5 : w5.cell? ⟨w2.heap.size, 2, none⟩ = some (.slice A0 done.length c0) := (by rw [cell_of_row w5 _ _ _ _ (0, 0) ho5]; rfl); have f5 := frozen_of_row w5 w2.heap.size 2 _ _ ho5; have HOWN5 := Lib.hid hown5; have HG5 := Lib.hid hg5; have HBK5 := Lib.hid hbk5; clear hown5 hg5 hbk5 ho5)
        go_roundw
        case rel =>
          obtain ⟨r1, r2, r3, r4, r5, r6⟩ := items_push (g := w2.heap.size) (B := w2.heap.size + 1) (w0 := w) (wB := W) (x := chI c) (r := [.bool b7, .slice Ax nx cx, .slice Ay ny cy]) (by omega) (by omega) hsz HGW.out (Gr.refl W) HOW.out HIT.out (ItemAtP.mono (fun k hk => ⟨by have := hk.1; omega, hk.2⟩) (fun _ _ => rfl) _ _ HIR7.out) HG5.out HOWN5.out HBK5.out HRL.out HG.out
          have hdl : (done ++ [chI c]).length = done.length + 1 := by simp
          refine ⟨done ++ [chI c], A5, c5, rows ++ [[.bool b7, .slice Ax nx cx, .slice Ay ny cy]], by rw [hdl]; omega, by rw [hdl]; go_num, ?_, ?_, ?_, ?_, r4, ?_, Lib.hid r5⟩
          · rw [hdl]; exact Lib.hid HTK.out.symm
          · rw [hdl]; exact Lib.hid r1
          · rw [hdl]; exact Lib.hid r2
          · rw [hdl]; exact Lib.hid r3
          · exact Lib.hid ((r6 _ (lt_of_some HR.out) (by omega) (fun e => by have := own_block_ge HOW.out _ e; omega)).trans HR.out)
        case measure => simp [intOf]; omega
      · have HDD : Hid (done = d.chs.map chI) := Lib.hid (by
          have := HD.out
          rwa [List.take_of_length_le (by omega)] at this)
        obtain ⟨qi, qp, q64⟩ := df_var HR.out HDOK.out
        have hl0 := lt_of_some HR.out
        have hl2 := lt_of_some HRL.out
        obtain ⟨p0, p1, p2⟩ := cells_of3 HRL.out
        have P0 := later_cell (w := wr) (p := ⟨w2.heap.size, 0, none⟩) hl2 p0
        have P1 := later_cell (w := wr) (p := ⟨w2.heap.size, 1, none⟩) hl2 p1
        have P2 := later_cell (w := wr) (p := ⟨w2.heap.size, 2, none⟩) hl2 p2
        have k1 := fun x : Later wr => slice_word_off x.1 w.heap.size 0
        have k2 := fun x : Later wr => slice_word_off x.1 w.heap.size 32
        have HQI := Lib.hid qi
        have HQP := Lib.hid qp
        have HLI := Lib.hid (list_item HOW.out HIT.out)
        clear qi qp q64 p0 p1 p2 HOW HIT HRL HR HD
        go_wp2_with fail
        cases hp : packed (dfI d) with
        | none =>
          have HP : Hid (packD d = .error 3) := Lib.hid (by unfold packD; rw [HM.out, hp]; rfl)
          refine wp_region_N 14 (by kernel_rfl) (by kernel_rfl) (by kernel_rfl) ?_
          simp only [List.take_succ_cons, List.take_zero, List.drop_succ_cons, List.drop_zero]
          refine wpN_quiet 2 (by kernel_rfl) ?_
          simp only [List.take_succ_cons, List.take_zero, List.drop_succ_cons, List.drop_zero]
          repeat (go_big_quiet_step (fail))
          refine wpQuiet_nil ?_
          refine wpN_gen 29 (NewI wr.heap.size (bytesI d.id)) rfl rfl (by kernel_rfl) (by kernel_rfl) (stable_newI _ _) (fun xw => growsTo_call (by simp [go_sem]) ((j_text _ d.id _ (isB_range (range_gr HQI.out xw.2 hl0) (Nat.lt_of_lt_of_le hl0 xw.2.size) HDOK.out.1 (by simp [maxLen])) (by have := HDOK.out.1; omega)).mono ?_)) ?_
          · rintro e w' ⟨v, rfl, hg, hv⟩
            exact ⟨_, rfl, hg, hv.mono (fun b hb => ⟨Nat.le_trans xw.2.size hb.1, hb.2⟩) (fun _ _ => rfl)⟩
          refine wpN_quiet 2 (by kernel_rfl) ?_
          simp only [List.take_succ_cons, List.take_zero, List.drop_succ_cons, List.drop_zero]
          repeat (go_big_quiet_step (fail))
          refine wpQuiet_nil ?_
          refine wpN_gen 32 (NewI wr.heap.size (bytesI d.par)) rfl rfl (by kernel_rfl) (by kernel_rfl) (stable_newI _ _) (fun xw => growsTo_call (by simp [go_sem]) ((j_text _ d.par _ (isB_range (range_gr HQP.out xw.2 hl0) (Nat.lt_of_lt_of_le hl0 xw.2.size) HDOK.out.2.1 (by simp [maxLen])) (by have := HDOK.out.2.1; omega)).mono ?_)) ?_
          · rintro e w' ⟨v, rfl, hg, hv⟩
            exact ⟨_, rfl, hg, hv.mono (fun b hb => ⟨Nat.le_trans xw.2.size hb.1, hb.2⟩) (fun _ _ => rfl)⟩
          refine wpN_quiet 1 (by kernel_rfl) ?_
          simp only [List.take_succ_cons, List.take_zero, List.drop_succ_cons, List.drop_zero]
          repeat (go_big_quiet_step (fail))
          refine wpQuiet_nil ?_
          refine wpN_free 34 (NewIs 0 [bytesI d.id, bytesI d.par, listI done]) rfl rfl (stable_newIs _ _) (fun b w' hC hb => ?_) ?_
          · have h29 : NewI wr.heap.size (bytesI d.id) (b.tmps.getD 29 undef) w' := hb 29 (by decide)
            have h32 : NewI wr.heap.size (bytesI d.par) (b.tmps.getD 32 undef) w' := hb 32 (by decide)
            have h33 : b.tmps.getD 33 undef = .agg #[.bool true, .slice none 0 0, .slice A0 done.length c0] := hb 33 (by decide)
            have hgb := hC.gr
            have up : ∀ {x : Raw} {cs : List Value}, ItemAtP (fun k => wr.heap.size ≤ k ∧ k < w'.heap.size) w' x cs → ItemAtP (fun k => 0 ≤ k ∧ k < w'.heap.size) w' x cs := fun h => ItemAtP.mono (fun k hk => ⟨Nat.zero_le _, hk.2⟩) (fun _ _ => rfl) _ _ h
            obtain ⟨a1, A1, n1, k1, A2, n2, k2, e1, i1⟩ := newI_form h29
            obtain ⟨a2, A3, n3, k3, A4, n4, k4, e2, i2⟩ := newI_form h32
            obtain ⟨cs6, e6, i6⟩ := HLI.out
            obtain rfl : [.bool true, .slice none 0 0, .slice A0 done.length c0] = cs6 := by
              have := congrArg Value.cells e6
              simpa [Value.cells] using congrArg Array.toList this
            have i6' : ItemAtP (fun k => 0 ≤ k ∧ k < w'.heap.size) w' (listI done) [.bool true, .slice none 0 0, .slice A0 done.length c0] := ItemAtP.mono (fun k hk => ⟨Nat.zero_le _, Nat.lt_of_lt_of_le hk.2 hgb.size⟩) (fun p hp => hgb.cell hp.2) _ _ i6
            refine growsTo_build3 rfl e1 e2 h33 (newIs_alloc (xs := [bytesI d.id, bytesI d.par, listI done]) (rows := [[.bool a1, .slice A1 n1 k1, .slice A2 n2 k2], [.bool a2, .slice A3 n3 k3, .slice A4 n4 k4], [.bool true, .slice none 0 0, .slice A0 done.length c0]]) (Nat.zero_le _) rfl ?_ (by simp [maxLen]) 3 rfl (by omega))
            rw [ItemsAtP]
            refine ⟨_, _, rfl, up i1, ?_⟩
            rw [ItemsAtP]
            refine ⟨_, _, rfl, up i2, ?_⟩
            rw [ItemsAtP]
            refine ⟨_, _, rfl, i6', ?_⟩
            rw [ItemsAtP]
          refine wpN_free 35 (NewI 0 (dfI d)) rfl rfl (stable_newI _ _) (fun b w' hC hb => ?_) ?_
          · have h34 : NewIs 0 [bytesI d.id, bytesI d.par, listI done] (b.tmps.getD 34 undef) w' := hb 34 (by decide)
            have h34' := h34
            obtain ⟨A5, c5, rows5, e5, _⟩ := h34
            refine growsTo_call1 rfl enter_list ?_
            rw [e5] at h34' ⊢
            refine (j_list _ _ _ _).mono ?_
            rintro e w'' ⟨_, rfl, hg, rfl⟩
            have := newI_list h34'
            rw [HDD.out] at this
            exact ⟨_, rfl, hg, stable_newI _ _ _ _ _ hg this⟩
          refine wpN_conv 35 _ (.tuple #[.slice none 0 0, .int .i64 3]) (by decide) rfl (by kernel_rfl) (by kernel_rfl) (fun b w' _ h => growsTo_call1 rfl enter_pack ((rlp_pack _ (dfI d) _ (ItemIn.is h fun b hb => hb.2)).mono ?_)) ?_
          · rintro e w'' ⟨v, rfl, hg, hv⟩
            exact ⟨_, rfl, hg, packV_none' hp hv⟩
          simp only [Act.put, List.setIfInBounds_toArray, List.set_cons_succ, List.set_cons_zero]
          refine wpN_quiet 4 (by kernel_rfl) ?_
          simp only [List.take_succ_cons, List.take_zero, List.drop_succ_cons, List.drop_zero]
          repeat (go_big_quiet_step (fail))
          refine wpQuiet_nil ?_
          refine wpN_nil (by kernel_rfl) ?_
          intro W hW
          replace hW := hW.gr
          intro v35 _ v34 _ v32 _ v29 _
          unfold finN
          simp only [Act.put, List.setIfInBounds_toArray, List.set_cons_succ, List.set_cons_zero]
          go_wp2_with fail
          refine bodyPost_ret (results_tmp2 rfl _ _ _) rfl ⟨_, rfl, HG.out.trans hW, ?_⟩
          unfold PackDV
          rw [HP.out]
          rfl
        | some bb =>
          have HP : Hid (packD d = .ok bb) := Lib.hid (by unfold packD; rw [HM.out, hp]; rfl)
          refine wp_region_N 14 (by kernel_rfl) (by kernel_rfl) (by kernel_rfl) ?_
          simp only [List.take_succ_cons, List.take_zero, List.drop_succ_cons, List.drop_zero]
          refine wpN_quiet 2 (by kernel_rfl) ?_
          simp only [List.take_succ_cons, List.take_zero, List.drop_succ_cons, List.drop_zero]
          repeat (go_big_quiet_step (fail))
          refine wpQuiet_nil ?_
          refine wpN_gen 29 (NewI wr.heap.size (bytesI d.id)) rfl rfl (by kernel_rfl) (by kernel_rfl) (stable_newI _ _) (fun xw => growsTo_call (by simp [go_sem]) ((j_text _ d.id _ (isB_range (range_gr HQI.out xw.2 hl0) (Nat.lt_of_lt_of_le hl0 xw.2.size) HDOK.out.1 (by simp [maxLen])) (by have := HDOK.out.1; omega)).mono ?_)) ?_
          · rintro e w' ⟨v, rfl, hg, hv⟩
            exact ⟨_, rfl, hg, hv.mono (fun b hb => ⟨Nat.le_trans xw.2.size hb.1, hb.2⟩) (fun _ _ => rfl)⟩
          refine wpN_quiet 2 (by kernel_rfl) ?_
          simp only [List.take_succ_cons, List.take_zero, List.drop_succ_cons, List.drop_zero]
          repeat (go_big_quiet_step (fail))
          refine wpQuiet_nil ?_
          refine wpN_gen 32 (NewI wr.heap.size (bytesI d.par)) rfl rfl (by kernel_rfl) (by kernel_rfl) (stable_newI _ _) (fun xw => growsTo_call (by simp [go_sem]) ((j_text _ d.par _ (isB_range (range_gr HQP.out xw.2 hl0) (Nat.lt_of_lt_of_le hl0 xw.2.size) HDOK.out.2.1 (by simp [maxLen])) (by have := HDOK.out.2.1; omega)).mono ?_)) ?_
          · rintro e w' ⟨v, rfl, hg, hv⟩
            exact ⟨_, rfl, hg, hv.mono (fun b hb => ⟨Nat.le_trans xw.2.size hb.1, hb.2⟩) (fun _ _ => rfl)⟩
          refine wpN_quiet 1 (by kernel_rfl) ?_
          simp only [List.take_succ_cons, List.take_zero, List.drop_succ_cons, List.drop_zero]
          repeat (go_big_quiet_step (fail))
          refine wpQuiet_nil ?_
          refine wpN_free 34 (NewIs 0 [bytesI d.id, bytesI d.par, listI done]) rfl rfl (stable_newIs _ _) (fun b w' hC hb => ?_) ?_
          · have h29 : NewI wr.heap.size (bytesI d.id) (b.tmps.getD 29 undef) w' := hb 29 (by decide)
            have h32 : NewI wr.heap.size (bytesI d.par) (b.tmps.getD 32 undef) w' := hb 32 (by decide)
            have h33 : b.tmps.getD 33 undef = .agg #[.bool true, .slice none 0 0, .slice A0 done.length c0] := hb 33 (by decide)
            have hgb := hC.gr
            have up : ∀ {x : Raw} {cs : List Value}, ItemAtP (fun k => wr.heap.size ≤ k ∧ k < w'.heap.size) w' x cs → ItemAtP (fun k => 0 ≤ k ∧ k < w'.heap.size) w' x cs := fun h => ItemAtP.mono (fun k hk => ⟨Nat.zero_le _, hk.2⟩) (fun _ _ => rfl) _ _ h
            obtain ⟨a1, A1, n1, k1, A2, n2, k2, e1, i1⟩ := newI_form h29
            obtain ⟨a2, A3, n3, k3, A4, n4, k4, e2, i2⟩ := newI_form h32
            obtain ⟨cs6, e6, i6⟩ := HLI.out
            obtain rfl : [.bool true, .slice none 0 0, .slice A0 done.length c0] = cs6 := by
              have := congrArg Value.cells e6
              simpa [Value.cells] using congrArg Array.toList this
            have i6' : ItemAtP (fun k => 0 ≤ k ∧ k < w'.heap.size) w' (listI done) [.bool true, .slice none 0 0, .slice A0 done.length c0] := ItemAtP.mono (fun k hk => ⟨Nat.zero_le _, Nat.lt_of_lt_of_le hk.2 hgb.size⟩) (fun p hp => hgb.cell hp.2) _ _ i6
            refine growsTo_build3 rfl e1 e2 h33 (newIs_alloc (xs := [bytesI d.id, bytesI d.par, listI done]) (rows := [[.bool a1, .slice A1 n1 k1, .slice A2 n2 k2], [.bool a2, .slice A3 n3 k3, .slice A4 n4 k4], [.bool true, .slice none 0 0, .slice A0 done.length c0]]) (Nat.zero_le _) rfl ?_ (by simp [maxLen]) 3 rfl (by omega))
            rw [ItemsAtP]
            refine ⟨_, _, rfl, up i1, ?_⟩
            rw [ItemsAtP]
            refine ⟨_, _, rfl, up i2, ?_⟩
            rw [ItemsAtP]
            refine ⟨_, _, rfl, i6', ?_⟩
            rw [ItemsAtP]
          refine wpN_free 35 (NewI 0 (dfI d)) rfl rfl (stable_newI _ _) (fun b w' hC hb => ?_) ?_
          · have h34 : NewIs 0 [bytesI d.id, bytesI d.par, listI done] (b.tmps.getD 34 undef) w' := hb 34 (by decide)
            have h34' := h34
            obtain ⟨A5, c5, rows5, e5, _⟩ := h34
            refine growsTo_call1 rfl enter_list ?_
            rw [e5] at h34' ⊢
            refine (j_list _ _ _ _).mono ?_
            rintro e w'' ⟨_, rfl, hg, rfl⟩
            have := newI_list h34'
            rw [HDD.out] at this
            exact ⟨_, rfl, hg, stable_newI _ _ _ _ _ hg this⟩
          refine wpN_free 36 (fun v w => ∃ vb, v = .tuple #[vb, .int .i64 0] ∧ IsB w vb bb) rfl rfl (fun v w w' hg ⟨vb, e, h⟩ => ⟨vb, e, h.gr hg⟩) (fun b w' hC hb => ?_) ?_
          · have h35 : NewI 0 (dfI d) (b.tmps.getD 35 undef) w' := hb 35 (by decide)
            refine growsTo_call1 rfl enter_pack ((rlp_pack _ (dfI d) _ (ItemIn.is h35 fun b hb => hb.2)).mono ?_)
            rintro e w'' ⟨v, rfl, hg, hv⟩
            obtain ⟨vb, rfl, ho⟩ := packV_some' hp hv
            exact ⟨_, rfl, hg, vb, rfl, ho.isB⟩
          refine wpN_free 37 (fun v w => IsB w v bb) rfl rfl (stable_isB _) (fun b w' hC hb => ?_) ?_
          · obtain ⟨vb, e, h⟩ : ∃ vb, b.tmps.getD 36 undef = .tuple #[vb, .int .i64 0] ∧ IsB w' vb bb := hb 36 (by decide)
            exact growsTo_ext 0 rfl e rfl h
          refine wpN_conv 36 _ (.int .i64 0) (by decide) rfl (by kernel_rfl) (by kernel_rfl) (fun b w' _ h => ?_) ?_
          · obtain ⟨vb, e, h⟩ := h
            exact growsTo_ext 1 rfl e rfl rfl
          simp only [Act.put, List.setIfInBounds_toArray, List.set_cons_succ, List.set_cons_zero]
          refine wpN_copy 2 37 _ rfl (.inr rfl) rfl rfl (stable_isB _) ?_
          refine wpN_quiet 1 (by kernel_rfl) ?_
          simp only [List.take_succ_cons, List.take_zero, List.drop_succ_cons, List.drop_zero]
          repeat (go_big_quiet_step (fail))
          refine wpQuiet_nil ?_
          refine wpN_nil (by kernel_rfl) ?_
          intro W hW
          replace hW := hW.gr
          intro v2 h2 v37 _ v36 _ v35 _ v34 _ v32 _ v29 _
          unfold finN
          simp only [Act.put, List.setIfInBounds_toArray, List.set_cons_succ, List.set_cons_zero]
          have HV2 := Lib.hid h2
          go_wp2_with fail
          refine bodyPost_ret (results_tmp2 rfl _ _ _) rfl ⟨_, rfl, HG.out.trans hW, ?_⟩
          unfold PackDV
          rw [HP.out]
          exact ⟨v2, rfl, HV2.out⟩
end Go.Proofs.Ytekacgocjplfjaa
/-
  Items some of whose blocks are old; a slice of items in a slot that grows by one.
  Conditions: none.
-/
namespace Go.Proofs.Ytekacgocjplfjaa
set_option linter.unusedVariables false
open Go.RowKit Mono Rlp Jn

/-- An item whose blocks lie below B0, or from B1 on. -/
def PartI (B0 B1 : Nat) (x : Raw) : VP := fun v w => ItemIn (fun k => (k < B0 ∨ B1 ≤ k) ∧ k < w.heap.size) w v x
theorem stable_partI (B0 B1 : Nat) (x : Raw) : Stable (PartI B0 B1 x) := fun _ _ _ hg h => ItemIn.mono h (fun b hb => ⟨hb.1, Nat.lt_of_lt_of_le hb.2 hg.size⟩) fun p hp => hg.cell hp.2
theorem newI_part {B0 B1 B : Nat} {x : Raw} {v : Value} {w : World} (h : NewI B x v w) (hB : B1 ≤ B) : PartI B0 B1 x v w := ItemIn.mono h (fun b hb => ⟨.inr (Nat.le_trans hB hb.1), hb.2⟩) fun _ _ => rfl
def PartIs (B0 B1 : Nat) (xs : List Raw) : VP := fun v w => ∃ A c rows, v = .slice A xs.length c ∧ xs.length ≤ c ∧ c ≤ maxLen ∧ (A = none → xs.length = 0 ∧ c = 0) ∧ RdP (fun k => (k < B0 ∨ B1 ≤ k) ∧ k < w.heap.size) w A rows.flatten ∧ ItemsAtP (fun k => (k < B0 ∨ B1 ≤ k) ∧ k < w.heap.size) w xs rows
theorem stable_partIs (B0 B1 : Nat) (xs : List Raw) : Stable (PartIs B0 B1 xs) := fun _ w w' hg h => by
  obtain ⟨A, c, rows, g1, g2, g3, g4, g5, g6⟩ := h
  exact ⟨A, c, rows, g1, g2, g3, g4, g5.mono (fun b hb => ⟨hb.1, Nat.lt_of_lt_of_le hb.2 hg.size⟩) (fun p hp => hg.cell hp.2), ItemsAtP.mono (fun b hb => ⟨hb.1, Nat.lt_of_lt_of_le hb.2 hg.size⟩) (fun p hp => hg.cell hp.2) _ _ g6⟩
theorem partI_list {B0 B1 : Nat} {xs : List Raw} {A : Option Addr} {n c : Nat} {w : World} (h : PartIs B0 B1 xs (.slice A n c) w) : PartI B0 B1 (listI xs) (.agg #[.bool true, .slice none 0 0, .slice A n c]) w := by
  obtain ⟨A', c', rows, g1, g2, g3, g4, g5, g6⟩ := h
  injection g1 with e1 e2 e3
  subst e1 e2 e3
  refine ⟨[.bool true, .slice none 0 0, .slice A xs.length c], rfl, ?_⟩
  unfold listI
  rw [ItemAtP]
  exact ⟨_, A, c, rows, rfl, ⟨none, 0, rfl, Nat.le_refl _, by simp [maxLen], fun hn => absurd rfl hn⟩, g2, g3, g4, g5, g6⟩
theorem partI_form {B0 B1 : Nat} {x : Raw} {v : Value} {w : World} (h : PartI B0 B1 x v w) : ∃ b A n c A' n' c', v = .agg #[.bool b, .slice A n c, .slice A' n' c'] ∧ ItemAtP (fun k => (k < B0 ∨ B1 ≤ k) ∧ k < w.heap.size) w x [.bool b, .slice A n c, .slice A' n' c'] := by
  obtain ⟨cs, rfl, h⟩ := h
  obtain ⟨b, A, n, c, A', n', c', rfl⟩ := h.len
  exact ⟨b, A, n, c, A', n', c', rfl, h⟩
theorem partIs_alloc {B0 B1 : Nat} {xs : List Raw} {rows : List (List Value)} {w : World} {cs : Array Value} (hB : B1 ≤ w.heap.size) (hcs : cs.toList = rows.flatten) (h : ItemsAtP (fun k => (k < B0 ∨ B1 ≤ k) ∧ k < w.heap.size) w xs rows) (hn : xs.length ≤ maxLen) (n : Nat) (hnx : n = xs.length) (h0 : 0 < n) :
    PartIs B0 B1 xs (.slice (some ⟨w.heap.size, 0, none⟩) n n) (w.alloc (.cells cs 56)) := by
  subst hnx
  refine ⟨_, _, rows, rfl, Nat.le_refl _, hn, (fun e => by cases e), fun _ => ⟨w.heap.size, 0, rfl, ⟨.inr hB, by simp⟩, fun j u hu => ?_⟩, ItemsAtP.mono (fun k hk => ⟨hk.1, by simp; omega⟩) (fun p hp => (gr_alloc w _).cell hp.2) _ _ h⟩
  rw [Nat.zero_add, cell_of_row _ _ _ _ _ (0, 0) (heap_alloc_new w _), ← hu, ← hcs]
  simp
/-- The blocks of what a slice's items lead to: not the slice's own. -/
def okV (v : Value) (w : World) : Nat → Prop := fun k => k < w.heap.size ∧ v.ownBlock ≠ some k
/-- A slice of items, in a slot, that the call owns. -/
structure OwnIs (w : World) (B : Nat) (q : Nat → Prop) (v : Value) (xs : List Raw) (rows : List (List Value)) : Prop where
  own : w.ownsRow B 56 3 v xs.length rows.flatten
  at_ : ItemsAtP (fun k => okV v w k ∧ q k) w xs rows
theorem OwnIs.nil (w : World) (B : Nat) (q : Nat → Prop) : OwnIs w B q (.slice none 0 0) [] [] := ⟨World.ownsRow_nil _ _ _ _, by rw [ItemsAtP]⟩
theorem OwnIs.gr {w w' : World} {B : Nat} {q : Nat → Prop} {v : Value} {xs : List Raw} {rows : List (List Value)} (h : OwnIs w B q v xs rows) (hg : Gr w w') : OwnIs w' B q v xs rows :=
  ⟨own_gr h.own hg, ItemsAtP.mono (fun k hk => ⟨⟨Nat.lt_of_lt_of_le hk.1.1 hg.size, hk.1.2⟩, hk.2⟩) (fun p hp => hg.cell hp.1.1) _ _ h.at_⟩
theorem OwnIs.form {w : World} {B : Nat} {q : Nat → Prop} {v : Value} {xs : List Raw} {rows : List (List Value)} (h : OwnIs w B q v xs rows) : ∃ A c, v = .slice A xs.length c ∧ xs.length ≤ c ∧ c ≤ maxLen := own_form h.own
theorem OwnIs.push {B : Nat} {q : Nat → Prop} {w1 w5 : World} {xs : List Raw} {x : Raw} {v v5 : Value} {rows : List (List Value)} {r : List Value} (h : OwnIs w1 B q v xs rows) (hix : ItemAtP (fun k => okV v w1 k ∧ q k) w1 x r) (hg5 : w1.grownBy w5 v.ownBlock)
    (hown5 : w5.ownsRow B 56 3 v5 (xs.length + 1) (rows.flatten ++ r)) (hbk5 : v5.ownBlock = v.ownBlock ∨ v5.ownBlock = some w1.heap.size) : OwnIs w5 B q v5 (xs ++ [x]) (rows ++ [r]) := by
  have hs5 := hg5.size
  have hmono : ∀ k, okV v w1 k → okV v5 w5 k := fun k hk => ⟨Nat.lt_of_lt_of_le hk.1 hs5, fun e => by
    rcases hbk5 with h5 | h5
    · exact hk.2 (h5 ▸ e)
    · rw [h5] at e
      injection e with e
      have := hk.1
      omega⟩
  have hcell : ∀ p : Addr, okV v w1 p.block → w5.cell? p = w1.cell? p := fun p hp => World.cell?_of_block (hg5.block p.block hp.1 (fun e => hp.2 e.symm))
  refine ⟨?_, ?_⟩
  · rw [List.length_append, List.flatten_append]
    simpa using hown5
  · refine ItemsAtP.append xs [x] rows [r] (ItemsAtP.mono (fun k hk => ⟨hmono k hk.1, hk.2⟩) (fun p hp => hcell p hp.1) _ _ h.at_) ?_
    rw [ItemsAtP]
    exact ⟨r, [], rfl, ItemAtP.mono (fun k hk => ⟨hmono k hk.1, hk.2⟩) (fun p hp => hcell p hp.1) _ _ hix, by rw [ItemsAtP]⟩
/-- Such a slice as a list item. -/
theorem OwnIs.list {w : World} {B : Nat} {q : Nat → Prop} {A : Option Addr} {n c : Nat} {xs : List Raw} {rows : List (List Value)} (h : OwnIs w B q (.slice A n c) xs rows) : IsItem w (.agg #[.bool true, .slice none 0 0, .slice A n c]) (listI xs) := by
  obtain ⟨A', c', he, hc1, hc2⟩ := h.form
  injection he with e1 e2 e3
  subst e1 e2 e3
  refine ⟨[.bool true, .slice none 0 0, .slice A xs.length c], rfl, ?_⟩
  unfold listI
  rw [ItemAt.eq]
  refine ⟨.slice none 0 0, A, c, rows, rfl, IsB.nil w, hc1, hc2, fun e => ?_, Rd.of_own h.own, ItemsAtP.mono (fun k hk => hk.1.1) (fun _ _ => rfl) _ _ h.at_⟩
  subst e
  exact own_none h.own
/-- The same, its blocks told apart. -/
theorem OwnIs.part {w : World} {B B0 B1 : Nat} {A : Option Addr} {n c : Nat} {xs : List Raw} {rows : List (List Value)} (h : OwnIs w B (fun k => k < B0 ∨ B1 ≤ k) (.slice A n c) xs rows) (hB : B1 ≤ B) : PartIs B0 B1 xs (.slice A n c) w := by
  obtain ⟨A', c', he, hc1, hc2⟩ := h.form
  injection he with e1 e2 e3
  subst e1 e2 e3
  exact ⟨A, c, rows, rfl, hc1, hc2, fun e => by subst e; exact own_none h.own, (own_RdP h.own).mono (fun b hb => ⟨.inr (Nat.le_trans hB hb.1), hb.2⟩) (fun _ _ => rfl), ItemsAtP.mono (fun k hk => ⟨hk.2, hk.1.1⟩) (fun _ _ => rfl) _ _ h.at_⟩
set_option maxRecDepth 20000 in
set_option maxHeartbeats 1000000 in
theorem r_List (A : Option Addr) (n c : Nat) (w : World) : Calls Try.prog 23 #[.slice A n c] w (Ret (eqV (.agg #[.bool true, .slice none 0 0, .slice A n c])) w) := by
  go_enter Try.func23, Try.ntmps23
  go_wp2_with fail
  refine bodyPost_ret (results_item1 rfl _ _ w.heap.size #[.bool true, .slice none 0 0, .slice A n c] rfl (heap_alloc_new w _) rfl) rfl ⟨_, rfl, gr_alloc w _, ?_⟩
  rfl
set_option maxRecDepth 20000 in
set_option maxHeartbeats 1000000 in
theorem r_Bytes (A : Option Addr) (n c : Nat) (w : World) : Calls Try.prog 25 #[.slice A n c] w (Ret (eqV (.agg #[.bool false, .slice A n c, .slice none 0 0])) w) := by
  go_enter Try.func25, Try.ntmps25
  go_wp2_with fail
  refine bodyPost_ret (results_item1 rfl _ _ w.heap.size #[.bool false, .slice A n c, .slice none 0 0] rfl (heap_alloc_new w _) rfl) rfl ⟨_, rfl, gr_alloc w _, ?_⟩
  rfl
end Go.Proofs.Ytekacgocjplfjaa
