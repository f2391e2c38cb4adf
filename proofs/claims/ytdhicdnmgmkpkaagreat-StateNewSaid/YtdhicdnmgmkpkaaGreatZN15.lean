/-
  Merged (wip/tools/merge.py): RlpWrite, RefPack, RefPack2, Packs, RefOwn, Num4, Num5, AB0, TP2, Cmp0, TS1, SortP.
  Conditions: none.
-/
import Derived.Test.YtdhicdnmgmkpkaaGreatZN14
import Derived.Laws.BitsAllLaws
import Derived.Test.YtdhicdnmgmkpkaaGreatZN12
import Derived.Test.YtdhicdnmgmkpkaaGreatZN7
import Derived.Test.YtdhicdnmgmkpkaaGreatZN8
import Derived.Test.YtdhicdnmgmkpkaaGreatZN13
import Derived.Test.YtdhicdnmgmkpkaaGreatZN2
import Derived.Lib.Bytealg
import Derived.Lib.BytesEntry
import Derived.Sort.Walk0
import Derived.Shelf.SlSortCmp.WholeK
import Derived.Shelf.SlSortCmp.NoneTotal
import Derived.Shelf.SlGeneric
import Derived.Ground.SlsfProg
import Derived.Test.YtdhicdnmgmkpkaaGreatRows
/-
  rlp: an item's bytes: write, Pack.
  Conditions: none.
-/
namespace Go.Proofs.YtdhicdnmgmkpkaaGreat
open Go.RowKit Mono Rlp
theorem EL_take (xs : List Raw) (k : Nat) (h : k < xs.length) : EL (xs.take (k + 1)) = EL (xs.take k) ++ E xs[k] := by
  rw [List.take_succ_eq_append_getElem h, EL_append, EL, EL, List.append_nil]
theorem EL_take_le (xs : List Raw) (k : Nat) : (EL (xs.take k)).length ≤ (EL xs).length := by
  have h := congrArg List.length (EL_append (xs.take k) (xs.drop k))
  rw [List.take_append_drop, List.length_append] at h
  omega
theorem E_le (xs : List Raw) (k : Nat) (h : k < xs.length) : (E xs[k]).length ≤ (EL xs).length := by
  have h1 := EL_take_le xs (k + 1)
  rw [EL_take xs k h, List.length_append] at h1
  omega
set_option maxHeartbeats 4000000 in
set_option maxRecDepth 20000 in
theorem rlp_write : ∀ (n : Nat) (r : Raw) (v : Value) (w : World), (E r).length < n → (E r).length ≤ most → IsOf w v r → Calls Tryz.prog 227 #[v] w (Ret (fun v w' => OwnB w' w.heap.size v (E r)) w)
  | 0, r, v, w, hn, _, _ => by omega
  | n + 1, .mk false bs xs, v, w, hn, hm, h => by
    obtain ⟨vb, rfl, A, c, rfl, hc1, hc2, hr⟩ := h
    have hE : E (.mk false bs xs) = EB bs := by rw [E]
    rw [hE] at hm ⊢
    have HR := Lib.hid hr
    unfold maxLen at hc2
    clear hr hn hE
    by_cases h1 : bs.length = 1
    · obtain ⟨b, rfl⟩ := List.length_eq_one_iff.1 h1
      obtain ⟨bl, o, rfl, hbl, hcell⟩ := HR.out (by simp [bvs])
      have e1 := hcell 0 (bv b) rfl
      rw [Nat.add_zero] at e1
      unfold bv at e1
      clear hcell h1
      have hbl2 := bv_lt b
      simp only [List.length_singleton] at hc1 ⊢
      by_cases h2 : b < 128
      · have h3 : b.toNat < 128 := UInt8.lt_iff_toNat_lt.1 h2
        have HM := Lib.hid (show EB [b] = [b] by rw [EB, if_pos ⟨rfl, h2⟩])
        clear h2
        go_enter Tryz.func227, Tryz.ntmps227
        go_wp2_with fail
        refine bodyPost_ret (results_tmp rfl _ _ _) rfl ?_
        refine ⟨_, rfl, gr_alloc w _, ?_⟩
        rw [HM.out]
        exact own_lit w #[.int .u8 (b.toNat : Int)] 5 1 1 w.heap.size w.heap.size rfl (Nat.le_refl _) (by simp [maxLen]) rfl
      · have h3 : 128 ≤ b.toNat := Nat.not_lt.1 fun e => h2 (UInt8.lt_iff_toNat_lt.2 e)
        have HM := Lib.hid (show EB [b] = head [b].length 128 ++ [b] by rw [EB, if_neg (fun h => h2 h.2)])
        clear h2
        go_enter Tryz.func227, Tryz.ntmps227
        go_wp2_with fail
        refine (rlp_headed 128 _ [b] _ ⟨_, c, rfl, hc1, by simp only [maxLen]; omega, HR.out⟩ (by simp) (by omega)).mono ?_
        rintro e w1 ⟨v1, rfl, hg1, ho1⟩
        have HO1 := Lib.hid ho1
        clear ho1
        go_wp2_with fail
        refine bodyPost_ret (results_tmp rfl _ _ _) rfl ?_
        exact ⟨_, rfl, hg1, by rw [HM.out]; exact HO1.out⟩
    · have hd : ((bs.length : Int) == 1) = false := by simp; omega
      have HM := Lib.hid (show EB bs = head bs.length 128 ++ bs by rw [EB, if_neg (fun h => h1 h.1)])
      rw [HM.out, List.length_append] at hm
      simp only [most] at hm
      clear h1
      go_enter Tryz.func227, Tryz.ntmps227
      go_wp2_with fail
      refine (rlp_headed 128 _ bs _ ⟨_, c, rfl, hc1, by simp only [maxLen]; omega, HR.out⟩ (by omega) (by omega)).mono ?_
      rintro e w1 ⟨v1, rfl, hg1, ho1⟩
      have HO1 := Lib.hid ho1
      clear ho1
      go_wp2_with fail
      refine bodyPost_ret (results_tmp rfl _ _ _) rfl ?_
      exact ⟨_, rfl, hg1, by rw [HM.out]; exact HO1.out⟩
  | n + 1, .mk true bs xs, v, w, hn, hm, h => by
    have ih := Lib.hid (rlp_write n)
    obtain ⟨vl, rfl, A, c, rows, rfl, hc1, hc2, _, hr, hi⟩ := h
    have HE := Lib.hid (show E (.mk true bs xs) = head (EL xs).length 192 ++ EL xs by rw [E])
    rw [HE.out, List.length_append] at hm hn
    have hhp := head_pos (EL xs).length 192
    have hel : (EL xs).length < n := by omega
    have hel2 : (EL xs).length ≤ 16777216 := by simp only [most] at hm; omega
    have HR := Lib.hid hr
    have HI := Lib.hid hi
    unfold maxLen at hc2
    clear hr hi hm hn hhp
    go_enter Tryz.func227, Tryz.ntmps227
    go_wp2_with fail
    go_loopw [5, 32] (fun ov i wr => ∃ (k : Nat) (acc : List UInt8), k ≤ xs.length ∧ i = .int .i64 k ∧ acc = EL (xs.take k) ∧ acc.length ≤ 16777216 ∧ OwnB wr w.heap.size ov acc ∧ Gr w wr) (fun _ i _ => xs.length - (intOf i).toNat)
    case atStart => exact ⟨0, [], by omega, rfl, by rw [List.take_zero, EL], by simp, OwnB.nil _ _, Gr.refl _⟩
    case round =>
      obtain ⟨k, acc, hk, rfl, hacc, hal, hown, hb⟩ := hrel
      obtain ⟨A3, c3, rfl, hd1, hd2⟩ := own_form hown
      have HA := Lib.hid hacc
      have HO := Lib.hid hown
      have HB := Lib.hid hb
      have hbs := hb.size
      unfold maxLen at hd2
      clear hacc hown hb
      by_cases h1 : k < xs.length
      · obtain ⟨bl, o, f, vb, vl, rfl, hbl, e1, e2, e3, hx, ⟨A2, n2, c2, rfl⟩, A', n', c', rfl⟩ := items_at HR.out HI.out k h1
        have e1' := (HB.out.cell (p := ⟨bl, o + k * 3, none⟩) hbl).trans e1
        have e2' := (HB.out.cell (p := ⟨bl, o + k * 3 + 1, none⟩) hbl).trans e2
        have e3' := (HB.out.cell (p := ⟨bl, o + k * 3 + 2, none⟩) hbl).trans e3
        have HX := Lib.hid (hx.gr HB.out)
        have hle := E_le xs k h1
        have HT := Lib.hid (EL_take xs k h1)
        have htl := EL_take_le xs (k + 1)
        rw [HT.out, ← HA.out, List.length_append] at htl
        clear e1 e2 e3 hx
        go_wp2_with (refine wpList_store_row rfl 278 (.tmp 7) (.tmp 35) rfl wr.heap.size #[.bool f, .slice A2 n2 c2, .slice A' n' c'] rfl rfl 278 _ (heap_alloc_new wr _) (by kernel_rfl) (by kernel_rfl) (by simp [Value.oneCell']) ?_; rw [World.setRow_alloc_new])
        refine (rlp_of _ xs[k] _ (HX.out.gr (gr_alloc _ _))).mono ?_
        rintro e w1 ⟨v1, rfl, hg1, ho1⟩
        have HG1 := Lib.hid ((gr_alloc _ _).trans hg1)
        have HO1 := Lib.hid ho1
        clear hg1 ho1 e1' e2' e3' HX
        go_wp2_with fail
        refine (ih.out xs[k] v1 _ (by omega) (by simp only [most]; omega) HO1.out).mono ?_
        rintro e w2 ⟨v2, rfl, hg2, ho2⟩
        obtain ⟨A4, c4, rfl, he1, he2⟩ := own_form ho2
        obtain ⟨_, _, he, _, _, hrb⟩ := OwnB.isB ho2
        injection he with he3 _ he4
        subst he3 he4
        have HR2 := Lib.hid hrb
        have HG2 := Lib.hid (HG1.out.trans hg2)
        have HO2 := Lib.hid (own_gr HO.out HG2.out)
        have hz2 := HG2.out.size
        unfold maxLen at he2
        generalize E xs[k] = ek at hle HT htl HR2 he1 ⊢
        clear HO1 HG1 hg2 ho2 hrb HO
        go_wp2_with (at_builtin; refine wpL_append _ _ 35 slT_bytes _ _ _ _ _ _ _ (bvs ek) rfl rfl rfl rfl HO2.out HR2.out (by simp [bvs]) (bvs_one _) (by simp only [maxLen]; omega) (by omega) (by omega) ?_; intro A5 c5 w5 hown5 hg5 _)
        go_roundw
        case rel =>
          refine ⟨k + 1, acc ++ ek, by omega, by go_num, by rw [HT.out, HA.out], by rw [List.length_append]; omega, ?_, (HB.out.trans HG2.out).grown hg5 (by omega) fun j hj => own_block_ge HO2.out j hj⟩
          unfold OwnB
          rw [List.length_append, bvs_append]
          exact hown5
        case measure => simp [intOf]; omega
      · have h2 : xs.length ≤ k := by omega
        have HA2 := Lib.hid (show acc = EL xs by rw [HA.out, List.take_of_length_le h2])
        clear h1 HA
        have hi2 := OwnB.isB HO.out
        have HI2 := Lib.hid hi2
        clear hi2
        go_wp2_with fail
        refine (rlp_headed 192 _ acc _ HI2.out (by omega) (by omega)).mono ?_
        rintro e w2 ⟨v2, rfl, hg2, ho2⟩
        have HG2 := Lib.hid (HB.out.trans hg2)
        have HO2 := Lib.hid (own_base ho2 hbs)
        clear hg2 ho2
        go_wp2_with fail
        refine bodyPost_ret (results_tmp rfl _ _ _) rfl ?_
        refine ⟨_, rfl, HG2.out, ?_⟩
        rw [HE.out, ← HA2.out]
        exact HO2.out
end Go.Proofs.YtdhicdnmgmkpkaaGreat
/-
  The reference: how deep an item is, heads, its bytes.
  Conditions: none.
-/
namespace Go.Proofs.YtdhicdnmgmkpkaaGreat
open Go.RowKit Mono Rlp
end Go.Proofs.YtdhicdnmgmkpkaaGreat
/-
  The reference: an item's bytes; both Packs.
  Conditions: none.
-/
namespace Go.Proofs.YtdhicdnmgmkpkaaGreat
set_option linter.unusedVariables false
open Go.RowKit Mono Rlp
end Go.Proofs.YtdhicdnmgmkpkaaGreat
/-
  Pack, the program's and the reference's: one answer.
  Conditions: none.
-/
namespace Go.Proofs.YtdhicdnmgmkpkaaGreat
set_option linter.unusedVariables false
open Go.RowKit Mono Rlp
def PackV (base : Nat) (r : Raw) : VP := fun v w => match packed r with
  | some b => ∃ vb, v = .tuple #[vb, .int .i64 0] ∧ OwnB w base vb b
  | none => v = .tuple #[.slice none 0 0, .int .i64 3]
theorem packed_le {r : Raw} {b : List UInt8} (h : packed r = some b) : b = E r ∧ b.length ≤ most := by
  unfold packed at h
  cases hm : meas r 0 with
  | none => rw [hm] at h; cases h
  | some n =>
    rw [hm] at h
    dsimp only at h
    split at h
    · cases h
    · cases h
      have := meas_E r 0 n hm
      exact ⟨rfl, by omega⟩
set_option maxHeartbeats 2000000 in
set_option maxRecDepth 20000 in
theorem rlp_pack (v : Value) (x : Raw) (w : World) (h : IsItem w v x) : Calls Tryz.prog 201 #[v] w (Ret (fun v w' => PackV w.heap.size x v w') w) := by
  have hx := h
  obtain ⟨lst, bs, xs⟩ := x
  obtain ⟨vb, vl, rfl, ⟨A9, c9, rfl, _⟩, A, c, rows, rfl, _⟩ := isItem_form h
  clear h
  generalize hr : Raw.mk lst bs xs = r at hx ⊢
  have HX := Lib.hid hx
  clear hx
  go_enter Tryz.func201, Tryz.ntmps201
  go_wp2_with fail
  refine (rlp_of _ r _ (HX.out.gr (gr_alloc w _))).mono ?_
  rintro e w1 ⟨v1, rfl, hg1, ho1⟩
  have HG1 := Lib.hid ((gr_alloc w _).trans hg1)
  have HO1 := Lib.hid ho1
  clear hg1 ho1 HX
  go_wp2_with fail
  refine (rlp_measure 32 0 rfl r v1 _ HO1.out).mono ?_
  rintro e w2 ⟨v2, rfl, hg2, hm2⟩
  have HG2 := Lib.hid (HG1.out.trans hg2)
  have HO2 := Lib.hid (HO1.out.gr hg2)
  unfold MeasV at hm2
  clear hg2 HO1 HG1 hr
  cases hmx : meas r 0 with
  | none =>
    rw [hmx] at hm2
    obtain ⟨z, rfl⟩ := hm2
    have HP := Lib.hid (show packed r = none by unfold packed; rw [hmx])
    clear hmx
    go_wp2_with fail
    refine bodyPost_ret (results_tmp2 rfl _ _ _) rfl ?_
    refine ⟨_, rfl, HG2.out, ?_⟩
    unfold PackV
    rw [HP.out]
    rfl
  | some n =>
    rw [hmx] at hm2
    dsimp only at hm2
    subst hm2
    have hn := meas_le _ _ _ hmx
    simp only [most] at hn
    by_cases h3 : n > most
    · have HP := Lib.hid (show packed r = none by unfold packed; rw [hmx]; dsimp only; rw [if_pos h3])
      simp only [most] at h3
      clear hmx
      go_wp2_with fail
      refine bodyPost_ret (results_tmp2 rfl _ _ _) rfl ?_
      refine ⟨_, rfl, HG2.out, ?_⟩
      unfold PackV
      rw [HP.out]
      rfl
    · have HP := Lib.hid (show packed r = some (E r) by unfold packed; rw [hmx]; dsimp only; rw [if_neg h3])
      have hl := (packed_le HP.out).2
      simp only [most] at h3
      have h4 : n ≤ 16777216 := by omega
      clear hmx h3
      go_wp2_with fail
      refine (rlp_write _ r v1 _ (Nat.lt_succ_self _) hl HO2.out).mono ?_
      rintro e w3 ⟨v3, rfl, hg3, ho3⟩
      have HG3 := Lib.hid (HG2.out.trans hg3)
      have HO3 := Lib.hid (own_base ho3 HG2.out.size)
      clear hg3 ho3
      go_wp2_with fail
      refine bodyPost_ret (results_tmp2 rfl _ _ _) rfl ?_
      refine ⟨_, rfl, HG3.out, ?_⟩
      unfold PackV
      rw [HP.out]
      exact ⟨v3, rfl, HO3.out⟩
end Go.Proofs.YtdhicdnmgmkpkaaGreat
/-
  The reference's Pack: the bytes lie in new memory.
  Conditions: none.
-/
namespace Go.Proofs.YtdhicdnmgmkpkaaGreat
set_option linter.unusedVariables false
open Go.RowKit Mono Rlp
end Go.Proofs.YtdhicdnmgmkpkaaGreat
/-
  Words as items: rlp.Big and the reference's Big.
  Conditions: none.
-/
namespace Go.Proofs.YtdhicdnmgmkpkaaGreat
set_option linter.unusedVariables false
open Go.RowKit Mono Rlp
theorem arr_cell {w : World} {g : Nat} {t : TypeId} {l : List UInt8} (h : Arr w g t l) (k : Nat) (hk : k < l.length) : w.cell? ⟨g, k, none⟩ = some (.int .u8 (l[k].toNat : Int)) := by
  rw [cell_of_row w g k _ t (0, 0) h]
  simp [bvs, bv, hk]
theorem isB_arr {w : World} {g : Nat} {t : TypeId} {l : List UInt8} (h : Arr w g t l) (k : Nat) (hk : k ≤ l.length) (hm : l.length ≤ maxLen) (c : Nat) (hc : l.length - k ≤ c) (hcm : c ≤ maxLen) : IsB w (.slice (some ⟨g, k, none⟩) (l.length - k) c) (l.drop k) := by
  refine ⟨_, _, by rw [List.length_drop], by rw [List.length_drop]; exact hc, hcm, fun hn => ⟨g, k, rfl, h.lt, fun j u hu => ?_⟩⟩
  rw [cell_of_row w g _ _ t (0, 0) h]
  rw [bvs_drop, List.getElem?_drop] at hu
  simpa using hu
set_option maxRecDepth 100000 in
theorem run_box_word (w : World) (l : List UInt8) : (Instr.box 34 (arrV l)).run Tryz.prog w = .ok (.pointer (some ⟨w.heap.size, 0, none⟩)) (w.alloc (.cells (bvs l).toArray 34)) := by kernel_rfl
theorem wpL_box_word {w : World} {ops : Array Oper} {rest : List Oper} {o : Oper} {a : Act} {Q : Exit → Act → World → Prop} (g : Nat) (hg : w.heap.size = g) (x : Operand) (l : List UInt8) (hgd : o.guard = none) (ho : o.op = .box 34 x) (hx : a.eval x = arrV l)
    (h : ∀ w', Hid (Arr w' g 34 l) → Hid (Gr w w') → w'.heap.size = g + 1 → wpList Tryz.prog ops Q rest (a.put o.dst (.pointer (some ⟨g, 0, none⟩))) w') : wpList Tryz.prog ops Q (o :: rest) a w := by
  subst hg
  refine wpList_plain hgd fun _ hK => ?_
  have h1 := hK _ _ (h _ (Lib.hid (heap_alloc_new w _)) (Lib.hid (gr_alloc w _)) (by simp))
  unfold Oper.wp execOp
  simp only [ho, hx, Sem.run_bind, run_box_word, Result.andThen_ok, Sem.run_pure]
  exact h1
theorem results_item1 {fn : Func} {p : Tmp} (h : fn.results = #[.cell p 278]) (tmps : Array Value) (w : World) (g : Nat) (cs : Array Value)
    (hp : tmps.getD p undef = .pointer (some ⟨g, 0, none⟩)) (hg : w.heap[g]? = some (.cells cs 278 (0, 0))) (hs : cs.size = 3) :
    (results fn tmps).run Tryz.prog w = .ok (.agg cs) w :=
  results_cell_row h tmps w g 278 cs (0, 0) _ hp hg Tryz.underlying278 rfl (item_info cs hs)
theorem at_zero (l : List UInt8) (k : Nat) (hk : k < l.length) : ((l[k].toNat : Int) == 0) = decide (l[k] = 0) := by
  rw [Bool.eq_iff_iff, beq_iff_eq, decide_eq_true_eq]
  constructor
  · intro e
    exact UInt8.toNat_inj.1 (by rw [show (0 : UInt8).toNat = 0 from rfl]; omega)
  · intro e
    rw [e]
    rfl
set_option maxRecDepth 20000 in
set_option maxHeartbeats 1000000 in
theorem rlp_Big (l : List UInt8) (hl : l.length = 32) (w : World) : Calls Tryz.prog 200 #[arrV l] w (Ret (fun v w' => ItemIn (fun k => w.heap.size ≤ k ∧ k < w'.heap.size) w' v (.mk false (strip l) [])) w) := by
  have hsl0 : ∀ w', (Instr.sliceAt 34 (.pointer (some ⟨w.heap.size, 0, none⟩)) none none none).run Tryz.prog w' = .ok (.slice (some ⟨w.heap.size, 0, none⟩) 32 32) w' := fun w' => by kernel_rfl
  go_enter Tryz.func200, Tryz.ntmps200
  go_wp2_with (guard_target = wpList _ _ _ (Oper.mk _ (Op.box _ _) _ _ _ _ :: _) _ _; refine wpL_box_word w.heap.size rfl (.tmp 0) l rfl rfl rfl ?_; intro w0 hA0 hG0 hs0)
  have HG1 := Lib.hid (hG0.out.trans (gr_alloc w0 (.cells #[.bool false, .slice none 0 0, .slice none 0 0] 278)))
  have HA1 := Lib.hid (arr_old hA0.out (.cells #[.bool false, .slice none 0 0, .slice none 0 0] 278))
  have HI1 : Hid ((w0.alloc (.cells #[.bool false, .slice none 0 0, .slice none 0 0] 278)).heap[w.heap.size + 1]? = _) := Lib.hid (heap_at w0 _ _ hs0.symm)
  have hs1 : (w0.alloc (.cells #[.bool false, .slice none 0 0, .slice none 0 0] 278)).heap.size = w.heap.size + 2 := by simp [hs0]
  generalize w0.alloc (.cells #[.bool false, .slice none 0 0, .slice none 0 0] 278) = w1 at HG1 HA1 HI1 hs1 ⊢
  clear hsl0
  go_loopw [3] (fun bv wr => ∃ (k : Nat) (A : Option Addr), k ≤ 32 ∧ bv = .slice A (32 - k) (32 - k) ∧ (k < 32 → A = some ⟨w.heap.size, k, none⟩) ∧ wr = w1 ∧ Hid (strip (l.drop k) = strip l)) (fun bv _ => match bv with | .slice _ n _ => n | _ => 0)
  case atStart => exact ⟨0, some ⟨w.heap.size, 0, none⟩, by omega, rfl, fun _ => rfl, rfl, Lib.hid rfl⟩
  case round =>
    obtain ⟨k, A, hk, rfl, hA, rfl, HST⟩ := hrel
    by_cases h1 : k < 32
    · obtain rfl := hA h1
      have hc := arr_cell HA1.out k (by omega)
      have e1 : (((32 - k : Nat) : Int)) = 32 - (k : Int) := by omega
      by_cases hz : l[k] = 0
      · have HSTEP : Hid (strip (l.drop (k + 1)) = strip l) := Lib.hid (by rw [← HST.out, List.drop_eq_getElem_cons (by omega : k < l.length), strip, if_pos hz])
        rw [hz] at hc
        have hc2 : wr.cell? ⟨w.heap.size, k, none⟩ = some (.int .u8 0) := hc
        clear hc hz
        go_wp2_with fail
        go_roundw
        case rel => exact ⟨k + 1, _, by omega, by rw [show 32 - (k + 1) = 32 - k - 1 by omega], fun h => if_neg (by omega), trivial, HSTEP⟩
        case measure => show 32 - k - 1 < 32 - k; omega
      · have hn := at_zero l k (by omega)
        rw [decide_eq_false hz] at hn
        have HD : Hid (l.drop k = strip l) := Lib.hid (by rw [← HST.out, strip_at l k (by omega) hz])
        have HB : Hid (IsB wr (.slice (some ⟨w.heap.size, k, none⟩) (32 - k) (32 - k)) (strip l)) := by
          have := isB_arr HA1.out k (by omega) (by simp [hl, maxLen]) (l.length - k) (Nat.le_refl _) (by simp [hl, maxLen]; omega)
          rw [HD.out, hl] at this
          exact Lib.hid this
        clear hz
        go_wp2_with first
          | (go_at_call 224; refine (clone_bytes _ (strip l) _ HB.out (by have := strip_length l; omega)).mono ?_; rintro e w2 ⟨v2, rfl, hg2, ho2⟩; have HB2 := Lib.hid (ownB_P ho2); obtain ⟨A2, c2, rfl, _⟩ := own_form ho2; have HG2 := Lib.hid hg2; have HR2 := Lib.hid ((hg2.block _ (lt_of_some HI1.out)).trans HI1.out); clear hg2 ho2)
          | (guard_target = wpList _ _ _ (Oper.mk _ (Op.store _ _ _) _ _ _ _ :: _) _ _; refine wpList_store_row rfl 278 (.tmp 2) (.tmp 18) rfl (w.heap.size + 1) _ rfl rfl 278 _ HR2.out (by kernel_rfl) rfl (by simp [Value.oneCell']) ?_)
        refine bodyPost_ret (results_item1 rfl _ _ (w.heap.size + 1) _ rfl (heap_setRow_same _ _ _ _ _ HR2.out) rfl) rfl ⟨_, rfl, gr_setRow (HG1.out.trans HG2.out) _ _ (by omega), ?_⟩
        exact itemIn_bytes (HB2.out.mono (fun b hb => ⟨by have := hb.1; omega, by rw [size_setRow]; have := hb.2; omega⟩) (fun p hp => cell_setRow (by have := hp.1; omega)))
    · skip
      have hk2 : k = 32 := by omega
      subst hk2
      have HD : Hid (l.drop 32 = strip l) := Lib.hid (by rw [← HST.out, List.drop_eq_nil_of_le (by omega)]; rfl)
      have hz := h1
      have HB : Hid (IsB wr (.slice A (32 - 32) (32 - 32)) (strip l)) := by
        rw [← HD.out, List.drop_eq_nil_of_le (by omega)]
        exact Lib.hid ⟨_, 0, rfl, by simp, by simp [maxLen], Rd.nil⟩
      clear hz
      go_wp2_with first
        | (go_at_call 224; refine (clone_bytes _ (strip l) _ HB.out (by have := strip_length l; omega)).mono ?_; rintro e w2 ⟨v2, rfl, hg2, ho2⟩; have HB2 := Lib.hid (ownB_P ho2); obtain ⟨A2, c2, rfl, _⟩ := own_form ho2; have HG2 := Lib.hid hg2; have HR2 := Lib.hid ((hg2.block _ (lt_of_some HI1.out)).trans HI1.out); clear hg2 ho2)
        | (guard_target = wpList _ _ _ (Oper.mk _ (Op.store _ _ _) _ _ _ _ :: _) _ _; refine wpList_store_row rfl 278 (.tmp 2) (.tmp 18) rfl (w.heap.size + 1) _ rfl rfl 278 _ HR2.out (by kernel_rfl) rfl (by simp [Value.oneCell']) ?_)
      refine bodyPost_ret (results_item1 rfl _ _ (w.heap.size + 1) _ rfl (heap_setRow_same _ _ _ _ _ HR2.out) rfl) rfl ⟨_, rfl, gr_setRow (HG1.out.trans HG2.out) _ _ (by omega), ?_⟩
      exact itemIn_bytes (HB2.out.mono (fun b hb => ⟨by have := hb.1; omega, by rw [size_setRow]; have := hb.2; omega⟩) (fun p hp => cell_setRow (by have := hp.1; omega)))
end Go.Proofs.YtdhicdnmgmkpkaaGreat
/-
  Numbers as words: the reference's Of, Int, IntOf; Num.
  Conditions: none.
-/
namespace Go.Proofs.YtdhicdnmgmkpkaaGreat
set_option linter.unusedVariables false
open Go.RowKit Mono Rlp
set_option maxRecDepth 20000 in
set_option maxHeartbeats 1000000 in
theorem rlp_Num (n : Int) (w : World) (h1 : -9223372036854775808 ≤ n) (h2 : n ≤ 9223372036854775807) : Calls Tryz.prog 199 #[.int .i64 n] w (Ret (fun v w' => ItemIn (fun k => w.heap.size ≤ k ∧ k < w'.heap.size) w' v (.mk false (be n.toNat) [])) w) := by
  have hbig : ∀ w : World, Calls Tryz.prog 223 #[.int .i64 n] w (Ret (fun v w' => OwnB w' w.heap.size v (be n.toNat)) w) := fun w => by
    by_cases h : 0 ≤ n
    · obtain ⟨m, rfl⟩ := Int.eq_ofNat_of_zero_le h
      exact rlp_big m w (by omega)
    · have := rlp_big_neg n w h1 (by omega)
      rw [show n.toNat = 0 by omega, be_zero]
      exact this
  go_enter Tryz.func199, Tryz.ntmps199
  go_wp2_with first
    | (go_at_call 223; refine (hbig _).mono ?_; rintro e w2 ⟨v2, rfl, hg2, ho2⟩; have HB2 := Lib.hid (ownB_P ho2); obtain ⟨A2, c2, rfl, _⟩ := own_form ho2; have HG2 := Lib.hid ((gr_alloc w _).trans hg2); have HR2 := Lib.hid ((hg2.block _ (by simp)).trans (heap_alloc_new w (.cells #[.bool false, .slice none 0 0, .slice none 0 0] 278))); clear hg2 ho2)
    | (guard_target = wpList _ _ _ (Oper.mk _ (Op.store _ _ _) _ _ _ _ :: _) _ _; refine wpList_store_row rfl 278 (.tmp 2) (.tmp 5) rfl w.heap.size _ rfl rfl 278 _ HR2.out (by kernel_rfl) rfl (by simp [Value.oneCell']) ?_)
  refine bodyPost_ret (results_item1 rfl _ _ w.heap.size _ rfl (heap_setRow_same _ _ _ _ _ HR2.out) rfl) rfl ⟨_, rfl, gr_setRow HG2.out _ _ (by omega), ?_⟩
  exact itemIn_bytes (HB2.out.mono (fun b hb => ⟨by have := hb.1; simp at this; omega, by rw [size_setRow]; have := hb.2; omega⟩) (fun p hp => cell_setRow (by have := hp.1; simp at this; omega)))
end Go.Proofs.YtdhicdnmgmkpkaaGreat
/-
  Items' bytes, numbers and words of both sides, as the abstract machine calls them.
  Conditions: none.
-/
namespace Go.Proofs.YtdhicdnmgmkpkaaGreat
set_option linter.unusedVariables false
open Go.RowKit Mono Rlp
namespace E
theorem packV_read {ok : Nat → Prop} {w w' : World} {x : Raw} {v : Value} (h : PackV w.heap.size x v w') : ReadR (fun b => (ok b ∨ w.heap.size ≤ b) ∧ b < w'.heap.size) w' (packD (packed x)) v := by
  unfold PackV at h
  unfold packD
  cases hp : packed x with
  | none =>
    rw [hp] at h
    rw [h]
    exact tpl2 (v_mk rfl) (v_mk rfl)
  | some b =>
    rw [hp] at h
    obtain ⟨vb, rfl, ho⟩ := h
    have h1 := ownB_P ho
    exact tpl2 ((readV_one rfl).2 (by rw [Reads]; exact ⟨_, rfl, h1.mono (fun b hb => more_new b hb) fun _ _ => rfl⟩)) (v_mk rfl)
theorem f_Pack (x : Raw) : Fn 201 [dItem x] (· = packD (packed x)) := ⟨fun ok w xs hok hr => by
  obtain ⟨v, rfl, h⟩ := one_arg hr
  refine (rlp_pack v x w (isItem_of hok h)).mono ?_
  rintro e w' ⟨v', rfl, hg, hv⟩
  exact ⟨hg, _, _, rfl, rfl, packV_read hv⟩⟩
theorem f_Num (n : Int) (h1 : -9223372036854775808 ≤ n) (h2 : n ≤ 9223372036854775807) : Fn 199 [.v (.int .i64 n)] (· = .val (dItem (.mk false (be n.toNat) []))) := ⟨fun ok w xs hok hr => by
  obtain ⟨v, rfl, h⟩ := one_arg hr
  obtain rfl := (readV_v.1 h).2
  refine (rlp_Num n w h1 h2).mono ?_
  rintro e w' ⟨v', rfl, hg, hv⟩
  exact ⟨hg, _, _, rfl, rfl, readV_item.2 (ItemIn.mono hv (fun b hb => more_new b hb) fun _ _ => rfl)⟩⟩
theorem f_Big (l : List UInt8) (hl : l.length = 32) : Fn 200 [.arr 32 l] (· = .val (dItem (.mk false (strip l) []))) := ⟨fun ok w xs hok hr => by
  obtain ⟨v, rfl, h⟩ := one_arg hr
  obtain ⟨_, rfl⟩ := arrV_of h
  refine (rlp_Big l hl w).mono ?_
  rintro e w' ⟨v', rfl, hg, hv⟩
  exact ⟨hg, _, _, rfl, rfl, readV_item.2 (ItemIn.mono hv (fun b hb => more_new b hb) fun _ _ => rfl)⟩⟩
end E
end Go.Proofs.YtdhicdnmgmkpkaaGreat
/-
  Tries' nodes: what they read as, their items and bytes (plain); shape.texts.
  Conditions: none.
-/
namespace Go.Proofs.YtdhicdnmgmkpkaaGreat
set_option linter.unusedVariables false
open Go.RowKit Mono Rlp
namespace E
theorem FnM.frzT {f : FuncId} {ds : List D} {os : List Obj} {Φ : R → List Obj → Prop} (e z : Nat) (h : FnM f ds os (fun r os' => ∃ v ds' rest, r = .val (.v v) ∧ os' = .row v e z ds' :: rest ∧ Φ (.val (.sl z ds')) rest)) : FnM f ds os Φ := ⟨fun ok w xs h1 h2 h3 => (h.go ok w xs h1 h2 h3).mono fun en w' ⟨u, r, os', e1, ⟨v, ds', rest, e2, e3, hΦ⟩, ht, hv⟩ => by
  subst e2 e3
  obtain rfl := (readV_v.1 hv).2
  have hk : ∀ b, okM ok os w (.row u e z ds' :: rest) w' b → okM ok os w rest w' b := fun b hb => ⟨hb.1, hb.2.1, fun o ho => hb.2.2 o (List.mem_cons_of_mem _ ho)⟩
  obtain ⟨rows, ⟨g1, hmine⟩, g2⟩ := ht.at_ (.row u e z ds') List.mem_cons_self
  have hap := List.pairwise_cons.1 ht.apart
  refine ⟨u, .val (.sl z ds'), rest, e1, hΦ, ⟨ht.gr, hap.2, fun o ho => (ht.at_ o (List.mem_cons_of_mem _ ho)).move hk (fun _ _ => rfl) fun _ _ => rfl⟩, ?_⟩
  obtain ⟨A, c, rfl, hc1, hc2⟩ := own_form g1
  refine (readV_one rfl).2 ?_
  rw [Reads]
  refine ⟨A, c, rows, rfl, hc1, hc2, fun e => by subst e; exact own_none g1, fun hn => ?_, ReadsRows.mono hk (fun _ _ => rfl) z ds' rows g2⟩
  obtain ⟨b, o, rfl, hb, hc⟩ := own_RdP g1 hn
  exact ⟨b, o, rfl, ⟨(hmine b rfl).elim (fun h => .inr (.inl h)) (fun h => .inr (.inr h)), hb.2, fun p hp e => hap.1 p hp b rfl e⟩, hc⟩⟩
inductive Tn where
  | nil
  | leaf (p v : List UInt8)
  | ext (p : List UInt8) (k : Tn)
  | br (ks : Nat → Tn) (v : List UInt8)
def dT : Tn → D
  | .nil => .v .nilIface
  | .leaf p v => .ifc 340 (.pd (.tup [.bs p, .bs v]))
  | .ext p k => .ifc 343 (.pd (.tup [.bs p, dT k]))
  | .br ks v => .ifc 346 (.pd (.tup [.tup ((List.range 16).map fun i => dT (ks i)), .bs v]))
theorem dT_one (t : Tn) : (dT t).size = 1 ∧ (dT t).agg = false := by cases t <;> exact ⟨rfl, rfl⟩
def pkB (x : Raw) : List UInt8 := (packed x).getD []
def refI (x : Raw) : Raw := if (pkB x).length < 32 then x else .mk false (hash (pkB x)) []
def Tn.isNil : Tn → Bool
  | .nil => true
  | _ => false
def itemT : Tn → Raw
  | .nil => .mk true [] []
  | .leaf p v => .mk true [] [.mk false (ppk p true) [], .mk false v []]
  | .ext p k => .mk true [] [.mk false (ppk p false) [], if k.isNil then .mk false [] [] else refI (itemT k)]
  | .br ks v => .mk true [] ((List.range 16).map (fun i => if (ks i).isNil then .mk false [] [] else refI (itemT (ks i))) ++ [.mk false v []])
def refT (t : Tn) : Raw := if t.isNil then .mk false [] [] else refI (itemT t)
def sumT (t : Tn) : List UInt8 := if t.isNil then root0 else hash (pkB (itemT t))
def Tn.ok : Tn → Prop
  | .nil => True
  | .leaf p v => p.length ≤ 536870912
  | .ext p k => p.length ≤ 536870912 ∧ k.ok
  | .br ks v => ∀ i, (ks i).ok
set_option maxRecDepth 20000 in
set_option maxHeartbeats 4000000 in
theorem texts1 (l : List UInt8) : FnM 248 [.sl 1 [.bs l]] [] (fun r os' => ∃ v, r = .val (.v v) ∧ os' = [.row v 278 3 [dItem (.mk false l [])]]) := by
  refine FnM.walk 19 Tryz.func248 rfl Tryz.ntmps248 (by simp) fun X => ?_
  repeat
    (first
     | (apply P_move; (iterate 3 exact rfl)) | (apply P_assign; (iterate 3 exact rfl)) | (apply P_lensl; (iterate 4 exact rfl)) | apply EL.nil | ((with_reducible apply EK.then_normal); apply EK.code)
     | (with_reducible first | apply EC.seq | apply EC.region | apply EC.skip | apply EC.label | apply EC.block | apply EC.exit | apply EC.ret | apply EK.in_normal | apply EK.in_same | apply EK.in_ret | apply EK.then_ret | apply EK.then_exit))
  refine EC.le (Le.row 278 3) ?_
  refine EC.loopN 2 (EK.round ?_)
  repeat
    (first
     | (apply P_buildR (d' := dItem (.mk false l [])); (iterate 5 exact rfl); (focus ((repeat first | exact RefineL.refl _ _ | exact RL.nil | exact Rf.same | exact Rf.bs0 | exact Rf.sl0 | (apply Rf.fact; (focus (simp; done)); exact rfl) | apply Rf.tup | apply RL.cons))); (iterate 2 exact rfl))
     | (apply P_move; (iterate 3 exact rfl)) | (apply P_assign; (iterate 3 exact rfl)) | (apply P_loadpd; (iterate 5 exact rfl))
     | (apply P_cmp (b := true); (iterate 2 exact rfl); (focus (first | (simp [cmpI]; done) | (simp [cmpI]; omega))); (iterate 2 exact rfl))
     | (apply P_cmp (b := false); (iterate 2 exact rfl); (focus (first | (simp [cmpI]; done) | (simp [cmpI]; omega))); (iterate 2 exact rfl))
     | (apply P_ar; (iterate 3 exact rfl); (focus omega); (focus omega); (iterate 2 exact rfl))
     | (apply P_index; (iterate 4 exact rfl); (focus (first | exact ⟨by decide, rfl⟩ | (refine ⟨by omega, ?_⟩; rw [Int.toNat_natCast]; assumption))); (iterate 2 exact rfl))
     | (apply P_lit; (iterate 9 exact rfl))
     | ((apply P_append; exact rfl; (focus (repeat first | exact .z | apply SetAt.s | apply SetAtF.s)); (iterate 5 exact rfl); (focus (constructor <;> (first | (simp; done) | (simp; omega))))); intro _)
     | ((with_reducible apply EK.then_normal); apply EK.round) | apply EL.nil | ((with_reducible apply EK.then_normal); apply EK.code) | (apply EC.cond_true; exact rfl) | (apply EC.cond_false; exact rfl)
     | (with_reducible first | apply EC.seq | apply EC.region | apply EC.skip | apply EC.label | apply EC.block | apply EC.exit | apply EC.ret | apply EK.in_normal | apply EK.in_same | apply EK.in_ret | apply EK.then_ret | apply EK.then_exit))
  rename_i v
  exact EK.retM1 rfl rfl ⟨v, rfl, rfl⟩
set_option maxRecDepth 20000 in
set_option maxHeartbeats 4000000 in
theorem texts2 (l m : List UInt8) : FnM 248 [.sl 1 [.bs l, .bs m]] [] (fun r os' => ∃ v, r = .val (.v v) ∧ os' = [.row v 278 3 [dItem (.mk false l []), dItem (.mk false m [])]]) := by
  refine FnM.walk 19 Tryz.func248 rfl Tryz.ntmps248 (by simp) fun X => ?_
  repeat
    (first
     | (apply P_move; (iterate 3 exact rfl)) | (apply P_assign; (iterate 3 exact rfl)) | (apply P_lensl; (iterate 4 exact rfl)) | apply EL.nil | ((with_reducible apply EK.then_normal); apply EK.code)
     | (with_reducible first | apply EC.seq | apply EC.region | apply EC.skip | apply EC.label | apply EC.block | apply EC.exit | apply EC.ret | apply EK.in_normal | apply EK.in_same | apply EK.in_ret | apply EK.then_ret | apply EK.then_exit))
  refine EC.le (Le.row 278 3) ?_
  refine EC.loopN 3 (EK.round ?_)
  repeat
    (first
     | (apply P_buildR (d' := dItem (.mk false l [])); (iterate 5 exact rfl); (focus ((repeat first | exact RefineL.refl _ _ | exact RL.nil | exact Rf.same | exact Rf.bs0 | exact Rf.sl0 | (apply Rf.fact; (focus (simp; done)); exact rfl) | apply Rf.tup | apply RL.cons))); (iterate 2 exact rfl))
     | (apply P_buildR (d' := dItem (.mk false m [])); (iterate 5 exact rfl); (focus ((repeat first | exact RefineL.refl _ _ | exact RL.nil | exact Rf.same | exact Rf.bs0 | exact Rf.sl0 | (apply Rf.fact; (focus (simp; done)); exact rfl) | apply Rf.tup | apply RL.cons))); (iterate 2 exact rfl))
     | (apply P_move; (iterate 3 exact rfl)) | (apply P_assign; (iterate 3 exact rfl)) | (apply P_loadpd; (iterate 5 exact rfl))
     | (apply P_cmp (b := true); (iterate 2 exact rfl); (focus (first | (simp [cmpI]; done) | (simp [cmpI]; omega))); (iterate 2 exact rfl))
     | (apply P_cmp (b := false); (iterate 2 exact rfl); (focus (first | (simp [cmpI]; done) | (simp [cmpI]; omega))); (iterate 2 exact rfl))
     | (apply P_ar; (iterate 3 exact rfl); (focus omega); (focus omega); (iterate 2 exact rfl))
     | (apply P_index; (iterate 4 exact rfl); (focus (first | exact ⟨by decide, rfl⟩ | (refine ⟨by omega, ?_⟩; rw [Int.toNat_natCast]; assumption))); (iterate 2 exact rfl))
     | (apply P_lit; (iterate 9 exact rfl))
     | ((apply P_append; exact rfl; (focus (repeat first | exact .z | apply SetAt.s | apply SetAtF.s)); (iterate 5 exact rfl); (focus (constructor <;> (first | (simp; done) | (simp; omega))))); intro _)
     | ((with_reducible apply EK.then_normal); apply EK.round) | apply EL.nil | ((with_reducible apply EK.then_normal); apply EK.code) | (apply EC.cond_true; exact rfl) | (apply EC.cond_false; exact rfl)
     | (with_reducible first | apply EC.seq | apply EC.region | apply EC.skip | apply EC.label | apply EC.block | apply EC.exit | apply EC.ret | apply EK.in_normal | apply EK.in_same | apply EK.in_ret | apply EK.then_ret | apply EK.then_exit))
  rename_i v
  exact EK.retM1 rfl rfl ⟨v, rfl, rfl⟩
theorem f_texts1 (l : List UInt8) : Fn 248 [.sl 1 [.bs l]] (· = .val (.sl 3 [dItem (.mk false l [])])) :=
  (FnM.frzT (Φ := fun r os' => r = .val (.sl 3 [dItem (.mk false l [])]) ∧ os' = []) 278 3 ((texts1 l).mono fun r os' ⟨v, h1, h2⟩ => ⟨v, _, [], h1, h2, rfl, rfl⟩)).toFn
theorem f_texts2 (l m : List UInt8) : Fn 248 [.sl 1 [.bs l, .bs m]] (· = .val (.sl 3 [dItem (.mk false l []), dItem (.mk false m [])])) :=
  (FnM.frzT (Φ := fun r os' => r = .val (.sl 3 [dItem (.mk false l []), dItem (.mk false m [])]) ∧ os' = []) 278 3 ((texts2 l m).mono fun r os' ⟨v, h1, h2⟩ => ⟨v, _, [], h1, h2, rfl, rfl⟩)).toFn
end E
end Go.Proofs.YtdhicdnmgmkpkaaGreat
/-
  bytes.Compare: the order of bytes.
  Conditions: none.
-/
namespace Go.Proofs.YtdhicdnmgmkpkaaGreat
set_option linter.unusedVariables false
open Go.RowKit Mono
abbrev cmpB (l m : List UInt8) : Int := Lib.compareBytes l m
theorem less_cmp : ∀ a b : List UInt8, Op.bytesLess a b = decide (cmpB a b < 0)
  | [], [] => rfl
  | _ :: _, [] => rfl
  | [], _ :: _ => rfl
  | a :: x, b :: y => by
    rw [Op.bytesLess, cmpB, Lib.compareBytes, less_cmp x y]
    by_cases h1 : a < b
    · simp [h1]
    · by_cases h2 : b < a
      · have h3 : ¬ a = b := fun e => by subst e; exact h1 h2
        simp [h1, h2, h3]
      · have h3 : a = b := by
          apply UInt8.toNat_inj.1
          have := UInt8.not_lt.1 h1
          have := UInt8.not_lt.1 h2
          exact Nat.le_antisymm (UInt8.le_iff_toNat_le.1 (UInt8.not_lt.1 h2)) (UInt8.le_iff_toNat_le.1 (UInt8.not_lt.1 h1))
        subst h3
        simp [h1]
theorem run_bytesOf {w : World} {v : Value} {l : List UInt8} (h : IsB w v l) : (Extern.Bytes.bytesOf v).run Tryz.prog w = .ok (bs l) w := by
  obtain ⟨A, c, rfl, h1, h2, hr⟩ := h
  cases A with
  | none =>
    have : l = [] := by
      by_cases hl : bvs l = []
      · simpa [bvs] using hl
      · obtain ⟨b, o, e, _⟩ := hr hl
        cases e
    subst this
    rfl
  | some ad =>
    have := Lib.run_loadBytesX (P := Tryz.prog) (w := w) (l.map fun x => (x.toNat : Int)) ad .empty fun j x hx => by
      rw [List.getElem?_map] at hx
      obtain ⟨y, hy, rfl⟩ := Option.map_eq_some_iff.1 hx
      obtain ⟨b, o, e, _, hc⟩ := hr (fun e => by have := congrArg List.length e; rw [bvs_length] at this; simp at this; rw [this] at hy; simp at hy)
      injection e with e
      subst e
      rw [add_none]
      exact hc j _ (by simp [bvs, bv, hy])
    rw [List.length_map] at this
    show (Extern.Bytes.loadBytes ad l.length .empty).run Tryz.prog w = _
    rw [this]
    have h2 : Lib.bytesOf (l.map fun x => (x.toNat : Int)) = l := by
      simp only [Lib.bytesOf, List.map_map]
      refine (List.map_congr_left fun x _ => ?_).trans (List.map_id l)
      simp
    rw [h2]
    simp [bs]
theorem run_compare {w : World} {v u : Value} {l m : List UInt8} (h1 : IsB w v l) (h2 : IsB w u m) : (Extern.BytealgCompare.compare #[v, u]).run Tryz.prog w = .ok (.int .i64 (cmpB l m)) w := by
  change Sem.run Tryz.prog (do pure (goInt (Extern.BytealgCompare.cmp (← Extern.Bytes.bytesOf v) (← Extern.Bytes.bytesOf u)))) w = _
  simp only [Sem.run_bind, run_bytesOf h1, run_bytesOf h2, Result.andThen_ok, Sem.run_pure, Lib.cmp_eq]
  rfl
set_option maxRecDepth 20000 in
set_option maxHeartbeats 1000000 in
theorem bytes_CompareW (v u : Value) (l m : List UInt8) (w : World) (h1 : IsB w v l) (h2 : IsB w u m) : Calls Tryz.prog 77 #[v, u] w fun e w' => e = .returned (.int .i64 (cmpB l m)) ∧ w' = w := by
  have hr := run_compare h1 h2
  go_enter Tryz.func77, Tryz.ntmps77
  go_wp2_with fail
  rw [run_callFunc_extern Tryz.func123 (by kernel_rfl) (by kernel_rfl) (by kernel_rfl) (e := Extern.BytealgCompare.compare) (by kernel_rfl), hr]
  simp only [Result.andThen]
  rw [Oper.upon_value]
  go_wp2_with fail
  exact bodyPost_ret (results_tmp rfl _ _ _) rfl ⟨rfl, rfl⟩
theorem bl_iff (a b : List UInt8) : Op.bytesLess a b = decide (a < b) := Go.Proofs.bytesLess_eq a b
theorem cmpB_lt (a b : List UInt8) : decide (cmpB a b < 0) = decide (a < b) := by rw [← less_cmp, bl_iff]
end Go.Proofs.YtdhicdnmgmkpkaaGreat
/-
  slices.SortFunc at rows of anything, by a key of bytes: a permutation in the keys' order.
  Conditions: none.
-/
namespace Go.Proofs.YtdhicdnmgmkpkaaGreat
set_option linter.unusedVariables false
open Go.RowKit Mono Rlp Go.Sort
namespace E
theorem heap_rowT {w : World} {g n : Nat} {os : Array Go.Obj} {cur : Array Value} {e : TypeId} {fr : Nat × Nat} (F : Array Value) (hb : w.heap[g]? = some (.cells cur e fr)) :
    (grow (putRow id (Sort.ahead w n) g 0 F) os).heap[g]? = some (.cells (putCells id 0 F cur) e fr) := by
  have hg : g < w.heap.size := (Array.getElem?_eq_some_iff.1 hb).1
  rw [heap_grow_old _ _ (by simpa using hg)]
  simp [putRow, mapBlock, Sort.ahead, Array.getElem?_modify, hb, onCells]
theorem grown_rowT {w : World} {g n : Nat} {os : Array Go.Obj} (F : Array Value) : w.grownBy (grow (putRow id (Sort.ahead w n) g 0 F) os) (some g) := by
  refine ⟨rfl, rfl, rfl, by simp, fun k hk hne => ?_⟩
  rw [heap_grow_old _ _ (by simpa using hk)]
  have : g ≠ k := fun e => hne (by rw [e])
  simp [putRow, mapBlock, Sort.ahead, Array.getElem?_modify, this]
theorem take_rowT (cur F : Array Value) (h : F.size ≤ cur.size) : (putCells id 0 F cur).toList.take F.size = F.toList := by
  apply List.ext_getElem?
  intro j
  by_cases hj : j < F.size
  · rw [List.getElem?_take_of_lt hj, Array.getElem?_toList]
    simp [putCells, hj, show j < cur.size by omega]
  · rw [List.getElem?_take_eq_none (by omega), List.getElem?_eq_none (by simp; omega)]
abbrev El {κ : Type} (dk : κ → D) (ok : Nat → Prop) (w : World) := {x : List Value × κ // Reads ok w (dk x.2) x.1}
theorem els {κ : Type} {dk : κ → D} {ok : Nat → Prop} {w : World} {z : Nat} : ∀ (ks : List κ) (rows : List (List Value)), ReadsRows ok w z (ks.map dk) rows → ∃ es : List (El dk ok w), es.map (·.1.1) = rows ∧ es.map (·.1.2) = ks
  | [], rows, h => by
    rw [List.map_nil, ReadsRows] at h
    exact ⟨[], h.symm, rfl⟩
  | k :: ks, rows, h => by
    rw [List.map_cons, ReadsRows] at h
    obtain ⟨r, rest, rfl, _, h2, h3⟩ := h
    obtain ⟨es, e1, e2⟩ := els ks rest h3
    exact ⟨⟨(r, k), h2⟩ :: es, by rw [List.map_cons, e1], by rw [List.map_cons, e2]⟩
theorem els_back {κ : Type} {dk : κ → D} {ok ok' : Nat → Prop} {w w' : World} {z : Nat} (hz : ∀ x, (dk x).size = z) (hm : ∀ d cs, Reads ok w d cs → Reads ok' w' d cs) : ∀ es : List (El dk ok w), ReadsRows ok' w' z ((es.map (·.1.2)).map dk) (es.map (·.1.1))
  | [] => by rw [List.map_nil, List.map_nil, List.map_nil, ReadsRows]
  | e :: es => by
    rw [List.map_cons, List.map_cons, List.map_cons, ReadsRows]
    exact ⟨_, _, rfl, (Reads.len _ _ e.2).trans (hz _), hm _ _ e.2, els_back hz hm es⟩
theorem flat_atE {α : Type} [Inhabited α] {enc : α → List Value} {n : Nat} (hn : 0 < n) (hk : ∀ x, (enc x).length = n) : ∀ (ks : List α) (t : Nat), t < ks.length * n → (ks.map enc).flatten[t]? = some ((enc (ks[t / n]!))[t % n]!)
  | [], t, h => by simp at h
  | k :: ks, t, h => by
    rw [List.map_cons, List.flatten_cons]
    by_cases ht : t < n
    · rw [List.getElem?_append_left (by rw [hk]; omega), Nat.div_eq_of_lt ht, Nat.mod_eq_of_lt ht]
      simp [hk, ht]
    · rw [List.getElem?_append_right (by rw [hk]; omega), hk, flat_atE hn hk ks (t - n) (by simp [Nat.add_mul] at h; omega)]
      have h1 : t / n = (t - n) / n + 1 := by
        conv => lhs; rw [show t = t - n + n by omega, Nat.add_div_right _ hn]
      have h2 : t % n = (t - n) % n := by
        conv => lhs; rw [show t = t - n + n by omega, Nat.add_mod_right]
      rw [h1, h2]
      simp
theorem flatE_list {α : Type} [Inhabited α] {enc : α → List Value} {n : Nat} (hn : 0 < n) (hk : ∀ x, (enc x).length = n) (ks : List α) : (flatK enc n ks.toArray).toList = (ks.map enc).flatten := by
  have hl : (ks.map enc).flatten.length = ks.length * n := by
    have : ∀ ks : List α, (ks.map enc).flatten.length = ks.length * n := fun ks => by
      induction ks with
      | nil => simp
      | cons k ks ih => rw [List.map_cons, List.flatten_cons, List.length_append, ih, hk, List.length_cons, Nat.add_mul, Nat.one_mul, Nat.add_comm]
    exact this ks
  refine List.ext_getElem? fun t => ?_
  by_cases ht : t < ks.length * n
  · rw [flat_atE hn hk ks t ht, Array.getElem?_toList]
    have hs : t < (flatK enc n ks.toArray).size := by simpa using ht
    have := get_flatK enc n ks.toArray t (by simpa using ht)
    rw [getElem!_pos _ t hs] at this
    rw [Array.getElem?_eq_getElem hs, this]
    simp
  · rw [List.getElem?_eq_none (by simp; omega), List.getElem?_eq_none (by omega)]
theorem swoE {α : Type} (key : α → List UInt8) : SWO (Go.Proofs.ltOf fun x y : α => cmpB (key x) (key y)) := by
  have h : ∀ x y : α, Go.Proofs.ltOf (fun x y : α => cmpB (key x) (key y)) x y = decide (key x < key y) := fun x y => cmpB_lt (key x) (key y)
  refine ⟨fun x => ?_, fun x y z h1 h2 => ?_, fun x y z h1 h2 => ?_⟩
  · rw [h]
    simp [List.lt_irrefl]
  · rw [h] at h1 h2 ⊢
    simp only [decide_eq_true_eq] at h1 h2 ⊢
    exact List.lt_trans h1 h2
  · rw [h] at h1 h2 ⊢
    simp only [decide_eq_false_iff_not, List.not_lt] at h1 h2 ⊢
    exact List.le_trans h2 h1
theorem sort_gen {κ : Type} {ρ : Go.Shelf.Ren} (L : SlLaysF0.n6 Tryz.prog ρ) (T z : Nat) (hz : 0 < z) (aE : ∀ w, (isAgg (ρ.t 24)).run Tryz.prog w = .ok true w) (zE : ∀ w, (Go.sizeOf (ρ.t 24)).run Tryz.prog w = .ok z w)
    (dk : κ → D) (hag : ∀ x, (dk x).agg = true) (hsz : ∀ x, (dk x).size = z) (key : κ → List UInt8) (x0 : κ) (cs0 : List Value) (hx0 : ∀ ok w, Reads ok w (dk x0) cs0) (cf : FuncId)
    (hc : ∀ (ok : Nat → Prop) (w : World), (∀ b, ok b → b < w.heap.size) → ∀ x y v u, ReadV ok w (dk x) v → ReadV ok w (dk y) u → Calls Tryz.prog cf #[v, u] w fun e w' => e = .returned (.int .i64 (cmpB (key x) (key y))) ∧ ∃ q os', w' = grow (w.drewN q) os')
    (ec : ∀ args w, (callFunc cf args).run Tryz.prog w = .ok (.enter cf args) w) (v : Value) (ks : List κ) (hl : ks.length < 4611686018427387904) :
    FnM (ρ.f 6) [.v v, .v (.func (.func cf) #[] #[])] [.row v T z (ks.map dk)] (fun r os' => r = .tpl [] ∧ ∃ ks' : List κ, ks'.Perm ks ∧ ks'.Pairwise (fun x y => key x ≤ key y) ∧ os' = [.row v T z (ks'.map dk)]) := by
  constructor
  intro ok w xs hok hown hr
  obtain ⟨x1, _, rfl, hx1, x2, _, rfl, hx2, rfl⟩ := hr
  obtain rfl := (readV_v.1 hx1).2
  obtain rfl := (readV_v.1 hx2).2
  obtain ⟨rows, ⟨hrow, hbase⟩, hrows⟩ := hown.at_ _ (List.mem_cons_self ..)
  rw [List.length_map] at hrow
  rcases hrow.2 with ⟨rfl, h0⟩ | ⟨g, cap, cur, rfl, _, hgb, r1, r2, r3, r4⟩
  · obtain rfl : ks = [] := List.eq_nil_of_length_eq_zero h0
    rw [List.map_nil] at hrows
    refine (AnyF.slices_SortFunc_none L none 0 (.func (.func cf) #[] #[]) w).mono ?_
    rintro e w' ⟨rfl, rfl⟩
    refine ⟨_, .tpl [], _, rfl, ⟨rfl, [], .nil, .nil, rfl⟩, ⟨.refl _, hown.apart, fun o ho => ?_⟩, [], rfl, rfl⟩
    obtain rfl := List.mem_singleton.1 ho
    exact ⟨[], ⟨⟨by simp, .inl ⟨rfl, rfl⟩⟩, fun b hb => by cases hb⟩, by rw [List.map_nil, ReadsRows]⟩
  · have hlt := (Array.getElem?_eq_some_iff.1 hgb).1
    have hng : ∀ b, ok b → b ≠ g := fun b hb e => hown.off b ⟨_, List.mem_cons_self .., by rw [e]; rfl⟩ hb
    obtain ⟨es, rfl, rfl⟩ := els ks rows hrows
    letI : Inhabited (El dk ok w) := ⟨⟨(cs0, x0), hx0 ok w⟩⟩
    have hk : ∀ x : El dk ok w, x.1.1.length = z := fun x => (Reads.len _ _ x.2).trans (hsz _)
    have hone : ∀ x : El dk ok w, ∀ u ∈ x.1.1, u.oneCell' = true := fun x => Reads.one _ _ x.2
    rw [List.length_map] at hl
    simp only [List.length_map] at r1 r3 r4 hrow
    have hH : HoldsK (fun x : El dk ok w => x.1.1) z w g 0 es.toArray := fun j hj => by
      have hj' : j < es.length * z := by simpa using hj
      have h1 : (cur.toList.take (es.length * z))[j]? = (es.map fun x : El dk ok w => x.1.1).flatten[j]? := by rw [r4]
      rw [List.getElem?_take_of_lt hj', ← flatE_list hz hk] at h1
      refine ⟨?_, by simp [World.frozen?, hgb]⟩
      rw [cell_of_row w g (0 + j) cur T (0, 0) hgb, Nat.zero_add, ← Array.getElem?_toList, h1, Array.getElem?_toList, Array.getElem?_eq_getElem hj, getElem!_pos _ j hj]
      rfl
    have hkeep : ∀ (n : Nat) (F : Array Value) (os : Array Go.Obj) (b : Nat), ok b → (grow (putRow id (Sort.ahead w n) g 0 F) os).heap[b]? = w.heap[b]? := fun n F os b hb => (grown_rowT (w := w) (g := g) (n := n) (os := os) F).block b (hok b hb) fun e => hng b hb (Option.some.inj e)
    have hcmp : CmpLays Tryz.prog cf #[] (fun x : El dk ok w => x.1.1) z (fun x y : El dk ok w => cmpB (key x.1.2) (key y.1.2)) g 0 es.toArray.size w := fun m os dk' hs x y => by
      have hm : ∀ d cs, Reads ok w d cs → Reads ok (sortWorldK (fun x : El dk ok w => x.1.1) z w g 0 m dk' os) d cs := fun d cs h => Reads.mono (fun _ h => h) (fun p hp => World.cell?_of_block (hkeep m _ os p.block hp)) d cs h
      refine (hc ok _ (fun b hb => Nat.lt_of_lt_of_le (hok b hb) (size_sortWorldK_c _ _ _ _ _ _ _ _)) x.1.2 y.1.2 _ _ ((readV_agg (hag _)).2 ⟨_, hm _ _ x.2, rfl⟩) ((readV_agg (hag _)).2 ⟨_, hm _ _ y.2, rfl⟩)).mono ?_
      rintro e w' ⟨rfl, h⟩
      exact ⟨rfl, h⟩
    have hsort := AnyQ.slices_SortFunc L z aE zE (fun x : El dk ok w => x.1.1) hk hone (fun x y : El dk ok w => cmpB (key x.1.2) (key y.1.2)) (swoE fun x : El dk ok w => key x.1.2) cf #[] g 0 cap es.toArray w ec hcmp hH hlt (by simpa using hl)
    have hl0 : (es.map fun x : El dk ok w => x.1.2).length = es.toArray.size := by simp
    rw [hl0]
    refine hsort.mono ?_
    rintro e w' ⟨rfl, d', n, os, hP, hS, rfl⟩
    have hd : d'.toList.Perm es := by
      obtain ⟨hs, _, hp⟩ := hP
      rw [show es.toArray.size = d'.size from hs.symm, Array.extract_size, hs, Array.extract_size] at hp
      simpa using hp
    have hdl : d'.toList.length = es.length := hd.length_eq
    have hsorted : (d'.toList.map fun x : El dk ok w => x.1.2).Pairwise fun x y => key x ≤ key y := by
      rw [List.pairwise_map, List.pairwise_iff_getElem]
      intro i j hi hj hij
      have := hS i j (Nat.zero_le _) hij (by simpa [hdl] using hj)
      have hi' : i < d'.size := by simpa using hi
      have hj' : j < d'.size := by simpa using hj
      rw [getElem!_pos d' j hj', getElem!_pos d' i hi', show ltOf (fun x y : El dk ok w => cmpB (key x.1.2) (key y.1.2)) d'[j] d'[i] = decide (key d'[j].1.2 < key d'[i].1.2) from cmpB_lt _ _] at this
      simpa using this
    have hg := grown_rowT (w := w) (g := g) (n := n) (os := os) (flatK (fun x : El dk ok w => x.1.1) z d')
    have hh := heap_rowT (n := n) (os := os) (flatK (fun x : El dk ok w => x.1.1) z d') hgb
    have hF : (flatK (fun x : El dk ok w => x.1.1) z d').size = es.length * z := by rw [size_flatK]; rw [show d'.size = es.length by simpa using hdl]
    have htk := take_rowT cur (flatK (fun x : El dk ok w => x.1.1) z d') (by rw [hF, r3]; exact Nat.mul_le_mul_right _ r1)
    have hfl : (flatK (fun x : El dk ok w => x.1.1) z d').toList = (d'.toList.map fun x : El dk ok w => x.1.1).flatten := by rw [← flatE_list hz hk d'.toList]
    rw [hF, hfl] at htk
    refine ⟨_, .tpl [], _, rfl, ⟨rfl, d'.toList.map fun x : El dk ok w => x.1.2, hd.map _, hsorted, rfl⟩, ⟨⟨hg.os, hg.tape, hg.output, hg.size, fun k hk hn => hg.block k hk fun e => hn ?_⟩, .cons (fun _ h => by simp at h) .nil, fun o ho => ?_⟩, [], rfl, rfl⟩
    · cases e
      exact ⟨_, List.mem_cons_self .., rfl⟩
    · obtain rfl := List.mem_singleton.1 ho
      have hlen : ((d'.toList.map fun x : El dk ok w => x.1.2).map dk).length = es.length := by simp [← hdl]
      have hrd : ReadsRows (okM ok [.row (.slice (some ⟨g, 0, none⟩) es.toArray.size cap) T z ((es.map fun x : El dk ok w => x.1.2).map dk)] w [.row (.slice (some ⟨g, 0, none⟩) es.toArray.size cap) T z ((d'.toList.map fun x : El dk ok w => x.1.2).map dk)] (sortWorldK (fun x : El dk ok w => x.1.1) z w g 0 n d' os)) (sortWorldK (fun x : El dk ok w => x.1.1) z w g 0 n d' os) z ((d'.toList.map fun x : El dk ok w => x.1.2).map dk) (d'.toList.map fun x : El dk ok w => x.1.1) :=
        els_back hsz (fun d cs h => Reads.mono (fun b hb => ⟨.inl hb, Nat.lt_of_lt_of_le (hok b hb) hg.size, fun o ho => by
          obtain rfl := List.mem_singleton.1 ho
          intro e
          cases e
          exact hng _ hb rfl⟩) (fun p hp => World.cell?_of_block (hkeep n _ os p.block hp)) d cs h) d'.toList
      refine ⟨d'.toList.map fun x : El dk ok w => x.1.1, ⟨⟨?_, .inr ⟨g, cap, _, ?_, Nat.zero_le _, hh, ?_, r2, ?_, ?_⟩⟩, fun b hb => .inl ⟨_, List.mem_cons_self .., hb⟩⟩, hrd⟩
      · rw [← hfl, Array.length_toList, hF, hlen]
      · rw [hlen]
        rfl
      · rw [hlen]
        exact r1
      · simp [putCells, r3]
      · rw [hlen]
        exact htk
end E
end Go.Proofs.YtdhicdnmgmkpkaaGreat
/-
  The laying of slices.SortFunc, printed by the shelf's own tool.
  Conditions: none.
-/
namespace Go.Proofs.YtdhicdnmgmkpkaaGreat
open Go.Shelf
def sortPair_ren : Go.Shelf.Ren := ⟨fun | 6 => 235 | 15 => 127 | 14 => 246 | 28 => 163 | 29 => 164 | 20 => 250 | 21 => 251 | 22 => 252 | 23 => 253 | 24 => 254 | 25 => 255 | 26 => 256 | 27 => 257 | 46 => 259 | 47 => 191 | 48 => 192 | 49 => 260 | 50 => 261 | 57 => 263 | n => n, fun | 22 => 297 | 24 => 337 | 25 => 339 | 3 => 3 | 39 => 166 | 0 => 0 | 53 => 241 | 55 => 209 | 4 => 4 | 46 => 235 | 45 => 234 | 50 => 196 | 5 => 5 | 9 => 9 | 66 => 282 | 70 => 286 | 76 => 317 | 77 => 318 | n => n, fun | n => n⟩
theorem sortPair : Go.Proofs.SlLaysF0.n6 Tryz.prog sortPair_ren := {
  mixed := by kernel_rfl
  f6 := ⟨Tryz.f235.name, by decide, Tryz.func235.trans (congrArg some (by kernel_rfl))⟩
  f14 := ⟨Tryz.f246.name, by decide, Tryz.func246.trans (congrArg some (by kernel_rfl))⟩
  f15 := Tryz.func127.trans (congrArg some (by kernel_rfl))
  f20 := ⟨Tryz.f250.name, by decide, Tryz.func250.trans (congrArg some (by kernel_rfl))⟩
  f21 := ⟨Tryz.f251.name, by decide, Tryz.func251.trans (congrArg some (by kernel_rfl))⟩
  f22 := ⟨Tryz.f252.name, by decide, Tryz.func252.trans (congrArg some (by kernel_rfl))⟩
  f23 := ⟨Tryz.f253.name, by decide, Tryz.func253.trans (congrArg some (by kernel_rfl))⟩
  f24 := ⟨Tryz.f254.name, by decide, Tryz.func254.trans (congrArg some (by kernel_rfl))⟩
  f25 := ⟨Tryz.f255.name, by decide, Tryz.func255.trans (congrArg some (by kernel_rfl))⟩
  f26 := ⟨Tryz.f256.name, by decide, Tryz.func256.trans (congrArg some (by kernel_rfl))⟩
  f27 := ⟨Tryz.f257.name, by decide, Tryz.func257.trans (congrArg some (by kernel_rfl))⟩
  f28 := Tryz.func163.trans (congrArg some (by kernel_rfl))
  f29 := Tryz.func164.trans (congrArg some (by kernel_rfl))
  f46 := ⟨Tryz.f259.name, by decide, Tryz.func259.trans (congrArg some (by kernel_rfl))⟩
  f47 := Tryz.func191.trans (congrArg some (by kernel_rfl))
  f48 := Tryz.func192.trans (congrArg some (by kernel_rfl))
  f49 := ⟨Tryz.f260.name, by decide, Tryz.func260.trans (congrArg some (by kernel_rfl))⟩
  f50 := ⟨Tryz.f261.name, by decide, Tryz.func261.trans (congrArg some (by kernel_rfl))⟩
  f57 := ⟨Tryz.f263.name, by decide, Tryz.func263.trans (congrArg some (by kernel_rfl))⟩
  t0 := Tryz.underlying0
  a0 := Tryz.isAgg0
  z0 := Tryz.sizeOf0
  v0 := Tryz.zeroValue0
  t3 := Tryz.underlying3
  a3 := Tryz.isAgg3
  z3 := Tryz.sizeOf3
  v3 := Tryz.zeroValue3
  t4 := Tryz.underlying4
  a4 := Tryz.isAgg4
  z4 := Tryz.sizeOf4
  v4 := Tryz.zeroValue4
  t5 := Tryz.underlying5
  a5 := Tryz.isAgg5
  z5 := Tryz.sizeOf5
  v5 := Tryz.zeroValue5
  t9 := Tryz.underlying9
  a9 := Tryz.isAgg9
  z9 := Tryz.sizeOf9
  v9 := Tryz.zeroValue9
  t22 := Tryz.underlying297
  a22 := Tryz.isAgg297
  z22 := Tryz.sizeOf297
  v22 := Tryz.zeroValue297
  t25 := Tryz.underlying339
  a25 := Tryz.isAgg339
  z25 := Tryz.sizeOf339
  v25 := Tryz.zeroValue339
  t39 := Tryz.underlying166
  a39 := Tryz.isAgg166
  z39 := Tryz.sizeOf166
  v39 := Tryz.zeroValue166
  t45 := Tryz.underlying234
  a45 := Tryz.isAgg234
  z45 := Tryz.sizeOf234
  v45 := Tryz.zeroValue234
  t46 := Tryz.underlying235
  a46 := Tryz.isAgg235
  z46 := Tryz.sizeOf235
  v46 := Tryz.zeroValue235
  t50 := Tryz.underlying196
  a50 := Tryz.isAgg196
  z50 := Tryz.sizeOf196
  v50 := Tryz.zeroValue196
  t53 := Tryz.underlying241
  a53 := Tryz.isAgg241
  z53 := Tryz.sizeOf241
  v53 := Tryz.zeroValue241
  t55 := Tryz.underlying209
  a55 := Tryz.isAgg209
  z55 := Tryz.sizeOf209
  v55 := Tryz.zeroValue209
  t66 := Tryz.underlying282
  a66 := Tryz.isAgg282
  z66 := Tryz.sizeOf282
  v66 := Tryz.zeroValue282
  t70 := Tryz.underlying286
  a70 := Tryz.isAgg286
  z70 := Tryz.sizeOf286
  v70 := Tryz.zeroValue286
  t76 := Tryz.underlying317
  a76 := Tryz.isAgg317
  z76 := Tryz.sizeOf317
  v76 := Tryz.zeroValue317
  t77 := Tryz.underlying318
  a77 := Tryz.isAgg318
  z77 := Tryz.sizeOf318
  v77 := Tryz.zeroValue318 }
end Go.Proofs.YtdhicdnmgmkpkaaGreat
