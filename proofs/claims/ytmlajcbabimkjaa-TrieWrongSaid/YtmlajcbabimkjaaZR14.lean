/-
  Merged (wip/tools/merge.py): RlpWrite, RefPack, RefPack2, Packs, RefOwn, Num4, Num5, AB0, TP2, TP3, TP4, ERet.
  Conditions: none.
-/
import Derived.Test.YtmlajcbabimkjaaZR13
import Derived.Laws.BitsAllLaws
import Derived.Test.YtmlajcbabimkjaaZR11
import Derived.Test.YtmlajcbabimkjaaZR7
import Derived.Test.YtmlajcbabimkjaaZR8
import Derived.Test.YtmlajcbabimkjaaZR12
import Derived.Test.YtmlajcbabimkjaaZR10
import Derived.Laws.Pointers
/-
  rlp: an item's bytes: write, Pack.
  Conditions: none.
-/
namespace Go.Proofs.Ytmlajcbabimkjaa
open Go.RowKit Mono Rlp
theorem EL_take (xs : List Raw) (k : Nat) (h : k < xs.length) : EL (xs.take (k + 1)) = EL (xs.take k) ++ E xs[k] := by
  rw [List.take_succ_eq_append_getElem h, EL_append, EL, EL, List.append_nil]
theorem EL_take_le (xs : List Raw) (k : Nat) : (EL (xs.take k)).length ≤ (EL xs).length := by
  have h := congrArg List.length (EL_append (xs.take k) (xs.drop k))
  rw [List.take_append_drop, List.length_append] at h
  omega
theorem E_le (xs : List Raw) (k : Nat) (h : k < xs.length) : (E xs[k]).length ≤ (EL xs).length := by
  have h1 := EL_take_le xs (k + 1)
  rw [EL_take xs k h, List.length_append] at h1
  omega
set_option maxHeartbeats 4000000 in
set_option maxRecDepth 20000 in
theorem rlp_write : ∀ (n : Nat) (r : Raw) (v : Value) (w : World), (E r).length < n → (E r).length ≤ most → IsOf w v r → Calls Try.prog 78 #[v] w (Ret (fun v w' => OwnB w' w.heap.size v (E r)) w)
  | 0, r, v, w, hn, _, _ => by omega
  | n + 1, .mk false bs xs, v, w, hn, hm, h => by
    obtain ⟨vb, rfl, A, c, rfl, hc1, hc2, hr⟩ := h
    have hE : E (.mk false bs xs) = EB bs := by rw [E]
    rw [hE] at hm ⊢
    have HR := Lib.hid hr
    unfold maxLen at hc2
    clear hr hn hE
    by_cases h1 : bs.length = 1
    · obtain ⟨b, rfl⟩ := List.length_eq_one_iff.1 h1
      obtain ⟨bl, o, rfl, hbl, hcell⟩ := HR.out (by simp [bvs])
      have e1 := hcell 0 (bv b) rfl
      rw [Nat.add_zero] at e1
      unfold bv at e1
      clear hcell h1
      have hbl2 := bv_lt b
      simp only [List.length_singleton] at hc1 ⊢
      by_cases h2 : b < 128
      · have h3 : b.toNat < 128 := UInt8.lt_iff_toNat_lt.1 h2
        have HM := Lib.hid (show EB [b] = [b] by rw [EB, if_pos ⟨rfl, h2⟩])
        clear h2
        go_enter Try.func78, Try.ntmps78
        go_wp2_with fail
        refine bodyPost_ret (results_tmp rfl _ _ _) rfl ?_
        refine ⟨_, rfl, gr_alloc w _, ?_⟩
        rw [HM.out]
        exact own_lit w #[.int .u8 (b.toNat : Int)] 5 1 1 w.heap.size w.heap.size rfl (Nat.le_refl _) (by simp [maxLen]) rfl
      · have h3 : 128 ≤ b.toNat := Nat.not_lt.1 fun e => h2 (UInt8.lt_iff_toNat_lt.2 e)
        have HM := Lib.hid (show EB [b] = head [b].length 128 ++ [b] by rw [EB, if_neg (fun h => h2 h.2)])
        clear h2
        go_enter Try.func78, Try.ntmps78
        go_wp2_with fail
        refine (rlp_headed 128 _ [b] _ ⟨_, c, rfl, hc1, by simp only [maxLen]; omega, HR.out⟩ (by simp) (by omega)).mono ?_
        rintro e w1 ⟨v1, rfl, hg1, ho1⟩
        have HO1 := Lib.hid ho1
        clear ho1
        go_wp2_with fail
        refine bodyPost_ret (results_tmp rfl _ _ _) rfl ?_
        exact ⟨_, rfl, hg1, by rw [HM.out]; exact HO1.out⟩
    · have hd : ((bs.length : Int) == 1) = false := by simp; omega
      have HM := Lib.hid (show EB bs = head bs.length 128 ++ bs by rw [EB, if_neg (fun h => h1 h.1)])
      rw [HM.out, List.length_append] at hm
      simp only [most] at hm
      clear h1
      go_enter Try.func78, Try.ntmps78
      go_wp2_with fail
      refine (rlp_headed 128 _ bs _ ⟨_, c, rfl, hc1, by simp only [maxLen]; omega, HR.out⟩ (by omega) (by omega)).mono ?_
      rintro e w1 ⟨v1, rfl, hg1, ho1⟩
      have HO1 := Lib.hid ho1
      clear ho1
      go_wp2_with fail
      refine bodyPost_ret (results_tmp rfl _ _ _) rfl ?_
      exact ⟨_, rfl, hg1, by rw [HM.out]; exact HO1.out⟩
  | n + 1, .mk true bs xs, v, w, hn, hm, h => by
    have ih := Lib.hid (rlp_write n)
    obtain ⟨vl, rfl, A, c, rows, rfl, hc1, hc2, _, hr, hi⟩ := h
    have HE := Lib.hid (show E (.mk true bs xs) = head (EL xs).length 192 ++ EL xs by rw [E])
    rw [HE.out, List.length_append] at hm hn
    have hhp := head_pos (EL xs).length 192
    have hel : (EL xs).length < n := by omega
    have hel2 : (EL xs).length ≤ 16777216 := by simp only [most] at hm; omega
    have HR := Lib.hid hr
    have HI := Lib.hid hi
    unfold maxLen at hc2
    clear hr hi hm hn hhp
    go_enter Try.func78, Try.ntmps78
    go_wp2_with fail
    go_loopw [5, 32] (fun ov i wr => ∃ (k : Nat) (acc : List UInt8), k ≤ xs.length ∧ i = .int .i64 k ∧ acc = EL (xs.take k) ∧ acc.length ≤ 16777216 ∧ OwnB wr w.heap.size ov acc ∧ Gr w wr) (fun _ i _ => xs.length - (intOf i).toNat)
    case atStart => exact ⟨0, [], by omega, rfl, by rw [List.take_zero, EL], by simp, OwnB.nil _ _, Gr.refl _⟩
    case round =>
      obtain ⟨k, acc, hk, rfl, hacc, hal, hown, hb⟩ := hrel
      obtain ⟨A3, c3, rfl, hd1, hd2⟩ := own_form hown
      have HA := Lib.hid hacc
      have HO := Lib.hid hown
      have HB := Lib.hid hb
      have hbs := hb.size
      unfold maxLen at hd2
      clear hacc hown hb
      by_cases h1 : k < xs.length
      · obtain ⟨bl, o, f, vb, vl, rfl, hbl, e1, e2, e3, hx, ⟨A2, n2, c2, rfl⟩, A', n', c', rfl⟩ := items_at HR.out HI.out k h1
        have e1' := (HB.out.cell (p := ⟨bl, o + k * 3, none⟩) hbl).trans e1
        have e2' := (HB.out.cell (p := ⟨bl, o + k * 3 + 1, none⟩) hbl).trans e2
        have e3' := (HB.out.cell (p := ⟨bl, o + k * 3 + 2, none⟩) hbl).trans e3
        have HX := Lib.hid (hx.gr HB.out)
        have hle := E_le xs k h1
        have HT := Lib.hid (EL_take xs k h1)
        have htl := EL_take_le xs (k + 1)
        rw [HT.out, ← HA.out, List.length_append] at htl
        clear e1 e2 e3 hx
        go_wp2_with (refine wpList_store_row rfl 41 (.tmp 7) (.tmp 35) rfl wr.heap.size #[.bool f, .slice A2 n2 c2, .slice A' n' c'] rfl rfl 41 _ (heap_alloc_new wr _) (by kernel_rfl) (by kernel_rfl) (by simp [Value.oneCell']) ?_; rw [World.setRow_alloc_new])
        refine (rlp_of _ xs[k] _ (HX.out.gr (gr_alloc _ _))).mono ?_
        rintro e w1 ⟨v1, rfl, hg1, ho1⟩
        have HG1 := Lib.hid ((gr_alloc _ _).trans hg1)
        have HO1 := Lib.hid ho1
        clear hg1 ho1 e1' e2' e3' HX
        go_wp2_with fail
        refine (ih.out xs[k] v1 _ (by omega) (by simp only [most]; omega) HO1.out).mono ?_
        rintro e w2 ⟨v2, rfl, hg2, ho2⟩
        obtain ⟨A4, c4, rfl, he1, he2⟩ := own_form ho2
        obtain ⟨_, _, he, _, _, hrb⟩ := OwnB.isB ho2
        injection he with he3 _ he4
        subst he3 he4
        have HR2 := Lib.hid hrb
        have HG2 := Lib.hid (HG1.out.trans hg2)
        have HO2 := Lib.hid (own_gr HO.out HG2.out)
        have hz2 := HG2.out.size
        unfold maxLen at he2
        generalize E xs[k] = ek at hle HT htl HR2 he1 ⊢
        clear HO1 HG1 hg2 ho2 hrb HO
        go_wp2_with (at_builtin; refine wpL_append _ _ 23 slT_bytes _ _ _ _ _ _ _ (bvs ek) rfl rfl rfl rfl HO2.out HR2.out (by simp [bvs]) (bvs_one _) (by simp only [maxLen]; omega) (by omega) (by omega) ?_; intro A5 c5 w5 hown5 hg5 _)
        go_roundw
        case rel =>
          refine ⟨k + 1, acc ++ ek, by omega, by go_num, by rw [HT.out, HA.out], by rw [List.length_append]; omega, ?_, (HB.out.trans HG2.out).grown hg5 (by omega) fun j hj => own_block_ge HO2.out j hj⟩
          unfold OwnB
          rw [List.length_append, bvs_append]
          exact hown5
        case measure => simp [intOf]; omega
      · have h2 : xs.length ≤ k := by omega
        have HA2 := Lib.hid (show acc = EL xs by rw [HA.out, List.take_of_length_le h2])
        clear h1 HA
        have hi2 := OwnB.isB HO.out
        have HI2 := Lib.hid hi2
        clear hi2
        go_wp2_with fail
        refine (rlp_headed 192 _ acc _ HI2.out (by omega) (by omega)).mono ?_
        rintro e w2 ⟨v2, rfl, hg2, ho2⟩
        have HG2 := Lib.hid (HB.out.trans hg2)
        have HO2 := Lib.hid (own_base ho2 hbs)
        clear hg2 ho2
        go_wp2_with fail
        refine bodyPost_ret (results_tmp rfl _ _ _) rfl ?_
        refine ⟨_, rfl, HG2.out, ?_⟩
        rw [HE.out, ← HA2.out]
        exact HO2.out
end Go.Proofs.Ytmlajcbabimkjaa
/-
  The reference: how deep an item is, heads, its bytes.
  Conditions: none.
-/
namespace Go.Proofs.Ytmlajcbabimkjaa
open Go.RowKit Mono Rlp
end Go.Proofs.Ytmlajcbabimkjaa
/-
  The reference: an item's bytes; both Packs.
  Conditions: none.
-/
namespace Go.Proofs.Ytmlajcbabimkjaa
set_option linter.unusedVariables false
open Go.RowKit Mono Rlp
end Go.Proofs.Ytmlajcbabimkjaa
/-
  Pack, the program's and the reference's: one answer.
  Conditions: none.
-/
namespace Go.Proofs.Ytmlajcbabimkjaa
set_option linter.unusedVariables false
open Go.RowKit Mono Rlp
def PackV (base : Nat) (r : Raw) : VP := fun v w => match packed r with
  | some b => ∃ vb, v = .tuple #[vb, .int .i64 0] ∧ OwnB w base vb b
  | none => v = .tuple #[.slice none 0 0, .int .i64 3]
theorem packed_le {r : Raw} {b : List UInt8} (h : packed r = some b) : b = E r ∧ b.length ≤ most := by
  unfold packed at h
  cases hm : meas r 0 with
  | none => rw [hm] at h; cases h
  | some n =>
    rw [hm] at h
    dsimp only at h
    split at h
    · cases h
    · cases h
      have := meas_E r 0 n hm
      exact ⟨rfl, by omega⟩
set_option maxHeartbeats 2000000 in
set_option maxRecDepth 20000 in
theorem rlp_pack (v : Value) (x : Raw) (w : World) (h : IsItem w v x) : Calls Try.prog 46 #[v] w (Ret (fun v w' => PackV w.heap.size x v w') w) := by
  have hx := h
  obtain ⟨lst, bs, xs⟩ := x
  obtain ⟨vb, vl, rfl, ⟨A9, c9, rfl, _⟩, A, c, rows, rfl, _⟩ := isItem_form h
  clear h
  generalize hr : Raw.mk lst bs xs = r at hx ⊢
  have HX := Lib.hid hx
  clear hx
  go_enter Try.func46, Try.ntmps46
  go_wp2_with fail
  refine (rlp_of _ r _ (HX.out.gr (gr_alloc w _))).mono ?_
  rintro e w1 ⟨v1, rfl, hg1, ho1⟩
  have HG1 := Lib.hid ((gr_alloc w _).trans hg1)
  have HO1 := Lib.hid ho1
  clear hg1 ho1 HX
  go_wp2_with fail
  refine (rlp_measure 32 0 rfl r v1 _ HO1.out).mono ?_
  rintro e w2 ⟨v2, rfl, hg2, hm2⟩
  have HG2 := Lib.hid (HG1.out.trans hg2)
  have HO2 := Lib.hid (HO1.out.gr hg2)
  unfold MeasV at hm2
  clear hg2 HO1 HG1 hr
  cases hmx : meas r 0 with
  | none =>
    rw [hmx] at hm2
    obtain ⟨z, rfl⟩ := hm2
    have HP := Lib.hid (show packed r = none by unfold packed; rw [hmx])
    clear hmx
    go_wp2_with fail
    refine bodyPost_ret (results_tmp2 rfl _ _ _) rfl ?_
    refine ⟨_, rfl, HG2.out, ?_⟩
    unfold PackV
    rw [HP.out]
    rfl
  | some n =>
    rw [hmx] at hm2
    dsimp only at hm2
    subst hm2
    have hn := meas_le _ _ _ hmx
    simp only [most] at hn
    by_cases h3 : n > most
    · have HP := Lib.hid (show packed r = none by unfold packed; rw [hmx]; dsimp only; rw [if_pos h3])
      simp only [most] at h3
      clear hmx
      go_wp2_with fail
      refine bodyPost_ret (results_tmp2 rfl _ _ _) rfl ?_
      refine ⟨_, rfl, HG2.out, ?_⟩
      unfold PackV
      rw [HP.out]
      rfl
    · have HP := Lib.hid (show packed r = some (E r) by unfold packed; rw [hmx]; dsimp only; rw [if_neg h3])
      have hl := (packed_le HP.out).2
      simp only [most] at h3
      have h4 : n ≤ 16777216 := by omega
      clear hmx h3
      go_wp2_with fail
      refine (rlp_write _ r v1 _ (Nat.lt_succ_self _) hl HO2.out).mono ?_
      rintro e w3 ⟨v3, rfl, hg3, ho3⟩
      have HG3 := Lib.hid (HG2.out.trans hg3)
      have HO3 := Lib.hid (own_base ho3 HG2.out.size)
      clear hg3 ho3
      go_wp2_with fail
      refine bodyPost_ret (results_tmp2 rfl _ _ _) rfl ?_
      refine ⟨_, rfl, HG3.out, ?_⟩
      unfold PackV
      rw [HP.out]
      exact ⟨v3, rfl, HO3.out⟩
end Go.Proofs.Ytmlajcbabimkjaa
/-
  The reference's Pack: the bytes lie in new memory.
  Conditions: none.
-/
namespace Go.Proofs.Ytmlajcbabimkjaa
set_option linter.unusedVariables false
open Go.RowKit Mono Rlp
end Go.Proofs.Ytmlajcbabimkjaa
/-
  Words as items: rlp.Big and the reference's Big.
  Conditions: none.
-/
namespace Go.Proofs.Ytmlajcbabimkjaa
set_option linter.unusedVariables false
open Go.RowKit Mono Rlp
set_option maxRecDepth 100000 in
theorem run_box_word (w : World) (l : List UInt8) : (Instr.box 32 (arrV l)).run Try.prog w = .ok (.pointer (some ⟨w.heap.size, 0, none⟩)) (w.alloc (.cells (bvs l).toArray 32)) := by kernel_rfl
end Go.Proofs.Ytmlajcbabimkjaa
/-
  Numbers as words: the reference's Of, Int, IntOf; Num.
  Conditions: none.
-/
namespace Go.Proofs.Ytmlajcbabimkjaa
set_option linter.unusedVariables false
open Go.RowKit Mono Rlp
end Go.Proofs.Ytmlajcbabimkjaa
/-
  Items' bytes, numbers and words of both sides, as the abstract machine calls them.
  Conditions: none.
-/
namespace Go.Proofs.Ytmlajcbabimkjaa
set_option linter.unusedVariables false
open Go.RowKit Mono Rlp
namespace E
theorem packV_read {ok : Nat → Prop} {w w' : World} {x : Raw} {v : Value} (h : PackV w.heap.size x v w') : ReadR (fun b => (ok b ∨ w.heap.size ≤ b) ∧ b < w'.heap.size) w' (packD (packed x)) v := by
  unfold PackV at h
  unfold packD
  cases hp : packed x with
  | none =>
    rw [hp] at h
    rw [h]
    exact tpl2 (v_mk rfl) (v_mk rfl)
  | some b =>
    rw [hp] at h
    obtain ⟨vb, rfl, ho⟩ := h
    have h1 := ownB_P ho
    exact tpl2 ((readV_one rfl).2 (by rw [Reads]; exact ⟨_, rfl, h1.mono (fun b hb => more_new b hb) fun _ _ => rfl⟩)) (v_mk rfl)
theorem f_Pack (x : Raw) : Fn 46 [dItem x] (· = packD (packed x)) := ⟨fun ok w xs hok hr => by
  obtain ⟨v, rfl, h⟩ := one_arg hr
  refine (rlp_pack v x w (isItem_of hok h)).mono ?_
  rintro e w' ⟨v', rfl, hg, hv⟩
  exact ⟨hg, _, _, rfl, rfl, packV_read hv⟩⟩
end E
end Go.Proofs.Ytmlajcbabimkjaa
/-
  Tries' nodes: what they read as, their items and bytes (plain); shape.texts.
  Conditions: none.
-/
namespace Go.Proofs.Ytmlajcbabimkjaa
set_option linter.unusedVariables false
open Go.RowKit Mono Rlp
namespace E
theorem FnM.frzT {f : FuncId} {ds : List D} {os : List Obj} {Φ : R → List Obj → Prop} (e z : Nat) (h : FnM f ds os (fun r os' => ∃ v ds' rest, r = .val (.v v) ∧ os' = .row v e z ds' :: rest ∧ Φ (.val (.sl z ds')) rest)) : FnM f ds os Φ := ⟨fun ok w xs h1 h2 h3 => (h.go ok w xs h1 h2 h3).mono fun en w' ⟨u, r, os', e1, ⟨v, ds', rest, e2, e3, hΦ⟩, ht, hv⟩ => by
  subst e2 e3
  obtain rfl := (readV_v.1 hv).2
  have hk : ∀ b, okM ok os w (.row u e z ds' :: rest) w' b → okM ok os w rest w' b := fun b hb => ⟨hb.1, hb.2.1, fun o ho => hb.2.2 o (List.mem_cons_of_mem _ ho)⟩
  obtain ⟨rows, ⟨g1, hmine⟩, g2⟩ := ht.at_ (.row u e z ds') List.mem_cons_self
  have hap := List.pairwise_cons.1 ht.apart
  refine ⟨u, .val (.sl z ds'), rest, e1, hΦ, ⟨ht.gr, hap.2, fun o ho => (ht.at_ o (List.mem_cons_of_mem _ ho)).move hk (fun _ _ => rfl) fun _ _ => rfl⟩, ?_⟩
  obtain ⟨A, c, rfl, hc1, hc2⟩ := own_form g1
  refine (readV_one rfl).2 ?_
  rw [Reads]
  refine ⟨A, c, rows, rfl, hc1, hc2, fun e => by subst e; exact own_none g1, fun hn => ?_, ReadsRows.mono hk (fun _ _ => rfl) z ds' rows g2⟩
  obtain ⟨b, o, rfl, hb, hc⟩ := own_RdP g1 hn
  exact ⟨b, o, rfl, ⟨(hmine b rfl).elim (fun h => .inr (.inl h)) (fun h => .inr (.inr h)), hb.2, fun p hp e => hap.1 p hp b rfl e⟩, hc⟩⟩
inductive Tn where
  | nil
  | leaf (p v : List UInt8)
  | ext (p : List UInt8) (k : Tn)
  | br (ks : Nat → Tn) (v : List UInt8)
def dT : Tn → D
  | .nil => .v .nilIface
  | .leaf p v => .ifc 165 (.pd (.tup [.bs p, .bs v]))
  | .ext p k => .ifc 168 (.pd (.tup [.bs p, dT k]))
  | .br ks v => .ifc 171 (.pd (.tup [.tup ((List.range 16).map fun i => dT (ks i)), .bs v]))
theorem dT_one (t : Tn) : (dT t).size = 1 ∧ (dT t).agg = false := by cases t <;> exact ⟨rfl, rfl⟩
def pkB (x : Raw) : List UInt8 := (packed x).getD []
def refI (x : Raw) : Raw := if (pkB x).length < 32 then x else .mk false (hash (pkB x)) []
def Tn.isNil : Tn → Bool
  | .nil => true
  | _ => false
def itemT : Tn → Raw
  | .nil => .mk true [] []
  | .leaf p v => .mk true [] [.mk false (ppk p true) [], .mk false v []]
  | .ext p k => .mk true [] [.mk false (ppk p false) [], if k.isNil then .mk false [] [] else refI (itemT k)]
  | .br ks v => .mk true [] ((List.range 16).map (fun i => if (ks i).isNil then .mk false [] [] else refI (itemT (ks i))) ++ [.mk false v []])
def refT (t : Tn) : Raw := if t.isNil then .mk false [] [] else refI (itemT t)
def sumT (t : Tn) : List UInt8 := if t.isNil then root0 else hash (pkB (itemT t))
def Tn.ok : Tn → Prop
  | .nil => True
  | .leaf p v => p.length ≤ 536870912
  | .ext p k => p.length ≤ 536870912 ∧ k.ok
  | .br ks v => ∀ i, (ks i).ok
set_option maxRecDepth 20000 in
set_option maxHeartbeats 4000000 in
theorem texts1 (l : List UInt8) : FnM 120 [.sl 1 [.bs l]] [] (fun r os' => ∃ v, r = .val (.v v) ∧ os' = [.row v 41 3 [dItem (.mk false l [])]]) := by
  refine FnM.walk 19 Try.func120 rfl Try.ntmps120 (by simp) fun X => ?_
  repeat
    (first
     | (apply P_move; (iterate 3 exact rfl)) | (apply P_assign; (iterate 3 exact rfl)) | (apply P_lensl; (iterate 4 exact rfl)) | apply EL.nil | ((with_reducible apply EK.then_normal); apply EK.code)
     | (with_reducible first | apply EC.seq | apply EC.region | apply EC.skip | apply EC.label | apply EC.block | apply EC.exit | apply EC.ret | apply EK.in_normal | apply EK.in_same | apply EK.in_ret | apply EK.then_ret | apply EK.then_exit))
  refine EC.le (Le.row 41 3) ?_
  refine EC.loopN 2 (EK.round ?_)
  repeat
    (first
     | (apply P_buildR (d' := dItem (.mk false l [])); (iterate 5 exact rfl); (focus ((repeat first | exact RefineL.refl _ _ | exact RL.nil | exact Rf.same | exact Rf.bs0 | exact Rf.sl0 | (apply Rf.fact; (focus (simp; done)); exact rfl) | apply Rf.tup | apply RL.cons))); (iterate 2 exact rfl))
     | (apply P_move; (iterate 3 exact rfl)) | (apply P_assign; (iterate 3 exact rfl)) | (apply P_loadpd; (iterate 5 exact rfl))
     | (apply P_cmp (b := true); (iterate 2 exact rfl); (focus (first | (simp [cmpI]; done) | (simp [cmpI]; omega))); (iterate 2 exact rfl))
     | (apply P_cmp (b := false); (iterate 2 exact rfl); (focus (first | (simp [cmpI]; done) | (simp [cmpI]; omega))); (iterate 2 exact rfl))
     | (apply P_ar; (iterate 3 exact rfl); (focus omega); (focus omega); (iterate 2 exact rfl))
     | (apply P_index; (iterate 4 exact rfl); (focus (first | exact ⟨by decide, rfl⟩ | (refine ⟨by omega, ?_⟩; rw [Int.toNat_natCast]; assumption))); (iterate 2 exact rfl))
     | (apply P_lit; (iterate 9 exact rfl))
     | ((apply P_append; exact rfl; (focus (repeat first | exact .z | apply SetAt.s | apply SetAtF.s)); (iterate 5 exact rfl); (focus (constructor <;> (first | (simp; done) | (simp; omega))))); intro _)
     | ((with_reducible apply EK.then_normal); apply EK.round) | apply EL.nil | ((with_reducible apply EK.then_normal); apply EK.code) | (apply EC.cond_true; exact rfl) | (apply EC.cond_false; exact rfl)
     | (with_reducible first | apply EC.seq | apply EC.region | apply EC.skip | apply EC.label | apply EC.block | apply EC.exit | apply EC.ret | apply EK.in_normal | apply EK.in_same | apply EK.in_ret | apply EK.then_ret | apply EK.then_exit))
  rename_i v
  exact EK.retM1 rfl rfl ⟨v, rfl, rfl⟩
set_option maxRecDepth 20000 in
set_option maxHeartbeats 4000000 in
theorem texts2 (l m : List UInt8) : FnM 120 [.sl 1 [.bs l, .bs m]] [] (fun r os' => ∃ v, r = .val (.v v) ∧ os' = [.row v 41 3 [dItem (.mk false l []), dItem (.mk false m [])]]) := by
  refine FnM.walk 19 Try.func120 rfl Try.ntmps120 (by simp) fun X => ?_
  repeat
    (first
     | (apply P_move; (iterate 3 exact rfl)) | (apply P_assign; (iterate 3 exact rfl)) | (apply P_lensl; (iterate 4 exact rfl)) | apply EL.nil | ((with_reducible apply EK.then_normal); apply EK.code)
     | (with_reducible first | apply EC.seq | apply EC.region | apply EC.skip | apply EC.label | apply EC.block | apply EC.exit | apply EC.ret | apply EK.in_normal | apply EK.in_same | apply EK.in_ret | apply EK.then_ret | apply EK.then_exit))
  refine EC.le (Le.row 41 3) ?_
  refine EC.loopN 3 (EK.round ?_)
  repeat
    (first
     | (apply P_buildR (d' := dItem (.mk false l [])); (iterate 5 exact rfl); (focus ((repeat first | exact RefineL.refl _ _ | exact RL.nil | exact Rf.same | exact Rf.bs0 | exact Rf.sl0 | (apply Rf.fact; (focus (simp; done)); exact rfl) | apply Rf.tup | apply RL.cons))); (iterate 2 exact rfl))
     | (apply P_buildR (d' := dItem (.mk false m [])); (iterate 5 exact rfl); (focus ((repeat first | exact RefineL.refl _ _ | exact RL.nil | exact Rf.same | exact Rf.bs0 | exact Rf.sl0 | (apply Rf.fact; (focus (simp; done)); exact rfl) | apply Rf.tup | apply RL.cons))); (iterate 2 exact rfl))
     | (apply P_move; (iterate 3 exact rfl)) | (apply P_assign; (iterate 3 exact rfl)) | (apply P_loadpd; (iterate 5 exact rfl))
     | (apply P_cmp (b := true); (iterate 2 exact rfl); (focus (first | (simp [cmpI]; done) | (simp [cmpI]; omega))); (iterate 2 exact rfl))
     | (apply P_cmp (b := false); (iterate 2 exact rfl); (focus (first | (simp [cmpI]; done) | (simp [cmpI]; omega))); (iterate 2 exact rfl))
     | (apply P_ar; (iterate 3 exact rfl); (focus omega); (focus omega); (iterate 2 exact rfl))
     | (apply P_index; (iterate 4 exact rfl); (focus (first | exact ⟨by decide, rfl⟩ | (refine ⟨by omega, ?_⟩; rw [Int.toNat_natCast]; assumption))); (iterate 2 exact rfl))
     | (apply P_lit; (iterate 9 exact rfl))
     | ((apply P_append; exact rfl; (focus (repeat first | exact .z | apply SetAt.s | apply SetAtF.s)); (iterate 5 exact rfl); (focus (constructor <;> (first | (simp; done) | (simp; omega))))); intro _)
     | ((with_reducible apply EK.then_normal); apply EK.round) | apply EL.nil | ((with_reducible apply EK.then_normal); apply EK.code) | (apply EC.cond_true; exact rfl) | (apply EC.cond_false; exact rfl)
     | (with_reducible first | apply EC.seq | apply EC.region | apply EC.skip | apply EC.label | apply EC.block | apply EC.exit | apply EC.ret | apply EK.in_normal | apply EK.in_same | apply EK.in_ret | apply EK.then_ret | apply EK.then_exit))
  rename_i v
  exact EK.retM1 rfl rfl ⟨v, rfl, rfl⟩
theorem f_texts1 (l : List UInt8) : Fn 120 [.sl 1 [.bs l]] (· = .val (.sl 3 [dItem (.mk false l [])])) :=
  (FnM.frzT (Φ := fun r os' => r = .val (.sl 3 [dItem (.mk false l [])]) ∧ os' = []) 41 3 ((texts1 l).mono fun r os' ⟨v, h1, h2⟩ => ⟨v, _, [], h1, h2, rfl, rfl⟩)).toFn
theorem f_texts2 (l m : List UInt8) : Fn 120 [.sl 1 [.bs l, .bs m]] (· = .val (.sl 3 [dItem (.mk false l []), dItem (.mk false m [])])) :=
  (FnM.frzT (Φ := fun r os' => r = .val (.sl 3 [dItem (.mk false l []), dItem (.mk false m [])]) ∧ os' = []) 41 3 ((texts2 l m).mono fun r os' ⟨v, h1, h2⟩ => ⟨v, _, [], h1, h2, rfl, rfl⟩)).toFn
end E
end Go.Proofs.Ytmlajcbabimkjaa
/-
  shape's Item, Bytes, Ref, Sum.
  Conditions: none.
-/
namespace Go.Proofs.Ytmlajcbabimkjaa
set_option linter.unusedVariables false
open Go.RowKit Mono Rlp
namespace E
theorem bin_ifc (T : TypeId) (d : D) : Bin .eql 80 (.ifc T d) (.v .nilIface) (.bool false) := by
  refine ⟨rfl, fun ok w p q hp hq => ?_⟩
  obtain rfl := (readV_v.1 hq).2
  obtain ⟨cs, h1, rfl⟩ := hp
  rw [Reads] at h1
  obtain ⟨cs', rfl, _⟩ := h1
  exact ⟨fun x y => by simp [eqGuard, form, D.agg], run_eql_held_nil _ _ _ _ (by kernel_rfl)⟩
theorem bin_inil : Bin .eql 80 (.v .nilIface) (.v .nilIface) (.bool true) := by
  refine ⟨rfl, fun ok w p q hp hq => ?_⟩
  obtain rfl := (readV_v.1 hp).2
  obtain rfl := (readV_v.1 hq).2
  exact ⟨fun x y => by cases x <;> cases y <;> kernel_rfl, by kernel_rfl⟩
theorem dT_ifc {t : Tn} (h : t.isNil = false) : ∃ T d, dT t = .ifc T d ∧ Nat.beq T 125 = false := by
  cases t with
  | nil => cases h
  | leaf p v => exact ⟨_, _, by rw [dT], rfl⟩
  | ext p k => exact ⟨_, _, by rw [dT], rfl⟩
  | br ks v => exact ⟨_, _, by rw [dT], rfl⟩
set_option maxRecDepth 20000 in
set_option maxHeartbeats 4000000 in
theorem f_Bytes_of (t : Tn) (h : Fn 99 [dT t] (· = .val (dItem (itemT t)))) : Fn 64 [dT t] (· = .val (.bs (pkB (itemT t)))) := by
  have h1 := f_Pack (itemT t)
  unfold pkB
  refine Fn.walk 12 Try.func64 rfl Try.ntmps64 (by simp) fun X => ?_
  cases hp : packed (itemT t) with
  | none =>
    rw [hp] at h1
    repeat
      (first
       | (apply P_call (h); exact rfl; (focus (repeat first | exact RefineL.refl _ _ | exact RL.nil | exact Rf.same | exact Rf.bs0 | exact Rf.sl0 | (apply Rf.fact; (focus (simp; done)); exact rfl) | apply Rf.tup | apply RL.cons)); (focus (intro _ _; simp [go_sem]; done)); (iterate 2 exact rfl))
       | (apply P_call (h1); exact rfl; (focus (repeat first | exact RefineL.refl _ _ | exact RL.nil | exact Rf.same | exact Rf.bs0 | exact Rf.sl0 | (apply Rf.fact; (focus (simp; done)); exact rfl) | apply Rf.tup | apply RL.cons)); (focus (intro _ _; simp [go_sem]; done)); (iterate 2 exact rfl))
       | (apply P_move; (iterate 3 exact rfl)) | (apply P_assign; (iterate 3 exact rfl)) | (apply P_extract; (iterate 4 exact rfl)) | apply EL.nil | ((with_reducible apply EK.then_normal); apply EK.code)
       | (with_reducible first | apply EC.seq | apply EC.region | apply EC.skip | apply EC.label | apply EC.block | apply EC.exit | apply EC.ret | apply EK.in_normal | apply EK.in_same | apply EK.in_ret | apply EK.then_ret | apply EK.then_exit))
    refine EK.ret1r rfl rfl ?_ rfl
    (repeat first | exact RefineL.refl _ _ | exact RL.nil | exact Rf.same | exact Rf.bs0 | exact Rf.sl0 | (apply Rf.fact; (focus (simp; done)); exact rfl) | apply Rf.tup | apply RL.cons)
  | some b =>
    rw [hp] at h1
    repeat
      (first
       | (apply P_call (h); exact rfl; (focus (repeat first | exact RefineL.refl _ _ | exact RL.nil | exact Rf.same | exact Rf.bs0 | exact Rf.sl0 | (apply Rf.fact; (focus (simp; done)); exact rfl) | apply Rf.tup | apply RL.cons)); (focus (intro _ _; simp [go_sem]; done)); (iterate 2 exact rfl))
       | (apply P_call (h1); exact rfl; (focus (repeat first | exact RefineL.refl _ _ | exact RL.nil | exact Rf.same | exact Rf.bs0 | exact Rf.sl0 | (apply Rf.fact; (focus (simp; done)); exact rfl) | apply Rf.tup | apply RL.cons)); (focus (intro _ _; simp [go_sem]; done)); (iterate 2 exact rfl))
       | (apply P_move; (iterate 3 exact rfl)) | (apply P_assign; (iterate 3 exact rfl)) | (apply P_extract; (iterate 4 exact rfl)) | apply EL.nil | ((with_reducible apply EK.then_normal); apply EK.code)
       | (with_reducible first | apply EC.seq | apply EC.region | apply EC.skip | apply EC.label | apply EC.block | apply EC.exit | apply EC.ret | apply EK.in_normal | apply EK.in_same | apply EK.in_ret | apply EK.then_ret | apply EK.then_exit))
    exact EK.ret1 rfl rfl rfl
set_option maxRecDepth 20000 in
set_option maxHeartbeats 4000000 in
theorem f_Ref_of (t : Tn) (h : t.isNil = false → Fn 99 [dT t] (· = .val (dItem (itemT t)))) : Fn 121 [dT t] (· = .val (dItem (refT t))) := by
  unfold refT
  cases hn : t.isNil with
  | true =>
    cases t with
    | nil =>
      rw [if_pos rfl]
      have hb := bin_inil
      have e : dT Tn.nil = .v .nilIface := rfl
      rw [e]
      refine Fn.walk 31 Try.func121 rfl Try.ntmps121 (by simp) fun X => ?_
      repeat
        (first
         | (apply P_bin; (iterate 2 exact rfl); exact hb; (iterate 2 exact rfl)) | (apply P_move; (iterate 3 exact rfl)) | (apply P_build; (iterate 7 exact rfl))
         | (apply P_alloc; exact rfl; exact rfl; exact rfl; intro _) | (apply P_store; exact rfl; (focus (repeat first | exact .z | apply SetAt.s | apply SetAtF.s)); (iterate 4 exact rfl)) | apply EL.nil
         | ((with_reducible apply EK.then_normal); apply EK.code) | (apply EC.cond_true; exact rfl)
         | (with_reducible first | apply EC.seq | apply EC.region | apply EC.skip | apply EC.label | apply EC.block | apply EC.exit | apply EC.ret | apply EK.in_normal | apply EK.in_same | apply EK.in_ret | apply EK.then_ret | apply EK.then_exit))
      refine EK.retc1r 0 rfl rfl rfl rfl ?_ rfl
      (repeat first | exact RefineL.refl _ _ | exact RL.nil | exact Rf.same | exact Rf.bs0 | exact Rf.sl0 | (apply Rf.fact; (focus (simp; done)); exact rfl) | apply Rf.tup | apply RL.cons)
    | leaf p v => cases hn
    | ext p k => cases hn
    | br ks v => cases hn
  | false =>
    rw [if_neg (by decide)]
    have h1 := h hn
    have h2 := f_Bytes_of t h1
    obtain ⟨T, d, e, hne⟩ := dT_ifc hn
    rw [e] at h1 h2 ⊢
    have hb := bin_ifc T d
    unfold refI
    refine Fn.walk 31 Try.func121 rfl Try.ntmps121 (by simp) fun X => ?_
    by_cases hl : (pkB (itemT t)).length < 32
    · rw [if_pos hl]
      have hli : ((pkB (itemT t)).length : Int) < 32 := by omega
      generalize itemT t = x at *
      obtain ⟨xb, xl, xs⟩ := x
      rw [dItem] at h1
      repeat
        (first
         | (apply P_bin; (iterate 2 exact rfl); exact hb; (iterate 2 exact rfl)) | (apply P_asNo; exact rfl; exact rfl; exact hne; (iterate 3 exact rfl))
         | (apply P_call (h2); exact rfl; (focus (repeat first | exact RefineL.refl _ _ | exact RL.nil | exact Rf.same | exact Rf.bs0 | exact Rf.sl0 | (apply Rf.fact; (focus (simp; done)); exact rfl) | apply Rf.tup | apply RL.cons)); (focus (intro _ _; simp [go_sem]; done)); (iterate 2 exact rfl))
         | (apply P_call (h1); exact rfl; (focus (repeat first | exact RefineL.refl _ _ | exact RL.nil | exact Rf.same | exact Rf.bs0 | exact Rf.sl0 | (apply Rf.fact; (focus (simp; done)); exact rfl) | apply Rf.tup | apply RL.cons)); (focus (intro _ _; simp [go_sem]; done)); (iterate 2 exact rfl))
         | (apply P_move; (iterate 3 exact rfl)) | (apply P_assign; (iterate 3 exact rfl)) | (apply P_extract; (iterate 4 exact rfl))
         | (apply P_cmp (b := true); (iterate 2 exact rfl); (focus (first | (simp [cmpI]; done) | (simp [cmpI]; omega))); (iterate 2 exact rfl)) | (apply P_lenbs; (iterate 4 exact rfl))
         | (apply P_alloc; exact rfl; exact rfl; exact rfl; intro _) | (apply P_store; exact rfl; (focus (repeat first | exact .z | apply SetAt.s | apply SetAtF.s)); (iterate 4 exact rfl)) | apply EL.nil
         | ((with_reducible apply EK.then_normal); apply EK.code) | (apply EC.cond_true; exact rfl) | (apply EC.cond_false; exact rfl)
         | (with_reducible first | apply EC.seq | apply EC.region | apply EC.skip | apply EC.label | apply EC.block | apply EC.exit | apply EC.ret | apply EK.in_normal | apply EK.in_same | apply EK.in_ret | apply EK.then_ret | apply EK.then_exit))
      refine EK.retc1r 1 rfl rfl rfl rfl ?_ rfl
      (repeat first | exact RefineL.refl _ _ | exact RL.nil | exact Rf.same | exact Rf.bs0 | exact Rf.sl0 | (apply Rf.fact; (focus (simp; done)); exact rfl) | apply Rf.tup | apply RL.cons)
    · rw [if_neg hl]
      have hli : ¬ ((pkB (itemT t)).length : Int) < 32 := by omega
      have h3 := f_kSum1 (pkB (itemT t))
      repeat
        (first
         | (apply P_bin; (iterate 2 exact rfl); exact hb; (iterate 2 exact rfl)) | (apply P_asNo; exact rfl; exact rfl; exact hne; (iterate 3 exact rfl))
         | (apply P_call (h2); exact rfl; (focus (repeat first | exact RefineL.refl _ _ | exact RL.nil | exact Rf.same | exact Rf.bs0 | exact Rf.sl0 | (apply Rf.fact; (focus (simp; done)); exact rfl) | apply Rf.tup | apply RL.cons)); (focus (intro _ _; simp [go_sem]; done)); (iterate 2 exact rfl))
         | (apply P_call (h3); exact rfl; (focus (repeat first | exact RefineL.refl _ _ | exact RL.nil | exact Rf.same | exact Rf.bs0 | exact Rf.sl0 | (apply Rf.fact; (focus (simp; done)); exact rfl) | apply Rf.tup | apply RL.cons)); (focus (intro _ _; simp [go_sem]; done)); (iterate 2 exact rfl))
         | (apply P_move; (iterate 3 exact rfl)) | (apply P_assign; (iterate 3 exact rfl)) | (apply P_extract; (iterate 4 exact rfl))
         | (apply P_cmp (b := false); (iterate 2 exact rfl); (focus (first | (simp [cmpI]; done) | (simp [cmpI]; omega))); (iterate 2 exact rfl)) | (apply P_lenbs; (iterate 4 exact rfl))
         | (apply P_lit; (iterate 9 exact rfl)) | (apply P_alloc; exact rfl; exact rfl; exact rfl; intro _)
         | (apply P_store; exact rfl; (focus (repeat first | exact .z | apply SetAt.s | apply SetAtF.s)); (iterate 4 exact rfl)) | apply EL.nil | ((with_reducible apply EK.then_normal); apply EK.code)
         | (apply EC.cond_false; exact rfl)
         | (with_reducible first | apply EC.seq | apply EC.region | apply EC.skip | apply EC.label | apply EC.block | apply EC.exit | apply EC.ret | apply EK.in_normal | apply EK.in_same | apply EK.in_ret | apply EK.then_ret | apply EK.then_exit))
      refine EL.le (Le.pin (p := 6) (pre := []) rfl rfl) ?_
      repeat
        (first
         | (apply P_slpd sl_word; (iterate 6 exact rfl)) | (apply P_build; (iterate 7 exact rfl))
         | (apply P_store; exact rfl; (focus (repeat first | exact .z | apply SetAt.s | apply SetAtF.s)); (iterate 4 exact rfl)) | apply EL.nil | ((with_reducible apply EK.then_normal); apply EK.code)
         | (with_reducible first | apply EC.seq | apply EC.region | apply EC.skip | apply EC.label | apply EC.block | apply EC.exit | apply EC.ret | apply EK.in_normal | apply EK.in_same | apply EK.in_ret | apply EK.then_ret | apply EK.then_exit))
      refine EK.retc1r 1 rfl rfl rfl rfl ?_ rfl
      (repeat first | exact RefineL.refl _ _ | exact RL.nil | exact Rf.same | exact Rf.bs0 | exact Rf.sl0 | (apply Rf.fact; (focus (simp; done)); exact rfl) | apply Rf.tup | apply RL.cons)
set_option maxRecDepth 20000 in
set_option maxHeartbeats 4000000 in
theorem f_Sum_of (t : Tn) (h : t.isNil = false → Fn 99 [dT t] (· = .val (dItem (itemT t)))) : Fn 33 [dT t] (· = .val (.arr 32 (sumT t))) := by
  unfold sumT
  cases hn : t.isNil with
  | true =>
    cases t with
    | nil =>
      rw [if_pos rfl]
      have hb := bin_inil
      have h1 := f_shEmpty
      have e : dT Tn.nil = .v .nilIface := rfl
      rw [e]
      refine Fn.walk 19 Try.func33 rfl Try.ntmps33 (by simp) fun X => ?_
      repeat
        (first
         | (apply P_bin; (iterate 2 exact rfl); exact hb; (iterate 2 exact rfl))
         | (apply P_call (h1); exact rfl; (focus (repeat first | exact RefineL.refl _ _ | exact RL.nil | exact Rf.same | exact Rf.bs0 | exact Rf.sl0 | (apply Rf.fact; (focus (simp; done)); exact rfl) | apply Rf.tup | apply RL.cons)); (focus (intro _ _; simp [go_sem]; done)); (iterate 2 exact rfl))
         | (apply P_move; (iterate 3 exact rfl)) | (apply P_alloc; exact rfl; exact rfl; exact rfl; intro _)
         | (apply P_store; exact rfl; (focus (repeat first | exact .z | apply SetAt.s | apply SetAtF.s)); (iterate 4 exact rfl)) | apply EL.nil | ((with_reducible apply EK.then_normal); apply EK.code)
         | (apply EC.cond_true; exact rfl)
         | (with_reducible first | apply EC.seq | apply EC.region | apply EC.skip | apply EC.label | apply EC.block | apply EC.exit | apply EC.ret | apply EK.in_normal | apply EK.in_same | apply EK.in_ret | apply EK.then_ret | apply EK.then_exit))
      refine EK.retc1r 0 rfl rfl rfl rfl ?_ rfl
      (repeat first | exact RefineL.refl _ _ | exact RL.nil | exact Rf.same | exact Rf.bs0 | exact Rf.sl0 | (apply Rf.fact; (focus (simp; done)); exact rfl) | apply Rf.tup | apply RL.cons)
    | leaf p v => cases hn
    | ext p k => cases hn
    | br ks v => cases hn
  | false =>
    rw [if_neg (by decide)]
    have h2 := f_Bytes_of t (h hn)
    obtain ⟨T, d, e, hne⟩ := dT_ifc hn
    rw [e] at h2 ⊢
    have hb := bin_ifc T d
    have h3 := f_kSum1 (pkB (itemT t))
    refine Fn.walk 19 Try.func33 rfl Try.ntmps33 (by simp) fun X => ?_
    repeat
      (first
       | (apply P_bin; (iterate 2 exact rfl); exact hb; (iterate 2 exact rfl)) | (apply P_asNo; exact rfl; exact rfl; exact hne; (iterate 3 exact rfl))
       | (apply P_call (h2); exact rfl; (focus (repeat first | exact RefineL.refl _ _ | exact RL.nil | exact Rf.same | exact Rf.bs0 | exact Rf.sl0 | (apply Rf.fact; (focus (simp; done)); exact rfl) | apply Rf.tup | apply RL.cons)); (focus (intro _ _; simp [go_sem]; done)); (iterate 2 exact rfl))
       | (apply P_call (h3); exact rfl; (focus (repeat first | exact RefineL.refl _ _ | exact RL.nil | exact Rf.same | exact Rf.bs0 | exact Rf.sl0 | (apply Rf.fact; (focus (simp; done)); exact rfl) | apply Rf.tup | apply RL.cons)); (focus (intro _ _; simp [go_sem]; done)); (iterate 2 exact rfl))
       | (apply P_move; (iterate 3 exact rfl)) | (apply P_assign; (iterate 3 exact rfl)) | (apply P_extract; (iterate 4 exact rfl)) | (apply P_lit; (iterate 9 exact rfl))
       | (apply P_alloc; exact rfl; exact rfl; exact rfl; intro _) | (apply P_store; exact rfl; (focus (repeat first | exact .z | apply SetAt.s | apply SetAtF.s)); (iterate 4 exact rfl)) | apply EL.nil
       | ((with_reducible apply EK.then_normal); apply EK.code) | (apply EC.cond_false; exact rfl)
       | (with_reducible first | apply EC.seq | apply EC.region | apply EC.skip | apply EC.label | apply EC.block | apply EC.exit | apply EC.ret | apply EK.in_normal | apply EK.in_same | apply EK.in_ret | apply EK.then_ret | apply EK.then_exit))
    refine EK.retc1r 1 rfl rfl rfl rfl ?_ rfl
    (repeat first | exact RefineL.refl _ _ | exact RL.nil | exact Rf.same | exact Rf.bs0 | exact Rf.sl0 | (apply Rf.fact; (focus (simp; done)); exact rfl) | apply Rf.tup | apply RL.cons)
end E
end Go.Proofs.Ytmlajcbabimkjaa
/-
  shape.Item of every node.
  Conditions: none.
-/
namespace Go.Proofs.Ytmlajcbabimkjaa
set_option linter.unusedVariables false
open Go.RowKit Mono Rlp
namespace E
theorem sizes_T (ks : Nat → Tn) (l : List Nat) : D.sizes (l.map fun i => dT (ks i)) = l.length := by
  induction l with
  | nil => rfl
  | cons i l ih => rw [List.map_cons, D.sizes, (dT_one _).1, ih, List.length_cons, Nat.add_comm]
theorem sub_one {d : D} (h : ∃ k : Tn, d = dT k) : d.sub 0 1 false = some d := by
  obtain ⟨k, rfl⟩ := h
  cases k <;> (rw [dT]; simp [D.sub])
theorem sub_ext0 (p : List UInt8) (k : Tn) : (D.tup [.bs p, dT k]).sub 0 1 false = some (.bs p) := by
  simp [D.sub, D.subL, D.size]
theorem sub_ext1 (p : List UInt8) (k : Tn) : (D.tup [.bs p, dT k]).sub 1 1 false = some (dT k) := by
  have := sub_one ⟨k, rfl⟩
  simp [D.sub, D.subL, D.size, (dT_one k).1, this]
theorem sub_br0 {ds : List D} (v : List UInt8) (h : D.sizes ds = 16) : (D.tup [.tup ds, .bs v]).sub 0 16 true = some (.tup ds) := by
  simp [D.sub, D.subL, D.size, D.sizes, h]
theorem sub_br1 {ds : List D} (v : List UInt8) (h : D.sizes ds = 16) : (D.tup [.tup ds, .bs v]).sub 16 1 false = some (.bs v) := by
  simp [D.sub, D.subL, D.size, D.sizes, h]
theorem sub_ks {ds : List D} (h : D.sizes ds = 16) : (D.tup ds).sub 0 16 true = some (.tup ds) := by
  simp [D.sub, h]
set_option maxRecDepth 20000 in
set_option maxHeartbeats 4000000 in
theorem item_leaf (p v : List UInt8) (hp : p.length ≤ 536870912) : Fn 99 [dT (.leaf p v)] (· = .val (dItem (itemT (.leaf p v)))) := by
  have h1 := f_pPack p true hp
  have h2 := f_texts2 (ppk p true) v
  rw [dT, itemT]
  refine Fn.walk 85 Try.func99 rfl Try.ntmps99 (by simp) fun X => ?_
  repeat
    (first
     | (apply P_call (h1); exact rfl; (focus (repeat first | exact RefineL.refl _ _ | exact RL.nil | exact Rf.same | exact Rf.bs0 | exact Rf.sl0 | (apply Rf.fact; (focus (simp; done)); exact rfl) | apply Rf.tup | apply RL.cons)); (focus (intro _ _; simp [go_sem]; done)); (iterate 2 exact rfl))
     | (apply P_call (h2); exact rfl; (focus (repeat first | exact RefineL.refl _ _ | exact RL.nil | exact Rf.same | exact Rf.bs0 | exact Rf.sl0 | (apply Rf.fact; (focus (simp; done)); exact rfl) | apply Rf.tup | apply RL.cons)); (focus (intro _ _; simp [go_sem]; done)); (iterate 2 exact rfl))
     | (apply P_move; (iterate 3 exact rfl)) | (apply P_assign; (iterate 3 exact rfl)) | (apply P_field; (iterate 6 exact rfl)) | (apply P_fieldpd; (iterate 7 exact rfl))
     | (apply P_extract; (iterate 4 exact rfl)) | (apply P_loadpd; (iterate 5 exact rfl))
     | (apply P_load; exact rfl; (first | exact I0 | exact I1 | exact I2 | exact I3 | exact I4 | exact I5 | exact I6); (iterate 4 exact rfl)) | (apply P_build; (iterate 7 exact rfl))
     | (apply P_lit; (iterate 9 exact rfl)) | (apply P_nilckpd; (iterate 3 exact rfl)) | (apply P_asYes; (iterate 4 exact rfl)) | (apply P_alloc; exact rfl; exact rfl; exact rfl; intro _)
     | (apply P_store; exact rfl; (focus (repeat first | exact .z | apply SetAt.s | apply SetAtF.s)); (iterate 4 exact rfl)) | apply EL.nil | ((with_reducible apply EK.then_normal); apply EK.code)
     | (apply EC.cond_true; exact rfl)
     | (with_reducible first | apply EC.seq | apply EC.region | apply EC.skip | apply EC.label | apply EC.block | apply EC.exit | apply EC.ret | apply EK.in_normal | apply EK.in_same | apply EK.in_ret | apply EK.then_ret | apply EK.then_exit))
  refine EK.retc1r 1 rfl rfl rfl rfl ?_ rfl
  (repeat first | exact RefineL.refl _ _ | exact RL.nil | exact Rf.same | exact Rf.bs0 | exact Rf.sl0 | (apply Rf.fact; (focus (simp; done)); exact rfl) | apply Rf.tup | apply RL.cons)
set_option maxRecDepth 20000 in
set_option maxHeartbeats 4000000 in
theorem item_ext (p : List UInt8) (k : Tn) (hp : p.length ≤ 536870912) (hk : Fn 121 [dT k] (· = .val (dItem (refT k)))) : Fn 99 [dT (.ext p k)] (· = .val (dItem (itemT (.ext p k)))) := by
  have h1 := f_pPack p false hp
  have h2 := texts1 (ppk p false)
  have he : itemT (.ext p k) = .mk true [] [.mk false (ppk p false) [], refT k] := by rw [itemT, refT]
  rw [he, dT]
  clear he
  generalize refT k = x at hk ⊢
  obtain ⟨xb, xl, xs⟩ := x
  rw [dItem] at hk
  rw [show dItem (.mk true [] [.mk false (ppk p false) [], .mk xb xl xs]) = .tup [.v (.bool true), .bs [], .sl 3 [dItem (.mk false (ppk p false) []), .tup [.v (.bool xb), .bs xl, .sl 3 (dItems xs)]]] from rfl]
  refine Fn.walk 85 Try.func99 rfl Try.ntmps99 (by simp) fun X => ?_
  repeat
    (first
     | (apply P_call (h1); exact rfl; (focus (repeat first | exact RefineL.refl _ _ | exact RL.nil | exact Rf.same | exact Rf.bs0 | exact Rf.sl0 | (apply Rf.fact; (focus (simp; done)); exact rfl) | apply Rf.tup | apply RL.cons)); (focus (intro _ _; simp [go_sem]; done)); (iterate 2 exact rfl))
     | (apply P_fieldpd; (iterate 4 exact rfl); exact sub_ext0 _ _; (iterate 2 exact rfl)) | (apply P_move; (iterate 3 exact rfl)) | (apply P_assign; (iterate 3 exact rfl))
     | (apply P_extract; (iterate 4 exact rfl)) | (apply P_loadpd; (iterate 5 exact rfl)) | (apply P_build; (iterate 7 exact rfl)) | (apply P_nilckpd; (iterate 3 exact rfl))
     | (apply P_asYes; (iterate 4 exact rfl)) | (apply P_asNo; (iterate 6 exact rfl)) | (apply P_alloc; exact rfl; exact rfl; exact rfl; intro _)
     | (apply P_store; exact rfl; (focus (repeat first | exact .z | apply SetAt.s | apply SetAtF.s)); (iterate 4 exact rfl)) | apply EL.nil | ((with_reducible apply EK.then_normal); apply EK.code)
     | (apply EC.cond_true; exact rfl) | (apply EC.cond_false; exact rfl)
     | (with_reducible first | apply EC.seq | apply EC.region | apply EC.skip | apply EC.label | apply EC.block | apply EC.exit | apply EC.ret | apply EK.in_normal | apply EK.in_same | apply EK.in_ret | apply EK.then_ret | apply EK.then_exit))
  refine EC.drawC 11 [0, 3, 4, 5, 6, 10] [1, 2, 7, 8, 9] [] _ (by kernel_rfl) (by kernel_rfl) rfl ?_
  simp only [pickL, List.filterMap_cons, List.filterMap_nil, List.getElem?_cons_zero, List.getElem?_cons_succ]
  repeat
    (first
     | (apply H_fieldpd; (iterate 4 exact rfl); exact sub_ext1 _ _; (iterate 2 exact rfl)) | (apply H_loadpd; (iterate 2 exact rfl); exact sub_one ⟨_, rfl⟩; (iterate 2 exact rfl))
     | (apply H_move; (iterate 3 exact rfl)) | (apply H_field; (iterate 6 exact rfl)) | (apply H_nilckpd; (iterate 3 exact rfl)))
  refine EM.nil ?_
  repeat (first | rw [List.cons_append] | rw [List.nil_append])
  refine CH.cut 1 ?_
  simp only [List.take_succ_cons, List.take_zero, List.drop_succ_cons, List.drop_zero]
  repeat
    (first
     | (apply H_lit; (iterate 9 exact rfl)))
  refine EM.nil ?_
  repeat (first | rw [List.cons_append] | rw [List.nil_append])
  refine CH.callM (os := []) (rest := []) h2 rfl rfl (RefineL.refl _ _) (by intro _ _; simp [go_sem]) rfl rfl ?_
  rintro _ _ ⟨v, rfl, rfl⟩
  try simp only [St.put]
  repeat (first | rw [List.cons_append] | rw [List.nil_append])
  refine CH.cut 2 ?_
  simp only [List.take_succ_cons, List.take_zero, List.drop_succ_cons, List.drop_zero]
  repeat
    (first
     | (apply H_call (hk); exact rfl; (focus (repeat first | exact RefineL.refl _ _ | exact RL.nil | exact Rf.same | exact Rf.bs0 | exact Rf.sl0 | (apply Rf.fact; (focus (simp; done)); exact rfl) | apply Rf.tup | apply RL.cons)); (focus (intro _ _; simp [go_sem]; done)); (iterate 2 exact rfl))
     | (apply H_lit; (iterate 9 exact rfl)))
  refine EM.nil ?_
  repeat (first | rw [List.cons_append] | rw [List.nil_append])
  refine CH.mut (os := [_]) (rest := []) rfl rfl (m_append rfl rfl rfl rfl rfl (by constructor <;> simp)) ?_
  rintro _ _ ⟨v', rfl, rfl⟩
  try simp only [St.put]
  repeat (first | rw [List.cons_append] | rw [List.nil_append])
  refine CH.nil ?_
  try simp only [List.drop_succ_cons, List.drop_zero]
  refine EL.le (Le.freeze (pre := []) rfl) ?_
  simp only [List.nil_append]
  repeat
    (first
     | (apply P_load; exact rfl; (first | exact I0 | exact I1 | exact I2 | exact I3 | exact I4 | exact I5 | exact I6); (iterate 4 exact rfl))
     | (apply P_store; exact rfl; (focus (repeat first | exact .z | apply SetAt.s | apply SetAtF.s)); (iterate 4 exact rfl)) | apply EL.nil | ((with_reducible apply EK.then_normal); apply EK.code)
     | (with_reducible first | apply EC.seq | apply EC.region | apply EC.skip | apply EC.label | apply EC.block | apply EC.exit | apply EC.ret | apply EK.in_normal | apply EK.in_same | apply EK.in_ret | apply EK.then_ret | apply EK.then_exit))
  refine EK.retc1r 1 rfl rfl rfl rfl ?_ rfl
  (repeat first | exact RefineL.refl _ _ | exact RL.nil | exact Rf.same | exact Rf.bs0 | exact Rf.sl0 | (apply Rf.fact; (focus (simp; done)); exact rfl) | apply Rf.tup | apply RL.cons)
set_option maxRecDepth 20000 in
set_option maxHeartbeats 8000000 in
theorem item_br (ks : Nat → Tn) (v : List UInt8) (hk : ∀ i, Fn 121 [dT (ks i)] (· = .val (dItem (refT (ks i))))) : Fn 99 [dT (.br ks v)] (· = .val (dItem (itemT (.br ks v)))) := by
  have h2 := f_texts1 v
  have he : itemT (.br ks v) = .mk true [] ((List.range 16).map (fun i => refT (ks i)) ++ [.mk false v []]) := by rw [itemT]; rfl
  have hsz : D.sizes ((List.range 16).map fun i => dT (ks i)) = 16 := by rw [sizes_T, List.length_range]
  have hat : ∀ i, i < 16 → ((List.range 16).map fun i => dT (ks i))[i]? = some (dT (ks i)) := fun i hi => by rw [List.getElem?_map, List.getElem?_range hi]; rfl
  have hall : ∀ d ∈ ((List.range 16).map fun i => dT (ks i)), d.size = 1 ∧ d.agg = false := fun d hd => by
    obtain ⟨i, _, rfl⟩ := List.mem_map.1 hd
    exact dT_one _
  have hlen : ((List.range 16).map fun i => dT (ks i)).length = 16 := by simp
  rw [he, dT, show dItem (.mk true [] ((List.range 16).map (fun i => refT (ks i)) ++ [.mk false v []])) = .tup [.v (.bool true), .bs [], .sl 3 ((List.range 16).map (fun i => dItem (refT (ks i))) ++ [dItem (.mk false v [])])] from by rw [dItem, dItems_map, List.map_append, List.map_map]; rfl]
  clear he
  generalize hE : ((List.range 16).map fun i => dT (ks i)) = K at *
  refine Fn.walk 85 Try.func99 rfl Try.ntmps99 (by simp) fun X => ?_
  repeat
    (first
     | (apply P_fieldpd; (iterate 4 exact rfl); exact sub_br0 _ hsz; (iterate 2 exact rfl)) | (apply P_loadpd; (iterate 2 exact rfl); exact sub_ks hsz; (iterate 2 exact rfl))
     | (apply P_move; (iterate 3 exact rfl)) | (apply P_assign; (iterate 3 exact rfl)) | (apply P_extract; (iterate 4 exact rfl)) | (apply P_build; (iterate 7 exact rfl))
     | (apply P_nilckpd; (iterate 3 exact rfl)) | (apply P_asYes; (iterate 4 exact rfl)) | (apply P_asNo; (iterate 6 exact rfl)) | (apply P_alloc; exact rfl; exact rfl; exact rfl; intro _)
     | (apply P_store; exact rfl; (focus (repeat first | exact .z | apply SetAt.s | apply SetAtF.s)); (iterate 4 exact rfl)) | apply EL.nil | ((with_reducible apply EK.then_normal); apply EK.code)
     | (apply EC.cond_true; exact rfl) | (apply EC.cond_false; exact rfl)
     | (with_reducible first | apply EC.seq | apply EC.region | apply EC.skip | apply EC.label | apply EC.block | apply EC.exit | apply EC.ret | apply EK.in_normal | apply EK.in_same | apply EK.in_ret | apply EK.then_ret | apply EK.then_exit))
  rename_i g1 g
  refine EC.le (Le.row 41 3) ?_
  refine EC.loop (ι := {p : Value × Nat // p.2 ≤ 16})
    (fun p => ⟨[(63, .val (.v (.int .i64 (p.1.2 : Int)))), (62, .val (.tup K)), (10, .val (.pd (.tup [.tup K, .bs v]))), (3, .val (.v (.pointer (some ⟨g, 0, none⟩)))), (2, .val (.v (.pointer (some ⟨g1, 0, none⟩))))],
      [.row p.1.1 41 3 ((List.range p.1.2).map fun i => dItem (refT (ks i))), .var g 41 (.tup [.v (.bool true), .v (.slice none 0 0), .v p.1.1]), .var g1 41 (.tup [.v (.bool false), .v (.slice none 0 0), .v (.slice none 0 0)])], []⟩)
    (fun p => 16 - p.1.2) ⟨(.slice none 0 0, 0), by decide⟩ ?_ ?_
  · exact (Le.keep (by repeat first | exact trivial | refine ⟨rfl, ?_⟩) (by repeat first | exact List.nil_sublist _ | apply List.Sublist.cons_cons | apply List.Sublist.cons) (by simp))
  rintro ⟨⟨rv, n⟩, hn⟩
  dsimp only at hn ⊢
  have hl : ((List.range n).map fun i => dItem (refT (ks i))).length = n := by simp
  by_cases hlt : n < 16
  · have hx := hk n
    have hnx : (List.range (n + 1)).map (fun i => dItem (refT (ks i))) = (List.range n).map (fun i => dItem (refT (ks i))) ++ [dItem (refT (ks n))] := by rw [List.range_succ, List.map_append]; rfl
    cases hr : refT (ks n) with
    | mk xb xl xs =>
      rw [hr, dItem] at hx
      rw [hr, dItem] at hnx
      repeat
        (first
         | (apply P_cmp (b := true); (iterate 2 exact rfl); (focus (first | (simp [cmpI]; done) | (simp [cmpI]; omega))); (iterate 2 exact rfl)) | apply EL.nil
         | ((with_reducible apply EK.then_normal); apply EK.code) | (apply EC.cond_true; exact rfl)
         | (with_reducible first | apply EC.seq | apply EC.region | apply EC.skip | apply EC.label | apply EC.block | apply EC.exit | apply EC.ret | apply EK.in_normal | apply EK.in_same | apply EK.in_ret | apply EK.then_ret | apply EK.then_exit))
      refine ES.still (g_indextup (k := (n : Int)) (d := dT (ks n)) rfl rfl rfl rfl rfl (fun w => by kernel_rfl) hall hlen ⟨by omega, by rw [Int.toNat_natCast]; exact hat n hlt⟩) rfl rfl rfl ?_
      repeat
        (first
         | (apply P_assign; (iterate 3 exact rfl)) | apply EL.nil | ((with_reducible apply EK.then_normal); apply EK.code))
      refine EC.drawC 7 [0, 1, 2, 6] [3, 4, 5] [_] _ (by kernel_rfl) (by kernel_rfl) rfl ?_
      simp only [pickL, List.filterMap_cons, List.filterMap_nil, List.getElem?_cons_zero, List.getElem?_cons_succ]
      repeat
        (first
         | (apply H_move; (iterate 3 exact rfl)) | (apply H_field; (iterate 6 exact rfl))
         | (apply H_load; exact rfl; (first | exact I0 | exact I1 | exact I2 | exact I3 | exact I4 | exact I5 | exact I6); (iterate 4 exact rfl)))
      refine EM.nil ?_
      repeat (first | rw [List.cons_append] | rw [List.nil_append])
      refine CH.cut 2 ?_
      simp only [List.take_succ_cons, List.take_zero, List.drop_succ_cons, List.drop_zero]
      repeat
        (first
         | (apply H_call (hx); exact rfl; (focus (repeat first | exact RefineL.refl _ _ | exact RL.nil | exact Rf.same | exact Rf.bs0 | exact Rf.sl0 | (apply Rf.fact; (focus (simp; done)); exact rfl) | apply Rf.tup | apply RL.cons)); (focus (intro _ _; simp [go_sem]; done)); (iterate 2 exact rfl))
         | (apply H_lit; (iterate 9 exact rfl)))
      refine EM.nil ?_
      repeat (first | rw [List.cons_append] | rw [List.nil_append])
      refine CH.mut (os := [_]) (rest := []) rfl rfl (m_append rfl rfl rfl rfl rfl (by rw [hl]; constructor <;> (simp; omega))) ?_
      rintro _ _ ⟨v', rfl, rfl⟩
      try simp only [St.put]
      repeat (first | rw [List.cons_append] | rw [List.nil_append])
      refine CH.nil ?_
      try simp only [List.drop_succ_cons, List.drop_zero]
      repeat
        (first
         | (apply P_move; (iterate 3 exact rfl)) | (apply P_ar; (iterate 3 exact rfl); (focus omega); (focus omega); (iterate 2 exact rfl))
         | (apply P_store; exact rfl; (focus (repeat first | exact .z | apply SetAt.s | apply SetAtF.s)); (iterate 4 exact rfl)) | apply EL.nil | ((with_reducible apply EK.then_normal); apply EK.code)
         | (with_reducible first | apply EC.seq | apply EC.region | apply EC.skip | apply EC.label | apply EC.block | apply EC.exit | apply EC.ret | apply EK.in_normal | apply EK.in_same | apply EK.in_ret | apply EK.then_ret | apply EK.then_exit))
      refine EK.again ⟨(v', n + 1), hlt⟩ (by dsimp only; omega) ?_
      dsimp only
      rw [hnx]
      simp only [Int.natCast_add]
      exact (Le.keep (by repeat first | exact trivial | refine ⟨rfl, ?_⟩) (by repeat first | exact List.nil_sublist _ | apply List.Sublist.cons_cons | apply List.Sublist.cons) (by simp))
  · obtain rfl : n = 16 := by omega
    repeat
      (first
       | (apply P_cmp (b := false); (iterate 2 exact rfl); (focus (first | (simp [cmpI]; done) | (simp [cmpI]; omega))); (iterate 2 exact rfl)) | apply EL.nil
       | ((with_reducible apply EK.then_normal); apply EK.code) | (apply EC.cond_false; exact rfl)
       | (with_reducible first | apply EC.seq | apply EC.region | apply EC.skip | apply EC.label | apply EC.block | apply EC.exit | apply EC.ret | apply EK.in_normal | apply EK.in_same | apply EK.in_ret | apply EK.then_ret | apply EK.then_exit))
    refine EC.drawC 10 [0, 1, 2, 3, 4, 5, 9] [6, 7, 8] [_] _ (by kernel_rfl) (by kernel_rfl) rfl ?_
    simp only [pickL, List.filterMap_cons, List.filterMap_nil, List.getElem?_cons_zero, List.getElem?_cons_succ]
    repeat
      (first
       | (apply H_fieldpd; (iterate 4 exact rfl); exact sub_br1 _ hsz; (iterate 2 exact rfl)) | (apply H_move; (iterate 3 exact rfl)) | (apply H_field; (iterate 6 exact rfl))
       | (apply H_loadpd; (iterate 5 exact rfl)) | (apply H_load; exact rfl; (first | exact I0 | exact I1 | exact I2 | exact I3 | exact I4 | exact I5 | exact I6); (iterate 4 exact rfl))
       | (apply H_nilckpd; (iterate 3 exact rfl)))
    refine EM.nil ?_
    repeat (first | rw [List.cons_append] | rw [List.nil_append])
    refine CH.cut 2 ?_
    simp only [List.take_succ_cons, List.take_zero, List.drop_succ_cons, List.drop_zero]
    repeat
      (first
       | (apply H_call (h2); exact rfl; (focus (repeat first | exact RefineL.refl _ _ | exact RL.nil | exact Rf.same | exact Rf.bs0 | exact Rf.sl0 | (apply Rf.fact; (focus (simp; done)); exact rfl) | apply Rf.tup | apply RL.cons)); (focus (intro _ _; simp [go_sem]; done)); (iterate 2 exact rfl))
       | (apply H_lit; (iterate 9 exact rfl)))
    refine EM.nil ?_
    repeat (first | rw [List.cons_append] | rw [List.nil_append])
    refine CH.mut (os := [_]) (rest := []) rfl rfl (m_append rfl rfl rfl rfl rfl (by rw [hl]; constructor <;> simp)) ?_
    rintro _ _ ⟨v', rfl, rfl⟩
    try simp only [St.put]
    repeat (first | rw [List.cons_append] | rw [List.nil_append])
    refine CH.nil ?_
    try simp only [List.drop_succ_cons, List.drop_zero]
    refine EL.le (Le.freeze (pre := []) rfl) ?_
    simp only [List.nil_append]
    repeat
      (first
       | (apply P_load; exact rfl; (first | exact I0 | exact I1 | exact I2 | exact I3 | exact I4 | exact I5 | exact I6); (iterate 4 exact rfl))
       | (apply P_store; exact rfl; (focus (repeat first | exact .z | apply SetAt.s | apply SetAtF.s)); (iterate 4 exact rfl)) | apply EL.nil | ((with_reducible apply EK.then_normal); apply EK.code)
       | (with_reducible first | apply EC.seq | apply EC.region | apply EC.skip | apply EC.label | apply EC.block | apply EC.exit | apply EC.ret | apply EK.in_normal | apply EK.in_same | apply EK.in_ret | apply EK.then_ret | apply EK.then_exit))
    refine EK.retc1r 1 rfl rfl rfl rfl ?_ rfl
    (repeat first | exact RefineL.refl _ _ | exact RL.nil | exact Rf.same | exact Rf.bs0 | exact Rf.sl0 | (apply Rf.fact; (focus (simp; done)); exact rfl) | apply Rf.tup | apply RL.cons)
theorem f_Item : ∀ t : Tn, t.ok → t.isNil = false → Fn 99 [dT t] (· = .val (dItem (itemT t)))
  | .leaf p v, h, _ => item_leaf p v h
  | .ext p k, h, _ => item_ext p k h.1 (f_Ref_of k fun hn => f_Item k h.2 hn)
  | .br ks v, h, _ => item_br ks v fun i => f_Ref_of (ks i) fun hn => f_Item (ks i) (h i) hn
theorem f_Sum (t : Tn) (h : t.ok) : Fn 33 [dT t] (· = .val (.arr 32 (sumT t))) := f_Sum_of t (f_Item t h)
theorem f_Bytes (t : Tn) (h : t.ok) (hn : t.isNil = false) : Fn 64 [dT t] (· = .val (.bs (pkB (itemT t)))) := f_Bytes_of t (f_Item t h hn)
end E
end Go.Proofs.Ytmlajcbabimkjaa
/-
  The abstract machine: more returns; pointers held against nil.
  Conditions: none.
-/
namespace Go.Proofs.Ytmlajcbabimkjaa
set_option linter.unusedVariables false
open Go.RowKit Mono Rlp
namespace E
section
variable {N : Nat} {X : Cx N} {rs : List (Tmp × R)} {os : List Obj} {fs : List (Value × D)}
variable {S : St} {fn : Func} {Φ : R → List Obj → Prop}
theorem ok_less {os' : List Obj} (h : os'.Sublist os) {w : World} {b : Nat} (hb : X.ok os w b) : X.ok os' w b := ⟨hb.1, hb.2.1, fun o ho => hb.2.2 o (h.subset ho)⟩
theorem EK.retM0s (os' : List Obj) (hres : fn.results = #[]) (ho : os'.Sublist S.objs) (hΦ : Φ (.tpl []) os') : EK X (bodyPost Try.prog fn (OutM X Φ) .ret) S := by
  constructor
  intro a w ha
  exact bodyPost_ret (results_none hres a.tmps Try.prog w) ha.defers ⟨_, _, os', rfl, hΦ, ha.mem.less ho (fun f hf => by cases hf), [], rfl, rfl⟩
theorem EK.retM1s {t : Tmp} {r : R} (os' : List Obj) (hres : fn.results = #[.tmp t]) (hl : look S.regs t = some r) (ho : os'.Sublist S.objs) (hΦ : Φ r os') : EK X (bodyPost Try.prog fn (OutM X Φ) .ret) S := by
  constructor
  intro a w ha
  exact bodyPost_ret (results_tmp hres a.tmps Try.prog w) ha.defers ⟨_, r, os', rfl, hΦ, ha.mem.less ho (fun f hf => by cases hf), (ha.regs t r hl).mono (fun b hb => ok_less ho hb) fun _ _ => rfl⟩
end
section
variable {N : Nat} {X : Cx N} {ops : Array Oper} {Q : Exit → Act → World → Prop}
theorem EK.retM1k {fn : Func} {Φ : R → List Obj → Prop} {S : St} {t : Tmp} {d d' : D} (os' : List Obj) (hres : fn.results = #[.tmp t]) (hl : look S.regs t = some (.val d)) (hR : RefineL S.facts [d] [d']) (ho : os'.Sublist S.objs) (hΦ : Φ (.val d') os') : EK X (bodyPost Try.prog fn (OutM X Φ) .ret) S := by
  refine EK.le (S' := ⟨S.regs, os', S.facts⟩) ?_ (EK.retM1r hres hl hR hΦ)
  exact fun a w h => ⟨h.mem.less ho (fun f hf => hf), fun t r ht => ReadR.mono (fun b hb => ok_less ho hb) (fun _ _ => rfl) (h.regs t r ht), h.size, h.defers⟩
end
end E
end Go.Proofs.Ytmlajcbabimkjaa
