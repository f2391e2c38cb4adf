/-
  Merged (wip/tools/merge.py): SK7, SN4.
  Conditions: none.
-/
import Derived.Test.YtdhicdnmgmkpkaaGreatZC17
import Derived.Test.YtdhicdnmgmkpkaaGreatZC26
/-
  slices.SortedFunc of maps.Keys of a tree's layers.
  Conditions: none.
-/
namespace Go.Proofs.YtdhicdnmgmkpkaaGreat
set_option linter.unusedVariables false
open Go.RowKit Mono Rlp Go.Sort
open Go.ChangeMaps (setBlock)
namespace E
set_option maxRecDepth 100000 in
set_option maxHeartbeats 2000000 in
theorem keys1_lay (n l Bm b : Nat) (hn1 : 1 ≤ n) (es : Array MapEntry) (clock : Nat) (J Jx : List (Ky 32) → World → Prop)
    (hY : ∀ pre x W, J pre W → pre.length < es.size → YieldAt Fence.wide (n - 1) Tryz.prog l #[kv x] W fun e W' => (e = .returned (.bool true) ∧ J (pre ++ [x]) W' ∧ KeepsWalks W W') ∨ (e = .returned (.bool false) ∧ Jx (pre ++ [x]) W'))
    (W : World) (hJ : AbidesFrom W.heap.size J) (hm : W.cell? ⟨Bm, 0, none⟩ = some (.map (some b))) (hb : W.heap[b]? = some (.map es clock)) (hn : (es.toList.map (·.born)).Nodup) (hl : ∀ x ∈ es.toList, x.born < clock) (hkey : ∀ x ∈ es.toList, ∃ k : Ky 32, x.key = kv k) (h0 : J [] W) :
    CallsIn Fence.wide n Tryz.prog 133 #[.func (.yield l) #[] #[], .pointer (some ⟨Bm, 0, none⟩)] W fun e W' => (∃ v, e = .returned v) ∧ ((∃ ss : List (Ky 32), (ss.map kv).Perm (es.toList.map (·.key)) ∧ J ss W') ∨ (∃ pre : List (Ky 32), True ∧ Jx pre W')) := by
  refine callsIn_of_wp Tryz.func133 rfl trivial ?_ rfl
  simp only [Tryz.ntmps133, List.size_toArray, List.length_cons, List.length_nil, Nat.reduceAdd, Nat.reduceSub, Array.replicate_succ, Array.replicate_zero, List.push_toArray, List.append_toArray, List.nil_append, List.cons_append]
  have hrg0 := Rng.start hb hl
  have hJ0 := hJ [] W _ none h0 (World.grownBy_alloc W (.mapIter (some b) clock #[] clock) none) (fun r e => by cases e)
  have hlt0 : W.heap.size < (W.alloc (.mapIter (some b) clock #[] clock)).heap.size := by simp
  gi_wp2_with (first
    | (gi_at_range; refine in_range rfl _ 144 34 143 rfl Tryz.underlying144 rfl hb ?_)
    | gi_in)
  go_frame
  generalize W.alloc (.mapIter (some b) clock #[] clock) = w0 at hrg0 hJ0 hlt0 ⊢
  gi_loopw [3] (fun _ wr => ∃ (cnt : Nat) (ss : List (Ky 32)), Rng wr b W.heap.size es clock (ss.map kv) cnt ∧ J ss wr)
    (fun _ wr => wr.rangeLeft b W.heap.size)
  case atStart =>
    exact ⟨_, [], hrg0, hJ0⟩
  case round =>
    obtain ⟨cnt, ss, hrg, hJs⟩ := hrel
    gi_wp2_with (first
      | (gi_at_next; refine in_next rfl _ rfl rfl hrg hn ?_ ?_)
      | gi_in)
    · intro hc0 hp
      gi_wp2
      go_end0
      exact ⟨⟨_, rfl⟩, .inl ⟨ss, hp, hJs⟩⟩
    · intro e w2 cnt2 he hrg2 hlt hg2 hs2 hen
      obtain ⟨x, hx⟩ := hkey e (by simpa using he)
      have hlen : ss.length < es.size := by have := hrg.le; simp at this; omega
      have hJ2 : J ss w2 := hJ ss wr w2 (some W.heap.size) hJs hg2 (fun r e => by cases e; exact ⟨Nat.le_refl _, hrg.iter⟩)
      rw [hx] at hen hrg2 ⊢
      clear hs2
      have hlt2 := hrg2.lt
      gi_wp2_with (first
        | (guard_target = wpListIn _ _ _ _ _ (Oper.mk _ (Op.store _ _ _) _ _ _ _ :: _) _ _; refine in_store (l := x.1) (cs := List.replicate 32 (.int .u8 0)) rfl _ _ _ rfl (by rw [x.2]; rfl) rfl rfl (World.alloc_heap_new w2 _) (by rw [x.2]; rfl) ?_
           intro w4 hb4 hg4 hs4
           have hg24 : w2.grownBy w4 none := ⟨hg4.os.trans rfl, hg4.tape.trans rfl, hg4.output.trans rfl, by rw [hs4]; simp, fun i hi _ => (hg4.block i (by simp; omega) (fun e => by cases e; omega)).trans ((MapKept.heap_alloc w2 _).2 i hi)⟩
           have hJ4 : J ss w4 := hJ ss w2 w4 none hJ2 hg24 (fun r e => by cases e)
           have hrg4 := hrg2.kept (hg24.block b hlt2.1 (by simp)) (hg24.block W.heap.size hlt2.2 (by simp))
           obtain ⟨fn, tmps, assign, body, hy, hR⟩ := hY ss x w4 hJ4 hlen
           rw [show kv x = arrV x.1 from rfl] at hy
           have hb4' := Lib.hid hb4
           clear hb4 hs4 hg4 hg24)
        | (guard_target = wpListIn _ _ _ _ _ (Oper.mk _ (Op.load _ _) _ _ _ _ :: _) _ _; refine in_load (l := x.1) rfl _ _ rfl (by rw [x.2]; rfl) rfl hb4'.out ?_)
        | gi_in)
      refine hR.mono ?_
      rintro e W3 (⟨rfl, hJ3, hk3⟩ | ⟨rfl, hJx3⟩)
      · gi_wp2
        have hrg3 := hrg4.walks hk3
        go_roundw
        case rel => exact ⟨cnt2, ss ++ [x], by simpa using hrg3, hJ3⟩
        case measure => rw [hrg3.left_eq, hrg.left_eq]; exact hlt
      · gi_wp2
        refine bodyPost_ret (results_none rfl _ _ _) rfl ?_
        exact ⟨⟨_, rfl⟩, .inr ⟨ss ++ [x], trivial, hJx3⟩⟩
theorem enters_lay : ∀ args w, (callFunc 133 args).run Tryz.prog w = .ok (.enter 133 args) w := enters_of Tryz.func133 (by kernel_rfl) rfl
theorem append_lay (g m c : Nat) (es : List Ent) (hl : es.length * 32 ≤ 140737488355328) : FnM 154 [.v (.slice none 0 0), .v (.func (.func 133) #[] #[.pointer (some ⟨g, 0, none⟩)])] [.var g 144 (.v (.map (some m))), .map m 32 c es] (fun r os' => ∃ v, ∃ ks : List (Ky 32), r = .val (.v v) ∧ (ks.map (·.1)).Perm (es.map (·.2.1)) ∧ os' = [.row v 34 32 (ks.map dK), .var g 144 (.v (.map (some m))), .map m 32 c es]) := by
  constructor
  intro ok w xs hok hown hr
  obtain ⟨x1, _, rfl, hx1, x2, _, rfl, hx2, rfl⟩ := hr
  obtain rfl := (readV_v.1 hx1).2
  obtain rfl := (readV_v.1 hx2).2
  obtain ⟨_, cs, hg, hrd⟩ := hown.at_ _ (List.mem_cons_self ..)
  obtain ⟨_, hent, arr, hm, hall⟩ := hown.at_ _ (List.mem_cons_of_mem _ (List.mem_cons_self ..))
  rw [Reads] at hrd
  rw [hrd.2] at hg
  have hglt := (Array.getElem?_eq_some_iff.1 hg).1
  have hmlt := (Array.getElem?_eq_some_iff.1 hm).1
  have hbs : arr.toList.map (·.born) = es.map (·.1) := all2_map (fun a b h => h.born) hall
  have hks : arr.toList.map (·.key) = es.map fun x => arrV x.2.1 := all2_map (fun a b h => h.key) hall
  have hsz : arr.size = es.length := by rw [← Array.length_toList, all2_length hall]
  have hseq : SeqStopsK Fence.wide 3 Tryz.prog 133 #[.pointer (some ⟨g, 0, none⟩)] (fun x : Ky 32 => #[kv x]) KeepsWalks (fun ss => (ss.map kv).Perm (arr.toList.map (·.key))) (fun _ => True) arr.size w := fun l J Jx W hW hJ _ hY h0 =>
    keys1_lay 3 l g m (by omega) arr c J Jx hY W hJ ((hW.cell (p := ⟨g, 0, none⟩) hglt).trans (by rw [cell_of_row w g 0 _ _ _ hg]; rfl)) ((hW.block m hmlt).trans hm) (by rw [hbs]; exact hent.borns)
      (fun x hx => by obtain ⟨y, hy, he⟩ := all2_mem hall hx; rw [he.born]; exact hent.lt y hy)
      (fun x hx => by obtain ⟨y, hy, he⟩ := all2_mem hall hx; exact ⟨⟨y.2.1, he.len⟩, he.key⟩) h0
  refine (callsIn_wide.1 (appendSeq_word 4 (by omega) 133 #[.pointer (some ⟨g, 0, none⟩)] enters_lay _ _ arr.size (by rw [hsz]; exact hl) w hseq)).mono ?_
  rintro e w' ⟨v, ks, rfl, hp, hrow, hnil, hB⟩
  have hp' : (ks.map (·.1)).Perm (es.map (·.2.1)) := by
    rw [hks] at hp
    have := hp.map unV
    rw [List.map_map, List.map_map] at this
    have e1 : ks.map (unV ∘ kv) = ks.map (·.1) := List.map_congr_left fun k _ => unV_arr k.1
    have e2 : es.map (unV ∘ fun x => arrV x.2.1) = es.map (·.2.1) := List.map_congr_left fun k _ => unV_arr k.2.1
    rwa [e1, e2] at this
  have hnew : ∀ b, v.ownBlock = some b → w.heap.size ≤ b := fun b hb => (hrow.lt b hb).1
  refine ⟨v, .val (.v v), _, rfl, ⟨v, ks, rfl, hp', rfl⟩, ⟨.of hB, .cons (fun p hp b hb e => ?_) hown.apart, fun o ho => ?_⟩, readV_v.2 ⟨owns_one hrow, rfl⟩⟩
  · have h1 := hnew b hb
    have h2 := (Obj.blk_lt (hown.at_ p hp) e).2
    omega
  · rcases List.mem_cons.1 ho with rfl | ho
    · refine ⟨ks.map kc, ⟨?_, fun b hb => .inr (hnew b hb)⟩, rows_keys ks⟩
      rw [List.length_map]
      exact owns_low hrow
    · refine ((hown.at_ o ho).move (fun b hb => ⟨.inl hb, Nat.lt_of_lt_of_le (hok b hb) hB.size, fun o' ho' e => ?_⟩) (fun p hp => hB.cell (hok _ hp)) fun b hb => hB.block b (Obj.blk_lt (hown.at_ o ho) hb).2).rebase fun b hb => .inl ⟨o, ho, hb⟩
      rcases List.mem_cons.1 ho' with rfl | ho'
      · have := hnew b e
        have := hok b hb
        omega
      · exact hown.off b ⟨o', ho', e⟩ hb
set_option maxRecDepth 20000 in
set_option maxHeartbeats 2000000 in
theorem keys_lay (m : Nat) : FnM 91 [.v (.map (some m))] [] (fun r os' => ∃ g, r = .val (.v (.func (.func 133) #[] #[.pointer (some ⟨g, 0, none⟩)])) ∧ os' = [.var g 144 (.v (.map (some m)))]) := by
  refine FnM.walk 4 Tryz.func91 rfl Tryz.ntmps91 (by simp) fun X => ?_
  repeat
    (first
     | (apply P_assign; (iterate 3 exact rfl)) | (apply P_mkfunc; (iterate 3 exact rfl)) | (apply P_box; exact rfl; exact rfl; exact rfl; intro _) | apply EL.nil
     | ((with_reducible apply EK.then_normal); apply EK.code)
     | (with_reducible first | apply EC.seq | apply EC.region | apply EC.skip | apply EC.label | apply EC.block | apply EC.exit | apply EC.ret | apply EK.in_normal | apply EK.in_same | apply EK.in_ret | apply EK.then_ret | apply EK.then_exit))
  rename_i g
  exact EK.retM1s [.var g 144 (.v (.map (some m)))] rfl rfl (by (repeat first | exact List.nil_sublist _ | apply List.Sublist.cons_cons | apply List.Sublist.cons)) ⟨g, rfl, rfl⟩
set_option maxRecDepth 20000 in
set_option maxHeartbeats 2000000 in
theorem collect_lay (g m c : Nat) (es : List Ent) (hl : es.length * 32 ≤ 140737488355328) : FnM 124 [.v (.func (.func 133) #[] #[.pointer (some ⟨g, 0, none⟩)])] [.var g 144 (.v (.map (some m))), .map m 32 c es] (fun r os' => ∃ v, ∃ ks : List (Ky 32), r = .val (.v v) ∧ (ks.map (·.1)).Perm (es.map (·.2.1)) ∧ os' = [.row v 34 32 (ks.map dK), .var g 144 (.v (.map (some m))), .map m 32 c es]) := by
  have h1 := append_lay g m c es hl
  refine FnM.walk 5 Tryz.func124 rfl Tryz.ntmps124 (by simp) fun X => ?_
  repeat
    (first
     | (apply P_callM (os := [.var g 144 (.v (.map (some m))), .map m 32 c es]) h1; (iterate 2 exact rfl); exact RefineL.refl _ _; (focus (intro _ _; simp [go_sem]; done)); (iterate 2 exact rfl); rintro _ _ ⟨v, ks, rfl, hp, rfl⟩)
     | (apply P_move; (iterate 3 exact rfl)) | (apply P_assign; (iterate 3 exact rfl)) | apply EL.nil | ((with_reducible apply EK.then_normal); apply EK.code)
     | (with_reducible first | apply EC.seq | apply EC.region | apply EC.skip | apply EC.label | apply EC.block | apply EC.exit | apply EC.ret | apply EK.in_normal | apply EK.in_same | apply EK.in_ret | apply EK.then_ret | apply EK.then_exit))
  exact EK.retM1s [.row v 34 32 (ks.map dK), .var g 144 (.v (.map (some m))), .map m 32 c es] rfl rfl (by (repeat first | exact List.nil_sublist _ | apply List.Sublist.cons_cons | apply List.Sublist.cons)) ⟨v, ks, rfl, hp, rfl⟩
set_option maxRecDepth 20000 in
set_option maxHeartbeats 2000000 in
theorem sorted_lay (cf : FuncId) (hc : ∀ l m : List UInt8, l.length = 32 → m.length = 32 → ∀ w, Calls Tryz.prog cf #[arrV l, arrV m] w fun e w' => e = .returned (.int .i64 (cmpB l m)) ∧ ∃ q os', w' = grow (w.drewN q) os') (ec : ∀ args w, (callFunc cf args).run Tryz.prog w = .ok (.enter cf args) w)
    (g m c : Nat) (es : List Ent) (hl : es.length * 32 ≤ 140737488355328) : FnM 79 [.v (.func (.func 133) #[] #[.pointer (some ⟨g, 0, none⟩)]), .v (.func (.func cf) #[] #[])] [.var g 144 (.v (.map (some m))), .map m 32 c es] (fun r os' => ∃ v, r = .val (.v v) ∧ os' = [.row v 34 32 ((sortL (es.map (·.2.1))).map (D.arr 32)), .var g 144 (.v (.map (some m))), .map m 32 c es]) := by
  have h1 := collect_lay g m c es hl
  refine FnM.walk 12 Tryz.func79 rfl Tryz.ntmps79 (by simp) fun X => ?_
  repeat
    (first
     | (apply P_callM (os := [.var g 144 (.v (.map (some m))), .map m 32 c es]) h1; (iterate 2 exact rfl); exact RefineL.refl _ _; (focus (intro _ _; simp [go_sem]; done)); (iterate 2 exact rfl); rintro _ _ ⟨v, ks, rfl, hp, rfl⟩)
     | (apply P_move; (iterate 3 exact rfl)) | (apply P_assign; (iterate 3 exact rfl)) | apply EL.nil | ((with_reducible apply EK.then_normal); apply EK.code)
     | (with_reducible first | apply EC.seq | apply EC.region | apply EC.skip | apply EC.label | apply EC.block | apply EC.exit | apply EC.ret | apply EK.in_normal | apply EK.in_same | apply EK.in_ret | apply EK.then_ret | apply EK.then_exit))
  have hkl : ks.length = es.length := by simpa using hp.length_eq
  have h2 := sort_word cf hc ec v ks (by omega)
  repeat
    (first
     | (apply P_callM (os := [.row v 34 32 (ks.map dK)]) h2; (iterate 2 exact rfl); exact RefineL.refl _ _; (focus (intro _ _; simp [go_sem]; done)); (iterate 2 exact rfl); rintro _ _ ⟨rfl, rfl⟩)
     | (apply P_move; (iterate 3 exact rfl)) | (apply P_assign; (iterate 3 exact rfl)) | apply EL.nil | ((with_reducible apply EK.then_normal); apply EK.code)
     | (with_reducible first | apply EC.seq | apply EC.region | apply EC.skip | apply EC.label | apply EC.block | apply EC.exit | apply EC.ret | apply EK.in_normal | apply EK.in_same | apply EK.in_ret | apply EK.then_ret | apply EK.then_exit))
  have hs : (ks.mergeSort fun x y => decide (x.1 ≤ y.1)).map (·.1) = sortL (es.map (·.2.1)) := by
    refine sortL_eq (((List.mergeSort_perm ks _).map (·.1)).trans hp) ?_
    have h := List.pairwise_mergeSort (le := fun x y : Ky 32 => decide (x.1 ≤ y.1)) (fun a b c h1 h2 => by simp only [decide_eq_true_eq] at h1 h2 ⊢; exact List.le_trans h1 h2) (fun a b => by simp only [Bool.or_eq_true, decide_eq_true_eq]; exact List.le_total a.1 b.1) ks
    rw [List.pairwise_map]
    exact h.imp fun h => by simpa using h
  exact EK.retM1s [.row v 34 32 ((ks.mergeSort fun x y => decide (x.1 ≤ y.1)).map dK), .var g 144 (.v (.map (some m))), .map m 32 c es] rfl rfl (by (repeat first | exact List.nil_sublist _ | apply List.Sublist.cons_cons | apply List.Sublist.cons)) ⟨v, rfl, by rw [val_dK, hs]⟩
end E
end Go.Proofs.YtdhicdnmgmkpkaaGreat
/-
  The program's snap: Flatten.
  Conditions: none.
-/
namespace Go.Proofs.YtdhicdnmgmkpkaaGreat
set_option linter.unusedVariables false
open Go.RowKit Mono Rlp Wd Go.Sort
namespace E
theorem EC.mapOf {N : Nat} {X : Cx N} {S : St} {Q : Exit → Act → World → Prop} {cd : Code} {g n c : Nat} {es : List Ent} (i : Nat) (hi : S.objs[i]? = some (.map g n c es)) (k : Ents c es → (∀ e ∈ es, e.2.1.length = n) → EC X Q cd S) : EC X Q cd S := ⟨fun a w ha => by
  obtain ⟨_, hE, arr, _, h4⟩ := ha.mem.at_ _ (List.mem_of_getElem? hi)
  exact (k hE fun e he => by obtain ⟨y, _, h5⟩ := h4.right e he; exact h5.len).go a w ha⟩
theorem key_inj {α β : Type} {f : α → β} : ∀ {l : List α}, (l.map f).Nodup → ∀ a ∈ l, ∀ b ∈ l, f a = f b → a = b
  | [], _, a, ha, _, _, _ => by cases ha
  | x :: l, h, a, ha, b, hb, e => by
    rw [List.map_cons, List.nodup_cons] at h
    rcases List.mem_cons.1 ha with ha1 | ha1
    · rcases List.mem_cons.1 hb with hb1 | hb1
      · rw [ha1, hb1]
      · exact absurd (List.mem_map.2 ⟨b, hb1, by rw [← e, ha1]⟩) h.1
    · rcases List.mem_cons.1 hb with hb1 | hb1
      · exact absurd (List.mem_map.2 ⟨a, ha1, by rw [e, hb1]⟩) h.1
      · exact key_inj h.2 a ha1 b hb1 e
theorem nodup_of_map {α β : Type} {f : α → β} {l : List α} (h : (l.map f).Nodup) : l.Nodup := by
  unfold List.Nodup at h ⊢
  rw [List.pairwise_map] at h
  exact h.imp fun h e => h (by rw [e])
theorem seen_all {es xs : List Ent} (hE : (es.map (·.1)).Nodup) (h1 : ∀ e ∈ xs, e ∈ es) (h2 : (xs.map (·.1)).Nodup) (h3 : ∀ e ∈ es, e.1 ∈ (xs.map (·.1)).toArray) : xs.Perm es :=
  (List.perm_ext_iff_of_nodup (nodup_of_map h2) (nodup_of_map hE)).2 fun e => ⟨h1 e, fun he => by
    have := h3 e he
    simp only [List.mem_toArray, List.mem_map] at this
    obtain ⟨y, hy, h4⟩ := this
    rw [← key_inj hE y (h1 y hy) e he h4]
    exact hy⟩
theorem seen_len {es xs : List Ent} (h1 : ∀ e ∈ xs, e ∈ es) (h2 : (xs.map (·.1)).Nodup) : xs.length ≤ es.length := (nodup_of_map h2).length_le_of_subset h1
theorem ky_of {n : Nat} : ∀ (l : List (List UInt8)), (∀ k ∈ l, k.length = n) → ∃ ks : List (Ky n), ks.map (·.1) = l
  | [], _ => ⟨[], rfl⟩
  | k :: l, h => by
    obtain ⟨ks, e⟩ := ky_of l fun x hx => h x (List.mem_cons_of_mem _ hx)
    exact ⟨⟨k, h k List.mem_cons_self⟩ :: ks, by rw [List.map_cons, e]⟩
theorem delE_filter : ∀ (es : List Ent) (l : List UInt8), (es.map (·.2.1)).Nodup → delE es l = es.filter fun e => !(e.2.1 == l)
  | [], _, _ => rfl
  | x :: es, l, h => by
    rw [List.map_cons, List.nodup_cons] at h
    rw [delE]
    cases hx : x.2.1 == l with
    | true =>
      have : es.filter (fun e => !(e.2.1 == l)) = es := List.filter_eq_self.2 fun e he => by
        have hne : ¬ e.2.1 = l := fun e' => h.1 (by rw [eq_of_beq hx, ← e']; exact List.mem_map.2 ⟨e, he, rfl⟩)
        simpa using hne
      simp [hx, this]
    | false => simp [hx, delE_filter es l h.2]
theorem delE_foldl : ∀ (ks : List (List UInt8)) (es : List Ent), (es.map (·.2.1)).Nodup → ks.foldl delE es = es.filter fun e => !ks.contains e.2.1
  | [], es, _ => (List.filter_eq_self.2 fun e he => by simp).symm
  | k :: ks, es, h => by
    rw [List.foldl_cons, delE_filter es k h, delE_foldl ks _ (List.Nodup.sublist (List.filter_sublist.map _) h), List.filter_filter]
    refine List.filter_congr fun e he => ?_
    rw [List.contains_cons, Bool.not_or, Bool.and_comm]
set_option maxRecDepth 20000 in
set_option maxHeartbeats 8000000 in
theorem sflat {g m c : Nat} {base id p : List UInt8} {es : List Ent} {L : List AcL} (F : List UInt8 → Bool) (hF : ∀ e ∈ es, FnM 85 [.v (ptr g), .arr 32 e.2.1, .arr 32 id] [tO g m base, .map m 32 c es] (fun r os' => r = .val (.v (.bool (F e.2.1))) ∧ os' = [tO g m base, .map m 32 c es])) (hid : getE es id = some (dLay p L)) (hl : es.length ≤ 1000000) :
    FnM 30 [.v (ptr g), .arr 32 id] [tO g m base, .map m 32 c es] (fun r os' => r = .tpl [.sl 32 ((sortL ((es.filter fun e => !F e.2.1).map (·.2.1))).map (D.arr 32)), .v (.int .i64 0)] ∧ os' = [tO g m id, .map m 32 c (es.filter fun e => F e.2.1)]) := by
  have hz1 : (getE es id).getD (.tup [.arr 32 zero32, .v nilS]) = .tup [.arr 32 p, .sl 55 (L.map dAcL)] ∧ (getE es id).isSome = true := by rw [hid]; exact ⟨rfl, rfl⟩
  refine FnM.walk 60 Tryz.func30 rfl Tryz.ntmps30 (by simp) fun X => ?_
  refine EC.mapOf 1 rfl fun hE hlen => ?_
  repeat
    (first
     | (apply P_assign; (iterate 3 exact rfl)) | (apply P_box; exact rfl; exact rfl; exact rfl; intro _) | apply EL.nil | ((with_reducible apply EK.then_normal); apply EK.code)
     | (with_reducible first | apply EC.seq | apply EC.region | apply EC.skip | apply EC.label | apply EC.block | apply EC.exit | apply EC.ret | apply EK.in_normal | apply EK.in_same | apply EK.in_ret | apply EK.then_ret | apply EK.then_exit))
  rename_i g3
  refine EC.drawC 11 [0, 1, 2, 3, 4, 5, 6, 7, 8] [9, 10] [] _ (by kernel_rfl) (by kernel_rfl) rfl ?_
  simp only [pickL, List.filterMap_cons, List.filterMap_nil, List.getElem?_cons_zero, List.getElem?_cons_succ]
  repeat
    (first
     | (apply H_lookup2; exact hz1; exact rfl; (first | exact I0 | exact I1 | exact I2 | exact I3 | exact I4 | exact I5); (iterate 5 exact rfl)) | (apply H_move; (iterate 3 exact rfl))
     | (apply H_field; (iterate 6 exact rfl)) | (apply H_extract; (iterate 4 exact rfl))
     | (apply H_load; exact rfl; (first | exact I0 | exact I1 | exact I2 | exact I3 | exact I4 | exact I5 | exact I6); (iterate 4 exact rfl)) | (apply H_nilck; (iterate 3 exact rfl)))
  refine EM.nil ?_
  repeat (first | rw [List.cons_append] | rw [List.nil_append])
  refine CH.mut (os := []) (rest := []) rfl rfl (m_alloc rfl rfl) ?_
  rintro _ _ ⟨g6, rfl, rfl⟩
  try simp only [St.put]
  repeat (first | rw [List.cons_append] | rw [List.nil_append])
  refine CH.mut (os := [_]) (rest := []) rfl rfl (m_put (put_store rfl rfl rfl rfl rfl)) ?_
  rintro _ _ ⟨rfl, rfl⟩
  try simp only [St.put]
  repeat (first | rw [List.cons_append] | rw [List.nil_append])
  refine CH.nil ?_
  try simp only [List.drop_succ_cons, List.drop_zero]
  repeat
    (first
     | (apply P_range; exact rfl; (first | exact I0 | exact I1 | exact I2 | exact I3 | exact I4 | exact I5); (iterate 3 exact rfl); intro _) | (apply P_move; (iterate 3 exact rfl))
     | (apply P_assign; (iterate 3 exact rfl)) | (apply P_field; (iterate 6 exact rfl)) | (apply P_not; (iterate 3 exact rfl))
     | (apply P_load; exact rfl; (first | exact I0 | exact I1 | exact I2 | exact I3 | exact I4 | exact I5 | exact I6); (iterate 4 exact rfl)) | (apply P_nilck; (iterate 3 exact rfl)) | apply EL.nil
     | ((with_reducible apply EK.then_normal); apply EK.code) | (apply EC.cond_false; exact rfl)
     | (with_reducible first | apply EC.seq | apply EC.region | apply EC.skip | apply EC.label | apply EC.block | apply EC.exit | apply EC.ret | apply EK.in_normal | apply EK.in_same | apply EK.in_ret | apply EK.then_ret | apply EK.then_exit))
  rename_i gi
  refine EC.le (Le.row 34 32) ?_
  refine EC.le (Le.pick [1, 5, 0, 3, 4, 2] [_, _, _, _, _, _] rfl (by decide) rfl) ?_
  refine EC.loop (ι := {x : List Ent × Value // (∀ e ∈ x.1, e ∈ es) ∧ (x.1.map (·.1)).Nodup})
    (fun x => ⟨[(27, .val (.v (ptr gi))), (8, .val (.v x.1.2)), (3, .val (.v (ptr g3))), (0, .val (.v (ptr g)))], [itO gi m c (x.1.1.map (·.1)).toArray, .map m 32 c es, .row x.1.2 34 32 (((x.1.1.filter fun e => !F e.2.1).map (·.2.1)).map (D.arr 32)), .var g3 34 (.arr 32 id), tO g m base], []⟩)
    (fun x => es.length - x.1.1.length) ⟨([], nilS), fun e he => by simp at he, .nil⟩ ?_ ?_
  · exact (Le.keep (by repeat first | exact trivial | refine ⟨rfl, ?_⟩) (by repeat first | exact List.nil_sublist _ | apply List.Sublist.cons_cons | apply List.Sublist.cons) (by simp))
  rintro ⟨⟨xs, v⟩, hsub, hnod⟩
  dsimp only at hsub hnod ⊢
  have hxl := seen_len hsub hnod
  repeat
    (first
     | (with_reducible first | apply EC.seq | apply EC.region | apply EC.skip | apply EC.label | apply EC.block | apply EC.exit | apply EC.ret | apply EK.in_normal | apply EK.in_same | apply EK.in_ret | apply EK.then_ret | apply EK.then_exit))
  refine P_next rfl rfl rfl (fun hall => ?_) (fun e he hne => ?_)
  · have hperm := seen_all hE.borns hsub hnod hall
    obtain ⟨K, hK⟩ : ∃ K, (xs.filter fun e => !F e.2.1).map (·.2.1) = K := ⟨_, rfl⟩
    have hKp : K.Perm ((es.filter fun e => !F e.2.1).map (·.2.1)) := hK ▸ (hperm.filter _).map _
    obtain ⟨ks, hks⟩ := ky_of (n := 32) K fun k hk => by
      obtain ⟨e, he, h1⟩ := List.mem_map.1 (hKp.mem_iff.1 hk)
      rw [← h1]
      exact hlen e (List.mem_filter.1 he).1
    have hkl : ks.length ≤ es.length := by
      have h1 : ks.length = K.length := by rw [← hks, List.length_map]
      have h2 := hKp.length_eq
      have h3 := List.length_filter_le (fun e : Ent => !F e.2.1) es
      rw [List.length_map] at h2
      omega
    have hrow : K.map (D.arr 32) = ks.map dK := by rw [val_dK, hks]
    have hs : (ks.mergeSort fun x y => decide (x.1 ≤ y.1)).map (·.1) = sortL ((es.filter fun e => !F e.2.1).map (·.2.1)) := by
      refine sortL_eq (((List.mergeSort_perm ks _).map (·.1)).trans (by rw [hks]; exact hKp)) ?_
      have h := List.pairwise_mergeSort (le := fun x y : Ky 32 => decide (x.1 ≤ y.1)) (fun a b c h1 h2 => by simp only [decide_eq_true_eq] at h1 h2 ⊢; exact List.le_trans h1 h2) (fun a b => by simp only [Bool.or_eq_true, decide_eq_true_eq]; exact List.le_total a.1 b.1) ks
      rw [List.pairwise_map]
      exact h.imp fun h => by simpa using h
    have hso := sort_word 81 cmp_word enters_tc v ks (by omega)
    rw [val_dK (ks.mergeSort _), hs] at hso
    have hGl : (sortL ((es.filter fun e => !F e.2.1).map (·.2.1))).length ≤ es.length := by rw [(sortL_perm _).length_eq, List.length_map]; exact List.length_filter_le _ _
    have hGm : ∀ k, k ∈ sortL ((es.filter fun e => !F e.2.1).map (·.2.1)) ↔ ∃ e ∈ es, e.2.1 = k ∧ F k = false := fun k => by
      rw [(sortL_perm _).mem_iff, List.mem_map]
      constructor
      · rintro ⟨e, he, rfl⟩
        obtain ⟨h1, h2⟩ := List.mem_filter.1 he
        exact ⟨e, h1, rfl, by simpa using h2⟩
      · rintro ⟨e, he, rfl, h1⟩
        exact ⟨e, List.mem_filter.2 ⟨he, by simpa using h1⟩, rfl⟩
    rw [hK, hrow]
    generalize sortL ((es.filter fun e => !F e.2.1).map (·.2.1)) = G at hso hGl hGm ⊢
    have hml : (G.map (D.arr 32)).length = G.length := List.length_map _
    repeat
      (first
       | (apply P_move; (iterate 3 exact rfl)) | (apply P_extract; (iterate 4 exact rfl)) | apply EL.nil | ((with_reducible apply EK.then_normal); apply EK.code) | (apply EC.cond_false; exact rfl)
       | (with_reducible first | apply EC.seq | apply EC.region | apply EC.skip | apply EC.label | apply EC.block | apply EC.exit | apply EC.ret | apply EK.in_normal | apply EK.in_same | apply EK.in_ret | apply EK.then_ret | apply EK.then_exit))
    refine EL.le (Le.pick [2, 0, 1, 3, 4] [_, _, _, _, _] rfl (by decide) rfl) ?_
    repeat
      (first
       | (apply P_callM (os := [_]) hso; (iterate 2 exact rfl); exact RefineL.refl _ _; (focus (intro _ _; simp [go_sem]; done)); (iterate 2 exact rfl); rintro _ _ ⟨rfl, rfl⟩; refine EL.le (Le.freeze (pre := []) rfl) ?_; refine EL.le (Le.refine (t := 8) (d' := .sl 32 (G.map (D.arr 32))) rfl (Rf.fact (by simp) rfl)) ?_; simp only [List.nil_append])
       | (apply P_move; (iterate 3 exact rfl)) | (apply P_lensl; (iterate 4 exact rfl)) | apply EL.nil | ((with_reducible apply EK.then_normal); apply EK.code)
       | (with_reducible first | apply EC.seq | apply EC.region | apply EC.skip | apply EC.label | apply EC.block | apply EC.exit | apply EC.ret | apply EK.in_normal | apply EK.in_same | apply EK.in_ret | apply EK.then_ret | apply EK.then_exit))
    refine EC.loop (ι := {j : Nat // j ≤ G.length})
      (fun j => ⟨[(45, .val (.v (.int .i64 (j.1 : Int)))), (44, .val (.v (.int .i64 (G.map (D.arr 32)).length))), (43, .val (.sl 32 (G.map (D.arr 32)))), (8, .val (.sl 32 (G.map (D.arr 32)))), (3, .val (.v (ptr g3))), (0, .val (.v (ptr g)))], [.map m 32 c ((G.take j.1).foldl delE es), .var g3 34 (.arr 32 id), tO g m base], []⟩)
      (fun j => G.length - j.1) ⟨0, Nat.zero_le _⟩ ?_ ?_
    · exact (Le.keep (by repeat first | exact trivial | refine ⟨rfl, ?_⟩) (by repeat first | exact List.nil_sublist _ | apply List.Sublist.cons_cons | apply List.Sublist.cons) (by simp))
    rintro ⟨j, hj⟩
    dsimp only at hj ⊢
    by_cases hlt : j < G.length
    · have hd : (G.map (D.arr 32))[j]? = some (.arr 32 G[j]) := by rw [List.getElem?_map, List.getElem?_eq_getElem hlt]; rfl
      have htk : (G.take (j + 1)).foldl delE es = delE ((G.take j).foldl delE es) G[j] := by rw [List.take_succ_eq_append_getElem hlt, List.foldl_append]; rfl
      generalize G[j] = k at hd htk
      repeat
        (first
         | (apply P_loadpd; (iterate 5 exact rfl)) | (apply P_cmp (b := true); (iterate 2 exact rfl); (focus (first | (simp [cmpI]; done) | (simp [cmpI]; omega))); (iterate 2 exact rfl))
         | (apply P_index; (iterate 4 exact rfl); (focus (first | exact ⟨by decide, rfl⟩ | (refine ⟨by omega, ?_⟩; rw [Int.toNat_natCast]; assumption))); (iterate 2 exact rfl))
         | (apply P_alloc; exact rfl; exact rfl; exact rfl; intro _) | (apply P_store; exact rfl; (focus (repeat first | exact .z | apply SetAt.s | apply SetAtF.s)); (iterate 4 exact rfl)) | apply EL.nil
         | ((with_reducible apply EK.then_normal); apply EK.code) | (apply EC.cond_true; exact rfl)
         | (with_reducible first | apply EC.seq | apply EC.region | apply EC.skip | apply EC.label | apply EC.block | apply EC.exit | apply EC.ret | apply EK.in_normal | apply EK.in_same | apply EK.in_ret | apply EK.then_ret | apply EK.then_exit))
      refine EC.draw 5 (by kernel_rfl) ?_
      simp only [List.take_succ_cons, List.take_zero, List.drop_succ_cons, List.drop_zero]
      repeat
        (first
         | (apply H_move; (iterate 3 exact rfl)) | (apply H_field; (iterate 6 exact rfl))
         | (apply H_load; exact rfl; (first | exact I0 | exact I1 | exact I2 | exact I3 | exact I4 | exact I5 | exact I6); (iterate 4 exact rfl)) | (apply H_nilck; (iterate 3 exact rfl))
         | ((with_reducible apply EH.nil); exact rfl))
      repeat
        (first
         | (apply P_move; (iterate 3 exact rfl)) | (apply P_ar; (iterate 3 exact rfl); (focus omega); (focus omega); (iterate 2 exact rfl))
         | (apply P_delete; exact rfl; (focus (repeat first | exact .z | apply SetAt.s | apply SetAtF.s)); (iterate 3 exact rfl)) | apply EL.nil | ((with_reducible apply EK.then_normal); apply EK.code)
         | (with_reducible first | apply EC.seq | apply EC.region | apply EC.skip | apply EC.label | apply EC.block | apply EC.exit | apply EC.ret | apply EK.in_normal | apply EK.in_same | apply EK.in_ret | apply EK.then_ret | apply EK.then_exit))
      refine EK.again ⟨j + 1, hlt⟩ (by dsimp only; omega) ?_
      dsimp only
      rw [htk]
      simp only [Int.natCast_add]
      exact (Le.keep (by repeat first | exact trivial | refine ⟨rfl, ?_⟩) (by repeat first | exact List.nil_sublist _ | apply List.Sublist.cons_cons | apply List.Sublist.cons) (by simp))
    · have hjE : j = G.length := by omega
      subst hjE
      rw [List.take_length, delE_foldl _ _ hE.keys, show (es.filter fun e => !G.contains e.2.1) = es.filter fun e => F e.2.1 from List.filter_congr fun e he => by
        cases hFe : F e.2.1 with
        | true =>
          have hn : e.2.1 ∉ G := fun h => by
            obtain ⟨_, _, _, h1⟩ := (hGm _).1 h
            rw [hFe] at h1
            cases h1
          simpa using hn
        | false =>
          have hn : e.2.1 ∈ G := (hGm _).2 ⟨e, he, rfl, hFe⟩
          simpa using hn]
      repeat
        (first
         | (apply P_move; (iterate 3 exact rfl)) | (apply P_assign; (iterate 3 exact rfl)) | (apply P_field; (iterate 6 exact rfl))
         | (apply P_load; exact rfl; (first | exact I0 | exact I1 | exact I2 | exact I3 | exact I4 | exact I5 | exact I6); (iterate 4 exact rfl))
         | (apply P_cmp (b := false); (iterate 2 exact rfl); (focus (first | (simp [cmpI]; done) | (simp [cmpI]; omega))); (iterate 2 exact rfl)) | (apply P_nilck; (iterate 3 exact rfl))
         | (apply P_store; exact rfl; (focus (repeat first | exact .z | apply SetAt.s | apply SetAtF.s)); (iterate 4 exact rfl)) | apply EL.nil | ((with_reducible apply EK.then_normal); apply EK.code)
         | (apply EC.cond_false; exact rfl)
         | (with_reducible first | apply EC.seq | apply EC.region | apply EC.skip | apply EC.label | apply EC.block | apply EC.exit | apply EC.ret | apply EK.in_normal | apply EK.in_same | apply EK.in_ret | apply EK.then_ret | apply EK.then_exit))
      refine EK.le (Le.pick [2, 0, 1] [_, _, _] rfl (by decide) rfl) ?_
      refine EK.le (S' := ⟨[(4, .val (.sl 32 (G.map (D.arr 32)))), (5, .val (.v (.int .i64 0)))], [tO g m id, .map m 32 c (es.filter fun e => F e.2.1)], []⟩) (Le.keep (by repeat first | exact trivial | refine ⟨rfl, ?_⟩) (by repeat first | exact List.nil_sublist _ | apply List.Sublist.cons_cons | apply List.Sublist.cons) (by simp)) ?_
      exact EK.retM2r rfl rfl rfl (RefineL.refl _ _) ⟨rfl, rfl⟩
  · have hfe := hF e he
    have hpush : ((xs.map (·.1)).toArray).push e.1 = ((xs ++ [e]).map (·.1)).toArray := by simp
    have hsub2 : ∀ y ∈ xs ++ [e], y ∈ es := fun y hy => by
      rcases List.mem_append.1 hy with hy | hy
      · exact hsub y hy
      · obtain rfl : y = e := by simpa using hy
        exact he
    have hnod2 : ((xs ++ [e]).map (·.1)).Nodup := by
      rw [List.map_append, List.map_cons, List.map_nil]
      refine List.nodup_append.2 ⟨hnod, by simp, fun a ha b hb hab => hne ?_⟩
      obtain rfl : b = e.1 := by simpa using hb
      rw [← hab]
      simpa using ha
    have hlen2 := seen_len hsub2 hnod2
    rw [List.length_append, List.length_singleton] at hlen2
    cases hFe : F e.2.1 with
    | true =>
      rw [hFe] at hfe
      have hK : ((xs ++ [e]).filter fun e => !F e.2.1) = xs.filter fun e => !F e.2.1 := by simp [hFe]
      repeat
        (first
         | (apply P_entry (e := e) he; exact rfl; (first | exact I0 | exact I1); (first | exact I1 | exact I2); (iterate 2 exact rfl))
         | (apply P_callV hfe [5, 2, 0, 1, 3, 4] [_, _, _, _] rfl (by decide) rfl rfl (RefineL.refl _ _) (by intro _ _; simp [go_sem]) rfl rfl) | (apply P_move; (iterate 3 exact rfl))
         | (apply P_extract; (iterate 4 exact rfl)) | (apply P_not; (iterate 3 exact rfl))
         | (apply P_load; exact rfl; (first | exact I0 | exact I1 | exact I2 | exact I3 | exact I4 | exact I5 | exact I6); (iterate 4 exact rfl)) | (apply P_alloc; exact rfl; exact rfl; exact rfl; intro _)
         | (apply P_store; exact rfl; (focus (repeat first | exact .z | apply SetAt.s | apply SetAtF.s)); (iterate 4 exact rfl)) | apply EL.nil | ((with_reducible apply EK.then_normal); apply EK.code)
         | (apply EC.cond_true; exact rfl) | (apply EC.cond_false; exact rfl)
         | (with_reducible first | apply EC.seq | apply EC.region | apply EC.skip | apply EC.label | apply EC.block | apply EC.exit | apply EC.ret | apply EK.in_normal | apply EK.in_same | apply EK.in_ret | apply EK.then_ret | apply EK.then_exit))
      refine EK.again ⟨(xs ++ [e], v), hsub2, hnod2⟩ (by dsimp only; rw [List.length_append, List.length_singleton]; omega) ?_
      dsimp only
      rw [hK, ← hpush]
      exact (Le.keep (by repeat first | exact trivial | refine ⟨rfl, ?_⟩) (by repeat first | exact List.nil_sublist _ | apply List.Sublist.cons_cons | apply List.Sublist.cons) (by simp))
    | false =>
      rw [hFe] at hfe
      have hK : (((xs ++ [e]).filter fun e => !F e.2.1).map (·.2.1)).map (D.arr 32) = ((xs.filter fun e => !F e.2.1).map (·.2.1)).map (D.arr 32) ++ [.arr 32 e.2.1] := by simp [hFe]
      have hKl : (((xs.filter fun e => !F e.2.1).map (·.2.1)).map (D.arr 32)).length ≤ xs.length := by
        rw [List.length_map, List.length_map]
        exact List.length_filter_le _ _
      obtain ⟨K, hK0⟩ : ∃ K, ((xs.filter fun e => !F e.2.1).map (·.2.1)).map (D.arr 32) = K := ⟨_, rfl⟩
      rw [hK0] at hK hKl ⊢
      repeat
        (first
         | (apply P_entry (e := e) he; exact rfl; (first | exact I0 | exact I1); (first | exact I1 | exact I2); (iterate 2 exact rfl))
         | (apply P_callV hfe [5, 2, 0, 1, 3, 4] [_, _, _, _] rfl (by decide) rfl rfl (RefineL.refl _ _) (by intro _ _; simp [go_sem]) rfl rfl) | (apply P_move; (iterate 3 exact rfl))
         | (apply P_assign; (iterate 3 exact rfl)) | (apply P_extract; (iterate 4 exact rfl)) | (apply P_not; (iterate 3 exact rfl))
         | (apply P_load; exact rfl; (first | exact I0 | exact I1 | exact I2 | exact I3 | exact I4 | exact I5 | exact I6); (iterate 4 exact rfl)) | (apply P_lit; (iterate 9 exact rfl))
         | (apply P_alloc; exact rfl; exact rfl; exact rfl; intro _) | (apply P_store; exact rfl; (focus (repeat first | exact .z | apply SetAt.s | apply SetAtF.s)); (iterate 4 exact rfl))
         | ((apply P_append; exact rfl; (focus (repeat first | exact .z | apply SetAt.s | apply SetAtF.s)); (iterate 5 exact rfl); (focus (constructor <;> (first | (simp; done) | (simp; omega))))); intro _)
         | apply EL.nil | ((with_reducible apply EK.then_normal); apply EK.code) | (apply EC.cond_true; exact rfl)
         | (with_reducible first | apply EC.seq | apply EC.region | apply EC.skip | apply EC.label | apply EC.block | apply EC.exit | apply EC.ret | apply EK.in_normal | apply EK.in_same | apply EK.in_ret | apply EK.then_ret | apply EK.then_exit))
      rename_i v'
      refine EK.again ⟨(xs ++ [e], v'), hsub2, hnod2⟩ (by dsimp only; rw [List.length_append, List.length_singleton]; omega) ?_
      dsimp only
      rw [hK, ← hpush]
      exact (Le.keep (by repeat first | exact trivial | refine ⟨rfl, ?_⟩) (by repeat first | exact List.nil_sublist _ | apply List.Sublist.cons_cons | apply List.Sublist.cons) (by simp))
end E
end Go.Proofs.YtdhicdnmgmkpkaaGreat
