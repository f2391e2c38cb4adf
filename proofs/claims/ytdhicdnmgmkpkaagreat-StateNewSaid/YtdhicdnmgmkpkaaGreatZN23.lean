/-
  Merged (wip/tools/merge.py): SK6, SU6, SU7.
  Conditions: none.
-/
import Derived.Test.YtdhicdnmgmkpkaaGreatZN22
import Derived.Test.YtdhicdnmgmkpkaaGreatZN20
import Derived.Test.YtdhicdnmgmkpkaaGreatZN12
import Derived.Test.YtdhicdnmgmkpkaaGreatZN21
/-
  slices.SortedFunc of maps.Keys: the keys of a map, in their order.
  Conditions: none.
-/
namespace Go.Proofs.YtdhicdnmgmkpkaaGreat
set_option linter.unusedVariables false
open Go.RowKit Mono Rlp Go.Sort
namespace E
def unV : Value → List UInt8
  | .agg cs => cs.toList.map fun v => match v with
    | .int _ n => UInt8.ofNat n.toNat
    | _ => 0
  | _ => []
theorem unV_arr (l : List UInt8) : unV (arrV l) = l := by
  unfold arrV unV bvs
  simp only [List.map_map]
  refine (List.map_congr_left fun b _ => ?_).trans (List.map_id l)
  simp [bv]
theorem all2_map {α β γ : Type} {R : α → β → Prop} {f : α → γ} {g : β → γ} (h : ∀ a b, R a b → f a = g b) : ∀ {l : List α} {m : List β}, All2 R l m → l.map f = m.map g
  | _, _, .nil => rfl
  | _, _, .cons h1 h2 => by rw [List.map_cons, List.map_cons, h _ _ h1, all2_map h h2]
theorem all2_mem {α β : Type} {R : α → β → Prop} {l : List α} {m : List β} (h : All2 R l m) {a : α} (ha : a ∈ l) : ∃ b ∈ m, R a b := by
  induction h with
  | nil => cases ha
  | cons h1 h2 ih =>
    rcases List.mem_cons.1 ha with rfl | ha
    · exact ⟨_, List.mem_cons_self .., h1⟩
    · obtain ⟨b, hb, hr⟩ := ih ha
      exact ⟨b, List.mem_cons_of_mem _ hb, hr⟩
theorem all2_length {α β : Type} {R : α → β → Prop} : ∀ {l : List α} {m : List β}, All2 R l m → l.length = m.length
  | _, _, .nil => rfl
  | _, _, .cons _ h2 => by rw [List.length_cons, List.length_cons, all2_length h2]
theorem val_dK {n : Nat} (ks : List (Ky n)) : ks.map dK = (ks.map (·.1)).map (D.arr n) := by
  rw [List.map_map]
  rfl
theorem enters_addr : ∀ args w, (callFunc 122 args).run Tryz.prog w = .ok (.enter 122 args) w := enters_of Tryz.func122 (by kernel_rfl) rfl
theorem append_addr (g m c : Nat) (es : List Ent) (hl : es.length * 20 ≤ 140737488355328) : FnM 153 [.v (.slice none 0 0), .v (.func (.func 122) #[] #[.pointer (some ⟨g, 0, none⟩)])] [.var g 106 (.v (.map (some m))), .map m 20 c es] (fun r os' => ∃ v, ∃ ks : List (Ky 20), r = .val (.v v) ∧ (ks.map (·.1)).Perm (es.map (·.2.1)) ∧ os' = [.row v 32 20 (ks.map dK), .var g 106 (.v (.map (some m))), .map m 20 c es]) := by
  constructor
  intro ok w xs hok hown hr
  obtain ⟨x1, _, rfl, hx1, x2, _, rfl, hx2, rfl⟩ := hr
  obtain rfl := (readV_v.1 hx1).2
  obtain rfl := (readV_v.1 hx2).2
  obtain ⟨_, cs, hg, hrd⟩ := hown.at_ _ (List.mem_cons_self ..)
  obtain ⟨_, hent, arr, hm, hall⟩ := hown.at_ _ (List.mem_cons_of_mem _ (List.mem_cons_self ..))
  rw [Reads] at hrd
  rw [hrd.2] at hg
  have hglt := (Array.getElem?_eq_some_iff.1 hg).1
  have hmlt := (Array.getElem?_eq_some_iff.1 hm).1
  have hbs : arr.toList.map (·.born) = es.map (·.1) := all2_map (fun a b h => h.born) hall
  have hks : arr.toList.map (·.key) = es.map fun x => arrV x.2.1 := all2_map (fun a b h => h.key) hall
  have hsz : arr.size = es.length := by rw [← Array.length_toList, all2_length hall]
  have hseq : SeqStopsK Fence.wide 3 Tryz.prog 122 #[.pointer (some ⟨g, 0, none⟩)] (fun x : Ky 20 => #[kv x]) KeepsWalks (fun ss => (ss.map kv).Perm (arr.toList.map (·.key))) (fun _ => True) arr.size w := fun l J Jx W hW hJ _ hY h0 =>
    keys1_addr 3 l g m (by omega) arr c J Jx hY W hJ ((hW.cell (p := ⟨g, 0, none⟩) hglt).trans (by rw [cell_of_row w g 0 _ _ _ hg]; rfl)) ((hW.block m hmlt).trans hm) (by rw [hbs]; exact hent.borns)
      (fun x hx => by obtain ⟨y, hy, he⟩ := all2_mem hall hx; rw [he.born]; exact hent.lt y hy)
      (fun x hx => by obtain ⟨y, hy, he⟩ := all2_mem hall hx; exact ⟨⟨y.2.1, he.len⟩, he.key⟩) h0
  refine (callsIn_wide.1 (appendSeq_addr 4 (by omega) 122 #[.pointer (some ⟨g, 0, none⟩)] enters_addr _ _ arr.size (by rw [hsz]; exact hl) w hseq)).mono ?_
  rintro e w' ⟨v, ks, rfl, hp, hrow, hnil, hB⟩
  have hp' : (ks.map (·.1)).Perm (es.map (·.2.1)) := by
    rw [hks] at hp
    have := hp.map unV
    rw [List.map_map, List.map_map] at this
    have e1 : ks.map (unV ∘ kv) = ks.map (·.1) := List.map_congr_left fun k _ => unV_arr k.1
    have e2 : es.map (unV ∘ fun x => arrV x.2.1) = es.map (·.2.1) := List.map_congr_left fun k _ => unV_arr k.2.1
    rwa [e1, e2] at this
  have hnew : ∀ b, v.ownBlock = some b → w.heap.size ≤ b := fun b hb => (hrow.lt b hb).1
  refine ⟨v, .val (.v v), _, rfl, ⟨v, ks, rfl, hp', rfl⟩, ⟨.of hB, .cons (fun p hp b hb e => ?_) hown.apart, fun o ho => ?_⟩, readV_v.2 ⟨owns_one hrow, rfl⟩⟩
  · have h1 := hnew b hb
    have h2 := (Obj.blk_lt (hown.at_ p hp) e).2
    omega
  · rcases List.mem_cons.1 ho with rfl | ho
    · refine ⟨ks.map kc, ⟨?_, fun b hb => .inr (hnew b hb)⟩, rows_keys ks⟩
      rw [List.length_map]
      exact owns_low hrow
    · refine ((hown.at_ o ho).move (fun b hb => ⟨.inl hb, Nat.lt_of_lt_of_le (hok b hb) hB.size, fun o' ho' e => ?_⟩) (fun p hp => hB.cell (hok _ hp)) fun b hb => hB.block b (Obj.blk_lt (hown.at_ o ho) hb).2).rebase fun b hb => .inl ⟨o, ho, hb⟩
      rcases List.mem_cons.1 ho' with rfl | ho'
      · have := hnew b e
        have := hok b hb
        omega
      · exact hown.off b ⟨o', ho', e⟩ hb
set_option maxRecDepth 20000 in
set_option maxHeartbeats 2000000 in
theorem keys_addr (m : Nat) : FnM 75 [.v (.map (some m))] [] (fun r os' => ∃ g, r = .val (.v (.func (.func 122) #[] #[.pointer (some ⟨g, 0, none⟩)])) ∧ os' = [.var g 106 (.v (.map (some m)))]) := by
  refine FnM.walk 4 Tryz.func75 rfl Tryz.ntmps75 (by simp) fun X => ?_
  repeat
    (first
     | (apply P_assign; (iterate 3 exact rfl)) | (apply P_mkfunc; (iterate 3 exact rfl)) | (apply P_box; exact rfl; exact rfl; exact rfl; intro _) | apply EL.nil
     | ((with_reducible apply EK.then_normal); apply EK.code)
     | (with_reducible first | apply EC.seq | apply EC.region | apply EC.skip | apply EC.label | apply EC.block | apply EC.exit | apply EC.ret | apply EK.in_normal | apply EK.in_same | apply EK.in_ret | apply EK.then_ret | apply EK.then_exit))
  rename_i g
  exact EK.retM1s [.var g 106 (.v (.map (some m)))] rfl rfl (by (repeat first | exact List.nil_sublist _ | apply List.Sublist.cons_cons | apply List.Sublist.cons)) ⟨g, rfl, rfl⟩
set_option maxRecDepth 20000 in
set_option maxHeartbeats 2000000 in
theorem collect_addr (g m c : Nat) (es : List Ent) (hl : es.length * 20 ≤ 140737488355328) : FnM 121 [.v (.func (.func 122) #[] #[.pointer (some ⟨g, 0, none⟩)])] [.var g 106 (.v (.map (some m))), .map m 20 c es] (fun r os' => ∃ v, ∃ ks : List (Ky 20), r = .val (.v v) ∧ (ks.map (·.1)).Perm (es.map (·.2.1)) ∧ os' = [.row v 32 20 (ks.map dK), .var g 106 (.v (.map (some m))), .map m 20 c es]) := by
  have h1 := append_addr g m c es hl
  refine FnM.walk 5 Tryz.func121 rfl Tryz.ntmps121 (by simp) fun X => ?_
  repeat
    (first
     | (apply P_callM (os := [.var g 106 (.v (.map (some m))), .map m 20 c es]) h1; (iterate 2 exact rfl); exact RefineL.refl _ _; (focus (intro _ _; simp [go_sem]; done)); (iterate 2 exact rfl); rintro _ _ ⟨v, ks, rfl, hp, rfl⟩)
     | (apply P_move; (iterate 3 exact rfl)) | (apply P_assign; (iterate 3 exact rfl)) | apply EL.nil | ((with_reducible apply EK.then_normal); apply EK.code)
     | (with_reducible first | apply EC.seq | apply EC.region | apply EC.skip | apply EC.label | apply EC.block | apply EC.exit | apply EC.ret | apply EK.in_normal | apply EK.in_same | apply EK.in_ret | apply EK.then_ret | apply EK.then_exit))
  exact EK.retM1s [.row v 32 20 (ks.map dK), .var g 106 (.v (.map (some m))), .map m 20 c es] rfl rfl (by (repeat first | exact List.nil_sublist _ | apply List.Sublist.cons_cons | apply List.Sublist.cons)) ⟨v, ks, rfl, hp, rfl⟩
set_option maxRecDepth 20000 in
set_option maxHeartbeats 2000000 in
theorem sorted_addr (cf : FuncId) (hc : ∀ l m : List UInt8, l.length = 20 → m.length = 20 → ∀ w, Calls Tryz.prog cf #[arrV l, arrV m] w fun e w' => e = .returned (.int .i64 (cmpB l m)) ∧ ∃ q os', w' = grow (w.drewN q) os') (ec : ∀ args w, (callFunc cf args).run Tryz.prog w = .ok (.enter cf args) w)
    (g m c : Nat) (es : List Ent) (hl : es.length * 20 ≤ 140737488355328) : FnM 74 [.v (.func (.func 122) #[] #[.pointer (some ⟨g, 0, none⟩)]), .v (.func (.func cf) #[] #[])] [.var g 106 (.v (.map (some m))), .map m 20 c es] (fun r os' => ∃ v, r = .val (.v v) ∧ os' = [.row v 32 20 ((sortL (es.map (·.2.1))).map (D.arr 20)), .var g 106 (.v (.map (some m))), .map m 20 c es]) := by
  have h1 := collect_addr g m c es hl
  refine FnM.walk 12 Tryz.func74 rfl Tryz.ntmps74 (by simp) fun X => ?_
  repeat
    (first
     | (apply P_callM (os := [.var g 106 (.v (.map (some m))), .map m 20 c es]) h1; (iterate 2 exact rfl); exact RefineL.refl _ _; (focus (intro _ _; simp [go_sem]; done)); (iterate 2 exact rfl); rintro _ _ ⟨v, ks, rfl, hp, rfl⟩)
     | (apply P_move; (iterate 3 exact rfl)) | (apply P_assign; (iterate 3 exact rfl)) | apply EL.nil | ((with_reducible apply EK.then_normal); apply EK.code)
     | (with_reducible first | apply EC.seq | apply EC.region | apply EC.skip | apply EC.label | apply EC.block | apply EC.exit | apply EC.ret | apply EK.in_normal | apply EK.in_same | apply EK.in_ret | apply EK.then_ret | apply EK.then_exit))
  have hkl : ks.length = es.length := by simpa using hp.length_eq
  have h2 := sort_addr cf hc ec v ks (by omega)
  repeat
    (first
     | (apply P_callM (os := [.row v 32 20 (ks.map dK)]) h2; (iterate 2 exact rfl); exact RefineL.refl _ _; (focus (intro _ _; simp [go_sem]; done)); (iterate 2 exact rfl); rintro _ _ ⟨rfl, rfl⟩)
     | (apply P_move; (iterate 3 exact rfl)) | (apply P_assign; (iterate 3 exact rfl)) | apply EL.nil | ((with_reducible apply EK.then_normal); apply EK.code)
     | (with_reducible first | apply EC.seq | apply EC.region | apply EC.skip | apply EC.label | apply EC.block | apply EC.exit | apply EC.ret | apply EK.in_normal | apply EK.in_same | apply EK.in_ret | apply EK.then_ret | apply EK.then_exit))
  have hs : (ks.mergeSort fun x y => decide (x.1 ≤ y.1)).map (·.1) = sortL (es.map (·.2.1)) := by
    refine sortL_eq (((List.mergeSort_perm ks _).map (·.1)).trans hp) ?_
    have h := List.pairwise_mergeSort (le := fun x y : Ky 20 => decide (x.1 ≤ y.1)) (fun a b c h1 h2 => by simp only [decide_eq_true_eq] at h1 h2 ⊢; exact List.le_trans h1 h2) (fun a b => by simp only [Bool.or_eq_true, decide_eq_true_eq]; exact List.le_total a.1 b.1) ks
    rw [List.pairwise_map]
    exact h.imp fun h => by simpa using h
  exact EK.retM1s [.row v 32 20 ((ks.mergeSort fun x y => decide (x.1 ≤ y.1)).map dK), .var g 106 (.v (.map (some m))), .map m 20 c es] rfl rfl (by (repeat first | exact List.nil_sublist _ | apply List.Sublist.cons_cons | apply List.Sublist.cons)) ⟨v, rfl, by rw [val_dK, hs]⟩
theorem enters_word : ∀ args w, (callFunc 125 args).run Tryz.prog w = .ok (.enter 125 args) w := enters_of Tryz.func125 (by kernel_rfl) rfl
theorem append_word (g m c : Nat) (es : List Ent) (hl : es.length * 32 ≤ 140737488355328) : FnM 154 [.v (.slice none 0 0), .v (.func (.func 125) #[] #[.pointer (some ⟨g, 0, none⟩)])] [.var g 113 (.v (.map (some m))), .map m 32 c es] (fun r os' => ∃ v, ∃ ks : List (Ky 32), r = .val (.v v) ∧ (ks.map (·.1)).Perm (es.map (·.2.1)) ∧ os' = [.row v 34 32 (ks.map dK), .var g 113 (.v (.map (some m))), .map m 32 c es]) := by
  constructor
  intro ok w xs hok hown hr
  obtain ⟨x1, _, rfl, hx1, x2, _, rfl, hx2, rfl⟩ := hr
  obtain rfl := (readV_v.1 hx1).2
  obtain rfl := (readV_v.1 hx2).2
  obtain ⟨_, cs, hg, hrd⟩ := hown.at_ _ (List.mem_cons_self ..)
  obtain ⟨_, hent, arr, hm, hall⟩ := hown.at_ _ (List.mem_cons_of_mem _ (List.mem_cons_self ..))
  rw [Reads] at hrd
  rw [hrd.2] at hg
  have hglt := (Array.getElem?_eq_some_iff.1 hg).1
  have hmlt := (Array.getElem?_eq_some_iff.1 hm).1
  have hbs : arr.toList.map (·.born) = es.map (·.1) := all2_map (fun a b h => h.born) hall
  have hks : arr.toList.map (·.key) = es.map fun x => arrV x.2.1 := all2_map (fun a b h => h.key) hall
  have hsz : arr.size = es.length := by rw [← Array.length_toList, all2_length hall]
  have hseq : SeqStopsK Fence.wide 3 Tryz.prog 125 #[.pointer (some ⟨g, 0, none⟩)] (fun x : Ky 32 => #[kv x]) KeepsWalks (fun ss => (ss.map kv).Perm (arr.toList.map (·.key))) (fun _ => True) arr.size w := fun l J Jx W hW hJ _ hY h0 =>
    keys1_word 3 l g m (by omega) arr c J Jx hY W hJ ((hW.cell (p := ⟨g, 0, none⟩) hglt).trans (by rw [cell_of_row w g 0 _ _ _ hg]; rfl)) ((hW.block m hmlt).trans hm) (by rw [hbs]; exact hent.borns)
      (fun x hx => by obtain ⟨y, hy, he⟩ := all2_mem hall hx; rw [he.born]; exact hent.lt y hy)
      (fun x hx => by obtain ⟨y, hy, he⟩ := all2_mem hall hx; exact ⟨⟨y.2.1, he.len⟩, he.key⟩) h0
  refine (callsIn_wide.1 (appendSeq_word 4 (by omega) 125 #[.pointer (some ⟨g, 0, none⟩)] enters_word _ _ arr.size (by rw [hsz]; exact hl) w hseq)).mono ?_
  rintro e w' ⟨v, ks, rfl, hp, hrow, hnil, hB⟩
  have hp' : (ks.map (·.1)).Perm (es.map (·.2.1)) := by
    rw [hks] at hp
    have := hp.map unV
    rw [List.map_map, List.map_map] at this
    have e1 : ks.map (unV ∘ kv) = ks.map (·.1) := List.map_congr_left fun k _ => unV_arr k.1
    have e2 : es.map (unV ∘ fun x => arrV x.2.1) = es.map (·.2.1) := List.map_congr_left fun k _ => unV_arr k.2.1
    rwa [e1, e2] at this
  have hnew : ∀ b, v.ownBlock = some b → w.heap.size ≤ b := fun b hb => (hrow.lt b hb).1
  refine ⟨v, .val (.v v), _, rfl, ⟨v, ks, rfl, hp', rfl⟩, ⟨.of hB, .cons (fun p hp b hb e => ?_) hown.apart, fun o ho => ?_⟩, readV_v.2 ⟨owns_one hrow, rfl⟩⟩
  · have h1 := hnew b hb
    have h2 := (Obj.blk_lt (hown.at_ p hp) e).2
    omega
  · rcases List.mem_cons.1 ho with rfl | ho
    · refine ⟨ks.map kc, ⟨?_, fun b hb => .inr (hnew b hb)⟩, rows_keys ks⟩
      rw [List.length_map]
      exact owns_low hrow
    · refine ((hown.at_ o ho).move (fun b hb => ⟨.inl hb, Nat.lt_of_lt_of_le (hok b hb) hB.size, fun o' ho' e => ?_⟩) (fun p hp => hB.cell (hok _ hp)) fun b hb => hB.block b (Obj.blk_lt (hown.at_ o ho) hb).2).rebase fun b hb => .inl ⟨o, ho, hb⟩
      rcases List.mem_cons.1 ho' with rfl | ho'
      · have := hnew b e
        have := hok b hb
        omega
      · exact hown.off b ⟨o', ho', e⟩ hb
set_option maxRecDepth 20000 in
set_option maxHeartbeats 2000000 in
theorem keys_word (m : Nat) : FnM 80 [.v (.map (some m))] [] (fun r os' => ∃ g, r = .val (.v (.func (.func 125) #[] #[.pointer (some ⟨g, 0, none⟩)])) ∧ os' = [.var g 113 (.v (.map (some m)))]) := by
  refine FnM.walk 4 Tryz.func80 rfl Tryz.ntmps80 (by simp) fun X => ?_
  repeat
    (first
     | (apply P_assign; (iterate 3 exact rfl)) | (apply P_mkfunc; (iterate 3 exact rfl)) | (apply P_box; exact rfl; exact rfl; exact rfl; intro _) | apply EL.nil
     | ((with_reducible apply EK.then_normal); apply EK.code)
     | (with_reducible first | apply EC.seq | apply EC.region | apply EC.skip | apply EC.label | apply EC.block | apply EC.exit | apply EC.ret | apply EK.in_normal | apply EK.in_same | apply EK.in_ret | apply EK.then_ret | apply EK.then_exit))
  rename_i g
  exact EK.retM1s [.var g 113 (.v (.map (some m)))] rfl rfl (by (repeat first | exact List.nil_sublist _ | apply List.Sublist.cons_cons | apply List.Sublist.cons)) ⟨g, rfl, rfl⟩
set_option maxRecDepth 20000 in
set_option maxHeartbeats 2000000 in
theorem collect_word (g m c : Nat) (es : List Ent) (hl : es.length * 32 ≤ 140737488355328) : FnM 124 [.v (.func (.func 125) #[] #[.pointer (some ⟨g, 0, none⟩)])] [.var g 113 (.v (.map (some m))), .map m 32 c es] (fun r os' => ∃ v, ∃ ks : List (Ky 32), r = .val (.v v) ∧ (ks.map (·.1)).Perm (es.map (·.2.1)) ∧ os' = [.row v 34 32 (ks.map dK), .var g 113 (.v (.map (some m))), .map m 32 c es]) := by
  have h1 := append_word g m c es hl
  refine FnM.walk 5 Tryz.func124 rfl Tryz.ntmps124 (by simp) fun X => ?_
  repeat
    (first
     | (apply P_callM (os := [.var g 113 (.v (.map (some m))), .map m 32 c es]) h1; (iterate 2 exact rfl); exact RefineL.refl _ _; (focus (intro _ _; simp [go_sem]; done)); (iterate 2 exact rfl); rintro _ _ ⟨v, ks, rfl, hp, rfl⟩)
     | (apply P_move; (iterate 3 exact rfl)) | (apply P_assign; (iterate 3 exact rfl)) | apply EL.nil | ((with_reducible apply EK.then_normal); apply EK.code)
     | (with_reducible first | apply EC.seq | apply EC.region | apply EC.skip | apply EC.label | apply EC.block | apply EC.exit | apply EC.ret | apply EK.in_normal | apply EK.in_same | apply EK.in_ret | apply EK.then_ret | apply EK.then_exit))
  exact EK.retM1s [.row v 34 32 (ks.map dK), .var g 113 (.v (.map (some m))), .map m 32 c es] rfl rfl (by (repeat first | exact List.nil_sublist _ | apply List.Sublist.cons_cons | apply List.Sublist.cons)) ⟨v, ks, rfl, hp, rfl⟩
set_option maxRecDepth 20000 in
set_option maxHeartbeats 2000000 in
theorem sorted_word (cf : FuncId) (hc : ∀ l m : List UInt8, l.length = 32 → m.length = 32 → ∀ w, Calls Tryz.prog cf #[arrV l, arrV m] w fun e w' => e = .returned (.int .i64 (cmpB l m)) ∧ ∃ q os', w' = grow (w.drewN q) os') (ec : ∀ args w, (callFunc cf args).run Tryz.prog w = .ok (.enter cf args) w)
    (g m c : Nat) (es : List Ent) (hl : es.length * 32 ≤ 140737488355328) : FnM 79 [.v (.func (.func 125) #[] #[.pointer (some ⟨g, 0, none⟩)]), .v (.func (.func cf) #[] #[])] [.var g 113 (.v (.map (some m))), .map m 32 c es] (fun r os' => ∃ v, r = .val (.v v) ∧ os' = [.row v 34 32 ((sortL (es.map (·.2.1))).map (D.arr 32)), .var g 113 (.v (.map (some m))), .map m 32 c es]) := by
  have h1 := collect_word g m c es hl
  refine FnM.walk 12 Tryz.func79 rfl Tryz.ntmps79 (by simp) fun X => ?_
  repeat
    (first
     | (apply P_callM (os := [.var g 113 (.v (.map (some m))), .map m 32 c es]) h1; (iterate 2 exact rfl); exact RefineL.refl _ _; (focus (intro _ _; simp [go_sem]; done)); (iterate 2 exact rfl); rintro _ _ ⟨v, ks, rfl, hp, rfl⟩)
     | (apply P_move; (iterate 3 exact rfl)) | (apply P_assign; (iterate 3 exact rfl)) | apply EL.nil | ((with_reducible apply EK.then_normal); apply EK.code)
     | (with_reducible first | apply EC.seq | apply EC.region | apply EC.skip | apply EC.label | apply EC.block | apply EC.exit | apply EC.ret | apply EK.in_normal | apply EK.in_same | apply EK.in_ret | apply EK.then_ret | apply EK.then_exit))
  have hkl : ks.length = es.length := by simpa using hp.length_eq
  have h2 := sort_word cf hc ec v ks (by omega)
  repeat
    (first
     | (apply P_callM (os := [.row v 34 32 (ks.map dK)]) h2; (iterate 2 exact rfl); exact RefineL.refl _ _; (focus (intro _ _; simp [go_sem]; done)); (iterate 2 exact rfl); rintro _ _ ⟨rfl, rfl⟩)
     | (apply P_move; (iterate 3 exact rfl)) | (apply P_assign; (iterate 3 exact rfl)) | apply EL.nil | ((with_reducible apply EK.then_normal); apply EK.code)
     | (with_reducible first | apply EC.seq | apply EC.region | apply EC.skip | apply EC.label | apply EC.block | apply EC.exit | apply EC.ret | apply EK.in_normal | apply EK.in_same | apply EK.in_ret | apply EK.then_ret | apply EK.then_exit))
  have hs : (ks.mergeSort fun x y => decide (x.1 ≤ y.1)).map (·.1) = sortL (es.map (·.2.1)) := by
    refine sortL_eq (((List.mergeSort_perm ks _).map (·.1)).trans hp) ?_
    have h := List.pairwise_mergeSort (le := fun x y : Ky 32 => decide (x.1 ≤ y.1)) (fun a b c h1 h2 => by simp only [decide_eq_true_eq] at h1 h2 ⊢; exact List.le_trans h1 h2) (fun a b => by simp only [Bool.or_eq_true, decide_eq_true_eq]; exact List.le_total a.1 b.1) ks
    rw [List.pairwise_map]
    exact h.imp fun h => by simpa using h
  exact EK.retM1s [.row v 34 32 ((ks.mergeSort fun x y => decide (x.1 ≤ y.1)).map dK), .var g 113 (.v (.map (some m))), .map m 32 c es] rfl rfl (by (repeat first | exact List.nil_sublist _ | apply List.Sublist.cons_cons | apply List.Sublist.cons)) ⟨v, rfl, by rw [val_dK, hs]⟩
end E
end Go.Proofs.YtdhicdnmgmkpkaaGreat
/-
  Accounts as a list: the one list that tells what a state tells.
  Conditions: none.
-/
namespace Go.Proofs.YtdhicdnmgmkpkaaGreat
set_option linter.unusedVariables false
open Go.RowKit Mono Rlp Wd
namespace E
theorem Le.pickT {N : Nat} {X : Cx N} {rs : List (Tmp × R)} {os : List Obj} {fs : List (Value × D)} (ix : List Nat) (l l' rest : List Obj) (hos : os = l ++ rest) (hn : l.length = ix.length) (h : ix.Perm (List.range ix.length)) (hp : (ix.filterMap fun i => l[i]?) = l') : Le X ⟨rs, os, fs⟩ ⟨rs, l' ++ rest, fs⟩ := by
  subst hos hp
  exact Le.perm (List.Perm.append_right _ (pick_perm ix hn h))
structure AcL where
  a : List UInt8
  n : Int
  w : List UInt8
  cd : List UInt8
  sl : List (List UInt8 × List UInt8)
def dSlL (x : List UInt8 × List UInt8) : D := .tup [.arr 32 x.1, .arr 32 x.2]
def dAcL (x : AcL) : D := .tup [.arr 20 x.a, .v (.int .i64 x.n), .arr 32 x.w, .bs x.cd, .sl 64 (x.sl.map dSlL)]
structure AcL.Is (x : AcL) (y : Ac) : Prop where
  n : x.n = y.n
  w : x.w = y.w
  cd : x.cd = y.cd
  ord : x.sl.Pairwise fun p q => p.1 < q.1
  val : ∀ p ∈ x.sl, p.2 = y.sl p.1 ∧ p.2 ≠ zero32
  all : ∀ k, y.sl k ≠ zero32 → ∃ p ∈ x.sl, p.1 = k
structure CU (A : As) (K : List (List UInt8)) (L : List AcL) : Prop where
  ord : L.Pairwise fun x y => x.a < y.a
  mem : ∀ x ∈ L, x.a ∈ K ∧ x.Is (A x.a) ∧ A x.a ≠ Ac.zero
  all : ∀ a ∈ K, A a ≠ Ac.zero → ∃ x ∈ L, x.a = a
structure Canon (A : As) (L : List AcL) : Prop where
  ord : L.Pairwise fun x y => x.a < y.a
  mem : ∀ x ∈ L, x.Is (A x.a) ∧ A x.a ≠ Ac.zero
  all : ∀ a, A a ≠ Ac.zero → ∃ x ∈ L, x.a = a
theorem rising_eq {α : Type} {key : α → List UInt8} {l m : List α} (hl : l.Pairwise fun x y => key x < key y) (hm : m.Pairwise fun x y => key x < key y) (h1 : ∀ x ∈ l, x ∈ m) (h2 : ∀ x ∈ m, x ∈ l) : l = m := by
  have nod : ∀ l : List α, l.Pairwise (fun x y => key x < key y) → l.Nodup := fun l h => h.imp fun {x y} h e => by subst e; exact List.lt_irrefl _ h
  have hp : l.Perm m := (List.perm_ext_iff_of_nodup (nod l hl) (nod m hm)).2 fun x => ⟨h1 x, h2 x⟩
  exact List.Perm.eq_of_pairwise (fun a b _ _ h h' => absurd (List.lt_trans h h') (List.lt_irrefl _)) hl hm hp
theorem AcL.Is.eq {x y : AcL} {z : Ac} (h : x.Is z) (k : y.Is z) (e : x.a = y.a) : x = y := by
  have hs : x.sl = y.sl := rising_eq (key := fun p : List UInt8 × List UInt8 => p.1) h.ord k.ord (fun p hp => by
      obtain ⟨h1, h2⟩ := h.val p hp
      obtain ⟨q, hq, hk⟩ := k.all p.1 (h1 ▸ h2)
      have : p = q := Prod.ext hk.symm (by rw [h1, (k.val q hq).1, hk])
      rwa [this])
    (fun p hp => by
      obtain ⟨h1, h2⟩ := k.val p hp
      obtain ⟨q, hq, hk⟩ := h.all p.1 (h1 ▸ h2)
      have : p = q := Prod.ext hk.symm (by rw [h1, (h.val q hq).1, hk])
      rwa [this])
  cases x
  cases y
  simp only [AcL.mk.injEq]
  exact ⟨e, h.n.trans k.n.symm, h.w.trans k.w.symm, h.cd.trans k.cd.symm, hs⟩
theorem Canon.eq {A : As} {L M : List AcL} (h : Canon A L) (k : Canon A M) : L = M := by
  have one : ∀ {L M : List AcL}, Canon A L → Canon A M → ∀ x ∈ L, x ∈ M := fun {L M} h k x hx => by
    obtain ⟨h1, h2⟩ := h.mem x hx
    obtain ⟨y, hy, e⟩ := k.all x.a h2
    have := (k.mem y hy).1
    rw [e] at this
    rw [h1.eq this e.symm]
    exact hy
  exact rising_eq (key := AcL.a) h.ord k.ord (one h k) (one k h)
theorem CU.canon {A : As} {K : List (List UInt8)} {L : List AcL} (h : CU A K L) (hK : ∀ a, A a ≠ Ac.zero → a ∈ K) : Canon A L := ⟨h.ord, fun x hx => (h.mem x hx).2, fun a ha => h.all a (hK a ha) ha⟩
theorem CU.nil {A : As} : CU A [] [] := ⟨.nil, fun x hx => by simp at hx, fun a ha => by simp at ha⟩
theorem CU.skip {A : As} {K : List (List UInt8)} {L : List AcL} (h : CU A K L) {a : List UInt8} (ha : A a = Ac.zero) : CU A (K ++ [a]) L := ⟨h.ord, fun x hx => ⟨List.mem_append_left _ (h.mem x hx).1, (h.mem x hx).2⟩, fun b hb hne => by
  rcases List.mem_append.1 hb with hb | hb
  · exact h.all b hb hne
  · obtain rfl : b = a := by simpa using hb
    exact absurd ha hne⟩
theorem CU.take {A : As} {K : List (List UInt8)} {L : List AcL} (h : CU A K L) {x : AcL} (hx : x.Is (A x.a)) (hne : A x.a ≠ Ac.zero) (hlt : ∀ b ∈ K, b < x.a) : CU A (K ++ [x.a]) (L ++ [x]) := ⟨List.pairwise_append.2 ⟨h.ord, List.pairwise_singleton _ _, fun y hy z hz => by
    obtain rfl : z = x := by simpa using hz
    exact hlt _ (h.mem y hy).1⟩, fun y hy => by
    rcases List.mem_append.1 hy with hy | hy
    · exact ⟨List.mem_append_left _ (h.mem y hy).1, (h.mem y hy).2⟩
    · obtain rfl : y = x := by simpa using hy
      exact ⟨by simp, hx, hne⟩, fun b hb hb' => by
    rcases List.mem_append.1 hb with hb | hb
    · obtain ⟨y, hy, e⟩ := h.all b hb hb'
      exact ⟨y, List.mem_append_left _ hy, e⟩
    · obtain rfl : b = x.a := by simpa using hb
      exact ⟨x, by simp, rfl⟩⟩
theorem getE_mem : ∀ (es : List Ent) (k : List UInt8) (d : D), getE es k = some d → ∃ e ∈ es, e.2.1 = k ∧ e.2.2 = d
  | [], k, d, h => by simp [getE] at h
  | x :: es, k, d, h => by
    rw [getE] at h
    split at h
    · rename_i he
      cases h
      exact ⟨x, List.mem_cons_self .., by simpa using he, rfl⟩
    · obtain ⟨e, he, h1⟩ := getE_mem es k d h
      exact ⟨e, List.mem_cons_of_mem _ he, h1⟩
theorem getE_some {es : List Ent} {k : List UInt8} (h : k ∈ es.map (·.2.1)) : ∃ d, getE es k = some d := by
  cases hg : getE es k with
  | none => exact absurd h ((getE_none es k).1 hg)
  | some d => exact ⟨d, rfl⟩
theorem sortL_lt {l : List (List UInt8)} (h : l.Nodup) : (sortL l).Pairwise (· < ·) := by
  have hn : (sortL l).Nodup := (sortL_perm l).nodup_iff.2 h
  have := (sortL_sorted l).and hn
  refine this.imp fun {a b} ⟨h1, h2⟩ => ?_
  rcases List.le_total b a with h3 | h3
  · exact absurd (List.le_antisymm h1 h3) h2
  · exact Classical.byContradiction fun h4 => h2 (List.le_antisymm h1 (List.not_lt.1 h4))
def slots (x : Ac) (ss : List Ent) : List (List UInt8 × List UInt8) := (sortL (ss.map (·.2.1))).map fun k => (k, x.sl k)
theorem PA.Is.list {p : PA} {x : Ac} {N : Nat} (h : p.Is x N) (a : List UInt8) : (⟨a, p.n, p.w, p.cd, slots x p.ss⟩ : AcL).Is x := by
  refine ⟨h.n, h.w, h.cd, ?_, fun q hq => ?_, fun k hk => ?_⟩
  · show (slots x p.ss).Pairwise _
    unfold slots
    rw [List.pairwise_map]
    exact sortL_lt h.nod
  · obtain ⟨k, hk, rfl⟩ := List.mem_map.1 hq
    refine ⟨rfl, ?_⟩
    obtain ⟨d, hd⟩ := getE_some ((sortL_perm _).mem_iff.1 hk)
    obtain ⟨e, he, h1, h2⟩ := getE_mem _ _ _ hd
    obtain ⟨v, hv, hne⟩ := h.ent e he
    have := h.sl k
    unfold slE at this
    rw [hd, ← h2, hv] at this
    have : v = x.sl k := by simpa using this
    dsimp only
    rw [← this]
    exact hne
  · refine ⟨(k, x.sl k), List.mem_map.2 ⟨k, ?_, rfl⟩, rfl⟩
    refine (sortL_perm _).mem_iff.2 ?_
    refine Classical.byContradiction fun hn => hk ?_
    have := h.sl k
    unfold slE at this
    rw [(getE_none _ _).2 hn] at this
    simpa using this.symm
end E
end Go.Proofs.YtdhicdnmgmkpkaaGreat
/-
  The program's state: its accounts, as a list.
  Conditions: none.
-/
namespace Go.Proofs.YtdhicdnmgmkpkaaGreat
set_option linter.unusedVariables false
open Go.RowKit Mono Rlp Wd Go.Sort
namespace E
theorem enters_c1 : ∀ args w, (callFunc 76 args).run Tryz.prog w = .ok (.enter 76 args) w := enters_of Tryz.func76 (by kernel_rfl) rfl
theorem enters_tc : ∀ args w, (callFunc 81 args).run Tryz.prog w = .ok (.enter 81 args) w := enters_of Tryz.func81 (by kernel_rfl) rfl
theorem perm_front {l rest p rest2 : List Obj} (h : rest.Perm (p ++ rest2)) : (l ++ rest).Perm (p ++ (l ++ rest2)) := by
  refine (List.Perm.append_left l h).trans ?_
  rw [← List.append_assoc, ← List.append_assoc]
  exact List.Perm.append_right _ List.perm_append_comm
set_option maxRecDepth 20000 in
set_option maxHeartbeats 16000000 in
theorem accounts0 {g m c M : Nat} {es : List Ent} {u k : Value} {n : Int} {us : List D} {ps : List PA} {A : As} (hi : PInv es ps A M) (hM : M ≤ 1000000) : FnM 21 [.v (ptr g)] (stO g m u k n :: smO m c es :: unO u us :: mkO k [] :: ps.flatMap PA.os) (fun r os' => (∃ L, Canon A L ∧ L.length ≤ M ∧ (∀ x ∈ L, x.sl.length ≤ M) ∧ r = .val (.sl 55 (L.map dAcL))) ∧ os' = stO g m u k n :: smO m c es :: unO u us :: mkO k [] :: ps.flatMap PA.os) := by
  have hlen := hi.len
  have h1 := keys_addr m
  have h2 := fun gk => sorted_addr 76 cmp_addr enters_c1 gk m c es (by omega)
  have hKl : (sortL (es.map (·.2.1))).length = es.length := by rw [(sortL_perm _).length_eq, List.length_map]
  have hKm : ∀ a, a ∈ sortL (es.map (·.2.1)) ↔ a ∈ es.map (·.2.1) := fun a => (sortL_perm _).mem_iff
  have hKo := sortL_lt hi.nod
  have hKc : ∀ a, A a ≠ Ac.zero → a ∈ sortL (es.map (·.2.1)) := fun a ha => (hKm a).2 (Classical.byContradiction fun hn => ha (hi.out a ((getE_none _ _).2 hn)))
  generalize hrest : ps.flatMap PA.os = rest
  generalize sortL (es.map (·.2.1)) = K at h2 hKl hKm hKo hKc
  have hml : (K.map (D.arr 20)).length = K.length := List.length_map _
  refine FnM.walk 75 Tryz.func21 rfl Tryz.ntmps21 (by simp) fun X => ?_
  repeat
    (first
     | (apply P_callM (os := []) h1; (iterate 2 exact rfl); exact RefineL.refl _ _; (focus (intro _ _; simp [go_sem]; done)); (iterate 2 exact rfl); rintro _ _ ⟨gk, rfl, rfl⟩)
     | (apply P_move; (iterate 3 exact rfl)) | (apply P_assign; (iterate 3 exact rfl)) | (apply P_field; (iterate 6 exact rfl))
     | (apply P_load; exact rfl; (first | exact I0 | exact I1 | exact I2 | exact I3 | exact I4 | exact I5 | exact I6); (iterate 4 exact rfl)) | (apply P_nilck; (iterate 3 exact rfl)) | apply EL.nil
     | ((with_reducible apply EK.then_normal); apply EK.code)
     | (with_reducible first | apply EC.seq | apply EC.region | apply EC.skip | apply EC.label | apply EC.block | apply EC.exit | apply EC.ret | apply EK.in_normal | apply EK.in_same | apply EK.in_ret | apply EK.then_ret | apply EK.then_exit))
  refine EL.le (Le.pickT [0, 2, 1, 3, 4] [_, _, _, _, _] [_, _, _, _, _] (rest) rfl rfl (by decide) rfl) ?_
  try simp only [List.cons_append, List.nil_append]
  repeat
    (first
     | (apply P_callM (os := [.var gk 106 (.v (.map (some m))), smO m c es]) (h2 gk); (iterate 2 exact rfl); exact RefineL.refl _ _; (focus (intro _ _; simp [go_sem]; done)); (iterate 2 exact rfl); rintro _ _ ⟨kv, rfl, rfl⟩; refine EL.le (Le.freeze (pre := []) rfl) ?_; refine EL.le (Le.refine (t := 15) (d' := .sl 20 (K.map (D.arr 20))) rfl (Rf.fact (by simp) rfl)) ?_; simp only [List.nil_append])
     | (apply P_move; (iterate 3 exact rfl)) | (apply P_lensl; (iterate 4 exact rfl)) | apply EL.nil | ((with_reducible apply EK.then_normal); apply EK.code)
     | (with_reducible first | apply EC.seq | apply EC.region | apply EC.skip | apply EC.label | apply EC.block | apply EC.exit | apply EC.ret | apply EK.in_normal | apply EK.in_same | apply EK.in_ret | apply EK.then_ret | apply EK.then_exit))
  refine EC.le (Le.pickT [2, 1, 3, 4, 0] [_, _, _, _, _] [_, _, _, _, _] (rest) rfl rfl (by decide) rfl) ?_
  try simp only [List.cons_append, List.nil_append]
  refine EC.le (Le.row 74 55) ?_
  refine EC.loop (ι := {x : Nat × List AcL × Value // x.1 ≤ K.length ∧ CU A (K.take x.1) x.2.1 ∧ x.2.1.length ≤ x.1 ∧ ∀ y ∈ x.2.1, y.sl.length ≤ M})
    (fun x => ⟨[(17, .val (.v (.int .i64 (x.1.1 : Int)))), (16, .val (.v (.int .i64 (K.map (D.arr 20)).length))), (15, .val (.sl 20 (K.map (D.arr 20)))), (3, .val (.v x.1.2.2)), (0, .val (.v (ptr g)))], .row x.1.2.2 74 55 (x.1.2.1.map dAcL) :: stO g m u k n :: smO m c es :: unO u us :: mkO k [] :: rest, []⟩)
    (fun x => K.length - x.1.1) ⟨(0, [], nilS), Nat.zero_le _, CU.nil, Nat.le_refl _, fun y hy => by simp at hy⟩ ?_ ?_
  · exact (Le.keep (by repeat first | exact trivial | refine ⟨rfl, ?_⟩) (by repeat first | exact List.Sublist.refl _ | apply List.Sublist.cons_cons | apply List.Sublist.cons) (by simp))
  rintro ⟨⟨i, L, v⟩, hiK, hCU, hLl, hsl⟩
  dsimp only at hiK hCU hLl hsl ⊢
  by_cases hlt : i < K.length
  · have hd : (K.map (D.arr 20))[i]? = some (D.arr 20 K[i]) := by rw [List.getElem?_map, List.getElem?_eq_getElem hlt]; rfl
    obtain ⟨d, hge⟩ := getE_some ((hKm K[i]).1 (List.getElem_mem hlt))
    obtain ⟨p, hp, rfl, his⟩ := hi.inn _ _ hge
    obtain ⟨ps1, ps2, rfl⟩ := List.append_of_mem hp
    have hg : (getE es K[i]).getD (.v (.pointer none)) = .v (ptr p.g) := by rw [hge]; rfl
    have hperm : rest.Perm (p.os ++ (ps1 ++ ps2).flatMap PA.os) := hrest ▸ flat_perm ps1 ps2 p
    generalize hrest2 : (ps1 ++ ps2).flatMap PA.os = rest2 at hperm
    have hsp := his.list K[i]
    have hse := his.sl
    have hempty := his.empty_iff
    have hem := empty_ p
    obtain ⟨pg, pn, pw, pc, pgs, psc, pss⟩ := p
    dsimp only at hg hsp hse
    refine EC.le (Le.perm (perm_front (l := [.row v 74 55 (L.map dAcL), stO g m u k n, smO m c es, unO u us, mkO k []]) hperm)) ?_
    simp only [PA.os, List.cons_append, List.nil_append]
    repeat
      (first
       | (apply P_loadpd; (iterate 5 exact rfl)) | (apply P_cmp (b := true); (iterate 2 exact rfl); (focus (first | (simp [cmpI]; done) | (simp [cmpI]; omega))); (iterate 2 exact rfl))
       | (apply P_index; (iterate 4 exact rfl); (focus (first | exact ⟨by decide, rfl⟩ | (refine ⟨by omega, ?_⟩; rw [Int.toNat_natCast]; assumption))); (iterate 2 exact rfl))
       | (apply P_alloc; exact rfl; exact rfl; exact rfl; intro _) | (apply P_store; exact rfl; (focus (repeat first | exact .z | apply SetAt.s | apply SetAtF.s)); (iterate 4 exact rfl)) | apply EL.nil
       | ((with_reducible apply EK.then_normal); apply EK.code) | (apply EC.cond_true; exact rfl)
       | (with_reducible first | apply EC.seq | apply EC.region | apply EC.skip | apply EC.label | apply EC.block | apply EC.exit | apply EC.ret | apply EK.in_normal | apply EK.in_same | apply EK.in_ret | apply EK.then_ret | apply EK.then_exit))
    rename_i g5
    refine EC.draw 6 (by kernel_rfl) ?_
    simp only [List.take_succ_cons, List.take_zero, List.drop_succ_cons, List.drop_zero]
    repeat
      (first
       | (apply H_lookup; exact hg; exact rfl; (first | exact I0 | exact I1 | exact I2 | exact I3 | exact I4 | exact I5); (iterate 5 exact rfl)) | (apply H_move; (iterate 3 exact rfl))
       | (apply H_field; (iterate 6 exact rfl)) | (apply H_load; exact rfl; (first | exact I0 | exact I1 | exact I2 | exact I3 | exact I4 | exact I5 | exact I6); (iterate 4 exact rfl))
       | (apply H_nilck; (iterate 3 exact rfl)) | ((with_reducible apply EH.nil); exact rfl))
    cases hpe : PA.empty ⟨pg, pn, pw, pc, pgs, psc, pss⟩ with
    | true =>
      rw [hpe] at hem
      repeat
        (first
         | (apply P_callAt hem [_] _ rfl rfl (RefineL.refl _ _) (by intro _ _; simp [go_sem]) rfl rfl; rintro _ _ ⟨rfl, rfl⟩; simp only [PA.os, List.cons_append, List.nil_append])
         | (apply P_move; (iterate 3 exact rfl)) | (apply P_assign; (iterate 3 exact rfl)) | (apply P_ar; (iterate 3 exact rfl); (focus omega); (focus omega); (iterate 2 exact rfl)) | apply EL.nil
         | ((with_reducible apply EK.then_normal); apply EK.code) | (apply EC.cond_true; exact rfl)
         | (with_reducible first | apply EC.seq | apply EC.region | apply EC.skip | apply EC.label | apply EC.block | apply EC.exit | apply EC.ret | apply EK.in_normal | apply EK.in_same | apply EK.in_ret | apply EK.then_ret | apply EK.then_exit))
      refine EK.le (Le.perm ((perm_front (l := [.row v 74 55 (L.map dAcL), stO g m u k n, smO m c es, unO u us, mkO k []]) hperm).symm.cons _)) ?_
      refine EK.again ⟨(i + 1, L, v), hlt, ?_, Nat.le_succ_of_le hLl, hsl⟩ (by dsimp only; omega) ?_
      · rw [List.take_succ_eq_append_getElem hlt]
        exact hCU.skip (hempty.1 hpe)
      · simp only [Int.natCast_add, List.cons_append, List.nil_append]
        exact (Le.keep (by repeat first | exact trivial | refine ⟨rfl, ?_⟩) (by repeat first | exact List.Sublist.refl _ | apply List.Sublist.cons_cons | apply List.Sublist.cons) (by simp))
    | false =>
      rw [hpe] at hem
      repeat
        (first
         | (apply P_callAt hem [_] _ rfl rfl (RefineL.refl _ _) (by intro _ _; simp [go_sem]) rfl rfl; rintro _ _ ⟨rfl, rfl⟩; simp only [PA.os, List.cons_append, List.nil_append])
         | (apply P_move; (iterate 3 exact rfl)) | (apply P_assign; (iterate 3 exact rfl)) | apply EL.nil | ((with_reducible apply EK.then_normal); apply EK.code) | (apply EC.cond_false; exact rfl)
         | (with_reducible first | apply EC.seq | apply EC.region | apply EC.skip | apply EC.label | apply EC.block | apply EC.exit | apply EC.ret | apply EK.in_normal | apply EK.in_same | apply EK.in_ret | apply EK.then_ret | apply EK.then_exit))
      have hcl := f_Clone pc his.cl
      refine EC.draw 16 (by kernel_rfl) ?_
      simp only [List.take_succ_cons, List.take_zero, List.drop_succ_cons, List.drop_zero]
      repeat
        (first
         | (apply H_call (hcl); exact rfl; (focus (repeat first | exact RefineL.refl _ _ | exact RL.nil | exact Rf.same | exact Rf.bs0 | exact Rf.sl0 | (apply Rf.fact; (focus (simp; done)); exact rfl) | apply Rf.tup | apply RL.cons)); (focus (intro _ _; simp [go_sem]; done)); (iterate 2 exact rfl))
         | (apply H_move; (iterate 3 exact rfl)) | (apply H_field; (iterate 6 exact rfl))
         | (apply H_load; exact rfl; (first | exact I0 | exact I1 | exact I2 | exact I3 | exact I4 | exact I5 | exact I6); (iterate 4 exact rfl)) | (apply H_build; (iterate 7 exact rfl))
         | (apply H_nilck; (iterate 3 exact rfl)) | (apply H_alloc; (iterate 3 exact rfl)) | ((with_reducible apply EH.nil1); exact rfl; intro _))
      have hpl := his.len
      dsimp only at hpl
      have h3 := keys_word pgs
      have h4 := fun gk => sorted_word 81 cmp_word enters_tc gk pgs psc pss (by omega)
      have hK2l : (sortL (pss.map (·.2.1))).length = pss.length := by rw [(sortL_perm _).length_eq, List.length_map]
      have hsx : slots (A K[i]) pss = (sortL (pss.map (·.2.1))).map fun k => (k, (A K[i]).sl k) := rfl
      generalize sortL (pss.map (·.2.1)) = K2 at h4 hK2l hsx
      have hm2 : (K2.map (D.arr 32)).length = K2.length := List.length_map _
      rename_i gy
      repeat
        (first
         | (apply P_callM (os := []) h3; (iterate 2 exact rfl); exact RefineL.refl _ _; (focus (intro _ _; simp [go_sem]; done)); (iterate 2 exact rfl); rintro _ _ ⟨gk2, rfl, rfl⟩; refine EL.le (Le.pickT [0, 4, 1, 2, 3] [_, _, _, _, _] [_, _, _, _, _] _ rfl rfl (by decide) rfl) ?_; simp only [List.cons_append, List.nil_append]; apply P_callM (os := [.var gk2 113 (.v (.map (some pgs))), .map pgs 32 psc pss]) (h4 gk2); (iterate 2 exact rfl); exact RefineL.refl _ _; (focus (intro _ _; simp [go_sem]; done)); (iterate 2 exact rfl); rintro _ _ ⟨kv2, rfl, rfl⟩; refine EL.le (Le.freeze (pre := []) rfl) ?_; refine EL.le (Le.refine (t := 49) (d' := .sl 32 (K2.map (D.arr 32))) rfl (Rf.fact (by simp) rfl)) ?_; simp only [List.nil_append])
         | (apply P_move; (iterate 3 exact rfl)) | (apply P_field; (iterate 6 exact rfl))
         | (apply P_load; exact rfl; (first | exact I0 | exact I1 | exact I2 | exact I3 | exact I4 | exact I5 | exact I6); (iterate 4 exact rfl)) | (apply P_lensl; (iterate 4 exact rfl))
         | (apply P_nilck; (iterate 3 exact rfl)) | (apply P_store; exact rfl; (focus (repeat first | exact .z | apply SetAt.s | apply SetAtF.s)); (iterate 4 exact rfl)) | apply EL.nil
         | ((with_reducible apply EK.then_normal); apply EK.code)
         | (with_reducible first | apply EC.seq | apply EC.region | apply EC.skip | apply EC.label | apply EC.block | apply EC.exit | apply EC.ret | apply EK.in_normal | apply EK.in_same | apply EK.in_ret | apply EK.then_ret | apply EK.then_exit))
      refine EC.le (Le.pickT [2, 1, 4, 0, 3] [_, _, _, _, _] [_, _, _, _, _] (_) rfl rfl (by decide) rfl) ?_
      try simp only [List.cons_append, List.nil_append]
      refine EC.le (Le.row 103 64) ?_
      refine EC.loop (ι := {x : Nat × Value // x.1 ≤ K2.length})
        (fun x => ⟨[(51, .val (.v (.int .i64 (x.1.1 : Int)))), (50, .val (.v (.int .i64 (K2.map (D.arr 32)).length))), (49, .val (.sl 32 (K2.map (D.arr 32)))), (17, .val (.v (.int .i64 (i : Int)))), (16, .val (.v (.int .i64 (K.map (D.arr 20)).length))), (15, .val (.sl 20 (K.map (D.arr 20)))), (7, .val (.v (ptr gy))), (6, .val (.v (ptr pg))), (3, .val (.v v)), (0, .val (.v (ptr g)))],
          .row x.1.2 103 64 ((K2.take x.1.1).map fun k => dSlL (k, (A K[i]).sl k)) :: .var gy 74 (.tup [.arr 20 K[i], .v (.int .i64 pn), .arr 32 pw, .bs pc, .v x.1.2]) :: .map pgs 32 psc pss :: acO pg pn pw pc (.map (some pgs)) :: .row v 74 55 (L.map dAcL) :: stO g m u k n :: smO m c es :: unO u us :: mkO k [] :: rest2, []⟩)
        (fun x => K2.length - x.1.1) ⟨(0, nilS), Nat.zero_le _⟩ ?_ ?_
      · exact (Le.keep (by repeat first | exact trivial | refine ⟨rfl, ?_⟩) (by repeat first | exact List.Sublist.refl _ | apply List.Sublist.cons_cons | apply List.Sublist.cons) (by simp))
      rintro ⟨⟨j, sv⟩, hjK⟩
      dsimp only at hjK ⊢
      by_cases hlj : j < K2.length
      · have hd2 : (K2.map (D.arr 32))[j]? = some (D.arr 32 K2[j]) := by rw [List.getElem?_map, List.getElem?_eq_getElem hlj]; rfl
        have hg2 : (getE pss K2[j]).getD (.arr 32 zero32) = .arr 32 ((A K[i]).sl K2[j]) := hse K2[j]
        repeat
          (first
           | (apply P_loadpd; (iterate 5 exact rfl)) | (apply P_cmp (b := true); (iterate 2 exact rfl); (focus (first | (simp [cmpI]; done) | (simp [cmpI]; omega))); (iterate 2 exact rfl))
           | (apply P_index; (iterate 4 exact rfl); (focus (first | exact ⟨by decide, rfl⟩ | (refine ⟨by omega, ?_⟩; rw [Int.toNat_natCast]; assumption))); (iterate 2 exact rfl))
           | (apply P_alloc; exact rfl; exact rfl; exact rfl; intro _) | (apply P_store; exact rfl; (focus (repeat first | exact .z | apply SetAt.s | apply SetAtF.s)); (iterate 4 exact rfl)) | apply EL.nil
           | ((with_reducible apply EK.then_normal); apply EK.code) | (apply EC.cond_true; exact rfl)
           | (with_reducible first | apply EC.seq | apply EC.region | apply EC.skip | apply EC.label | apply EC.block | apply EC.exit | apply EC.ret | apply EK.in_normal | apply EK.in_same | apply EK.in_ret | apply EK.then_ret | apply EK.then_exit))
        rename_i g9
        refine EC.le (Le.pickT [1, 0] [_, _] [_, _] (_) rfl rfl (by decide) rfl) ?_
        try simp only [List.cons_append, List.nil_append]
        refine EC.drawC 12 [0, 1, 2, 3, 4, 5, 6, 7, 8, 9] [10, 11] [_] _ (by kernel_rfl) (by kernel_rfl) rfl ?_
        simp only [pickL, List.filterMap_cons, List.filterMap_nil, List.getElem?_cons_zero, List.getElem?_cons_succ]
        repeat
          (first
           | (apply H_lookup; exact hg2; exact rfl; (first | exact I0 | exact I1 | exact I2 | exact I3 | exact I4 | exact I5); (iterate 5 exact rfl)) | (apply H_move; (iterate 3 exact rfl))
           | (apply H_field; (iterate 6 exact rfl)) | (apply H_load; exact rfl; (first | exact I0 | exact I1 | exact I2 | exact I3 | exact I4 | exact I5 | exact I6); (iterate 4 exact rfl))
           | (apply H_build; (iterate 7 exact rfl)) | (apply H_nilck; (iterate 3 exact rfl)))
        refine EM.nil ?_
        repeat (first | rw [List.cons_append] | rw [List.nil_append])
        refine CH.cut 1 ?_
        simp only [List.take_succ_cons, List.take_zero, List.drop_succ_cons, List.drop_zero]
        repeat
          (first
           | (apply H_lit; (iterate 9 exact rfl)))
        refine EM.nil ?_
        repeat (first | rw [List.cons_append] | rw [List.nil_append])
        have hl3 : ((K2.take j).map fun k => dSlL (k, (A K[i]).sl k)).length = j := by rw [List.length_map, List.length_take]; omega
        refine CH.mut (os := [_]) (rest := []) rfl rfl (m_append rfl rfl rfl rfl rfl ?_) ?_
        · rw [hl3]
          constructor <;> (simp; omega)
        rintro _ _ ⟨sv', rfl, rfl⟩
        try simp only [St.put]
        repeat (first | rw [List.cons_append] | rw [List.nil_append])
        refine CH.nil ?_
        try simp only [List.drop_succ_cons, List.drop_zero]
        repeat
          (first
           | (apply P_move; (iterate 3 exact rfl)) | (apply P_field; (iterate 6 exact rfl)) | (apply P_ar; (iterate 3 exact rfl); (focus omega); (focus omega); (iterate 2 exact rfl))
           | (apply P_store; exact rfl; (focus (repeat first | exact .z | apply SetAt.s | apply SetAtF.s)); (iterate 4 exact rfl)) | apply EL.nil | ((with_reducible apply EK.then_normal); apply EK.code)
           | (with_reducible first | apply EC.seq | apply EC.region | apply EC.skip | apply EC.label | apply EC.block | apply EC.exit | apply EC.ret | apply EK.in_normal | apply EK.in_same | apply EK.in_ret | apply EK.then_ret | apply EK.then_exit))
        refine EK.again ⟨(j + 1, sv'), hlj⟩ (by dsimp only; omega) ?_
        have htk : (K2.take (j + 1)).map (fun k => dSlL (k, (A K[i]).sl k)) = (K2.take j).map (fun k => dSlL (k, (A K[i]).sl k)) ++ [dSlL (K2[j], (A K[i]).sl K2[j])] := by rw [List.take_succ_eq_append_getElem hlj, List.map_append]; rfl
        dsimp only
        rw [htk]
        simp only [Int.natCast_add]
        exact (Le.keep (by repeat first | exact trivial | refine ⟨rfl, ?_⟩) (by repeat first | exact List.Sublist.refl _ | apply List.Sublist.cons_cons | apply List.Sublist.cons) (by simp))
      · have hjE : j = K2.length := by omega
        subst hjE
        refine EC.le (Le.freeze (pre := []) rfl) ?_
        simp only [List.nil_append]
        refine EC.le (Le.varR (d' := .tup [.arr 20 K[i], .v (.int .i64 pn), .arr 32 pw, .bs pc, .sl 64 ((K2.take K2.length).map fun k => dSlL (k, (A K[i]).sl k))]) (Rf.tup (RL.cons Rf.same (RL.cons Rf.same (RL.cons Rf.same (RL.cons Rf.same (RL.cons (Rf.fact (by simp) rfl) RL.nil))))))) ?_
        repeat
          (first
           | (apply P_move; (iterate 3 exact rfl)) | (apply P_assign; (iterate 3 exact rfl))
           | (apply P_load; exact rfl; (first | exact I0 | exact I1 | exact I2 | exact I3 | exact I4 | exact I5 | exact I6); (iterate 4 exact rfl))
           | (apply P_cmp (b := false); (iterate 2 exact rfl); (focus (first | (simp [cmpI]; done) | (simp [cmpI]; omega))); (iterate 2 exact rfl))
           | (apply P_ar; (iterate 3 exact rfl); (focus omega); (focus omega); (iterate 2 exact rfl)) | (apply P_lit; (iterate 9 exact rfl))
           | ((apply P_append; exact rfl; (focus (repeat first | exact .z | apply SetAt.s | apply SetAtF.s)); (iterate 5 exact rfl); (focus (constructor <;> (first | (simp; done) | (simp; omega))))); intro _)
           | apply EL.nil | ((with_reducible apply EK.then_normal); apply EK.code) | (apply EC.cond_false; exact rfl)
           | (with_reducible first | apply EC.seq | apply EC.region | apply EC.skip | apply EC.label | apply EC.block | apply EC.exit | apply EC.ret | apply EK.in_normal | apply EK.in_same | apply EK.in_ret | apply EK.then_ret | apply EK.then_exit))
        rename_i v'
        refine EK.le (Le.pickT [0, 2, 1] [_, _, _] [_, _, _] (_) rfl rfl (by decide) rfl) ?_
        try simp only [List.cons_append, List.nil_append]
        refine EK.le (Le.perm ((perm_front (l := [.row v' 74 55 (L.map dAcL ++ [.tup [.arr 20 K[i], .v (.int .i64 pn), .arr 32 pw, .bs pc, .sl 64 ((K2.take K2.length).map fun k => dSlL (k, (A K[i]).sl k))]]), stO g m u k n, smO m c es, unO u us, mkO k []]) hperm).symm.cons _)) ?_
        have hne : A K[i] ≠ Ac.zero := fun e => by
          have := hempty.2 e
          rw [hpe] at this
          cases this
        refine EK.again ⟨(i + 1, L ++ [⟨K[i], pn, pw, pc, slots (A K[i]) pss⟩], v'), hlt, ?_, ?_, ?_⟩ (by dsimp only; omega) ?_
        · rw [List.take_succ_eq_append_getElem hlt]
          refine hCU.take hsp hne fun b hb => ?_
          obtain ⟨j, hj, rfl⟩ := List.getElem_of_mem hb
          rw [List.length_take] at hj
          rw [List.getElem_take]
          exact List.pairwise_iff_getElem.1 hKo j i (by omega) hlt (by omega)
        · simp
          omega
        · intro y hy
          rcases List.mem_append.1 hy with hy | hy
          · exact hsl y hy
          · obtain rfl : y = _ := by simpa using hy
            show (slots (A K[i]) pss).length ≤ M
            rw [hsx, List.length_map, hK2l]
            exact hpl
        have hmp : (L ++ [(⟨K[i], pn, pw, pc, slots (A K[i]) pss⟩ : AcL)]).map dAcL = L.map dAcL ++ [.tup [.arr 20 K[i], .v (.int .i64 pn), .arr 32 pw, .bs pc, .sl 64 ((K2.take K2.length).map fun k => dSlL (k, (A K[i]).sl k))]] := by
          rw [List.map_append, List.take_length]
          simp only [List.map_cons, List.map_nil, dAcL]
          rw [hsx, List.map_map]
          rfl
        dsimp only
        rw [hmp]
        simp only [Int.natCast_add, List.cons_append, List.nil_append]
        exact (Le.keep (by repeat first | exact trivial | refine ⟨rfl, ?_⟩) (by repeat first | exact List.Sublist.refl _ | apply List.Sublist.cons_cons | apply List.Sublist.cons) (by simp))
  · have hiE : i = K.length := by omega
    subst hiE
    repeat
      (first
       | (apply P_move; (iterate 3 exact rfl)) | (apply P_assign; (iterate 3 exact rfl))
       | (apply P_cmp (b := false); (iterate 2 exact rfl); (focus (first | (simp [cmpI]; done) | (simp [cmpI]; omega))); (iterate 2 exact rfl)) | apply EL.nil
       | ((with_reducible apply EK.then_normal); apply EK.code) | (apply EC.cond_false; exact rfl)
       | (with_reducible first | apply EC.seq | apply EC.region | apply EC.skip | apply EC.label | apply EC.block | apply EC.exit | apply EC.ret | apply EK.in_normal | apply EK.in_same | apply EK.in_ret | apply EK.then_ret | apply EK.then_exit))
    refine EK.le (Le.freeze (pre := []) rfl) ?_
    refine EK.retM1k (stO g m u k n :: smO m c es :: unO u us :: mkO k [] :: rest) rfl rfl (RL.cons (Rf.fact (by simp) rfl) RL.nil) (by repeat first | exact List.Sublist.refl _ | apply List.Sublist.cons_cons | apply List.Sublist.cons) ⟨⟨L, ?_, by omega, hsl, rfl⟩, rfl⟩
    rw [List.take_length] at hCU
    exact hCU.canon hKc
theorem ps_accounts {g N : Nat} {A : As} {os : List Obj} (h : PSt g A N os) (hN : N ≤ 1000000) : FnM 21 [.v (ptr g)] os (fun r os' => (∃ L, Canon A L ∧ L.length ≤ N ∧ (∀ x ∈ L, x.sl.length ≤ N) ∧ r = .val (.sl 55 (L.map dAcL))) ∧ os' = os) := by
  obtain ⟨m, c, es, u, k, n, us, ps, rfl, hi, hu⟩ := h
  exact accounts0 hi hN
end E
end Go.Proofs.YtdhicdnmgmkpkaaGreat
