/-
  Merged (wip/tools/merge.py): SW5, SW6, AN4, TP6.
  Conditions: none.
-/
import Derived.Test.YtmlajcbabimkjaaGreatZO19
import Derived.Shelf.SlSortCmp.NoneTotal
import Derived.Test.YtmlajcbabimkjaaGreatZO17
import Derived.Test.YtmlajcbabimkjaaGreatZO11
import Derived.Test.YtmlajcbabimkjaaGreatZO18
/-
  slices.SortFunc at arrays of bytes, as a function that writes a row.
  Conditions: none.
-/
namespace Go.Proofs.YtmlajcbabimkjaaGreat
set_option linter.unusedVariables false
open Go.RowKit Mono Rlp Go.Sort
namespace E
def sortL (l : List (List UInt8)) : List (List UInt8) := l.mergeSort fun a b => decide (a ≤ b)
theorem sortL_perm (l : List (List UInt8)) : (sortL l).Perm l := List.mergeSort_perm _ _
theorem sortL_sorted (l : List (List UInt8)) : (sortL l).Pairwise (· ≤ ·) := by
  have h := List.pairwise_mergeSort (le := fun a b : List UInt8 => decide (a ≤ b)) (fun a b c h1 h2 => by simp only [decide_eq_true_eq] at h1 h2 ⊢; exact List.le_trans h1 h2) (fun a b => by simp only [Bool.or_eq_true, decide_eq_true_eq]; exact List.le_total a b) l
  exact h.imp fun h => by simpa using h
theorem sortL_eq {l m : List (List UInt8)} (hp : m.Perm l) (hs : m.Pairwise (· ≤ ·)) : m = sortL l :=
  List.Perm.eq_of_pairwise (fun a b _ _ h1 h2 => List.le_antisymm h1 h2) hs (sortL_sorted l) (hp.trans (sortL_perm l).symm)
theorem flat_at {n : Nat} (hn : 0 < n) [Inhabited (Ky n)] : ∀ (ks : List (Ky n)) (t : Nat), t < ks.length * n → (ks.map kc).flatten[t]? = some ((kc (ks[t / n]!))[t % n]!)
  | [], t, h => by simp at h
  | k :: ks, t, h => by
    have hk : (kc k).length = n := by unfold kc; rw [bvs_length, k.2]
    rw [List.map_cons, List.flatten_cons]
    by_cases ht : t < n
    · rw [List.getElem?_append_left (by omega), Nat.div_eq_of_lt ht, Nat.mod_eq_of_lt ht]
      simp [hk, ht]
    · rw [List.getElem?_append_right (by omega), hk, flat_at hn ks (t - n) (by simp [Nat.add_mul] at h; omega)]
      have h1 : t / n = (t - n) / n + 1 := by
        conv => lhs; rw [show t = t - n + n by omega, Nat.add_div_right _ hn]
      have h2 : t % n = (t - n) % n := by
        conv => lhs; rw [show t = t - n + n by omega, Nat.add_mod_right]
      rw [h1, h2]
      simp
theorem flatK_list {n : Nat} (hn : 0 < n) [Inhabited (Ky n)] (ks : List (Ky n)) : (flatK kc n ks.toArray).toList = (ks.map kc).flatten := by
  have hl : (ks.map kc).flatten.length = ks.length * n := by
    have : ∀ ks : List (Ky n), (ks.map kc).flatten.length = ks.length * n := fun ks => by
      induction ks with
      | nil => simp
      | cons k ks ih =>
        have hk : (kc k).length = n := by unfold kc; rw [bvs_length, k.2]
        rw [List.map_cons, List.flatten_cons, List.length_append, ih, hk, List.length_cons, Nat.add_mul, Nat.one_mul, Nat.add_comm]
    exact this ks
  refine List.ext_getElem? fun t => ?_
  by_cases ht : t < ks.length * n
  · rw [flat_at hn ks t ht, Array.getElem?_toList]
    have hs : t < (flatK kc n ks.toArray).size := by simpa using ht
    have := get_flatK kc n ks.toArray t (by simpa using ht)
    rw [getElem!_pos _ t hs] at this
    rw [Array.getElem?_eq_getElem hs, this]
    simp
  · rw [List.getElem?_eq_none (by simp; omega), List.getElem?_eq_none (by omega)]
theorem heap_row {w : World} {g n : Nat} {os : Array Go.Obj} {cur : Array Value} {e : TypeId} {fr : Nat × Nat} (F : Array Value) (hb : w.heap[g]? = some (.cells cur e fr)) :
    (grow (putRow id (Sort.ahead w n) g 0 F) os).heap[g]? = some (.cells (putCells id 0 F cur) e fr) := by
  have hg : g < w.heap.size := (Array.getElem?_eq_some_iff.1 hb).1
  rw [heap_grow_old _ _ (by simpa using hg)]
  simp [putRow, mapBlock, Sort.ahead, Array.getElem?_modify, hb, onCells]
theorem grown_row {w : World} {g n : Nat} {os : Array Go.Obj} (F : Array Value) : w.grownBy (grow (putRow id (Sort.ahead w n) g 0 F) os) (some g) := by
  refine ⟨rfl, rfl, rfl, by simp, fun k hk hne => ?_⟩
  rw [heap_grow_old _ _ (by simpa using hk)]
  have : g ≠ k := fun e => hne (by rw [e])
  simp [putRow, mapBlock, Sort.ahead, Array.getElem?_modify, this]
theorem take_row (cur F : Array Value) (h : F.size ≤ cur.size) : (putCells id 0 F cur).toList.take F.size = F.toList := by
  apply List.ext_getElem?
  intro j
  by_cases hj : j < F.size
  · rw [List.getElem?_take_of_lt hj, Array.getElem?_toList]
    simp [putCells, hj, show j < cur.size by omega]
  · rw [List.getElem?_take_eq_none (by omega), List.getElem?_eq_none (by simp; omega)]
instance inh_word : Inhabited (Ky 32) := ⟨⟨List.replicate 32 0, by simp⟩⟩
theorem sortRun_word (cf : FuncId) (hc : ∀ l m : List UInt8, l.length = 32 → m.length = 32 → ∀ w, Calls Tryz.prog cf #[arrV l, arrV m] w fun e w' => e = .returned (.int .i64 (cmpB l m)) ∧ ∃ q os', w' = grow (w.drewN q) os') (ec : ∀ args w, (callFunc cf args).run Tryz.prog w = .ok (.enter cf args) w)
    (g cap : Nat) (ks : List (Ky 32)) (w : World) (hl : ks.length < 4611686018427387904) (hH : HoldsK kc 32 w g 0 ks.toArray) (hb : g < w.heap.size) :
    Calls Tryz.prog 112 #[.slice (some ⟨g, 0, none⟩) ks.length cap, .func (.func cf) #[] #[]] w fun e w' => e = .returned (.tuple #[]) ∧ ∃ n os, w' = grow (putRow id (Sort.ahead w n) g 0 (flatK kc 32 (ks.mergeSort fun x y => decide (x.1 ≤ y.1)).toArray)) os := by
  have hT : ∀ x y : Ky 32, ltOf (fun x y : Ky 32 => cmpB x.1 y.1) x y = false → ltOf (fun x y : Ky 32 => cmpB x.1 y.1) y x = false → x = y := fun x y h1 h2 => by
    rw [show ltOf (fun x y : Ky 32 => cmpB x.1 y.1) x y = decide (x.1 < y.1) from cmpB_lt x.1 y.1] at h1
    rw [show ltOf (fun x y : Ky 32 => cmpB x.1 y.1) y x = decide (y.1 < x.1) from cmpB_lt y.1 x.1] at h2
    simp only [decide_eq_false_iff_not, List.not_lt] at h1 h2
    exact Subtype.ext (List.le_antisymm h2 h1)
  have h := AnyQ.slices_SortFunc_total sortWord 32 Tryz.isAgg29 Tryz.sizeOf29 kc (fun x => by unfold kc; rw [bvs_length, x.2]) (fun x v hv => bvs_one x.1 v hv) (fun x y : Ky 32 => cmpB x.1 y.1) (swo 32) cf #[] g 0 cap ks.toArray w ec (fun m os dk hs x y => hc x.1 y.1 x.2 y.2 _) hH hb (by simpa using hl) hT
  have hf : (fun x y : Ky 32 => !(ltOf fun x y : Ky 32 => cmpB x.1 y.1) y x) = fun x y => decide (x.1 ≤ y.1) := by
    funext x y
    rw [show ltOf (fun x y : Ky 32 => cmpB x.1 y.1) y x = decide (y.1 < x.1) from cmpB_lt y.1 x.1]
    by_cases h : y.1 < x.1
    · simp [h, List.not_le.2 h]
    · simp [h, List.not_lt.1 h]
  rw [hf] at h
  exact h.mono fun e w' ⟨he, n, os, hw⟩ => ⟨he, n, os, hw⟩
theorem sort_word (cf : FuncId) (hc : ∀ l m : List UInt8, l.length = 32 → m.length = 32 → ∀ w, Calls Tryz.prog cf #[arrV l, arrV m] w fun e w' => e = .returned (.int .i64 (cmpB l m)) ∧ ∃ q os', w' = grow (w.drewN q) os') (ec : ∀ args w, (callFunc cf args).run Tryz.prog w = .ok (.enter cf args) w)
    (v : Value) (ks : List (Ky 32)) (hl : ks.length < 4611686018427387904) :
    FnM 112 [.v v, .v (.func (.func cf) #[] #[])] [.row v 29 32 (ks.map dK)] (fun r os' => r = .tpl [] ∧ os' = [.row v 29 32 ((ks.mergeSort fun x y => decide (x.1 ≤ y.1)).map dK)]) := by
  constructor
  intro ok w xs hok hown hr
  obtain ⟨x1, _, rfl, hx1, x2, _, rfl, hx2, rfl⟩ := hr
  obtain rfl := (readV_v.1 hx1).2
  obtain rfl := (readV_v.1 hx2).2
  obtain ⟨rows, ⟨hrow, hbase⟩, hrows⟩ := hown.at_ _ (List.mem_cons_self ..)
  rw [keys_rows _ _ hrows, List.length_map] at hrow
  rcases hrow.2 with ⟨rfl, h0⟩ | ⟨g, cap, cur, rfl, _, hgb, r1, r2, r3, r4⟩
  · obtain rfl : ks = [] := List.eq_nil_of_length_eq_zero h0
    have hms : ([] : List (Ky 32)).mergeSort (fun x y => decide (x.1 ≤ y.1)) = [] := by simp
    rw [hms]
    refine (AnyF.slices_SortFunc_none sortWord none 0 (.func (.func cf) #[] #[]) w).mono ?_
    rintro e w' ⟨rfl, rfl⟩
    refine ⟨_, .tpl [], _, rfl, ⟨rfl, rfl⟩, ⟨.refl _, hown.apart, fun o ho => ?_⟩, [], rfl, rfl⟩
    obtain rfl : o = _ := by simpa using ho
    exact ⟨[], ⟨⟨by simp, .inl ⟨rfl, rfl⟩⟩, fun b hb => by cases hb⟩, rows_keys []⟩
  · have hlt := (Array.getElem?_eq_some_iff.1 hgb).1
    have hml : (ks.mergeSort fun x y => decide (x.1 ≤ y.1)).length = ks.length := List.length_mergeSort _
    have hH : HoldsK kc 32 w g 0 ks.toArray := fun j hj => by
      have hj' : j < ks.length * 32 := by simpa using hj
      have h1 : (cur.toList.take (ks.length * 32))[j]? = (ks.map kc).flatten[j]? := by rw [r4]
      rw [List.getElem?_take_of_lt hj', ← flatK_list (by decide)] at h1
      refine ⟨?_, by simp [World.frozen?, hgb]⟩
      rw [cell_of_row w g (0 + j) cur 29 (0, 0) hgb, Nat.zero_add, ← Array.getElem?_toList, h1, Array.getElem?_toList, Array.getElem?_eq_getElem hj, getElem!_pos _ j hj]
      rfl
    refine (sortRun_word cf hc ec g cap ks w hl hH hlt).mono ?_
    rintro e w' ⟨rfl, n, os, rfl⟩
    have hg := grown_row (w := w) (g := g) (n := n) (os := os) (flatK kc 32 (ks.mergeSort fun x y => decide (x.1 ≤ y.1)).toArray)
    have hh := heap_row (n := n) (os := os) (flatK kc 32 (ks.mergeSort fun x y => decide (x.1 ≤ y.1)).toArray) hgb
    have hF : (flatK kc 32 (ks.mergeSort fun x y => decide (x.1 ≤ y.1)).toArray).size = ks.length * 32 := by rw [size_flatK]; simp [hml]
    have htk := take_row cur (flatK kc 32 (ks.mergeSort fun x y => decide (x.1 ≤ y.1)).toArray) (by rw [hF, r3]; exact Nat.mul_le_mul_right _ r1)
    rw [hF, flatK_list (by decide)] at htk
    refine ⟨_, .tpl [], _, rfl, ⟨rfl, rfl⟩, ⟨⟨hg.os, hg.tape, hg.output, hg.size, fun k hk hn => hg.block k hk fun e => hn ?_⟩, .cons (fun _ h => by simp at h) .nil, fun o ho => ?_⟩, [], rfl, rfl⟩
    · cases e
      exact ⟨_, List.mem_cons_self .., rfl⟩
    · obtain rfl : o = _ := by simpa using ho
      refine ⟨_, ⟨⟨?_, .inr ⟨g, cap, _, ?_, Nat.zero_le _, hh, ?_, r2, ?_, ?_⟩⟩, fun b hb => .inl ⟨_, List.mem_cons_self .., hb⟩⟩, rows_keys _⟩
      · rw [← flatK_list (by decide), Array.length_toList, hF, List.length_map, hml]
      · rw [List.length_map, hml]
      · rw [List.length_map, hml]
        exact r1
      · simp [putCells, r3]
      · rw [List.length_map, hml]
        exact htk
end E
end Go.Proofs.YtmlajcbabimkjaaGreat
/-
  slices.SortedFunc of maps.Keys: the keys of a map, in their order.
  Conditions: none.
-/
namespace Go.Proofs.YtmlajcbabimkjaaGreat
set_option linter.unusedVariables false
open Go.RowKit Mono Rlp Go.Sort
namespace E
def unV : Value → List UInt8
  | .agg cs => cs.toList.map fun v => match v with
    | .int _ n => UInt8.ofNat n.toNat
    | _ => 0
  | _ => []
theorem unV_arr (l : List UInt8) : unV (arrV l) = l := by
  unfold arrV unV bvs
  simp only [List.map_map]
  refine (List.map_congr_left fun b _ => ?_).trans (List.map_id l)
  simp [bv]
theorem all2_map {α β γ : Type} {R : α → β → Prop} {f : α → γ} {g : β → γ} (h : ∀ a b, R a b → f a = g b) : ∀ {l : List α} {m : List β}, All2 R l m → l.map f = m.map g
  | _, _, .nil => rfl
  | _, _, .cons h1 h2 => by rw [List.map_cons, List.map_cons, h _ _ h1, all2_map h h2]
theorem all2_mem {α β : Type} {R : α → β → Prop} {l : List α} {m : List β} (h : All2 R l m) {a : α} (ha : a ∈ l) : ∃ b ∈ m, R a b := by
  induction h with
  | nil => cases ha
  | cons h1 h2 ih =>
    rcases List.mem_cons.1 ha with rfl | ha
    · exact ⟨_, List.mem_cons_self .., h1⟩
    · obtain ⟨b, hb, hr⟩ := ih ha
      exact ⟨b, List.mem_cons_of_mem _ hb, hr⟩
theorem all2_length {α β : Type} {R : α → β → Prop} : ∀ {l : List α} {m : List β}, All2 R l m → l.length = m.length
  | _, _, .nil => rfl
  | _, _, .cons _ h2 => by rw [List.length_cons, List.length_cons, all2_length h2]
theorem val_dK {n : Nat} (ks : List (Ky n)) : ks.map dK = (ks.map (·.1)).map (D.arr n) := by
  rw [List.map_map]
  rfl
theorem enters_word : ∀ args w, (callFunc 113 args).run Tryz.prog w = .ok (.enter 113 args) w := enters_of Tryz.func113 (by kernel_rfl) rfl
theorem append_word (g m c : Nat) (es : List Ent) (hl : es.length * 32 ≤ 140737488355328) : FnM 134 [.v (.slice none 0 0), .v (.func (.func 113) #[] #[.pointer (some ⟨g, 0, none⟩)])] [.var g 105 (.v (.map (some m))), .map m 32 c es] (fun r os' => ∃ v, ∃ ks : List (Ky 32), r = .val (.v v) ∧ (ks.map (·.1)).Perm (es.map (·.2.1)) ∧ os' = [.row v 29 32 (ks.map dK), .var g 105 (.v (.map (some m))), .map m 32 c es]) := by
  constructor
  intro ok w xs hok hown hr
  obtain ⟨x1, _, rfl, hx1, x2, _, rfl, hx2, rfl⟩ := hr
  obtain rfl := (readV_v.1 hx1).2
  obtain rfl := (readV_v.1 hx2).2
  obtain ⟨_, cs, hg, hrd⟩ := hown.at_ _ (List.mem_cons_self ..)
  obtain ⟨_, hent, arr, hm, hall⟩ := hown.at_ _ (List.mem_cons_of_mem _ (List.mem_cons_self ..))
  rw [Reads] at hrd
  rw [hrd.2] at hg
  have hglt := (Array.getElem?_eq_some_iff.1 hg).1
  have hmlt := (Array.getElem?_eq_some_iff.1 hm).1
  have hbs : arr.toList.map (·.born) = es.map (·.1) := all2_map (fun a b h => h.born) hall
  have hks : arr.toList.map (·.key) = es.map fun x => arrV x.2.1 := all2_map (fun a b h => h.key) hall
  have hsz : arr.size = es.length := by rw [← Array.length_toList, all2_length hall]
  have hseq : SeqStopsK Fence.wide 3 Tryz.prog 113 #[.pointer (some ⟨g, 0, none⟩)] (fun x : Ky 32 => #[kv x]) KeepsWalks (fun ss => (ss.map kv).Perm (arr.toList.map (·.key))) (fun _ => True) arr.size w := fun l J Jx W hW hJ _ hY h0 =>
    keys1_word 3 l g m (by omega) arr c J Jx hY W hJ ((hW.cell (p := ⟨g, 0, none⟩) hglt).trans (by rw [cell_of_row w g 0 _ _ _ hg]; rfl)) ((hW.block m hmlt).trans hm) (by rw [hbs]; exact hent.borns)
      (fun x hx => by obtain ⟨y, hy, he⟩ := all2_mem hall hx; rw [he.born]; exact hent.lt y hy)
      (fun x hx => by obtain ⟨y, hy, he⟩ := all2_mem hall hx; exact ⟨⟨y.2.1, he.len⟩, he.key⟩) h0
  refine (callsIn_wide.1 (appendSeq_word 4 (by omega) 113 #[.pointer (some ⟨g, 0, none⟩)] enters_word _ _ arr.size (by rw [hsz]; exact hl) w hseq)).mono ?_
  rintro e w' ⟨v, ks, rfl, hp, hrow, hnil, hB⟩
  have hp' : (ks.map (·.1)).Perm (es.map (·.2.1)) := by
    rw [hks] at hp
    have := hp.map unV
    rw [List.map_map, List.map_map] at this
    have e1 : ks.map (unV ∘ kv) = ks.map (·.1) := List.map_congr_left fun k _ => unV_arr k.1
    have e2 : es.map (unV ∘ fun x => arrV x.2.1) = es.map (·.2.1) := List.map_congr_left fun k _ => unV_arr k.2.1
    rwa [e1, e2] at this
  have hnew : ∀ b, v.ownBlock = some b → w.heap.size ≤ b := fun b hb => (hrow.lt b hb).1
  refine ⟨v, .val (.v v), _, rfl, ⟨v, ks, rfl, hp', rfl⟩, ⟨.of hB, .cons (fun p hp b hb e => ?_) hown.apart, fun o ho => ?_⟩, readV_v.2 ⟨owns_one hrow, rfl⟩⟩
  · have h1 := hnew b hb
    have h2 := (Obj.blk_lt (hown.at_ p hp) e).2
    omega
  · rcases List.mem_cons.1 ho with rfl | ho
    · refine ⟨ks.map kc, ⟨?_, fun b hb => .inr (hnew b hb)⟩, rows_keys ks⟩
      rw [List.length_map]
      exact owns_low hrow
    · refine ((hown.at_ o ho).move (fun b hb => ⟨.inl hb, Nat.lt_of_lt_of_le (hok b hb) hB.size, fun o' ho' e => ?_⟩) (fun p hp => hB.cell (hok _ hp)) fun b hb => hB.block b (Obj.blk_lt (hown.at_ o ho) hb).2).rebase fun b hb => .inl ⟨o, ho, hb⟩
      rcases List.mem_cons.1 ho' with rfl | ho'
      · have := hnew b e
        have := hok b hb
        omega
      · exact hown.off b ⟨o', ho', e⟩ hb
set_option maxRecDepth 20000 in
set_option maxHeartbeats 2000000 in
theorem keys_word (m : Nat) : FnM 78 [.v (.map (some m))] [] (fun r os' => ∃ g, r = .val (.v (.func (.func 113) #[] #[.pointer (some ⟨g, 0, none⟩)])) ∧ os' = [.var g 105 (.v (.map (some m)))]) := by
  refine FnM.walk 4 Tryz.func78 rfl Tryz.ntmps78 (by simp) fun X => ?_
  repeat
    (first
     | (apply P_assign; (iterate 3 exact rfl)) | (apply P_mkfunc; (iterate 3 exact rfl)) | (apply P_box; exact rfl; exact rfl; exact rfl; intro _) | apply EL.nil
     | ((with_reducible apply EK.then_normal); apply EK.code)
     | (with_reducible first | apply EC.seq | apply EC.region | apply EC.skip | apply EC.label | apply EC.block | apply EC.exit | apply EC.ret | apply EK.in_normal | apply EK.in_same | apply EK.in_ret | apply EK.then_ret | apply EK.then_exit))
  rename_i g
  exact EK.retM1s [.var g 105 (.v (.map (some m)))] rfl rfl (by (repeat first | exact List.nil_sublist _ | apply List.Sublist.cons_cons | apply List.Sublist.cons)) ⟨g, rfl, rfl⟩
set_option maxRecDepth 20000 in
set_option maxHeartbeats 2000000 in
theorem collect_word (g m c : Nat) (es : List Ent) (hl : es.length * 32 ≤ 140737488355328) : FnM 111 [.v (.func (.func 113) #[] #[.pointer (some ⟨g, 0, none⟩)])] [.var g 105 (.v (.map (some m))), .map m 32 c es] (fun r os' => ∃ v, ∃ ks : List (Ky 32), r = .val (.v v) ∧ (ks.map (·.1)).Perm (es.map (·.2.1)) ∧ os' = [.row v 29 32 (ks.map dK), .var g 105 (.v (.map (some m))), .map m 32 c es]) := by
  have h1 := append_word g m c es hl
  refine FnM.walk 5 Tryz.func111 rfl Tryz.ntmps111 (by simp) fun X => ?_
  repeat
    (first
     | (apply P_callM (os := [.var g 105 (.v (.map (some m))), .map m 32 c es]) h1; (iterate 2 exact rfl); exact RefineL.refl _ _; (focus (intro _ _; simp [go_sem]; done)); (iterate 2 exact rfl); rintro _ _ ⟨v, ks, rfl, hp, rfl⟩)
     | (apply P_move; (iterate 3 exact rfl)) | (apply P_assign; (iterate 3 exact rfl)) | apply EL.nil | ((with_reducible apply EK.then_normal); apply EK.code)
     | (with_reducible first | apply EC.seq | apply EC.region | apply EC.skip | apply EC.label | apply EC.block | apply EC.exit | apply EC.ret | apply EK.in_normal | apply EK.in_same | apply EK.in_ret | apply EK.then_ret | apply EK.then_exit))
  exact EK.retM1s [.row v 29 32 (ks.map dK), .var g 105 (.v (.map (some m))), .map m 32 c es] rfl rfl (by (repeat first | exact List.nil_sublist _ | apply List.Sublist.cons_cons | apply List.Sublist.cons)) ⟨v, ks, rfl, hp, rfl⟩
set_option maxRecDepth 20000 in
set_option maxHeartbeats 2000000 in
theorem sorted_word (cf : FuncId) (hc : ∀ l m : List UInt8, l.length = 32 → m.length = 32 → ∀ w, Calls Tryz.prog cf #[arrV l, arrV m] w fun e w' => e = .returned (.int .i64 (cmpB l m)) ∧ ∃ q os', w' = grow (w.drewN q) os') (ec : ∀ args w, (callFunc cf args).run Tryz.prog w = .ok (.enter cf args) w)
    (g m c : Nat) (es : List Ent) (hl : es.length * 32 ≤ 140737488355328) : FnM 77 [.v (.func (.func 113) #[] #[.pointer (some ⟨g, 0, none⟩)]), .v (.func (.func cf) #[] #[])] [.var g 105 (.v (.map (some m))), .map m 32 c es] (fun r os' => ∃ v, r = .val (.v v) ∧ os' = [.row v 29 32 ((sortL (es.map (·.2.1))).map (D.arr 32)), .var g 105 (.v (.map (some m))), .map m 32 c es]) := by
  have h1 := collect_word g m c es hl
  refine FnM.walk 12 Tryz.func77 rfl Tryz.ntmps77 (by simp) fun X => ?_
  repeat
    (first
     | (apply P_callM (os := [.var g 105 (.v (.map (some m))), .map m 32 c es]) h1; (iterate 2 exact rfl); exact RefineL.refl _ _; (focus (intro _ _; simp [go_sem]; done)); (iterate 2 exact rfl); rintro _ _ ⟨v, ks, rfl, hp, rfl⟩)
     | (apply P_move; (iterate 3 exact rfl)) | (apply P_assign; (iterate 3 exact rfl)) | apply EL.nil | ((with_reducible apply EK.then_normal); apply EK.code)
     | (with_reducible first | apply EC.seq | apply EC.region | apply EC.skip | apply EC.label | apply EC.block | apply EC.exit | apply EC.ret | apply EK.in_normal | apply EK.in_same | apply EK.in_ret | apply EK.then_ret | apply EK.then_exit))
  have hkl : ks.length = es.length := by simpa using hp.length_eq
  have h2 := sort_word cf hc ec v ks (by omega)
  repeat
    (first
     | (apply P_callM (os := [.row v 29 32 (ks.map dK)]) h2; (iterate 2 exact rfl); exact RefineL.refl _ _; (focus (intro _ _; simp [go_sem]; done)); (iterate 2 exact rfl); rintro _ _ ⟨rfl, rfl⟩)
     | (apply P_move; (iterate 3 exact rfl)) | (apply P_assign; (iterate 3 exact rfl)) | apply EL.nil | ((with_reducible apply EK.then_normal); apply EK.code)
     | (with_reducible first | apply EC.seq | apply EC.region | apply EC.skip | apply EC.label | apply EC.block | apply EC.exit | apply EC.ret | apply EK.in_normal | apply EK.in_same | apply EK.in_ret | apply EK.then_ret | apply EK.then_exit))
  have hs : (ks.mergeSort fun x y => decide (x.1 ≤ y.1)).map (·.1) = sortL (es.map (·.2.1)) := by
    refine sortL_eq (((List.mergeSort_perm ks _).map (·.1)).trans hp) ?_
    have h := List.pairwise_mergeSort (le := fun x y : Ky 32 => decide (x.1 ≤ y.1)) (fun a b c h1 h2 => by simp only [decide_eq_true_eq] at h1 h2 ⊢; exact List.le_trans h1 h2) (fun a b => by simp only [Bool.or_eq_true, decide_eq_true_eq]; exact List.le_total a.1 b.1) ks
    rw [List.pairwise_map]
    exact h.imp fun h => by simpa using h
  exact EK.retM1s [.row v 29 32 ((ks.mergeSort fun x y => decide (x.1 ≤ y.1)).map dK), .var g 105 (.v (.map (some m))), .map m 32 c es] rfl rfl (by (repeat first | exact List.nil_sublist _ | apply List.Sublist.cons_cons | apply List.Sublist.cons)) ⟨v, rfl, by rw [val_dK, hs]⟩
end E
end Go.Proofs.YtmlajcbabimkjaaGreat
/-
  trie.List, trie.Nodes.
  Conditions: none.
-/
namespace Go.Proofs.YtmlajcbabimkjaaGreat
set_option linter.unusedVariables false
open Go.RowKit Mono Rlp
namespace E
theorem f_sClone (l : List UInt8) (hl : l.length ≤ 140737488355328) : Fn 80 [.bs l] (· = .val (.bs l)) := ⟨fun ok w xs hok hr => by
  obtain ⟨v, rfl, h⟩ := one_arg hr
  refine (clone_bytes v l w (isB_of hok h) hl).mono ?_
  rintro e w' ⟨v', rfl, hg, ho⟩
  exact ⟨hg, _, _, rfl, rfl, own_read ho⟩⟩
theorem enters_tcW : ∀ args w, (callFunc 79 args).run Tryz.prog w = .ok (.enter 79 args) w := enters_of Tryz.func79 (by kernel_rfl) rfl
def dNd (x : List UInt8 × List UInt8) : D := .tup [.arr 32 x.1, .bs x.2]
set_option maxRecDepth 20000 in
set_option maxHeartbeats 8000000 in
theorem f_List (m c : Nat) (es : List Ent) (bf : List UInt8 → List UInt8) (hb : ∀ k ∈ es.map (·.2.1), getE es k = some (.bs (bf k))) (hbl : ∀ k, (bf k).length ≤ 140737488355328) (hl : es.length ≤ 1000000000) :
    FnM 53 [.v (.map (some m))] [.map m 32 c es] (fun r os' => r = .val (.sl 33 ((sortL (es.map (·.2.1))).map fun k => dNd (k, bf k))) ∧ os' = [.map m 32 c es]) := by
  have h1 := keys_word m
  have h2 := fun gk => sorted_word 79 cmp_word enters_tcW gk m c es (by omega)
  have hKm : ∀ k ∈ sortL (es.map (·.2.1)), getE es k = some (.bs (bf k)) := fun k hk => hb k ((sortL_perm _).mem_iff.1 hk)
  have hKl : (sortL (es.map (·.2.1))).length ≤ 1000000000 := by rw [(sortL_perm _).length_eq, List.length_map]; exact hl
  generalize sortL (es.map (·.2.1)) = K at h2 hKm hKl ⊢
  have hml : (K.map (D.arr 32)).length = K.length := List.length_map _
  refine FnM.walk 25 Tryz.func53 rfl Tryz.ntmps53 (by simp) fun X => ?_
  repeat
    (first
     | (apply P_callM (os := []) h1; (iterate 2 exact rfl); exact RefineL.refl _ _; (focus (intro _ _; simp [go_sem]; done)); (iterate 2 exact rfl); rintro _ _ ⟨gk, rfl, rfl⟩; simp only [List.cons_append, List.nil_append])
     | (apply P_move; (iterate 3 exact rfl)) | (apply P_assign; (iterate 3 exact rfl)) | apply EL.nil | ((with_reducible apply EK.then_normal); apply EK.code)
     | (with_reducible first | apply EC.seq | apply EC.region | apply EC.skip | apply EC.label | apply EC.block | apply EC.exit | apply EC.ret | apply EK.in_normal | apply EK.in_same | apply EK.in_ret | apply EK.then_ret | apply EK.then_exit))
  refine P_callM (os := [.var gk 105 (.v (.map (some m))), .map m 32 c es]) (h2 gk) rfl rfl (RefineL.refl _ _) (by intro _ _; simp [go_sem]) rfl rfl ?_
  rintro _ _ ⟨v, rfl, rfl⟩
  simp only [List.cons_append, List.nil_append]
  refine EL.le (Le.freeze (pre := []) rfl) ?_
  refine EL.le (Le.refine (t := 8) (d' := .sl 32 (K.map (D.arr 32))) rfl (Rf.fact List.mem_cons_self rfl)) ?_
  simp only [List.nil_append]
  repeat
    (first
     | (apply P_move; (iterate 3 exact rfl)) | (apply P_lensl; (iterate 4 exact rfl)) | apply EL.nil | ((with_reducible apply EK.then_normal); apply EK.code)
     | (with_reducible first | apply EC.seq | apply EC.region | apply EC.skip | apply EC.label | apply EC.block | apply EC.exit | apply EC.ret | apply EK.in_normal | apply EK.in_same | apply EK.in_ret | apply EK.then_ret | apply EK.then_exit))
  refine EC.le (Le.row 55 33) ?_
  refine EC.loop (ι := {x : Nat × Value // x.1 ≤ K.length})
    (fun x => ⟨[(10, .val (.v (.int .i64 (x.1.1 : Int)))), (9, .val (.v (.int .i64 ((K.map (D.arr 32)).length : Int)))), (8, .val (.sl 32 (K.map (D.arr 32)))), (3, .val (.v x.1.2)), (0, .val (.v (.map (some m))))], [.row x.1.2 55 33 ((K.take x.1.1).map fun k => dNd (k, bf k)), .map m 32 c es], []⟩)
    (fun x => K.length - x.1.1) ⟨(0, .slice none 0 0), Nat.zero_le _⟩ ?_ ?_
  · exact (Le.keep (by repeat first | exact trivial | refine ⟨rfl, ?_⟩) (by repeat first | exact List.nil_sublist _ | apply List.Sublist.cons_cons | apply List.Sublist.cons) (by simp))
  rintro ⟨⟨i, rv⟩, hi⟩
  dsimp only at hi ⊢
  by_cases hlt : i < K.length
  · have hd : (K.map (D.arr 32))[i]? = some (D.arr 32 K[i]) := by rw [List.getElem?_map, List.getElem?_eq_getElem hlt]; rfl
    have hget : (getE es K[i]).getD (.v (.slice none 0 0)) = .bs (bf K[i]) := by rw [hKm _ (List.getElem_mem hlt)]; rfl
    have hcl := f_sClone (bf K[i]) (hbl _)
    have hl3 : ((K.take i).map fun k => dNd (k, bf k)).length = i := by rw [List.length_map, List.length_take]; omega
    have htk : (K.take (i + 1)).map (fun k => dNd (k, bf k)) = (K.take i).map (fun k => dNd (k, bf k)) ++ [dNd (K[i], bf K[i])] := by rw [List.take_succ_eq_append_getElem hlt, List.map_append]; rfl
    unfold dNd at htk
    dsimp only at htk
    repeat
      (first
       | (apply P_loadpd; (iterate 5 exact rfl)) | (apply P_cmp (b := true); (iterate 2 exact rfl); (focus (first | (simp [cmpI]; done) | (simp [cmpI]; omega))); (iterate 2 exact rfl))
       | (apply P_index; (iterate 4 exact rfl); (focus (first | exact ⟨by decide, rfl⟩ | (refine ⟨by omega, ?_⟩; rw [Int.toNat_natCast]; assumption))); (iterate 2 exact rfl))
       | (apply P_alloc; exact rfl; exact rfl; exact rfl; intro _) | (apply P_store; exact rfl; (focus (repeat first | exact .z | apply SetAt.s | apply SetAtF.s)); (iterate 4 exact rfl)) | apply EL.nil
       | ((with_reducible apply EK.then_normal); apply EK.code) | (apply EC.cond_true; exact rfl)
       | (with_reducible first | apply EC.seq | apply EC.region | apply EC.skip | apply EC.label | apply EC.block | apply EC.exit | apply EC.ret | apply EK.in_normal | apply EK.in_same | apply EK.in_ret | apply EK.then_ret | apply EK.then_exit))
    refine EC.le (Le.pick [1, 0, 2] [_, _, _] rfl (by decide) rfl) ?_
    refine EC.drawC 9 [0, 1, 2, 3, 4, 5, 6] [7, 8] [_] _ (by kernel_rfl) (by kernel_rfl) rfl ?_
    simp only [pickL, List.filterMap_cons, List.filterMap_nil, List.getElem?_cons_zero, List.getElem?_cons_succ]
    repeat
      (first
       | (apply H_lookup; exact hget; exact rfl; (first | exact I0 | exact I1 | exact I2 | exact I3); (iterate 5 exact rfl))
       | (apply H_call (hcl); exact rfl; (focus (repeat first | exact RefineL.refl _ _ | exact RL.nil | exact Rf.same | exact Rf.bs0 | exact Rf.sl0 | (apply Rf.fact; (focus (simp; done)); exact rfl) | apply Rf.tup | apply RL.cons)); (focus (intro _ _; simp [go_sem]; done)); (iterate 2 exact rfl))
       | (apply H_move; (iterate 3 exact rfl)) | (apply H_load; exact rfl; (first | exact I0 | exact I1 | exact I2 | exact I3 | exact I4 | exact I5 | exact I6); (iterate 4 exact rfl))
       | (apply H_build; (iterate 7 exact rfl)))
    refine EM.nil ?_
    repeat (first | rw [List.cons_append] | rw [List.nil_append])
    refine CH.cut 1 ?_
    simp only [List.take_succ_cons, List.take_zero, List.drop_succ_cons, List.drop_zero]
    repeat
      (first
       | (apply H_lit; (iterate 9 exact rfl)))
    refine EM.nil ?_
    repeat (first | rw [List.cons_append] | rw [List.nil_append])
    refine CH.mut (os := [_]) (rest := []) rfl rfl (m_append rfl rfl rfl rfl rfl ?_) ?_
    · rw [hl3]
      constructor <;> (simp; omega)
    rintro _ _ ⟨sv', rfl, rfl⟩
    try simp only [St.put]
    repeat (first | rw [List.cons_append] | rw [List.nil_append])
    refine CH.nil ?_
    try simp only [List.drop_succ_cons, List.drop_zero]
    repeat
      (first
       | (apply P_move; (iterate 3 exact rfl)) | (apply P_assign; (iterate 3 exact rfl)) | (apply P_ar; (iterate 3 exact rfl); (focus omega); (focus omega); (iterate 2 exact rfl)) | apply EL.nil
       | ((with_reducible apply EK.then_normal); apply EK.code)
       | (with_reducible first | apply EC.seq | apply EC.region | apply EC.skip | apply EC.label | apply EC.block | apply EC.exit | apply EC.ret | apply EK.in_normal | apply EK.in_same | apply EK.in_ret | apply EK.then_ret | apply EK.then_exit))
    refine EK.again ⟨(i + 1, sv'), hlt⟩ (by dsimp only; omega) ?_
    dsimp only
    unfold dNd
    rw [htk]
    simp only [Int.natCast_add]
    exact (Le.keep (by repeat first | exact trivial | refine ⟨rfl, ?_⟩) (by repeat first | exact List.nil_sublist _ | apply List.Sublist.cons_cons | apply List.Sublist.cons) (by simp))
  · obtain rfl : i = K.length := by omega
    rw [List.take_length]
    refine EC.le (Le.freeze (pre := []) rfl) ?_
    simp only [List.nil_append]
    repeat
      (first
       | (apply P_move; (iterate 3 exact rfl)) | (apply P_assign; (iterate 3 exact rfl))
       | (apply P_cmp (b := false); (iterate 2 exact rfl); (focus (first | (simp [cmpI]; done) | (simp [cmpI]; omega))); (iterate 2 exact rfl)) | apply EL.nil
       | ((with_reducible apply EK.then_normal); apply EK.code) | (apply EC.cond_false; exact rfl)
       | (with_reducible first | apply EC.seq | apply EC.region | apply EC.skip | apply EC.label | apply EC.block | apply EC.exit | apply EC.ret | apply EK.in_normal | apply EK.in_same | apply EK.in_ret | apply EK.then_ret | apply EK.then_exit))
    exact EK.retM1k [.map m 32 c es] rfl rfl (RL.cons (Rf.fact List.mem_cons_self rfl) RL.nil) (by (repeat first | exact List.nil_sublist _ | apply List.Sublist.cons_cons | apply List.Sublist.cons)) ⟨rfl, rfl⟩
end E
end Go.Proofs.YtmlajcbabimkjaaGreat
/-
  trie.pairs: the pairs by rising paths.
  Conditions: none.
-/
namespace Go.Proofs.YtmlajcbabimkjaaGreat
set_option linter.unusedVariables false
open Go.RowKit Mono Rlp Go.Sort
namespace E
abbrev Pr := List UInt8 × List UInt8
def sp (x : Pr) : Pr := (split x.1, x.2)
def srt (ps : List Pr) : List Pr := ps.mergeSort fun a b => decide (a.1 ≤ b.1)
theorem srt_perm (ps : List Pr) : (srt ps).Perm ps := List.mergeSort_perm _ _
theorem srt_sorted (ps : List Pr) : (srt ps).Pairwise fun a b => a.1 ≤ b.1 := by
  have h := List.pairwise_mergeSort (le := fun a b : Pr => decide (a.1 ≤ b.1)) (fun a b c h1 h2 => by simp only [decide_eq_true_eq] at h1 h2 ⊢; exact List.le_trans h1 h2) (fun a b => by simp only [Bool.or_eq_true, decide_eq_true_eq]; exact List.le_total a.1 b.1) ps
  exact h.imp fun h => by simpa using h
theorem nodup_key {ps : List Pr} (h : (ps.map (·.1)).Nodup) {a b : Pr} (ha : a ∈ ps) (hb : b ∈ ps) (e : a.1 = b.1) : a = b := by
  obtain ⟨i, hi, rfl⟩ := List.getElem_of_mem ha
  obtain ⟨j, hj, rfl⟩ := List.getElem_of_mem hb
  have := (List.getElem_inj (h₀ := by simpa using hi) (h₁ := by simpa using hj) h).1 (by simpa using e)
  subst this
  rfl
theorem srt_eq {ps qs : List Pr} (hp : qs.Perm ps) (hs : qs.Pairwise fun a b => a.1 ≤ b.1) (hn : (ps.map (·.1)).Nodup) : qs = srt ps :=
  List.Perm.eq_of_pairwise (fun a b ha hb h1 h2 => nodup_key hn (hp.mem_iff.1 ha) ((srt_perm ps).mem_iff.1 hb) (List.le_antisymm h1 h2)) hs (srt_sorted ps) (hp.trans (srt_perm ps).symm)
def pairsF (l : List Pr) : R :=
  if 100000 < l.length ∨ l.any lg = true then .tpl [.v (.slice none 0 0), .v (.int .i64 3)]
  else if l.any (·.2.isEmpty) = true then .tpl [.v (.slice none 0 0), .v (.int .i64 1)]
  else if ((l.map sp).map (·.1)).Nodup then .tpl [.sl 2 ((srt (l.map sp)).map dPr), .v (.int .i64 0)]
  else .tpl [.v (.slice none 0 0), .v (.int .i64 1)]
theorem f_EqualT (l m : List UInt8) : Fn 105 [.bs l, .bs m] (· = .val (.v (.bool (l == m)))) := by
  have hb := (bin_string l m).1
  refine Fn.walk 10 Tryz.func105 rfl Tryz.ntmps105 (by simp) fun X => ?_
  repeat
    (first
     | (apply P_bin; (iterate 2 exact rfl); exact hb; (iterate 2 exact rfl)) | (apply P_move; (iterate 3 exact rfl)) | (apply P_assign; (iterate 3 exact rfl)) | (apply P_str; (iterate 3 exact rfl))
     | apply EL.nil | ((with_reducible apply EK.then_normal); apply EK.code)
     | (with_reducible first | apply EC.seq | apply EC.region | apply EC.skip | apply EC.label | apply EC.block | apply EC.exit | apply EC.ret | apply EK.in_normal | apply EK.in_same | apply EK.in_ret | apply EK.then_ret | apply EK.then_exit))
  exact EK.ret1 rfl rfl rfl
theorem not_long {l : List Pr} (h : l.any lg = false) {x : Pr} (hx : x ∈ l) : x.1.length ≤ 64 ∧ x.2.length ≤ 1048576 := by
  have := List.any_eq_false.1 h x hx
  unfold lg at this
  simp at this
  omega
theorem adj_nodup {qs : List Pr} (hq : qs.Pairwise fun a b => a.1 ≤ b.1) (h : ∀ j (hj : j + 1 < qs.length), qs[j].1 ≠ qs[j + 1].1) : (qs.map (·.1)).Nodup := by
  unfold List.Nodup
  rw [List.pairwise_map, List.pairwise_iff_getElem]
  intro i j hi hj hij e
  have h1 := List.pairwise_iff_getElem.1 hq i (i + 1) hi (by omega) (by omega)
  have h2 : qs[i + 1].1 ≤ qs[j].1 := by
    rcases Nat.lt_or_ge (i + 1) j with h | h
    · exact List.pairwise_iff_getElem.1 hq (i + 1) j (by omega) hj h
    · obtain rfl : j = i + 1 := by omega
      exact List.le_refl _
  exact h i (by omega) (List.le_antisymm h1 (by rw [e]; exact h2))
set_option maxRecDepth 20000 in
set_option maxHeartbeats 8000000 in
theorem f_pairs (l : List Pr) : Fn 72 [.sl 2 (l.map dPr)] (· = pairsF l) := by
  have h1 := f_containsP l
  unfold pairsF
  have hl : (l.map dPr).length = l.length := by rw [List.length_map]
  refine Fn.walk 56 Tryz.func72 rfl Tryz.ntmps72 (by simp) fun X => ?_
  by_cases hbig : 100000 < l.length
  · rw [if_pos (.inl hbig)]
    repeat
      (first
       | (apply P_skip; (iterate 2 exact rfl)) | (apply P_move; (iterate 3 exact rfl)) | (apply P_assign; (iterate 3 exact rfl)) | (apply P_pick; (iterate 4 exact rfl))
       | (apply P_cmp (b := true); (iterate 2 exact rfl); (focus (first | (simp [cmpI]; done) | (simp [cmpI]; omega))); (iterate 2 exact rfl)) | (apply P_lensl; (iterate 4 exact rfl)) | apply EL.nil
       | ((with_reducible apply EK.then_normal); apply EK.code) | (apply EC.cond_true; exact rfl)
       | (with_reducible first | apply EC.seq | apply EC.region | apply EC.skip | apply EC.label | apply EC.block | apply EC.exit | apply EC.ret | apply EK.in_normal | apply EK.in_same | apply EK.in_ret | apply EK.then_ret | apply EK.then_exit))
    exact EK.ret2 rfl rfl rfl rfl
  · cases hany : l.any lg with
    | true =>
      rw [hany] at h1
      rw [if_pos (.inr rfl)]
      repeat
        (first
         | (apply P_call (h1); exact rfl; (focus (repeat first | exact RefineL.refl _ _ | exact RL.nil | exact Rf.same | exact Rf.bs0 | exact Rf.sl0 | (apply Rf.fact; (focus (simp; done)); exact rfl) | apply Rf.tup | apply RL.cons)); (focus (intro _ _; simp [go_sem]; done)); (iterate 2 exact rfl))
         | (apply P_move; (iterate 3 exact rfl)) | (apply P_assign; (iterate 3 exact rfl)) | (apply P_pick; (iterate 4 exact rfl))
         | (apply P_cmp (b := false); (iterate 2 exact rfl); (focus (first | (simp [cmpI]; done) | (simp [cmpI]; omega))); (iterate 2 exact rfl)) | (apply P_lensl; (iterate 4 exact rfl)) | apply EL.nil
         | ((with_reducible apply EK.then_normal); apply EK.code) | (apply EC.cond_true; exact rfl)
         | (with_reducible first | apply EC.seq | apply EC.region | apply EC.skip | apply EC.label | apply EC.block | apply EC.exit | apply EC.ret | apply EK.in_normal | apply EK.in_same | apply EK.in_ret | apply EK.then_ret | apply EK.then_exit))
      exact EK.ret2 rfl rfl rfl rfl
    | false =>
      rw [hany] at h1
      rw [if_neg (by simp; omega)]
      repeat
        (first
         | (apply P_call (h1); exact rfl; (focus (repeat first | exact RefineL.refl _ _ | exact RL.nil | exact Rf.same | exact Rf.bs0 | exact Rf.sl0 | (apply Rf.fact; (focus (simp; done)); exact rfl) | apply Rf.tup | apply RL.cons)); (focus (intro _ _; simp [go_sem]; done)); (iterate 2 exact rfl))
         | (apply P_move; (iterate 3 exact rfl)) | (apply P_assign; (iterate 3 exact rfl)) | (apply P_pick; (iterate 4 exact rfl))
         | (apply P_cmp (b := false); (iterate 2 exact rfl); (focus (first | (simp [cmpI]; done) | (simp [cmpI]; omega))); (iterate 2 exact rfl)) | (apply P_lensl; (iterate 4 exact rfl)) | apply EL.nil
         | ((with_reducible apply EK.then_normal); apply EK.code) | (apply EC.cond_false; exact rfl)
         | (with_reducible first | apply EC.seq | apply EC.region | apply EC.skip | apply EC.label | apply EC.block | apply EC.exit | apply EC.ret | apply EK.in_normal | apply EK.in_same | apply EK.in_ret | apply EK.then_ret | apply EK.then_exit))
      refine EC.le (Le.row 178 2) ?_
      refine EC.loop (ι := {p : Value × Nat // p.2 ≤ l.length ∧ (l.take p.2).any (·.2.isEmpty) = false})
        (fun p => ⟨[(17, .val (.v (.int .i64 (p.1.2 : Int)))), (16, .val (.v (.int .i64 ((l.map dPr).length : Int)))), (15, .val (.sl 2 (l.map dPr))), (4, .val (.v p.1.1))],
          [.row p.1.1 178 2 ((l.take p.1.2).map fun x => dPr (sp x))], []⟩)
        (fun p => l.length - p.1.2) ⟨(.slice none 0 0, 0), by omega, by simp⟩ ?_ ?_
      · exact (Le.keep (by repeat first | exact trivial | refine ⟨rfl, ?_⟩) (by repeat first | exact List.nil_sublist _ | apply List.Sublist.cons_cons | apply List.Sublist.cons) (by simp))
      rintro ⟨⟨rv, n⟩, hn, hI⟩
      dsimp only at hn hI ⊢
      by_cases hlt : n < l.length
      · have hat : (l.map dPr)[n]? = some (.tup [.bs l[n].1, .bs l[n].2]) := by rw [List.getElem?_map, List.getElem?_eq_getElem hlt]; rfl
        have hx := not_long hany (List.getElem_mem hlt)
        have hs := f_pSplit l[n].1 (by omega)
        by_cases he : l[n].2 = []
        · have he0 : (l[n].2.length : Int) = 0 := by rw [he]; rfl
          have hempty : l.any (·.2.isEmpty) = true := List.any_eq_true.2 ⟨_, List.getElem_mem hlt, by rw [he]; rfl⟩
          repeat
            (first
             | (apply P_assign; (iterate 3 exact rfl)) | (apply P_field; (iterate 6 exact rfl)) | (apply P_loadpd; (iterate 5 exact rfl))
             | (apply P_load; exact rfl; (first | exact I0 | exact I1 | exact I2 | exact I3 | exact I4 | exact I5 | exact I6); (iterate 4 exact rfl))
             | (apply P_cmp (b := true); (iterate 2 exact rfl); (focus (first | (simp [cmpI]; done) | (simp [cmpI]; omega))); (iterate 2 exact rfl)) | (apply P_lenbs; (iterate 4 exact rfl))
             | (apply P_index; (iterate 4 exact rfl); (focus (first | exact ⟨by decide, rfl⟩ | (refine ⟨by omega, ?_⟩; rw [Int.toNat_natCast]; assumption))); (iterate 2 exact rfl))
             | (apply P_alloc; exact rfl; exact rfl; exact rfl; intro _) | (apply P_store; exact rfl; (focus (repeat first | exact .z | apply SetAt.s | apply SetAtF.s)); (iterate 4 exact rfl)) | apply EL.nil
             | ((with_reducible apply EK.then_normal); apply EK.code) | (apply EC.cond_true; exact rfl)
             | (with_reducible first | apply EC.seq | apply EC.region | apply EC.skip | apply EC.label | apply EC.block | apply EC.exit | apply EC.ret | apply EK.in_normal | apply EK.in_same | apply EK.in_ret | apply EK.then_ret | apply EK.then_exit))
          refine EK.ret2 rfl rfl rfl ?_
          rw [if_pos hempty]
        · have he0 : ¬ (l[n].2.length : Int) = 0 := fun h => he (List.eq_nil_of_length_eq_zero (by omega))
          repeat
            (first
             | (apply P_field; (iterate 6 exact rfl)) | (apply P_loadpd; (iterate 5 exact rfl))
             | (apply P_load; exact rfl; (first | exact I0 | exact I1 | exact I2 | exact I3 | exact I4 | exact I5 | exact I6); (iterate 4 exact rfl))
             | (apply P_cmp (b := true); (iterate 2 exact rfl); (focus (first | (simp [cmpI]; done) | (simp [cmpI]; omega))); (iterate 2 exact rfl))
             | (apply P_cmp (b := false); (iterate 2 exact rfl); (focus (first | (simp [cmpI]; done) | (simp [cmpI]; omega))); (iterate 2 exact rfl)) | (apply P_lenbs; (iterate 4 exact rfl))
             | (apply P_index; (iterate 4 exact rfl); (focus (first | exact ⟨by decide, rfl⟩ | (refine ⟨by omega, ?_⟩; rw [Int.toNat_natCast]; assumption))); (iterate 2 exact rfl))
             | (apply P_alloc; exact rfl; exact rfl; exact rfl; intro _) | (apply P_store; exact rfl; (focus (repeat first | exact .z | apply SetAt.s | apply SetAtF.s)); (iterate 4 exact rfl)) | apply EL.nil
             | ((with_reducible apply EK.then_normal); apply EK.code) | (apply EC.cond_true; exact rfl) | (apply EC.cond_false; exact rfl)
             | (with_reducible first | apply EC.seq | apply EC.region | apply EC.skip | apply EC.label | apply EC.block | apply EC.exit | apply EC.ret | apply EK.in_normal | apply EK.in_same | apply EK.in_ret | apply EK.then_ret | apply EK.then_exit))
          have hm : ((l.take n).map fun x => dPr (sp x)).length = n := by rw [List.length_map, List.length_take]; omega
          have hnx : (l.take (n + 1)).map (fun x => dPr (sp x)) = (l.take n).map (fun x => dPr (sp x)) ++ [.tup [.bs (split l[n].1), .bs l[n].2]] := by rw [List.take_succ_eq_append_getElem hlt, List.map_append]; rfl
          have hIx : (l.take (n + 1)).any (·.2.isEmpty) = false := by
            rw [List.take_succ_eq_append_getElem hlt, List.any_append, hI, Bool.false_or, List.any_cons, List.any_nil, Bool.or_false]
            cases hv : l[n].2 with
            | nil => exact absurd hv he
            | cons _ _ => rfl
          refine EC.le (Le.pick [1, 0] [_, _] rfl (by decide) rfl) ?_
          refine EC.drawC 9 [0, 1, 2, 4, 5] [3, 6, 7, 8] [_] _ (by kernel_rfl) (by kernel_rfl) rfl ?_
          simp only [pickL, List.filterMap_cons, List.filterMap_nil, List.getElem?_cons_zero, List.getElem?_cons_succ]
          repeat
            (first
             | (apply H_move; (iterate 3 exact rfl)) | (apply H_field; (iterate 6 exact rfl))
             | (apply H_load; exact rfl; (first | exact I0 | exact I1 | exact I2 | exact I3 | exact I4 | exact I5 | exact I6); (iterate 4 exact rfl)))
          refine EM.nil ?_
          repeat (first | rw [List.cons_append] | rw [List.nil_append])
          refine CH.cut 3 ?_
          simp only [List.take_succ_cons, List.take_zero, List.drop_succ_cons, List.drop_zero]
          repeat
            (first
             | (apply H_call (hs); exact rfl; (focus (repeat first | exact RefineL.refl _ _ | exact RL.nil | exact Rf.same | exact Rf.bs0 | exact Rf.sl0 | (apply Rf.fact; (focus (simp; done)); exact rfl) | apply Rf.tup | apply RL.cons)); (focus (intro _ _; simp [go_sem]; done)); (iterate 2 exact rfl))
             | (apply H_build; (iterate 7 exact rfl)) | (apply H_lit; (iterate 9 exact rfl)))
          refine EM.nil ?_
          repeat (first | rw [List.cons_append] | rw [List.nil_append])
          refine CH.mut (os := [_]) (rest := []) rfl rfl (m_append rfl rfl rfl rfl rfl (by rw [hm]; constructor <;> (simp; omega))) ?_
          rintro _ _ ⟨v', rfl, rfl⟩
          try simp only [St.put]
          repeat (first | rw [List.cons_append] | rw [List.nil_append])
          refine CH.nil ?_
          try simp only [List.drop_succ_cons, List.drop_zero]
          repeat
            (first
             | (apply P_move; (iterate 3 exact rfl)) | (apply P_assign; (iterate 3 exact rfl)) | (apply P_ar; (iterate 3 exact rfl); (focus omega); (focus omega); (iterate 2 exact rfl)) | apply EL.nil
             | ((with_reducible apply EK.then_normal); apply EK.code)
             | (with_reducible first | apply EC.seq | apply EC.region | apply EC.skip | apply EC.label | apply EC.block | apply EC.exit | apply EC.ret | apply EK.in_normal | apply EK.in_same | apply EK.in_ret | apply EK.then_ret | apply EK.then_exit))
          refine EK.again ⟨(v', n + 1), hlt, hIx⟩ (by dsimp only; omega) ?_
          dsimp only
          rw [hnx]
          simp only [Int.natCast_add]
          exact (Le.keep (by repeat first | exact trivial | refine ⟨rfl, ?_⟩) (by repeat first | exact List.nil_sublist _ | apply List.Sublist.cons_cons | apply List.Sublist.cons) (by simp))
      · obtain rfl : n = l.length := by omega
        have hne : l.any (·.2.isEmpty) = false := by rwa [List.take_length] at hI
        have hrow : (l.take l.length).map (fun x => dPr (sp x)) = (l.map sp).map dPr := by rw [List.take_length, List.map_map]; rfl
        rw [hrow]
        have hso := sort_pair rv (l.map sp) (by rw [List.length_map]; omega)
        simp only [hne, Bool.false_eq_true, if_false]
        repeat
          (first
           | (apply P_callM (os := [.row rv 178 2 ((l.map sp).map dPr)]) hso; (iterate 2 exact rfl); exact RefineL.refl _ _; (focus (intro _ _; simp [go_sem]; done)); (iterate 2 exact rfl); rintro _ _ ⟨rfl, qs, hp, hq, rfl⟩; refine EL.le (Le.freeze (pre := []) rfl) ?_; refine EL.le (Le.refine (t := 4) rfl (Rf.fact List.mem_cons_self rfl)) ?_)
           | (apply P_move; (iterate 3 exact rfl)) | (apply P_assign; (iterate 3 exact rfl))
           | (apply P_cmp (b := false); (iterate 2 exact rfl); (focus (first | (simp [cmpI]; done) | (simp [cmpI]; omega))); (iterate 2 exact rfl)) | apply EL.nil
           | ((with_reducible apply EK.then_normal); apply EK.code) | (apply EC.cond_false; exact rfl)
           | (with_reducible first | apply EC.seq | apply EC.region | apply EC.skip | apply EC.label | apply EC.block | apply EC.exit | apply EC.ret | apply EK.in_normal | apply EK.in_same | apply EK.in_ret | apply EK.then_ret | apply EK.then_exit))
        have hql : qs.length = l.length := by rw [hp.length_eq, List.length_map]
        have hqd : (qs.map dPr).length = qs.length := by rw [List.length_map]
        refine EC.loop (ι := {n : Nat // n ≤ qs.length ∧ ∀ j (hj : j + 1 < qs.length), j < n → qs[j].1 ≠ qs[j + 1].1})
          (fun n => ⟨[(7, .val (.v (.int .i64 ((n.1 + 1 : Nat) : Int)))), (4, .val (.sl 2 (qs.map dPr)))], [], []⟩)
          (fun n => qs.length - n.1) ⟨0, by omega, fun j _ h => absurd h (Nat.not_lt_zero _)⟩ ?_ ?_
        · exact (Le.keep (by repeat first | exact trivial | refine ⟨rfl, ?_⟩) (by repeat first | exact List.nil_sublist _ | apply List.Sublist.cons_cons | apply List.Sublist.cons) (by simp))
        rintro ⟨n, hn, hI⟩
        dsimp only
        by_cases hlt : n + 1 < qs.length
        · have hat1 : (qs.map dPr)[n]? = some (.tup [.bs qs[n].1, .bs qs[n].2]) := by rw [List.getElem?_map, List.getElem?_eq_getElem (by omega)]; rfl
          have hat2 : (qs.map dPr)[n + 1]? = some (.tup [.bs qs[n + 1].1, .bs qs[n + 1].2]) := by rw [List.getElem?_map, List.getElem?_eq_getElem hlt]; rfl
          have hE := f_EqualT qs[n].1 qs[n + 1].1
          by_cases heq : qs[n].1 = qs[n + 1].1
          · rw [show (qs[n].1 == qs[n + 1].1) = true by simpa using heq] at hE
            repeat
              (first
               | (apply P_move; (iterate 3 exact rfl)) | (apply P_cmp (b := true); (iterate 2 exact rfl); (focus (first | (simp [cmpI]; done) | (simp [cmpI]; omega))); (iterate 2 exact rfl))
               | (apply P_lensl; (iterate 4 exact rfl)) | apply EL.nil | ((with_reducible apply EK.then_normal); apply EK.code) | (apply EC.cond_true; exact rfl)
               | (with_reducible first | apply EC.seq | apply EC.region | apply EC.skip | apply EC.label | apply EC.block | apply EC.exit | apply EC.ret | apply EK.in_normal | apply EK.in_same | apply EK.in_ret | apply EK.then_ret | apply EK.then_exit))
            refine EC.draw 12 (by kernel_rfl) ?_
            simp only [List.take_succ_cons, List.take_zero, List.drop_succ_cons, List.drop_zero]
            repeat
              (first
               | (apply H_call (hE); exact rfl; (focus (repeat first | exact RefineL.refl _ _ | exact RL.nil | exact Rf.same | exact Rf.bs0 | exact Rf.sl0 | (apply Rf.fact; (focus (simp; done)); exact rfl) | apply Rf.tup | apply RL.cons)); (focus (intro _ _; simp [go_sem]; done)); (iterate 2 exact rfl))
               | (apply H_index; (iterate 4 exact rfl); exact ⟨by omega, by rw [show (((n + 1 : Nat) : Int) - 1).toNat = n by omega]; exact hat1⟩; (iterate 2 exact rfl)) | (apply H_move; (iterate 3 exact rfl))
               | (apply H_fieldpd; (iterate 7 exact rfl)) | (apply H_loadpd; (iterate 5 exact rfl)) | (apply H_ar; (iterate 3 exact rfl); (focus omega); (focus omega); (iterate 2 exact rfl))
               | (apply H_index; (iterate 4 exact rfl); (focus (first | exact ⟨by decide, rfl⟩ | (refine ⟨by omega, ?_⟩; rw [Int.toNat_natCast]; assumption))); (iterate 2 exact rfl))
               | ((with_reducible apply EH.nil); exact rfl))
            repeat
              (first
               | (apply P_assign; (iterate 3 exact rfl)) | apply EL.nil | ((with_reducible apply EK.then_normal); apply EK.code) | (apply EC.cond_true; exact rfl)
               | (with_reducible first | apply EC.seq | apply EC.region | apply EC.skip | apply EC.label | apply EC.block | apply EC.exit | apply EC.ret | apply EK.in_normal | apply EK.in_same | apply EK.in_ret | apply EK.then_ret | apply EK.then_exit))
            refine EK.ret2 rfl rfl rfl ?_
            rw [if_neg]
            intro hnd
            have h3 := (hp.map (·.1)).nodup_iff.2 hnd
            have h4 := (List.getElem_inj (h₀ := by rw [List.length_map]; omega) (h₁ := by rw [List.length_map]; exact hlt) h3 (i := n) (j := n + 1)).1 (by simpa using heq)
            omega
          · rw [show (qs[n].1 == qs[n + 1].1) = false by simpa using heq] at hE
            repeat
              (first
               | (apply P_move; (iterate 3 exact rfl)) | (apply P_cmp (b := true); (iterate 2 exact rfl); (focus (first | (simp [cmpI]; done) | (simp [cmpI]; omega))); (iterate 2 exact rfl))
               | (apply P_lensl; (iterate 4 exact rfl)) | apply EL.nil | ((with_reducible apply EK.then_normal); apply EK.code) | (apply EC.cond_true; exact rfl)
               | (with_reducible first | apply EC.seq | apply EC.region | apply EC.skip | apply EC.label | apply EC.block | apply EC.exit | apply EC.ret | apply EK.in_normal | apply EK.in_same | apply EK.in_ret | apply EK.then_ret | apply EK.then_exit))
            refine EC.draw 12 (by kernel_rfl) ?_
            simp only [List.take_succ_cons, List.take_zero, List.drop_succ_cons, List.drop_zero]
            repeat
              (first
               | (apply H_call (hE); exact rfl; (focus (repeat first | exact RefineL.refl _ _ | exact RL.nil | exact Rf.same | exact Rf.bs0 | exact Rf.sl0 | (apply Rf.fact; (focus (simp; done)); exact rfl) | apply Rf.tup | apply RL.cons)); (focus (intro _ _; simp [go_sem]; done)); (iterate 2 exact rfl))
               | (apply H_index; (iterate 4 exact rfl); exact ⟨by omega, by rw [show (((n + 1 : Nat) : Int) - 1).toNat = n by omega]; exact hat1⟩; (iterate 2 exact rfl)) | (apply H_move; (iterate 3 exact rfl))
               | (apply H_fieldpd; (iterate 7 exact rfl)) | (apply H_loadpd; (iterate 5 exact rfl)) | (apply H_ar; (iterate 3 exact rfl); (focus omega); (focus omega); (iterate 2 exact rfl))
               | (apply H_index; (iterate 4 exact rfl); (focus (first | exact ⟨by decide, rfl⟩ | (refine ⟨by omega, ?_⟩; rw [Int.toNat_natCast]; assumption))); (iterate 2 exact rfl))
               | ((with_reducible apply EH.nil); exact rfl))
            repeat
              (first
               | (apply P_move; (iterate 3 exact rfl)) | (apply P_assign; (iterate 3 exact rfl)) | (apply P_ar; (iterate 3 exact rfl); (focus omega); (focus omega); (iterate 2 exact rfl)) | apply EL.nil
               | ((with_reducible apply EK.then_normal); apply EK.code) | (apply EC.cond_false; exact rfl)
               | (with_reducible first | apply EC.seq | apply EC.region | apply EC.skip | apply EC.label | apply EC.block | apply EC.exit | apply EC.ret | apply EK.in_normal | apply EK.in_same | apply EK.in_ret | apply EK.then_ret | apply EK.then_exit))
            refine EK.again ⟨n + 1, by omega, fun j hj hjn => ?_⟩ (by dsimp only; omega) ?_
            · rcases Nat.lt_or_ge j n with h | h
              · exact hI j hj h
              · obtain rfl : j = n := by omega
                exact heq
            dsimp only
            simp only [Int.natCast_add]
            exact (Le.keep (by repeat first | exact trivial | refine ⟨rfl, ?_⟩) (by repeat first | exact List.nil_sublist _ | apply List.Sublist.cons_cons | apply List.Sublist.cons) (by simp))
        · have hnd := adj_nodup hq fun j hj => hI j hj (by omega)
          have hnd2 : ((l.map sp).map (·.1)).Nodup := (hp.map (·.1)).nodup_iff.1 hnd
          have hqs := srt_eq hp hq hnd2
          repeat
            (first
             | (apply P_move; (iterate 3 exact rfl)) | (apply P_assign; (iterate 3 exact rfl))
             | (apply P_cmp (b := false); (iterate 2 exact rfl); (focus (first | (simp [cmpI]; done) | (simp [cmpI]; omega))); (iterate 2 exact rfl)) | (apply P_lensl; (iterate 4 exact rfl)) | apply EL.nil
             | ((with_reducible apply EK.then_normal); apply EK.code) | (apply EC.cond_false; exact rfl)
             | (with_reducible first | apply EC.seq | apply EC.region | apply EC.skip | apply EC.label | apply EC.block | apply EC.exit | apply EC.ret | apply EK.in_normal | apply EK.in_same | apply EK.in_ret | apply EK.then_ret | apply EK.then_exit))
          refine EK.ret2 rfl rfl rfl ?_
          rw [if_pos hnd2, hqs]
end E
end Go.Proofs.YtmlajcbabimkjaaGreat
