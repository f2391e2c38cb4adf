/-
 Merged: lemmas of this claim.
 Conditions: none.
-/
import Derived.Test.YtkhjanjlcdhdcaaGreatZL15
import Derived.Shelf.SlSortCmp.NoneTotal
import Derived.Test.YtkhjanjlcdhdcaaGreatZL12
import Derived.Test.YtkhjanjlcdhdcaaGreatZL14
import Derived.Test.YtkhjanjlcdhdcaaGreatZL0
namespace Go.Proofs.YtkhjanjlcdhdcaaGreat
set_option linter.unusedVariables false
set_option maxRecDepth 20000
set_option maxHeartbeats 2000000
open Go.RowKit Mono Rlp Go.Sort
namespace E
def sortL (l : List (List UInt8)) : List (List UInt8) := l.mergeSort fun a b => decide (a ≤ b)
theorem ig (l : List (List UInt8)) : (sortL l).Perm l := List.mergeSort_perm _ _
theorem oZ (l : List (List UInt8)) : (sortL l).Pairwise (· ≤ ·) := by
 have h := List.pairwise_mergeSort (le := fun a b : List UInt8 => decide (a ≤ b)) (fun a b c h1 h2 => by simp only [decide_eq_true_eq] at h1 h2 ⊢; exact List.le_trans h1 h2) (fun a b => by simp only [NU, decide_eq_true_eq]; exact List.le_total a b) l
 exact h.imp fun h => by simpa using h
theorem yw {l m : List (List UInt8)} (hp : m.Perm l) (hs : m.Pairwise (· ≤ ·)) : m = sortL l :=
 List.Perm.eq_of_pairwise (fun a b _ _ h1 h2 => NC h1 h2) hs (oZ l) (hp.trans (ig l).symm)
theorem Ci {n : Nat} (hn : 0 < n) [Inhabited (Ky n)] : ∀ (ks : List (Ky n)) (t : Nat), t < ks.length * n → (ks.map kc).flatten[t]? = some ((kc (ks[t / n]!))[t % n]!)
 | [], t, h => by simp at h
 | k :: ks, t, h => by
  have hk : (kc k).length = n := by unfold kc; rw [bK, k.2]
  rw [Lc, LW]
  by_cases ht : t < n
  ·
   rw [L6 (by omega), Nat.div_eq_of_lt ht, Nc ht]
   simp [hk, ht]
  ·
   rw [MH (by omega), hk, Ci hn ks (t - n) (by simp [Nat.add_mul] at h; omega)]
   have h1 : t / n = (t - n) / n + 1 := by
    conv => lhs; rw [show t = t - n + n by omega, Nat.add_div_right _ hn]
   have h2 : t % n = (t - n) % n := by
    conv => lhs; rw [show t = t - n + n by omega, Nat.add_mod_right]
   rw [h1, h2]
   simp
theorem iR {n : Nat} (hn : 0 < n) [Inhabited (Ky n)] (ks : List (Ky n)) : (flatK kc n ks.toArray).toList = (ks.map kc).flatten := by
 have hl : (ks.map kc).flatten.length = ks.length * n := by
  have : ∀ ks : List (Ky n), (ks.map kc).flatten.length = ks.length * n := fun ks => by
   induction ks with
   | nil => simp
   | cons k ks ih =>
    have hk : (kc k).length = n := by unfold kc; rw [bK, k.2]
    rw [Lc, LW, Lu, ih, hk, LM, MQ, Np, Og]
  exact this ks
 refine List.ext_getElem? fun t => ?_
 by_cases ht : t < ks.length * n
 ·
  rw [Ci hn ks t ht, Nq]
  have hs : t < (flatK kc n ks.toArray).size := by simpa using ht
  have := get_flatK kc n ks.toArray t (by simpa using ht)
  rw [getElem!_pos _ t hs] at this
  rw [Ns hs, this]
  simp
 · rw [List.getElem?_eq_none (by simp; omega), List.getElem?_eq_none (by omega)]
theorem zk {w : World} {g n : Nat} {os : Array Go.Obj} {cur : Array Value} {e : TypeId} {fr : Nat × Nat} (F : Array Value) (hb : w.heap[g]? = some (.cells cur e fr)) :
  (grow (putRow id (Sort.ahead w n) g 0 F) os).heap[g]? = some (.cells (putCells id 0 F cur) e fr) := by
 have hg : g < w.heap.size := (Lp.1 hb).1
 rw [heap_grow_old _ _ (by simpa using hg)]
 simp [putRow, mapBlock, Sort.ahead, Array.getElem?_modify, hb, onCells]
theorem vC {w : World} {g n : Nat} {os : Array Go.Obj} (F : Array Value) : w.grownBy (grow (putRow id (Sort.ahead w n) g 0 F) os) (some g) := by
 refine ⟨rfl, rfl, rfl, by simp, fun k hk hne => ?_⟩
 rw [heap_grow_old _ _ (by simpa using hk)]
 have : g ≠ k := fun e => hne (by rw [e])
 simp [putRow, mapBlock, Sort.ahead, Array.getElem?_modify, this]
theorem yc (cur F : Array Value) (h : F.size ≤ cur.size) : (putCells id 0 F cur).toList.take F.size = F.toList := by
 apply List.ext_getElem?
 intro j
 by_cases hj : j < F.size
 ·
  rw [List.getElem?_take_of_lt hj, Nq]
  simp [putCells, hj, show j < cur.size by omega]
 · rw [List.getElem?_take_eq_none (by omega), List.getElem?_eq_none (by simp; omega)]
instance inh_addr : Inhabited (Ky 20) := ⟨⟨List.replicate 20 0, by simp⟩⟩
theorem wG (cf : FuncId) (hc : ∀ l m : List UInt8, l.length = 20 → m.length = 20 → ∀ w, Calls Tryz.prog cf #[bT l, bT m] w fun e w' => e = .returned (.int .i64 (iH l m)) ∧ ∃ q os', w' = grow (w.drewN q) os') (ec : ∀ args w, (callFunc cf args).run Tryz.prog w = .ok (.enter cf args) w)
  (g cap : Nat) (ks : List (Ky 20)) (w : World) (hl : ks.length < 4611686018427387904) (hH : HoldsK kc 20 w g 0 ks.toArray) (hb : g < w.heap.size) :
  Calls Tryz.prog 61 #[.slice (some ⟨g, 0, none⟩) ks.length cap, .func (.func cf) #[] #[]] w fun e w' => e = .returned (.tuple #[]) ∧ ∃ n os, w' = grow (putRow id (Sort.ahead w n) g 0 (flatK kc 20 (ks.mergeSort fun x y => decide (x.1 ≤ y.1)).toArray)) os := by
 have hT : ∀ x y : Ky 20, ltOf (fun x y : Ky 20 => iH x.1 y.1) x y = false → ltOf (fun x y : Ky 20 => iH x.1 y.1) y x = false → x = y := fun x y h1 h2 => by
  rw [show ltOf (fun x y : Ky 20 => iH x.1 y.1) x y = decide (x.1 < y.1) from lg x.1 y.1] at h1
  rw [show ltOf (fun x y : Ky 20 => iH x.1 y.1) y x = decide (y.1 < x.1) from lg y.1 x.1] at h2
  simp only [decide_eq_false_iff_not, NG] at h1 h2
  exact Subtype.ext (NC h2 h1)
 have h := AnyQ.slices_SortFunc_total yx 20 Tryz.isAgg32 Tryz.sizeOf32 kc (fun x => by unfold kc; rw [bK, x.2]) (fun x v hv => nT x.1 v hv) (fun x y : Ky 20 => iH x.1 y.1) (swo 20) cf #[] g 0 cap ks.toArray w ec (fun m os dk hs x y => hc x.1 y.1 x.2 y.2 _) hH hb (by simpa using hl) hT
 have hf : (fun x y : Ky 20 => !(ltOf fun x y : Ky 20 => iH x.1 y.1) y x) = fun x y => decide (x.1 ≤ y.1) := by
  funext x y
  rw [show ltOf (fun x y : Ky 20 => iH x.1 y.1) y x = decide (y.1 < x.1) from lg y.1 x.1]
  by_cases h : y.1 < x.1
  · simp [h, List.not_le.2 h]
  · simp [h, List.not_lt.1 h]
 rw [hf] at h
 exact h.mono fun e w' ⟨he, n, os, hw⟩ => ⟨he, n, os, hw⟩
theorem C9 (cf : FuncId) (hc : ∀ l m : List UInt8, l.length = 20 → m.length = 20 → ∀ w, Calls Tryz.prog cf #[bT l, bT m] w fun e w' => e = .returned (.int .i64 (iH l m)) ∧ ∃ q os', w' = grow (w.drewN q) os') (ec : ∀ args w, (callFunc cf args).run Tryz.prog w = .ok (.enter cf args) w)
  (v : Value) (ks : List (Ky 20)) (hl : ks.length < 4611686018427387904) :
  FnM 61 [.v v, .v (.func (.func cf) #[] #[])] [.row v 32 20 (ks.map dK)] (fun r os' => r = .tpl [] ∧ os' = [.row v 32 20 ((ks.mergeSort fun x y => decide (x.1 ≤ y.1)).map dK)]) := by
 constructor
 intro ok w xs hok hown hr
 obtain ⟨x1, _, rfl, hx1, x2, _, rfl, hx2, rfl⟩ := hr
 obtain rfl := (aP.1 hx1).2
 obtain rfl := (aP.1 hx2).2
 obtain ⟨rows, ⟨hrow, hbase⟩, hrows⟩ := hown.at_ _ (KH ..)
 rw [kF _ _ hrows, KG] at hrow
 rcases hrow.2 with ⟨rfl, h0⟩ | ⟨g, cap, cur, rfl, _, hgb, r1, r2, r3, r4⟩
 ·
  obtain rfl : ks = [] := MN h0
  have hms : ([] : List (Ky 20)).mergeSort (fun x y => decide (x.1 ≤ y.1)) = [] := by simp
  rw [hms]
  refine (AnyF.slices_SortFunc_none yx none 0 (.func (.func cf) #[] #[]) w).mono ?_
  rintro e w' ⟨rfl, rfl⟩
  refine ⟨_, .tpl [], _, rfl, ⟨rfl, rfl⟩, ⟨.refl _, hown.apart, fun o ho => ?_⟩, [], rfl, rfl⟩
  obtain rfl : o = _ := by simpa using ho
  exact ⟨[], ⟨⟨by simp, .inl ⟨rfl, rfl⟩⟩, fun b hb => by cases hb⟩, gG []⟩
 ·
  have hlt := (Lp.1 hgb).1
  have hml : (ks.mergeSort fun x y => decide (x.1 ≤ y.1)).length = ks.length := List.length_mergeSort _
  have hH : HoldsK kc 20 w g 0 ks.toArray := fun j hj => by
   have hj' : j < ks.length * 20 := by simpa using hj
   have h1 : (cur.toList.take (ks.length * 20))[j]? = (ks.map kc).flatten[j]? := by rw [r4]
   rw [List.getElem?_take_of_lt hj', ← iR (by decide)] at h1
   refine ⟨?_, by simp [World.frozen?, hgb]⟩
   rw [cell_of_row w g (0 + j) cur 32 (0, 0) hgb, LQ, ← Nq, h1, Nq, Ns hj, getElem!_pos _ j hj]
   rfl
  refine (wG cf hc ec g cap ks w hl hH hlt).mono ?_
  rintro e w' ⟨rfl, n, os, rfl⟩
  have hg := vC (w := w) (g := g) (n := n) (os := os) (flatK kc 20 (ks.mergeSort fun x y => decide (x.1 ≤ y.1)).toArray)
  have hh := zk (n := n) (os := os) (flatK kc 20 (ks.mergeSort fun x y => decide (x.1 ≤ y.1)).toArray) hgb
  have hF : (flatK kc 20 (ks.mergeSort fun x y => decide (x.1 ≤ y.1)).toArray).size = ks.length * 20 := by rw [size_flatK]; simp [hml]
  have htk := yc cur (flatK kc 20 (ks.mergeSort fun x y => decide (x.1 ≤ y.1)).toArray) (by rw [hF, r3]; exact MV _ r1)
  rw [hF, iR (by decide)] at htk
  refine ⟨_, .tpl [], _, rfl, ⟨rfl, rfl⟩, ⟨⟨hg.os, hg.tape, hg.output, hg.size, fun k hk hn => hg.block k hk fun e => hn ?_⟩, .cons (fun _ h => by simp at h) .nil, fun o ho => ?_⟩, [], rfl, rfl⟩
  ·
   cases e
   exact ⟨_, KH .., rfl⟩
  ·
   obtain rfl : o = _ := by simpa using ho
   refine ⟨_, ⟨⟨?_, .inr ⟨g, cap, _, ?_, Lj _, hh, ?_, r2, ?_, ?_⟩⟩, fun b hb => .inl ⟨_, KH .., hb⟩⟩, gG _⟩
   · rw [← iR (by decide), NS, hF, KG, hml]
   · rw [KG, hml]
   ·
    rw [KG, hml]
    exact r1
   · simp [putCells, r3]
   ·
    rw [KG, hml]
    exact htk
instance inh_word : Inhabited (Ky 32) := ⟨⟨List.replicate 32 0, by simp⟩⟩
theorem wF (cf : FuncId) (hc : ∀ l m : List UInt8, l.length = 32 → m.length = 32 → ∀ w, Calls Tryz.prog cf #[bT l, bT m] w fun e w' => e = .returned (.int .i64 (iH l m)) ∧ ∃ q os', w' = grow (w.drewN q) os') (ec : ∀ args w, (callFunc cf args).run Tryz.prog w = .ok (.enter cf args) w)
  (g cap : Nat) (ks : List (Ky 32)) (w : World) (hl : ks.length < 4611686018427387904) (hH : HoldsK kc 32 w g 0 ks.toArray) (hb : g < w.heap.size) :
  Calls Tryz.prog 65 #[.slice (some ⟨g, 0, none⟩) ks.length cap, .func (.func cf) #[] #[]] w fun e w' => e = .returned (.tuple #[]) ∧ ∃ n os, w' = grow (putRow id (Sort.ahead w n) g 0 (flatK kc 32 (ks.mergeSort fun x y => decide (x.1 ≤ y.1)).toArray)) os := by
 have hT : ∀ x y : Ky 32, ltOf (fun x y : Ky 32 => iH x.1 y.1) x y = false → ltOf (fun x y : Ky 32 => iH x.1 y.1) y x = false → x = y := fun x y h1 h2 => by
  rw [show ltOf (fun x y : Ky 32 => iH x.1 y.1) x y = decide (x.1 < y.1) from lg x.1 y.1] at h1
  rw [show ltOf (fun x y : Ky 32 => iH x.1 y.1) y x = decide (y.1 < x.1) from lg y.1 x.1] at h2
  simp only [decide_eq_false_iff_not, NG] at h1 h2
  exact Subtype.ext (NC h2 h1)
 have h := AnyQ.slices_SortFunc_total yt 32 Tryz.isAgg34 Tryz.sizeOf34 kc (fun x => by unfold kc; rw [bK, x.2]) (fun x v hv => nT x.1 v hv) (fun x y : Ky 32 => iH x.1 y.1) (swo 32) cf #[] g 0 cap ks.toArray w ec (fun m os dk hs x y => hc x.1 y.1 x.2 y.2 _) hH hb (by simpa using hl) hT
 have hf : (fun x y : Ky 32 => !(ltOf fun x y : Ky 32 => iH x.1 y.1) y x) = fun x y => decide (x.1 ≤ y.1) := by
  funext x y
  rw [show ltOf (fun x y : Ky 32 => iH x.1 y.1) y x = decide (y.1 < x.1) from lg y.1 x.1]
  by_cases h : y.1 < x.1
  · simp [h, List.not_le.2 h]
  · simp [h, List.not_lt.1 h]
 rw [hf] at h
 exact h.mono fun e w' ⟨he, n, os, hw⟩ => ⟨he, n, os, hw⟩
theorem CZ (cf : FuncId) (hc : ∀ l m : List UInt8, l.length = 32 → m.length = 32 → ∀ w, Calls Tryz.prog cf #[bT l, bT m] w fun e w' => e = .returned (.int .i64 (iH l m)) ∧ ∃ q os', w' = grow (w.drewN q) os') (ec : ∀ args w, (callFunc cf args).run Tryz.prog w = .ok (.enter cf args) w)
  (v : Value) (ks : List (Ky 32)) (hl : ks.length < 4611686018427387904) :
  FnM 65 [.v v, .v (.func (.func cf) #[] #[])] [.row v 34 32 (ks.map dK)] (fun r os' => r = .tpl [] ∧ os' = [.row v 34 32 ((ks.mergeSort fun x y => decide (x.1 ≤ y.1)).map dK)]) := by
 constructor
 intro ok w xs hok hown hr
 obtain ⟨x1, _, rfl, hx1, x2, _, rfl, hx2, rfl⟩ := hr
 obtain rfl := (aP.1 hx1).2
 obtain rfl := (aP.1 hx2).2
 obtain ⟨rows, ⟨hrow, hbase⟩, hrows⟩ := hown.at_ _ (KH ..)
 rw [kF _ _ hrows, KG] at hrow
 rcases hrow.2 with ⟨rfl, h0⟩ | ⟨g, cap, cur, rfl, _, hgb, r1, r2, r3, r4⟩
 ·
  obtain rfl : ks = [] := MN h0
  have hms : ([] : List (Ky 32)).mergeSort (fun x y => decide (x.1 ≤ y.1)) = [] := by simp
  rw [hms]
  refine (AnyF.slices_SortFunc_none yt none 0 (.func (.func cf) #[] #[]) w).mono ?_
  rintro e w' ⟨rfl, rfl⟩
  refine ⟨_, .tpl [], _, rfl, ⟨rfl, rfl⟩, ⟨.refl _, hown.apart, fun o ho => ?_⟩, [], rfl, rfl⟩
  obtain rfl : o = _ := by simpa using ho
  exact ⟨[], ⟨⟨by simp, .inl ⟨rfl, rfl⟩⟩, fun b hb => by cases hb⟩, gG []⟩
 ·
  have hlt := (Lp.1 hgb).1
  have hml : (ks.mergeSort fun x y => decide (x.1 ≤ y.1)).length = ks.length := List.length_mergeSort _
  have hH : HoldsK kc 32 w g 0 ks.toArray := fun j hj => by
   have hj' : j < ks.length * 32 := by simpa using hj
   have h1 : (cur.toList.take (ks.length * 32))[j]? = (ks.map kc).flatten[j]? := by rw [r4]
   rw [List.getElem?_take_of_lt hj', ← iR (by decide)] at h1
   refine ⟨?_, by simp [World.frozen?, hgb]⟩
   rw [cell_of_row w g (0 + j) cur 34 (0, 0) hgb, LQ, ← Nq, h1, Nq, Ns hj, getElem!_pos _ j hj]
   rfl
  refine (wF cf hc ec g cap ks w hl hH hlt).mono ?_
  rintro e w' ⟨rfl, n, os, rfl⟩
  have hg := vC (w := w) (g := g) (n := n) (os := os) (flatK kc 32 (ks.mergeSort fun x y => decide (x.1 ≤ y.1)).toArray)
  have hh := zk (n := n) (os := os) (flatK kc 32 (ks.mergeSort fun x y => decide (x.1 ≤ y.1)).toArray) hgb
  have hF : (flatK kc 32 (ks.mergeSort fun x y => decide (x.1 ≤ y.1)).toArray).size = ks.length * 32 := by rw [size_flatK]; simp [hml]
  have htk := yc cur (flatK kc 32 (ks.mergeSort fun x y => decide (x.1 ≤ y.1)).toArray) (by rw [hF, r3]; exact MV _ r1)
  rw [hF, iR (by decide)] at htk
  refine ⟨_, .tpl [], _, rfl, ⟨rfl, rfl⟩, ⟨⟨hg.os, hg.tape, hg.output, hg.size, fun k hk hn => hg.block k hk fun e => hn ?_⟩, .cons (fun _ h => by simp at h) .nil, fun o ho => ?_⟩, [], rfl, rfl⟩
  ·
   cases e
   exact ⟨_, KH .., rfl⟩
  ·
   obtain rfl : o = _ := by simpa using ho
   refine ⟨_, ⟨⟨?_, .inr ⟨g, cap, _, ?_, Lj _, hh, ?_, r2, ?_, ?_⟩⟩, fun b hb => .inl ⟨_, KH .., hb⟩⟩, gG _⟩
   · rw [← iR (by decide), NS, hF, KG, hml]
   · rw [KG, hml]
   ·
    rw [KG, hml]
    exact r1
   · simp [putCells, r3]
   ·
    rw [KG, hml]
    exact htk
def unV : Value → List UInt8
 | .agg cs => cs.toList.map fun v => match v with
  | .int _ n => UInt8.ofNat n.toNat
  | _ => 0
 | _ => []
theorem rE (l : List UInt8) : unV (bT l) = l := by
 unfold bT unV bvs
 simp only [Me]
 refine (MP fun b _ => ?_).trans (List.map_id l)
 simp [bv]
theorem mY {α β γ : Type} {R : α → β → Prop} {f : α → γ} {g : β → γ} (h : ∀ a b, R a b → f a = g b) : ∀ {l : List α} {m : List β}, iL R l m → l.map f = m.map g
 | _, _, .nil => rfl
 | _, _, .cons h1 h2 => by rw [Lc, Lc, h _ _ h1, mY h h2]
theorem pX {α β : Type} {R : α → β → Prop} {l : List α} {m : List β} (h : iL R l m) {a : α} (ha : a ∈ l) : ∃ b ∈ m, R a b := by
 induction h with
 | nil => cases ha
 | cons h1 h2 ih =>
  rcases KI.1 ha with rfl | ha
  · exact ⟨_, KH .., h1⟩
  ·
   obtain ⟨b, hb, hr⟩ := ih ha
   exact ⟨b, KT _ hb, hr⟩
theorem mZ {α β : Type} {R : α → β → Prop} : ∀ {l : List α} {m : List β}, iL R l m → l.length = m.length
 | _, _, .nil => rfl
 | _, _, .cons _ h2 => by rw [LM, LM, mZ h2]
theorem D5 {n : Nat} (ks : List (Ky n)) : ks.map dK = (ks.map (·.1)).map (D.arr n) := by
 rw [Me]
 rfl
theorem zH : ∀ args w, (callFunc 62 args).run Tryz.prog w = .ok (.enter 62 args) w := enters_of Tryz.func62 (by kernel_rfl) rfl
theorem zQ (g m c : Nat) (es : List Ent) (hl : es.length * 20 ≤ 140737488355328) : FnM 77 [.v (.slice none 0 0), .v (.func (.func 62) #[] #[.pointer (some ⟨g, 0, none⟩)])] [.var g 52 (.v (.map (some m))), .map m 20 c es] (fun r os' => ∃ v, ∃ ks : List (Ky 20), r = .val (.v v) ∧ (ks.map (·.1)).Perm (es.map (·.2.1)) ∧ os' = [.row v 32 20 (ks.map dK), .var g 52 (.v (.map (some m))), .map m 20 c es]) := by
 constructor
 intro ok w xs hok hown hr
 obtain ⟨x1, _, rfl, hx1, x2, _, rfl, hx2, rfl⟩ := hr
 obtain rfl := (aP.1 hx1).2
 obtain rfl := (aP.1 hx2).2
 obtain ⟨_, cs, hg, hrd⟩ := hown.at_ _ (KH ..)
 obtain ⟨_, hent, arr, hm, hall⟩ := hown.at_ _ (KT _ (KH ..))
 rw [Reads] at hrd
 rw [hrd.2] at hg
 have hglt := (Lp.1 hg).1
 have hmlt := (Lp.1 hm).1
 have hbs : arr.toList.map (·.born) = es.map (·.1) := mY (fun a b h => h.born) hall
 have hks : arr.toList.map (·.key) = es.map fun x => bT x.2.1 := mY (fun a b h => h.key) hall
 have hsz : arr.size = es.length := by rw [← NS, mZ hall]
 have hseq : SeqStopsK Fence.wide 3 Tryz.prog 62 #[.pointer (some ⟨g, 0, none⟩)] (fun x : Ky 20 => #[kv x]) KeepsWalks (fun ss => (ss.map kv).Perm (arr.toList.map (·.key))) (fun _ => True) arr.size w := fun l J Jx W hW hJ _ hY h0 =>
  AA 3 l g m (by omega) arr c J Jx hY W hJ ((hW.cell (p := ⟨g, 0, none⟩) hglt).trans (by rw [cell_of_row w g 0 _ _ _ hg]; rfl)) ((hW.block m hmlt).trans hm) (by rw [hbs]; exact hent.borns)
   (fun x hx => by obtain ⟨y, hy, he⟩ := pX hall hx; rw [he.born]; exact hent.lt y hy)
   (fun x hx => by obtain ⟨y, hy, he⟩ := pX hall hx; exact ⟨⟨y.2.1, he.len⟩, he.key⟩) h0
 refine (callsIn_wide.1 (uo 4 (by omega) 62 #[.pointer (some ⟨g, 0, none⟩)] zH _ _ arr.size (by rw [hsz]; exact hl) w hseq)).mono ?_
 rintro e w' ⟨v, ks, rfl, hp, hrow, hnil, hB⟩
 have hp' : (ks.map (·.1)).Perm (es.map (·.2.1)) := by
  rw [hks] at hp
  have := hp.map unV
  rw [Me, Me] at this
  have e1 : ks.map (unV ∘ kv) = ks.map (·.1) := MP fun k _ => rE k.1
  have e2 : es.map (unV ∘ fun x => bT x.2.1) = es.map (·.2.1) := MP fun k _ => rE k.2.1
  rwa [e1, e2] at this
 have hnew : ∀ b, v.ownBlock = some b → w.heap.size ≤ b := fun b hb => (hrow.lt b hb).1
 refine ⟨v, .val (.v v), _, rfl, ⟨v, ks, rfl, hp', rfl⟩, ⟨.of hB, .cons (fun p hp b hb e => ?_) hown.apart, fun o ho => ?_⟩, aP.2 ⟨o8 hrow, rfl⟩⟩
 ·
  have h1 := hnew b hb
  have h2 := (Obj.cO (hown.at_ p hp) e).2
  omega
 ·
  rcases KI.1 ho with rfl | ho
  ·
   refine ⟨ks.map kc, ⟨?_, fun b hb => .inr (hnew b hb)⟩, gG ks⟩
   rw [KG]
   exact o9 hrow
  ·
   refine ((hown.at_ o ho).move (fun b hb => ⟨.inl hb, Ld (hok b hb) hB.size, fun o' ho' e => ?_⟩) (fun p hp => hB.cell (hok _ hp)) fun b hb => hB.block b (Obj.cO (hown.at_ o ho) hb).2).jS fun b hb => .inl ⟨o, ho, hb⟩
   rcases KI.1 ho' with rfl | ho'
   ·
    have := hnew b e
    have := hok b hb
    omega
   · exact hown.off b ⟨o', ho', e⟩ hb
theorem Dn (m : Nat) : FnM 39 [.v (.map (some m))] [] (fun r os' => ∃ g, r = .val (.v (.func (.func 62) #[] #[.pointer (some ⟨g, 0, none⟩)])) ∧ os' = [.var g 52 (.v (.map (some m)))]) := by
 refine FnM.walk 4 Tryz.func39 rfl Tryz.ntmps39 (by simp) fun X => ?_
 repeat
  (first
   | (apply ak; iterate 3 rfl) | (apply pY; iterate 3 rfl) | (apply aV; rfl; rfl; rfl; intro _) | apply EL.nil
   | (with_reducible first | apply EK.nc | apply EC.seq | apply EC.r0 | apply EC.k0 | apply EC.label | apply EC.b0 | apply EC.x0 | apply EC.ret | apply EK.n0 | apply EK.s0 | apply EK.aA | apply EK.aj | apply EK.ah))
 rename_i g
 exact EK.bn [.var g 52 (.v (.map (some m)))] rfl rfl (by (repeat first | exact KE _ | apply List.Sublist.cons_cons | apply List.Sublist.cons)) ⟨g, rfl, rfl⟩
theorem xI (g m c : Nat) (es : List Ent) (hl : es.length * 20 ≤ 140737488355328) : FnM 60 [.v (.func (.func 62) #[] #[.pointer (some ⟨g, 0, none⟩)])] [.var g 52 (.v (.map (some m))), .map m 20 c es] (fun r os' => ∃ v, ∃ ks : List (Ky 20), r = .val (.v v) ∧ (ks.map (·.1)).Perm (es.map (·.2.1)) ∧ os' = [.row v 32 20 (ks.map dK), .var g 52 (.v (.map (some m))), .map m 20 c es]) := by
 have h1 := zQ g m c es hl
 refine FnM.walk 5 Tryz.func60 rfl Tryz.ntmps60 (by simp) fun X => ?_
 repeat
  (first
   | (apply dM (os := [.var g 52 (.v (.map (some m))), .map m 20 c es]) h1; (iterate 2 rfl); exact au.refl _ _; (focus (intro _ _; simp [go_sem]; done)); (iterate 2 rfl); rintro _ _ ⟨v, ks, rfl, hp, rfl⟩)
   | (apply aB; iterate 3 rfl) | (apply ak; iterate 3 rfl) | apply EL.nil
   | (with_reducible first | apply EK.nc | apply EC.seq | apply EC.r0 | apply EC.k0 | apply EC.label | apply EC.b0 | apply EC.x0 | apply EC.ret | apply EK.n0 | apply EK.s0 | apply EK.aA | apply EK.aj | apply EK.ah))
 exact EK.bn [.row v 32 20 (ks.map dK), .var g 52 (.v (.map (some m))), .map m 20 c es] rfl rfl (by (repeat first | exact KE _ | apply List.Sublist.cons_cons | apply List.Sublist.cons)) ⟨v, ks, rfl, hp, rfl⟩
theorem yj (cf : FuncId) (hc : ∀ l m : List UInt8, l.length = 20 → m.length = 20 → ∀ w, Calls Tryz.prog cf #[bT l, bT m] w fun e w' => e = .returned (.int .i64 (iH l m)) ∧ ∃ q os', w' = grow (w.drewN q) os') (ec : ∀ args w, (callFunc cf args).run Tryz.prog w = .ok (.enter cf args) w)
  (g m c : Nat) (es : List Ent) (hl : es.length * 20 ≤ 140737488355328) : FnM 38 [.v (.func (.func 62) #[] #[.pointer (some ⟨g, 0, none⟩)]), .v (.func (.func cf) #[] #[])] [.var g 52 (.v (.map (some m))), .map m 20 c es] (fun r os' => ∃ v, r = .val (.v v) ∧ os' = [.row v 32 20 ((sortL (es.map (·.2.1))).map (D.arr 20)), .var g 52 (.v (.map (some m))), .map m 20 c es]) := by
 have h1 := xI g m c es hl
 refine FnM.walk 12 Tryz.func38 rfl Tryz.ntmps38 (by simp) fun X => ?_
 repeat
  (first
   | (apply dM (os := [.var g 52 (.v (.map (some m))), .map m 20 c es]) h1; (iterate 2 rfl); exact au.refl _ _; (focus (intro _ _; simp [go_sem]; done)); (iterate 2 rfl); rintro _ _ ⟨v, ks, rfl, hp, rfl⟩)
   | (apply aB; iterate 3 rfl) | (apply ak; iterate 3 rfl) | apply EL.nil
   | (with_reducible first | apply EK.nc | apply EC.seq | apply EC.r0 | apply EC.k0 | apply EC.label | apply EC.b0 | apply EC.x0 | apply EC.ret | apply EK.n0 | apply EK.s0 | apply EK.aA | apply EK.aj | apply EK.ah))
 have hkl : ks.length = es.length := by simpa using hp.length_eq
 have h2 := C9 cf hc ec v ks (by omega)
 repeat
  (first
   | (apply dM (os := [.row v 32 20 (ks.map dK)]) h2; (iterate 2 rfl); exact au.refl _ _; (focus (intro _ _; simp [go_sem]; done)); (iterate 2 rfl); rintro _ _ ⟨rfl, rfl⟩)
   | (apply aB; iterate 3 rfl) | (apply ak; iterate 3 rfl) | apply EL.nil
   | (with_reducible first | apply EK.nc | apply EC.seq | apply EC.r0 | apply EC.k0 | apply EC.label | apply EC.b0 | apply EC.x0 | apply EC.ret | apply EK.n0 | apply EK.s0 | apply EK.aA | apply EK.aj | apply EK.ah))
 have hs : (ks.mergeSort fun x y => decide (x.1 ≤ y.1)).map (·.1) = sortL (es.map (·.2.1)) := by
  refine yw (((List.mergeSort_perm ks _).map (·.1)).trans hp) ?_
  have h := List.pairwise_mergeSort (le := fun x y : Ky 20 => decide (x.1 ≤ y.1)) (fun a b c h1 h2 => by simp only [decide_eq_true_eq] at h1 h2 ⊢; exact List.le_trans h1 h2) (fun a b => by simp only [NU, decide_eq_true_eq]; exact List.le_total a.1 b.1) ks
  rw [Nv]
  exact h.imp fun h => by simpa using h
 exact EK.bn [.row v 32 20 ((ks.mergeSort fun x y => decide (x.1 ≤ y.1)).map dK), .var g 52 (.v (.map (some m))), .map m 20 c es] rfl rfl (by (repeat first | exact KE _ | apply List.Sublist.cons_cons | apply List.Sublist.cons)) ⟨v, rfl, by rw [D5, hs]⟩
theorem zG : ∀ args w, (callFunc 66 args).run Tryz.prog w = .ok (.enter 66 args) w := enters_of Tryz.func66 (by kernel_rfl) rfl
theorem zO (g m c : Nat) (es : List Ent) (hl : es.length * 32 ≤ 140737488355328) : FnM 80 [.v (.slice none 0 0), .v (.func (.func 66) #[] #[.pointer (some ⟨g, 0, none⟩)])] [.var g 59 (.v (.map (some m))), .map m 32 c es] (fun r os' => ∃ v, ∃ ks : List (Ky 32), r = .val (.v v) ∧ (ks.map (·.1)).Perm (es.map (·.2.1)) ∧ os' = [.row v 34 32 (ks.map dK), .var g 59 (.v (.map (some m))), .map m 32 c es]) := by
 constructor
 intro ok w xs hok hown hr
 obtain ⟨x1, _, rfl, hx1, x2, _, rfl, hx2, rfl⟩ := hr
 obtain rfl := (aP.1 hx1).2
 obtain rfl := (aP.1 hx2).2
 obtain ⟨_, cs, hg, hrd⟩ := hown.at_ _ (KH ..)
 obtain ⟨_, hent, arr, hm, hall⟩ := hown.at_ _ (KT _ (KH ..))
 rw [Reads] at hrd
 rw [hrd.2] at hg
 have hglt := (Lp.1 hg).1
 have hmlt := (Lp.1 hm).1
 have hbs : arr.toList.map (·.born) = es.map (·.1) := mY (fun a b h => h.born) hall
 have hks : arr.toList.map (·.key) = es.map fun x => bT x.2.1 := mY (fun a b h => h.key) hall
 have hsz : arr.size = es.length := by rw [← NS, mZ hall]
 have hseq : SeqStopsK Fence.wide 3 Tryz.prog 66 #[.pointer (some ⟨g, 0, none⟩)] (fun x : Ky 32 => #[kv x]) KeepsWalks (fun ss => (ss.map kv).Perm (arr.toList.map (·.key))) (fun _ => True) arr.size w := fun l J Jx W hW hJ _ hY h0 =>
  Az 3 l g m (by omega) arr c J Jx hY W hJ ((hW.cell (p := ⟨g, 0, none⟩) hglt).trans (by rw [cell_of_row w g 0 _ _ _ hg]; rfl)) ((hW.block m hmlt).trans hm) (by rw [hbs]; exact hent.borns)
   (fun x hx => by obtain ⟨y, hy, he⟩ := pX hall hx; rw [he.born]; exact hent.lt y hy)
   (fun x hx => by obtain ⟨y, hy, he⟩ := pX hall hx; exact ⟨⟨y.2.1, he.len⟩, he.key⟩) h0
 refine (callsIn_wide.1 (um 4 (by omega) 66 #[.pointer (some ⟨g, 0, none⟩)] zG _ _ arr.size (by rw [hsz]; exact hl) w hseq)).mono ?_
 rintro e w' ⟨v, ks, rfl, hp, hrow, hnil, hB⟩
 have hp' : (ks.map (·.1)).Perm (es.map (·.2.1)) := by
  rw [hks] at hp
  have := hp.map unV
  rw [Me, Me] at this
  have e1 : ks.map (unV ∘ kv) = ks.map (·.1) := MP fun k _ => rE k.1
  have e2 : es.map (unV ∘ fun x => bT x.2.1) = es.map (·.2.1) := MP fun k _ => rE k.2.1
  rwa [e1, e2] at this
 have hnew : ∀ b, v.ownBlock = some b → w.heap.size ≤ b := fun b hb => (hrow.lt b hb).1
 refine ⟨v, .val (.v v), _, rfl, ⟨v, ks, rfl, hp', rfl⟩, ⟨.of hB, .cons (fun p hp b hb e => ?_) hown.apart, fun o ho => ?_⟩, aP.2 ⟨o8 hrow, rfl⟩⟩
 ·
  have h1 := hnew b hb
  have h2 := (Obj.cO (hown.at_ p hp) e).2
  omega
 ·
  rcases KI.1 ho with rfl | ho
  ·
   refine ⟨ks.map kc, ⟨?_, fun b hb => .inr (hnew b hb)⟩, gG ks⟩
   rw [KG]
   exact o9 hrow
  ·
   refine ((hown.at_ o ho).move (fun b hb => ⟨.inl hb, Ld (hok b hb) hB.size, fun o' ho' e => ?_⟩) (fun p hp => hB.cell (hok _ hp)) fun b hb => hB.block b (Obj.cO (hown.at_ o ho) hb).2).jS fun b hb => .inl ⟨o, ho, hb⟩
   rcases KI.1 ho' with rfl | ho'
   ·
    have := hnew b e
    have := hok b hb
    omega
   · exact hown.off b ⟨o', ho', e⟩ hb
theorem Dl (m : Nat) : FnM 44 [.v (.map (some m))] [] (fun r os' => ∃ g, r = .val (.v (.func (.func 66) #[] #[.pointer (some ⟨g, 0, none⟩)])) ∧ os' = [.var g 59 (.v (.map (some m)))]) := by
 refine FnM.walk 4 Tryz.func44 rfl Tryz.ntmps44 (by simp) fun X => ?_
 repeat
  (first
   | (apply ak; iterate 3 rfl) | (apply pY; iterate 3 rfl) | (apply aV; rfl; rfl; rfl; intro _) | apply EL.nil
   | (with_reducible first | apply EK.nc | apply EC.seq | apply EC.r0 | apply EC.k0 | apply EC.label | apply EC.b0 | apply EC.x0 | apply EC.ret | apply EK.n0 | apply EK.s0 | apply EK.aA | apply EK.aj | apply EK.ah))
 rename_i g
 exact EK.bn [.var g 59 (.v (.map (some m)))] rfl rfl (by (repeat first | exact KE _ | apply List.Sublist.cons_cons | apply List.Sublist.cons)) ⟨g, rfl, rfl⟩
theorem xH (g m c : Nat) (es : List Ent) (hl : es.length * 32 ≤ 140737488355328) : FnM 64 [.v (.func (.func 66) #[] #[.pointer (some ⟨g, 0, none⟩)])] [.var g 59 (.v (.map (some m))), .map m 32 c es] (fun r os' => ∃ v, ∃ ks : List (Ky 32), r = .val (.v v) ∧ (ks.map (·.1)).Perm (es.map (·.2.1)) ∧ os' = [.row v 34 32 (ks.map dK), .var g 59 (.v (.map (some m))), .map m 32 c es]) := by
 have h1 := zO g m c es hl
 refine FnM.walk 5 Tryz.func64 rfl Tryz.ntmps64 (by simp) fun X => ?_
 repeat
  (first
   | (apply dM (os := [.var g 59 (.v (.map (some m))), .map m 32 c es]) h1; (iterate 2 rfl); exact au.refl _ _; (focus (intro _ _; simp [go_sem]; done)); (iterate 2 rfl); rintro _ _ ⟨v, ks, rfl, hp, rfl⟩)
   | (apply aB; iterate 3 rfl) | (apply ak; iterate 3 rfl) | apply EL.nil
   | (with_reducible first | apply EK.nc | apply EC.seq | apply EC.r0 | apply EC.k0 | apply EC.label | apply EC.b0 | apply EC.x0 | apply EC.ret | apply EK.n0 | apply EK.s0 | apply EK.aA | apply EK.aj | apply EK.ah))
 exact EK.bn [.row v 34 32 (ks.map dK), .var g 59 (.v (.map (some m))), .map m 32 c es] rfl rfl (by (repeat first | exact KE _ | apply List.Sublist.cons_cons | apply List.Sublist.cons)) ⟨v, ks, rfl, hp, rfl⟩
theorem yh (cf : FuncId) (hc : ∀ l m : List UInt8, l.length = 32 → m.length = 32 → ∀ w, Calls Tryz.prog cf #[bT l, bT m] w fun e w' => e = .returned (.int .i64 (iH l m)) ∧ ∃ q os', w' = grow (w.drewN q) os') (ec : ∀ args w, (callFunc cf args).run Tryz.prog w = .ok (.enter cf args) w)
  (g m c : Nat) (es : List Ent) (hl : es.length * 32 ≤ 140737488355328) : FnM 43 [.v (.func (.func 66) #[] #[.pointer (some ⟨g, 0, none⟩)]), .v (.func (.func cf) #[] #[])] [.var g 59 (.v (.map (some m))), .map m 32 c es] (fun r os' => ∃ v, r = .val (.v v) ∧ os' = [.row v 34 32 ((sortL (es.map (·.2.1))).map (D.arr 32)), .var g 59 (.v (.map (some m))), .map m 32 c es]) := by
 have h1 := xH g m c es hl
 refine FnM.walk 12 Tryz.func43 rfl Tryz.ntmps43 (by simp) fun X => ?_
 repeat
  (first
   | (apply dM (os := [.var g 59 (.v (.map (some m))), .map m 32 c es]) h1; (iterate 2 rfl); exact au.refl _ _; (focus (intro _ _; simp [go_sem]; done)); (iterate 2 rfl); rintro _ _ ⟨v, ks, rfl, hp, rfl⟩)
   | (apply aB; iterate 3 rfl) | (apply ak; iterate 3 rfl) | apply EL.nil
   | (with_reducible first | apply EK.nc | apply EC.seq | apply EC.r0 | apply EC.k0 | apply EC.label | apply EC.b0 | apply EC.x0 | apply EC.ret | apply EK.n0 | apply EK.s0 | apply EK.aA | apply EK.aj | apply EK.ah))
 have hkl : ks.length = es.length := by simpa using hp.length_eq
 have h2 := CZ cf hc ec v ks (by omega)
 repeat
  (first
   | (apply dM (os := [.row v 34 32 (ks.map dK)]) h2; (iterate 2 rfl); exact au.refl _ _; (focus (intro _ _; simp [go_sem]; done)); (iterate 2 rfl); rintro _ _ ⟨rfl, rfl⟩)
   | (apply aB; iterate 3 rfl) | (apply ak; iterate 3 rfl) | apply EL.nil
   | (with_reducible first | apply EK.nc | apply EC.seq | apply EC.r0 | apply EC.k0 | apply EC.label | apply EC.b0 | apply EC.x0 | apply EC.ret | apply EK.n0 | apply EK.s0 | apply EK.aA | apply EK.aj | apply EK.ah))
 have hs : (ks.mergeSort fun x y => decide (x.1 ≤ y.1)).map (·.1) = sortL (es.map (·.2.1)) := by
  refine yw (((List.mergeSort_perm ks _).map (·.1)).trans hp) ?_
  have h := List.pairwise_mergeSort (le := fun x y : Ky 32 => decide (x.1 ≤ y.1)) (fun a b c h1 h2 => by simp only [decide_eq_true_eq] at h1 h2 ⊢; exact List.le_trans h1 h2) (fun a b => by simp only [NU, decide_eq_true_eq]; exact List.le_total a.1 b.1) ks
  rw [Nv]
  exact h.imp fun h => by simpa using h
 exact EK.bn [.row v 34 32 ((ks.mergeSort fun x y => decide (x.1 ≤ y.1)).map dK), .var g 59 (.v (.map (some m))), .map m 32 c es] rfl rfl (by (repeat first | exact KE _ | apply List.Sublist.cons_cons | apply List.Sublist.cons)) ⟨v, rfl, by rw [D5, hs]⟩
end E
end Go.Proofs.YtkhjanjlcdhdcaaGreat
namespace Go.Proofs.YtkhjanjlcdhdcaaGreat
set_option linter.unusedVariables false
open Go.RowKit Mono Rlp Wd
namespace E
theorem Le.qR {N : Nat} {X : Cx N} {rs : List (Tmp × R)} {os : List Obj} {fs : List (Value × D)} (ix : List Nat) (l l' rest : List Obj) (hos : os = l ++ rest) (hn : l.length = ix.length) (h : ix.Perm (List.range ix.length)) (hp : (ix.filterMap fun i => l[i]?) = l') : Le X ⟨rs, os, fs⟩ ⟨rs, l' ++ rest, fs⟩ := by
 subst hos hp
 exact Le.perm (NZ _ (jv ix hn h))
structure AcL where
 a : List UInt8
 n : Int
 w : List UInt8
 cd : List UInt8
 sl : List (List UInt8 × List UInt8)
def aZ (x : List UInt8 × List UInt8) : D := .tup [.arr 32 x.1, .arr 32 x.2]
def aI (x : AcL) : D := .tup [.arr 20 x.a, .v (.int .i64 x.n), .arr 32 x.w, .bs x.cd, .sl 64 (x.sl.map aZ)]
structure AcL.Is (x : AcL) (y : Ac) : Prop where
 n : x.n = y.n
 w : x.w = y.w
 cd : x.cd = y.cd
 ord : x.sl.Pairwise fun p q => p.1 < q.1
 val : ∀ p ∈ x.sl, p.2 = y.sl p.1 ∧ p.2 ≠ zero32
 all : ∀ k, y.sl k ≠ zero32 → ∃ p ∈ x.sl, p.1 = k
structure CU (A : As) (K : List (List UInt8)) (L : List AcL) : Prop where
 ord : L.Pairwise fun x y => x.a < y.a
 mem : ∀ x ∈ L, x.a ∈ K ∧ x.Is (A x.a) ∧ A x.a ≠ Ac.zero
 all : ∀ a ∈ K, A a ≠ Ac.zero → ∃ x ∈ L, x.a = a
structure Canon (A : As) (L : List AcL) : Prop where
 ord : L.Pairwise fun x y => x.a < y.a
 mem : ∀ x ∈ L, x.Is (A x.a) ∧ A x.a ≠ Ac.zero
 all : ∀ a, A a ≠ Ac.zero → ∃ x ∈ L, x.a = a
theorem nH {α : Type} {key : α → List UInt8} {l m : List α} (hl : l.Pairwise fun x y => key x < key y) (hm : m.Pairwise fun x y => key x < key y) (h1 : ∀ x ∈ l, x ∈ m) (h2 : ∀ x ∈ m, x ∈ l) : l = m := by
 have nod : ∀ l : List α, l.Pairwise (fun x y => key x < key y) → l.Nodup := fun l h => h.imp fun {x y} h e => by subst e; exact L9 _ h
 have hp : l.Perm m := (List.perm_ext_iff_of_nodup (nod l hl) (nod m hm)).2 fun x => ⟨h1 x, h2 x⟩
 exact List.Perm.eq_of_pairwise (fun a b _ _ h h' => absurd (NJ h h') (L9 _)) hl hm hp
theorem AcL.Is.eq {x y : AcL} {z : Ac} (h : x.Is z) (k : y.Is z) (e : x.a = y.a) : x = y := by
 have hs : x.sl = y.sl := nH (key := fun p : List UInt8 × List UInt8 => p.1) h.ord k.ord (fun p hp => by
   obtain ⟨h1, h2⟩ := h.val p hp
   obtain ⟨q, hq, hk⟩ := k.all p.1 (h1 ▸ h2)
   have : p = q := Prod.ext hk.symm (by rw [h1, (k.val q hq).1, hk])
   rwa [this])
  (fun p hp => by
   obtain ⟨h1, h2⟩ := k.val p hp
   obtain ⟨q, hq, hk⟩ := h.all p.1 (h1 ▸ h2)
   have : p = q := Prod.ext hk.symm (by rw [h1, (h.val q hq).1, hk])
   rwa [this])
 cases x
 cases y
 simp only [AcL.mk.injEq]
 exact ⟨e, h.n.trans k.n.symm, h.w.trans k.w.symm, h.cd.trans k.cd.symm, hs⟩
theorem Canon.eq {A : As} {L M : List AcL} (h : Canon A L) (k : Canon A M) : L = M := by
 have one : ∀ {L M : List AcL}, Canon A L → Canon A M → ∀ x ∈ L, x ∈ M := fun {L M} h k x hx => by
  obtain ⟨h1, h2⟩ := h.mem x hx
  obtain ⟨y, hy, e⟩ := k.all x.a h2
  have := (k.mem y hy).1
  rw [e] at this
  rw [h1.eq this e.symm]
  exact hy
 exact nH (key := AcL.a) h.ord k.ord (one h k) (one k h)
theorem CU.canon {A : As} {K : List (List UInt8)} {L : List AcL} (h : CU A K L) (hK : ∀ a, A a ≠ Ac.zero → a ∈ K) : Canon A L := ⟨h.ord, fun x hx => (h.mem x hx).2, fun a ha => h.all a (hK a ha) ha⟩
theorem CU.nil {A : As} : CU A [] [] := ⟨.nil, fun x hx => by simp at hx, fun a ha => by simp at ha⟩
theorem CU.skip {A : As} {K : List (List UInt8)} {L : List AcL} (h : CU A K L) {a : List UInt8} (ha : A a = Ac.zero) : CU A (K ++ [a]) L := ⟨h.ord, fun x hx => ⟨KX _ (h.mem x hx).1, (h.mem x hx).2⟩, fun b hb hne => by
 rcases Lm.1 hb with hb | hb
 · exact h.all b hb hne
 ·
  obtain rfl : b = a := by simpa using hb
  exact absurd ha hne⟩
theorem CU.take {A : As} {K : List (List UInt8)} {L : List AcL} (h : CU A K L) {x : AcL} (hx : x.Is (A x.a)) (hne : A x.a ≠ Ac.zero) (hlt : ∀ b ∈ K, b < x.a) : CU A (K ++ [x.a]) (L ++ [x]) := ⟨LC.2 ⟨h.ord, List.pairwise_singleton _ _, fun y hy z hz => by
  obtain rfl : z = x := by simpa using hz
  exact hlt _ (h.mem y hy).1⟩, fun y hy => by
  rcases Lm.1 hy with hy | hy
  · exact ⟨KX _ (h.mem y hy).1, (h.mem y hy).2⟩
  ·
   obtain rfl : y = x := by simpa using hy
   exact ⟨by simp, hx, hne⟩, fun b hb hb' => by
  rcases Lm.1 hb with hb | hb
  ·
   obtain ⟨y, hy, e⟩ := h.all b hb hb'
   exact ⟨y, KX _ hy, e⟩
  ·
   obtain rfl : b = x.a := by simpa using hb
   exact ⟨x, by simp, rfl⟩⟩
theorem zl : ∀ (es : List Ent) (k : List UInt8) (d : D), bC es k = some d → ∃ e ∈ es, e.2.1 = k ∧ e.2.2 = d
 | [], k, d, h => by simp [bC] at h
 | x :: es, k, d, h => by
  rw [bC] at h
  split at h
  ·
   rename_i he
   cases h
   exact ⟨x, KH .., by simpa using he, rfl⟩
  ·
   obtain ⟨e, he, h1⟩ := zl es k d h
   exact ⟨e, KT _ he, h1⟩
theorem vF {es : List Ent} {k : List UInt8} (h : k ∈ es.map (·.2.1)) : ∃ d, bC es k = some d := by
 cases hg : bC es k with
 | none => exact absurd h ((iP es k).1 hg)
 | some d => exact ⟨d, rfl⟩
theorem yu {l : List (List UInt8)} (h : l.Nodup) : (sortL l).Pairwise (· < ·) := by
 have hn : (sortL l).Nodup := (ig l).nodup_iff.2 h
 have := (oZ l).and hn
 refine this.imp fun {a b} ⟨h1, h2⟩ => ?_
 rcases List.le_total b a with h3 | h3
 · exact absurd (NC h1 h3) h2
 · exact LU fun h4 => h2 (NC h1 (NG.1 h4))
def slots (x : Ac) (ss : List Ent) : List (List UInt8 × List UInt8) := (sortL (ss.map (·.2.1))).map fun k => (k, x.sl k)
theorem PA.Is.list {p : PA} {x : Ac} {N : Nat} (h : p.Is x N) (a : List UInt8) : (⟨a, p.n, p.w, p.cd, slots x p.ss⟩ : AcL).Is x := by
 refine ⟨h.n, h.w, h.cd, ?_, fun q hq => ?_, fun k hk => ?_⟩
 ·
  show (slots x p.ss).Pairwise _
  unfold slots
  rw [Nv]
  exact yu h.nod
 ·
  obtain ⟨k, hk, rfl⟩ := Lh.1 hq
  refine ⟨rfl, ?_⟩
  obtain ⟨d, hd⟩ := vF ((ig _).mem_iff.1 hk)
  obtain ⟨e, he, h1, h2⟩ := zl _ _ _ hd
  obtain ⟨v, hv, hne⟩ := h.ent e he
  have := h.sl k
  unfold slE at this
  rw [hd, ← h2, hv] at this
  have : v = x.sl k := by simpa using this
  dsimp only
  rw [← this]
  exact hne
 ·
  refine ⟨(k, x.sl k), Lh.2 ⟨k, ?_, rfl⟩, rfl⟩
  refine (ig _).mem_iff.2 ?_
  refine LU fun hn => hk ?_
  have := h.sl k
  unfold slE at this
  rw [(iP _ _).2 hn] at this
  simpa using this.symm
end E
end Go.Proofs.YtkhjanjlcdhdcaaGreat
