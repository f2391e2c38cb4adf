/-
 Merged: lemmas of this claim.
 Conditions: none.
-/
import Derived.Test.YtohlgnfachkmaaaGreatZA15
import Derived.Shelf.SlSortCmp.NoneTotal
import Derived.Test.YtohlgnfachkmaaaGreatZA11
import Derived.Test.YtohlgnfachkmaaaGreatZA12
import Derived.Test.YtohlgnfachkmaaaGreatZA14
import Derived.Test.YtohlgnfachkmaaaGreatZA0
namespace Go.Proofs.YtohlgnfachkmaaaGreat
set_option linter.unusedVariables false
set_option maxRecDepth 20000
set_option maxHeartbeats 2000000
open Go.RowKit Mono Rlp Go.Sort
namespace E
def sortL (l : List (List UInt8)) : List (List UInt8) := l.mergeSort fun a b => decide (a ≤ b)
theorem aW (l : List (List UInt8)) : (sortL l).Perm l := Oi _ _
theorem gU (l : List (List UInt8)) : (sortL l).Pairwise (· ≤ ·) := by
 have h := NT (le := fun a b : List UInt8 => decide (a ≤ b)) (fun a b c h1 h2 => by simp only [decide_eq_true_eq] at h1 h2 ⊢; exact Om h1 h2) (fun a b => by simp only [NH, decide_eq_true_eq]; exact OI a b) l
 exact h.imp fun h => by simpa using h
theorem gu {l m : List (List UInt8)} (hp : m.Perm l) (hs : m.Pairwise (· ≤ ·)) : m = sortL l :=
 List.Perm.eq_of_pairwise (fun a b _ _ h1 h2 => NV h1 h2) hs (gU l) (hp.trans (aW l).symm)
theorem zU {n : Nat} (hn : 0 < n) [Inhabited (Ky n)] : ∀ (ks : List (Ky n)) (t : Nat), t < ks.length * n → (ks.map kc).flatten[t]? = some ((kc (ks[t / n]!))[t % n]!)
 | [], t, h => by simp at h
 | k :: ks, t, h => by
  have hk : (kc k).length = n := by unfold kc; rw [aS, k.2]
  rw [LV, MP]
  by_cases ht : t < n
  ·
   rw [MZ (by omega), Nat.div_eq_of_lt ht, Nat.mod_eq_of_lt ht]
   simp [hk, ht]
  ·
   rw [MV (by omega), hk, zU hn ks (t - n) (by simp [Nat.add_mul] at h; omega)]
   have h1 : t / n = (t - n) / n + 1 := by
    conv => lhs; rw [show t = t - n + n by omega, Nat.add_div_right _ hn]
   have h2 : t % n = (t - n) % n := by
    conv => lhs; rw [show t = t - n + n by omega, Nat.add_mod_right]
   rw [h1, h2]
   simp
theorem fU {n : Nat} (hn : 0 < n) [Inhabited (Ky n)] (ks : List (Ky n)) : (flatK kc n ks.toArray).toList = (ks.map kc).flatten := by
 have hl : (ks.map kc).flatten.length = ks.length * n := by
  have : ∀ ks : List (Ky n), (ks.map kc).flatten.length = ks.length * n := fun ks => by
   induction ks with
   | nil => simp
   | cons k ks ih =>
    have hk : (kc k).length = n := by unfold kc; rw [aS, k.2]
    rw [LV, MP, List.length_append, ih, hk, Me, Nq, NR, Nat.add_comm]
  exact this ks
 refine List.ext_getElem? fun t => ?_
 by_cases ht : t < ks.length * n
 ·
  rw [zU hn ks t ht, NP]
  have hs : t < (flatK kc n ks.toArray).size := by simpa using ht
  have := get_flatK kc n ks.toArray t (by simpa using ht)
  rw [getElem!_pos _ t hs] at this
  rw [Nv hs, this]
  simp
 · rw [List.getElem?_eq_none (by simp; omega), List.getElem?_eq_none (by omega)]
theorem wR {w : World} {g n : Nat} {os : Array Go.Obj} {cur : Array Value} {e : TypeId} {fr : Nat × Nat} (F : Array Value) (hb : w.heap[g]? = some (.cells cur e fr)) :
  (grow (putRow id (Sort.ahead w n) g 0 F) os).heap[g]? = some (.cells (putCells id 0 F cur) e fr) := by
 have hg : g < w.heap.size := (LQ.1 hb).1
 rw [heap_grow_old _ _ (by simpa using hg)]
 simp [putRow, mapBlock, Sort.ahead, Array.getElem?_modify, hb, onCells]
theorem sG {w : World} {g n : Nat} {os : Array Go.Obj} (F : Array Value) : w.grownBy (grow (putRow id (Sort.ahead w n) g 0 F) os) (some g) := by
 refine ⟨rfl, rfl, rfl, by simp, fun k hk hne => ?_⟩
 rw [heap_grow_old _ _ (by simpa using hk)]
 have : g ≠ k := fun e => hne (by rw [e])
 simp [putRow, mapBlock, Sort.ahead, Array.getElem?_modify, this]
theorem vk (cur F : Array Value) (h : F.size ≤ cur.size) : (putCells id 0 F cur).toList.take F.size = F.toList := by
 apply List.ext_getElem?
 intro j
 by_cases hj : j < F.size
 ·
  rw [Oe hj, NP]
  simp [putCells, hj, show j < cur.size by omega]
 · rw [List.getElem?_take_eq_none (by omega), List.getElem?_eq_none (by simp; omega)]
instance inh_addr : Inhabited (Ky 20) := ⟨⟨List.replicate 20 0, by simp⟩⟩
theorem tZ (cf : FuncId) (hc : ∀ l m : List UInt8, l.length = 20 → m.length = 20 → ∀ w, Calls Tryz.prog cf #[aT l, aT m] w fun e w' => e = .returned (.int .i64 (dA l m)) ∧ ∃ q os', w' = grow (w.drewN q) os') (ec : ∀ args w, (callFunc cf args).run Tryz.prog w = .ok (.enter cf args) w)
  (g cap : Nat) (ks : List (Ky 20)) (w : World) (hl : ks.length < 4611686018427387904) (hH : HoldsK kc 20 w g 0 ks.toArray) (hb : g < w.heap.size) :
  Calls Tryz.prog 111 #[.slice (some ⟨g, 0, none⟩) ks.length cap, .func (.func cf) #[] #[]] w fun e w' => e = .returned (.tuple #[]) ∧ ∃ n os, w' = grow (putRow id (Sort.ahead w n) g 0 (flatK kc 20 (ks.mergeSort fun x y => decide (x.1 ≤ y.1)).toArray)) os := by
 have hT : ∀ x y : Ky 20, ltOf (fun x y : Ky 20 => dA x.1 y.1) x y = false → ltOf (fun x y : Ky 20 => dA x.1 y.1) y x = false → x = y := fun x y h1 h2 => by
  rw [show ltOf (fun x y : Ky 20 => dA x.1 y.1) x y = decide (x.1 < y.1) from iO x.1 y.1] at h1
  rw [show ltOf (fun x y : Ky 20 => dA x.1 y.1) y x = decide (y.1 < x.1) from iO y.1 x.1] at h2
  simp only [decide_eq_false_iff_not, NJ] at h1 h2
  exact Subtype.ext (NV h2 h1)
 have h := AnyQ.slices_SortFunc_total vK 20 Tryz.isAgg36 Tryz.sizeOf36 kc (fun x => by unfold kc; rw [aS, x.2]) (fun x v hv => kX x.1 v hv) (fun x y : Ky 20 => dA x.1 y.1) (swo 20) cf #[] g 0 cap ks.toArray w ec (fun m os dk hs x y => hc x.1 y.1 x.2 y.2 _) hH hb (by simpa using hl) hT
 have hf : (fun x y : Ky 20 => !(ltOf fun x y : Ky 20 => dA x.1 y.1) y x) = fun x y => decide (x.1 ≤ y.1) := by
  funext x y
  rw [show ltOf (fun x y : Ky 20 => dA x.1 y.1) y x = decide (y.1 < x.1) from iO y.1 x.1]
  by_cases h : y.1 < x.1
  · simp [h, List.not_le.2 h]
  · simp [h, List.not_lt.1 h]
 rw [hf] at h
 exact h.mono fun e w' ⟨he, n, os, hw⟩ => ⟨he, n, os, hw⟩
theorem Aq (cf : FuncId) (hc : ∀ l m : List UInt8, l.length = 20 → m.length = 20 → ∀ w, Calls Tryz.prog cf #[aT l, aT m] w fun e w' => e = .returned (.int .i64 (dA l m)) ∧ ∃ q os', w' = grow (w.drewN q) os') (ec : ∀ args w, (callFunc cf args).run Tryz.prog w = .ok (.enter cf args) w)
  (v : Value) (ks : List (Ky 20)) (hl : ks.length < 4611686018427387904) :
  FnM 111 [.v v, .v (.func (.func cf) #[] #[])] [.row v 36 20 (ks.map dK)] (fun r os' => r = .tpl [] ∧ os' = [.row v 36 20 ((ks.mergeSort fun x y => decide (x.1 ≤ y.1)).map dK)]) := by
 constructor
 intro ok w xs hok hown hr
 obtain ⟨x1, _, rfl, hx1, x2, _, rfl, hx2, rfl⟩ := hr
 obtain rfl := (aG.1 hx1).2
 obtain rfl := (aG.1 hx2).2
 obtain ⟨rows, ⟨hrow, hbase⟩, hrows⟩ := hown.at_ _ (Ld ..)
 rw [jk _ _ hrows, Lc] at hrow
 rcases hrow.2 with ⟨rfl, h0⟩ | ⟨g, cap, cur, rfl, _, hgb, r1, r2, r3, r4⟩
 ·
  obtain rfl : ks = [] := ML h0
  have hms : ([] : List (Ky 20)).mergeSort (fun x y => decide (x.1 ≤ y.1)) = [] := by simp
  rw [hms]
  refine (AnyF.slices_SortFunc_none vK none 0 (.func (.func cf) #[] #[]) w).mono ?_
  rintro e w' ⟨rfl, rfl⟩
  refine ⟨_, .tpl [], _, rfl, ⟨rfl, rfl⟩, ⟨.refl _, hown.apart, fun o ho => ?_⟩, [], rfl, rfl⟩
  obtain rfl : o = _ := by simpa using ho
  exact ⟨[], ⟨⟨by simp, .inl ⟨rfl, rfl⟩⟩, fun b hb => by cases hb⟩, dV []⟩
 ·
  have hlt := (LQ.1 hgb).1
  have hml : (ks.mergeSort fun x y => decide (x.1 ≤ y.1)).length = ks.length := List.length_mergeSort _
  have hH : HoldsK kc 20 w g 0 ks.toArray := fun j hj => by
   have hj' : j < ks.length * 20 := by simpa using hj
   have h1 : (cur.toList.take (ks.length * 20))[j]? = (ks.map kc).flatten[j]? := by rw [r4]
   rw [Oe hj', ← fU (by decide)] at h1
   refine ⟨?_, by simp [World.frozen?, hgb]⟩
   rw [cell_of_row w g (0 + j) cur 36 (0, 0) hgb, MH, ← NP, h1, NP, Nv hj, getElem!_pos _ j hj]
   rfl
  refine (tZ cf hc ec g cap ks w hl hH hlt).mono ?_
  rintro e w' ⟨rfl, n, os, rfl⟩
  have hg := sG (w := w) (g := g) (n := n) (os := os) (flatK kc 20 (ks.mergeSort fun x y => decide (x.1 ≤ y.1)).toArray)
  have hh := wR (n := n) (os := os) (flatK kc 20 (ks.mergeSort fun x y => decide (x.1 ≤ y.1)).toArray) hgb
  have hF : (flatK kc 20 (ks.mergeSort fun x y => decide (x.1 ≤ y.1)).toArray).size = ks.length * 20 := by rw [size_flatK]; simp [hml]
  have htk := vk cur (flatK kc 20 (ks.mergeSort fun x y => decide (x.1 ≤ y.1)).toArray) (by rw [hF, r3]; exact NC _ r1)
  rw [hF, fU (by decide)] at htk
  refine ⟨_, .tpl [], _, rfl, ⟨rfl, rfl⟩, ⟨⟨hg.os, hg.tape, hg.output, hg.size, fun k hk hn => hg.block k hk fun e => hn ?_⟩, .cons (fun _ h => by simp at h) .nil, fun o ho => ?_⟩, [], rfl, rfl⟩
  ·
   cases e
   exact ⟨_, Ld .., rfl⟩
  ·
   obtain rfl : o = _ := by simpa using ho
   refine ⟨_, ⟨⟨?_, .inr ⟨g, cap, _, ?_, LH _, hh, ?_, r2, ?_, ?_⟩⟩, fun b hb => .inl ⟨_, Ld .., hb⟩⟩, dV _⟩
   · rw [← fU (by decide), NI, hF, Lc, hml]
   · rw [Lc, hml]
   ·
    rw [Lc, hml]
    exact r1
   · simp [putCells, r3]
   ·
    rw [Lc, hml]
    exact htk
instance inh_word : Inhabited (Ky 32) := ⟨⟨List.replicate 32 0, by simp⟩⟩
theorem tY (cf : FuncId) (hc : ∀ l m : List UInt8, l.length = 32 → m.length = 32 → ∀ w, Calls Tryz.prog cf #[aT l, aT m] w fun e w' => e = .returned (.int .i64 (dA l m)) ∧ ∃ q os', w' = grow (w.drewN q) os') (ec : ∀ args w, (callFunc cf args).run Tryz.prog w = .ok (.enter cf args) w)
  (g cap : Nat) (ks : List (Ky 32)) (w : World) (hl : ks.length < 4611686018427387904) (hH : HoldsK kc 32 w g 0 ks.toArray) (hb : g < w.heap.size) :
  Calls Tryz.prog 42 #[.slice (some ⟨g, 0, none⟩) ks.length cap, .func (.func cf) #[] #[]] w fun e w' => e = .returned (.tuple #[]) ∧ ∃ n os, w' = grow (putRow id (Sort.ahead w n) g 0 (flatK kc 32 (ks.mergeSort fun x y => decide (x.1 ≤ y.1)).toArray)) os := by
 have hT : ∀ x y : Ky 32, ltOf (fun x y : Ky 32 => dA x.1 y.1) x y = false → ltOf (fun x y : Ky 32 => dA x.1 y.1) y x = false → x = y := fun x y h1 h2 => by
  rw [show ltOf (fun x y : Ky 32 => dA x.1 y.1) x y = decide (x.1 < y.1) from iO x.1 y.1] at h1
  rw [show ltOf (fun x y : Ky 32 => dA x.1 y.1) y x = decide (y.1 < x.1) from iO y.1 x.1] at h2
  simp only [decide_eq_false_iff_not, NJ] at h1 h2
  exact Subtype.ext (NV h2 h1)
 have h := AnyQ.slices_SortFunc_total vI 32 Tryz.isAgg23 Tryz.sizeOf23 kc (fun x => by unfold kc; rw [aS, x.2]) (fun x v hv => kX x.1 v hv) (fun x y : Ky 32 => dA x.1 y.1) (swo 32) cf #[] g 0 cap ks.toArray w ec (fun m os dk hs x y => hc x.1 y.1 x.2 y.2 _) hH hb (by simpa using hl) hT
 have hf : (fun x y : Ky 32 => !(ltOf fun x y : Ky 32 => dA x.1 y.1) y x) = fun x y => decide (x.1 ≤ y.1) := by
  funext x y
  rw [show ltOf (fun x y : Ky 32 => dA x.1 y.1) y x = decide (y.1 < x.1) from iO y.1 x.1]
  by_cases h : y.1 < x.1
  · simp [h, List.not_le.2 h]
  · simp [h, List.not_lt.1 h]
 rw [hf] at h
 exact h.mono fun e w' ⟨he, n, os, hw⟩ => ⟨he, n, os, hw⟩
theorem ni (cf : FuncId) (hc : ∀ l m : List UInt8, l.length = 32 → m.length = 32 → ∀ w, Calls Tryz.prog cf #[aT l, aT m] w fun e w' => e = .returned (.int .i64 (dA l m)) ∧ ∃ q os', w' = grow (w.drewN q) os') (ec : ∀ args w, (callFunc cf args).run Tryz.prog w = .ok (.enter cf args) w)
  (v : Value) (ks : List (Ky 32)) (hl : ks.length < 4611686018427387904) :
  FnM 42 [.v v, .v (.func (.func cf) #[] #[])] [.row v 23 32 (ks.map dK)] (fun r os' => r = .tpl [] ∧ os' = [.row v 23 32 ((ks.mergeSort fun x y => decide (x.1 ≤ y.1)).map dK)]) := by
 constructor
 intro ok w xs hok hown hr
 obtain ⟨x1, _, rfl, hx1, x2, _, rfl, hx2, rfl⟩ := hr
 obtain rfl := (aG.1 hx1).2
 obtain rfl := (aG.1 hx2).2
 obtain ⟨rows, ⟨hrow, hbase⟩, hrows⟩ := hown.at_ _ (Ld ..)
 rw [jk _ _ hrows, Lc] at hrow
 rcases hrow.2 with ⟨rfl, h0⟩ | ⟨g, cap, cur, rfl, _, hgb, r1, r2, r3, r4⟩
 ·
  obtain rfl : ks = [] := ML h0
  have hms : ([] : List (Ky 32)).mergeSort (fun x y => decide (x.1 ≤ y.1)) = [] := by simp
  rw [hms]
  refine (AnyF.slices_SortFunc_none vI none 0 (.func (.func cf) #[] #[]) w).mono ?_
  rintro e w' ⟨rfl, rfl⟩
  refine ⟨_, .tpl [], _, rfl, ⟨rfl, rfl⟩, ⟨.refl _, hown.apart, fun o ho => ?_⟩, [], rfl, rfl⟩
  obtain rfl : o = _ := by simpa using ho
  exact ⟨[], ⟨⟨by simp, .inl ⟨rfl, rfl⟩⟩, fun b hb => by cases hb⟩, dV []⟩
 ·
  have hlt := (LQ.1 hgb).1
  have hml : (ks.mergeSort fun x y => decide (x.1 ≤ y.1)).length = ks.length := List.length_mergeSort _
  have hH : HoldsK kc 32 w g 0 ks.toArray := fun j hj => by
   have hj' : j < ks.length * 32 := by simpa using hj
   have h1 : (cur.toList.take (ks.length * 32))[j]? = (ks.map kc).flatten[j]? := by rw [r4]
   rw [Oe hj', ← fU (by decide)] at h1
   refine ⟨?_, by simp [World.frozen?, hgb]⟩
   rw [cell_of_row w g (0 + j) cur 23 (0, 0) hgb, MH, ← NP, h1, NP, Nv hj, getElem!_pos _ j hj]
   rfl
  refine (tY cf hc ec g cap ks w hl hH hlt).mono ?_
  rintro e w' ⟨rfl, n, os, rfl⟩
  have hg := sG (w := w) (g := g) (n := n) (os := os) (flatK kc 32 (ks.mergeSort fun x y => decide (x.1 ≤ y.1)).toArray)
  have hh := wR (n := n) (os := os) (flatK kc 32 (ks.mergeSort fun x y => decide (x.1 ≤ y.1)).toArray) hgb
  have hF : (flatK kc 32 (ks.mergeSort fun x y => decide (x.1 ≤ y.1)).toArray).size = ks.length * 32 := by rw [size_flatK]; simp [hml]
  have htk := vk cur (flatK kc 32 (ks.mergeSort fun x y => decide (x.1 ≤ y.1)).toArray) (by rw [hF, r3]; exact NC _ r1)
  rw [hF, fU (by decide)] at htk
  refine ⟨_, .tpl [], _, rfl, ⟨rfl, rfl⟩, ⟨⟨hg.os, hg.tape, hg.output, hg.size, fun k hk hn => hg.block k hk fun e => hn ?_⟩, .cons (fun _ h => by simp at h) .nil, fun o ho => ?_⟩, [], rfl, rfl⟩
  ·
   cases e
   exact ⟨_, Ld .., rfl⟩
  ·
   obtain rfl : o = _ := by simpa using ho
   refine ⟨_, ⟨⟨?_, .inr ⟨g, cap, _, ?_, LH _, hh, ?_, r2, ?_, ?_⟩⟩, fun b hb => .inl ⟨_, Ld .., hb⟩⟩, dV _⟩
   · rw [← fU (by decide), NI, hF, Lc, hml]
   · rw [Lc, hml]
   ·
    rw [Lc, hml]
    exact r1
   · simp [putCells, r3]
   ·
    rw [Lc, hml]
    exact htk
def unV : Value → List UInt8
 | .agg cs => cs.toList.map fun v => match v with
  | .int _ n => UInt8.ofNat n.toNat
  | _ => 0
 | _ => []
theorem kR (l : List UInt8) : unV (aT l) = l := by
 unfold aT unV bvs
 simp only [Nc]
 refine (Nu fun b _ => ?_).trans (List.map_id l)
 simp [bv]
theorem iI {α β γ : Type} {R : α → β → Prop} {f : α → γ} {g : β → γ} (h : ∀ a b, R a b → f a = g b) : ∀ {l : List α} {m : List β}, fM R l m → l.map f = m.map g
 | _, _, .nil => rfl
 | _, _, .cons h1 h2 => by rw [LV, LV, h _ _ h1, iI h h2]
theorem jv {α β : Type} {R : α → β → Prop} {l : List α} {m : List β} (h : fM R l m) {a : α} (ha : a ∈ l) : ∃ b ∈ m, R a b := by
 induction h with
 | nil => cases ha
 | cons h1 h2 ih =>
  rcases Lj.1 ha with rfl | ha
  · exact ⟨_, Ld .., h1⟩
  ·
   obtain ⟨b, hb, hr⟩ := ih ha
   exact ⟨b, Lu _ hb, hr⟩
theorem iQ {α β : Type} {R : α → β → Prop} : ∀ {l : List α} {m : List β}, fM R l m → l.length = m.length
 | _, _, .nil => rfl
 | _, _, .cons _ h2 => by rw [Me, Me, iQ h2]
theorem pK {n : Nat} (ks : List (Ky n)) : ks.map dK = (ks.map (·.1)).map (D.arr n) := by
 rw [Nc]
 rfl
theorem xH : ∀ args w, (callFunc 112 args).run Tryz.prog w = .ok (.enter 112 args) w := enters_of Tryz.func112 (by kernel_rfl) rfl
theorem xU (g m c : Nat) (es : List Ent) (hl : es.length * 20 ≤ 140737488355328) : FnM 141 [.v (.slice none 0 0), .v (.func (.func 112) #[] #[.pointer (some ⟨g, 0, none⟩)])] [.var g 116 (.v (.map (some m))), .map m 20 c es] (fun r os' => ∃ v, ∃ ks : List (Ky 20), r = .val (.v v) ∧ (ks.map (·.1)).Perm (es.map (·.2.1)) ∧ os' = [.row v 36 20 (ks.map dK), .var g 116 (.v (.map (some m))), .map m 20 c es]) := by
 constructor
 intro ok w xs hok hown hr
 obtain ⟨x1, _, rfl, hx1, x2, _, rfl, hx2, rfl⟩ := hr
 obtain rfl := (aG.1 hx1).2
 obtain rfl := (aG.1 hx2).2
 obtain ⟨_, cs, hg, hrd⟩ := hown.at_ _ (Ld ..)
 obtain ⟨_, hent, arr, hm, hall⟩ := hown.at_ _ (Lu _ (Ld ..))
 rw [Reads] at hrd
 rw [hrd.2] at hg
 have hglt := (LQ.1 hg).1
 have hmlt := (LQ.1 hm).1
 have hbs : arr.toList.map (·.born) = es.map (·.1) := iI (fun a b h => h.born) hall
 have hks : arr.toList.map (·.key) = es.map fun x => aT x.2.1 := iI (fun a b h => h.key) hall
 have hsz : arr.size = es.length := by rw [← NI, iQ hall]
 have hseq : SeqStopsK Fence.wide 3 Tryz.prog 112 #[.pointer (some ⟨g, 0, none⟩)] (fun x : Ky 20 => #[kv x]) KeepsWalks (fun ss => (ss.map kv).Perm (arr.toList.map (·.key))) (fun _ => True) arr.size w := fun l J Jx W hW hJ _ hY h0 =>
  yN 3 l g m (by omega) arr c J Jx hY W hJ ((hW.cell (p := ⟨g, 0, none⟩) hglt).trans (by rw [cell_of_row w g 0 _ _ _ hg]; rfl)) ((hW.block m hmlt).trans hm) (by rw [hbs]; exact hent.borns)
   (fun x hx => by obtain ⟨y, hy, he⟩ := jv hall hx; rw [he.born]; exact hent.lt y hy)
   (fun x hx => by obtain ⟨y, hy, he⟩ := jv hall hx; exact ⟨⟨y.2.1, he.len⟩, he.key⟩) h0
 refine (callsIn_wide.1 (qU 4 (by omega) 112 #[.pointer (some ⟨g, 0, none⟩)] xH _ _ arr.size (by rw [hsz]; exact hl) w hseq)).mono ?_
 rintro e w' ⟨v, ks, rfl, hp, hrow, hnil, hB⟩
 have hp' : (ks.map (·.1)).Perm (es.map (·.2.1)) := by
  rw [hks] at hp
  have := hp.map unV
  rw [Nc, Nc] at this
  have e1 : ks.map (unV ∘ kv) = ks.map (·.1) := Nu fun k _ => kR k.1
  have e2 : es.map (unV ∘ fun x => aT x.2.1) = es.map (·.2.1) := Nu fun k _ => kR k.2.1
  rwa [e1, e2] at this
 have hnew : ∀ b, v.ownBlock = some b → w.heap.size ≤ b := fun b hb => (hrow.lt b hb).1
 refine ⟨v, .val (.v v), _, rfl, ⟨v, ks, rfl, hp', rfl⟩, ⟨.of hB, .cons (fun p hp b hb e => ?_) hown.apart, fun o ho => ?_⟩, aG.2 ⟨kD hrow, rfl⟩⟩
 ·
  have h1 := hnew b hb
  have h2 := (Obj.bD (hown.at_ p hp) e).2
  omega
 ·
  rcases Lj.1 ho with rfl | ho
  ·
   refine ⟨ks.map kc, ⟨?_, fun b hb => .inr (hnew b hb)⟩, dV ks⟩
   rw [Lc]
   exact kE hrow
  ·
   refine ((hown.at_ o ho).move (fun b hb => ⟨.inl hb, LU (hok b hb) hB.size, fun o' ho' e => ?_⟩) (fun p hp => hB.cell (hok _ hp)) fun b hb => hB.block b (Obj.bD (hown.at_ o ho) hb).2).iw fun b hb => .inl ⟨o, ho, hb⟩
   rcases Lj.1 ho' with rfl | ho'
   ·
    have := hnew b e
    have := hok b hb
    omega
   · exact hown.off b ⟨o', ho', e⟩ hb
theorem AX (m : Nat) : FnM 78 [.v (.map (some m))] [] (fun r os' => ∃ g, r = .val (.v (.func (.func 112) #[] #[.pointer (some ⟨g, 0, none⟩)])) ∧ os' = [.var g 116 (.v (.map (some m)))]) := by
 refine FnM.walk 4 Tryz.func78 rfl Tryz.ntmps78 (by simp) fun X => ?_
 repeat (refine stp ?_; intros)
 rename_i g
 exact EK.aI [.var g 116 (.v (.map (some m)))] rfl rfl (by (repeat first | exact KZ _ | apply List.Sublist.cons_cons | apply List.Sublist.cons)) ⟨g, rfl, rfl⟩
theorem uT (g m c : Nat) (es : List Ent) (hl : es.length * 20 ≤ 140737488355328) : FnM 110 [.v (.func (.func 112) #[] #[.pointer (some ⟨g, 0, none⟩)])] [.var g 116 (.v (.map (some m))), .map m 20 c es] (fun r os' => ∃ v, ∃ ks : List (Ky 20), r = .val (.v v) ∧ (ks.map (·.1)).Perm (es.map (·.2.1)) ∧ os' = [.row v 36 20 (ks.map dK), .var g 116 (.v (.map (some m))), .map m 20 c es]) := by
 have h1 := xU g m c es hl
 refine FnM.walk 5 Tryz.func110 rfl Tryz.ntmps110 (by simp) fun X => ?_
 repeat
  (first
   | (refine aH (os := [.var g 116 (.v (.map (some m))), .map m 20 c es]) h1 (kk := ?_); rintro _ _ ⟨v, ks, rfl, hp, rfl⟩)
   | (refine stp ?_; intros))
 exact EK.aI [.row v 36 20 (ks.map dK), .var g 116 (.v (.map (some m))), .map m 20 c es] rfl rfl (by (repeat first | exact KZ _ | apply List.Sublist.cons_cons | apply List.Sublist.cons)) ⟨v, ks, rfl, hp, rfl⟩
theorem vG (cf : FuncId) (hc : ∀ l m : List UInt8, l.length = 20 → m.length = 20 → ∀ w, Calls Tryz.prog cf #[aT l, aT m] w fun e w' => e = .returned (.int .i64 (dA l m)) ∧ ∃ q os', w' = grow (w.drewN q) os') (ec : ∀ args w, (callFunc cf args).run Tryz.prog w = .ok (.enter cf args) w)
  (g m c : Nat) (es : List Ent) (hl : es.length * 20 ≤ 140737488355328) : FnM 77 [.v (.func (.func 112) #[] #[.pointer (some ⟨g, 0, none⟩)]), .v (.func (.func cf) #[] #[])] [.var g 116 (.v (.map (some m))), .map m 20 c es] (fun r os' => ∃ v, r = .val (.v v) ∧ os' = [.row v 36 20 ((sortL (es.map (·.2.1))).map (D.arr 20)), .var g 116 (.v (.map (some m))), .map m 20 c es]) := by
 have h1 := uT g m c es hl
 refine FnM.walk 12 Tryz.func77 rfl Tryz.ntmps77 (by simp) fun X => ?_
 repeat
  (first
   | (refine aH (os := [.var g 116 (.v (.map (some m))), .map m 20 c es]) h1 (kk := ?_); rintro _ _ ⟨v, ks, rfl, hp, rfl⟩)
   | (refine stp ?_; intros))
 have hkl : ks.length = es.length := by simpa using hp.length_eq
 have h2 := Aq cf hc ec v ks (by omega)
 repeat
  (first
   | (refine aH (os := [.row v 36 20 (ks.map dK)]) h2 (kk := ?_); rintro _ _ ⟨rfl, rfl⟩)
   | (refine stp ?_; intros))
 have hs : (ks.mergeSort fun x y => decide (x.1 ≤ y.1)).map (·.1) = sortL (es.map (·.2.1)) := by
  refine gu (((Oi ks _).map (·.1)).trans hp) ?_
  have h := NT (le := fun x y : Ky 20 => decide (x.1 ≤ y.1)) (fun a b c h1 h2 => by simp only [decide_eq_true_eq] at h1 h2 ⊢; exact Om h1 h2) (fun a b => by simp only [NH, decide_eq_true_eq]; exact OI a.1 b.1) ks
  rw [MQ]
  exact h.imp fun h => by simpa using h
 exact EK.aI [.row v 36 20 ((ks.mergeSort fun x y => decide (x.1 ≤ y.1)).map dK), .var g 116 (.v (.map (some m))), .map m 20 c es] rfl rfl (by (repeat first | exact KZ _ | apply List.Sublist.cons_cons | apply List.Sublist.cons)) ⟨v, rfl, by rw [pK, hs]⟩
theorem xG : ∀ args w, (callFunc 114 args).run Tryz.prog w = .ok (.enter 114 args) w := enters_of Tryz.func114 (by kernel_rfl) rfl
theorem xR (g m c : Nat) (es : List Ent) (hl : es.length * 32 ≤ 140737488355328) : FnM 130 [.v (.slice none 0 0), .v (.func (.func 114) #[] #[.pointer (some ⟨g, 0, none⟩)])] [.var g 123 (.v (.map (some m))), .map m 32 c es] (fun r os' => ∃ v, ∃ ks : List (Ky 32), r = .val (.v v) ∧ (ks.map (·.1)).Perm (es.map (·.2.1)) ∧ os' = [.row v 23 32 (ks.map dK), .var g 123 (.v (.map (some m))), .map m 32 c es]) := by
 constructor
 intro ok w xs hok hown hr
 obtain ⟨x1, _, rfl, hx1, x2, _, rfl, hx2, rfl⟩ := hr
 obtain rfl := (aG.1 hx1).2
 obtain rfl := (aG.1 hx2).2
 obtain ⟨_, cs, hg, hrd⟩ := hown.at_ _ (Ld ..)
 obtain ⟨_, hent, arr, hm, hall⟩ := hown.at_ _ (Lu _ (Ld ..))
 rw [Reads] at hrd
 rw [hrd.2] at hg
 have hglt := (LQ.1 hg).1
 have hmlt := (LQ.1 hm).1
 have hbs : arr.toList.map (·.born) = es.map (·.1) := iI (fun a b h => h.born) hall
 have hks : arr.toList.map (·.key) = es.map fun x => aT x.2.1 := iI (fun a b h => h.key) hall
 have hsz : arr.size = es.length := by rw [← NI, iQ hall]
 have hseq : SeqStopsK Fence.wide 3 Tryz.prog 114 #[.pointer (some ⟨g, 0, none⟩)] (fun x : Ky 32 => #[kv x]) KeepsWalks (fun ss => (ss.map kv).Perm (arr.toList.map (·.key))) (fun _ => True) arr.size w := fun l J Jx W hW hJ _ hY h0 =>
  yM 3 l g m (by omega) arr c J Jx hY W hJ ((hW.cell (p := ⟨g, 0, none⟩) hglt).trans (by rw [cell_of_row w g 0 _ _ _ hg]; rfl)) ((hW.block m hmlt).trans hm) (by rw [hbs]; exact hent.borns)
   (fun x hx => by obtain ⟨y, hy, he⟩ := jv hall hx; rw [he.born]; exact hent.lt y hy)
   (fun x hx => by obtain ⟨y, hy, he⟩ := jv hall hx; exact ⟨⟨y.2.1, he.len⟩, he.key⟩) h0
 refine (callsIn_wide.1 (kN 4 (by omega) 114 #[.pointer (some ⟨g, 0, none⟩)] xG _ _ arr.size (by rw [hsz]; exact hl) w hseq)).mono ?_
 rintro e w' ⟨v, ks, rfl, hp, hrow, hnil, hB⟩
 have hp' : (ks.map (·.1)).Perm (es.map (·.2.1)) := by
  rw [hks] at hp
  have := hp.map unV
  rw [Nc, Nc] at this
  have e1 : ks.map (unV ∘ kv) = ks.map (·.1) := Nu fun k _ => kR k.1
  have e2 : es.map (unV ∘ fun x => aT x.2.1) = es.map (·.2.1) := Nu fun k _ => kR k.2.1
  rwa [e1, e2] at this
 have hnew : ∀ b, v.ownBlock = some b → w.heap.size ≤ b := fun b hb => (hrow.lt b hb).1
 refine ⟨v, .val (.v v), _, rfl, ⟨v, ks, rfl, hp', rfl⟩, ⟨.of hB, .cons (fun p hp b hb e => ?_) hown.apart, fun o ho => ?_⟩, aG.2 ⟨kD hrow, rfl⟩⟩
 ·
  have h1 := hnew b hb
  have h2 := (Obj.bD (hown.at_ p hp) e).2
  omega
 ·
  rcases Lj.1 ho with rfl | ho
  ·
   refine ⟨ks.map kc, ⟨?_, fun b hb => .inr (hnew b hb)⟩, dV ks⟩
   rw [Lc]
   exact kE hrow
  ·
   refine ((hown.at_ o ho).move (fun b hb => ⟨.inl hb, LU (hok b hb) hB.size, fun o' ho' e => ?_⟩) (fun p hp => hB.cell (hok _ hp)) fun b hb => hB.block b (Obj.bD (hown.at_ o ho) hb).2).iw fun b hb => .inl ⟨o, ho, hb⟩
   rcases Lj.1 ho' with rfl | ho'
   ·
    have := hnew b e
    have := hok b hb
    omega
   · exact hown.off b ⟨o', ho', e⟩ hb
theorem AV (m : Nat) : FnM 82 [.v (.map (some m))] [] (fun r os' => ∃ g, r = .val (.v (.func (.func 114) #[] #[.pointer (some ⟨g, 0, none⟩)])) ∧ os' = [.var g 123 (.v (.map (some m)))]) := by
 refine FnM.walk 4 Tryz.func82 rfl Tryz.ntmps82 (by simp) fun X => ?_
 repeat (refine stp ?_; intros)
 rename_i g
 exact EK.aI [.var g 123 (.v (.map (some m)))] rfl rfl (by (repeat first | exact KZ _ | apply List.Sublist.cons_cons | apply List.Sublist.cons)) ⟨g, rfl, rfl⟩
theorem uS (g m c : Nat) (es : List Ent) (hl : es.length * 32 ≤ 140737488355328) : FnM 96 [.v (.func (.func 114) #[] #[.pointer (some ⟨g, 0, none⟩)])] [.var g 123 (.v (.map (some m))), .map m 32 c es] (fun r os' => ∃ v, ∃ ks : List (Ky 32), r = .val (.v v) ∧ (ks.map (·.1)).Perm (es.map (·.2.1)) ∧ os' = [.row v 23 32 (ks.map dK), .var g 123 (.v (.map (some m))), .map m 32 c es]) := by
 have h1 := xR g m c es hl
 refine FnM.walk 5 Tryz.func96 rfl Tryz.ntmps96 (by simp) fun X => ?_
 repeat
  (first
   | (refine aH (os := [.var g 123 (.v (.map (some m))), .map m 32 c es]) h1 (kk := ?_); rintro _ _ ⟨v, ks, rfl, hp, rfl⟩)
   | (refine stp ?_; intros))
 exact EK.aI [.row v 23 32 (ks.map dK), .var g 123 (.v (.map (some m))), .map m 32 c es] rfl rfl (by (repeat first | exact KZ _ | apply List.Sublist.cons_cons | apply List.Sublist.cons)) ⟨v, ks, rfl, hp, rfl⟩
theorem vF (cf : FuncId) (hc : ∀ l m : List UInt8, l.length = 32 → m.length = 32 → ∀ w, Calls Tryz.prog cf #[aT l, aT m] w fun e w' => e = .returned (.int .i64 (dA l m)) ∧ ∃ q os', w' = grow (w.drewN q) os') (ec : ∀ args w, (callFunc cf args).run Tryz.prog w = .ok (.enter cf args) w)
  (g m c : Nat) (es : List Ent) (hl : es.length * 32 ≤ 140737488355328) : FnM 48 [.v (.func (.func 114) #[] #[.pointer (some ⟨g, 0, none⟩)]), .v (.func (.func cf) #[] #[])] [.var g 123 (.v (.map (some m))), .map m 32 c es] (fun r os' => ∃ v, r = .val (.v v) ∧ os' = [.row v 23 32 ((sortL (es.map (·.2.1))).map (D.arr 32)), .var g 123 (.v (.map (some m))), .map m 32 c es]) := by
 have h1 := uS g m c es hl
 refine FnM.walk 12 Tryz.func48 rfl Tryz.ntmps48 (by simp) fun X => ?_
 repeat
  (first
   | (refine aH (os := [.var g 123 (.v (.map (some m))), .map m 32 c es]) h1 (kk := ?_); rintro _ _ ⟨v, ks, rfl, hp, rfl⟩)
   | (refine stp ?_; intros))
 have hkl : ks.length = es.length := by simpa using hp.length_eq
 have h2 := ni cf hc ec v ks (by omega)
 repeat
  (first
   | (refine aH (os := [.row v 23 32 (ks.map dK)]) h2 (kk := ?_); rintro _ _ ⟨rfl, rfl⟩)
   | (refine stp ?_; intros))
 have hs : (ks.mergeSort fun x y => decide (x.1 ≤ y.1)).map (·.1) = sortL (es.map (·.2.1)) := by
  refine gu (((Oi ks _).map (·.1)).trans hp) ?_
  have h := NT (le := fun x y : Ky 32 => decide (x.1 ≤ y.1)) (fun a b c h1 h2 => by simp only [decide_eq_true_eq] at h1 h2 ⊢; exact Om h1 h2) (fun a b => by simp only [NH, decide_eq_true_eq]; exact OI a.1 b.1) ks
  rw [MQ]
  exact h.imp fun h => by simpa using h
 exact EK.aI [.row v 23 32 ((ks.mergeSort fun x y => decide (x.1 ≤ y.1)).map dK), .var g 123 (.v (.map (some m))), .map m 32 c es] rfl rfl (by (repeat first | exact KZ _ | apply List.Sublist.cons_cons | apply List.Sublist.cons)) ⟨v, rfl, by rw [pK, hs]⟩
end E
end Go.Proofs.YtohlgnfachkmaaaGreat
namespace Go.Proofs.YtohlgnfachkmaaaGreat
set_option linter.unusedVariables false
open Go.RowKit Mono Rlp Wd
namespace E
theorem Le.oG {N : Nat} {X : Cx N} {rs : List (Tmp × R)} {os : List Obj} {fs : List (Value × D)} (ix : List Nat) (l l' rest : List Obj) (hos : os = l ++ rest) (hn : l.length = ix.length) (h : ix.Perm (List.range ix.length)) (hp : (ix.filterMap fun i => l[i]?) = l') : Le X ⟨rs, os, fs⟩ ⟨rs, l' ++ rest, fs⟩ := by
 subst hos hp
 exact Le.perm (Ov _ (gY ix hn h))
structure AcL where
 a : List UInt8
 n : Int
 w : List UInt8
 cd : List UInt8
 sl : List (List UInt8 × List UInt8)
def aA (x : List UInt8 × List UInt8) : D := .tup [.arr 32 x.1, .arr 32 x.2]
def ak (x : AcL) : D := .tup [.arr 20 x.a, .v (.int .i64 x.n), .arr 32 x.w, .bs x.cd, .sl 64 (x.sl.map aA)]
structure AcL.Is (x : AcL) (y : Ac) : Prop where
 n : x.n = y.n
 w : x.w = y.w
 cd : x.cd = y.cd
 ord : x.sl.Pairwise fun p q => p.1 < q.1
 val : ∀ p ∈ x.sl, p.2 = y.sl p.1 ∧ p.2 ≠ zero32
 all : ∀ k, y.sl k ≠ zero32 → ∃ p ∈ x.sl, p.1 = k
structure CU (A : As) (K : List (List UInt8)) (L : List AcL) : Prop where
 ord : L.Pairwise fun x y => x.a < y.a
 mem : ∀ x ∈ L, x.a ∈ K ∧ x.Is (A x.a) ∧ A x.a ≠ Ac.zero
 all : ∀ a ∈ K, A a ≠ Ac.zero → ∃ x ∈ L, x.a = a
structure Canon (A : As) (L : List AcL) : Prop where
 ord : L.Pairwise fun x y => x.a < y.a
 mem : ∀ x ∈ L, x.Is (A x.a) ∧ A x.a ≠ Ac.zero
 all : ∀ a, A a ≠ Ac.zero → ∃ x ∈ L, x.a = a
theorem kS {α : Type} {key : α → List UInt8} {l m : List α} (hl : l.Pairwise fun x y => key x < key y) (hm : m.Pairwise fun x y => key x < key y) (h1 : ∀ x ∈ l, x ∈ m) (h2 : ∀ x ∈ m, x ∈ l) : l = m := by
 have nod : ∀ l : List α, l.Pairwise (fun x y => key x < key y) → l.Nodup := fun l h => h.imp fun {x y} h e => by subst e; exact MF _ h
 have hp : l.Perm m := (List.perm_ext_iff_of_nodup (nod l hl) (nod m hm)).2 fun x => ⟨h1 x, h2 x⟩
 exact List.Perm.eq_of_pairwise (fun a b _ _ h h' => absurd (NK h h') (MF _)) hl hm hp
theorem AcL.Is.eq {x y : AcL} {z : Ac} (h : x.Is z) (k : y.Is z) (e : x.a = y.a) : x = y := by
 have hs : x.sl = y.sl := kS (key := fun p : List UInt8 × List UInt8 => p.1) h.ord k.ord (fun p hp => by
   obtain ⟨h1, h2⟩ := h.val p hp
   obtain ⟨q, hq, hk⟩ := k.all p.1 (h1 ▸ h2)
   have : p = q := Prod.ext hk.symm (by rw [h1, (k.val q hq).1, hk])
   rwa [this])
  (fun p hp => by
   obtain ⟨h1, h2⟩ := k.val p hp
   obtain ⟨q, hq, hk⟩ := h.all p.1 (h1 ▸ h2)
   have : p = q := Prod.ext hk.symm (by rw [h1, (h.val q hq).1, hk])
   rwa [this])
 cases x
 cases y
 simp only [AcL.mk.injEq]
 exact ⟨e, h.n.trans k.n.symm, h.w.trans k.w.symm, h.cd.trans k.cd.symm, hs⟩
theorem Canon.eq {A : As} {L M : List AcL} (h : Canon A L) (k : Canon A M) : L = M := by
 have one : ∀ {L M : List AcL}, Canon A L → Canon A M → ∀ x ∈ L, x ∈ M := fun {L M} h k x hx => by
  obtain ⟨h1, h2⟩ := h.mem x hx
  obtain ⟨y, hy, e⟩ := k.all x.a h2
  have := (k.mem y hy).1
  rw [e] at this
  rw [h1.eq this e.symm]
  exact hy
 exact kS (key := AcL.a) h.ord k.ord (one h k) (one k h)
theorem CU.canon {A : As} {K : List (List UInt8)} {L : List AcL} (h : CU A K L) (hK : ∀ a, A a ≠ Ac.zero → a ∈ K) : Canon A L := ⟨h.ord, fun x hx => (h.mem x hx).2, fun a ha => h.all a (hK a ha) ha⟩
theorem CU.nil {A : As} : CU A [] [] := ⟨.nil, fun x hx => by simp at hx, fun a ha => by simp at ha⟩
theorem CU.skip {A : As} {K : List (List UInt8)} {L : List AcL} (h : CU A K L) {a : List UInt8} (ha : A a = Ac.zero) : CU A (K ++ [a]) L := ⟨h.ord, fun x hx => ⟨LJ _ (h.mem x hx).1, (h.mem x hx).2⟩, fun b hb hne => by
 rcases LP.1 hb with hb | hb
 · exact h.all b hb hne
 ·
  obtain rfl : b = a := by simpa using hb
  exact absurd ha hne⟩
theorem CU.take {A : As} {K : List (List UInt8)} {L : List AcL} (h : CU A K L) {x : AcL} (hx : x.Is (A x.a)) (hne : A x.a ≠ Ac.zero) (hlt : ∀ b ∈ K, b < x.a) : CU A (K ++ [x.a]) (L ++ [x]) := ⟨LX.2 ⟨h.ord, Ol _ _, fun y hy z hz => by
  obtain rfl : z = x := by simpa using hz
  exact hlt _ (h.mem y hy).1⟩, fun y hy => by
  rcases LP.1 hy with hy | hy
  · exact ⟨LJ _ (h.mem y hy).1, (h.mem y hy).2⟩
  ·
   obtain rfl : y = x := by simpa using hy
   exact ⟨by simp, hx, hne⟩, fun b hb hb' => by
  rcases LP.1 hb with hb | hb
  ·
   obtain ⟨y, hy, e⟩ := h.all b hb hb'
   exact ⟨y, LJ _ hy, e⟩
  ·
   obtain rfl : b = x.a := by simpa using hb
   exact ⟨x, by simp, rfl⟩⟩
theorem wS : ∀ (es : List Ent) (k : List UInt8) (d : D), aC es k = some d → ∃ e ∈ es, e.2.1 = k ∧ e.2.2 = d
 | [], k, d, h => by simp [aC] at h
 | x :: es, k, d, h => by
  rw [aC] at h
  split at h
  ·
   rename_i he
   cases h
   exact ⟨x, Ld .., by simpa using he, rfl⟩
  ·
   obtain ⟨e, he, h1⟩ := wS es k d h
   exact ⟨e, Lu _ he, h1⟩
theorem nI {es : List Ent} {k : List UInt8} (h : k ∈ es.map (·.2.1)) : ∃ d, aC es k = some d := by
 cases hg : aC es k with
 | none => exact absurd h ((dX es k).1 hg)
 | some d => exact ⟨d, rfl⟩
theorem pR {l : List (List UInt8)} (h : l.Nodup) : (sortL l).Pairwise (· < ·) := by
 have hn : (sortL l).Nodup := (aW l).nodup_iff.2 h
 have := (gU l).and hn
 refine this.imp fun {a b} ⟨h1, h2⟩ => ?_
 rcases OI b a with h3 | h3
 · exact absurd (NV h1 h3) h2
 · exact LY fun h4 => h2 (NV h1 (NJ.1 h4))
def slots (x : Ac) (ss : List Ent) : List (List UInt8 × List UInt8) := (sortL (ss.map (·.2.1))).map fun k => (k, x.sl k)
theorem PA.Is.list {p : PA} {x : Ac} {N : Nat} (h : p.Is x N) (a : List UInt8) : (⟨a, p.n, p.w, p.cd, slots x p.ss⟩ : AcL).Is x := by
 refine ⟨h.n, h.w, h.cd, ?_, fun q hq => ?_, fun k hk => ?_⟩
 ·
  show (slots x p.ss).Pairwise _
  unfold slots
  rw [MQ]
  exact pR h.nod
 ·
  obtain ⟨k, hk, rfl⟩ := Ll.1 hq
  refine ⟨rfl, ?_⟩
  obtain ⟨d, hd⟩ := nI ((aW _).mem_iff.1 hk)
  obtain ⟨e, he, h1, h2⟩ := wS _ _ _ hd
  obtain ⟨v, hv, hne⟩ := h.ent e he
  have := h.sl k
  unfold slE at this
  rw [hd, ← h2, hv] at this
  have : v = x.sl k := by simpa using this
  dsimp only
  rw [← this]
  exact hne
 ·
  refine ⟨(k, x.sl k), Ll.2 ⟨k, ?_, rfl⟩, rfl⟩
  refine (aW _).mem_iff.2 ?_
  refine LY fun hn => hk ?_
  have := h.sl k
  unfold slE at this
  rw [(dX _ _).2 hn] at this
  simpa using this.symm
end E
end Go.Proofs.YtohlgnfachkmaaaGreat
namespace Go.Proofs.YtohlgnfachkmaaaGreat
set_option linter.unusedVariables false
set_option maxRecDepth 20000
set_option maxHeartbeats 16000000
open Go.RowKit Mono Rlp Wd Go.Sort
namespace E
theorem Bq : ∀ args w, (callFunc 79 args).run Tryz.prog w = .ok (.enter 79 args) w := enters_of Tryz.func79 (by kernel_rfl) rfl
theorem nO : ∀ args w, (callFunc 43 args).run Tryz.prog w = .ok (.enter 43 args) w := enters_of Tryz.func43 (by kernel_rfl) rfl
theorem lQ {l rest p rest2 : List Obj} (h : rest.Perm (p ++ rest2)) : (l ++ rest).Perm (p ++ (l ++ rest2)) := by
 refine (OA l h).trans ?_
 rw [← L6, ← L6]
 exact Ov _ MG
theorem BF {g m c M : Nat} {es : List Ent} {u k : Value} {n : Int} {us ks : List D} {ps : List PA} {A : As} (hi : rH es ps A M) (hM : M ≤ 1000000) : FnM 33 [.v (ptr g)] (stO g m u k n :: smO m c es :: unO u us :: mkO k ks :: ps.flatMap PA.os) (fun r os' => (∃ L, Canon A L ∧ L.length ≤ M ∧ (∀ x ∈ L, x.sl.length ≤ M) ∧ r = .val (.sl 55 (L.map ak))) ∧ os' = stO g m u k n :: smO m c es :: unO u us :: mkO k ks :: ps.flatMap PA.os) := by
 have hlen := hi.len
 have h1 := AX m
 have h2 := fun gk => vG 79 Es Bq gk m c es (by omega)
 have hKl : (sortL (es.map (·.2.1))).length = es.length := by rw [(aW _).length_eq, Lc]
 have hKm : ∀ a, a ∈ sortL (es.map (·.2.1)) ↔ a ∈ es.map (·.2.1) := fun a => (aW _).mem_iff
 have hKo := pR hi.nod
 have hKc : ∀ a, A a ≠ Ac.zero → a ∈ sortL (es.map (·.2.1)) := fun a ha => (hKm a).2 (LY fun hn => ha (hi.out a ((dX _ _).2 hn)))
 generalize hrest : ps.flatMap PA.os = rest
 generalize sortL (es.map (·.2.1)) = K at h2 hKl hKm hKo hKc
 have hml : (K.map (D.arr 20)).length = K.length := Lc _
 refine FnM.walk 75 Tryz.func33 rfl Tryz.ntmps33 (by simp) fun X => ?_
 repeat
  (first
   | (refine aH (os := []) h1 (kk := ?_); rintro _ _ ⟨gk, rfl, rfl⟩) | (refine stp ?_; intros))
 refine EL.le (Le.oG [0, 2, 1, 3, 4] [_, _, _, _, _] [_, _, _, _, _] (rest) rfl rfl (by decide) rfl) ?_
 try simp only [KN, KO]
 repeat
  (first
   | (refine aH (os := [.var gk 116 (.v (.map (some m))), smO m c es]) (h2 gk) (kk := ?_); rintro _ _ ⟨kv, rfl, rfl⟩; refine EL.le (Le.freeze (pre := []) rfl) ?_; refine EL.le (Le.refine (t := 15) (d' := .sl 20 (K.map (D.arr 20))) rfl (Rf.fact (by simp) rfl)) ?_; simp only [KO])
   | (refine stp ?_; intros))
 refine EC.le (Le.oG [2, 1, 3, 4, 0] [_, _, _, _, _] [_, _, _, _, _] (rest) rfl rfl (by decide) rfl) ?_
 try simp only [KN, KO]
 refine EC.le (Le.row 57 55) ?_
 refine EC.loop (ι := {x : Nat × List AcL × Value // x.1 ≤ K.length ∧ CU A (K.take x.1) x.2.1 ∧ x.2.1.length ≤ x.1 ∧ ∀ y ∈ x.2.1, y.sl.length ≤ M})
  (fun x => ⟨[(17, .val (.v (.int .i64 (x.1.1 : Int)))), (16, .val (.v (.int .i64 (K.map (D.arr 20)).length))), (15, .val (.sl 20 (K.map (D.arr 20)))), (3, .val (.v x.1.2.2)), (0, .val (.v (ptr g)))], .row x.1.2.2 57 55 (x.1.2.1.map ak) :: stO g m u k n :: smO m c es :: unO u us :: mkO k ks :: rest, []⟩)
  (fun x => K.length - x.1.1) ⟨(0, [], dn), LH _, CU.nil, LG _, fun y hy => by simp at hy⟩ ?_ ?_
 · exact (Le.keep (by repeat first | exact trivial | refine ⟨rfl, ?_⟩) (by repeat first | exact LM _ | apply List.Sublist.cons_cons | apply List.Sublist.cons) (by simp))
 rintro ⟨⟨i, L, v⟩, hiK, hCU, hLl, hsl⟩
 dsimp only at hiK hCU hLl hsl ⊢
 by_cases hlt : i < K.length
 ·
  have hd : (K.map (D.arr 20))[i]? = some (D.arr 20 K[i]) := by rw [Ls, La hlt]; rfl
  obtain ⟨d, hge⟩ := nI ((hKm K[i]).1 (MB hlt))
  obtain ⟨p, hp, rfl, his⟩ := hi.inn _ _ hge
  obtain ⟨ps1, ps2, rfl⟩ := Oo hp
  have hg : (aC es K[i]).getD (.v (.pointer none)) = .v (ptr p.g) := by rw [hge]; rfl
  have hperm : rest.Perm (p.os ++ (ps1 ++ ps2).flatMap PA.os) := hrest ▸ nM ps1 ps2 p
  generalize hrest2 : (ps1 ++ ps2).flatMap PA.os = rest2 at hperm
  have hsp := his.list K[i]
  have hse := his.sl
  have hempty := his.jo
  have hem := empty_ p
  obtain ⟨pg, pn, pw, pc, pgs, psc, pss⟩ := p
  dsimp only at hg hsp hse
  refine EC.le (Le.perm (lQ (l := [.row v 57 55 (L.map ak), stO g m u k n, smO m c es, unO u us, mkO k ks]) hperm)) ?_
  simp only [PA.os, KN, KO]
  repeat (refine stp ?_; intros)
  rename_i g5
  refine EC.draw 6 (by kernel_rfl) ?_
  simp only [KQ, KX, KP, KR]
  repeat
   (first
    | (apply cu; exact hg; rfl; (first | exact I0 | exact I1 | exact I2 | exact I3 | exact I4 | exact I5); iterate 5 rfl) | (refine sth ?_; intros))
  cases hpe : PA.empty ⟨pg, pn, pw, pc, pgs, psc, pss⟩ with
  | true =>
   rw [hpe] at hem
   repeat
    (first
     | (apply dU hem [_] _ rfl rfl (ah.refl _ _) (by intro _ _; simp [go_sem]) rfl rfl; rintro _ _ ⟨rfl, rfl⟩; simp only [PA.os, KN, KO]) | (refine stp ?_; intros))
   refine EK.le (Le.perm ((lQ (l := [.row v 57 55 (L.map ak), stO g m u k n, smO m c es, unO u us, mkO k ks]) hperm).symm.cons _)) ?_
   refine EK.again ⟨(i + 1, L, v), hlt, ?_, N8 hLl, hsl⟩ (by dsimp only; omega) ?_
   ·
    rw [Lm hlt]
    exact hCU.skip (hempty.1 hpe)
   ·
    simp only [LK, KN, KO]
    exact (Le.keep (by repeat first | exact trivial | refine ⟨rfl, ?_⟩) (by repeat first | exact LM _ | apply List.Sublist.cons_cons | apply List.Sublist.cons) (by simp))
  | false =>
   rw [hpe] at hem
   repeat
    (first
     | (apply dU hem [_] _ rfl rfl (ah.refl _ _) (by intro _ _; simp [go_sem]) rfl rfl; rintro _ _ ⟨rfl, rfl⟩; simp only [PA.os, KN, KO]) | (refine stp ?_; intros))
   have hcl := mJ pc his.cl
   refine EC.draw 16 (by kernel_rfl) ?_
   simp only [KQ, KX, KP, KR]
   repeat
    (first
     | (refine dB (hcl) (kk := ?_)) | (refine sth ?_; intros))
   have hpl := his.len
   dsimp only at hpl
   have h3 := AV pgs
   have h4 := fun gk => vF 43 qO nO gk pgs psc pss (by omega)
   have hK2l : (sortL (pss.map (·.2.1))).length = pss.length := by rw [(aW _).length_eq, Lc]
   have hsx : slots (A K[i]) pss = (sortL (pss.map (·.2.1))).map fun k => (k, (A K[i]).sl k) := rfl
   generalize sortL (pss.map (·.2.1)) = K2 at h4 hK2l hsx
   have hm2 : (K2.map (D.arr 32)).length = K2.length := Lc _
   rename_i gy
   repeat
    (first
     | (refine aH (os := []) h3 (kk := ?_); rintro _ _ ⟨gk2, rfl, rfl⟩; refine EL.le (Le.oG [0, 4, 1, 2, 3] [_, _, _, _, _] [_, _, _, _, _] _ rfl rfl (by decide) rfl) ?_; simp only [KN, KO]; refine aH (os := [.var gk2 123 (.v (.map (some pgs))), .map pgs 32 psc pss]) (h4 gk2) (kk := ?_); rintro _ _ ⟨kv2, rfl, rfl⟩; refine EL.le (Le.freeze (pre := []) rfl) ?_; refine EL.le (Le.refine (t := 49) (d' := .sl 32 (K2.map (D.arr 32))) rfl (Rf.fact (by simp) rfl)) ?_; simp only [KO])
     | (refine stp ?_; intros))
   refine EC.le (Le.oG [2, 1, 4, 0, 3] [_, _, _, _, _] [_, _, _, _, _] (_) rfl rfl (by decide) rfl) ?_
   try simp only [KN, KO]
   refine EC.le (Le.row 86 64) ?_
   refine EC.loop (ι := {x : Nat × Value // x.1 ≤ K2.length})
    (fun x => ⟨[(51, .val (.v (.int .i64 (x.1.1 : Int)))), (50, .val (.v (.int .i64 (K2.map (D.arr 32)).length))), (49, .val (.sl 32 (K2.map (D.arr 32)))), (17, .val (.v (.int .i64 (i : Int)))), (16, .val (.v (.int .i64 (K.map (D.arr 20)).length))), (15, .val (.sl 20 (K.map (D.arr 20)))), (7, .val (.v (ptr gy))), (6, .val (.v (ptr pg))), (3, .val (.v v)), (0, .val (.v (ptr g)))],
     .row x.1.2 86 64 ((K2.take x.1.1).map fun k => aA (k, (A K[i]).sl k)) :: .var gy 57 (.tup [.arr 20 K[i], .v (.int .i64 pn), .arr 32 pw, .bs pc, .v x.1.2]) :: .map pgs 32 psc pss :: acO pg pn pw pc (.map (some pgs)) :: .row v 57 55 (L.map ak) :: stO g m u k n :: smO m c es :: unO u us :: mkO k ks :: rest2, []⟩)
    (fun x => K2.length - x.1.1) ⟨(0, dn), LH _⟩ ?_ ?_
   · exact (Le.keep (by repeat first | exact trivial | refine ⟨rfl, ?_⟩) (by repeat first | exact LM _ | apply List.Sublist.cons_cons | apply List.Sublist.cons) (by simp))
   rintro ⟨⟨j, sv⟩, hjK⟩
   dsimp only at hjK ⊢
   by_cases hlj : j < K2.length
   ·
    have hd2 : (K2.map (D.arr 32))[j]? = some (D.arr 32 K2[j]) := by rw [Ls, La hlj]; rfl
    have hg2 : (aC pss K2[j]).getD (.arr 32 zero32) = .arr 32 ((A K[i]).sl K2[j]) := hse K2[j]
    repeat (refine stp ?_; intros)
    rename_i g9
    refine EC.le (Le.oG [1, 0] [_, _] [_, _] (_) rfl rfl (by decide) rfl) ?_
    try simp only [KN, KO]
    refine EC.aZ 12 [0, 1, 2, 3, 4, 5, 6, 7, 8, 9] [10, 11] [_] _ (by kernel_rfl) (by kernel_rfl) rfl ?_
    simp only [au, KW, KY, KT, KU]
    repeat
     (first
      | (apply cu; exact hg2; rfl; (first | exact I0 | exact I1 | exact I2 | exact I3 | exact I4 | exact I5); iterate 5 rfl) | (refine sth ?_; intros))
    refine EM.nil ?_
    repeat (first | rw [KN] | rw [KO])
    refine CH.cut 1 ?_
    simp only [KQ, KX, KP, KR]
    repeat (refine sth ?_; intros)
    refine EM.nil ?_
    repeat (first | rw [KN] | rw [KO])
    have hl3 : ((K2.take j).map fun k => aA (k, (A K[i]).sl k)).length = j := by rw [Lc, MJ]; omega
    refine CH.mut (os := [_]) (rest := []) rfl rfl (gI rfl rfl rfl rfl rfl ?_) ?_
    ·
     rw [hl3]
     constructor <;> (simp; omega)
    rintro _ _ ⟨sv', rfl, rfl⟩
    try simp only [St.put]
    repeat (first | rw [KN] | rw [KO])
    refine CH.nil ?_
    try simp only [KP, KR]
    repeat (refine stp ?_; intros)
    refine EK.again ⟨(j + 1, sv'), hlj⟩ (by dsimp only; omega) ?_
    have htk : (K2.take (j + 1)).map (fun k => aA (k, (A K[i]).sl k)) = (K2.take j).map (fun k => aA (k, (A K[i]).sl k)) ++ [aA (K2[j], (A K[i]).sl K2[j])] := by rw [Lm hlj, MC]; rfl
    dsimp only
    rw [htk]
    simp only [LK]
    exact (Le.keep (by repeat first | exact trivial | refine ⟨rfl, ?_⟩) (by repeat first | exact LM _ | apply List.Sublist.cons_cons | apply List.Sublist.cons) (by simp))
   ·
    have hjE : j = K2.length := by omega
    subst hjE
    refine EC.le (Le.freeze (pre := []) rfl) ?_
    simp only [KO]
    refine EC.le (Le.yh (d' := .tup [.arr 20 K[i], .v (.int .i64 pn), .arr 32 pw, .bs pc, .sl 64 ((K2.take K2.length).map fun k => aA (k, (A K[i]).sl k))]) (Rf.tup (RL.cons Rf.same (RL.cons Rf.same (RL.cons Rf.same (RL.cons Rf.same (RL.cons (Rf.fact (by simp) rfl) RL.nil))))))) ?_
    repeat (refine stp ?_; intros)
    rename_i v'
    refine EK.le (Le.oG [0, 2, 1] [_, _, _] [_, _, _] (_) rfl rfl (by decide) rfl) ?_
    try simp only [KN, KO]
    refine EK.le (Le.perm ((lQ (l := [.row v' 57 55 (L.map ak ++ [.tup [.arr 20 K[i], .v (.int .i64 pn), .arr 32 pw, .bs pc, .sl 64 ((K2.take K2.length).map fun k => aA (k, (A K[i]).sl k))]]), stO g m u k n, smO m c es, unO u us, mkO k ks]) hperm).symm.cons _)) ?_
    have hne : A K[i] ≠ Ac.zero := fun e => by
     have := hempty.2 e
     rw [hpe] at this
     cases this
    refine EK.again ⟨(i + 1, L ++ [⟨K[i], pn, pw, pc, slots (A K[i]) pss⟩], v'), hlt, ?_, ?_, ?_⟩ (by dsimp only; omega) ?_
    ·
     rw [Lm hlt]
     refine hCU.take hsp hne fun b hb => ?_
     obtain ⟨j, hj, rfl⟩ := Ns hb
     rw [MJ] at hj
     rw [List.getElem_take]
     exact MO.1 hKo j i (by omega) hlt (by omega)
    ·
     simp
     omega
    ·
     intro y hy
     rcases LP.1 hy with hy | hy
     · exact hsl y hy
     ·
      obtain rfl : y = _ := by simpa using hy
      show (slots (A K[i]) pss).length ≤ M
      rw [hsx, Lc, hK2l]
      exact hpl
    have hmp : (L ++ [(⟨K[i], pn, pw, pc, slots (A K[i]) pss⟩ : AcL)]).map ak = L.map ak ++ [.tup [.arr 20 K[i], .v (.int .i64 pn), .arr 32 pw, .bs pc, .sl 64 ((K2.take K2.length).map fun k => aA (k, (A K[i]).sl k))]] := by
     rw [MC, L9]
     simp only [LV, MW, ak]
     rw [hsx, Nc]
     rfl
    dsimp only
    rw [hmp]
    simp only [LK, KN, KO]
    exact (Le.keep (by repeat first | exact trivial | refine ⟨rfl, ?_⟩) (by repeat first | exact LM _ | apply List.Sublist.cons_cons | apply List.Sublist.cons) (by simp))
 ·
  have hiE : i = K.length := by omega
  subst hiE
  repeat (refine stp ?_; intros)
  refine EK.le (Le.freeze (pre := []) rfl) ?_
  refine EK.qh (stO g m u k n :: smO m c es :: unO u us :: mkO k ks :: rest) rfl rfl (RL.cons (Rf.fact (by simp) rfl) RL.nil) (by repeat first | exact LM _ | apply List.Sublist.cons_cons | apply List.Sublist.cons) ⟨⟨L, ?_, by omega, hsl, rfl⟩, rfl⟩
  rw [L9] at hCU
  exact hCU.canon hKc
theorem iJ {g N : Nat} {A : As} {os : List Obj} (h : PSt g A N os) (hN : N ≤ 1000000) : FnM 33 [.v (ptr g)] os (fun r os' => (∃ L, Canon A L ∧ L.length ≤ N ∧ (∀ x ∈ L, x.sl.length ≤ N) ∧ r = .val (.sl 55 (L.map ak))) ∧ os' = os) := by
 obtain ⟨m, c, es, u, k, n, us, ps, rfl, hi, hu⟩ := h
 exact BF hi hN
end E
end Go.Proofs.YtohlgnfachkmaaaGreat
