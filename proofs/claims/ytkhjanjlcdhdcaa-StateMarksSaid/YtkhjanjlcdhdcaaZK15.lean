/-
 Merged: lemmas of this claim.
 Conditions: none.
-/
import Derived.Shelf.SlSortCmp.WholeK
import Derived.Shelf.SlGeneric
import Derived.Ground.SlsfProg
import Derived.Test.YtkhjanjlcdhdcaaRows
import Derived.Test.YtkhjanjlcdhdcaaZK14
import Derived.Shelf.SlSortCmp.NoneTotal
import Derived.Test.YtkhjanjlcdhdcaaZK11
import Derived.Test.YtkhjanjlcdhdcaaZK13
import Derived.Test.YtkhjanjlcdhdcaaZK0
namespace Go.Proofs.Ytkhjanjlcdhdcaa
open Go.Shelf
def qK : Go.Shelf.Ren := ⟨fun | 6 => 34 | 15 => 42 | 14 => 41 | 28 => 53 | 29 => 54 | 20 => 45 | 21 => 46 | 22 => 47 | 23 => 48 | 24 => 49 | 25 => 50 | 26 => 51 | 27 => 52 | 46 => 63 | 47 => 64 | 48 => 65 | 49 => 66 | 50 => 67 | 57 => 71 | n => n, fun | 22 => 62 | 24 => 33 | 25 => 68 | 3 => 3 | 39 => 79 | 0 => 0 | 53 => 114 | 55 => 116 | 4 => 4 | 46 => 107 | 45 => 106 | 50 => 111 | 5 => 5 | 9 => 9 | 66 => 122 | 70 => 126 | 76 => 130 | 77 => 131 | n => n, fun | n => n⟩
theorem rY : Go.Proofs.SlLaysF0.n6 Try.prog qK := {
 mixed := by kernel_rfl
 f6 := ⟨Try.f34.name, by decide, Try.func34.trans (congrArg some (by kernel_rfl))⟩
 f14 := ⟨Try.f41.name, by decide, Try.func41.trans (congrArg some (by kernel_rfl))⟩
 f15 := Try.func42.trans (congrArg some (by kernel_rfl))
 f20 := ⟨Try.f45.name, by decide, Try.func45.trans (congrArg some (by kernel_rfl))⟩
 f21 := ⟨Try.f46.name, by decide, Try.func46.trans (congrArg some (by kernel_rfl))⟩
 f22 := ⟨Try.f47.name, by decide, Try.func47.trans (congrArg some (by kernel_rfl))⟩
 f23 := ⟨Try.f48.name, by decide, Try.func48.trans (congrArg some (by kernel_rfl))⟩
 f24 := ⟨Try.f49.name, by decide, Try.func49.trans (congrArg some (by kernel_rfl))⟩
 f25 := ⟨Try.f50.name, by decide, Try.func50.trans (congrArg some (by kernel_rfl))⟩
 f26 := ⟨Try.f51.name, by decide, Try.func51.trans (congrArg some (by kernel_rfl))⟩
 f27 := ⟨Try.f52.name, by decide, Try.func52.trans (congrArg some (by kernel_rfl))⟩
 f28 := Try.func53.trans (congrArg some (by kernel_rfl))
 f29 := Try.func54.trans (congrArg some (by kernel_rfl))
 f46 := ⟨Try.f63.name, by decide, Try.func63.trans (congrArg some (by kernel_rfl))⟩
 f47 := Try.func64.trans (congrArg some (by kernel_rfl))
 f48 := Try.func65.trans (congrArg some (by kernel_rfl))
 f49 := ⟨Try.f66.name, by decide, Try.func66.trans (congrArg some (by kernel_rfl))⟩
 f50 := ⟨Try.f67.name, by decide, Try.func67.trans (congrArg some (by kernel_rfl))⟩
 f57 := ⟨Try.f71.name, by decide, Try.func71.trans (congrArg some (by kernel_rfl))⟩
 t0 := Try.underlying0
 a0 := Try.isAgg0
 z0 := Try.sizeOf0
 v0 := Try.zeroValue0
 t3 := Try.underlying3
 a3 := Try.isAgg3
 z3 := Try.sizeOf3
 v3 := Try.zeroValue3
 t4 := Try.underlying4
 a4 := Try.isAgg4
 z4 := Try.sizeOf4
 v4 := Try.zeroValue4
 t5 := Try.underlying5
 a5 := Try.isAgg5
 z5 := Try.sizeOf5
 v5 := Try.zeroValue5
 t9 := Try.underlying9
 a9 := Try.isAgg9
 z9 := Try.sizeOf9
 v9 := Try.zeroValue9
 t22 := Try.underlying62
 a22 := Try.isAgg62
 z22 := Try.sizeOf62
 v22 := Try.zeroValue62
 t25 := Try.underlying68
 a25 := Try.isAgg68
 z25 := Try.sizeOf68
 v25 := Try.zeroValue68
 t39 := Try.underlying79
 a39 := Try.isAgg79
 z39 := Try.sizeOf79
 v39 := Try.zeroValue79
 t45 := Try.underlying106
 a45 := Try.isAgg106
 z45 := Try.sizeOf106
 v45 := Try.zeroValue106
 t46 := Try.underlying107
 a46 := Try.isAgg107
 z46 := Try.sizeOf107
 v46 := Try.zeroValue107
 t50 := Try.underlying111
 a50 := Try.isAgg111
 z50 := Try.sizeOf111
 v50 := Try.zeroValue111
 t53 := Try.underlying114
 a53 := Try.isAgg114
 z53 := Try.sizeOf114
 v53 := Try.zeroValue114
 t55 := Try.underlying116
 a55 := Try.isAgg116
 z55 := Try.sizeOf116
 v55 := Try.zeroValue116
 t66 := Try.underlying122
 a66 := Try.isAgg122
 z66 := Try.sizeOf122
 v66 := Try.zeroValue122
 t70 := Try.underlying126
 a70 := Try.isAgg126
 z70 := Try.sizeOf126
 v70 := Try.zeroValue126
 t76 := Try.underlying130
 a76 := Try.isAgg130
 z76 := Try.sizeOf130
 v76 := Try.zeroValue130
 t77 := Try.underlying131
 a77 := Try.isAgg131
 z77 := Try.sizeOf131
 v77 := Try.zeroValue131 }
def qH : Go.Shelf.Ren := ⟨fun | 6 => 38 | 15 => 42 | 14 => 44 | 28 => 53 | 29 => 54 | 20 => 55 | 21 => 56 | 22 => 57 | 23 => 58 | 24 => 59 | 25 => 60 | 26 => 61 | 27 => 62 | 46 => 68 | 47 => 64 | 48 => 65 | 49 => 69 | 50 => 70 | 57 => 72 | n => n, fun | 22 => 69 | 24 => 35 | 25 => 74 | 3 => 3 | 39 => 79 | 0 => 0 | 53 => 114 | 55 => 116 | 4 => 4 | 46 => 107 | 45 => 106 | 50 => 111 | 5 => 5 | 9 => 9 | 66 => 122 | 70 => 126 | 76 => 130 | 77 => 131 | n => n, fun | n => n⟩
theorem rV : Go.Proofs.SlLaysF0.n6 Try.prog qH := {
 mixed := by kernel_rfl
 f6 := ⟨Try.f38.name, by decide, Try.func38.trans (congrArg some (by kernel_rfl))⟩
 f14 := ⟨Try.f44.name, by decide, Try.func44.trans (congrArg some (by kernel_rfl))⟩
 f15 := Try.func42.trans (congrArg some (by kernel_rfl))
 f20 := ⟨Try.f55.name, by decide, Try.func55.trans (congrArg some (by kernel_rfl))⟩
 f21 := ⟨Try.f56.name, by decide, Try.func56.trans (congrArg some (by kernel_rfl))⟩
 f22 := ⟨Try.f57.name, by decide, Try.func57.trans (congrArg some (by kernel_rfl))⟩
 f23 := ⟨Try.f58.name, by decide, Try.func58.trans (congrArg some (by kernel_rfl))⟩
 f24 := ⟨Try.f59.name, by decide, Try.func59.trans (congrArg some (by kernel_rfl))⟩
 f25 := ⟨Try.f60.name, by decide, Try.func60.trans (congrArg some (by kernel_rfl))⟩
 f26 := ⟨Try.f61.name, by decide, Try.func61.trans (congrArg some (by kernel_rfl))⟩
 f27 := ⟨Try.f62.name, by decide, Try.func62.trans (congrArg some (by kernel_rfl))⟩
 f28 := Try.func53.trans (congrArg some (by kernel_rfl))
 f29 := Try.func54.trans (congrArg some (by kernel_rfl))
 f46 := ⟨Try.f68.name, by decide, Try.func68.trans (congrArg some (by kernel_rfl))⟩
 f47 := Try.func64.trans (congrArg some (by kernel_rfl))
 f48 := Try.func65.trans (congrArg some (by kernel_rfl))
 f49 := ⟨Try.f69.name, by decide, Try.func69.trans (congrArg some (by kernel_rfl))⟩
 f50 := ⟨Try.f70.name, by decide, Try.func70.trans (congrArg some (by kernel_rfl))⟩
 f57 := ⟨Try.f72.name, by decide, Try.func72.trans (congrArg some (by kernel_rfl))⟩
 t0 := Try.underlying0
 a0 := Try.isAgg0
 z0 := Try.sizeOf0
 v0 := Try.zeroValue0
 t3 := Try.underlying3
 a3 := Try.isAgg3
 z3 := Try.sizeOf3
 v3 := Try.zeroValue3
 t4 := Try.underlying4
 a4 := Try.isAgg4
 z4 := Try.sizeOf4
 v4 := Try.zeroValue4
 t5 := Try.underlying5
 a5 := Try.isAgg5
 z5 := Try.sizeOf5
 v5 := Try.zeroValue5
 t9 := Try.underlying9
 a9 := Try.isAgg9
 z9 := Try.sizeOf9
 v9 := Try.zeroValue9
 t22 := Try.underlying69
 a22 := Try.isAgg69
 z22 := Try.sizeOf69
 v22 := Try.zeroValue69
 t25 := Try.underlying74
 a25 := Try.isAgg74
 z25 := Try.sizeOf74
 v25 := Try.zeroValue74
 t39 := Try.underlying79
 a39 := Try.isAgg79
 z39 := Try.sizeOf79
 v39 := Try.zeroValue79
 t45 := Try.underlying106
 a45 := Try.isAgg106
 z45 := Try.sizeOf106
 v45 := Try.zeroValue106
 t46 := Try.underlying107
 a46 := Try.isAgg107
 z46 := Try.sizeOf107
 v46 := Try.zeroValue107
 t50 := Try.underlying111
 a50 := Try.isAgg111
 z50 := Try.sizeOf111
 v50 := Try.zeroValue111
 t53 := Try.underlying114
 a53 := Try.isAgg114
 z53 := Try.sizeOf114
 v53 := Try.zeroValue114
 t55 := Try.underlying116
 a55 := Try.isAgg116
 z55 := Try.sizeOf116
 v55 := Try.zeroValue116
 t66 := Try.underlying122
 a66 := Try.isAgg122
 z66 := Try.sizeOf122
 v66 := Try.zeroValue122
 t70 := Try.underlying126
 a70 := Try.isAgg126
 z70 := Try.sizeOf126
 v70 := Try.zeroValue126
 t76 := Try.underlying130
 a76 := Try.isAgg130
 z76 := Try.sizeOf130
 v76 := Try.zeroValue130
 t77 := Try.underlying131
 a77 := Try.isAgg131
 z77 := Try.sizeOf131
 v77 := Try.zeroValue131 }
end Go.Proofs.Ytkhjanjlcdhdcaa
namespace Go.Proofs.Ytkhjanjlcdhdcaa
set_option linter.unusedVariables false
set_option maxRecDepth 20000
set_option maxHeartbeats 2000000
open Go.RowKit Mono Rlp Go.Sort
namespace E
def sortL (l : List (List UInt8)) : List (List UInt8) := l.mergeSort fun a b => decide (a ≤ b)
theorem fK (l : List (List UInt8)) : (sortL l).Perm l := List.mergeSort_perm _ _
theorem lH (l : List (List UInt8)) : (sortL l).Pairwise (· ≤ ·) := by
 have h := List.pairwise_mergeSort (le := fun a b : List UInt8 => decide (a ≤ b)) (fun a b c h1 h2 => by simp only [decide_eq_true_eq] at h1 h2 ⊢; exact List.le_trans h1 h2) (fun a b => by simp only [G7, decide_eq_true_eq]; exact List.le_total a b) l
 exact h.imp fun h => by simpa using h
theorem rX {l m : List (List UInt8)} (hp : m.Perm l) (hs : m.Pairwise (· ≤ ·)) : m = sortL l :=
 List.Perm.eq_of_pairwise (fun a b _ _ h1 h2 => GV h1 h2) hs (lH l) (hp.trans (fK l).symm)
theorem wZ {n : Nat} (hn : 0 < n) [Inhabited (Ky n)] : ∀ (ks : List (Ky n)) (t : Nat), t < ks.length * n → (ks.map kc).flatten[t]? = some ((kc (ks[t / n]!))[t % n]!)
 | [], t, h => by simp at h
 | k :: ks, t, h => by
  have hk : (kc k).length = n := by unfold kc; rw [bK, k.2]
  rw [EX, Fz]
  by_cases ht : t < n
  ·
   rw [FU (by omega), Nat.div_eq_of_lt ht, Nat.mod_eq_of_lt ht]
   simp [hk, ht]
  ·
   rw [FH (by omega), hk, wZ hn ks (t - n) (by simp [Nat.add_mul] at h; omega)]
   have h1 : t / n = (t - n) / n + 1 := by
    conv => lhs; rw [show t = t - n + n by omega, Nat.add_div_right _ hn]
   have h2 : t % n = (t - n) % n := by
    conv => lhs; rw [show t = t - n + n by omega, Nat.add_mod_right]
   rw [h1, h2]
   simp
theorem gK {n : Nat} (hn : 0 < n) [Inhabited (Ky n)] (ks : List (Ky n)) : (flatK kc n ks.toArray).toList = (ks.map kc).flatten := by
 have hl : (ks.map kc).flatten.length = ks.length * n := by
  have : ∀ ks : List (Ky n), (ks.map kc).flatten.length = ks.length * n := fun ks => by
   induction ks with
   | nil => simp
   | cons k ks ih =>
    have hk : (kc k).length = n := by unfold kc; rw [bK, k.2]
    rw [EX, Fz, Fh, ih, hk, E8, FY, Gi, Nat.add_comm]
  exact this ks
 refine List.ext_getElem? fun t => ?_
 by_cases ht : t < ks.length * n
 ·
  rw [wZ hn ks t ht, F5]
  have hs : t < (flatK kc n ks.toArray).size := by simpa using ht
  have := get_flatK kc n ks.toArray t (by simpa using ht)
  rw [getElem!_pos _ t hs] at this
  rw [F7 hs, this]
  simp
 · rw [List.getElem?_eq_none (by simp; omega), List.getElem?_eq_none (by omega)]
theorem tV {w : World} {g n : Nat} {os : Array Go.Obj} {cur : Array Value} {e : TypeId} {fr : Nat × Nat} (F : Array Value) (hb : w.heap[g]? = some (.cells cur e fr)) :
  (grow (putRow id (Sort.ahead w n) g 0 F) os).heap[g]? = some (.cells (putCells id 0 F cur) e fr) := by
 have hg : g < w.heap.size := (EJ.1 hb).1
 rw [heap_grow_old _ _ (by simpa using hg)]
 simp [putRow, mapBlock, Sort.ahead, Array.getElem?_modify, hb, onCells]
theorem qj {w : World} {g n : Nat} {os : Array Go.Obj} (F : Array Value) : w.grownBy (grow (putRow id (Sort.ahead w n) g 0 F) os) (some g) := by
 refine ⟨rfl, rfl, rfl, by simp, fun k hk hne => ?_⟩
 rw [heap_grow_old _ _ (by simpa using hk)]
 have : g ≠ k := fun e => hne (by rw [e])
 simp [putRow, mapBlock, Sort.ahead, Array.getElem?_modify, this]
theorem rP (cur F : Array Value) (h : F.size ≤ cur.size) : (putCells id 0 F cur).toList.take F.size = F.toList := by
 apply List.ext_getElem?
 intro j
 by_cases hj : j < F.size
 ·
  rw [List.getElem?_take_of_lt hj, F5]
  simp [putCells, hj, show j < cur.size by omega]
 · rw [List.getElem?_take_eq_none (by omega), List.getElem?_eq_none (by simp; omega)]
instance inh_addr : Inhabited (Ky 20) := ⟨⟨List.replicate 20 0, by simp⟩⟩
theorem qJ (cf : FuncId) (hc : ∀ l m : List UInt8, l.length = 20 → m.length = 20 → ∀ w, Calls Try.prog cf #[bI l, bI m] w fun e w' => e = .returned (.int .i64 (fU l m)) ∧ ∃ q os', w' = grow (w.drewN q) os') (ec : ∀ args w, (callFunc cf args).run Try.prog w = .ok (.enter cf args) w)
  (g cap : Nat) (ks : List (Ky 20)) (w : World) (hl : ks.length < 4611686018427387904) (hH : HoldsK kc 20 w g 0 ks.toArray) (hb : g < w.heap.size) :
  Calls Try.prog 34 #[.slice (some ⟨g, 0, none⟩) ks.length cap, .func (.func cf) #[] #[]] w fun e w' => e = .returned (.tuple #[]) ∧ ∃ n os, w' = grow (putRow id (Sort.ahead w n) g 0 (flatK kc 20 (ks.mergeSort fun x y => decide (x.1 ≤ y.1)).toArray)) os := by
 have hT : ∀ x y : Ky 20, ltOf (fun x y : Ky 20 => fU x.1 y.1) x y = false → ltOf (fun x y : Ky 20 => fU x.1 y.1) y x = false → x = y := fun x y h1 h2 => by
  rw [show ltOf (fun x y : Ky 20 => fU x.1 y.1) x y = decide (x.1 < y.1) from jw x.1 y.1] at h1
  rw [show ltOf (fun x y : Ky 20 => fU x.1 y.1) y x = decide (y.1 < x.1) from jw y.1 x.1] at h2
  simp only [decide_eq_false_iff_not, List.not_lt] at h1 h2
  exact Subtype.ext (GV h2 h1)
 have h := AnyQ.slices_SortFunc_total rY 20 Try.isAgg33 Try.sizeOf33 kc (fun x => by unfold kc; rw [bK, x.2]) (fun x v hv => nV x.1 v hv) (fun x y : Ky 20 => fU x.1 y.1) (swo 20) cf #[] g 0 cap ks.toArray w ec (fun m os dk hs x y => hc x.1 y.1 x.2 y.2 _) hH hb (by simpa using hl) hT
 have hf : (fun x y : Ky 20 => !(ltOf fun x y : Ky 20 => fU x.1 y.1) y x) = fun x y => decide (x.1 ≤ y.1) := by
  funext x y
  rw [show ltOf (fun x y : Ky 20 => fU x.1 y.1) y x = decide (y.1 < x.1) from jw y.1 x.1]
  by_cases h : y.1 < x.1
  · simp [h, List.not_le.2 h]
  · simp [h, List.not_lt.1 h]
 rw [hf] at h
 exact h.mono fun e w' ⟨he, n, os, hw⟩ => ⟨he, n, os, hw⟩
theorem xK (cf : FuncId) (hc : ∀ l m : List UInt8, l.length = 20 → m.length = 20 → ∀ w, Calls Try.prog cf #[bI l, bI m] w fun e w' => e = .returned (.int .i64 (fU l m)) ∧ ∃ q os', w' = grow (w.drewN q) os') (ec : ∀ args w, (callFunc cf args).run Try.prog w = .ok (.enter cf args) w)
  (v : Value) (ks : List (Ky 20)) (hl : ks.length < 4611686018427387904) :
  FnM 34 [.v v, .v (.func (.func cf) #[] #[])] [.row v 33 20 (ks.map dK)] (fun r os' => r = .tpl [] ∧ os' = [.row v 33 20 ((ks.mergeSort fun x y => decide (x.1 ≤ y.1)).map dK)]) := by
 constructor
 intro ok w xs hok hown hr
 obtain ⟨x1, _, rfl, hx1, x2, _, rfl, hx2, rfl⟩ := hr
 obtain rfl := (aI.1 hx1).2
 obtain rfl := (aI.1 hx2).2
 obtain ⟨rows, ⟨hrow, hbase⟩, hrows⟩ := hown.at_ _ (Et ..)
 rw [jg _ _ hrows, Eo] at hrow
 rcases hrow.2 with ⟨rfl, h0⟩ | ⟨g, cap, cur, rfl, _, hgb, r1, r2, r3, r4⟩
 ·
  obtain rfl : ks = [] := FP h0
  have hms : ([] : List (Ky 20)).mergeSort (fun x y => decide (x.1 ≤ y.1)) = [] := by simp
  rw [hms]
  refine (AnyF.slices_SortFunc_none rY none 0 (.func (.func cf) #[] #[]) w).mono ?_
  rintro e w' ⟨rfl, rfl⟩
  refine ⟨_, .tpl [], _, rfl, ⟨rfl, rfl⟩, ⟨.refl _, hown.apart, fun o ho => ?_⟩, [], rfl, rfl⟩
  obtain rfl : o = _ := by simpa using ho
  exact ⟨[], ⟨⟨by simp, .inl ⟨rfl, rfl⟩⟩, fun b hb => by cases hb⟩, fB []⟩
 ·
  have hlt := (EJ.1 hgb).1
  have hml : (ks.mergeSort fun x y => decide (x.1 ≤ y.1)).length = ks.length := List.length_mergeSort _
  have hH : HoldsK kc 20 w g 0 ks.toArray := fun j hj => by
   have hj' : j < ks.length * 20 := by simpa using hj
   have h1 : (cur.toList.take (ks.length * 20))[j]? = (ks.map kc).flatten[j]? := by rw [r4]
   rw [List.getElem?_take_of_lt hj', ← gK (by decide)] at h1
   refine ⟨?_, by simp [World.frozen?, hgb]⟩
   rw [cell_of_row w g (0 + j) cur 33 (0, 0) hgb, Fe, ← F5, h1, F5, F7 hj, getElem!_pos _ j hj]
   rfl
  refine (qJ cf hc ec g cap ks w hl hH hlt).mono ?_
  rintro e w' ⟨rfl, n, os, rfl⟩
  have hg := qj (w := w) (g := g) (n := n) (os := os) (flatK kc 20 (ks.mergeSort fun x y => decide (x.1 ≤ y.1)).toArray)
  have hh := tV (n := n) (os := os) (flatK kc 20 (ks.mergeSort fun x y => decide (x.1 ≤ y.1)).toArray) hgb
  have hF : (flatK kc 20 (ks.mergeSort fun x y => decide (x.1 ≤ y.1)).toArray).size = ks.length * 20 := by rw [size_flatK]; simp [hml]
  have htk := rP cur (flatK kc 20 (ks.mergeSort fun x y => decide (x.1 ≤ y.1)).toArray) (by rw [hF, r3]; exact F9 _ r1)
  rw [hF, gK (by decide)] at htk
  refine ⟨_, .tpl [], _, rfl, ⟨rfl, rfl⟩, ⟨⟨hg.os, hg.tape, hg.output, hg.size, fun k hk hn => hg.block k hk fun e => hn ?_⟩, .cons (fun _ h => by simp at h) .nil, fun o ho => ?_⟩, [], rfl, rfl⟩
  ·
   cases e
   exact ⟨_, Et .., rfl⟩
  ·
   obtain rfl : o = _ := by simpa using ho
   refine ⟨_, ⟨⟨?_, .inr ⟨g, cap, _, ?_, Fa _, hh, ?_, r2, ?_, ?_⟩⟩, fun b hb => .inl ⟨_, Et .., hb⟩⟩, fB _⟩
   · rw [← gK (by decide), G5, hF, Eo, hml]
   · rw [Eo, hml]
   ·
    rw [Eo, hml]
    exact r1
   · simp [putCells, r3]
   ·
    rw [Eo, hml]
    exact htk
instance inh_word : Inhabited (Ky 32) := ⟨⟨List.replicate 32 0, by simp⟩⟩
theorem qI (cf : FuncId) (hc : ∀ l m : List UInt8, l.length = 32 → m.length = 32 → ∀ w, Calls Try.prog cf #[bI l, bI m] w fun e w' => e = .returned (.int .i64 (fU l m)) ∧ ∃ q os', w' = grow (w.drewN q) os') (ec : ∀ args w, (callFunc cf args).run Try.prog w = .ok (.enter cf args) w)
  (g cap : Nat) (ks : List (Ky 32)) (w : World) (hl : ks.length < 4611686018427387904) (hH : HoldsK kc 32 w g 0 ks.toArray) (hb : g < w.heap.size) :
  Calls Try.prog 38 #[.slice (some ⟨g, 0, none⟩) ks.length cap, .func (.func cf) #[] #[]] w fun e w' => e = .returned (.tuple #[]) ∧ ∃ n os, w' = grow (putRow id (Sort.ahead w n) g 0 (flatK kc 32 (ks.mergeSort fun x y => decide (x.1 ≤ y.1)).toArray)) os := by
 have hT : ∀ x y : Ky 32, ltOf (fun x y : Ky 32 => fU x.1 y.1) x y = false → ltOf (fun x y : Ky 32 => fU x.1 y.1) y x = false → x = y := fun x y h1 h2 => by
  rw [show ltOf (fun x y : Ky 32 => fU x.1 y.1) x y = decide (x.1 < y.1) from jw x.1 y.1] at h1
  rw [show ltOf (fun x y : Ky 32 => fU x.1 y.1) y x = decide (y.1 < x.1) from jw y.1 x.1] at h2
  simp only [decide_eq_false_iff_not, List.not_lt] at h1 h2
  exact Subtype.ext (GV h2 h1)
 have h := AnyQ.slices_SortFunc_total rV 32 Try.isAgg35 Try.sizeOf35 kc (fun x => by unfold kc; rw [bK, x.2]) (fun x v hv => nV x.1 v hv) (fun x y : Ky 32 => fU x.1 y.1) (swo 32) cf #[] g 0 cap ks.toArray w ec (fun m os dk hs x y => hc x.1 y.1 x.2 y.2 _) hH hb (by simpa using hl) hT
 have hf : (fun x y : Ky 32 => !(ltOf fun x y : Ky 32 => fU x.1 y.1) y x) = fun x y => decide (x.1 ≤ y.1) := by
  funext x y
  rw [show ltOf (fun x y : Ky 32 => fU x.1 y.1) y x = decide (y.1 < x.1) from jw y.1 x.1]
  by_cases h : y.1 < x.1
  · simp [h, List.not_le.2 h]
  · simp [h, List.not_lt.1 h]
 rw [hf] at h
 exact h.mono fun e w' ⟨he, n, os, hw⟩ => ⟨he, n, os, hw⟩
theorem xJ (cf : FuncId) (hc : ∀ l m : List UInt8, l.length = 32 → m.length = 32 → ∀ w, Calls Try.prog cf #[bI l, bI m] w fun e w' => e = .returned (.int .i64 (fU l m)) ∧ ∃ q os', w' = grow (w.drewN q) os') (ec : ∀ args w, (callFunc cf args).run Try.prog w = .ok (.enter cf args) w)
  (v : Value) (ks : List (Ky 32)) (hl : ks.length < 4611686018427387904) :
  FnM 38 [.v v, .v (.func (.func cf) #[] #[])] [.row v 35 32 (ks.map dK)] (fun r os' => r = .tpl [] ∧ os' = [.row v 35 32 ((ks.mergeSort fun x y => decide (x.1 ≤ y.1)).map dK)]) := by
 constructor
 intro ok w xs hok hown hr
 obtain ⟨x1, _, rfl, hx1, x2, _, rfl, hx2, rfl⟩ := hr
 obtain rfl := (aI.1 hx1).2
 obtain rfl := (aI.1 hx2).2
 obtain ⟨rows, ⟨hrow, hbase⟩, hrows⟩ := hown.at_ _ (Et ..)
 rw [jg _ _ hrows, Eo] at hrow
 rcases hrow.2 with ⟨rfl, h0⟩ | ⟨g, cap, cur, rfl, _, hgb, r1, r2, r3, r4⟩
 ·
  obtain rfl : ks = [] := FP h0
  have hms : ([] : List (Ky 32)).mergeSort (fun x y => decide (x.1 ≤ y.1)) = [] := by simp
  rw [hms]
  refine (AnyF.slices_SortFunc_none rV none 0 (.func (.func cf) #[] #[]) w).mono ?_
  rintro e w' ⟨rfl, rfl⟩
  refine ⟨_, .tpl [], _, rfl, ⟨rfl, rfl⟩, ⟨.refl _, hown.apart, fun o ho => ?_⟩, [], rfl, rfl⟩
  obtain rfl : o = _ := by simpa using ho
  exact ⟨[], ⟨⟨by simp, .inl ⟨rfl, rfl⟩⟩, fun b hb => by cases hb⟩, fB []⟩
 ·
  have hlt := (EJ.1 hgb).1
  have hml : (ks.mergeSort fun x y => decide (x.1 ≤ y.1)).length = ks.length := List.length_mergeSort _
  have hH : HoldsK kc 32 w g 0 ks.toArray := fun j hj => by
   have hj' : j < ks.length * 32 := by simpa using hj
   have h1 : (cur.toList.take (ks.length * 32))[j]? = (ks.map kc).flatten[j]? := by rw [r4]
   rw [List.getElem?_take_of_lt hj', ← gK (by decide)] at h1
   refine ⟨?_, by simp [World.frozen?, hgb]⟩
   rw [cell_of_row w g (0 + j) cur 35 (0, 0) hgb, Fe, ← F5, h1, F5, F7 hj, getElem!_pos _ j hj]
   rfl
  refine (qI cf hc ec g cap ks w hl hH hlt).mono ?_
  rintro e w' ⟨rfl, n, os, rfl⟩
  have hg := qj (w := w) (g := g) (n := n) (os := os) (flatK kc 32 (ks.mergeSort fun x y => decide (x.1 ≤ y.1)).toArray)
  have hh := tV (n := n) (os := os) (flatK kc 32 (ks.mergeSort fun x y => decide (x.1 ≤ y.1)).toArray) hgb
  have hF : (flatK kc 32 (ks.mergeSort fun x y => decide (x.1 ≤ y.1)).toArray).size = ks.length * 32 := by rw [size_flatK]; simp [hml]
  have htk := rP cur (flatK kc 32 (ks.mergeSort fun x y => decide (x.1 ≤ y.1)).toArray) (by rw [hF, r3]; exact F9 _ r1)
  rw [hF, gK (by decide)] at htk
  refine ⟨_, .tpl [], _, rfl, ⟨rfl, rfl⟩, ⟨⟨hg.os, hg.tape, hg.output, hg.size, fun k hk hn => hg.block k hk fun e => hn ?_⟩, .cons (fun _ h => by simp at h) .nil, fun o ho => ?_⟩, [], rfl, rfl⟩
  ·
   cases e
   exact ⟨_, Et .., rfl⟩
  ·
   obtain rfl : o = _ := by simpa using ho
   refine ⟨_, ⟨⟨?_, .inr ⟨g, cap, _, ?_, Fa _, hh, ?_, r2, ?_, ?_⟩⟩, fun b hb => .inl ⟨_, Et .., hb⟩⟩, fB _⟩
   · rw [← gK (by decide), G5, hF, Eo, hml]
   · rw [Eo, hml]
   ·
    rw [Eo, hml]
    exact r1
   · simp [putCells, r3]
   ·
    rw [Eo, hml]
    exact htk
def unV : Value → List UInt8
 | .agg cs => cs.toList.map fun v => match v with
  | .int _ n => UInt8.ofNat n.toNat
  | _ => 0
 | _ => []
theorem nO (l : List UInt8) : unV (bI l) = l := by
 unfold bI unV bvs
 simp only [FQ]
 refine (Gf fun b _ => ?_).trans (List.map_id l)
 simp [bv]
theorem jY {α β γ : Type} {R : α → β → Prop} {f : α → γ} {g : β → γ} (h : ∀ a b, R a b → f a = g b) : ∀ {l : List α} {m : List β}, gu R l m → l.map f = m.map g
 | _, _, .nil => rfl
 | _, _, .cons h1 h2 => by rw [EX, EX, h _ _ h1, jY h h2]
theorem lZ {α β : Type} {R : α → β → Prop} {l : List α} {m : List β} (h : gu R l m) {a : α} (ha : a ∈ l) : ∃ b ∈ m, R a b := by
 induction h with
 | nil => cases ha
 | cons h1 h2 ih =>
  rcases Es.1 ha with rfl | ha
  · exact ⟨_, Et .., h1⟩
  ·
   obtain ⟨b, hb, hr⟩ := ih ha
   exact ⟨b, List.mem_cons_of_mem _ hb, hr⟩
theorem jZ {α β : Type} {R : α → β → Prop} : ∀ {l : List α} {m : List β}, gu R l m → l.length = m.length
 | _, _, .nil => rfl
 | _, _, .cons _ h2 => by rw [E8, E8, jZ h2]
theorem yK {n : Nat} (ks : List (Ky n)) : ks.map dK = (ks.map (·.1)).map (D.arr n) := by
 rw [FQ]
 rfl
theorem uF : ∀ args w, (callFunc 35 args).run Try.prog w = .ok (.enter 35 args) w := enters_of Try.func35 (by kernel_rfl) rfl
theorem uM (g m c : Nat) (es : List Ent) (hl : es.length * 20 ≤ 140737488355328) : FnM 40 [.v (.slice none 0 0), .v (.func (.func 35) #[] #[.pointer (some ⟨g, 0, none⟩)])] [.var g 47 (.v (.map (some m))), .map m 20 c es] (fun r os' => ∃ v, ∃ ks : List (Ky 20), r = .val (.v v) ∧ (ks.map (·.1)).Perm (es.map (·.2.1)) ∧ os' = [.row v 33 20 (ks.map dK), .var g 47 (.v (.map (some m))), .map m 20 c es]) := by
 constructor
 intro ok w xs hok hown hr
 obtain ⟨x1, _, rfl, hx1, x2, _, rfl, hx2, rfl⟩ := hr
 obtain rfl := (aI.1 hx1).2
 obtain rfl := (aI.1 hx2).2
 obtain ⟨_, cs, hg, hrd⟩ := hown.at_ _ (Et ..)
 obtain ⟨_, hent, arr, hm, hall⟩ := hown.at_ _ (List.mem_cons_of_mem _ (Et ..))
 rw [Reads] at hrd
 rw [hrd.2] at hg
 have hglt := (EJ.1 hg).1
 have hmlt := (EJ.1 hm).1
 have hbs : arr.toList.map (·.born) = es.map (·.1) := jY (fun a b h => h.born) hall
 have hks : arr.toList.map (·.key) = es.map fun x => bI x.2.1 := jY (fun a b h => h.key) hall
 have hsz : arr.size = es.length := by rw [← G5, jZ hall]
 have hseq : SeqStopsK Fence.wide 3 Try.prog 35 #[.pointer (some ⟨g, 0, none⟩)] (fun x : Ky 20 => #[kv x]) KeepsWalks (fun ss => (ss.map kv).Perm (arr.toList.map (·.key))) (fun _ => True) arr.size w := fun l J Jx W hW hJ _ hY h0 =>
  vO 3 l g m (by omega) arr c J Jx hY W hJ ((hW.cell (p := ⟨g, 0, none⟩) hglt).trans (by rw [cell_of_row w g 0 _ _ _ hg]; rfl)) ((hW.block m hmlt).trans hm) (by rw [hbs]; exact hent.borns)
   (fun x hx => by obtain ⟨y, hy, he⟩ := lZ hall hx; rw [he.born]; exact hent.lt y hy)
   (fun x hx => by obtain ⟨y, hy, he⟩ := lZ hall hx; exact ⟨⟨y.2.1, he.len⟩, he.key⟩) h0
 refine (callsIn_wide.1 (o8 4 (by omega) 35 #[.pointer (some ⟨g, 0, none⟩)] uF _ _ arr.size (by rw [hsz]; exact hl) w hseq)).mono ?_
 rintro e w' ⟨v, ks, rfl, hp, hrow, hnil, hB⟩
 have hp' : (ks.map (·.1)).Perm (es.map (·.2.1)) := by
  rw [hks] at hp
  have := hp.map unV
  rw [FQ, FQ] at this
  have e1 : ks.map (unV ∘ kv) = ks.map (·.1) := Gf fun k _ => nO k.1
  have e2 : es.map (unV ∘ fun x => bI x.2.1) = es.map (·.2.1) := Gf fun k _ => nO k.2.1
  rwa [e1, e2] at this
 have hnew : ∀ b, v.ownBlock = some b → w.heap.size ≤ b := fun b hb => (hrow.lt b hb).1
 refine ⟨v, .val (.v v), _, rfl, ⟨v, ks, rfl, hp', rfl⟩, ⟨.of hB, .cons (fun p hp b hb e => ?_) hown.apart, fun o ho => ?_⟩, aI.2 ⟨lJ hrow, rfl⟩⟩
 ·
  have h1 := hnew b hb
  have h2 := (Obj.bV (hown.at_ p hp) e).2
  omega
 ·
  rcases Es.1 ho with rfl | ho
  ·
   refine ⟨ks.map kc, ⟨?_, fun b hb => .inr (hnew b hb)⟩, fB ks⟩
   rw [Eo]
   exact lK hrow
  ·
   refine ((hown.at_ o ho).move (fun b hb => ⟨.inl hb, EG (hok b hb) hB.size, fun o' ho' e => ?_⟩) (fun p hp => hB.cell (hok _ hp)) fun b hb => hB.block b (Obj.bV (hown.at_ o ho) hb).2).lg fun b hb => .inl ⟨o, ho, hb⟩
   rcases Es.1 ho' with rfl | ho'
   ·
    have := hnew b e
    have := hok b hb
    omega
   · exact hown.off b ⟨o', ho', e⟩ hb
theorem xZ (m : Nat) : FnM 19 [.v (.map (some m))] [] (fun r os' => ∃ g, r = .val (.v (.func (.func 35) #[] #[.pointer (some ⟨g, 0, none⟩)])) ∧ os' = [.var g 47 (.v (.map (some m)))]) := by
 refine FnM.walk 4 Try.func19 rfl Try.ntmps19 (by simp) fun X => ?_
 repeat
  (first
   | (apply ay; iterate 3 rfl) | (apply kC; iterate 3 rfl) | (apply bW; rfl; rfl; rfl; intro _) | apply EL.nil
   | (with_reducible first | apply EK.nc | apply EC.seq | apply EC.r0 | apply EC.k0 | apply EC.label | apply EC.b0 | apply EC.x0 | apply EC.ret | apply EK.n0 | apply EK.s0 | apply EK.aB | apply EK.au | apply EK.ah))
 rename_i g
 exact EK.bH [.var g 47 (.v (.map (some m)))] rfl rfl (by (repeat first | exact Em _ | apply List.Sublist.cons_cons | apply List.Sublist.cons)) ⟨g, rfl, rfl⟩
theorem rD (g m c : Nat) (es : List Ent) (hl : es.length * 20 ≤ 140737488355328) : FnM 33 [.v (.func (.func 35) #[] #[.pointer (some ⟨g, 0, none⟩)])] [.var g 47 (.v (.map (some m))), .map m 20 c es] (fun r os' => ∃ v, ∃ ks : List (Ky 20), r = .val (.v v) ∧ (ks.map (·.1)).Perm (es.map (·.2.1)) ∧ os' = [.row v 33 20 (ks.map dK), .var g 47 (.v (.map (some m))), .map m 20 c es]) := by
 have h1 := uM g m c es hl
 refine FnM.walk 5 Try.func33 rfl Try.ntmps33 (by simp) fun X => ?_
 repeat
  (first
   | (apply dw (os := [.var g 47 (.v (.map (some m))), .map m 20 c es]) h1; (iterate 2 rfl); exact ak.refl _ _; (focus (intro _ _; simp [go_sem]; done)); (iterate 2 rfl); rintro _ _ ⟨v, ks, rfl, hp, rfl⟩)
   | (apply aA; iterate 3 rfl) | (apply ay; iterate 3 rfl) | apply EL.nil
   | (with_reducible first | apply EK.nc | apply EC.seq | apply EC.r0 | apply EC.k0 | apply EC.label | apply EC.b0 | apply EC.x0 | apply EC.ret | apply EK.n0 | apply EK.s0 | apply EK.aB | apply EK.au | apply EK.ah))
 exact EK.bH [.row v 33 20 (ks.map dK), .var g 47 (.v (.map (some m))), .map m 20 c es] rfl rfl (by (repeat first | exact Em _ | apply List.Sublist.cons_cons | apply List.Sublist.cons)) ⟨v, ks, rfl, hp, rfl⟩
theorem rU (cf : FuncId) (hc : ∀ l m : List UInt8, l.length = 20 → m.length = 20 → ∀ w, Calls Try.prog cf #[bI l, bI m] w fun e w' => e = .returned (.int .i64 (fU l m)) ∧ ∃ q os', w' = grow (w.drewN q) os') (ec : ∀ args w, (callFunc cf args).run Try.prog w = .ok (.enter cf args) w)
  (g m c : Nat) (es : List Ent) (hl : es.length * 20 ≤ 140737488355328) : FnM 18 [.v (.func (.func 35) #[] #[.pointer (some ⟨g, 0, none⟩)]), .v (.func (.func cf) #[] #[])] [.var g 47 (.v (.map (some m))), .map m 20 c es] (fun r os' => ∃ v, r = .val (.v v) ∧ os' = [.row v 33 20 ((sortL (es.map (·.2.1))).map (D.arr 20)), .var g 47 (.v (.map (some m))), .map m 20 c es]) := by
 have h1 := rD g m c es hl
 refine FnM.walk 12 Try.func18 rfl Try.ntmps18 (by simp) fun X => ?_
 repeat
  (first
   | (apply dw (os := [.var g 47 (.v (.map (some m))), .map m 20 c es]) h1; (iterate 2 rfl); exact ak.refl _ _; (focus (intro _ _; simp [go_sem]; done)); (iterate 2 rfl); rintro _ _ ⟨v, ks, rfl, hp, rfl⟩)
   | (apply aA; iterate 3 rfl) | (apply ay; iterate 3 rfl) | apply EL.nil
   | (with_reducible first | apply EK.nc | apply EC.seq | apply EC.r0 | apply EC.k0 | apply EC.label | apply EC.b0 | apply EC.x0 | apply EC.ret | apply EK.n0 | apply EK.s0 | apply EK.aB | apply EK.au | apply EK.ah))
 have hkl : ks.length = es.length := by simpa using hp.length_eq
 have h2 := xK cf hc ec v ks (by omega)
 repeat
  (first
   | (apply dw (os := [.row v 33 20 (ks.map dK)]) h2; (iterate 2 rfl); exact ak.refl _ _; (focus (intro _ _; simp [go_sem]; done)); (iterate 2 rfl); rintro _ _ ⟨rfl, rfl⟩)
   | (apply aA; iterate 3 rfl) | (apply ay; iterate 3 rfl) | apply EL.nil
   | (with_reducible first | apply EK.nc | apply EC.seq | apply EC.r0 | apply EC.k0 | apply EC.label | apply EC.b0 | apply EC.x0 | apply EC.ret | apply EK.n0 | apply EK.s0 | apply EK.aB | apply EK.au | apply EK.ah))
 have hs : (ks.mergeSort fun x y => decide (x.1 ≤ y.1)).map (·.1) = sortL (es.map (·.2.1)) := by
  refine rX (((List.mergeSort_perm ks _).map (·.1)).trans hp) ?_
  have h := List.pairwise_mergeSort (le := fun x y : Ky 20 => decide (x.1 ≤ y.1)) (fun a b c h1 h2 => by simp only [decide_eq_true_eq] at h1 h2 ⊢; exact List.le_trans h1 h2) (fun a b => by simp only [G7, decide_eq_true_eq]; exact List.le_total a.1 b.1) ks
  rw [Gn]
  exact h.imp fun h => by simpa using h
 exact EK.bH [.row v 33 20 ((ks.mergeSort fun x y => decide (x.1 ≤ y.1)).map dK), .var g 47 (.v (.map (some m))), .map m 20 c es] rfl rfl (by (repeat first | exact Em _ | apply List.Sublist.cons_cons | apply List.Sublist.cons)) ⟨v, rfl, by rw [yK, hs]⟩
theorem uD : ∀ args w, (callFunc 39 args).run Try.prog w = .ok (.enter 39 args) w := enters_of Try.func39 (by kernel_rfl) rfl
theorem uK (g m c : Nat) (es : List Ent) (hl : es.length * 32 ≤ 140737488355328) : FnM 43 [.v (.slice none 0 0), .v (.func (.func 39) #[] #[.pointer (some ⟨g, 0, none⟩)])] [.var g 54 (.v (.map (some m))), .map m 32 c es] (fun r os' => ∃ v, ∃ ks : List (Ky 32), r = .val (.v v) ∧ (ks.map (·.1)).Perm (es.map (·.2.1)) ∧ os' = [.row v 35 32 (ks.map dK), .var g 54 (.v (.map (some m))), .map m 32 c es]) := by
 constructor
 intro ok w xs hok hown hr
 obtain ⟨x1, _, rfl, hx1, x2, _, rfl, hx2, rfl⟩ := hr
 obtain rfl := (aI.1 hx1).2
 obtain rfl := (aI.1 hx2).2
 obtain ⟨_, cs, hg, hrd⟩ := hown.at_ _ (Et ..)
 obtain ⟨_, hent, arr, hm, hall⟩ := hown.at_ _ (List.mem_cons_of_mem _ (Et ..))
 rw [Reads] at hrd
 rw [hrd.2] at hg
 have hglt := (EJ.1 hg).1
 have hmlt := (EJ.1 hm).1
 have hbs : arr.toList.map (·.born) = es.map (·.1) := jY (fun a b h => h.born) hall
 have hks : arr.toList.map (·.key) = es.map fun x => bI x.2.1 := jY (fun a b h => h.key) hall
 have hsz : arr.size = es.length := by rw [← G5, jZ hall]
 have hseq : SeqStopsK Fence.wide 3 Try.prog 39 #[.pointer (some ⟨g, 0, none⟩)] (fun x : Ky 32 => #[kv x]) KeepsWalks (fun ss => (ss.map kv).Perm (arr.toList.map (·.key))) (fun _ => True) arr.size w := fun l J Jx W hW hJ _ hY h0 =>
  vN 3 l g m (by omega) arr c J Jx hY W hJ ((hW.cell (p := ⟨g, 0, none⟩) hglt).trans (by rw [cell_of_row w g 0 _ _ _ hg]; rfl)) ((hW.block m hmlt).trans hm) (by rw [hbs]; exact hent.borns)
   (fun x hx => by obtain ⟨y, hy, he⟩ := lZ hall hx; rw [he.born]; exact hent.lt y hy)
   (fun x hx => by obtain ⟨y, hy, he⟩ := lZ hall hx; exact ⟨⟨y.2.1, he.len⟩, he.key⟩) h0
 refine (callsIn_wide.1 (o7 4 (by omega) 39 #[.pointer (some ⟨g, 0, none⟩)] uD _ _ arr.size (by rw [hsz]; exact hl) w hseq)).mono ?_
 rintro e w' ⟨v, ks, rfl, hp, hrow, hnil, hB⟩
 have hp' : (ks.map (·.1)).Perm (es.map (·.2.1)) := by
  rw [hks] at hp
  have := hp.map unV
  rw [FQ, FQ] at this
  have e1 : ks.map (unV ∘ kv) = ks.map (·.1) := Gf fun k _ => nO k.1
  have e2 : es.map (unV ∘ fun x => bI x.2.1) = es.map (·.2.1) := Gf fun k _ => nO k.2.1
  rwa [e1, e2] at this
 have hnew : ∀ b, v.ownBlock = some b → w.heap.size ≤ b := fun b hb => (hrow.lt b hb).1
 refine ⟨v, .val (.v v), _, rfl, ⟨v, ks, rfl, hp', rfl⟩, ⟨.of hB, .cons (fun p hp b hb e => ?_) hown.apart, fun o ho => ?_⟩, aI.2 ⟨lJ hrow, rfl⟩⟩
 ·
  have h1 := hnew b hb
  have h2 := (Obj.bV (hown.at_ p hp) e).2
  omega
 ·
  rcases Es.1 ho with rfl | ho
  ·
   refine ⟨ks.map kc, ⟨?_, fun b hb => .inr (hnew b hb)⟩, fB ks⟩
   rw [Eo]
   exact lK hrow
  ·
   refine ((hown.at_ o ho).move (fun b hb => ⟨.inl hb, EG (hok b hb) hB.size, fun o' ho' e => ?_⟩) (fun p hp => hB.cell (hok _ hp)) fun b hb => hB.block b (Obj.bV (hown.at_ o ho) hb).2).lg fun b hb => .inl ⟨o, ho, hb⟩
   rcases Es.1 ho' with rfl | ho'
   ·
    have := hnew b e
    have := hok b hb
    omega
   · exact hown.off b ⟨o', ho', e⟩ hb
theorem xY (m : Nat) : FnM 24 [.v (.map (some m))] [] (fun r os' => ∃ g, r = .val (.v (.func (.func 39) #[] #[.pointer (some ⟨g, 0, none⟩)])) ∧ os' = [.var g 54 (.v (.map (some m)))]) := by
 refine FnM.walk 4 Try.func24 rfl Try.ntmps24 (by simp) fun X => ?_
 repeat
  (first
   | (apply ay; iterate 3 rfl) | (apply kC; iterate 3 rfl) | (apply bW; rfl; rfl; rfl; intro _) | apply EL.nil
   | (with_reducible first | apply EK.nc | apply EC.seq | apply EC.r0 | apply EC.k0 | apply EC.label | apply EC.b0 | apply EC.x0 | apply EC.ret | apply EK.n0 | apply EK.s0 | apply EK.aB | apply EK.au | apply EK.ah))
 rename_i g
 exact EK.bH [.var g 54 (.v (.map (some m)))] rfl rfl (by (repeat first | exact Em _ | apply List.Sublist.cons_cons | apply List.Sublist.cons)) ⟨g, rfl, rfl⟩
theorem rC (g m c : Nat) (es : List Ent) (hl : es.length * 32 ≤ 140737488355328) : FnM 37 [.v (.func (.func 39) #[] #[.pointer (some ⟨g, 0, none⟩)])] [.var g 54 (.v (.map (some m))), .map m 32 c es] (fun r os' => ∃ v, ∃ ks : List (Ky 32), r = .val (.v v) ∧ (ks.map (·.1)).Perm (es.map (·.2.1)) ∧ os' = [.row v 35 32 (ks.map dK), .var g 54 (.v (.map (some m))), .map m 32 c es]) := by
 have h1 := uK g m c es hl
 refine FnM.walk 5 Try.func37 rfl Try.ntmps37 (by simp) fun X => ?_
 repeat
  (first
   | (apply dw (os := [.var g 54 (.v (.map (some m))), .map m 32 c es]) h1; (iterate 2 rfl); exact ak.refl _ _; (focus (intro _ _; simp [go_sem]; done)); (iterate 2 rfl); rintro _ _ ⟨v, ks, rfl, hp, rfl⟩)
   | (apply aA; iterate 3 rfl) | (apply ay; iterate 3 rfl) | apply EL.nil
   | (with_reducible first | apply EK.nc | apply EC.seq | apply EC.r0 | apply EC.k0 | apply EC.label | apply EC.b0 | apply EC.x0 | apply EC.ret | apply EK.n0 | apply EK.s0 | apply EK.aB | apply EK.au | apply EK.ah))
 exact EK.bH [.row v 35 32 (ks.map dK), .var g 54 (.v (.map (some m))), .map m 32 c es] rfl rfl (by (repeat first | exact Em _ | apply List.Sublist.cons_cons | apply List.Sublist.cons)) ⟨v, ks, rfl, hp, rfl⟩
theorem rQ (cf : FuncId) (hc : ∀ l m : List UInt8, l.length = 32 → m.length = 32 → ∀ w, Calls Try.prog cf #[bI l, bI m] w fun e w' => e = .returned (.int .i64 (fU l m)) ∧ ∃ q os', w' = grow (w.drewN q) os') (ec : ∀ args w, (callFunc cf args).run Try.prog w = .ok (.enter cf args) w)
  (g m c : Nat) (es : List Ent) (hl : es.length * 32 ≤ 140737488355328) : FnM 23 [.v (.func (.func 39) #[] #[.pointer (some ⟨g, 0, none⟩)]), .v (.func (.func cf) #[] #[])] [.var g 54 (.v (.map (some m))), .map m 32 c es] (fun r os' => ∃ v, r = .val (.v v) ∧ os' = [.row v 35 32 ((sortL (es.map (·.2.1))).map (D.arr 32)), .var g 54 (.v (.map (some m))), .map m 32 c es]) := by
 have h1 := rC g m c es hl
 refine FnM.walk 12 Try.func23 rfl Try.ntmps23 (by simp) fun X => ?_
 repeat
  (first
   | (apply dw (os := [.var g 54 (.v (.map (some m))), .map m 32 c es]) h1; (iterate 2 rfl); exact ak.refl _ _; (focus (intro _ _; simp [go_sem]; done)); (iterate 2 rfl); rintro _ _ ⟨v, ks, rfl, hp, rfl⟩)
   | (apply aA; iterate 3 rfl) | (apply ay; iterate 3 rfl) | apply EL.nil
   | (with_reducible first | apply EK.nc | apply EC.seq | apply EC.r0 | apply EC.k0 | apply EC.label | apply EC.b0 | apply EC.x0 | apply EC.ret | apply EK.n0 | apply EK.s0 | apply EK.aB | apply EK.au | apply EK.ah))
 have hkl : ks.length = es.length := by simpa using hp.length_eq
 have h2 := xJ cf hc ec v ks (by omega)
 repeat
  (first
   | (apply dw (os := [.row v 35 32 (ks.map dK)]) h2; (iterate 2 rfl); exact ak.refl _ _; (focus (intro _ _; simp [go_sem]; done)); (iterate 2 rfl); rintro _ _ ⟨rfl, rfl⟩)
   | (apply aA; iterate 3 rfl) | (apply ay; iterate 3 rfl) | apply EL.nil
   | (with_reducible first | apply EK.nc | apply EC.seq | apply EC.r0 | apply EC.k0 | apply EC.label | apply EC.b0 | apply EC.x0 | apply EC.ret | apply EK.n0 | apply EK.s0 | apply EK.aB | apply EK.au | apply EK.ah))
 have hs : (ks.mergeSort fun x y => decide (x.1 ≤ y.1)).map (·.1) = sortL (es.map (·.2.1)) := by
  refine rX (((List.mergeSort_perm ks _).map (·.1)).trans hp) ?_
  have h := List.pairwise_mergeSort (le := fun x y : Ky 32 => decide (x.1 ≤ y.1)) (fun a b c h1 h2 => by simp only [decide_eq_true_eq] at h1 h2 ⊢; exact List.le_trans h1 h2) (fun a b => by simp only [G7, decide_eq_true_eq]; exact List.le_total a.1 b.1) ks
  rw [Gn]
  exact h.imp fun h => by simpa using h
 exact EK.bH [.row v 35 32 ((ks.mergeSort fun x y => decide (x.1 ≤ y.1)).map dK), .var g 54 (.v (.map (some m))), .map m 32 c es] rfl rfl (by (repeat first | exact Em _ | apply List.Sublist.cons_cons | apply List.Sublist.cons)) ⟨v, rfl, by rw [yK, hs]⟩
end E
end Go.Proofs.Ytkhjanjlcdhdcaa
namespace Go.Proofs.Ytkhjanjlcdhdcaa
set_option linter.unusedVariables false
open Go.RowKit Mono Rlp Wd
namespace E
theorem Le.nC {N : Nat} {X : Cx N} {rs : List (Tmp × R)} {os : List Obj} {fs : List (Value × D)} (ix : List Nat) (l l' rest : List Obj) (hos : os = l ++ rest) (hn : l.length = ix.length) (h : ix.Perm (List.range ix.length)) (hp : (ix.filterMap fun i => l[i]?) = l') : Le X ⟨rs, os, fs⟩ ⟨rs, l' ++ rest, fs⟩ := by
 subst hos hp
 exact Le.perm (Gx _ (iD ix hn h))
structure AcL where
 a : List UInt8
 n : Int
 w : List UInt8
 cd : List UInt8
 sl : List (List UInt8 × List UInt8)
def fZ (x : List UInt8 × List UInt8) : D := .tup [.arr 32 x.1, .arr 32 x.2]
def dX (x : AcL) : D := .tup [.arr 20 x.a, .v (.int .i64 x.n), .arr 32 x.w, .bs x.cd, .sl 64 (x.sl.map fZ)]
structure AcL.Is (x : AcL) (y : Ac) : Prop where
 n : x.n = y.n
 w : x.w = y.w
 cd : x.cd = y.cd
 ord : x.sl.Pairwise fun p q => p.1 < q.1
 val : ∀ p ∈ x.sl, p.2 = y.sl p.1 ∧ p.2 ≠ zero32
 all : ∀ k, y.sl k ≠ zero32 → ∃ p ∈ x.sl, p.1 = k
structure CU (A : As) (K : List (List UInt8)) (L : List AcL) : Prop where
 ord : L.Pairwise fun x y => x.a < y.a
 mem : ∀ x ∈ L, x.a ∈ K ∧ x.Is (A x.a) ∧ A x.a ≠ Ac.zero
 all : ∀ a ∈ K, A a ≠ Ac.zero → ∃ x ∈ L, x.a = a
structure Canon (A : As) (L : List AcL) : Prop where
 ord : L.Pairwise fun x y => x.a < y.a
 mem : ∀ x ∈ L, x.Is (A x.a) ∧ A x.a ≠ Ac.zero
 all : ∀ a, A a ≠ Ac.zero → ∃ x ∈ L, x.a = a
theorem pY {α : Type} {key : α → List UInt8} {l m : List α} (hl : l.Pairwise fun x y => key x < key y) (hm : m.Pairwise fun x y => key x < key y) (h1 : ∀ x ∈ l, x ∈ m) (h2 : ∀ x ∈ m, x ∈ l) : l = m := by
 have nod : ∀ l : List α, l.Pairwise (fun x y => key x < key y) → l.Nodup := fun l h => h.imp fun {x y} h e => by subst e; exact List.lt_irrefl _ h
 have hp : l.Perm m := (List.perm_ext_iff_of_nodup (nod l hl) (nod m hm)).2 fun x => ⟨h1 x, h2 x⟩
 exact List.Perm.eq_of_pairwise (fun a b _ _ h h' => absurd (List.lt_trans h h') (List.lt_irrefl _)) hl hm hp
theorem AcL.Is.eq {x y : AcL} {z : Ac} (h : x.Is z) (k : y.Is z) (e : x.a = y.a) : x = y := by
 have hs : x.sl = y.sl := pY (key := fun p : List UInt8 × List UInt8 => p.1) h.ord k.ord (fun p hp => by
   obtain ⟨h1, h2⟩ := h.val p hp
   obtain ⟨q, hq, hk⟩ := k.all p.1 (h1 ▸ h2)
   have : p = q := Prod.ext hk.symm (by rw [h1, (k.val q hq).1, hk])
   rwa [this])
  (fun p hp => by
   obtain ⟨h1, h2⟩ := k.val p hp
   obtain ⟨q, hq, hk⟩ := h.all p.1 (h1 ▸ h2)
   have : p = q := Prod.ext hk.symm (by rw [h1, (h.val q hq).1, hk])
   rwa [this])
 cases x
 cases y
 simp only [AcL.mk.injEq]
 exact ⟨e, h.n.trans k.n.symm, h.w.trans k.w.symm, h.cd.trans k.cd.symm, hs⟩
theorem Canon.eq {A : As} {L M : List AcL} (h : Canon A L) (k : Canon A M) : L = M := by
 have one : ∀ {L M : List AcL}, Canon A L → Canon A M → ∀ x ∈ L, x ∈ M := fun {L M} h k x hx => by
  obtain ⟨h1, h2⟩ := h.mem x hx
  obtain ⟨y, hy, e⟩ := k.all x.a h2
  have := (k.mem y hy).1
  rw [e] at this
  rw [h1.eq this e.symm]
  exact hy
 exact pY (key := AcL.a) h.ord k.ord (one h k) (one k h)
theorem CU.canon {A : As} {K : List (List UInt8)} {L : List AcL} (h : CU A K L) (hK : ∀ a, A a ≠ Ac.zero → a ∈ K) : Canon A L := ⟨h.ord, fun x hx => (h.mem x hx).2, fun a ha => h.all a (hK a ha) ha⟩
theorem CU.nil {A : As} : CU A [] [] := ⟨.nil, fun x hx => by simp at hx, fun a ha => by simp at ha⟩
theorem CU.skip {A : As} {K : List (List UInt8)} {L : List AcL} (h : CU A K L) {a : List UInt8} (ha : A a = Ac.zero) : CU A (K ++ [a]) L := ⟨h.ord, fun x hx => ⟨EF _ (h.mem x hx).1, (h.mem x hx).2⟩, fun b hb hne => by
 rcases EZ.1 hb with hb | hb
 · exact h.all b hb hne
 ·
  obtain rfl : b = a := by simpa using hb
  exact absurd ha hne⟩
theorem CU.take {A : As} {K : List (List UInt8)} {L : List AcL} (h : CU A K L) {x : AcL} (hx : x.Is (A x.a)) (hne : A x.a ≠ Ac.zero) (hlt : ∀ b ∈ K, b < x.a) : CU A (K ++ [x.a]) (L ++ [x]) := ⟨Fg.2 ⟨h.ord, List.pairwise_singleton _ _, fun y hy z hz => by
  obtain rfl : z = x := by simpa using hz
  exact hlt _ (h.mem y hy).1⟩, fun y hy => by
  rcases EZ.1 hy with hy | hy
  · exact ⟨EF _ (h.mem y hy).1, (h.mem y hy).2⟩
  ·
   obtain rfl : y = x := by simpa using hy
   exact ⟨by simp, hx, hne⟩, fun b hb hb' => by
  rcases EZ.1 hb with hb | hb
  ·
   obtain ⟨y, hy, e⟩ := h.all b hb hb'
   exact ⟨y, EF _ hy, e⟩
  ·
   obtain rfl : b = x.a := by simpa using hb
   exact ⟨x, by simp, rfl⟩⟩
theorem oM : ∀ (es : List Ent) (k : List UInt8) (d : D), aN es k = some d → ∃ e ∈ es, e.2.1 = k ∧ e.2.2 = d
 | [], k, d, h => by simp [aN] at h
 | x :: es, k, d, h => by
  rw [aN] at h
  split at h
  ·
   rename_i he
   cases h
   exact ⟨x, Et .., by simpa using he, rfl⟩
  ·
   obtain ⟨e, he, h1⟩ := oM es k d h
   exact ⟨e, List.mem_cons_of_mem _ he, h1⟩
theorem ql {es : List Ent} {k : List UInt8} (h : k ∈ es.map (·.2.1)) : ∃ d, aN es k = some d := by
 cases hg : aN es k with
 | none => exact absurd h ((gI es k).1 hg)
 | some d => exact ⟨d, rfl⟩
theorem rW {l : List (List UInt8)} (h : l.Nodup) : (sortL l).Pairwise (· < ·) := by
 have hn : (sortL l).Nodup := (fK l).nodup_iff.2 h
 have := (lH l).and hn
 refine this.imp fun {a b} ⟨h1, h2⟩ => ?_
 rcases List.le_total b a with h3 | h3
 · exact absurd (GV h1 h3) h2
 · exact G8 fun h4 => h2 (GV h1 (List.not_lt.1 h4))
def slots (x : Ac) (ss : List Ent) : List (List UInt8 × List UInt8) := (sortL (ss.map (·.2.1))).map fun k => (k, x.sl k)
theorem PA.Is.list {p : PA} {x : Ac} {N : Nat} (h : p.Is x N) (a : List UInt8) : (⟨a, p.n, p.w, p.cd, slots x p.ss⟩ : AcL).Is x := by
 refine ⟨h.n, h.w, h.cd, ?_, fun q hq => ?_, fun k hk => ?_⟩
 ·
  show (slots x p.ss).Pairwise _
  unfold slots
  rw [Gn]
  exact rW h.nod
 ·
  obtain ⟨k, hk, rfl⟩ := EW.1 hq
  refine ⟨rfl, ?_⟩
  obtain ⟨d, hd⟩ := ql ((fK _).mem_iff.1 hk)
  obtain ⟨e, he, h1, h2⟩ := oM _ _ _ hd
  obtain ⟨v, hv, hne⟩ := h.ent e he
  have := h.sl k
  unfold slE at this
  rw [hd, ← h2, hv] at this
  have : v = x.sl k := by simpa using this
  dsimp only
  rw [← this]
  exact hne
 ·
  refine ⟨(k, x.sl k), EW.2 ⟨k, ?_, rfl⟩, rfl⟩
  refine (fK _).mem_iff.2 ?_
  refine G8 fun hn => hk ?_
  have := h.sl k
  unfold slE at this
  rw [(gI _ _).2 hn] at this
  simpa using this.symm
end E
end Go.Proofs.Ytkhjanjlcdhdcaa
