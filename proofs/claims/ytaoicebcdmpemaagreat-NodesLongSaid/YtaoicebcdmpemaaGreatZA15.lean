/-
 Merged: lemmas of this claim.
 Conditions: none.
-/
import Derived.Test.YtaoicebcdmpemaaGreatZA14
import Derived.Shelf.RegionOpenPlain
import Derived.Shelf.SlSortCmp.WholeK
import Derived.Shelf.SlGeneric
import Derived.Ground.SlsfProg
import Derived.Test.YtaoicebcdmpemaaGreatRows
import Derived.Shelf.SlSortCmp.NoneTotal
import Derived.Test.YtaoicebcdmpemaaGreatZA10
import Derived.Test.YtaoicebcdmpemaaGreatZA13
import Derived.Test.YtaoicebcdmpemaaGreatZA2
import Derived.OpenShut
import Derived.Deep.Slices
import Derived.ChangeSame
import Derived.Test.YtaoicebcdmpemaaGreatZA6
import Derived.Below
import Derived.Test.YtaoicebcdmpemaaGreatZA0
namespace Go.Proofs.YtaoicebcdmpemaaGreat
set_option linter.unusedVariables false
set_option maxHeartbeats 1000000
open Go.RowKit Mono Rlp Go.Sort
namespace E
theorem vF {w : World} {g n : Nat} {t : TypeId} {l : List UInt8} (h : w.heap[g]? = some (.cells (bvs l).toArray t (0, 0))) (hl : l.length = n) (hn : n ≤ 64) : IsB w (.slice (some ⟨g, 0, none⟩) n n) l := by
 subst hl
 refine ⟨some ⟨g, 0, none⟩, l.length, rfl, Nat.le_refl _, by simp [maxLen]; omega, fun _ => ⟨g, 0, rfl, (Hg.1 h).1, fun j u hu => ?_⟩⟩
 rw [cell_of_row w g (0 + j) _ t (0, 0) h]
 simpa using hu
theorem jB (w : World) (l : List UInt8) : (Instr.box 36 (aX l)).run Tryz.prog w = .ok (.pointer (some ⟨w.heap.size, 0, none⟩)) (w.alloc (.cells (bvs l).toArray 36)) := by kernel_rfl
theorem ng {w : World} {ops : Array Oper} {rest : List Oper} {o : Oper} {a : Act} {Q : Exit → Act → World → Prop} {l : List UInt8} {x : Operand} (hgd : o.guard = none) (ho : o.op = .box 36 x) (hx : a.eval x = aX l)
  (h : wpList Tryz.prog ops Q rest (a.put o.dst (.pointer (some ⟨w.heap.size, 0, none⟩))) (w.alloc (.cells (bvs l).toArray 36))) : wpList Tryz.prog ops Q (o :: rest) a w := by
 refine wpList_plain hgd fun _ hK => ?_
 have h1 := hK _ _ h
 unfold Oper.wp execOp
 simp only [ho, hx, GR, jB, GK, GY]
 exact h1
theorem gW (w : World) (g : Nat) : (Instr.sliceAt 36 (.pointer (some ⟨g, 0, none⟩)) none none none).run Tryz.prog w = .ok (.slice (some ⟨g, 0, none⟩) 32 32) w := by kernel_rfl
set_option maxRecDepth 100000 in
theorem zY (l m : List UInt8) (hl : l.length = 32) (hm : m.length = 32) (w : World) : Calls Tryz.prog 95 #[aX l, aX m] w fun e w' => e = .returned (.int .i64 (gJ l m)) ∧ ∃ q os', w' = grow (w.drewN q) os' := by
 have mixed : Tryz.prog.follows .mixedOrders = true := by kernel_rfl
 go_enter Tryz.func95, Tryz.ntmps95
 go_wp2_with (guard_target = wpList _ _ _ (Oper.mk _ (Op.box _ _) _ _ _ _ :: _) _ _; refine ng rfl rfl rfl ?_)
 have h0 : ((w.alloc (.cells (bvs l).toArray 36)).alloc (.cells (bvs m).toArray 36)).heap[w.heap.size]? = some (.cells (bvs l).toArray 36 (0, 0)) := by
  rw [(Ip _ _).2 _ (by simp)]
  exact (Ip w _).1
 have h1 : ((w.alloc (.cells (bvs l).toArray 36)).alloc (.cells (bvs m).toArray 36)).heap[w.heap.size + 1]? = some (.cells (bvs m).toArray 36 (0, 0)) := by
  have := (Ip (w.alloc (.cells (bvs l).toArray 36)) (.cells (bvs m).toArray 36)).1
  simpa using this
 have hw : ∃ q os', (w.alloc (.cells (bvs l).toArray 36)).alloc (.cells (bvs m).toArray 36) = grow (w.drewN q) os' := ⟨0, _, by rw [alloc_eq_grow, alloc_eq_grow, grow_grow]; rfl⟩
 generalize (w.alloc (.cells (bvs l).toArray 36)).alloc (.cells (bvs m).toArray 36) = wq at h0 h1 hw ⊢
 have s0 : ∀ n, (Instr.sliceAt 36 (.pointer (some ⟨w.heap.size, 0, none⟩)) none none none).run Tryz.prog (wq.drewN n) = .ok (.slice (some ⟨w.heap.size, 0, none⟩) 32 32) (wq.drewN n) := fun n => gW _ _
 have s1 : ∀ n, (Instr.sliceAt 36 (.pointer (some ⟨w.heap.size + 1, 0, none⟩)) none none none).run Tryz.prog (wq.drewN n) = .ok (.slice (some ⟨w.heap.size + 1, 0, none⟩) 32 32) (wq.drewN n) := fun n => gW _ _
 have hc := Lib.hid fun n => mJ _ _ l m (wq.drewN n) (vF h0 hl (by decide)) (vF h1 hm (by decide))
 clear h0 h1
 go_quiet_o ((go_at_call 132; exact (hc.out _).mono fun e w' ⟨he, hw⟩ => ⟨he, _, hw⟩))
 go_wp2_with fail
 obtain ⟨q, os', rfl⟩ := hw
 exact bodyPost_ret (results_tmp rfl _ _ _) rfl ⟨rfl, q + nq, os', by simp [grow, World.drewN, Nat.add_assoc]⟩
theorem swo (n : Nat) : SWO (Go.Proofs.ltOf fun x y : Ky n => gJ x.1 y.1) := by
 have h : ∀ x y : Ky n, Go.Proofs.ltOf (fun x y : Ky n => gJ x.1 y.1) x y = decide (x.1 < y.1) := fun x y => kS x.1 y.1
 refine ⟨fun x => ?_, fun x y z h1 h2 => ?_, fun x y z h1 h2 => ?_⟩
 ·
  rw [h]
  simp [List.lt_irrefl]
 ·
  rw [h] at h1 h2 ⊢
  simp only [decide_eq_true_eq] at h1 h2 ⊢
  exact List.lt_trans h1 h2
 ·
  rw [h] at h1 h2 ⊢
  simp only [decide_eq_false_iff_not, List.not_lt] at h1 h2 ⊢
  exact List.le_trans h2 h1
end E
end Go.Proofs.YtaoicebcdmpemaaGreat
namespace Go.Proofs.YtaoicebcdmpemaaGreat
open Go.Shelf
def oO : Go.Shelf.Ren := ⟨fun | 6 => 130 | 15 => 159 | 14 => 158 | 28 => 189 | 29 => 190 | 20 => 181 | 21 => 182 | 22 => 183 | 23 => 184 | 24 => 185 | 25 => 186 | 26 => 187 | 27 => 188 | 46 => 201 | 47 => 202 | 48 => 203 | 49 => 204 | 50 => 205 | 57 => 208 | n => n, fun | 22 => 69 | 24 => 36 | 25 => 152 | 3 => 3 | 39 => 139 | 0 => 0 | 53 => 262 | 55 => 180 | 4 => 4 | 46 => 256 | 45 => 255 | 50 => 232 | 5 => 5 | 9 => 9 | 66 => 270 | 70 => 274 | 76 => 278 | 77 => 279 | n => n, fun | n => n⟩
theorem qm : Go.Proofs.SlLaysF0.n6 Tryz.prog oO := {
 mixed := by kernel_rfl
 f6 := ⟨Tryz.f130.name, by decide, Tryz.func130.trans (congrArg some (by kernel_rfl))⟩
 f14 := ⟨Tryz.f158.name, by decide, Tryz.func158.trans (congrArg some (by kernel_rfl))⟩
 f15 := Tryz.func159.trans (congrArg some (by kernel_rfl))
 f20 := ⟨Tryz.f181.name, by decide, Tryz.func181.trans (congrArg some (by kernel_rfl))⟩
 f21 := ⟨Tryz.f182.name, by decide, Tryz.func182.trans (congrArg some (by kernel_rfl))⟩
 f22 := ⟨Tryz.f183.name, by decide, Tryz.func183.trans (congrArg some (by kernel_rfl))⟩
 f23 := ⟨Tryz.f184.name, by decide, Tryz.func184.trans (congrArg some (by kernel_rfl))⟩
 f24 := ⟨Tryz.f185.name, by decide, Tryz.func185.trans (congrArg some (by kernel_rfl))⟩
 f25 := ⟨Tryz.f186.name, by decide, Tryz.func186.trans (congrArg some (by kernel_rfl))⟩
 f26 := ⟨Tryz.f187.name, by decide, Tryz.func187.trans (congrArg some (by kernel_rfl))⟩
 f27 := ⟨Tryz.f188.name, by decide, Tryz.func188.trans (congrArg some (by kernel_rfl))⟩
 f28 := Tryz.func189.trans (congrArg some (by kernel_rfl))
 f29 := Tryz.func190.trans (congrArg some (by kernel_rfl))
 f46 := ⟨Tryz.f201.name, by decide, Tryz.func201.trans (congrArg some (by kernel_rfl))⟩
 f47 := Tryz.func202.trans (congrArg some (by kernel_rfl))
 f48 := Tryz.func203.trans (congrArg some (by kernel_rfl))
 f49 := ⟨Tryz.f204.name, by decide, Tryz.func204.trans (congrArg some (by kernel_rfl))⟩
 f50 := ⟨Tryz.f205.name, by decide, Tryz.func205.trans (congrArg some (by kernel_rfl))⟩
 f57 := ⟨Tryz.f208.name, by decide, Tryz.func208.trans (congrArg some (by kernel_rfl))⟩
 t0 := Tryz.underlying0
 a0 := Tryz.isAgg0
 z0 := Tryz.sizeOf0
 v0 := Tryz.zeroValue0
 t3 := Tryz.underlying3
 a3 := Tryz.isAgg3
 z3 := Tryz.sizeOf3
 v3 := Tryz.zeroValue3
 t4 := Tryz.underlying4
 a4 := Tryz.isAgg4
 z4 := Tryz.sizeOf4
 v4 := Tryz.zeroValue4
 t5 := Tryz.underlying5
 a5 := Tryz.isAgg5
 z5 := Tryz.sizeOf5
 v5 := Tryz.zeroValue5
 t9 := Tryz.underlying9
 a9 := Tryz.isAgg9
 z9 := Tryz.sizeOf9
 v9 := Tryz.zeroValue9
 t22 := Tryz.underlying69
 a22 := Tryz.isAgg69
 z22 := Tryz.sizeOf69
 v22 := Tryz.zeroValue69
 t25 := Tryz.underlying152
 a25 := Tryz.isAgg152
 z25 := Tryz.sizeOf152
 v25 := Tryz.zeroValue152
 t39 := Tryz.underlying139
 a39 := Tryz.isAgg139
 z39 := Tryz.sizeOf139
 v39 := Tryz.zeroValue139
 t45 := Tryz.underlying255
 a45 := Tryz.isAgg255
 z45 := Tryz.sizeOf255
 v45 := Tryz.zeroValue255
 t46 := Tryz.underlying256
 a46 := Tryz.isAgg256
 z46 := Tryz.sizeOf256
 v46 := Tryz.zeroValue256
 t50 := Tryz.underlying232
 a50 := Tryz.isAgg232
 z50 := Tryz.sizeOf232
 v50 := Tryz.zeroValue232
 t53 := Tryz.underlying262
 a53 := Tryz.isAgg262
 z53 := Tryz.sizeOf262
 v53 := Tryz.zeroValue262
 t55 := Tryz.underlying180
 a55 := Tryz.isAgg180
 z55 := Tryz.sizeOf180
 v55 := Tryz.zeroValue180
 t66 := Tryz.underlying270
 a66 := Tryz.isAgg270
 z66 := Tryz.sizeOf270
 v66 := Tryz.zeroValue270
 t70 := Tryz.underlying274
 a70 := Tryz.isAgg274
 z70 := Tryz.sizeOf274
 v70 := Tryz.zeroValue274
 t76 := Tryz.underlying278
 a76 := Tryz.isAgg278
 z76 := Tryz.sizeOf278
 v76 := Tryz.zeroValue278
 t77 := Tryz.underlying279
 a77 := Tryz.isAgg279
 z77 := Tryz.sizeOf279
 v77 := Tryz.zeroValue279 }
end Go.Proofs.YtaoicebcdmpemaaGreat
namespace Go.Proofs.YtaoicebcdmpemaaGreat
set_option linter.unusedVariables false
set_option maxRecDepth 20000
set_option maxHeartbeats 2000000
open Go.RowKit Mono Rlp Go.Sort
namespace E
def sortL (l : List (List UInt8)) : List (List UInt8) := l.mergeSort fun a b => decide (a ≤ b)
theorem fQ (l : List (List UInt8)) : (sortL l).Perm l := List.mergeSort_perm _ _
theorem oQ (l : List (List UInt8)) : (sortL l).Pairwise (· ≤ ·) := by
 have h := List.pairwise_mergeSort (le := fun a b : List UInt8 => decide (a ≤ b)) (fun a b c h1 h2 => by simp only [decide_eq_true_eq] at h1 h2 ⊢; exact List.le_trans h1 h2) (fun a b => by simp only [Bool.or_eq_true, decide_eq_true_eq]; exact List.le_total a b) l
 exact h.imp fun h => by simpa using h
theorem yE {l m : List (List UInt8)} (hp : m.Perm l) (hs : m.Pairwise (· ≤ ·)) : m = sortL l :=
 List.Perm.eq_of_pairwise (fun a b _ _ h1 h2 => List.le_antisymm h1 h2) hs (oQ l) (hp.trans (fQ l).symm)
theorem vN {n : Nat} (hn : 0 < n) [Inhabited (Ky n)] : ∀ (ks : List (Ky n)) (t : Nat), t < ks.length * n → (ks.map kc).flatten[t]? = some ((kc (ks[t / n]!))[t % n]!)
 | [], t, h => by simp at h
 | k :: ks, t, h => by
  have hk : (kc k).length = n := by unfold kc; rw [aO, k.2]
  rw [G9, Ht]
  by_cases ht : t < n
  ·
   rw [Ij (by omega), Nat.div_eq_of_lt ht, Nat.mod_eq_of_lt ht]
   simp [hk, ht]
  ·
   rw [Ih (by omega), hk, vN hn ks (t - n) (by simp [Nat.add_mul] at h; omega)]
   have h1 : t / n = (t - n) / n + 1 := by
    conv => lhs; rw [show t = t - n + n by omega, Nat.add_div_right _ hn]
   have h2 : t % n = (t - n) % n := by
    conv => lhs; rw [show t = t - n + n by omega, Nat.add_mod_right]
   rw [h1, h2]
   simp
theorem jm {n : Nat} (hn : 0 < n) [Inhabited (Ky n)] (ks : List (Ky n)) : (flatK kc n ks.toArray).toList = (ks.map kc).flatten := by
 have hl : (ks.map kc).flatten.length = ks.length * n := by
  have : ∀ ks : List (Ky n), (ks.map kc).flatten.length = ks.length * n := fun ks => by
   induction ks with
   | nil => simp
   | cons k ks ih =>
    have hk : (kc k).length = n := by unfold kc; rw [aO, k.2]
    rw [G9, Ht, List.length_append, ih, hk, H8, IL, I7, Nat.add_comm]
  exact this ks
 refine List.ext_getElem? fun t => ?_
 by_cases ht : t < ks.length * n
 ·
  rw [vN hn ks t ht, Ja]
  have hs : t < (flatK kc n ks.toArray).size := by simpa using ht
  have := get_flatK kc n ks.toArray t (by simpa using ht)
  rw [getElem!_pos _ t hs] at this
  rw [Array.getElem?_eq_getElem hs, this]
  simp
 · rw [List.getElem?_eq_none (by simp; omega), List.getElem?_eq_none (by omega)]
theorem zl {w : World} {g n : Nat} {os : Array Go.Obj} {cur : Array Value} {e : TypeId} {fr : Nat × Nat} (F : Array Value) (hb : w.heap[g]? = some (.cells cur e fr)) :
  (grow (putRow id (Sort.ahead w n) g 0 F) os).heap[g]? = some (.cells (putCells id 0 F cur) e fr) := by
 have hg : g < w.heap.size := (Hg.1 hb).1
 rw [heap_grow_old _ _ (by simpa using hg)]
 simp [putRow, mapBlock, Sort.ahead, Array.getElem?_modify, hb, onCells]
theorem xI {w : World} {g n : Nat} {os : Array Go.Obj} (F : Array Value) : w.grownBy (grow (putRow id (Sort.ahead w n) g 0 F) os) (some g) := by
 refine ⟨rfl, rfl, rfl, by simp, fun k hk hne => ?_⟩
 rw [heap_grow_old _ _ (by simpa using hk)]
 have : g ≠ k := fun e => hne (by rw [e])
 simp [putRow, mapBlock, Sort.ahead, Array.getElem?_modify, this]
theorem yB (cur F : Array Value) (h : F.size ≤ cur.size) : (putCells id 0 F cur).toList.take F.size = F.toList := by
 apply List.ext_getElem?
 intro j
 by_cases hj : j < F.size
 ·
  rw [List.getElem?_take_of_lt hj, Ja]
  simp [putCells, hj, show j < cur.size by omega]
 · rw [List.getElem?_take_eq_none (by omega), List.getElem?_eq_none (by simp; omega)]
instance inh_word : Inhabited (Ky 32) := ⟨⟨List.replicate 32 0, by simp⟩⟩
theorem oP (cf : FuncId) (hc : ∀ l m : List UInt8, l.length = 32 → m.length = 32 → ∀ w, Calls Tryz.prog cf #[aX l, aX m] w fun e w' => e = .returned (.int .i64 (gJ l m)) ∧ ∃ q os', w' = grow (w.drewN q) os') (ec : ∀ args w, (callFunc cf args).run Tryz.prog w = .ok (.enter cf args) w)
  (g cap : Nat) (ks : List (Ky 32)) (w : World) (hl : ks.length < 4611686018427387904) (hH : HoldsK kc 32 w g 0 ks.toArray) (hb : g < w.heap.size) :
  Calls Tryz.prog 130 #[.slice (some ⟨g, 0, none⟩) ks.length cap, .func (.func cf) #[] #[]] w fun e w' => e = .returned (.tuple #[]) ∧ ∃ n os, w' = grow (putRow id (Sort.ahead w n) g 0 (flatK kc 32 (ks.mergeSort fun x y => decide (x.1 ≤ y.1)).toArray)) os := by
 have hT : ∀ x y : Ky 32, ltOf (fun x y : Ky 32 => gJ x.1 y.1) x y = false → ltOf (fun x y : Ky 32 => gJ x.1 y.1) y x = false → x = y := fun x y h1 h2 => by
  rw [show ltOf (fun x y : Ky 32 => gJ x.1 y.1) x y = decide (x.1 < y.1) from kS x.1 y.1] at h1
  rw [show ltOf (fun x y : Ky 32 => gJ x.1 y.1) y x = decide (y.1 < x.1) from kS y.1 x.1] at h2
  simp only [decide_eq_false_iff_not, List.not_lt] at h1 h2
  exact Subtype.ext (List.le_antisymm h2 h1)
 have h := AnyQ.slices_SortFunc_total qm 32 Tryz.isAgg36 Tryz.sizeOf36 kc (fun x => by unfold kc; rw [aO, x.2]) (fun x v hv => iV x.1 v hv) (fun x y : Ky 32 => gJ x.1 y.1) (swo 32) cf #[] g 0 cap ks.toArray w ec (fun m os dk hs x y => hc x.1 y.1 x.2 y.2 _) hH hb (by simpa using hl) hT
 have hf : (fun x y : Ky 32 => !(ltOf fun x y : Ky 32 => gJ x.1 y.1) y x) = fun x y => decide (x.1 ≤ y.1) := by
  funext x y
  rw [show ltOf (fun x y : Ky 32 => gJ x.1 y.1) y x = decide (y.1 < x.1) from kS y.1 x.1]
  by_cases h : y.1 < x.1
  · simp [h, List.not_le.2 h]
  · simp [h, List.not_lt.1 h]
 rw [hf] at h
 exact h.mono fun e w' ⟨he, n, os, hw⟩ => ⟨he, n, os, hw⟩
theorem wH (cf : FuncId) (hc : ∀ l m : List UInt8, l.length = 32 → m.length = 32 → ∀ w, Calls Tryz.prog cf #[aX l, aX m] w fun e w' => e = .returned (.int .i64 (gJ l m)) ∧ ∃ q os', w' = grow (w.drewN q) os') (ec : ∀ args w, (callFunc cf args).run Tryz.prog w = .ok (.enter cf args) w)
  (v : Value) (ks : List (Ky 32)) (hl : ks.length < 4611686018427387904) :
  FnM 130 [.v v, .v (.func (.func cf) #[] #[])] [.row v 36 32 (ks.map dK)] (fun r os' => r = .tpl [] ∧ os' = [.row v 36 32 ((ks.mergeSort fun x y => decide (x.1 ≤ y.1)).map dK)]) := by
 constructor
 intro ok w xs hok hown hr
 obtain ⟨x1, _, rfl, hx1, x2, _, rfl, hx2, rfl⟩ := hr
 obtain rfl := (ay.1 hx1).2
 obtain rfl := (ay.1 hx2).2
 obtain ⟨rows, ⟨hrow, hbase⟩, hrows⟩ := hown.at_ _ (G8 ..)
 rw [jR _ _ hrows, HY] at hrow
 rcases hrow.2 with ⟨rfl, h0⟩ | ⟨g, cap, cur, rfl, _, hgb, r1, r2, r3, r4⟩
 ·
  obtain rfl : ks = [] := Iu h0
  have hms : ([] : List (Ky 32)).mergeSort (fun x y => decide (x.1 ≤ y.1)) = [] := by simp
  rw [hms]
  refine (AnyF.slices_SortFunc_none qm none 0 (.func (.func cf) #[] #[]) w).mono ?_
  rintro e w' ⟨rfl, rfl⟩
  refine ⟨_, .tpl [], _, rfl, ⟨rfl, rfl⟩, ⟨.refl _, hown.apart, fun o ho => ?_⟩, [], rfl, rfl⟩
  obtain rfl : o = _ := by simpa using ho
  exact ⟨[], ⟨⟨by simp, .inl ⟨rfl, rfl⟩⟩, fun b hb => by cases hb⟩, fF []⟩
 ·
  have hlt := (Hg.1 hgb).1
  have hml : (ks.mergeSort fun x y => decide (x.1 ≤ y.1)).length = ks.length := List.length_mergeSort _
  have hH : HoldsK kc 32 w g 0 ks.toArray := fun j hj => by
   have hj' : j < ks.length * 32 := by simpa using hj
   have h1 : (cur.toList.take (ks.length * 32))[j]? = (ks.map kc).flatten[j]? := by rw [r4]
   rw [List.getElem?_take_of_lt hj', ← jm (by decide)] at h1
   refine ⟨?_, by simp [World.frozen?, hgb]⟩
   rw [cell_of_row w g (0 + j) cur 36 (0, 0) hgb, Hr, ← Ja, h1, Ja, Array.getElem?_eq_getElem hj, getElem!_pos _ j hj]
   rfl
  refine (oP cf hc ec g cap ks w hl hH hlt).mono ?_
  rintro e w' ⟨rfl, n, os, rfl⟩
  have hg := xI (w := w) (g := g) (n := n) (os := os) (flatK kc 32 (ks.mergeSort fun x y => decide (x.1 ≤ y.1)).toArray)
  have hh := zl (n := n) (os := os) (flatK kc 32 (ks.mergeSort fun x y => decide (x.1 ≤ y.1)).toArray) hgb
  have hF : (flatK kc 32 (ks.mergeSort fun x y => decide (x.1 ≤ y.1)).toArray).size = ks.length * 32 := by rw [size_flatK]; simp [hml]
  have htk := yB cur (flatK kc 32 (ks.mergeSort fun x y => decide (x.1 ≤ y.1)).toArray) (by rw [hF, r3]; exact Nat.mul_le_mul_right _ r1)
  rw [hF, jm (by decide)] at htk
  refine ⟨_, .tpl [], _, rfl, ⟨rfl, rfl⟩, ⟨⟨hg.os, hg.tape, hg.output, hg.size, fun k hk hn => hg.block k hk fun e => hn ?_⟩, .cons (fun _ h => by simp at h) .nil, fun o ho => ?_⟩, [], rfl, rfl⟩
  ·
   cases e
   exact ⟨_, G8 .., rfl⟩
  ·
   obtain rfl : o = _ := by simpa using ho
   refine ⟨_, ⟨⟨?_, .inr ⟨g, cap, _, ?_, I8 _, hh, ?_, r2, ?_, ?_⟩⟩, fun b hb => .inl ⟨_, G8 .., hb⟩⟩, fF _⟩
   · rw [← jm (by decide), Array.length_toList, hF, HY, hml]
   · rw [HY, hml]
   ·
    rw [HY, hml]
    exact r1
   · simp [putCells, r3]
   ·
    rw [HY, hml]
    exact htk
def unV : Value → List UInt8
 | .agg cs => cs.toList.map fun v => match v with
  | .int _ n => UInt8.ofNat n.toNat
  | _ => 0
 | _ => []
theorem uQ (l : List UInt8) : unV (aX l) = l := by
 unfold aX unV bvs
 simp only [Iq]
 refine (IQ fun b _ => ?_).trans (List.map_id l)
 simp [bv]
theorem mV {α β γ : Type} {R : α → β → Prop} {f : α → γ} {g : β → γ} (h : ∀ a b, R a b → f a = g b) : ∀ {l : List α} {m : List β}, dZ R l m → l.map f = m.map g
 | _, _, .nil => rfl
 | _, _, .cons h1 h2 => by rw [G9, G9, h _ _ h1, mV h h2]
theorem rP {α β : Type} {R : α → β → Prop} {l : List α} {m : List β} (h : dZ R l m) {a : α} (ha : a ∈ l) : ∃ b ∈ m, R a b := by
 induction h with
 | nil => cases ha
 | cons h1 h2 ih =>
  rcases He.1 ha with rfl | ha
  · exact ⟨_, G8 .., h1⟩
  ·
   obtain ⟨b, hb, hr⟩ := ih ha
   exact ⟨b, Ic _ hb, hr⟩
theorem kJ {α β : Type} {R : α → β → Prop} : ∀ {l : List α} {m : List β}, dZ R l m → l.length = m.length
 | _, _, .nil => rfl
 | _, _, .cons _ h2 => by rw [H8, H8, kJ h2]
theorem Dz {n : Nat} (ks : List (Ky n)) : ks.map dK = (ks.map (·.1)).map (D.arr n) := by
 rw [Iq]
 rfl
theorem rE : ∀ args w, (callFunc 131 args).run Tryz.prog w = .ok (.enter 131 args) w := enters_of Tryz.func131 (by kernel_rfl) rfl
theorem rO (g m c : Nat) (es : List Ent) (hl : es.length * 32 ≤ 140737488355328) : FnM 155 [.v (.slice none 0 0), .v (.func (.func 131) #[] #[.pointer (some ⟨g, 0, none⟩)])] [.var g 88 (.v (.map (some m))), .map m 32 c es] (fun r os' => ∃ v, ∃ ks : List (Ky 32), r = .val (.v v) ∧ (ks.map (·.1)).Perm (es.map (·.2.1)) ∧ os' = [.row v 36 32 (ks.map dK), .var g 88 (.v (.map (some m))), .map m 32 c es]) := by
 constructor
 intro ok w xs hok hown hr
 obtain ⟨x1, _, rfl, hx1, x2, _, rfl, hx2, rfl⟩ := hr
 obtain rfl := (ay.1 hx1).2
 obtain rfl := (ay.1 hx2).2
 obtain ⟨_, cs, hg, hrd⟩ := hown.at_ _ (G8 ..)
 obtain ⟨_, hent, arr, hm, hall⟩ := hown.at_ _ (Ic _ (G8 ..))
 rw [Reads] at hrd
 rw [hrd.2] at hg
 have hglt := (Hg.1 hg).1
 have hmlt := (Hg.1 hm).1
 have hbs : arr.toList.map (·.born) = es.map (·.1) := mV (fun a b h => h.born) hall
 have hks : arr.toList.map (·.key) = es.map fun x => aX x.2.1 := mV (fun a b h => h.key) hall
 have hsz : arr.size = es.length := by rw [← Array.length_toList, kJ hall]
 have hseq : SeqStopsK Fence.wide 3 Tryz.prog 131 #[.pointer (some ⟨g, 0, none⟩)] (fun x : Ky 32 => #[kv x]) KeepsWalks (fun ss => (ss.map kv).Perm (arr.toList.map (·.key))) (fun _ => True) arr.size w := fun l J Jx W hW hJ _ hY h0 =>
  uw 3 l g m (by omega) arr c J Jx hY W hJ ((hW.cell (p := ⟨g, 0, none⟩) hglt).trans (by rw [cell_of_row w g 0 _ _ _ hg]; rfl)) ((hW.block m hmlt).trans hm) (by rw [hbs]; exact hent.borns)
   (fun x hx => by obtain ⟨y, hy, he⟩ := rP hall hx; rw [he.born]; exact hent.lt y hy)
   (fun x hx => by obtain ⟨y, hy, he⟩ := rP hall hx; exact ⟨⟨y.2.1, he.len⟩, he.key⟩) h0
 refine (callsIn_wide.1 (mQ 4 (by omega) 131 #[.pointer (some ⟨g, 0, none⟩)] rE _ _ arr.size (by rw [hsz]; exact hl) w hseq)).mono ?_
 rintro e w' ⟨v, ks, rfl, hp, hrow, hnil, hB⟩
 have hp' : (ks.map (·.1)).Perm (es.map (·.2.1)) := by
  rw [hks] at hp
  have := hp.map unV
  rw [Iq, Iq] at this
  have e1 : ks.map (unV ∘ kv) = ks.map (·.1) := IQ fun k _ => uQ k.1
  have e2 : es.map (unV ∘ fun x => aX x.2.1) = es.map (·.2.1) := IQ fun k _ => uQ k.2.1
  rwa [e1, e2] at this
 have hnew : ∀ b, v.ownBlock = some b → w.heap.size ≤ b := fun b hb => (hrow.lt b hb).1
 refine ⟨v, .val (.v v), _, rfl, ⟨v, ks, rfl, hp', rfl⟩, ⟨.of hB, .cons (fun p hp b hb e => ?_) hown.apart, fun o ho => ?_⟩, ay.2 ⟨qE hrow, rfl⟩⟩
 ·
  have h1 := hnew b hb
  have h2 := (Obj.aY (hown.at_ p hp) e).2
  omega
 ·
  rcases He.1 ho with rfl | ho
  ·
   refine ⟨ks.map kc, ⟨?_, fun b hb => .inr (hnew b hb)⟩, fF ks⟩
   rw [HY]
   exact qF hrow
  ·
   refine ((hown.at_ o ho).move (fun b hb => ⟨.inl hb, GZ (hok b hb) hB.size, fun o' ho' e => ?_⟩) (fun p hp => hB.cell (hok _ hp)) fun b hb => hB.block b (Obj.aY (hown.at_ o ho) hb).2).ji fun b hb => .inl ⟨o, ho, hb⟩
   rcases He.1 ho' with rfl | ho'
   ·
    have := hnew b e
    have := hok b hb
    omega
   · exact hown.off b ⟨o', ho', e⟩ hb
theorem xE (m : Nat) : FnM 94 [.v (.map (some m))] [] (fun r os' => ∃ g, r = .val (.v (.func (.func 131) #[] #[.pointer (some ⟨g, 0, none⟩)])) ∧ os' = [.var g 88 (.v (.map (some m)))]) := by
 refine FnM.walk 4 Tryz.func94 rfl Tryz.ntmps94 (by simp) fun X => ?_
 repeat (refine stp ?_; intros)
 rename_i g
 exact EK.bF [.var g 88 (.v (.map (some m)))] rfl rfl (by (repeat first | exact GU _ | apply List.Sublist.cons_cons | apply List.Sublist.cons)) ⟨g, rfl, rfl⟩
theorem pR (g m c : Nat) (es : List Ent) (hl : es.length * 32 ≤ 140737488355328) : FnM 120 [.v (.func (.func 131) #[] #[.pointer (some ⟨g, 0, none⟩)])] [.var g 88 (.v (.map (some m))), .map m 32 c es] (fun r os' => ∃ v, ∃ ks : List (Ky 32), r = .val (.v v) ∧ (ks.map (·.1)).Perm (es.map (·.2.1)) ∧ os' = [.row v 36 32 (ks.map dK), .var g 88 (.v (.map (some m))), .map m 32 c es]) := by
 have h1 := rO g m c es hl
 refine FnM.walk 5 Tryz.func120 rfl Tryz.ntmps120 (by simp) fun X => ?_
 repeat
  (first
   | (refine aC (os := [.var g 88 (.v (.map (some m))), .map m 32 c es]) h1 (kk := ?_); rintro _ _ ⟨v, ks, rfl, hp, rfl⟩)
   | (refine stp ?_; intros))
 exact EK.bF [.row v 36 32 (ks.map dK), .var g 88 (.v (.map (some m))), .map m 32 c es] rfl rfl (by (repeat first | exact GU _ | apply List.Sublist.cons_cons | apply List.Sublist.cons)) ⟨v, ks, rfl, hp, rfl⟩
theorem ql (cf : FuncId) (hc : ∀ l m : List UInt8, l.length = 32 → m.length = 32 → ∀ w, Calls Tryz.prog cf #[aX l, aX m] w fun e w' => e = .returned (.int .i64 (gJ l m)) ∧ ∃ q os', w' = grow (w.drewN q) os') (ec : ∀ args w, (callFunc cf args).run Tryz.prog w = .ok (.enter cf args) w)
  (g m c : Nat) (es : List Ent) (hl : es.length * 32 ≤ 140737488355328) : FnM 93 [.v (.func (.func 131) #[] #[.pointer (some ⟨g, 0, none⟩)]), .v (.func (.func cf) #[] #[])] [.var g 88 (.v (.map (some m))), .map m 32 c es] (fun r os' => ∃ v, r = .val (.v v) ∧ os' = [.row v 36 32 ((sortL (es.map (·.2.1))).map (D.arr 32)), .var g 88 (.v (.map (some m))), .map m 32 c es]) := by
 have h1 := pR g m c es hl
 refine FnM.walk 12 Tryz.func93 rfl Tryz.ntmps93 (by simp) fun X => ?_
 repeat
  (first
   | (refine aC (os := [.var g 88 (.v (.map (some m))), .map m 32 c es]) h1 (kk := ?_); rintro _ _ ⟨v, ks, rfl, hp, rfl⟩)
   | (refine stp ?_; intros))
 have hkl : ks.length = es.length := by simpa using hp.length_eq
 have h2 := wH cf hc ec v ks (by omega)
 repeat
  (first
   | (refine aC (os := [.row v 36 32 (ks.map dK)]) h2 (kk := ?_); rintro _ _ ⟨rfl, rfl⟩)
   | (refine stp ?_; intros))
 have hs : (ks.mergeSort fun x y => decide (x.1 ≤ y.1)).map (·.1) = sortL (es.map (·.2.1)) := by
  refine yE (((List.mergeSort_perm ks _).map (·.1)).trans hp) ?_
  have h := List.pairwise_mergeSort (le := fun x y : Ky 32 => decide (x.1 ≤ y.1)) (fun a b c h1 h2 => by simp only [decide_eq_true_eq] at h1 h2 ⊢; exact List.le_trans h1 h2) (fun a b => by simp only [Bool.or_eq_true, decide_eq_true_eq]; exact List.le_total a.1 b.1) ks
  rw [List.pairwise_map]
  exact h.imp fun h => by simpa using h
 exact EK.bF [.row v 36 32 ((ks.mergeSort fun x y => decide (x.1 ≤ y.1)).map dK), .var g 88 (.v (.map (some m))), .map m 32 c es] rfl rfl (by (repeat first | exact GU _ | apply List.Sublist.cons_cons | apply List.Sublist.cons)) ⟨v, rfl, by rw [Dz, hs]⟩
end E
end Go.Proofs.YtaoicebcdmpemaaGreat
namespace Go.Proofs.YtaoicebcdmpemaaGreat
set_option linter.unusedVariables false
set_option maxRecDepth 20000
set_option maxHeartbeats 16000000
open Go.RowKit Mono Rlp
namespace E
theorem zI (l : List UInt8) (hl : l.length ≤ 140737488355328) : Fn 96 [.bs l] (· = .val (.bs l)) := ⟨fun ok w xs hok hr => by
 obtain ⟨v, rfl, h⟩ := oW hr
 refine (rG v l w (lU hok h) hl).mono ?_
 rintro e w' ⟨v', rfl, hg, ho⟩
 exact ⟨hg, _, _, rfl, rfl, qG ho⟩⟩
theorem uG : ∀ args w, (callFunc 95 args).run Tryz.prog w = .ok (.enter 95 args) w := enters_of Tryz.func95 (by kernel_rfl) rfl
theorem EF (m c : Nat) (es : List Ent) (bf : List UInt8 → List UInt8) (hb : ∀ k ∈ es.map (·.2.1), iF es k = some (.bs (bf k))) (hbl : ∀ k, (bf k).length ≤ 140737488355328) (hl : es.length ≤ 1000000000) :
  FnM 54 [.v (.map (some m))] [.map m 32 c es] (fun r os' => r = .val (.sl 33 ((sortL (es.map (·.2.1))).map fun k => dNd (k, bf k))) ∧ os' = [.map m 32 c es]) := by
 have h1 := xE m
 have h2 := fun gk => ql 95 zY uG gk m c es (by omega)
 have hKm : ∀ k ∈ sortL (es.map (·.2.1)), iF es k = some (.bs (bf k)) := fun k hk => hb k ((fQ _).mem_iff.1 hk)
 have hKl : (sortL (es.map (·.2.1))).length ≤ 1000000000 := by rw [(fQ _).length_eq, HY]; exact hl
 generalize sortL (es.map (·.2.1)) = K at h2 hKm hKl ⊢
 have hml : (K.map (D.arr 32)).length = K.length := HY _
 refine FnM.walk 25 Tryz.func54 rfl Tryz.ntmps54 (by simp) fun X => ?_
 repeat
  (first
   | (refine aC (os := []) h1 (kk := ?_); rintro _ _ ⟨gk, rfl, rfl⟩; simp only [G7, G6])
   | (refine stp ?_; intros))
 refine aC (os := [.var gk 88 (.v (.map (some m))), .map m 32 c es]) (h2 gk) (kk := ?_)
 rintro _ _ ⟨v, rfl, rfl⟩
 simp only [G7, G6]
 refine EL.le (Le.freeze (pre := []) rfl) ?_
 refine EL.le (Le.refine (t := 8) (d' := .sl 32 (K.map (D.arr 32))) rfl (Rf.fact G8 rfl)) ?_
 simp only [G6]
 repeat (refine stp ?_; intros)
 refine EC.le (Le.row 43 33) ?_
 refine EC.loop (ι := {x : Nat × Value // x.1 ≤ K.length})
  (fun x => ⟨[(10, .val (.v (.int .i64 (x.1.1 : Int)))), (9, .val (.v (.int .i64 ((K.map (D.arr 32)).length : Int)))), (8, .val (.sl 32 (K.map (D.arr 32)))), (3, .val (.v x.1.2)), (0, .val (.v (.map (some m))))], [.row x.1.2 43 33 ((K.take x.1.1).map fun k => dNd (k, bf k)), .map m 32 c es], []⟩)
  (fun x => K.length - x.1.1) ⟨(0, .slice none 0 0), I8 _⟩ ?_ ?_
 · exact Le.kp
 rintro ⟨⟨i, rv⟩, hi⟩
 dsimp only at hi ⊢
 by_cases hlt : i < K.length
 ·
  have hd : (K.map (D.arr 32))[i]? = some (D.arr 32 K[i]) := by rw [List.getElem?_map, Hz hlt]; rfl
  have hget : (iF es K[i]).getD (.v (.slice none 0 0)) = .bs (bf K[i]) := by rw [hKm _ (List.getElem_mem hlt)]; rfl
  have hcl := zI (bf K[i]) (hbl _)
  have hl3 : ((K.take i).map fun k => dNd (k, bf k)).length = i := by rw [HY, List.length_take]; omega
  have htk : (K.take (i + 1)).map (fun k => dNd (k, bf k)) = (K.take i).map (fun k => dNd (k, bf k)) ++ [dNd (K[i], bf K[i])] := by rw [Hy hlt, IW]; rfl
  unfold dNd at htk
  dsimp only at htk
  repeat (refine stp ?_; intros)
  refine EC.le (Le.pick [1, 0, 2] [_, _, _] rfl (by decide) rfl) ?_
  refine EC.Dw 9 [0, 1, 2, 3, 4, 5, 6] [7, 8] [_] _ (by kernel_rfl) (by kernel_rfl) rfl ?_
  simp only [bG, Je, List.filterMap_nil, Iw, List.getElem?_cons_succ]
  repeat
   (first
    | (apply AB; exact hget; rfl; (first | exact I0 | exact I1 | exact I2 | exact I3); iterate 5 rfl)
    | (refine dJ (hcl) (kk := ?_)) | (refine sth ?_; intros))
  refine EM.nil ?_
  repeat (first | rw [G7] | rw [G6])
  refine CH.cut 1 ?_
  simp only [GN, GX, GL, GV]
  repeat (refine sth ?_; intros)
  refine EM.nil ?_
  repeat (first | rw [G7] | rw [G6])
  refine CH.mut (os := [_]) (rest := []) rfl rfl (y5 rfl rfl rfl rfl rfl ?_) ?_
  ·
   rw [hl3]
   constructor <;> (simp; omega)
  rintro _ _ ⟨sv', rfl, rfl⟩
  try simp only [St.put]
  repeat (first | rw [G7] | rw [G6])
  refine CH.nil ?_
  try simp only [GL, GV]
  repeat (refine stp ?_; intros)
  refine EK.again ⟨(i + 1, sv'), hlt⟩ (by dsimp only; omega) ?_
  dsimp only
  unfold dNd
  rw [htk]
  simp only [Int.natCast_add]
  exact Le.kp
 ·
  obtain rfl : i = K.length := by omega
  rw [List.take_length]
  refine EC.le (Le.freeze (pre := []) rfl) ?_
  simp only [G6]
  repeat (refine stp ?_; intros)
  exact EK.yI [.map m 32 c es] rfl rfl (RL.cons (Rf.fact G8 rfl) RL.nil) (by (repeat first | exact GU _ | apply List.Sublist.cons_cons | apply List.Sublist.cons)) ⟨rfl, rfl⟩
section
variable {N : Nat} {X : Cx N} {ops : Array Oper} {Q : Exit → Act → World → Prop} {l : List Oper} {rs : List (Tmp × R)} {os : List Obj} {fs : List (Value × D)}
theorem fM {t u ty ty' n : Nat} {pos pos' : String} {af af' : Array Edge} {parts : Array (Nat × Operand)} (bl : List UInt8) (hp : (parts.toList.map fun x => x.2) = bl.map fun b => Operand.const (bv b)) (hb : ∀ (a : Act) (w : World), (execOp a.eval ⟨some t, .buildSlice 41 n parts, ty, pos, af, none⟩).run Tryz.prog w = .ok (.value (.slice (some ⟨w.heap.size, 0, none⟩) n n)) (w.alloc (.cells (bvs bl).toArray 5))) (hn : n = bl.length) (hm : n ≤ 1000) (hN : Nat.blt t N = true) (hN2 : Nat.blt u N = true) (kk : EL X ops Q l ⟨(u, .val (.bs bl)) :: (t, .any) :: rs, os, fs⟩) : EL X ops Q (⟨some t, .buildSlice 41 n parts, ty, pos, af, none⟩ :: ⟨some u, .convert 41 41 (.tmp t), ty', pos', af', none⟩ :: l) ⟨rs, os, fs⟩ := by
 constructor
 intro a w ha
 have hg1 := aG w (.cells (bvs bl).toArray 5)
 have hg2 := aG w (.cells (bvs bl).toArray 5 ((bvs bl).toArray.size, (bvs bl).toArray.size + 1))
 have hd1 : ∀ x, some t = some x → x < N := fun x hx => by cases hx; simpa using hN
 have hd2 : ∀ x, some u = some x → x < N := fun x hx => by cases hx; simpa using hN2
 have a1 := (ha.gr hg1).put (d := some t) (r := .val (.v (.slice (some ⟨w.heap.size, 0, none⟩) n n))) hd1 (dM rfl)
 have e2 := dI (a1.kn fun _ => True) (x := .tmp t) (y := .slice (some ⟨w.heap.size, 0, none⟩) n n) (by simp [ev, St.put, look]) (fun _ _ => trivial)
 have hh : (w.alloc (.cells (bvs bl).toArray 5 ((bvs bl).toArray.size, (bvs bl).toArray.size + 1))).heap[w.heap.size]? = some (.cells (bvs bl).toArray 5 ((bvs bl).toArray.size, (bvs bl).toArray.size + 1)) := (Ip w _).1
 have hs : w.heap.size < (w.alloc (.cells (bvs bl).toArray 5 ((bvs bl).toArray.size, (bvs bl).toArray.size + 1))).heap.size := by simp
 have hrd : aB (more (X.ok os w) w (w.alloc (.cells (bvs bl).toArray 5 ((bvs bl).toArray.size, (bvs bl).toArray.size + 1)))) (w.alloc (.cells (bvs bl).toArray 5 ((bvs bl).toArray.size, (bvs bl).toArray.size + 1))) (.val (.bs bl)) (.slice (some ⟨w.heap.size, 0, none⟩) n n) := by
  subst hn
  refine Gf ⟨_, _, rfl, Nat.le_refl _, by simp only [maxLen]; omega, fun _ => ⟨w.heap.size, 0, rfl, ⟨.inr (Nat.le_refl _), hs⟩, fun j x hx => ?_⟩⟩
  rw [Hr, cell_of_row _ _ j _ _ _ hh]
  simpa using hx
 have hr2 : (execOp (a.put (some t) (.slice (some ⟨w.heap.size, 0, none⟩) n n)).eval ⟨some u, .convert 41 41 (.tmp t), ty', pos', af', none⟩).run Tryz.prog (w.alloc (.cells (bvs bl).toArray 5)) = .ok (.value (.slice (some ⟨w.heap.size, 0, none⟩) n n)) (w.alloc (.cells (bvs bl).toArray 5 ((bvs bl).toArray.size, (bvs bl).toArray.size + 1))) := by
  unfold execOp
  simp only [e2, GR, uI, GK, GY]
 unfold wpList
 rw [if_pos (by rfl)]
 refine .inl ?_
 unfold Oper.wp
 rw [hb a w]
 show wpList Tryz.prog ops Q (_ :: l) (a.put (some t) (.slice (some ⟨w.heap.size, 0, none⟩) n n)) (w.alloc (.cells (bvs bl).toArray 5))
 unfold wpList
 rw [if_pos (by rfl)]
 refine .inl ?_
 unfold Oper.wp
 rw [hr2]
 exact kk.go _ _ (((ha.gr hg2).put (d := some t) (r := .any) hd1 trivial).put (d := some u) (r := .val (.bs bl)) hd2 (hrd.mono (fun b hb => kR ha.mem hg2 hb) fun _ _ => rfl))
end
theorem EK.yH {N : Nat} {X : Cx N} {S : St} {fn : Func} {Φ : R → List Obj → Prop} {p u : Tmp} {g ty : Nat} {t : TypeId} {d d' e e' : D} (i : Nat) (os' : List Obj) (hres : fn.results = #[.cell p ty, .tmp u]) (hl : look S.regs p = some (.val (.v (.pointer (some ⟨g, 0, none⟩))))) (hi : S.objs[i]? = some (.var g t d)) (hT : assoc tyL ty = some (d.size, d.agg)) (hu : look S.regs u = some (.val e)) (hR : aj S.facts [d] [d']) (hR2 : aj S.facts [e] [e']) (ho : os'.Sublist S.objs) (hΦ : Φ (.tpl [d', e']) os') : EK X (bodyPost Tryz.prog fn (jq X Φ) .ret) S := by
 constructor
 intro a w ha
 obtain ⟨x, h1, h2⟩ := kZ ha.mem hi (tyI hT)
 have hp := (ay.1 (ha.regs p _ hl)).2
 have hp' : a.tmps[p]?.getD undef = .pointer (some ⟨g, 0, none⟩) := by simpa using hp
 have h3 : aB (X.ok S.objs w) w (.tpl [d', e']) (.tuple #[x, a.tmps.getD u undef]) := ⟨[x, a.tmps.getD u undef], rfl, _, _, rfl, Refine1.iw ha.mem.fact hR h2, _, _, rfl, Refine1.iw ha.mem.fact hR2 (ha.regs u _ hu), rfl⟩
 refine bodyPost_ret (v := .tuple #[x, a.tmps.getD u undef]) ?_ ha.defers ⟨_, _, os', rfl, hΦ, ha.mem.less ho (fun f hf => by cases hf), h3.mono (fun b hb => jC ho hb) fun _ _ => rfl⟩
 simp [results, hres, hp', asAddr, h1]
theorem iK (n : Int) : Fn 23 [.v (.int .i64 n)] (· = .val (.v (.int .i64 n))) := by
 refine Fn.walk 4 Tryz.func23 rfl Tryz.ntmps23 (by simp) fun X => ?_
 repeat (refine stp ?_; intros)
 exact EK.yJ rfl rfl rfl
theorem ED : Fn 71 [.v .nilIface] (· = .val (.arr 32 gZ)) := by
 have hE := oD
 refine FnM.toFn ?_
 refine FnM.walk 19 Tryz.func71 rfl Tryz.ntmps71 (by simp) fun X => ?_
 generalize gZ = r0 at *
 repeat
  (first
   | (refine aH (hE) (kk := ?_)) | (refine kL (hrun := rM) (kk := ?_)) | (refine stp ?_; intros))
 exact EK.uZ 0 [] rfl rfl rfl rfl (aj.refl _ _) (GU _) ⟨rfl, rfl⟩
theorem xQ (x : Value) (b : Bool) (m : Nat) : Fn 70 [.v x, .v .nilIface, .v (.bool b), .v (.map (some m))] (· = .tpl []) := by
 refine FnM.toFn ?_
 refine FnM.walk 62 Tryz.func70 rfl Tryz.ntmps70 (by simp) fun X => ?_
 repeat
  (first
   | (refine kL (hrun := rM) (kk := ?_)) | (refine stp ?_; intros))
 exact EK.sS [] rfl (GU _) ⟨rfl, rfl⟩
theorem xR (t s f c : Nat) (es : Array MapEntry) : FnM 26 [.v (ptr t)] [ntO t s (.v .nilIface) f, .it f (.map es c)] (fun r os' => r = .tpl [.arr 32 gZ, .sl 33 []] ∧ os' = [ntO t s (.v .nilIface) f, .it f (.map #[] c)]) := by
 have hS := ED
 refine FnM.walk 24 Tryz.func26 rfl Tryz.ntmps26 (by simp) fun X => ?_
 generalize gZ = r0 at *
 repeat
  (first
   | (apply jV; (iterate 3 rfl); intro m) | (refine aH (xQ _ _ _) (kk := ?_)) | (refine stp ?_; intros))
 rename_i m
 have hNo := EF m 0 [] (fun _ => []) (fun k hk => by cases hk) (fun _ => by decide) (by decide)
 rw [show sortL (([] : List Ent).map (·.2.1)) = [] from List.perm_nil.1 (fQ _)] at hNo
 refine EL.le (Le.pick [3, 0, 1, 2] [_, _, _, _] rfl (by decide) rfl) ?_
 refine EL.mut (os := [_]) (rest := [_, _, _]) rfl (fun _ h => by cases h) (yY rfl rfl Tryz.underlying117) ?_
 rintro _ _ ⟨rfl, rfl⟩
 simp only [St.put, G7, G6]
 repeat
  (first
   | (refine aH (hS) (kk := ?_)) | (refine stp ?_; intros))
 refine EL.le (Le.pick [1, 0, 2, 3] [_, _, _, _] rfl (by decide) rfl) ?_
 refine aC (os := [_]) hNo (kk := ?_)
 rintro _ _ ⟨rfl, rfl⟩
 repeat (refine stp ?_; intros)
 refine EK.le (Le.pick [2, 3, 1, 0] [_, _, _, _] rfl (by decide) rfl) ?_
 exact EK.yH 0 [_, _] rfl rfl rfl rfl rfl (aj.refl _ _) (aj.refl _ _) (by (repeat first | exact GU _ | apply List.Sublist.cons_cons | apply List.Sublist.cons)) ⟨rfl, rfl⟩
theorem dQ : Fn 18 [] (· = .val (.v (.bool true))) := by
 have n0 := iK 0
 have hE := zJ
 have hw := (mO gZ gZ).1
 have s2 := (mP [49] [49]).1
 rw [beq_self_eq_true] at s2 hw
 have hCm := fun t s f c es => xR t s f c es
 generalize gZ = r0 at *
 refine FnM.toFn ?_
 refine FnM.walk 66 Tryz.func18 rfl Tryz.ntmps18 (by simp) fun X => ?_
 repeat (refine stp ?_; intros)
 refine aC (os := []) jG (kk := ?_)
 rintro _ _ ⟨s, m, rfl, rfl⟩
 simp only [G7, G6]
 repeat (refine stp ?_; intros)
 refine aC (os := []) (iL s) (kk := ?_)
 rintro _ _ ⟨t, f, rfl, rfl⟩
 simp only [G7, G6]
 repeat
  (first
   | (refine aH (n0) (kk := ?_))
   | (apply kL; (iterate 2 rfl); exact (pW (T := 51) (by kernel_rfl) (some ⟨t, 0, none⟩)).1; iterate 2 rfl)
   | (apply kL; (iterate 2 rfl); exact (pW (T := 49) (by kernel_rfl) (some ⟨s, 0, none⟩)).1; iterate 2 rfl)
   | (apply fM [97]; rfl; (focus (intro a w; kernel_rfl)); rfl; decide; rfl; rfl)
   | (apply fM [49]; rfl; (focus (intro a w; kernel_rfl)); rfl; decide; rfl; rfl) | (refine stp ?_; intros))
 refine aC (os := [_, _]) (vP t s f 0 [97] [49] rfl (by decide)) (kk := ?_)
 rintro _ _ ⟨rfl, es, rfl⟩
 repeat
  (first
   | (apply fM [97]; rfl; (focus (intro a w; kernel_rfl)); rfl; decide; rfl; rfl)
   | (apply fM [49]; rfl; (focus (intro a w; kernel_rfl)); rfl; decide; rfl; rfl) | (refine stp ?_; intros))
 refine aC (os := [_]) (zH t s f (.leaf (split [97]) [49]) [97] [49] rfl (.inr rfl) (by decide)) (kk := ?_)
 rintro _ _ ⟨rfl, rfl⟩
 repeat
  (first
   | (apply fM [97]; rfl; (focus (intro a w; kernel_rfl)); rfl; decide; rfl; rfl)
   | (apply fM [49]; rfl; (focus (intro a w; kernel_rfl)); rfl; decide; rfl; rfl) | (refine stp ?_; intros))
 refine aC (os := [_]) (vS t s f (.leaf (split [97]) [49]) [97] rfl (.inr ⟨[49], rfl⟩)) rfl rfl (RL.cons Rf.same (RL.cons Rf.same (RL.cons Rf.bs0 RL.nil))) (by intro _ _; simp [go_sem]) rfl rfl ?_
 rintro _ _ ⟨rfl, rfl⟩
 repeat (refine stp ?_; intros)
 refine aC (os := [_, _]) (hCm t s f 1 es) (kk := ?_)
 rintro _ _ ⟨rfl, rfl⟩
 repeat (refine stp ?_; intros)
 refine EC.draw 11 (by kernel_rfl) ?_
 simp only [GN, GX, GL, GV]
 repeat
  (first
   | (refine dJ (n0) (kk := ?_)) | (refine rW (hrun := s2) (kk := ?_))
   | (refine dJ (hE) (kk := ?_)) | (refine rW (hrun := hw) (kk := ?_)) | (refine sth ?_; intros))
 repeat
  (first
   | (refine aH (n0) (kk := ?_)) | (refine kL (hrun := s2) (kk := ?_))
   | (refine aH (hE) (kk := ?_)) | (refine kL (hrun := hw) (kk := ?_)) | (refine stp ?_; intros))
 exact EK.bF [] rfl rfl (GU _) ⟨rfl, rfl⟩
section
variable {N : Nat} {X : Cx N} {ops : Array Oper} {Q : Exit → Act → World → Prop} {l : List Oper} {rs : List (Tmp × R)} {os : List Obj} {fs : List (Value × D)}
theorem wJ (n : Nat) : (List.replicate n (D.v (.int .u8 0))) = (List.replicate n (0 : UInt8)).map fun b => D.v (bv b) := by
 rw [List.map_replicate]
 rfl
theorem bV {t n ty : Nat} {pos : String} {af : Array Edge} {gd : Option (Nat × Bool)} {x : Operand} (hn : n ≤ 281474976710656) (hx : ev (⟨rs, os, fs⟩ : St) x = some (.val (.v (.int .i64 (n : Int))))) (hg : guardOf ops ⟨rs, os, fs⟩ ⟨some t, .makeSlice 41 x x, ty, pos, af, gd⟩ = some true) (hN : Nat.blt t N = true) (kk : ∀ r1 r2 fs', EL X ops Q l ⟨(t, .val (.bs (List.replicate n 0))) :: (t, r1) :: (t, r2) :: rs, os, fs'⟩) : EL X ops Q (⟨some t, .makeSlice 41 x x, ty, pos, af, gd⟩ :: l) ⟨rs, os, fs⟩ := by
 apply EW (n := n) (y' := 1)
 · exact ⟨by omega, by omega⟩
 · exact hx
 · rfl
 · rfl
 · exact hg
 · exact hN
 intro u
 refine EL.le (Le.freeze (pre := []) rfl) ?_
 refine EL.le (Le.refine (t := t) (d := .v u) (d' := .sl 1 ((List.replicate n (0 : UInt8)).map fun b => D.v (bv b))) (by simp [look]) (Rf.fact (by rw [← wJ]; exact G8) rfl)) ?_
 refine EL.le (Le.slB (t := t) (l := List.replicate n 0) (by simp [look])) ?_
 exact kk _ _ _
end
set_option maxRecDepth 20000
set_option maxHeartbeats 8000000
abbrev zN (n : Nat) : List UInt8 := List.replicate n 0
theorem BA (n m : Nat) : lg (zN n, zN m) = (decide (64 < n) || decide (1048576 < m)) := by
 unfold lg
 simp only [Jc]
theorem pI (t s f n m : Nat) (hm : m ≤ 1048577) : FnM 21 [.v (ptr t), .bs (zN n), .bs (zN m)] [ntO t s (.v .nilIface) f, .it f (.map #[] 0)] (fun r os' => r = .val (.v (.int .i64 (if lg (zN n, zN m) then 3 else 0))) ∧ ∃ u x ob, os' = [ntO t s (dT u) f, .it f ob] ∧ (u = .nil ∧ x = [] ∨ u = .leaf (split (zN n)) x) ∧ x.length ≤ 1048577) := by
 cases hL : lg (zN n, zN m) with
 | true =>
  refine ((BO (ptr t) (zN n) (zN m) hL).frame [ntO t s (.v .nilIface) f, .it f (.map #[] 0)]).mono ?_
  rintro _ _ ⟨_, ⟨rfl, rfl⟩, rfl⟩
  exact ⟨rfl, .nil, [], _, rfl, .inl ⟨rfl, rfl⟩, by decide⟩
 | false =>
  by_cases h0 : m = 0
  ·
   subst h0
   refine ((vS t s f .nil (zN n) hL (.inl rfl)).frame [.it f (.map #[] 0)]).mono ?_
   rintro _ _ ⟨_, ⟨rfl, rfl⟩, rfl⟩
   exact ⟨rfl, .nil, [], _, rfl, .inl ⟨rfl, rfl⟩, by decide⟩
  ·
   refine (vP t s f 0 (zN n) (zN m) hL (by rw [Jc]; omega)).mono ?_
   rintro _ _ ⟨rfl, es, rfl⟩
   exact ⟨rfl, _, zN m, _, rfl, .inr rfl, by rw [Jc]; exact hm⟩
theorem pJ (t s f n : Nat) (u : Tn) (x : List UInt8) (hu : u = .nil ∧ x = [] ∨ u = .leaf (split (zN n)) x) (hx : x.length ≤ 1048577) : FnM 22 [.v (ptr t), .bs (zN n)] [ntO t s (dT u) f] (fun r os' => ∃ y, r = .tpl [.bs y, .v (.int .i64 0)] ∧ os' = [ntO t s (dT u) f]) := by
 cases hL : lg (zN n, []) with
 | true =>
  refine ((BP (ptr t) (zN n) hL).frame [ntO t s (dT u) f]).mono ?_
  rintro _ _ ⟨_, ⟨rfl, rfl⟩, rfl⟩
  exact ⟨[], rfl, rfl⟩
 | false =>
  refine (zH t s f u (zN n) x hL hu (by omega)).mono ?_
  rintro _ _ ⟨rfl, rfl⟩
  exact ⟨x, rfl, rfl⟩
theorem xB (k v : Int) (h : ¬ (0 ≤ k ∧ k ≤ 200 ∧ 0 ≤ v ∧ v ≤ 3)) : Fn 4 [.v (.int .i64 k), .v (.int .i64 v)] (· = .val (.v (.bool true))) := by
 refine FnM.toFn ?_
 refine FnM.walk 69 Tryz.func4 rfl Tryz.ntmps4 (by simp) fun X => ?_
 by_cases h1 : k < 0
 ·
  skip
  repeat
   (first
    | (refine aH (dQ) (kk := ?_)) | (refine stp ?_; intros))
  exact EK.bF [] rfl rfl (GU _) ⟨rfl, rfl⟩
 by_cases h2 : k > 200
 ·
  skip
  repeat
   (first
    | (refine aH (dQ) (kk := ?_)) | (refine stp ?_; intros))
  exact EK.bF [] rfl rfl (GU _) ⟨rfl, rfl⟩
 by_cases h3 : v < 0
 ·
  skip
  repeat
   (first
    | (refine aH (dQ) (kk := ?_)) | (refine stp ?_; intros))
  exact EK.bF [] rfl rfl (GU _) ⟨rfl, rfl⟩
 have h4 : v > 3 := by omega
 repeat
  (first
   | (refine aH (dQ) (kk := ?_)) | (refine stp ?_; intros))
 exact EK.bF [] rfl rfl (GU _) ⟨rfl, rfl⟩
theorem xA (n : Nat) (h1 : 64 < n) (h2 : n ≤ 200) : Fn 4 [.v (.int .i64 (n : Int)), .v (.int .i64 3)] (· = .val (.v (.bool true))) := by
 obtain ⟨B, hB⟩ : ∃ B : Nat, B = 1048577 := ⟨_, rfl⟩
 have hP := fun t s f => pI t s f n B (by omega)
 rw [show lg (zN n, zN B) = true from by rw [BA, decide_eq_true h1]; rfl] at hP
 have n0 := iK 0
 have n3 := iK 3
 refine FnM.toFn ?_
 refine FnM.walk 69 Tryz.func4 rfl Tryz.ntmps4 (by simp) fun X => ?_
 repeat
  (first
   | (refine aH (dQ) (kk := ?_)) | (refine stp ?_; intros))
 refine aC (os := []) jG (kk := ?_)
 rintro _ _ ⟨s, g, rfl, rfl⟩
 simp only [G7, G6]
 repeat (refine stp ?_; intros)
 refine aC (os := []) (iL s) (kk := ?_)
 rintro _ _ ⟨t, f, rfl, rfl⟩
 simp only [G7, G6]
 repeat (refine stp ?_; intros)
 refine bV (n := 3) (by omega) rfl rfl rfl fun _ _ _ => ?_
 repeat (refine stp ?_; intros)
 refine bV (n := B) (by omega) (by subst hB; rfl) rfl rfl fun _ _ _ => ?_
 repeat (refine stp ?_; intros)
 refine bV (n := n) (by omega) rfl rfl rfl fun _ _ _ => ?_
 repeat (refine stp ?_; intros)
 refine aC (os := [_, _]) (hP t s f) (kk := ?_)
 rintro _ _ ⟨rfl, u, x, ob, rfl, hu, hx⟩
 repeat (refine stp ?_; intros)
 refine bV (n := n) (by omega) rfl rfl rfl fun _ _ _ => ?_
 repeat (refine stp ?_; intros)
 refine aC (os := [_]) (pJ t s f n u x hu hx) (kk := ?_)
 rintro _ _ ⟨y, rfl, rfl⟩
 repeat
  (first
   | (refine aH (n0) (kk := ?_)) | (refine aH (n3) (kk := ?_)) | (refine stp ?_; intros))
 exact EK.bF [] rfl rfl (GU _) ⟨rfl, rfl⟩
theorem xu (n : Nat) (h2 : n ≤ 64) : Fn 4 [.v (.int .i64 (n : Int)), .v (.int .i64 3)] (· = .val (.v (.bool true))) := by
 obtain ⟨B, hB⟩ : ∃ B : Nat, B = 1048577 := ⟨_, rfl⟩
 have hP := fun t s f => pI t s f n B (by omega)
 rw [show lg (zN n, zN B) = true from by rw [BA, decide_eq_true (show 1048576 < B by omega), Bool.or_true]] at hP
 have n0 := iK 0
 have n3 := iK 3
 refine FnM.toFn ?_
 refine FnM.walk 69 Tryz.func4 rfl Tryz.ntmps4 (by simp) fun X => ?_
 repeat
  (first
   | (refine aH (dQ) (kk := ?_)) | (refine stp ?_; intros))
 refine aC (os := []) jG (kk := ?_)
 rintro _ _ ⟨s, g, rfl, rfl⟩
 simp only [G7, G6]
 repeat (refine stp ?_; intros)
 refine aC (os := []) (iL s) (kk := ?_)
 rintro _ _ ⟨t, f, rfl, rfl⟩
 simp only [G7, G6]
 repeat (refine stp ?_; intros)
 refine bV (n := 3) (by omega) rfl rfl rfl fun _ _ _ => ?_
 repeat (refine stp ?_; intros)
 refine bV (n := B) (by omega) (by subst hB; rfl) rfl rfl fun _ _ _ => ?_
 repeat (refine stp ?_; intros)
 refine bV (n := n) (by omega) rfl rfl rfl fun _ _ _ => ?_
 repeat (refine stp ?_; intros)
 refine aC (os := [_, _]) (hP t s f) (kk := ?_)
 rintro _ _ ⟨rfl, u, x, ob, rfl, hu, hx⟩
 repeat (refine stp ?_; intros)
 refine bV (n := n) (by omega) rfl rfl rfl fun _ _ _ => ?_
 repeat (refine stp ?_; intros)
 refine aC (os := [_]) (pJ t s f n u x hu hx) (kk := ?_)
 rintro _ _ ⟨y, rfl, rfl⟩
 repeat
  (first
   | (refine aH (n0) (kk := ?_)) | (refine aH (n3) (kk := ?_)) | (refine stp ?_; intros))
 exact EK.bF [] rfl rfl (GU _) ⟨rfl, rfl⟩
theorem xq (n m : Nat) (h1 : 64 < n) (h2 : n ≤ 200) (h3 : m < 3) : Fn 4 [.v (.int .i64 (n : Int)), .v (.int .i64 (m : Int))] (· = .val (.v (.bool true))) := by
 have hP := fun t s f => pI t s f n m (by omega)
 rw [show lg (zN n, zN m) = true from by rw [BA, decide_eq_true h1]; rfl] at hP
 have n0 := iK 0
 have n3 := iK 3
 refine FnM.toFn ?_
 refine FnM.walk 69 Tryz.func4 rfl Tryz.ntmps4 (by simp) fun X => ?_
 repeat
  (first
   | (refine aH (dQ) (kk := ?_)) | (refine stp ?_; intros))
 refine aC (os := []) jG (kk := ?_)
 rintro _ _ ⟨s, g, rfl, rfl⟩
 simp only [G7, G6]
 repeat (refine stp ?_; intros)
 refine aC (os := []) (iL s) (kk := ?_)
 rintro _ _ ⟨t, f, rfl, rfl⟩
 simp only [G7, G6]
 repeat (refine stp ?_; intros)
 refine bV (n := m) (by omega) rfl rfl rfl fun _ _ _ => ?_
 repeat (refine stp ?_; intros)
 refine bV (n := n) (by omega) rfl rfl rfl fun _ _ _ => ?_
 repeat (refine stp ?_; intros)
 refine aC (os := [_, _]) (hP t s f) (kk := ?_)
 rintro _ _ ⟨rfl, u, x, ob, rfl, hu, hx⟩
 repeat (refine stp ?_; intros)
 refine bV (n := n) (by omega) rfl rfl rfl fun _ _ _ => ?_
 repeat (refine stp ?_; intros)
 refine aC (os := [_]) (pJ t s f n u x hu hx) (kk := ?_)
 rintro _ _ ⟨y, rfl, rfl⟩
 repeat
  (first
   | (refine aH (n0) (kk := ?_)) | (refine aH (n3) (kk := ?_)) | (refine stp ?_; intros))
 exact EK.bF [] rfl rfl (GU _) ⟨rfl, rfl⟩
theorem xk (n m : Nat) (h2 : n ≤ 64) (h3 : m < 3) : Fn 4 [.v (.int .i64 (n : Int)), .v (.int .i64 (m : Int))] (· = .val (.v (.bool true))) := by
 have hP := fun t s f => pI t s f n m (by omega)
 rw [show lg (zN n, zN m) = false from by rw [BA, decide_eq_false (show ¬ 64 < n by omega), decide_eq_false (show ¬ 1048576 < m by omega)]; rfl] at hP
 have n0 := iK 0
 refine FnM.toFn ?_
 refine FnM.walk 69 Tryz.func4 rfl Tryz.ntmps4 (by simp) fun X => ?_
 repeat
  (first
   | (refine aH (dQ) (kk := ?_)) | (refine stp ?_; intros))
 refine aC (os := []) jG (kk := ?_)
 rintro _ _ ⟨s, g, rfl, rfl⟩
 simp only [G7, G6]
 repeat (refine stp ?_; intros)
 refine aC (os := []) (iL s) (kk := ?_)
 rintro _ _ ⟨t, f, rfl, rfl⟩
 simp only [G7, G6]
 repeat (refine stp ?_; intros)
 refine bV (n := m) (by omega) rfl rfl rfl fun _ _ _ => ?_
 repeat (refine stp ?_; intros)
 refine bV (n := n) (by omega) rfl rfl rfl fun _ _ _ => ?_
 repeat (refine stp ?_; intros)
 refine aC (os := [_, _]) (hP t s f) (kk := ?_)
 rintro _ _ ⟨rfl, u, x, ob, rfl, hu, hx⟩
 repeat (refine stp ?_; intros)
 refine bV (n := n) (by omega) rfl rfl rfl fun _ _ _ => ?_
 repeat (refine stp ?_; intros)
 refine aC (os := [_]) (pJ t s f n u x hu hx) (kk := ?_)
 rintro _ _ ⟨y, rfl, rfl⟩
 repeat
  (first
   | (refine aH (n0) (kk := ?_)) | (refine stp ?_; intros))
 exact EK.bF [] rfl rfl (GU _) ⟨rfl, rfl⟩
theorem y7 (k v : Int) : Fn 4 [.v (.int .i64 k), .v (.int .i64 v)] (· = .val (.v (.bool true))) := by
 by_cases h : 0 ≤ k ∧ k ≤ 200 ∧ 0 ≤ v ∧ v ≤ 3
 ·
  obtain ⟨n, rfl⟩ := Int.eq_ofNat_of_zero_le h.1
  obtain ⟨m, rfl⟩ := Int.eq_ofNat_of_zero_le h.2.2.1
  by_cases h3 : m = 3
  ·
   subst h3
   by_cases h1 : 64 < n
   · exact xA n h1 (by omega)
   · exact xu n (by omega)
  ·
   by_cases h1 : 64 < n
   · exact xq n m h1 (by omega) (by omega)
   · exact xk n m (by omega) (by omega)
 · exact xB k v h
end E
end Go.Proofs.YtaoicebcdmpemaaGreat
namespace Go.Proofs.YtaoicebcdmpemaaGreat
open Go.RowKit Mono

end Go.Proofs.YtaoicebcdmpemaaGreat
namespace Go.Proofs.YtaoicebcdmpemaaGreat
open Go.RowKit Mono Go.ChangeShapes Go.WideShapes Go.Deep
section
variable {H : Type} {enc : TypeId × Value → H} {w : World} {spare : Nat → Bool} {held : Bool}
set_option maxRecDepth 100000
variable {r : Reach} {b0 : Nat} {v : Value} {d : DataW H} {ps : List MemPlace}
theorem Dp (hv : Value.okWide Tryz.prog w r b0 3 v) (h : DataW.Trod enc Tryz.prog w 0 spare held 3 v d ps) : ∃ n : Int, v = .int .i64 n ∧ -9223372036854775808 ≤ n ∧ n ≤ 9223372036854775807 := by
 obtain ⟨n, rfl, _, _, hw⟩ := open_int Tryz.underlying3 hv h
 exact ⟨n, rfl, bounds_i64 hw⟩
end
end Go.Proofs.YtaoicebcdmpemaaGreat
namespace Go.Proofs.YtaoicebcdmpemaaGreat
set_option linter.unusedVariables false
open Go.RowKit Mono
namespace E
theorem xC {f : FuncId} {ds : List D} {xs : List Value} {w : World} (h : Fn f ds (· = .val (.v (.bool true)))) (hr : aZ (fun b => b < w.heap.size) w ds xs) : Calls Tryz.prog f xs.toArray w fun e w' => e = .returned (.bool true) ∧ Below w.heap.size w w' :=
 (h.go _ w xs (fun b hb => hb) hr).mono fun e w' ⟨hg, v, r, he, hΦ, hv⟩ => by
  subst he hΦ
  exact ⟨by rw [(ay.1 hv).2], hg⟩
end E
end Go.Proofs.YtaoicebcdmpemaaGreat
