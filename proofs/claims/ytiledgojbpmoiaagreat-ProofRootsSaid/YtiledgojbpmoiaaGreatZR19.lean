/-
 Merged (wip/tools/merge.py): TS1, SortP, TP5, TP6, TP7.
 Conditions: none.
-/
import Derived.Test.YtiledgojbpmoiaaGreatZR11
import Derived.Test.YtiledgojbpmoiaaGreatZR18
import Derived.Shelf.SlSortCmp.WholeK
import Derived.Shelf.SlSortCmp.NoneTotal
import Derived.Shelf.SlGeneric
import Derived.Ground.SlsfProg
import Derived.Test.YtiledgojbpmoiaaGreatRows
import Derived.Test.YtiledgojbpmoiaaGreatZR16
import Derived.Test.YtiledgojbpmoiaaGreatZR17
namespace Go.Proofs.YtiledgojbpmoiaaGreat
set_option linter.unusedVariables false
open Go.RowKit Mono Rlp Go.Sort
namespace E
theorem Nb {w : World} {g n : Nat} {os : Array Go.Obj} {cur : Array Value} {e : TypeId} {fr : Nat × Nat} (F : Array Value) (hb : w.heap[g]? = some (.cells cur e fr)) :
  (grow (putRow id (Sort.ahead w n) g 0 F) os).heap[g]? = some (.cells (putCells id 0 F cur) e fr) := by
 have hg : g < w.heap.size := (Array.getElem?_eq_some_iff.1 hb).1
 rw [heap_grow_old _ _ (by simpa using hg)]
 simp [putRow, mapBlock, Sort.ahead, Array.getElem?_modify, hb, onCells]
theorem zn {w : World} {g n : Nat} {os : Array Go.Obj} (F : Array Value) : w.grownBy (grow (putRow id (Sort.ahead w n) g 0 F) os) (some g) := by
 refine ⟨rfl, rfl, rfl, by simp, fun k hk hne => ?_⟩
 rw [heap_grow_old _ _ (by simpa using hk)]
 have : g ≠ k := fun e => hne (by rw [e])
 simp [putRow, mapBlock, Sort.ahead, Array.getElem?_modify, this]
theorem Lh (cur F : Array Value) (h : F.size ≤ cur.size) : (putCells id 0 F cur).toList.take F.size = F.toList := by
 apply List.ext_getElem?
 intro j
 by_cases hj : j < F.size
 ·
  rw [List.getElem?_take_of_lt hj, Array.getElem?_toList]
  simp [putCells, hj, show j < cur.size by omega]
 · rw [List.getElem?_take_eq_none (by omega), List.getElem?_eq_none (by simp; omega)]
abbrev El {κ : Type} (dk : κ → D) (ok : Nat → Prop) (w : World) := {x : List Value × κ // Reads ok w (dk x.2) x.1}
theorem els {κ : Type} {dk : κ → D} {ok : Nat → Prop} {w : World} {z : Nat} : ∀ (ks : List κ) (rows : List (List Value)), ay ok w z (ks.map dk) rows → ∃ es : List (El dk ok w), es.map (·.1.1) = rows ∧ es.map (·.1.2) = ks
 | [], rows, h => by
  rw [List.map_nil, ay] at h
  exact ⟨[], h.symm, rfl⟩
 | k :: ks, rows, h => by
  rw [List.map_cons, ay] at h
  obtain ⟨r, rest, rfl, _, h2, h3⟩ := h
  obtain ⟨es, e1, e2⟩ := els ks rest h3
  exact ⟨⟨(r, k), h2⟩ :: es, by rw [List.map_cons, e1], by rw [List.map_cons, e2]⟩
theorem Gu {κ : Type} {dk : κ → D} {ok ok' : Nat → Prop} {w w' : World} {z : Nat} (hz : ∀ x, (dk x).size = z) (hm : ∀ d cs, Reads ok w d cs → Reads ok' w' d cs) : ∀ es : List (El dk ok w), ay ok' w' z ((es.map (·.1.2)).map dk) (es.map (·.1.1))
 | [] => by rw [List.map_nil, List.map_nil, List.map_nil, ay]
 | e :: es => by
  rw [List.map_cons, List.map_cons, List.map_cons, ay]
  exact ⟨_, _, rfl, (Reads.len _ _ e.2).trans (hz _), hm _ _ e.2, Gu hz hm es⟩
theorem Gi {α : Type} [Inhabited α] {enc : α → List Value} {n : Nat} (hn : 0 < n) (hk : ∀ x, (enc x).length = n) : ∀ (ks : List α) (t : Nat), t < ks.length * n → (ks.map enc).flatten[t]? = some ((enc (ks[t / n]!))[t % n]!)
 | [], t, h => by simp at h
 | k :: ks, t, h => by
  rw [List.map_cons, List.flatten_cons]
  by_cases ht : t < n
  ·
   rw [List.getElem?_append_left (by rw [hk]; omega), Nat.div_eq_of_lt ht, Nat.mod_eq_of_lt ht]
   simp [hk, ht]
  ·
   rw [List.getElem?_append_right (by rw [hk]; omega), hk, Gi hn hk ks (t - n) (by simp [Nat.add_mul] at h; omega)]
   have h1 : t / n = (t - n) / n + 1 := by
    conv => lhs; rw [show t = t - n + n by omega, Nat.add_div_right _ hn]
   have h2 : t % n = (t - n) % n := by
    conv => lhs; rw [show t = t - n + n by omega, Nat.add_mod_right]
   rw [h1, h2]
   simp
theorem zC {α : Type} [Inhabited α] {enc : α → List Value} {n : Nat} (hn : 0 < n) (hk : ∀ x, (enc x).length = n) (ks : List α) : (flatK enc n ks.toArray).toList = (ks.map enc).flatten := by
 have hl : (ks.map enc).flatten.length = ks.length * n := by
  have : ∀ ks : List α, (ks.map enc).flatten.length = ks.length * n := fun ks => by
   induction ks with
   | nil => simp
   | cons k ks ih => rw [List.map_cons, List.flatten_cons, List.length_append, ih, hk, List.length_cons, Nat.add_mul, Nat.one_mul, Nat.add_comm]
  exact this ks
 refine List.ext_getElem? fun t => ?_
 by_cases ht : t < ks.length * n
 ·
  rw [Gi hn hk ks t ht, Array.getElem?_toList]
  have hs : t < (flatK enc n ks.toArray).size := by simpa using ht
  have := get_flatK enc n ks.toArray t (by simpa using ht)
  rw [getElem!_pos _ t hs] at this
  rw [Array.getElem?_eq_getElem hs, this]
  simp
 · rw [List.getElem?_eq_none (by simp; omega), List.getElem?_eq_none (by omega)]
theorem WJ {α : Type} (key : α → List UInt8) : SWO (Go.Proofs.ltOf fun x y : α => xu (key x) (key y)) := by
 have h : ∀ x y : α, Go.Proofs.ltOf (fun x y : α => xu (key x) (key y)) x y = decide (key x < key y) := fun x y => KA (key x) (key y)
 refine ⟨fun x => ?_, fun x y z h1 h2 => ?_, fun x y z h1 h2 => ?_⟩
 ·
  rw [h]
  simp [List.lt_irrefl]
 ·
  rw [h] at h1 h2 ⊢
  simp only [decide_eq_true_eq] at h1 h2 ⊢
  exact List.lt_trans h1 h2
 ·
  rw [h] at h1 h2 ⊢
  simp only [decide_eq_false_iff_not, List.not_lt] at h1 h2 ⊢
  exact List.le_trans h2 h1
theorem Oy {κ : Type} {ρ : Go.Shelf.Ren} (L : SlLaysF0.n6 Tryz.prog ρ) (T z : Nat) (hz : 0 < z) (aE : ∀ w, (isAgg (ρ.t 24)).run Tryz.prog w = .ok true w) (zE : ∀ w, (Go.sizeOf (ρ.t 24)).run Tryz.prog w = .ok z w)
  (dk : κ → D) (hag : ∀ x, (dk x).agg = true) (hsz : ∀ x, (dk x).size = z) (key : κ → List UInt8) (x0 : κ) (cs0 : List Value) (hx0 : ∀ ok w, Reads ok w (dk x0) cs0) (cf : FuncId)
  (hc : ∀ (ok : Nat → Prop) (w : World), (∀ b, ok b → b < w.heap.size) → ∀ x y v u, bW ok w (dk x) v → bW ok w (dk y) u → Calls Tryz.prog cf #[v, u] w fun e w' => e = .returned (.int .i64 (xu (key x) (key y))) ∧ ∃ q os', w' = grow (w.drewN q) os')
  (ec : ∀ args w, (callFunc cf args).run Tryz.prog w = .ok (.enter cf args) w) (v : Value) (ks : List κ) (hl : ks.length < 4611686018427387904) :
  FnM (ρ.f 6) [.v v, .v (.func (.func cf) #[] #[])] [.row v T z (ks.map dk)] (fun r os' => r = .tpl [] ∧ ∃ ks' : List κ, ks'.Perm ks ∧ ks'.Pairwise (fun x y => key x ≤ key y) ∧ os' = [.row v T z (ks'.map dk)]) := by
 constructor
 intro ok w xs hok hown hr
 obtain ⟨x1, _, rfl, hx1, x2, _, rfl, hx2, rfl⟩ := hr
 obtain rfl := (bF.1 hx1).2
 obtain rfl := (bF.1 hx2).2
 obtain ⟨rows, ⟨hrow, hbase⟩, hrows⟩ := hown.at_ _ (List.mem_cons_self ..)
 rw [List.length_map] at hrow
 rcases hrow.2 with ⟨rfl, h0⟩ | ⟨g, cap, cur, rfl, _, hgb, r1, r2, r3, r4⟩
 ·
  obtain rfl : ks = [] := List.eq_nil_of_length_eq_zero h0
  rw [List.map_nil] at hrows
  refine (AnyF.slices_SortFunc_none L none 0 (.func (.func cf) #[] #[]) w).mono ?_
  rintro e w' ⟨rfl, rfl⟩
  refine ⟨_, .tpl [], _, rfl, ⟨rfl, [], .nil, .nil, rfl⟩, ⟨.refl _, hown.apart, fun o ho => ?_⟩, [], rfl, rfl⟩
  obtain rfl := List.mem_singleton.1 ho
  exact ⟨[], ⟨⟨by simp, .inl ⟨rfl, rfl⟩⟩, fun b hb => by cases hb⟩, by rw [List.map_nil, ay]⟩
 ·
  have hlt := (Array.getElem?_eq_some_iff.1 hgb).1
  have hng : ∀ b, ok b → b ≠ g := fun b hb e => hown.off b ⟨_, List.mem_cons_self .., by rw [e]; rfl⟩ hb
  obtain ⟨es, rfl, rfl⟩ := els ks rows hrows
  letI : Inhabited (El dk ok w) := ⟨⟨(cs0, x0), hx0 ok w⟩⟩
  have hk : ∀ x : El dk ok w, x.1.1.length = z := fun x => (Reads.len _ _ x.2).trans (hsz _)
  have hone : ∀ x : El dk ok w, ∀ u ∈ x.1.1, u.oneCell' = true := fun x => Reads.one _ _ x.2
  rw [List.length_map] at hl
  simp only [List.length_map] at r1 r3 r4 hrow
  have hH : HoldsK (fun x : El dk ok w => x.1.1) z w g 0 es.toArray := fun j hj => by
   have hj' : j < es.length * z := by simpa using hj
   have h1 : (cur.toList.take (es.length * z))[j]? = (es.map fun x : El dk ok w => x.1.1).flatten[j]? := by rw [r4]
   rw [List.getElem?_take_of_lt hj', ← zC hz hk] at h1
   refine ⟨?_, by simp [World.frozen?, hgb]⟩
   rw [cell_of_row w g (0 + j) cur T (0, 0) hgb, Nat.zero_add, ← Array.getElem?_toList, h1, Array.getElem?_toList, Array.getElem?_eq_getElem hj, getElem!_pos _ j hj]
   rfl
  have hkeep : ∀ (n : Nat) (F : Array Value) (os : Array Go.Obj) (b : Nat), ok b → (grow (putRow id (Sort.ahead w n) g 0 F) os).heap[b]? = w.heap[b]? := fun n F os b hb => (zn (w := w) (g := g) (n := n) (os := os) F).block b (hok b hb) fun e => hng b hb (Option.some.inj e)
  have hcmp : CmpLays Tryz.prog cf #[] (fun x : El dk ok w => x.1.1) z (fun x y : El dk ok w => xu (key x.1.2) (key y.1.2)) g 0 es.toArray.size w := fun m os dk' hs x y => by
   have hm : ∀ d cs, Reads ok w d cs → Reads ok (sortWorldK (fun x : El dk ok w => x.1.1) z w g 0 m dk' os) d cs := fun d cs h => Reads.mono (fun _ h => h) (fun p hp => World.cell?_of_block (hkeep m _ os p.block hp)) d cs h
   refine (hc ok _ (fun b hb => Nat.lt_of_lt_of_le (hok b hb) (size_sortWorldK_c _ _ _ _ _ _ _ _)) x.1.2 y.1.2 _ _ ((jo (hag _)).2 ⟨_, hm _ _ x.2, rfl⟩) ((jo (hag _)).2 ⟨_, hm _ _ y.2, rfl⟩)).mono ?_
   rintro e w' ⟨rfl, h⟩
   exact ⟨rfl, h⟩
  have hsort := AnyQ.slices_SortFunc L z aE zE (fun x : El dk ok w => x.1.1) hk hone (fun x y : El dk ok w => xu (key x.1.2) (key y.1.2)) (WJ fun x : El dk ok w => key x.1.2) cf #[] g 0 cap es.toArray w ec hcmp hH hlt (by simpa using hl)
  have hl0 : (es.map fun x : El dk ok w => x.1.2).length = es.toArray.size := by simp
  rw [hl0]
  refine hsort.mono ?_
  rintro e w' ⟨rfl, d', n, os, hP, hS, rfl⟩
  have hd : d'.toList.Perm es := by
   obtain ⟨hs, _, hp⟩ := hP
   rw [show es.toArray.size = d'.size from hs.symm, Array.extract_size, hs, Array.extract_size] at hp
   simpa using hp
  have hdl : d'.toList.length = es.length := hd.length_eq
  have hsorted : (d'.toList.map fun x : El dk ok w => x.1.2).Pairwise fun x y => key x ≤ key y := by
   rw [List.pairwise_map, List.pairwise_iff_getElem]
   intro i j hi hj hij
   have := hS i j (Nat.zero_le _) hij (by simpa [hdl] using hj)
   have hi' : i < d'.size := by simpa using hi
   have hj' : j < d'.size := by simpa using hj
   rw [getElem!_pos d' j hj', getElem!_pos d' i hi', show ltOf (fun x y : El dk ok w => xu (key x.1.2) (key y.1.2)) d'[j] d'[i] = decide (key d'[j].1.2 < key d'[i].1.2) from KA _ _] at this
   simpa using this
  have hg := zn (w := w) (g := g) (n := n) (os := os) (flatK (fun x : El dk ok w => x.1.1) z d')
  have hh := Nb (n := n) (os := os) (flatK (fun x : El dk ok w => x.1.1) z d') hgb
  have hF : (flatK (fun x : El dk ok w => x.1.1) z d').size = es.length * z := by rw [size_flatK]; rw [show d'.size = es.length by simpa using hdl]
  have htk := Lh cur (flatK (fun x : El dk ok w => x.1.1) z d') (by rw [hF, r3]; exact Nat.mul_le_mul_right _ r1)
  have hfl : (flatK (fun x : El dk ok w => x.1.1) z d').toList = (d'.toList.map fun x : El dk ok w => x.1.1).flatten := by rw [← zC hz hk d'.toList]
  rw [hF, hfl] at htk
  refine ⟨_, .tpl [], _, rfl, ⟨rfl, d'.toList.map fun x : El dk ok w => x.1.2, hd.map _, hsorted, rfl⟩, ⟨⟨hg.os, hg.tape, hg.output, hg.size, fun k hk hn => hg.block k hk fun e => hn ?_⟩, .cons (fun _ h => by simp at h) .nil, fun o ho => ?_⟩, [], rfl, rfl⟩
  ·
   cases e
   exact ⟨_, List.mem_cons_self .., rfl⟩
  ·
   obtain rfl := List.mem_singleton.1 ho
   have hlen : ((d'.toList.map fun x : El dk ok w => x.1.2).map dk).length = es.length := by simp [← hdl]
   have hrd : ay (okM ok [.row (.slice (some ⟨g, 0, none⟩) es.toArray.size cap) T z ((es.map fun x : El dk ok w => x.1.2).map dk)] w [.row (.slice (some ⟨g, 0, none⟩) es.toArray.size cap) T z ((d'.toList.map fun x : El dk ok w => x.1.2).map dk)] (sortWorldK (fun x : El dk ok w => x.1.1) z w g 0 n d' os)) (sortWorldK (fun x : El dk ok w => x.1.1) z w g 0 n d' os) z ((d'.toList.map fun x : El dk ok w => x.1.2).map dk) (d'.toList.map fun x : El dk ok w => x.1.1) :=
    Gu hsz (fun d cs h => Reads.mono (fun b hb => ⟨.inl hb, Nat.lt_of_lt_of_le (hok b hb) hg.size, fun o ho => by
     obtain rfl := List.mem_singleton.1 ho
     intro e
     cases e
     exact hng _ hb rfl⟩) (fun p hp => World.cell?_of_block (hkeep n _ os p.block hp)) d cs h) d'.toList
   refine ⟨d'.toList.map fun x : El dk ok w => x.1.1, ⟨⟨?_, .inr ⟨g, cap, _, ?_, Nat.zero_le _, hh, ?_, r2, ?_, ?_⟩⟩, fun b hb => .inl ⟨_, List.mem_cons_self .., hb⟩⟩, hrd⟩
   · rw [← hfl, Array.length_toList, hF, hlen]
   ·
    rw [hlen]
    rfl
   ·
    rw [hlen]
    exact r1
   · simp [putCells, r3]
   ·
    rw [hlen]
    exact htk
end E
end Go.Proofs.YtiledgojbpmoiaaGreat
namespace Go.Proofs.YtiledgojbpmoiaaGreat
open Go.Shelf
def CG : Go.Shelf.Ren := ⟨fun | 6 => 163 | 15 => 199 | 14 => 198 | 28 => 220 | 29 => 221 | 20 => 212 | 21 => 213 | 22 => 214 | 23 => 215 | 24 => 216 | 25 => 217 | 26 => 218 | 27 => 219 | 46 => 231 | 47 => 232 | 48 => 233 | 49 => 234 | 50 => 235 | 57 => 241 | n => n, fun | 22 => 201 | 24 => 263 | 25 => 265 | 3 => 3 | 39 => 120 | 0 => 0 | 53 => 309 | 55 => 132 | 4 => 4 | 46 => 303 | 45 => 302 | 50 => 181 | 5 => 5 | 9 => 9 | 66 => 316 | 70 => 320 | 76 => 326 | 77 => 327 | n => n, fun | n => n⟩
theorem Oz : Go.Proofs.SlLaysF0.n6 Tryz.prog CG := {
 mixed := by kernel_rfl
 f6 := ⟨Tryz.f163.name, by decide, Tryz.func163.trans (congrArg some (by kernel_rfl))⟩
 f14 := ⟨Tryz.f198.name, by decide, Tryz.func198.trans (congrArg some (by kernel_rfl))⟩
 f15 := Tryz.func199.trans (congrArg some (by kernel_rfl))
 f20 := ⟨Tryz.f212.name, by decide, Tryz.func212.trans (congrArg some (by kernel_rfl))⟩
 f21 := ⟨Tryz.f213.name, by decide, Tryz.func213.trans (congrArg some (by kernel_rfl))⟩
 f22 := ⟨Tryz.f214.name, by decide, Tryz.func214.trans (congrArg some (by kernel_rfl))⟩
 f23 := ⟨Tryz.f215.name, by decide, Tryz.func215.trans (congrArg some (by kernel_rfl))⟩
 f24 := ⟨Tryz.f216.name, by decide, Tryz.func216.trans (congrArg some (by kernel_rfl))⟩
 f25 := ⟨Tryz.f217.name, by decide, Tryz.func217.trans (congrArg some (by kernel_rfl))⟩
 f26 := ⟨Tryz.f218.name, by decide, Tryz.func218.trans (congrArg some (by kernel_rfl))⟩
 f27 := ⟨Tryz.f219.name, by decide, Tryz.func219.trans (congrArg some (by kernel_rfl))⟩
 f28 := Tryz.func220.trans (congrArg some (by kernel_rfl))
 f29 := Tryz.func221.trans (congrArg some (by kernel_rfl))
 f46 := ⟨Tryz.f231.name, by decide, Tryz.func231.trans (congrArg some (by kernel_rfl))⟩
 f47 := Tryz.func232.trans (congrArg some (by kernel_rfl))
 f48 := Tryz.func233.trans (congrArg some (by kernel_rfl))
 f49 := ⟨Tryz.f234.name, by decide, Tryz.func234.trans (congrArg some (by kernel_rfl))⟩
 f50 := ⟨Tryz.f235.name, by decide, Tryz.func235.trans (congrArg some (by kernel_rfl))⟩
 f57 := ⟨Tryz.f241.name, by decide, Tryz.func241.trans (congrArg some (by kernel_rfl))⟩
 t0 := Tryz.underlying0
 a0 := Tryz.isAgg0
 z0 := Tryz.sizeOf0
 v0 := Tryz.zeroValue0
 t3 := Tryz.underlying3
 a3 := Tryz.isAgg3
 z3 := Tryz.sizeOf3
 v3 := Tryz.zeroValue3
 t4 := Tryz.underlying4
 a4 := Tryz.isAgg4
 z4 := Tryz.sizeOf4
 v4 := Tryz.zeroValue4
 t5 := Tryz.underlying5
 a5 := Tryz.isAgg5
 z5 := Tryz.sizeOf5
 v5 := Tryz.zeroValue5
 t9 := Tryz.underlying9
 a9 := Tryz.isAgg9
 z9 := Tryz.sizeOf9
 v9 := Tryz.zeroValue9
 t22 := Tryz.underlying201
 a22 := Tryz.isAgg201
 z22 := Tryz.sizeOf201
 v22 := Tryz.zeroValue201
 t25 := Tryz.underlying265
 a25 := Tryz.isAgg265
 z25 := Tryz.sizeOf265
 v25 := Tryz.zeroValue265
 t39 := Tryz.underlying120
 a39 := Tryz.isAgg120
 z39 := Tryz.sizeOf120
 v39 := Tryz.zeroValue120
 t45 := Tryz.underlying302
 a45 := Tryz.isAgg302
 z45 := Tryz.sizeOf302
 v45 := Tryz.zeroValue302
 t46 := Tryz.underlying303
 a46 := Tryz.isAgg303
 z46 := Tryz.sizeOf303
 v46 := Tryz.zeroValue303
 t50 := Tryz.underlying181
 a50 := Tryz.isAgg181
 z50 := Tryz.sizeOf181
 v50 := Tryz.zeroValue181
 t53 := Tryz.underlying309
 a53 := Tryz.isAgg309
 z53 := Tryz.sizeOf309
 v53 := Tryz.zeroValue309
 t55 := Tryz.underlying132
 a55 := Tryz.isAgg132
 z55 := Tryz.sizeOf132
 v55 := Tryz.zeroValue132
 t66 := Tryz.underlying316
 a66 := Tryz.isAgg316
 z66 := Tryz.sizeOf316
 v66 := Tryz.zeroValue316
 t70 := Tryz.underlying320
 a70 := Tryz.isAgg320
 z70 := Tryz.sizeOf320
 v70 := Tryz.zeroValue320
 t76 := Tryz.underlying326
 a76 := Tryz.isAgg326
 z76 := Tryz.sizeOf326
 v76 := Tryz.zeroValue326
 t77 := Tryz.underlying327
 a77 := Tryz.isAgg327
 z77 := Tryz.sizeOf327
 v77 := Tryz.zeroValue327 }
end Go.Proofs.YtiledgojbpmoiaaGreat
namespace Go.Proofs.YtiledgojbpmoiaaGreat
set_option linter.unusedVariables false
set_option maxRecDepth 20000
set_option maxHeartbeats 8000000
open Go.RowKit Mono Rlp Go.Sort
namespace E
def dPr (x : List UInt8 × List UInt8) : D := .tup [.bs x.1, .bs x.2]
theorem Fn.VG {f : FuncId} {ds : List D} {Φ : R → Prop} (h : Fn f ds Φ) : FnM f ds [] (fun r os' => Φ r ∧ os' = []) := ⟨fun ok w xs hok hown hr => (h.go ok w xs hok hr).mono fun e w' ⟨hg, v, r, he, hΦ, hv⟩ =>
 ⟨v, r, [], he, ⟨hΦ, rfl⟩, ⟨.of hg, .nil, fun o ho => by simp at ho⟩, hv.mono (fun b hb => ⟨hb.1.elim .inl fun h => .inr (.inr h), hb.2, fun o ho => by simp at ho⟩) fun _ _ => rfl⟩⟩
def lg (x : List UInt8 × List UInt8) : Bool := decide (64 < x.1.length) || decide (1048576 < x.2.length)
theorem U7 (x : List UInt8 × List UInt8) : Fn 162 [.bs x.1, .bs x.2] (· = .val (.v (.bool (lg x)))) := by
 unfold lg
 refine Fn.walk 13 Tryz.func162 rfl Tryz.ntmps162 (by simp) fun X => ?_
 by_cases h : 64 < x.1.length
 ·
  rw [decide_eq_true h]
  repeat
   (first
    | (apply fF; iterate 2 rfl) | (apply au; iterate 3 rfl) | (apply ak; iterate 3 rfl) | (apply aT; iterate 4 rfl)
    | (apply aC (b := true); (iterate 2 rfl); exact aO; iterate 2 rfl) | (apply aU; iterate 4 rfl) | apply EL.nil | ((with_reducible apply EK.ah); apply EK.code)
    | (with_reducible first | apply EC.seq | apply EC.region | apply EC.ret))
  exact EK.kC rfl rfl rfl
 ·
  rw [decide_eq_false h]
  by_cases h2 : 1048576 < x.2.length
  ·
   rw [decide_eq_true h2]
   repeat
    (first
     | (apply au; iterate 3 rfl) | (apply ak; iterate 3 rfl) | (apply aT; iterate 4 rfl)
     | (apply aC (b := true); (iterate 2 rfl); exact aO; iterate 2 rfl) | (apply aC (b := false); (iterate 2 rfl); exact aO; iterate 2 rfl)
     | (apply aU; iterate 4 rfl) | apply EL.nil | ((with_reducible apply EK.ah); apply EK.code) | (with_reducible first | apply EC.seq | apply EC.region | apply EC.ret))
   exact EK.kC rfl rfl rfl
  ·
   rw [decide_eq_false h2]
   repeat
    (first
     | (apply au; iterate 3 rfl) | (apply ak; iterate 3 rfl) | (apply aT; iterate 4 rfl)
     | (apply aC (b := false); (iterate 2 rfl); exact aO; iterate 2 rfl) | (apply aU; iterate 4 rfl) | apply EL.nil | ((with_reducible apply EK.ah); apply EK.code)
     | (with_reducible first | apply EC.seq | apply EC.region | apply EC.ret))
   exact EK.kC rfl rfl rfl
theorem SG (x : List UInt8 × List UInt8) : Fn 161 [dPr x] (· = .val (.v (.bool (lg x)))) := by
 have h1 := U7 x
 unfold dPr
 refine Fn.walk 8 Tryz.func161 rfl Tryz.ntmps161 (by simp) fun X => ?_
 repeat
  (first
   | (apply aA (h1); rfl; exact aj.refl _ _; exact enA; iterate 2 rfl) | (apply ak; iterate 3 rfl) | (apply cZ; iterate 6 rfl)
   | (apply dh; rfl; exact I.a; iterate 4 rfl) | (apply gU; rfl; rfl; rfl; intro _) | apply EL.nil | ((with_reducible apply EK.ah); apply EK.code)
   | (with_reducible first | apply EC.seq | apply EC.region | apply EC.ret))
 exact EK.kC rfl rfl rfl
def FN : List (List UInt8 × List UInt8) → Nat → Int
 | [], _ => -1
 | x :: l, k => if lg x then (k : Int) else FN l (k + 1)
theorem FM : ∀ (l : List (List UInt8 × List UInt8)) (k : Nat), decide (FN l k ≥ 0) = l.any lg
 | [], k => rfl
 | x :: l, k => by
  rw [FN, List.any_cons]
  cases hx : lg x
  · simpa using FM l (k + 1)
  · simp
theorem Qb (l : List (List UInt8 × List UInt8)) : Fn 197 [.sl 2 (l.map dPr), .v (.func (.func 161) #[] #[])] (· = .val (.v (.int .i64 (FN l 0)))) := by
 refine Fn.walk 19 Tryz.func197 rfl Tryz.ntmps197 (by simp) fun X => ?_
 have hl : (l.map dPr).length = l.length := by rw [List.length_map]
 refine EC.lenOf (t := 0) rfl fun hmax => ?_
 rw [hl] at hmax
 unfold maxLen at hmax
 repeat
  (first
   | (apply au; iterate 3 rfl) | (apply ak; iterate 3 rfl) | (apply aJ; iterate 4 rfl) | apply EL.nil | ((with_reducible apply EK.ah); apply EK.code)
   | (with_reducible first | apply EC.seq | apply EC.region | apply EC.block))
 refine EC.loop (ι := {n : Nat // n ≤ l.length ∧ FN l 0 = FN (l.drop n) n})
  (fun n => ⟨[(8, .val (.v (.int .i64 (n.1 : Int)))), (7, .val (.v (.int .i64 ((l.map dPr).length : Int)))), (6, .val (.sl 2 (l.map dPr))), (4, .val (.v (.int .i64 0))), (0, .val (.sl 2 (l.map dPr))), (1, .val (.v (.func (.func 161) #[] #[])))], [], []⟩)
  (fun n => l.length - n.1) ⟨0, by omega, by rw [List.drop_zero]⟩ ?_ ?_
 · exact Le.kp
 rintro ⟨n, hn, hI⟩
 dsimp only
 by_cases hlt : n < l.length
 ·
  have hat : (l.map dPr)[n]? = some (.tup [.bs l[n].1, .bs l[n].2]) := by rw [List.getElem?_map, List.getElem?_eq_getElem hlt]; rfl
  have hc := SG l[n]
  rw [List.drop_eq_getElem_cons hlt, FN] at hI
  unfold dPr at hc
  cases hg : lg l[n] with
  | true =>
   rw [hg] at hc hI
   repeat
    (first
     | (apply GY (os := []) (caps := []) (ds' := [.tup [.bs l[n].1, .bs l[n].2]]) (cds := []) hc.VG; (exact fun base ok L a w _ => rfl); (iterate 3 rfl); exact aj.refl _ _; (focus (intro _ _; simp [go_sem]; done)); (iterate 2 rfl); rintro _ _ ⟨rfl, rfl⟩; simp only [List.nil_append])
     | (apply au; iterate 3 rfl) | (apply ak; iterate 3 rfl) | (apply aK; iterate 5 rfl)
     | (apply aC (b := true); (iterate 2 rfl); exact aO; iterate 2 rfl)
     | (apply bJ; (iterate 4 rfl); (focus (first | exact ⟨by decide, rfl⟩ | (refine ⟨by omega, ?_⟩; rw [Int.toNat_natCast]; assumption))); iterate 2 rfl) | apply EL.nil
     | ((with_reducible apply EK.ah); apply EK.code) | (apply EC.cond_true; rfl)
     | (with_reducible first | apply EC.seq | apply EC.region | apply EC.skip | apply EC.block | apply EC.ret | apply EK.dV | apply EK.aH))
   refine EK.kC rfl rfl ?_
   rw [hI, if_pos rfl]
  | false =>
   rw [hg] at hc hI
   rw [if_neg (by decide)] at hI
   repeat
    (first
     | (apply GY (os := []) (caps := []) (ds' := [.tup [.bs l[n].1, .bs l[n].2]]) (cds := []) hc.VG; (exact fun base ok L a w _ => rfl); (iterate 3 rfl); exact aj.refl _ _; (focus (intro _ _; simp [go_sem]; done)); (iterate 2 rfl); rintro _ _ ⟨rfl, rfl⟩; simp only [List.nil_append])
     | (apply au; iterate 3 rfl) | (apply ak; iterate 3 rfl) | (apply aK; iterate 5 rfl)
     | (apply aC (b := true); (iterate 2 rfl); exact aO; iterate 2 rfl) | (apply jd; (iterate 3 rfl); (focus omega); (focus omega); iterate 2 rfl)
     | (apply bJ; (iterate 4 rfl); (focus (first | exact ⟨by decide, rfl⟩ | (refine ⟨by omega, ?_⟩; rw [Int.toNat_natCast]; assumption))); iterate 2 rfl) | apply EL.nil
     | ((with_reducible apply EK.ah); apply EK.code) | (apply EC.cond_true; rfl) | (apply EC.cond_false; rfl)
     | (with_reducible first | apply EC.seq | apply EC.region | apply EC.skip | apply EC.block | apply EK.aI))
   refine EK.again ⟨n + 1, hlt, hI⟩ (by dsimp only; omega) ?_
   dsimp only
   simp only [Int.natCast_add]
   exact Le.kp
 ·
  have hge : l.drop n = [] := List.drop_eq_nil_of_le (by omega)
  rw [hge, FN] at hI
  repeat
   (first
    | (apply ak; iterate 3 rfl) | (apply aC (b := false); (iterate 2 rfl); exact aO; iterate 2 rfl) | apply EL.nil | ((with_reducible apply EK.ah); apply EK.code)
    | (apply EC.cond_false; rfl) | (with_reducible first | apply EC.seq | apply EC.region | apply EC.exit | apply EC.ret | apply EK.bG | apply EK.aQ))
  refine EK.kC rfl rfl ?_
  rw [hI]
theorem Gq (l : List (List UInt8 × List UInt8)) : Fn 160 [.sl 2 (l.map dPr), .v (.func (.func 161) #[] #[])] (· = .val (.v (.bool (l.any lg)))) := by
 have h1 := Qb l
 have h2 := FM l 0
 rw [← h2]
 refine Fn.walk 9 Tryz.func160 rfl Tryz.ntmps160 (by simp) fun X => ?_
 repeat
  (first
   | (apply aA (h1); rfl; exact aj.refl _ _; exact enA; iterate 2 rfl) | (apply au; iterate 3 rfl) | (apply ak; iterate 3 rfl)
   | (apply aC; iterate 5 rfl) | apply EL.nil | ((with_reducible apply EK.ah); apply EK.code) | (with_reducible first | apply EC.seq | apply EC.region | apply EC.ret))
 exact EK.kC rfl rfl rfl
theorem NJ : ∀ args w, (callFunc 164 args).run Tryz.prog w = .ok (.enter 164 args) w := enters_of Tryz.func164 (by kernel_rfl) rfl
set_option maxRecDepth 100000 in
theorem Qw (u1 v1 u2 v2 : Value) (l m : List UInt8) (w : World) (h1 : IsB w u1 l) (h2 : IsB w u2 m) (o1 : v1.oneCell' = true) (o2 : v2.oneCell' = true) : Calls Tryz.prog 164 #[.agg #[u1, v1], .agg #[u2, v2]] w fun e w' => e = .returned (.int .i64 (xu l m)) ∧ ∃ q os', w' = grow (w.drewN q) os' := by
 have g1 := h1.gr ((aB w (.cells #[u1, v1] 263)).trans (aB _ (.cells #[u2, v2] 263)))
 have g2 := h2.gr ((aB w (.cells #[u1, v1] 263)).trans (aB _ (.cells #[u2, v2] 263)))
 have hc := Lib.hid (zN _ _ _ _ _ g1 g2)
 obtain ⟨A1, c1, rfl, a1, a2, a3⟩ := h1
 obtain ⟨A2, c2, rfl, b1, b2, b3⟩ := h2
 clear a3 b3 g1 g2
 go_enter Tryz.func164, Tryz.ntmps164
 go_wp2_with fail
 refine hc.out.mono ?_
 rintro e w' ⟨rfl, rfl⟩
 go_wp2_with fail
 exact bodyPost_ret (results_tmp rfl _ _ _) rfl ⟨rfl, 0, _, by rw [alloc_eq_grow, alloc_eq_grow, grow_grow]; rfl⟩
theorem Ls (v : Value) (ps : List (List UInt8 × List UInt8)) (hl : ps.length < 4611686018427387904) :
  FnM 163 [.v v, .v (.func (.func 164) #[] #[])] [.row v 263 2 (ps.map dPr)] (fun r os' => r = .tpl [] ∧ ∃ qs : List (List UInt8 × List UInt8), qs.Perm ps ∧ qs.Pairwise (fun x y => x.1 ≤ y.1) ∧ os' = [.row v 263 2 (qs.map dPr)]) :=
 Oy Oz 263 2 (by decide) Tryz.isAgg263 Tryz.sizeOf263 dPr (fun _ => rfl) (fun _ => rfl) (·.1) ([], []) [.slice none 0 0, .slice none 0 0]
  (fun ok w => by
   unfold dPr
   rw [Reads, bK]
   refine ⟨[_], [_], rfl, by rw [Reads]; exact ⟨_, rfl, none, 0, rfl, Nat.le_refl _, by simp [maxLen], fun h => absurd rfl h⟩, ?_⟩
   rw [bK]
   refine ⟨[_], [], rfl, by rw [Reads]; exact ⟨_, rfl, none, 0, rfl, Nat.le_refl _, by simp [maxLen], fun h => absurd rfl h⟩, ?_⟩
   rw [bK]) 164
  (fun ok w hok x y v u hv hu => by
   have key : ∀ (z : List UInt8 × List UInt8) (t : Value), bW ok w (dPr z) t → ∃ a b, t = .agg #[a, b] ∧ IsB w a z.1 ∧ b.oneCell' = true := by
    intro z t ht
    obtain ⟨cs, h', rfl⟩ := (jo rfl).1 ht
    unfold dPr at h'
    rw [Reads, bK] at h'
    obtain ⟨k1, k2, rfl, g1, g2⟩ := h'
    rw [bK] at g2
    obtain ⟨k3, k4, rfl, g3, g4⟩ := g2
    rw [bK] at g4
    subst g4
    have g1' := g1
    rw [Reads] at g1'
    obtain ⟨a, rfl, _⟩ := g1'
    have g3' := g3
    rw [Reads] at g3'
    obtain ⟨b, rfl, _⟩ := g3'
    exact ⟨a, b, rfl, jT hok ((bP rfl).2 g1), Reads.one _ _ g3 b (by simp)⟩
   obtain ⟨a1, b1, rfl, e1, e2⟩ := key x v hv
   obtain ⟨a2, b2, rfl, e3, e4⟩ := key y u hu
   exact Qw a1 b1 a2 b2 x.1 y.1 w e1 e3 e2 e4) NJ v ps hl
abbrev Pr := List UInt8 × List UInt8
def sp (x : Pr) : Pr := (split x.1, x.2)
def srt (ps : List Pr) : List Pr := ps.mergeSort fun a b => decide (a.1 ≤ b.1)
theorem gX (ps : List Pr) : (srt ps).Perm ps := List.mergeSort_perm _ _
theorem yj (ps : List Pr) : (srt ps).Pairwise fun a b => a.1 ≤ b.1 := by
 have h := List.pairwise_mergeSort (le := fun a b : Pr => decide (a.1 ≤ b.1)) (fun a b c h1 h2 => by simp only [decide_eq_true_eq] at h1 h2 ⊢; exact List.le_trans h1 h2) (fun a b => by simp only [Bool.or_eq_true, decide_eq_true_eq]; exact List.le_total a.1 b.1) ps
 exact h.imp fun h => by simpa using h
theorem MN {ps : List Pr} (h : (ps.map (·.1)).Nodup) {a b : Pr} (ha : a ∈ ps) (hb : b ∈ ps) (e : a.1 = b.1) : a = b := by
 obtain ⟨i, hi, rfl⟩ := List.getElem_of_mem ha
 obtain ⟨j, hj, rfl⟩ := List.getElem_of_mem hb
 have := (List.getElem_inj (h₀ := by simpa using hi) (h₁ := by simpa using hj) h).1 (by simpa using e)
 subst this
 rfl
theorem Ul {ps qs : List Pr} (hp : qs.Perm ps) (hs : qs.Pairwise fun a b => a.1 ≤ b.1) (hn : (ps.map (·.1)).Nodup) : qs = srt ps :=
 List.Perm.eq_of_pairwise (fun a b ha hb h1 h2 => MN hn (hp.mem_iff.1 ha) ((gX ps).mem_iff.1 hb) (List.le_antisymm h1 h2)) hs (yj ps) (hp.trans (gX ps).symm)
def vw (l : List Pr) : R :=
 if 100000 < l.length ∨ l.any lg = true then .tpl [.v (.slice none 0 0), .v (.int .i64 3)]
 else if l.any (·.2.isEmpty) = true then .tpl [.v (.slice none 0 0), .v (.int .i64 1)]
 else if ((l.map sp).map (·.1)).Nodup then .tpl [.sl 2 ((srt (l.map sp)).map dPr), .v (.int .i64 0)]
 else .tpl [.v (.slice none 0 0), .v (.int .i64 1)]
theorem zF (l m : List UInt8) : Fn 135 [.bs l, .bs m] (· = .val (.v (.bool (l == m)))) := by
 have hb := (l7 l m).1
 refine Fn.walk 10 Tryz.func135 rfl Tryz.ntmps135 (by simp) fun X => ?_
 repeat
  (first
   | (apply dY; (iterate 2 rfl); exact hb; iterate 2 rfl) | (apply au; iterate 3 rfl) | (apply ak; iterate 3 rfl) | (apply Ua; iterate 3 rfl)
   | apply EL.nil | ((with_reducible apply EK.ah); apply EK.code) | (with_reducible first | apply EC.seq | apply EC.region | apply EC.ret))
 exact EK.kC rfl rfl rfl
theorem iL {l : List Pr} (h : l.any lg = false) {x : Pr} (hx : x ∈ l) : x.1.length ≤ 64 ∧ x.2.length ≤ 1048576 := by
 have := List.any_eq_false.1 h x hx
 unfold lg at this
 simp at this
 omega
theorem NS {qs : List Pr} (hq : qs.Pairwise fun a b => a.1 ≤ b.1) (h : ∀ j (hj : j + 1 < qs.length), qs[j].1 ≠ qs[j + 1].1) : (qs.map (·.1)).Nodup := by
 unfold List.Nodup
 rw [List.pairwise_map, List.pairwise_iff_getElem]
 intro i j hi hj hij e
 have h1 := List.pairwise_iff_getElem.1 hq i (i + 1) hi (by omega) (by omega)
 have h2 : qs[i + 1].1 ≤ qs[j].1 := by
  rcases Nat.lt_or_ge (i + 1) j with h | h
  · exact List.pairwise_iff_getElem.1 hq (i + 1) j (by omega) hj h
  ·
   obtain rfl : j = i + 1 := by omega
   exact List.le_refl _
 exact h i (by omega) (List.le_antisymm h1 (by rw [e]; exact h2))
theorem SC (l : List Pr) : Fn 110 [.sl 2 (l.map dPr)] (· = vw l) := by
 have h1 := Gq l
 unfold vw
 have hl : (l.map dPr).length = l.length := by rw [List.length_map]
 refine Fn.walk 56 Tryz.func110 rfl Tryz.ntmps110 (by simp) fun X => ?_
 by_cases hbig : 100000 < l.length
 ·
  rw [if_pos (.inl hbig)]
  repeat
   (first
    | (apply fF; iterate 2 rfl) | (apply au; iterate 3 rfl) | (apply ak; iterate 3 rfl) | (apply aT; iterate 4 rfl)
    | (apply aC (b := true); (iterate 2 rfl); exact aO; iterate 2 rfl) | (apply aJ; iterate 4 rfl) | apply EL.nil | ((with_reducible apply EK.ah); apply EK.code)
    | (apply EC.cond_true; rfl) | (with_reducible first | apply EC.seq | apply EC.region | apply EC.ret | apply EK.aH))
  exact EK.Hz rfl rfl rfl rfl
 ·
  cases hany : l.any lg with
  | true =>
   rw [hany] at h1
   rw [if_pos (.inr rfl)]
   repeat
    (first
     | (apply aA (h1); rfl; exact aj.refl _ _; exact enA; iterate 2 rfl) | (apply au; iterate 3 rfl) | (apply ak; iterate 3 rfl)
     | (apply aT; iterate 4 rfl) | (apply aC (b := false); (iterate 2 rfl); exact aO; iterate 2 rfl) | (apply aJ; iterate 4 rfl) | apply EL.nil
     | ((with_reducible apply EK.ah); apply EK.code) | (apply EC.cond_true; rfl) | (with_reducible first | apply EC.seq | apply EC.region | apply EC.ret | apply EK.aH))
   exact EK.Hz rfl rfl rfl rfl
  | false =>
   rw [hany] at h1
   rw [if_neg (by simp; omega)]
   repeat
    (first
     | (apply aA (h1); rfl; exact aj.refl _ _; exact enA; iterate 2 rfl) | (apply au; iterate 3 rfl) | (apply ak; iterate 3 rfl)
     | (apply aT; iterate 4 rfl) | (apply aC (b := false); (iterate 2 rfl); exact aO; iterate 2 rfl) | (apply aJ; iterate 4 rfl) | apply EL.nil
     | ((with_reducible apply EK.ah); apply EK.code) | (apply EC.cond_false; rfl) | (with_reducible first | apply EC.seq | apply EC.region | apply EC.skip | apply EC.block))
   refine EC.le (Le.row 263 2) ?_
   refine EC.loop (ι := {p : Value × Nat // p.2 ≤ l.length ∧ (l.take p.2).any (·.2.isEmpty) = false})
    (fun p => ⟨[(17, .val (.v (.int .i64 (p.1.2 : Int)))), (16, .val (.v (.int .i64 ((l.map dPr).length : Int)))), (15, .val (.sl 2 (l.map dPr))), (4, .val (.v p.1.1))],
     [.row p.1.1 263 2 ((l.take p.1.2).map fun x => dPr (sp x))], []⟩)
    (fun p => l.length - p.1.2) ⟨(.slice none 0 0, 0), by omega, by simp⟩ ?_ ?_
   · exact Le.kp
   rintro ⟨⟨rv, n⟩, hn, hI⟩
   dsimp only at hn hI ⊢
   by_cases hlt : n < l.length
   ·
    have hat : (l.map dPr)[n]? = some (.tup [.bs l[n].1, .bs l[n].2]) := by rw [List.getElem?_map, List.getElem?_eq_getElem hlt]; rfl
    have hx := iL hany (List.getElem_mem hlt)
    have hs := qx l[n].1 (by omega)
    by_cases he : l[n].2 = []
    ·
     have he0 : (l[n].2.length : Int) = 0 := by rw [he]; rfl
     have hempty : l.any (·.2.isEmpty) = true := List.any_eq_true.2 ⟨_, List.getElem_mem hlt, by rw [he]; rfl⟩
     repeat
      (first
       | (apply ak; iterate 3 rfl) | (apply cZ; iterate 6 rfl) | (apply aK; iterate 5 rfl) | (apply dh; rfl; exact I.a; iterate 4 rfl)
       | (apply aC (b := true); (iterate 2 rfl); exact aO; iterate 2 rfl) | (apply aU; iterate 4 rfl)
       | (apply bJ; (iterate 4 rfl); (focus (first | exact ⟨by decide, rfl⟩ | (refine ⟨by omega, ?_⟩; rw [Int.toNat_natCast]; assumption))); iterate 2 rfl)
       | (apply aZ; rfl; rfl; rfl; intro _) | (apply aN; rfl; (focus (repeat first | exact .z | apply bC.s | apply aP.s)); iterate 4 rfl) | apply EL.nil
       | ((with_reducible apply EK.ah); apply EK.code) | (apply EC.cond_true; rfl)
       | (with_reducible first | apply EC.seq | apply EC.region | apply EC.skip | apply EC.block | apply EC.ret | apply EK.dV | apply EK.aH))
     refine EK.Hz rfl rfl rfl ?_
     rw [if_pos hempty]
    ·
     have he0 : ¬ (l[n].2.length : Int) = 0 := fun h => he (List.eq_nil_of_length_eq_zero (by omega))
     repeat
      (first
       | (apply cZ; iterate 6 rfl) | (apply aK; iterate 5 rfl) | (apply dh; rfl; exact I.a; iterate 4 rfl)
       | (apply aC (b := true); (iterate 2 rfl); exact aO; iterate 2 rfl) | (apply aC (b := false); (iterate 2 rfl); exact aO; iterate 2 rfl)
       | (apply aU; iterate 4 rfl)
       | (apply bJ; (iterate 4 rfl); (focus (first | exact ⟨by decide, rfl⟩ | (refine ⟨by omega, ?_⟩; rw [Int.toNat_natCast]; assumption))); iterate 2 rfl)
       | (apply aZ; rfl; rfl; rfl; intro _) | (apply aN; rfl; (focus (repeat first | exact .z | apply bC.s | apply aP.s)); iterate 4 rfl) | apply EL.nil
       | ((with_reducible apply EK.ah); apply EK.code) | (apply EC.cond_true; rfl) | (apply EC.cond_false; rfl)
       | (with_reducible first | apply EC.seq | apply EC.region | apply EC.skip | apply EC.block))
     have hm : ((l.take n).map fun x => dPr (sp x)).length = n := by rw [List.length_map, List.length_take]; omega
     have hnx : (l.take (n + 1)).map (fun x => dPr (sp x)) = (l.take n).map (fun x => dPr (sp x)) ++ [.tup [.bs (split l[n].1), .bs l[n].2]] := by rw [List.take_succ_eq_append_getElem hlt, List.map_append]; rfl
     have hIx : (l.take (n + 1)).any (·.2.isEmpty) = false := by
      rw [List.take_succ_eq_append_getElem hlt, List.any_append, hI, Bool.false_or, List.any_cons, List.any_nil, Bool.or_false]
      cases hv : l[n].2 with
      | nil => exact absurd hv he
      | cons _ _ => rfl
     refine EC.le (Le.pick [1, 0] [_, _] rfl (by decide) rfl) ?_
     refine EC.jO 9 [0, 1, 2, 4, 5] [3, 6, 7, 8] [_] _ (by kernel_rfl) (by kernel_rfl) rfl ?_
     simp only [bQ, List.filterMap_cons, List.filterMap_nil, List.getElem?_cons_zero, List.getElem?_cons_succ]
     repeat
      (first
       | (apply aY; iterate 3 rfl) | (apply dB; iterate 6 rfl) | (apply dH; rfl; exact I.a; iterate 4 rfl))
     refine EM.nil ?_
     repeat (first | rw [List.cons_append] | rw [List.nil_append])
     refine CH.cut 3 ?_
     simp only [List.take_succ_cons, List.take_zero, List.drop_succ_cons, List.drop_zero]
     repeat
      (first
       | (apply dW (hs); rfl; exact aj.refl _ _; exact enA; iterate 2 rfl) | (apply iZ; iterate 7 rfl) | (apply kY; iterate 9 rfl))
     refine EM.nil ?_
     repeat (first | rw [List.cons_append] | rw [List.nil_append])
     refine CH.mut (os := [_]) (rest := []) rfl rfl (iM rfl rfl rfl rfl rfl (by rw [hm]; constructor <;> (simp; omega))) ?_
     rintro _ _ ⟨v', rfl, rfl⟩
     try simp only [St.put]
     repeat (first | rw [List.cons_append] | rw [List.nil_append])
     refine CH.nil ?_
     try simp only [List.drop_succ_cons, List.drop_zero]
     repeat
      (first
       | (apply au; iterate 3 rfl) | (apply ak; iterate 3 rfl) | (apply jd; (iterate 3 rfl); (focus omega); (focus omega); iterate 2 rfl) | apply EL.nil
       | ((with_reducible apply EK.ah); apply EK.code) | (with_reducible first | apply EC.region | apply EK.aI))
     refine EK.again ⟨(v', n + 1), hlt, hIx⟩ (by dsimp only; omega) ?_
     dsimp only
     rw [hnx]
     simp only [Int.natCast_add]
     exact Le.kp
   ·
    obtain rfl : n = l.length := by omega
    have hne : l.any (·.2.isEmpty) = false := by rwa [List.take_length] at hI
    have hrow : (l.take l.length).map (fun x => dPr (sp x)) = (l.map sp).map dPr := by rw [List.take_length, List.map_map]; rfl
    rw [hrow]
    have hso := Ls rv (l.map sp) (by rw [List.length_map]; omega)
    simp only [hne, Bool.false_eq_true, if_false]
    repeat
     (first
      | (apply D6 (os := [.row rv 263 2 ((l.map sp).map dPr)]) hso; (iterate 2 rfl); exact aj.refl _ _; (focus (intro _ _; simp [go_sem]; done)); (iterate 2 rfl); rintro _ _ ⟨rfl, qs, hp, hq, rfl⟩; refine EL.le (Le.freeze (pre := []) rfl) ?_; refine EL.le (Le.refine (t := 4) rfl (Rf.fact List.mem_cons_self rfl)) ?_)
      | (apply au; iterate 3 rfl) | (apply ak; iterate 3 rfl) | (apply aC (b := false); (iterate 2 rfl); exact aO; iterate 2 rfl) | apply EL.nil
      | ((with_reducible apply EK.ah); apply EK.code) | (apply EC.cond_false; rfl)
      | (with_reducible first | apply EC.seq | apply EC.region | apply EC.block | apply EC.exit | apply EK.bG | apply EK.aQ))
    have hql : qs.length = l.length := by rw [hp.length_eq, List.length_map]
    have hqd : (qs.map dPr).length = qs.length := by rw [List.length_map]
    refine EC.loop (ι := {n : Nat // n ≤ qs.length ∧ ∀ j (hj : j + 1 < qs.length), j < n → qs[j].1 ≠ qs[j + 1].1})
     (fun n => ⟨[(7, .val (.v (.int .i64 ((n.1 + 1 : Nat) : Int)))), (4, .val (.sl 2 (qs.map dPr)))], [], []⟩)
     (fun n => qs.length - n.1) ⟨0, by omega, fun j _ h => absurd h (Nat.not_lt_zero _)⟩ ?_ ?_
    · exact Le.kp
    rintro ⟨n, hn, hI⟩
    dsimp only
    by_cases hlt : n + 1 < qs.length
    ·
     have hat1 : (qs.map dPr)[n]? = some (.tup [.bs qs[n].1, .bs qs[n].2]) := by rw [List.getElem?_map, List.getElem?_eq_getElem (by omega)]; rfl
     have hat2 : (qs.map dPr)[n + 1]? = some (.tup [.bs qs[n + 1].1, .bs qs[n + 1].2]) := by rw [List.getElem?_map, List.getElem?_eq_getElem hlt]; rfl
     have hE := zF qs[n].1 qs[n + 1].1
     by_cases heq : qs[n].1 = qs[n + 1].1
     ·
      rw [show (qs[n].1 == qs[n + 1].1) = true by simpa using heq] at hE
      repeat
       (first
        | (apply au; iterate 3 rfl) | (apply aC (b := true); (iterate 2 rfl); exact aO; iterate 2 rfl) | (apply aJ; iterate 4 rfl) | apply EL.nil
        | ((with_reducible apply EK.ah); apply EK.code) | (apply EC.cond_true; rfl) | (with_reducible first | apply EC.seq | apply EC.region | apply EC.skip | apply EC.block))
      refine EC.draw 12 (by kernel_rfl) ?_
      simp only [List.take_succ_cons, List.take_zero, List.drop_succ_cons, List.drop_zero]
      repeat
       (first
        | (apply dW (hE); rfl; exact aj.refl _ _; exact enA; iterate 2 rfl)
        | (apply dI; (iterate 4 rfl); exact ⟨by omega, by rw [show (((n + 1 : Nat) : Int) - 1).toNat = n by omega]; exact hat1⟩; iterate 2 rfl) | (apply aY; iterate 3 rfl)
        | (apply dn; iterate 7 rfl) | (apply bM; iterate 5 rfl) | (apply vX; (iterate 3 rfl); (focus omega); (focus omega); iterate 2 rfl)
        | (apply dI; (iterate 4 rfl); (focus (first | exact ⟨by decide, rfl⟩ | (refine ⟨by omega, ?_⟩; rw [Int.toNat_natCast]; assumption))); iterate 2 rfl)
        | ((with_reducible apply EH.nil); rfl))
      repeat
       (first
        | (apply ak; iterate 3 rfl) | apply EL.nil | ((with_reducible apply EK.ah); apply EK.code) | (apply EC.cond_true; rfl)
        | (with_reducible first | apply EC.seq | apply EC.region | apply EC.ret | apply EK.dV | apply EK.aH))
      refine EK.Hz rfl rfl rfl ?_
      rw [if_neg]
      intro hnd
      have h3 := (hp.map (·.1)).nodup_iff.2 hnd
      have h4 := (List.getElem_inj (h₀ := by rw [List.length_map]; omega) (h₁ := by rw [List.length_map]; exact hlt) h3 (i := n) (j := n + 1)).1 (by simpa using heq)
      omega
     ·
      rw [show (qs[n].1 == qs[n + 1].1) = false by simpa using heq] at hE
      repeat
       (first
        | (apply au; iterate 3 rfl) | (apply aC (b := true); (iterate 2 rfl); exact aO; iterate 2 rfl) | (apply aJ; iterate 4 rfl) | apply EL.nil
        | ((with_reducible apply EK.ah); apply EK.code) | (apply EC.cond_true; rfl) | (with_reducible first | apply EC.seq | apply EC.region | apply EC.skip | apply EC.block))
      refine EC.draw 12 (by kernel_rfl) ?_
      simp only [List.take_succ_cons, List.take_zero, List.drop_succ_cons, List.drop_zero]
      repeat
       (first
        | (apply dW (hE); rfl; exact aj.refl _ _; exact enA; iterate 2 rfl)
        | (apply dI; (iterate 4 rfl); exact ⟨by omega, by rw [show (((n + 1 : Nat) : Int) - 1).toNat = n by omega]; exact hat1⟩; iterate 2 rfl) | (apply aY; iterate 3 rfl)
        | (apply dn; iterate 7 rfl) | (apply bM; iterate 5 rfl) | (apply vX; (iterate 3 rfl); (focus omega); (focus omega); iterate 2 rfl)
        | (apply dI; (iterate 4 rfl); (focus (first | exact ⟨by decide, rfl⟩ | (refine ⟨by omega, ?_⟩; rw [Int.toNat_natCast]; assumption))); iterate 2 rfl)
        | ((with_reducible apply EH.nil); rfl))
      repeat
       (first
        | (apply au; iterate 3 rfl) | (apply ak; iterate 3 rfl) | (apply jd; (iterate 3 rfl); (focus omega); (focus omega); iterate 2 rfl) | apply EL.nil
        | ((with_reducible apply EK.ah); apply EK.code) | (apply EC.cond_false; rfl) | (with_reducible first | apply EC.region | apply EC.skip | apply EK.aI))
      refine EK.again ⟨n + 1, by omega, fun j hj hjn => ?_⟩ (by dsimp only; omega) ?_
      ·
       rcases Nat.lt_or_ge j n with h | h
       · exact hI j hj h
       ·
        obtain rfl : j = n := by omega
        exact heq
      dsimp only
      simp only [Int.natCast_add]
      exact Le.kp
    ·
     have hnd := NS hq fun j hj => hI j hj (by omega)
     have hnd2 : ((l.map sp).map (·.1)).Nodup := (hp.map (·.1)).nodup_iff.1 hnd
     have hqs := Ul hp hq hnd2
     repeat
      (first
       | (apply au; iterate 3 rfl) | (apply ak; iterate 3 rfl) | (apply aC (b := false); (iterate 2 rfl); exact aO; iterate 2 rfl)
       | (apply aJ; iterate 4 rfl) | apply EL.nil | ((with_reducible apply EK.ah); apply EK.code) | (apply EC.cond_false; rfl)
       | (with_reducible first | apply EC.seq | apply EC.region | apply EC.exit | apply EC.ret | apply EK.bG | apply EK.aQ))
     refine EK.Hz rfl rfl rfl ?_
     rw [if_pos hnd2, hqs]
end E
end Go.Proofs.YtiledgojbpmoiaaGreat
namespace Go.Proofs.YtiledgojbpmoiaaGreat
set_option linter.unusedVariables false
open Go.RowKit Mono Rlp
namespace E
theorem uw : ∀ (at_ : Nat) (a b : List UInt8), a < b → a.take at_ = b.take at_ → a.drop at_ < b.drop at_
 | 0, a, b, h, _ => h
 | n + 1, [], [], h, _ => absurd h (List.lt_irrefl _)
 | n + 1, [], _ :: _, _, e => by simp at e
 | n + 1, _ :: _, [], h, _ => absurd h (List.not_lt_nil _)
 | n + 1, x :: a, y :: b, h, e => by
  simp only [List.take_succ_cons, List.cons.injEq] at e
  obtain ⟨rfl, e⟩ := e
  rcases List.cons_lt_cons_iff.1 h with h | ⟨_, h⟩
  · exact absurd h (by simp)
  · exact uw n a b h e
theorem sandwich : ∀ (n : Nat) (a b c : List UInt8), a ≤ b → b ≤ c → a.take n = c.take n → n ≤ a.length → b.take n = a.take n ∧ n ≤ b.length
 | 0, a, b, c, _, _, _, _ => ⟨rfl, Nat.zero_le _⟩
 | n + 1, [], b, c, _, _, _, h => by simp at h
 | n + 1, x :: a, [], c, h, _, _, _ => by
  rw [← List.not_lt] at h
  exact absurd (List.nil_lt_cons x a) h
 | n + 1, x :: a, y :: b, [], _, _, e, _ => by simp at e
 | n + 1, x :: a, y :: b, z :: c, h1, h2, e, h => by
  simp only [List.take_succ_cons, List.cons.injEq] at e
  obtain ⟨rfl, e⟩ := e
  rw [List.cons_le_cons_iff] at h1 h2
  have hxy : x = y := by
   rcases h1 with h1 | ⟨h1, _⟩
   ·
    rcases h2 with h2 | ⟨h2, _⟩
    · exact absurd (UInt8.lt_trans h1 h2) (by simp)
    · exact h2.symm
   · exact h1
  subst hxy
  have h1' : a ≤ b := by
   rcases h1 with h1 | ⟨_, h1⟩
   · exact absurd h1 (by simp)
   · exact h1
  have h2' : b ≤ c := by
   rcases h2 with h2 | ⟨_, h2⟩
   · exact absurd h2 (by simp)
   · exact h2
  obtain ⟨g1, g2⟩ := sandwich n a b c h1' h2' e (by simpa using h)
  exact ⟨by rw [List.take_succ_cons, List.take_succ_cons, g1], by simpa using g2⟩
theorem fA : ∀ (a b : List UInt8), a.take (common a b) = b.take (common a b) ∧ common a b ≤ a.length ∧ common a b ≤ b.length
 | [], b => by simp [common]
 | _ :: _, [] => by simp [common]
 | x :: a, y :: b => by
  unfold common
  split
  ·
   rename_i h
   subst h
   obtain ⟨g1, g2, g3⟩ := fA a b
   refine ⟨by rw [List.take_succ_cons, List.take_succ_cons, g1], by simpa using g2, by simpa using g3⟩
  · simp
structure jX (at_ : Nat) (l : List Pr) : Prop where
 ord : l.Pairwise fun a b => a.1 < b.1
 len : ∀ x ∈ l, at_ ≤ x.1.length
 pre : ∀ x ∈ l, ∀ y ∈ l, x.1.take at_ = y.1.take at_
 nib : ∀ x ∈ l, ∀ b ∈ x.1, b.toNat < 16
theorem jX.sub {at_ : Nat} {l m : List Pr} (h : jX at_ l) (hs : m.Sublist l) : jX at_ m := ⟨h.ord.sublist hs, fun x hx => h.len x (hs.subset hx), fun x hx y hy => h.pre x (hs.subset hx) y (hs.subset hy), fun x hx => h.nib x (hs.subset hx)⟩
theorem jX.longer {at_ : Nat} {x : Pr} {r : List Pr} (h : jX at_ (x :: r)) {y : Pr} (hy : y ∈ r) : at_ < y.1.length := by
 have h1 := h.len y (List.mem_cons_of_mem _ hy)
 rcases Nat.lt_or_ge at_ y.1.length with h2 | h2
 · exact h2
 ·
  exfalso
  have h3 := uw at_ x.1 y.1 ((List.pairwise_cons.1 h.ord).1 y hy) (h.pre _ List.mem_cons_self _ (List.mem_cons_of_mem _ hy))
  rw [List.drop_eq_nil_of_le h2] at h3
  exact List.not_lt_nil _ h3
def dQ (at_ : Nat) (x : Pr) : UInt8 := x.1.getD at_ 0
theorem kV {at_ : Nat} {x : Pr} (h : at_ < x.1.length) : x.1[at_]? = some (dQ at_ x) := by
 unfold dQ
 rw [List.getElem?_eq_getElem h, List.getD_eq_getElem?_getD, List.getElem?_eq_getElem h]
 rfl
theorem jX.mono {at_ : Nat} {l : List Pr} (h : jX at_ l) (hl : ∀ x ∈ l, at_ < x.1.length) {i j : Nat} (hi : i < l.length) (hj : j < l.length) (hij : i ≤ j) : (dQ at_ l[i]).toNat ≤ (dQ at_ l[j]).toNat := by
 rcases Nat.lt_or_ge i j with h1 | h1
 ·
  have h2 := List.pairwise_iff_getElem.1 h.ord i j hi hj h1
  have h3 := uw at_ _ _ h2 (h.pre _ (List.getElem_mem hi) _ (List.getElem_mem hj))
  have e1 := hl _ (List.getElem_mem hi)
  have e2 := hl _ (List.getElem_mem hj)
  rw [List.drop_eq_getElem_cons e1, List.drop_eq_getElem_cons e2] at h3
  have e3 : dQ at_ l[i] = l[i].1[at_] := by unfold dQ; rw [List.getD_eq_getElem?_getD, List.getElem?_eq_getElem e1]; rfl
  have e4 : dQ at_ l[j] = l[j].1[at_] := by unfold dQ; rw [List.getD_eq_getElem?_getD, List.getElem?_eq_getElem e2]; rfl
  rw [e3, e4]
  rcases List.cons_lt_cons_iff.1 h3 with h4 | ⟨h4, _⟩
  · exact Nat.le_of_lt (UInt8.lt_iff_toNat_lt.1 h4)
  ·
   rw [h4]
   exact Nat.le_refl _
 ·
  obtain rfl : i = j := by omega
  exact Nat.le_refl _
def bdF : Nat → List Pr → Nat → Tn
 | 0, _, _ => .nil
 | f + 1, l, at_ => match l with
  | [] => .nil
  | [x] => .leaf (x.1.drop at_) x.2
  | x :: y :: r =>
   if common (x.1.drop at_) (((y :: r).getLast (by simp)).1.drop at_) > 0 then
    .ext ((x.1.drop at_).take (common (x.1.drop at_) (((y :: r).getLast (by simp)).1.drop at_))) (bdF f (x :: y :: r) (at_ + common (x.1.drop at_) (((y :: r).getLast (by simp)).1.drop at_)))
   else if (x.1.drop at_).length = 0 then .br (fun d => bdF f ((y :: r).filter fun z => (dQ at_ z).toNat == d) (at_ + 1)) x.2
   else .br (fun d => bdF f ((x :: y :: r).filter fun z => (dQ at_ z).toNat == d) (at_ + 1)) []
theorem jX.qm {at_ : Nat} {l : List Pr} (h : jX at_ l) {i j : Nat} (hi : i < l.length) (hj : j < l.length) (hij : i ≤ j) : l[i].1.drop at_ ≤ l[j].1.drop at_ := by
 rcases Nat.lt_or_ge i j with h1 | h1
 · exact List.le_of_lt (uw at_ _ _ (List.pairwise_iff_getElem.1 h.ord i j hi hj h1) (h.pre _ (List.getElem_mem hi) _ (List.getElem_mem hj)))
 ·
  obtain rfl : i = j := by omega
  exact List.le_refl _
theorem jX.more {at_ n : Nat} {l : List Pr} (h : jX at_ l) (h0 : 0 < l.length) (hn : n = common (l[0].1.drop at_) (l[l.length - 1].1.drop at_)) : jX (at_ + n) l := by
 obtain ⟨c1, c2, c3⟩ := fA (l[0].1.drop at_) (l[l.length - 1].1.drop at_)
 rw [← hn] at c1 c2 c3
 have key : ∀ x ∈ l, (x.1.drop at_).take n = (l[0].1.drop at_).take n ∧ n ≤ (x.1.drop at_).length := fun x hx => by
  obtain ⟨i, hi, rfl⟩ := List.getElem_of_mem hx
  exact sandwich n _ _ _ (h.qm h0 hi (Nat.zero_le _)) (h.qm hi (by omega) (by omega)) c1 c2
 refine ⟨h.ord, fun x hx => ?_, fun x hx y hy => ?_, h.nib⟩
 ·
  have h1 := (key x hx).2
  have h2 := h.len x hx
  rw [List.length_drop] at h1
  omega
 · rw [List.take_add, List.take_add, h.pre x hx y hy, (key x hx).1, (key y hy).1]
theorem zQ (f at_ : Nat) : bdF f [] at_ = .nil := by cases f <;> rfl
theorem DY (f at_ : Nat) (x : Pr) : bdF (f + 1) [x] at_ = .leaf (x.1.drop at_) x.2 := rfl
theorem Jj (f at_ : Nat) (l : List Pr) (h : 1 < l.length) (hn : common (l[0].1.drop at_) (l[l.length - 1].1.drop at_) > 0) : bdF (f + 1) l at_ = .ext ((l[0].1.drop at_).take (common (l[0].1.drop at_) (l[l.length - 1].1.drop at_))) (bdF f l (at_ + common (l[0].1.drop at_) (l[l.length - 1].1.drop at_))) := by
 match l, h with
 | x :: y :: r, _ =>
  have e : (y :: r).getLast (by simp) = (x :: y :: r)[(x :: y :: r).length - 1] := by rw [List.getLast_eq_getElem]; simp
  rw [bdF, e]
  exact if_pos hn
theorem Jl (f at_ : Nat) (l : List Pr) (h : 1 < l.length) (hn : ¬ common (l[0].1.drop at_) (l[l.length - 1].1.drop at_) > 0) (h0 : (l[0].1.drop at_).length = 0) : bdF (f + 1) l at_ = .br (fun d => bdF f (l.tail.filter fun z => (dQ at_ z).toNat == d) (at_ + 1)) l[0].2 := by
 match l, h with
 | x :: y :: r, _ =>
  have e : (y :: r).getLast (by simp) = (x :: y :: r)[(x :: y :: r).length - 1] := by rw [List.getLast_eq_getElem]; simp
  rw [bdF, e]
  exact (if_neg hn).trans (if_pos h0)
theorem Jk (f at_ : Nat) (l : List Pr) (h : 1 < l.length) (hn : ¬ common (l[0].1.drop at_) (l[l.length - 1].1.drop at_) > 0) (h0 : ¬ (l[0].1.drop at_).length = 0) : bdF (f + 1) l at_ = .br (fun d => bdF f (l.filter fun z => (dQ at_ z).toNat == d) (at_ + 1)) [] := by
 match l, h with
 | x :: y :: r, _ =>
  have e : (y :: r).getLast (by simp) = (x :: y :: r)[(x :: y :: r).length - 1] := by rw [List.getLast_eq_getElem]; simp
  rw [bdF, e]
  exact (if_neg hn).trans (if_neg h0)
def jA (f at_ : Nat) (L : List Pr) (m : Nat) : List D := (List.range 16).map fun d => dT (bdF f ((L.take m).filter fun z => (dQ at_ z).toNat == d) (at_ + 1))
theorem wJ (f at_ : Nat) (L : List Pr) : jA f at_ L 0 = List.replicate 16 (.v .nilIface) := by
 unfold jA
 simp only [List.take_zero, List.filter_nil, zQ]
 rfl
theorem y8 (f at_ : Nat) (L : List Pr) : jA f at_ L L.length = (List.range 16).map fun d => dT (bdF f (L.filter fun z => (dQ at_ z).toNat == d) (at_ + 1)) := by
 unfold jA
 rw [List.take_length]
theorem oU (f at_ : Nat) (L : List Pr) (m n k : Nat) (hk : k < 16) (hrun : ∀ z ∈ (L.drop m).take n, (dQ at_ z).toNat = k) (hold : ∀ z ∈ L.take m, (dQ at_ z).toNat ≠ k) : jA f at_ L (m + n) = (jA f at_ L m).set k (dT (bdF f ((L.drop m).take n) (at_ + 1))) := by
 unfold jA
 refine List.ext_getElem? fun d => ?_
 rw [List.take_add, List.getElem?_set]
 by_cases hd : k = d
 ·
  subst hd
  rw [if_pos rfl, if_pos (by simpa using hk), List.getElem?_map, List.getElem?_range hk, Option.map_some, List.filter_append]
  have e1 : (L.take m).filter (fun z => (dQ at_ z).toNat == k) = [] := List.filter_eq_nil_iff.2 fun z hz => by simpa using hold z hz
  have e2 : ((L.drop m).take n).filter (fun z => (dQ at_ z).toNat == k) = (L.drop m).take n := List.filter_eq_self.2 fun z hz => by simpa using hrun z hz
  rw [e1, e2, List.nil_append]
 ·
  rw [if_neg hd, List.getElem?_map, List.getElem?_map]
  by_cases h16 : d < 16
  ·
   rw [List.getElem?_range h16, Option.map_some, Option.map_some, List.filter_append]
   have e2 : ((L.drop m).take n).filter (fun z => (dQ at_ z).toNat == d) = [] := List.filter_eq_nil_iff.2 fun z hz => by
    have := hrun z hz
    simp
    omega
   rw [e2, List.append_nil]
  ·
   rw [List.getElem?_eq_none (by simp; omega)]
   rfl
end E
end Go.Proofs.YtiledgojbpmoiaaGreat
