/-
 Merged: lemmas of this claim.
 Conditions: none.
-/
import Derived.Test.YtkhjanjlcdhdcaaZK12
import Derived.RangeFuncNested
import Derived.RangeFuncLeaves
import Derived.RangeFuncBound
import Derived.Maps.RangeRun
import Derived.Maps.AppendAt
import Derived.Sort.MapsRangeIn
import Derived.Shelf.Abstract
import Derived.OwnWalkIn
import Derived.TacticsInMore
import Derived.RegionIn
import Derived.LoopNIn
import Derived.LoopIn
import Derived.WalkKit
import Derived.Test.YtkhjanjlcdhdcaaZK2
import Derived.Lib.Bytealg
import Derived.Lib.BytesEntry
import Derived.Sort.Walk0
import Derived.Shelf.RegionOpenPlain
import Derived.Shelf.SlSortCmp.WholeK
import Derived.Test.YtkhjanjlcdhdcaaZK0
namespace Go.Proofs.Ytkhjanjlcdhdcaa
set_option linter.unusedVariables false
open Go.RowKit Mono Rlp
open Go.ChangeMaps (setBlock)
namespace E
abbrev Ky (n : Nat) := {l : List UInt8 // l.length = n}
def kv {n : Nat} (k : Ky n) : Value := bI k.1
theorem yZ {es : List MapEntry} (hn : (es.map (·.born)).Nodup) {e : MapEntry} (he : e ∈ es) : es.Perm (e :: es.filter fun x => x.born != e.born) := by
 induction es with
 | nil => cases he
 | cons y es ih =>
  simp only [EX, Gl] at hn
  rcases Es.1 he with rfl | he
  ·
   have : es.filter (fun x => x.born != e.born) = es := List.filter_eq_self.2 fun x hx => by
    have : x.born ≠ e.born := fun h => hn.1 (h ▸ EW.2 ⟨x, hx, rfl⟩)
    simpa using this
   simp [this]
  ·
   have hne : y.born ≠ e.born := fun h => hn.1 (h ▸ EW.2 ⟨e, he, rfl⟩)
   have : (y :: es).filter (fun x => x.born != e.born) = y :: es.filter (fun x => x.born != e.born) := by simp [hne]
   rw [this]
   exact ((ih hn.2 he).cons y).trans (List.Perm.swap e y _)
theorem tH (es : Array MapEntry) (seen : Array Nat) (b : Nat) : (leftOf es (seen.push b)).toList = (leftOf es seen).toList.filter fun x => x.born != b := by
 unfold leftOf
 rw [Array.toList_filter, Array.toList_filter, List.filter_filter]
 refine List.filter_congr fun x _ => ?_
 rw [contains_push]
 cases seen.contains x.born <;> cases h : x.born == b <;> simp [bne, h]
def Rng (w : World) (b r : Nat) (es : Array MapEntry) (clock : Nat) (ss : List Value) (cnt : Nat) : Prop :=
 ∃ since seen c0, w.heap[b]? = some (.map es clock) ∧ w.heap[r]? = some (.mapIter (some b) since seen c0) ∧ (∀ x ∈ es.toList, x.born < since) ∧ since ≤ c0 ∧ since ≤ clock ∧ (leftOf es seen).size = cnt ∧ (ss ++ (leftOf es seen).toList.map (·.key)).Perm (es.toList.map (·.key))
variable {w : World} {b r cnt clock : Nat} {es : Array MapEntry} {ss : List Value}
theorem Rng.left_eq (h : Rng w b r es clock ss cnt) : w.rangeLeft b r = cnt := by
 obtain ⟨since, seen, c0, hb, hr, _, _, _, hc, _⟩ := h
 simp only [World.rangeLeft, hb, hr]
 exact hc
theorem Rng.le (h : Rng w b r es clock ss cnt) : ss.length + cnt = es.size := by
 obtain ⟨since, seen, c0, _, _, _, _, _, hc, hp⟩ := h
 have := hp.length_eq
 simp at this
 omega
theorem Rng.iter (h : Rng w b r es clock ss cnt) : ∃ o : Go.Obj, w.heap[r]? = some o ∧ o.isWalk = true := by
 obtain ⟨since, seen, c0, _, hr, _⟩ := h
 exact ⟨_, hr, rfl⟩
theorem Rng.lt (h : Rng w b r es clock ss cnt) : b < w.heap.size ∧ r < w.heap.size := by
 obtain ⟨since, seen, c0, hb, hr, _⟩ := h
 exact ⟨(EJ.1 hb).1, (EJ.1 hr).1⟩
theorem Rng.kept {w' : World} (h : Rng w b r es clock ss cnt) (hb : w'.heap[b]? = w.heap[b]?) (hr : w'.heap[r]? = w.heap[r]?) : Rng w' b r es clock ss cnt := by
 obtain ⟨since, seen, c0, h1, h2, rest⟩ := h
 exact ⟨since, seen, c0, hb.trans h1, hr.trans h2, rest⟩
theorem Rng.walks {w' : World} (h : Rng w b r es clock ss cnt) (hk : KeepsWalks w w') : Rng w' b r es clock ss cnt := by
 obtain ⟨since, seen, c0, h1, h2, rest⟩ := h
 exact ⟨since, seen, c0, hk.same _ _ h1 rfl, hk.same _ _ h2 rfl, rest⟩
theorem Rng.start (hb : w.heap[b]? = some (.map es clock)) (hl : ∀ x ∈ es.toList, x.born < clock) : Rng (w.alloc (.mapIter (some b) clock #[] clock)) b w.heap.size es clock [] es.size := by
 have hlt := (EJ.1 hb).1
 refine ⟨clock, #[], clock, ((FK w _).2 b hlt).trans hb, (FK w _).1, hl, ED _, ED _, ?_, ?_⟩
 · simp [leftOf]
 ·
  simp [leftOf]
  rw [List.filter_eq_self.2 fun _ _ => rfl]
theorem Rng.next (h : Rng w b r es clock ss cnt) (hn : (es.toList.map (·.born)).Nodup) (ty : TypeId) :
  (cnt = 0 ∧ ss.Perm (es.toList.map (·.key)) ∧ (Instr.next (.pointer (some ⟨r, 0, none⟩)) false ty).run Try.prog w = .ok (.tuple #[.bool false]) w) ∨
  ∃ e ∈ es.toList, ∃ w' cnt', (Instr.next (.pointer (some ⟨r, 0, none⟩)) false ty).run Try.prog w = .ok (.tuple #[.bool true, e.key, e.val]) w' ∧ Rng w' b r es clock (ss ++ [e.key]) cnt' ∧ cnt' < cnt ∧ w.grownBy w' (some r) ∧ w'.heap.size = w.heap.size ∧ (Instr.entry (.pointer (some ⟨r, 0, none⟩))).run Try.prog w' = .ok (.tuple #[e.key, e.val]) w' := by
 obtain ⟨since, seen, c0, hb, hr, hold, hsc, hsk, rfl, hp⟩ := h
 have hne : r ≠ b := fun e => by rw [e, hb] at hr; cases hr
 rcases run_next_at (P := Try.prog) w ty r b since c0 seen es clock hr hb hold hsc with ⟨h0, hrun⟩ | ⟨e, he, w1, hal, hrun⟩
 ·
  refine .inl ⟨h0, ?_, hrun⟩
  have : leftOf es seen = #[] := Array.eq_empty_of_size_eq_zero h0
  rw [this] at hp
  simpa using hp
 ·
  obtain ⟨hem, hes⟩ := mem_left he
  have hr1 : w1.heap[r]? = some (.mapIter (some b) since seen c0) := by rcases hal with rfl | rfl <;> exact hr
  have hb1 : w1.heap[b]? = some (.map es clock) := by rcases hal with rfl | rfl <;> exact hb
  have hset := MapKept.heap_set (o' := .mapIter (some b) since (seen.push e.born) clock) hr1
  have hb' : (setBlock w1 r (.mapIter (some b) since (seen.push e.born) clock)).heap[b]? = some (.map es clock) := (hset.2 b (fun e1 => hne e1.symm)).trans hb1
  refine .inr ⟨e, hem, _, _, hrun, ⟨since, seen.push e.born, clock, hb', hset.1, hold, hsk, hsk, rfl, ?_⟩, left_shrinks es seen e he, ?_, ?_, run_entry_at _ r b since seen es clock e hset.1 hb' hem hn⟩
  ·
   have hnl : ((leftOf es seen).toList.map (·.born)).Nodup := by
    unfold leftOf
    rw [Array.toList_filter]
    exact hn.sublist (List.filter_sublist.map _)
   have h1 := (yZ hnl he).map (·.key)
   rw [← tH] at h1
   refine List.Perm.trans ?_ hp
   rw [Ey]
   exact (GK ss h1).symm
  · rcases hal with rfl | rfl <;> exact ⟨rfl, rfl, rfl, by simp [setBlock], fun i _ hi => hset.2 i (fun e1 => hi (by rw [e1]))⟩
  · rcases hal with rfl | rfl <;> simp [setBlock]
section
variable {n : Nat} {ops : Array Oper} {rest : List Oper} {o : Oper} {a : Act} {Q : Exit → Act → World → Prop} {F : Fence}
theorem qY (hg : o.guard = none) (ha : ∀ f, o.about Try.prog w a.eval = some f → F.fn f) (hd : ∀ c, o.op ≠ .defer c) {v : Value} {w' : World} (hr : (execOp a.eval o).run Try.prog w = .ok (.value v) w') (k : wpListIn F n Try.prog ops Q rest (a.put o.dst v) w') : wpListIn F n Try.prog ops Q (o :: rest) a w := by
 refine wpListIn_plain hg fun K hK => ⟨ha, ?_⟩
 rw [Oper.semAt_plain F _ _ hd, hr]
 exact hK _ _ k
theorem tN (hg : o.guard = none) (m : Operand) (t k e : TypeId) (hop : o.op = Op.range t m) (ht : Try.prog.underlying t = some (.map k e)) (hm : a.eval m = .map (some b)) (hb : w.heap[b]? = some (.map es clock))
  (K : wpListIn F n Try.prog ops Q rest (a.put o.dst (.pointer (some ⟨w.heap.size, 0, none⟩))) (w.alloc (.mapIter (some b) clock #[] clock))) : wpListIn F n Try.prog ops Q (o :: rest) a w := by
 refine qY hg (by simp [Oper.about, hop]) (by rw [hop]; intro c h; cases h) ?_ K
 simp [execOp, hop, hm, run_range_map w t k e b es clock ht hb, Result.andThen]
theorem wQ (hg : o.guard = none) (it : Operand) (hop : o.op = Op.next it false) (hit : a.eval it = .pointer (some ⟨r, 0, none⟩)) (h : Rng w b r es clock ss cnt) (hn : (es.toList.map (·.born)).Nodup)
  (hDone : cnt = 0 → ss.Perm (es.toList.map (·.key)) → wpListIn F n Try.prog ops Q rest (a.put o.dst (.tuple #[.bool false])) w)
  (hMore : ∀ (e : MapEntry) (w' : World) (cnt' : Nat), e ∈ es.toList → Rng w' b r es clock (ss ++ [e.key]) cnt' → cnt' < cnt → w.grownBy w' (some r) → w'.heap.size = w.heap.size → (Instr.entry (.pointer (some ⟨r, 0, none⟩))).run Try.prog w' = .ok (.tuple #[e.key, e.val]) w' → wpListIn F n Try.prog ops Q rest (a.put o.dst (.tuple #[.bool true, e.key, e.val])) w') :
  wpListIn F n Try.prog ops Q (o :: rest) a w := by
 rcases h.next hn o.type with ⟨h0, hp, hrun⟩ | ⟨e, he, w', cnt', hrun, hrg, hlt, hgr, hsz, hen⟩
 ·
  refine qY hg (by simp [Oper.about, hop]) (by rw [hop]; intro c h; cases h) ?_ (hDone h0 hp)
  simp [execOp, hop, hit, hrun, Result.andThen]
 ·
  refine qY hg (by simp [Oper.about, hop]) (by rw [hop]; intro c h; cases h) ?_ (hMore e w' cnt' he hrg hlt hgr hsz hen)
  simp [execOp, hop, hit, hrun, Result.andThen]
theorem tK {g t : Nat} {l : List UInt8} {cs : List Value} (hg : o.guard = none) (T : TypeId) (x y : Operand) (hop : o.op = Op.store T x y) (hT : assoc tyL T = some (l.length, true)) (hx : a.eval x = .pointer (some ⟨g, 0, none⟩)) (hy : a.eval y = bI l) (hb : w.heap[g]? = some (.cells cs.toArray t (0, 0))) (hs : cs.length = l.length)
  (K : ∀ w', w'.heap[g]? = some (.cells (bvs l).toArray t (0, 0)) → w.grownBy w' (some g) → w'.heap.size = w.heap.size → wpListIn F n Try.prog ops Q rest (a.put o.dst undef) w') : wpListIn F n Try.prog ops Q (o :: rest) a w := by
 have hr : Reads (fun _ => True) w (.arr l.length l) (bvs l) := by rw [Reads]; exact ⟨rfl, rfl⟩
 obtain ⟨_, _, _, hT'⟩ := tyI hT
 have hrun := jK (T := T) (n := 0) (pre := []) (mid := cs) (post := []) (by rw [hT', Reads.len _ _ hr]; rfl) hr (by simpa using hb) rfl (by rw [bK, hs])
 have hset := ig (bvs l) [] cs [] w (by rw [bK, hs]) (by simpa using hb)
 simp only [G9, Ee, ET] at hset
 have hsz : (w.setCells g 0 (bvs l)).heap.size = w.heap.size := by
  have h : ∀ (vs : List Value) (k : Nat) (w : World), (w.setCells g k vs).heap.size = w.heap.size := fun vs => by
   induction vs with
   | nil => intro k w; rfl
   | cons v vs ih =>
    intro k w
    rw [World.setCells, ih]
    show (w.heap.modify _ _).size = _
    rw [Array.size_modify]
  exact h _ _ _
 refine wpListIn_plain hg fun K' hK => ⟨by simp [Oper.about, hop], ?_⟩
 rw [Oper.semAt_plain F _ _ (by rw [hop]; intro c h; cases h)]
 have hrun' : (Instr.storeAt T (.pointer (some ⟨g, 0, none⟩)) (bI l)).run Try.prog w = .ok () (w.setCells g 0 (bvs l)) := hrun
 simp only [execOp, hop, hx, hy, En, hrun', Ei, Eu]
 exact hK _ _ (K _ hset (fC g (bvs l) 0 w) hsz)
theorem wR {g t : Nat} {l : List UInt8} (hg : o.guard = none) (T : TypeId) (x : Operand) (hop : o.op = Op.load T x) (hT : assoc tyL T = some (l.length, true)) (hx : a.eval x = .pointer (some ⟨g, 0, none⟩)) (hb : w.heap[g]? = some (.cells (bvs l).toArray t (0, 0)))
  (K : wpListIn F n Try.prog ops Q rest (a.put o.dst (bI l)) w) : wpListIn F n Try.prog ops Q (o :: rest) a w := by
 have hr : Reads (fun _ => True) w (.arr l.length l) (bvs l) := by rw [Reads]; exact ⟨rfl, rfl⟩
 refine qY hg (by simp [Oper.about, hop]) (by rw [hop]; intro c h; cases h) ?_ K
 have hrun : (Instr.loadAt T (.pointer (some ⟨g, 0, none⟩))).run Try.prog w = .ok (bI l) w := iH (d := .arr l.length l) (tyI hT) hr (iw hb)
 simp only [execOp, hop, hx, En, hrun, Ei, Eu]
end
end E
end Go.Proofs.Ytkhjanjlcdhdcaa
namespace Go.Proofs.Ytkhjanjlcdhdcaa
set_option linter.unusedVariables false
set_option maxHeartbeats 2000000
open Go.RowKit Mono Rlp
open Go.ChangeMaps (setBlock)
namespace E
set_option maxRecDepth 100000 in
theorem vO (n l Bm b : Nat) (hn1 : 1 ≤ n) (es : Array MapEntry) (clock : Nat) (J Jx : List (Ky 20) → World → Prop)
  (hY : ∀ pre x W, J pre W → pre.length < es.size → YieldAt Fence.wide (n - 1) Try.prog l #[kv x] W fun e W' => (e = .returned (.bool true) ∧ J (pre ++ [x]) W' ∧ KeepsWalks W W') ∨ (e = .returned (.bool false) ∧ Jx (pre ++ [x]) W'))
  (W : World) (hJ : AbidesFrom W.heap.size J) (hm : W.cell? ⟨Bm, 0, none⟩ = some (.map (some b))) (hb : W.heap[b]? = some (.map es clock)) (hn : (es.toList.map (·.born)).Nodup) (hl : ∀ x ∈ es.toList, x.born < clock) (hkey : ∀ x ∈ es.toList, ∃ k : Ky 20, x.key = kv k) (h0 : J [] W) :
  CallsIn Fence.wide n Try.prog 35 #[.func (.yield l) #[] #[], .pointer (some ⟨Bm, 0, none⟩)] W fun e W' => (∃ v, e = .returned v) ∧ ((∃ ss : List (Ky 20), (ss.map kv).Perm (es.toList.map (·.key)) ∧ J ss W') ∨ (∃ pre : List (Ky 20), True ∧ Jx pre W')) := by
 refine callsIn_of_wp Try.func35 rfl trivial ?_ rfl
 simp only [Try.ntmps35, List.size_toArray, E8, G9, Nat.reduceAdd, Nat.reduceSub, GR, GU, List.push_toArray, G6, Ee, Ed]
 have hrg0 := Rng.start hb hl
 have hJ0 := hJ [] W _ none h0 (World.grownBy_alloc W (.mapIter (some b) clock #[] clock) none) (fun r e => by cases e)
 have hlt0 : W.heap.size < (W.alloc (.mapIter (some b) clock #[] clock)).heap.size := by simp
 gi_wp2_with (first
  | (gi_at_range; refine tN rfl _ 47 33 52 rfl Try.underlying47 rfl hb ?_)
  | gi_in)
 go_frame
 generalize W.alloc (.mapIter (some b) clock #[] clock) = w0 at hrg0 hJ0 hlt0 ⊢
 gi_loopw [3] (fun _ wr => ∃ (cnt : Nat) (ss : List (Ky 20)), Rng wr b W.heap.size es clock (ss.map kv) cnt ∧ J ss wr)
  (fun _ wr => wr.rangeLeft b W.heap.size)
 case atStart =>
  exact ⟨_, [], hrg0, hJ0⟩
 case round =>
  obtain ⟨cnt, ss, hrg, hJs⟩ := hrel
  gi_wp2_with (first
   | (gi_at_next; refine wQ rfl _ rfl rfl hrg hn ?_ ?_)
   | gi_in)
  ·
   intro hc0 hp
   gi_wp2
   go_end0
   exact ⟨⟨_, rfl⟩, .inl ⟨ss, hp, hJs⟩⟩
  ·
   intro e w2 cnt2 he hrg2 hlt hg2 hs2 hen
   obtain ⟨x, hx⟩ := hkey e (by simpa using he)
   have hlen : ss.length < es.size := by have := hrg.le; simp at this; omega
   have hJ2 : J ss w2 := hJ ss wr w2 (some W.heap.size) hJs hg2 (fun r e => by cases e; exact ⟨ED _, hrg.iter⟩)
   rw [hx] at hen hrg2 ⊢
   clear hs2
   have hlt2 := hrg2.lt
   gi_wp2_with (first
    | (
      guard_target = wpListIn _ _ _ _ _ (Oper.mk _ (Op.store _ _ _) _ _ _ _ :: _) _ _; refine tK (l := x.1) (cs := List.replicate 20 (.int .u8 0)) rfl _ _ _ rfl (by rw [x.2]; rfl) rfl rfl (World.alloc_heap_new w2 _) (by rw [x.2]; rfl) ?_
      intro w4 hb4 hg4 hs4
      have hg24 : w2.grownBy w4 none := ⟨hg4.os.trans rfl, hg4.tape.trans rfl, hg4.output.trans rfl, by rw [hs4]; simp, fun i hi _ => (hg4.block i (by simp; omega) (fun e => by cases e; omega)).trans ((FK w2 _).2 i hi)⟩
      have hJ4 : J ss w4 := hJ ss w2 w4 none hJ2 hg24 (fun r e => by cases e)
      have hrg4 := hrg2.kept (hg24.block b hlt2.1 (by simp)) (hg24.block W.heap.size hlt2.2 (by simp))
      obtain ⟨fn, tmps, assign, body, hy, hR⟩ := hY ss x w4 hJ4 hlen
      rw [show kv x = bI x.1 from rfl] at hy
      have hb4' := Lib.hid hb4
      clear hb4 hs4 hg4 hg24)
    | (guard_target = wpListIn _ _ _ _ _ (Oper.mk _ (Op.load _ _) _ _ _ _ :: _) _ _; refine wR (l := x.1) rfl _ _ rfl (by rw [x.2]; rfl) rfl hb4'.out ?_)
    | gi_in)
   refine hR.mono ?_
   rintro e W3 (⟨rfl, hJ3, hk3⟩ | ⟨rfl, hJx3⟩)
   ·
    gi_wp2
    have hrg3 := hrg4.walks hk3
    go_roundw
    case rel => exact ⟨cnt2, ss ++ [x], by simpa using hrg3, hJ3⟩
    case measure => rw [hrg3.left_eq, hrg.left_eq]; exact hlt
   ·
    gi_wp2
    refine bodyPost_ret (results_none rfl _ _ _) rfl ?_
    exact ⟨⟨_, rfl⟩, .inr ⟨ss ++ [x], trivial, hJx3⟩⟩
set_option maxRecDepth 100000 in
theorem vN (n l Bm b : Nat) (hn1 : 1 ≤ n) (es : Array MapEntry) (clock : Nat) (J Jx : List (Ky 32) → World → Prop)
  (hY : ∀ pre x W, J pre W → pre.length < es.size → YieldAt Fence.wide (n - 1) Try.prog l #[kv x] W fun e W' => (e = .returned (.bool true) ∧ J (pre ++ [x]) W' ∧ KeepsWalks W W') ∨ (e = .returned (.bool false) ∧ Jx (pre ++ [x]) W'))
  (W : World) (hJ : AbidesFrom W.heap.size J) (hm : W.cell? ⟨Bm, 0, none⟩ = some (.map (some b))) (hb : W.heap[b]? = some (.map es clock)) (hn : (es.toList.map (·.born)).Nodup) (hl : ∀ x ∈ es.toList, x.born < clock) (hkey : ∀ x ∈ es.toList, ∃ k : Ky 32, x.key = kv k) (h0 : J [] W) :
  CallsIn Fence.wide n Try.prog 39 #[.func (.yield l) #[] #[], .pointer (some ⟨Bm, 0, none⟩)] W fun e W' => (∃ v, e = .returned v) ∧ ((∃ ss : List (Ky 32), (ss.map kv).Perm (es.toList.map (·.key)) ∧ J ss W') ∨ (∃ pre : List (Ky 32), True ∧ Jx pre W')) := by
 refine callsIn_of_wp Try.func39 rfl trivial ?_ rfl
 simp only [Try.ntmps39, List.size_toArray, E8, G9, Nat.reduceAdd, Nat.reduceSub, GR, GU, List.push_toArray, G6, Ee, Ed]
 have hrg0 := Rng.start hb hl
 have hJ0 := hJ [] W _ none h0 (World.grownBy_alloc W (.mapIter (some b) clock #[] clock) none) (fun r e => by cases e)
 have hlt0 : W.heap.size < (W.alloc (.mapIter (some b) clock #[] clock)).heap.size := by simp
 gi_wp2_with (first
  | (gi_at_range; refine tN rfl _ 54 35 35 rfl Try.underlying54 rfl hb ?_)
  | gi_in)
 go_frame
 generalize W.alloc (.mapIter (some b) clock #[] clock) = w0 at hrg0 hJ0 hlt0 ⊢
 gi_loopw [3] (fun _ wr => ∃ (cnt : Nat) (ss : List (Ky 32)), Rng wr b W.heap.size es clock (ss.map kv) cnt ∧ J ss wr)
  (fun _ wr => wr.rangeLeft b W.heap.size)
 case atStart =>
  exact ⟨_, [], hrg0, hJ0⟩
 case round =>
  obtain ⟨cnt, ss, hrg, hJs⟩ := hrel
  gi_wp2_with (first
   | (gi_at_next; refine wQ rfl _ rfl rfl hrg hn ?_ ?_)
   | gi_in)
  ·
   intro hc0 hp
   gi_wp2
   go_end0
   exact ⟨⟨_, rfl⟩, .inl ⟨ss, hp, hJs⟩⟩
  ·
   intro e w2 cnt2 he hrg2 hlt hg2 hs2 hen
   obtain ⟨x, hx⟩ := hkey e (by simpa using he)
   have hlen : ss.length < es.size := by have := hrg.le; simp at this; omega
   have hJ2 : J ss w2 := hJ ss wr w2 (some W.heap.size) hJs hg2 (fun r e => by cases e; exact ⟨ED _, hrg.iter⟩)
   rw [hx] at hen hrg2 ⊢
   clear hs2
   have hlt2 := hrg2.lt
   gi_wp2_with (first
    | (
      guard_target = wpListIn _ _ _ _ _ (Oper.mk _ (Op.store _ _ _) _ _ _ _ :: _) _ _; refine tK (l := x.1) (cs := List.replicate 32 (.int .u8 0)) rfl _ _ _ rfl (by rw [x.2]; rfl) rfl rfl (World.alloc_heap_new w2 _) (by rw [x.2]; rfl) ?_
      intro w4 hb4 hg4 hs4
      have hg24 : w2.grownBy w4 none := ⟨hg4.os.trans rfl, hg4.tape.trans rfl, hg4.output.trans rfl, by rw [hs4]; simp, fun i hi _ => (hg4.block i (by simp; omega) (fun e => by cases e; omega)).trans ((FK w2 _).2 i hi)⟩
      have hJ4 : J ss w4 := hJ ss w2 w4 none hJ2 hg24 (fun r e => by cases e)
      have hrg4 := hrg2.kept (hg24.block b hlt2.1 (by simp)) (hg24.block W.heap.size hlt2.2 (by simp))
      obtain ⟨fn, tmps, assign, body, hy, hR⟩ := hY ss x w4 hJ4 hlen
      rw [show kv x = bI x.1 from rfl] at hy
      have hb4' := Lib.hid hb4
      clear hb4 hs4 hg4 hg24)
    | (guard_target = wpListIn _ _ _ _ _ (Oper.mk _ (Op.load _ _) _ _ _ _ :: _) _ _; refine wR (l := x.1) rfl _ _ rfl (by rw [x.2]; rfl) rfl hb4'.out ?_)
    | gi_in)
   refine hR.mono ?_
   rintro e W3 (⟨rfl, hJ3, hk3⟩ | ⟨rfl, hJx3⟩)
   ·
    gi_wp2
    have hrg3 := hrg4.walks hk3
    go_roundw
    case rel => exact ⟨cnt2, ss ++ [x], by simpa using hrg3, hJ3⟩
    case measure => rw [hrg3.left_eq, hrg.left_eq]; exact hlt
   ·
    gi_wp2
    refine bodyPost_ret (results_none rfl _ _ _) rfl ?_
    exact ⟨⟨_, rfl⟩, .inr ⟨ss ++ [x], trivial, hJx3⟩⟩
end E
end Go.Proofs.Ytkhjanjlcdhdcaa
namespace Go.Proofs.Ytkhjanjlcdhdcaa
set_option linter.unusedVariables false
set_option maxHeartbeats 4000000
open Go.RowKit Mono Rlp
namespace E
theorem Aw {l n : Nat} {P : Program} {row : String} {args : Array Value} {w : World} {R : Value → World → Prop} (h : Rows P row args w R) : RowsIn (Fence.wide.inRound l) n P row args w R := fun c cs _ => by
 obtain ⟨v, w', h1, h2⟩ := h c cs
 exact ⟨v, w', h1, stepsIn_wide.2 h2⟩
theorem DN {l n : Nat} {P : Program} {o : Oper} {a : Act} {w : World} {K K' : Act → World → Prop} {Q : Exit → Act → World → Prop} (hQ : ¬ LetsOut Q) (hd : ∀ c, o.op ≠ .defer c) (hK : ∀ a w, K a w → K' a w) (h : o.wp P a w K Q ∨ (o.asks P a w ∧ LetsOut Q)) : o.wpIn (Fence.wide.inRound l) n P a w K' Q := by
 rcases h with h | ⟨_, h⟩
 ·
  refine ⟨fun _ _ => trivial, ?_⟩
  rw [Oper.semAt_plain _ _ _ hd]
  unfold Oper.wp at h
  cases hr : (execOp a.eval o).run P w with
  | ok x w' =>
   rw [hr] at h
   cases x with
   | value v => exact hK _ _ h
   | skip => exact hK _ _ h
   | defer d => exact hK _ _ h
   | enter f args =>
    refine ⟨fun h => by simp [Fence.wide] at h, CallsIn.inRound l (callsIn_wide.2 (Calls.mono h ?_))⟩
    intro e w'' he
    cases e with
    | returned v => exact hK _ _ he
    | panicked c => exact he
    | outgrown => exact he
   | row row args => exact ⟨fun h => by simp [Fence.wide] at h, Aw (fun c cs => by obtain ⟨v, w', h1, h2⟩ := h c cs; exact ⟨v, w', hK _ _ h1, h2⟩)⟩
   | _ => exact h.elim
  | halt x w' =>
   rw [hr] at h
   cases x <;> first | exact h | exact h.elim
 · exact absurd h hQ
theorem lS {l n : Nat} {P : Program} {ops : Array Oper} {Q : Exit → Act → World → Prop} (hQ : ¬ LetsOut Q) : ∀ (rest : List Oper), (∀ o ∈ rest, ∀ c, o.op ≠ .defer c) → ∀ a w, wpList P ops Q rest a w → wpListIn (Fence.wide.inRound l) n P ops Q rest a w
 | [], _, a, w, h => h
 | o :: rest, hd, a, w, h => by
  rw [wpList] at h
  rw [wpListIn]
  have ih := lS (l := l) (n := n) (P := P) (ops := ops) hQ rest fun o ho => hd o (List.mem_cons_of_mem _ ho)
  split
  ·
   rename_i hw
   rw [if_pos hw] at h
   exact DN hQ (hd o (by simp)) ih h
  ·
   rename_i hw
   rw [if_neg hw] at h
   exact ⟨fun _ _ => trivial, ih _ _ h⟩
def kc {n : Nat} (k : Ky n) : List Value := bvs k.1
def dK {n : Nat} (k : Ky n) : D := .arr n k.1
theorem fB {ok : Nat → Prop} {w : World} {n : Nat} : ∀ (ks : List (Ky n)), aj ok w n (ks.map dK) (ks.map kc)
 | [] => by rw [FW, aj]; rfl
 | k :: ks => by
  rw [EX, aj]
  exact ⟨kc k, _, rfl, by unfold kc; rw [bK, k.2], by unfold dK; rw [Reads]; exact ⟨k.2, rfl⟩, fB ks⟩
theorem jg {ok : Nat → Prop} {w : World} {n : Nat} : ∀ (ks : List (Ky n)) (rows : List (List Value)), aj ok w n (ks.map dK) rows → rows = ks.map kc
 | [], rows, h => by rw [FW, aj] at h; exact h
 | k :: ks, rows, h => by
  rw [EX, aj] at h
  obtain ⟨r, rest, rfl, _, h2, h3⟩ := h
  unfold dK at h2
  rw [Reads] at h2
  rw [jg ks rest h3, h2.2]
  rfl
theorem wH {w : World} {e : TypeId} {z : Nat} {v : Value} {k : Nat} {xs : List Value} {base : Nat} (h : w.ownsRow 0 e z v k xs) (hb : ∀ b, v.ownBlock = some b → base ≤ b) : w.ownsRow base e z v k xs := by
 refine ⟨h.1, h.2.imp id fun ⟨g, cap, cur, h1, h2, h3⟩ => ⟨g, cap, cur, h1, hb g (by rw [h1]; rfl), h3⟩⟩
theorem lK {w : World} {e : TypeId} {z : Nat} {v : Value} {k : Nat} {xs : List Value} {base : Nat} (h : w.ownsRow base e z v k xs) : w.ownsRow 0 e z v k xs :=
 ⟨h.1, h.2.imp id fun ⟨g, cap, cur, h1, _, h3⟩ => ⟨g, cap, cur, h1, Fa _, h3⟩⟩
theorem lJ {w : World} {e : TypeId} {z : Nat} {v : Value} {k : Nat} {xs : List Value} {base : Nat} (h : w.ownsRow base e z v k xs) : v.oneCell' = true := by
 rcases h.2 with ⟨rfl, _⟩ | ⟨g, cap, cur, rfl, _⟩ <;> rfl
set_option maxRecDepth 100000 in
theorem o8 (n : Nat) (hn : 2 ≤ n) (gf : Nat) (lb : Array Value) (eg : ∀ args w, (callFunc gf args).run Try.prog w = .ok (.enter gf args) w) (S Sp : List (Ky 20) → Prop) (N : Nat) (hN : N * 20 ≤ 140737488355328) (w : World)
  (hseq : SeqStopsK Fence.wide (n - 1) Try.prog gf lb (fun x : Ky 20 => #[kv x]) KeepsWalks S Sp N w) :
  CallsIn Fence.wide n Try.prog 40 #[.slice none 0 0, .func (.func gf) #[] lb] w fun e W' => ∃ v ss, e = .returned v ∧ S ss ∧ W'.ownsRow w.heap.size 33 20 v ss.length (ss.map kc).flatten ∧ (v = .slice none 0 0 ↔ ss = []) ∧ Below w.heap.size w W' := by
 refine callsIn_of_wp_marks Try.func40 rfl trivial ?_ rfl
 simp only [Try.ntmps40, List.size_toArray, E8, G9, Nat.reduceAdd, Nat.reduceSub, GR, GU, List.push_toArray, G6, Ee, Ed]
 gi_wp2
 have bO := Boxed.new w 62 (.slice none 0 0)
 have hB0 : Below w.heap.size w (w.alloc (.cells #[.slice none 0 0] 62)) := (Below.refl _ w).alloc (ED _) _
 refine wpIn_rangeFunc_ownH rfl (by omega) (gf := gf) (lb := lb) rfl trivial eg hseq walksK_t walksK_b hB0 (fun _ => rfl)
  (fun pre W => (∃ v, Boxed W w.heap.size 62 v ∧ W.ownsRow w.heap.size 33 20 v pre.length (pre.map kc).flatten ∧ (v = .slice none 0 0 ↔ pre = [])) ∧ Below w.heap.size w W)
  (fun _ _ _ => False)
  (OwnFrom.and (Own.from (holdsRow_own w.heap.size w.heap.size 62 33 20 (fun pre : List (Ky 20) => pre.length) (fun pre => (pre.map kc).flatten) (fun pre v => v = .slice none 0 0 ↔ pre = [])) _) (ownFrom_below (ED _) (by simp)))
  (fun _ _ _ _ _ hs _ _ => hs)
  ⟨⟨_, bO, World.ownsRow_nil _ _ _ _, by simp⟩, hB0⟩
  (fun x a' W => ∃ Bx v, w.heap.size < Bx ∧ Boxed W w.heap.size 62 v ∧ v.ownBlock ≠ some Bx ∧ W.heap[Bx]? = some (.cells (bvs x.1).toArray 33 (0, 0)) ∧ a'.tmps.size = 13 ∧ a'.defers = [] ∧ a'.tmps.getD 2 undef = .pointer (some ⟨w.heap.size, 0, none⟩) ∧ a'.tmps.getD 5 undef = .pointer (some ⟨Bx, 0, none⟩))
  ?hAx ?assign ?body ?done ?stop
 case hAx =>
  rintro x a' s X Y row ⟨Bx, v, h1, h2, h3, h4, h5⟩ hg hr
  refine ⟨Bx, v, h1, h2.kept hg fun e => ?_, h3, (hg.block Bx (EJ.1 h4).1 fun e => ?_).trans h4, h5⟩
  ·
   obtain ⟨_, o, ho, hc⟩ := hr _ e.symm
   rw [show X.heap[w.heap.size]? = _ from h2] at ho
   cases ho
   cases hc
  ·
   obtain ⟨_, o, ho, hc⟩ := hr _ e.symm
   rw [h4] at ho
   cases ho
   cases hc
 case assign =>
  rintro l pre x W K ⟨⟨v, hv, hrow, hnil⟩, hB⟩ hK
  have e : ((#[7] : Array Tmp).zip #[kv x]).foldl (fun t (p, v) => t.setIfInBounds p v) #[.slice none 0 0, .func (.func gf) #[] lb, .pointer (some ⟨w.heap.size, 0, none⟩), undef, .slice none 0 0, undef, .func (.func gf) #[] lb, undef, undef, undef, undef, undef, undef] = #[.slice none 0 0, .func (.func gf) #[] lb, .pointer (some ⟨w.heap.size, 0, none⟩), undef, .slice none 0 0, undef, .func (.func gf) #[] lb, kv x, undef, undef, undef, undef, undef] := by simp
  rw [e]
  refine wpIn_region_lit (lS (fun ⟨_, _, h⟩ => h) _ (by simp) _ _ ?_)
  have hat : At (⟨W, fun _ => False, fun _ => False, fun _ h => h.elim⟩ : Cx 13) ⟨[(7, .val (.arr 20 x.1)), (2, .val (.v (.pointer (some ⟨w.heap.size, 0, none⟩))))], [], []⟩ { tmps := #[.slice none 0 0, .func (.func gf) #[] lb, .pointer (some ⟨w.heap.size, 0, none⟩), undef, .slice none 0 0, undef, .func (.func gf) #[] lb, kv x, undef, undef, undef, undef, undef], defers := [] } W := by
   refine ⟨⟨.refl _, .nil, fun o ho => by simp at ho, fun f hf => by simp at hf⟩, fun t r h => ?_, rfl, rfl⟩
   simp only [look] at h
   split at h
   ·
    rename_i e
    subst e
    cases h
    exact ⟨bvs x.1, by rw [Reads]; exact ⟨x.2, rfl⟩, rfl⟩
   ·
    split at h
    ·
     rename_i e
     subst e
     cases h
     exact aI.2 ⟨rfl, rfl⟩
    · cases h
  refine EL.go (Q := Exit.then K (fun _ _ _ => False)) (S := ⟨[(7, .val (.arr 20 x.1)), (2, .val (.v (.pointer (some ⟨w.heap.size, 0, none⟩))))], [], []⟩) ?_ _ _ hat
  repeat
   (first
    | (apply fF; rfl; rfl; rfl; intro _) | (apply bF; rfl; exact saA; iterate 4 rfl) | apply EL.nil)
  refine ⟨fun a1 w1 h1 => ?_⟩
  rename_i Bx
  obtain ⟨⟨hgr, _, hat1, _⟩, hregs, hsz, hdf⟩ := h1
  obtain ⟨hbx, cs, hheap, hrd⟩ := hat1 _ (Et ..)
  rw [Reads] at hrd
  rw [hrd.2] at hheap
  have hbx' : W.heap.size ≤ Bx := hbx.resolve_left id
  have hg : W.grownBy w1 none := ⟨hgr.os, hgr.tape, hgr.output, hgr.size, fun i hi _ => hgr.block i hi id⟩
  have hvl := hv.lt
  exact hK a1 w1 ((KeepsOthers.of_grownBy hg fun j o e _ => by cases e).from _) (KeepsWalks.of_grownBy hg fun j o e => by cases e) ⟨⟨v, hv.kept hg (by simp), hrow.kept hg (by cases v.ownBlock with | none => exact .inl rfl | some k => exact .inr (by simp)), hnil⟩, hB.grown hg hB.size fun k e => by cases e⟩
   ⟨Bx, v, by omega, hv.kept hg (by simp), fun e => by have := (hrow.lt _ e).2; omega, hheap, hsz, hdf, (aI.1 (hregs 2 _ rfl)).2, (aI.1 (hregs 5 _ rfl)).2⟩
 case body =>
  rintro l pre x a' W hl hrec ⟨⟨v, hv, hrow, hnil⟩, hB⟩ ⟨Bx, v2, h1, hv2, hne, hbx, hsz, hdf, ht2, ht5⟩ hlen
  obtain rfl : v2 = v := by
   have := (show W.heap[w.heap.size]? = _ from hv2).symm.trans hv
   simpa using this
  have hnr := hv.not_row (by decide) hrow
  have hlow : ∀ b, (b = w.heap.size ∨ b = Bx ∨ v2.ownBlock = some b) → w.heap.size ≤ b := fun b hb => by
   rcases hb with rfl | rfl | hb
   · exact ED _
   · omega
   · exact (hrow.lt _ hb).1
  have hcell : ∀ b o, (b = w.heap.size ∨ b = Bx ∨ v2.ownBlock = some b) → W.heap[b]? = some o → o.isCells = true ∧ o.isWalk = false := fun b o hb ho => by
   rcases hb with rfl | rfl | hb
   ·
    rw [show W.heap[w.heap.size]? = _ from hv] at ho
    cases ho
    exact ⟨rfl, rfl⟩
   ·
    rw [hbx] at ho
    cases ho
    exact ⟨rfl, rfl⟩
   ·
    rcases hrow.2 with ⟨rfl, _⟩ | ⟨g, cap, cur, rfl, _, hgb, _⟩
    · cases hb
    ·
     obtain rfl : g = b := by simpa [Value.ownBlock] using hb
     rw [hgb] at ho
     cases ho
     exact ⟨rfl, rfl⟩
  refine wpIn_block (wpIn_region_lit (lS (fun ⟨_, _, h⟩ => h) _ (by simp) _ _ ?_))
  have hat : At (⟨W, fun _ => False, fun b => b = w.heap.size ∨ b = Bx ∨ v2.ownBlock = some b, fun _ h => h.elim⟩ : Cx 13) ⟨[(5, .val (.v (.pointer (some ⟨Bx, 0, none⟩)))), (2, .val (.v (.pointer (some ⟨w.heap.size, 0, none⟩))))], [.var w.heap.size 62 (.v v2), .row v2 33 20 (pre.map dK), .var Bx 33 (.arr 20 x.1)], []⟩ a' W := by
   refine ⟨⟨.refl _, ?_, fun o ho => ?_, fun f hf => by simp at hf⟩, fun t r h => ?_, hsz, hdf⟩
   ·
    refine .cons (fun p hp b hb => ?_) (.cons (fun p hp b hb => ?_) (.cons (fun p hp => by simp at hp) .nil))
    ·
     obtain rfl : w.heap.size = b := by simpa [Obj.blk] using hb
     rcases Es.1 hp with rfl | hp
     · exact fun e => hnr e.symm
     ·
      obtain rfl : p = _ := by simpa using hp
      simp only [Obj.blk, ne_eq, GI]
      omega
    ·
     obtain rfl : p = _ := by simpa using hp
     simp only [Obj.blk] at hb ⊢
     exact fun e => hne (hb.trans e.symm)
   ·
    rcases Es.1 ho with rfl | ho
    · exact ⟨.inl (.inl rfl), [v2], hv, by rw [Reads]; exact ⟨lJ hrow, rfl⟩⟩
    ·
     rcases Es.1 ho with rfl | ho
     ·
      refine ⟨pre.map kc, ⟨?_, fun b hb => .inl (.inr (.inr hb))⟩, fB pre⟩
      rw [Eo]
      exact lK hrow
     ·
      obtain rfl : o = _ := by simpa using ho
      exact ⟨.inl (.inr (.inl rfl)), bvs x.1, hbx, by rw [Reads]; exact ⟨x.2, rfl⟩⟩
   ·
    simp only [look] at h
    split at h
    ·
     rename_i e
     subst e
     cases h
     exact aI.2 ⟨rfl, ht5⟩
    ·
     split at h
     ·
      rename_i e
      subst e
      cases h
      exact aI.2 ⟨rfl, ht2⟩
     · cases h
  refine EL.go (S := ⟨[(5, .val (.v (.pointer (some ⟨Bx, 0, none⟩)))), (2, .val (.v (.pointer (some ⟨w.heap.size, 0, none⟩))))], [.var w.heap.size 62 (.v v2), .row v2 33 20 (pre.map dK), .var Bx 33 (.arr 20 x.1)], []⟩) ?_ _ _ hat
  have hml : (pre.map dK).length = pre.length := Eo _
  have hl1 : ([D.arr 20 x.1] : List D).length = 1 := rfl
  repeat
   (first
    | (apply aH; rfl; exact I.a; iterate 4 rfl) | (apply pq; iterate 9 rfl)
    | (apply bF; rfl; exact saA; iterate 4 rfl)
    | ((apply iM; rfl; exact saA; (iterate 5 rfl); (focus (constructor <;> (first | (simp; done) | (simp; omega))))); intro _)
    | apply EL.nil
    | (with_reducible first | apply EC.seq | apply EC.r0 | apply EC.k0 | apply EC.label | apply EC.b0 | apply EC.x0 | apply EC.ret | apply EK.n0 | apply EK.s0 | apply EK.aB | apply EK.au | apply EK.ah))
  refine ⟨fun a1 w1 h1 => ?_⟩
  rename_i v'
  obtain ⟨⟨hgr, _, hat1, _⟩, hregs, hsz', hdf'⟩ := h1
  obtain ⟨_, cs, hbox, hrd⟩ := hat1 _ (Et ..)
  rw [Reads] at hrd
  rw [hrd.2] at hbox
  obtain ⟨rows, ⟨hrow', hbase⟩, hrows⟩ := hat1 _ (List.mem_cons_of_mem _ (Et ..))
  have hds : pre.map dK ++ [D.arr 20 x.1] = (pre ++ [x]).map dK := by simp [dK]
  rw [hds] at hrow' hrows
  rw [jg _ _ hrows, Eo] at hrow'
  have hown := wH (base := w.heap.size) hrow' fun b hb => by
   rcases hbase b hb with h | h
   · exact hlow b h
   · exact EO hB.size h
  have hsame : ∀ k, k < W.heap.size → ¬ (k = w.heap.size ∨ k = Bx ∨ v2.ownBlock = some k) → w1.heap[k]? = W.heap[k]? := hgr.block
  refine ⟨⟨hgr.size, fun k o _ h0 ho => ?_⟩, ⟨hgr.size, fun k o h0 ho => ?_⟩, ⟨⟨v', hbox, hown, ?_⟩, hB.trans ⟨hgr.os, hgr.tape, hgr.output, hgr.size, fun k hk => ?_⟩⟩⟩
  ·
   refine (hsame k (EJ.1 h0).1 fun h => ?_).trans h0
   rw [(hcell k o h h0).1] at ho
   cases ho
  ·
   refine (hsame k (EJ.1 h0).1 fun h => ?_).trans h0
   rw [(hcell k o h h0).2] at ho
   cases ho
  ·
   constructor
   ·
    rintro rfl
    rcases hown.2 with ⟨_, h0⟩ | ⟨g, cap, cur, h0, _⟩
    · simp at h0
    · simp at h0
   ·
    intro h
    simp at h
  · exact hsame k (by have := hB.size; omega) fun h => by have := hlow k h; omega
 case done =>
  rintro D ys W hD hS ⟨⟨v, hv, hrow, hnil⟩, hB⟩ hK
  have hc := hv.cell
  gi_wp2
  refine ⟨by simp, .inl ⟨_, _, rfl, run_takeDeferred hK, ?_⟩⟩
  exact ⟨_, results_tmp rfl _ _ _, v, ys, rfl, hS, ownsRow_putObj hrow _ hK rfl, hnil, hB.trans (belowK_b (w := w) (ED _) W D _ _ (by simp at hD; omega) hK rfl rfl)⟩
 case stop =>
  rintro D c pre W _ _ h _
  exact h.elim
set_option maxRecDepth 100000 in
theorem o7 (n : Nat) (hn : 2 ≤ n) (gf : Nat) (lb : Array Value) (eg : ∀ args w, (callFunc gf args).run Try.prog w = .ok (.enter gf args) w) (S Sp : List (Ky 32) → Prop) (N : Nat) (hN : N * 32 ≤ 140737488355328) (w : World)
  (hseq : SeqStopsK Fence.wide (n - 1) Try.prog gf lb (fun x : Ky 32 => #[kv x]) KeepsWalks S Sp N w) :
  CallsIn Fence.wide n Try.prog 43 #[.slice none 0 0, .func (.func gf) #[] lb] w fun e W' => ∃ v ss, e = .returned v ∧ S ss ∧ W'.ownsRow w.heap.size 35 32 v ss.length (ss.map kc).flatten ∧ (v = .slice none 0 0 ↔ ss = []) ∧ Below w.heap.size w W' := by
 refine callsIn_of_wp_marks Try.func43 rfl trivial ?_ rfl
 simp only [Try.ntmps43, List.size_toArray, E8, G9, Nat.reduceAdd, Nat.reduceSub, GR, GU, List.push_toArray, G6, Ee, Ed]
 gi_wp2
 have bO := Boxed.new w 69 (.slice none 0 0)
 have hB0 : Below w.heap.size w (w.alloc (.cells #[.slice none 0 0] 69)) := (Below.refl _ w).alloc (ED _) _
 refine wpIn_rangeFunc_ownH rfl (by omega) (gf := gf) (lb := lb) rfl trivial eg hseq walksK_t walksK_b hB0 (fun _ => rfl)
  (fun pre W => (∃ v, Boxed W w.heap.size 69 v ∧ W.ownsRow w.heap.size 35 32 v pre.length (pre.map kc).flatten ∧ (v = .slice none 0 0 ↔ pre = [])) ∧ Below w.heap.size w W)
  (fun _ _ _ => False)
  (OwnFrom.and (Own.from (holdsRow_own w.heap.size w.heap.size 69 35 32 (fun pre : List (Ky 32) => pre.length) (fun pre => (pre.map kc).flatten) (fun pre v => v = .slice none 0 0 ↔ pre = [])) _) (ownFrom_below (ED _) (by simp)))
  (fun _ _ _ _ _ hs _ _ => hs)
  ⟨⟨_, bO, World.ownsRow_nil _ _ _ _, by simp⟩, hB0⟩
  (fun x a' W => ∃ Bx v, w.heap.size < Bx ∧ Boxed W w.heap.size 69 v ∧ v.ownBlock ≠ some Bx ∧ W.heap[Bx]? = some (.cells (bvs x.1).toArray 35 (0, 0)) ∧ a'.tmps.size = 13 ∧ a'.defers = [] ∧ a'.tmps.getD 2 undef = .pointer (some ⟨w.heap.size, 0, none⟩) ∧ a'.tmps.getD 5 undef = .pointer (some ⟨Bx, 0, none⟩))
  ?hAx ?assign ?body ?done ?stop
 case hAx =>
  rintro x a' s X Y row ⟨Bx, v, h1, h2, h3, h4, h5⟩ hg hr
  refine ⟨Bx, v, h1, h2.kept hg fun e => ?_, h3, (hg.block Bx (EJ.1 h4).1 fun e => ?_).trans h4, h5⟩
  ·
   obtain ⟨_, o, ho, hc⟩ := hr _ e.symm
   rw [show X.heap[w.heap.size]? = _ from h2] at ho
   cases ho
   cases hc
  ·
   obtain ⟨_, o, ho, hc⟩ := hr _ e.symm
   rw [h4] at ho
   cases ho
   cases hc
 case assign =>
  rintro l pre x W K ⟨⟨v, hv, hrow, hnil⟩, hB⟩ hK
  have e : ((#[7] : Array Tmp).zip #[kv x]).foldl (fun t (p, v) => t.setIfInBounds p v) #[.slice none 0 0, .func (.func gf) #[] lb, .pointer (some ⟨w.heap.size, 0, none⟩), undef, .slice none 0 0, undef, .func (.func gf) #[] lb, undef, undef, undef, undef, undef, undef] = #[.slice none 0 0, .func (.func gf) #[] lb, .pointer (some ⟨w.heap.size, 0, none⟩), undef, .slice none 0 0, undef, .func (.func gf) #[] lb, kv x, undef, undef, undef, undef, undef] := by simp
  rw [e]
  refine wpIn_region_lit (lS (fun ⟨_, _, h⟩ => h) _ (by simp) _ _ ?_)
  have hat : At (⟨W, fun _ => False, fun _ => False, fun _ h => h.elim⟩ : Cx 13) ⟨[(7, .val (.arr 32 x.1)), (2, .val (.v (.pointer (some ⟨w.heap.size, 0, none⟩))))], [], []⟩ { tmps := #[.slice none 0 0, .func (.func gf) #[] lb, .pointer (some ⟨w.heap.size, 0, none⟩), undef, .slice none 0 0, undef, .func (.func gf) #[] lb, kv x, undef, undef, undef, undef, undef], defers := [] } W := by
   refine ⟨⟨.refl _, .nil, fun o ho => by simp at ho, fun f hf => by simp at hf⟩, fun t r h => ?_, rfl, rfl⟩
   simp only [look] at h
   split at h
   ·
    rename_i e
    subst e
    cases h
    exact ⟨bvs x.1, by rw [Reads]; exact ⟨x.2, rfl⟩, rfl⟩
   ·
    split at h
    ·
     rename_i e
     subst e
     cases h
     exact aI.2 ⟨rfl, rfl⟩
    · cases h
  refine EL.go (Q := Exit.then K (fun _ _ _ => False)) (S := ⟨[(7, .val (.arr 32 x.1)), (2, .val (.v (.pointer (some ⟨w.heap.size, 0, none⟩))))], [], []⟩) ?_ _ _ hat
  repeat
   (first
    | (apply fF; rfl; rfl; rfl; intro _) | (apply bF; rfl; exact saA; iterate 4 rfl) | apply EL.nil)
  refine ⟨fun a1 w1 h1 => ?_⟩
  rename_i Bx
  obtain ⟨⟨hgr, _, hat1, _⟩, hregs, hsz, hdf⟩ := h1
  obtain ⟨hbx, cs, hheap, hrd⟩ := hat1 _ (Et ..)
  rw [Reads] at hrd
  rw [hrd.2] at hheap
  have hbx' : W.heap.size ≤ Bx := hbx.resolve_left id
  have hg : W.grownBy w1 none := ⟨hgr.os, hgr.tape, hgr.output, hgr.size, fun i hi _ => hgr.block i hi id⟩
  have hvl := hv.lt
  exact hK a1 w1 ((KeepsOthers.of_grownBy hg fun j o e _ => by cases e).from _) (KeepsWalks.of_grownBy hg fun j o e => by cases e) ⟨⟨v, hv.kept hg (by simp), hrow.kept hg (by cases v.ownBlock with | none => exact .inl rfl | some k => exact .inr (by simp)), hnil⟩, hB.grown hg hB.size fun k e => by cases e⟩
   ⟨Bx, v, by omega, hv.kept hg (by simp), fun e => by have := (hrow.lt _ e).2; omega, hheap, hsz, hdf, (aI.1 (hregs 2 _ rfl)).2, (aI.1 (hregs 5 _ rfl)).2⟩
 case body =>
  rintro l pre x a' W hl hrec ⟨⟨v, hv, hrow, hnil⟩, hB⟩ ⟨Bx, v2, h1, hv2, hne, hbx, hsz, hdf, ht2, ht5⟩ hlen
  obtain rfl : v2 = v := by
   have := (show W.heap[w.heap.size]? = _ from hv2).symm.trans hv
   simpa using this
  have hnr := hv.not_row (by decide) hrow
  have hlow : ∀ b, (b = w.heap.size ∨ b = Bx ∨ v2.ownBlock = some b) → w.heap.size ≤ b := fun b hb => by
   rcases hb with rfl | rfl | hb
   · exact ED _
   · omega
   · exact (hrow.lt _ hb).1
  have hcell : ∀ b o, (b = w.heap.size ∨ b = Bx ∨ v2.ownBlock = some b) → W.heap[b]? = some o → o.isCells = true ∧ o.isWalk = false := fun b o hb ho => by
   rcases hb with rfl | rfl | hb
   ·
    rw [show W.heap[w.heap.size]? = _ from hv] at ho
    cases ho
    exact ⟨rfl, rfl⟩
   ·
    rw [hbx] at ho
    cases ho
    exact ⟨rfl, rfl⟩
   ·
    rcases hrow.2 with ⟨rfl, _⟩ | ⟨g, cap, cur, rfl, _, hgb, _⟩
    · cases hb
    ·
     obtain rfl : g = b := by simpa [Value.ownBlock] using hb
     rw [hgb] at ho
     cases ho
     exact ⟨rfl, rfl⟩
  refine wpIn_block (wpIn_region_lit (lS (fun ⟨_, _, h⟩ => h) _ (by simp) _ _ ?_))
  have hat : At (⟨W, fun _ => False, fun b => b = w.heap.size ∨ b = Bx ∨ v2.ownBlock = some b, fun _ h => h.elim⟩ : Cx 13) ⟨[(5, .val (.v (.pointer (some ⟨Bx, 0, none⟩)))), (2, .val (.v (.pointer (some ⟨w.heap.size, 0, none⟩))))], [.var w.heap.size 69 (.v v2), .row v2 35 32 (pre.map dK), .var Bx 35 (.arr 32 x.1)], []⟩ a' W := by
   refine ⟨⟨.refl _, ?_, fun o ho => ?_, fun f hf => by simp at hf⟩, fun t r h => ?_, hsz, hdf⟩
   ·
    refine .cons (fun p hp b hb => ?_) (.cons (fun p hp b hb => ?_) (.cons (fun p hp => by simp at hp) .nil))
    ·
     obtain rfl : w.heap.size = b := by simpa [Obj.blk] using hb
     rcases Es.1 hp with rfl | hp
     · exact fun e => hnr e.symm
     ·
      obtain rfl : p = _ := by simpa using hp
      simp only [Obj.blk, ne_eq, GI]
      omega
    ·
     obtain rfl : p = _ := by simpa using hp
     simp only [Obj.blk] at hb ⊢
     exact fun e => hne (hb.trans e.symm)
   ·
    rcases Es.1 ho with rfl | ho
    · exact ⟨.inl (.inl rfl), [v2], hv, by rw [Reads]; exact ⟨lJ hrow, rfl⟩⟩
    ·
     rcases Es.1 ho with rfl | ho
     ·
      refine ⟨pre.map kc, ⟨?_, fun b hb => .inl (.inr (.inr hb))⟩, fB pre⟩
      rw [Eo]
      exact lK hrow
     ·
      obtain rfl : o = _ := by simpa using ho
      exact ⟨.inl (.inr (.inl rfl)), bvs x.1, hbx, by rw [Reads]; exact ⟨x.2, rfl⟩⟩
   ·
    simp only [look] at h
    split at h
    ·
     rename_i e
     subst e
     cases h
     exact aI.2 ⟨rfl, ht5⟩
    ·
     split at h
     ·
      rename_i e
      subst e
      cases h
      exact aI.2 ⟨rfl, ht2⟩
     · cases h
  refine EL.go (S := ⟨[(5, .val (.v (.pointer (some ⟨Bx, 0, none⟩)))), (2, .val (.v (.pointer (some ⟨w.heap.size, 0, none⟩))))], [.var w.heap.size 69 (.v v2), .row v2 35 32 (pre.map dK), .var Bx 35 (.arr 32 x.1)], []⟩) ?_ _ _ hat
  have hml : (pre.map dK).length = pre.length := Eo _
  have hl1 : ([D.arr 32 x.1] : List D).length = 1 := rfl
  repeat
   (first
    | (apply aH; rfl; exact I.a; iterate 4 rfl) | (apply pq; iterate 9 rfl)
    | (apply bF; rfl; exact saA; iterate 4 rfl)
    | ((apply iM; rfl; exact saA; (iterate 5 rfl); (focus (constructor <;> (first | (simp; done) | (simp; omega))))); intro _)
    | apply EL.nil
    | (with_reducible first | apply EC.seq | apply EC.r0 | apply EC.k0 | apply EC.label | apply EC.b0 | apply EC.x0 | apply EC.ret | apply EK.n0 | apply EK.s0 | apply EK.aB | apply EK.au | apply EK.ah))
  refine ⟨fun a1 w1 h1 => ?_⟩
  rename_i v'
  obtain ⟨⟨hgr, _, hat1, _⟩, hregs, hsz', hdf'⟩ := h1
  obtain ⟨_, cs, hbox, hrd⟩ := hat1 _ (Et ..)
  rw [Reads] at hrd
  rw [hrd.2] at hbox
  obtain ⟨rows, ⟨hrow', hbase⟩, hrows⟩ := hat1 _ (List.mem_cons_of_mem _ (Et ..))
  have hds : pre.map dK ++ [D.arr 32 x.1] = (pre ++ [x]).map dK := by simp [dK]
  rw [hds] at hrow' hrows
  rw [jg _ _ hrows, Eo] at hrow'
  have hown := wH (base := w.heap.size) hrow' fun b hb => by
   rcases hbase b hb with h | h
   · exact hlow b h
   · exact EO hB.size h
  have hsame : ∀ k, k < W.heap.size → ¬ (k = w.heap.size ∨ k = Bx ∨ v2.ownBlock = some k) → w1.heap[k]? = W.heap[k]? := hgr.block
  refine ⟨⟨hgr.size, fun k o _ h0 ho => ?_⟩, ⟨hgr.size, fun k o h0 ho => ?_⟩, ⟨⟨v', hbox, hown, ?_⟩, hB.trans ⟨hgr.os, hgr.tape, hgr.output, hgr.size, fun k hk => ?_⟩⟩⟩
  ·
   refine (hsame k (EJ.1 h0).1 fun h => ?_).trans h0
   rw [(hcell k o h h0).1] at ho
   cases ho
  ·
   refine (hsame k (EJ.1 h0).1 fun h => ?_).trans h0
   rw [(hcell k o h h0).2] at ho
   cases ho
  ·
   constructor
   ·
    rintro rfl
    rcases hown.2 with ⟨_, h0⟩ | ⟨g, cap, cur, h0, _⟩
    · simp at h0
    · simp at h0
   ·
    intro h
    simp at h
  · exact hsame k (by have := hB.size; omega) fun h => by have := hlow k h; omega
 case done =>
  rintro D ys W hD hS ⟨⟨v, hv, hrow, hnil⟩, hB⟩ hK
  have hc := hv.cell
  gi_wp2
  refine ⟨by simp, .inl ⟨_, _, rfl, run_takeDeferred hK, ?_⟩⟩
  exact ⟨_, results_tmp rfl _ _ _, v, ys, rfl, hS, ownsRow_putObj hrow _ hK rfl, hnil, hB.trans (belowK_b (w := w) (ED _) W D _ _ (by simp at hD; omega) hK rfl rfl)⟩
 case stop =>
  rintro D c pre W _ _ h _
  exact h.elim
end E
end Go.Proofs.Ytkhjanjlcdhdcaa
namespace Go.Proofs.Ytkhjanjlcdhdcaa
set_option linter.unusedVariables false
set_option maxRecDepth 20000
set_option maxHeartbeats 1000000
open Go.RowKit Mono
abbrev fU (l m : List UInt8) : Int := Lib.compareBytes l m
theorem tq : ∀ a b : List UInt8, Op.bytesLess a b = decide (fU a b < 0)
 | [], [] => rfl
 | _ :: _, [] => rfl
 | [], _ :: _ => rfl
 | a :: x, b :: y => by
  rw [Op.bytesLess, fU, Lib.compareBytes, tq x y]
  by_cases h1 : a < b
  · simp [h1]
  ·
   by_cases h2 : b < a
   ·
    have h3 : ¬ a = b := fun e => by subst e; exact h1 h2
    simp [h1, h2, h3]
   ·
    have h3 : a = b := by
     apply UInt8.toNat_inj.1
     have := UInt8.not_lt.1 h1
     have := UInt8.not_lt.1 h2
     exact Nat.le_antisymm (UInt8.le_iff_toNat_le.1 (UInt8.not_lt.1 h2)) (UInt8.le_iff_toNat_le.1 (UInt8.not_lt.1 h1))
    subst h3
    simp [h1]
theorem ni {w : World} {v : Value} {l : List UInt8} (h : IsB w v l) : (Extern.Bytes.bytesOf v).run Try.prog w = .ok (bs l) w := by
 obtain ⟨A, c, rfl, h1, h2, hr⟩ := h
 cases A with
 | none =>
  have : l = [] := by
   by_cases hl : bvs l = []
   · simpa [bvs] using hl
   ·
    obtain ⟨b, o, e, _⟩ := hr hl
    cases e
  subst this
  rfl
 | some ad =>
  have := Lib.run_loadBytesX (P := Try.prog) (w := w) (l.map fun x => (x.toNat : Int)) ad .empty fun j x hx => by
   rw [Fp] at hx
   obtain ⟨y, hy, rfl⟩ := Option.map_eq_some_iff.1 hx
   obtain ⟨b, o, e, _, hc⟩ := hr (fun e => by have := congrArg List.length e; rw [bK] at this; simp at this; rw [this] at hy; simp at hy)
   injection e with e
   subst e
   rw [dW]
   exact hc j _ (by simp [bvs, bv, hy])
  rw [Eo] at this
  show (Extern.Bytes.loadBytes ad l.length .empty).run Try.prog w = _
  rw [this]
  have h2 : Lib.bytesOf (l.map fun x => (x.toNat : Int)) = l := by
   simp only [Lib.bytesOf, FQ]
   refine (Gf fun x _ => ?_).trans (List.map_id l)
   simp
  rw [h2]
  simp [bs]
theorem sJ {w : World} {v u : Value} {l m : List UInt8} (h1 : IsB w v l) (h2 : IsB w u m) : (Extern.BytealgCompare.compare #[v, u]).run Try.prog w = .ok (.int .i64 (fU l m)) w := by
 change Sem.run Try.prog (do pure (goInt (Extern.BytealgCompare.cmp (← Extern.Bytes.bytesOf v) (← Extern.Bytes.bytesOf u)))) w = _
 simp only [En, ni h1, ni h2, Ei, Eu, Lib.cmp_eq]
 rfl
theorem jX (v u : Value) (l m : List UInt8) (w : World) (h1 : IsB w v l) (h2 : IsB w u m) : Calls Try.prog 21 #[v, u] w fun e w' => e = .returned (.int .i64 (fU l m)) ∧ w' = w := by
 have hr := sJ h1 h2
 go_enter Try.func21, Try.ntmps21
 go_wp2_with fail
 rw [run_callFunc_extern Try.func36 (by kernel_rfl) (by kernel_rfl) (by kernel_rfl) (e := Extern.BytealgCompare.compare) (by kernel_rfl), hr]
 simp only [Result.andThen]
 rw [Oper.upon_value]
 go_wp2_with fail
 exact bodyPost_ret (results_tmp rfl _ _ _) rfl ⟨rfl, rfl⟩
theorem Dq (a b : List UInt8) : Op.bytesLess a b = decide (a < b) := Go.Proofs.bytesLess_eq a b
theorem jw (a b : List UInt8) : decide (fU a b < 0) = decide (a < b) := by rw [← tq, Dq]
end Go.Proofs.Ytkhjanjlcdhdcaa
namespace Go.Proofs.Ytkhjanjlcdhdcaa
set_option linter.unusedVariables false
set_option maxHeartbeats 1000000
open Go.RowKit Mono Rlp Go.Sort
namespace E
theorem nU {w : World} {g n : Nat} {t : TypeId} {l : List UInt8} (h : w.heap[g]? = some (.cells (bvs l).toArray t (0, 0))) (hl : l.length = n) (hn : n ≤ 64) : IsB w (.slice (some ⟨g, 0, none⟩) n n) l := by
 subst hl
 refine ⟨some ⟨g, 0, none⟩, l.length, rfl, ED _, by simp [maxLen]; omega, fun _ => ⟨g, 0, rfl, (EJ.1 h).1, fun j u hu => ?_⟩⟩
 rw [cell_of_row w g (0 + j) _ t (0, 0) h]
 simpa using hu
theorem qP (w : World) (l : List UInt8) : (Instr.box 33 (bI l)).run Try.prog w = .ok (.pointer (some ⟨w.heap.size, 0, none⟩)) (w.alloc (.cells (bvs l).toArray 33)) := by kernel_rfl
theorem pJ {w : World} {ops : Array Oper} {rest : List Oper} {o : Oper} {a : Act} {Q : Exit → Act → World → Prop} {l : List UInt8} {x : Operand} (hgd : o.guard = none) (ho : o.op = .box 33 x) (hx : a.eval x = bI l)
  (h : wpList Try.prog ops Q rest (a.put o.dst (.pointer (some ⟨w.heap.size, 0, none⟩))) (w.alloc (.cells (bvs l).toArray 33))) : wpList Try.prog ops Q (o :: rest) a w := by
 refine wpList_plain hgd fun _ hK => ?_
 have h1 := hK _ _ h
 unfold Oper.wp execOp
 simp only [ho, hx, En, qP, Ei, Eu]
 exact h1
theorem jM (w : World) (g : Nat) : (Instr.sliceAt 33 (.pointer (some ⟨g, 0, none⟩)) none none none).run Try.prog w = .ok (.slice (some ⟨g, 0, none⟩) 20 20) w := by kernel_rfl
set_option maxRecDepth 100000 in
theorem zT (l m : List UInt8) (hl : l.length = 20) (hm : m.length = 20) (w : World) : Calls Try.prog 20 #[bI l, bI m] w fun e w' => e = .returned (.int .i64 (fU l m)) ∧ ∃ q os', w' = grow (w.drewN q) os' := by
 have mixed : Try.prog.follows .mixedOrders = true := by kernel_rfl
 go_enter Try.func20, Try.ntmps20
 go_wp2_with (guard_target = wpList _ _ _ (Oper.mk _ (Op.box _ _) _ _ _ _ :: _) _ _; refine pJ rfl rfl rfl ?_)
 have h0 : ((w.alloc (.cells (bvs l).toArray 33)).alloc (.cells (bvs m).toArray 33)).heap[w.heap.size]? = some (.cells (bvs l).toArray 33 (0, 0)) := by
  rw [(FK _ _).2 _ (by simp)]
  exact (FK w _).1
 have h1 : ((w.alloc (.cells (bvs l).toArray 33)).alloc (.cells (bvs m).toArray 33)).heap[w.heap.size + 1]? = some (.cells (bvs m).toArray 33 (0, 0)) := by
  have := (FK (w.alloc (.cells (bvs l).toArray 33)) (.cells (bvs m).toArray 33)).1
  simpa using this
 have hw : ∃ q os', (w.alloc (.cells (bvs l).toArray 33)).alloc (.cells (bvs m).toArray 33) = grow (w.drewN q) os' := ⟨0, _, by rw [alloc_eq_grow, alloc_eq_grow, grow_grow]; rfl⟩
 generalize (w.alloc (.cells (bvs l).toArray 33)).alloc (.cells (bvs m).toArray 33) = wq at h0 h1 hw ⊢
 have s0 : ∀ n, (Instr.sliceAt 33 (.pointer (some ⟨w.heap.size, 0, none⟩)) none none none).run Try.prog (wq.drewN n) = .ok (.slice (some ⟨w.heap.size, 0, none⟩) 20 20) (wq.drewN n) := fun n => jM _ _
 have s1 : ∀ n, (Instr.sliceAt 33 (.pointer (some ⟨w.heap.size + 1, 0, none⟩)) none none none).run Try.prog (wq.drewN n) = .ok (.slice (some ⟨w.heap.size + 1, 0, none⟩) 20 20) (wq.drewN n) := fun n => jM _ _
 have hc := Lib.hid fun n => jX _ _ l m (wq.drewN n) (nU h0 hl (by decide)) (nU h1 hm (by decide))
 clear h0 h1
 go_quiet_o ((go_at_call 21; exact (hc.out _).mono fun e w' ⟨he, hw⟩ => ⟨he, _, hw⟩))
 go_wp2_with fail
 obtain ⟨q, os', rfl⟩ := hw
 exact bodyPost_ret (results_tmp rfl _ _ _) rfl ⟨rfl, q + nq, os', by simp [grow, World.drewN, Nat.add_assoc]⟩
theorem qO (w : World) (l : List UInt8) : (Instr.box 35 (bI l)).run Try.prog w = .ok (.pointer (some ⟨w.heap.size, 0, none⟩)) (w.alloc (.cells (bvs l).toArray 35)) := by kernel_rfl
theorem pI {w : World} {ops : Array Oper} {rest : List Oper} {o : Oper} {a : Act} {Q : Exit → Act → World → Prop} {l : List UInt8} {x : Operand} (hgd : o.guard = none) (ho : o.op = .box 35 x) (hx : a.eval x = bI l)
  (h : wpList Try.prog ops Q rest (a.put o.dst (.pointer (some ⟨w.heap.size, 0, none⟩))) (w.alloc (.cells (bvs l).toArray 35))) : wpList Try.prog ops Q (o :: rest) a w := by
 refine wpList_plain hgd fun _ hK => ?_
 have h1 := hK _ _ h
 unfold Oper.wp execOp
 simp only [ho, hx, En, qO, Ei, Eu]
 exact h1
theorem jL (w : World) (g : Nat) : (Instr.sliceAt 35 (.pointer (some ⟨g, 0, none⟩)) none none none).run Try.prog w = .ok (.slice (some ⟨g, 0, none⟩) 32 32) w := by kernel_rfl
set_option maxRecDepth 100000 in
theorem zS (l m : List UInt8) (hl : l.length = 32) (hm : m.length = 32) (w : World) : Calls Try.prog 25 #[bI l, bI m] w fun e w' => e = .returned (.int .i64 (fU l m)) ∧ ∃ q os', w' = grow (w.drewN q) os' := by
 have mixed : Try.prog.follows .mixedOrders = true := by kernel_rfl
 go_enter Try.func25, Try.ntmps25
 go_wp2_with (guard_target = wpList _ _ _ (Oper.mk _ (Op.box _ _) _ _ _ _ :: _) _ _; refine pI rfl rfl rfl ?_)
 have h0 : ((w.alloc (.cells (bvs l).toArray 35)).alloc (.cells (bvs m).toArray 35)).heap[w.heap.size]? = some (.cells (bvs l).toArray 35 (0, 0)) := by
  rw [(FK _ _).2 _ (by simp)]
  exact (FK w _).1
 have h1 : ((w.alloc (.cells (bvs l).toArray 35)).alloc (.cells (bvs m).toArray 35)).heap[w.heap.size + 1]? = some (.cells (bvs m).toArray 35 (0, 0)) := by
  have := (FK (w.alloc (.cells (bvs l).toArray 35)) (.cells (bvs m).toArray 35)).1
  simpa using this
 have hw : ∃ q os', (w.alloc (.cells (bvs l).toArray 35)).alloc (.cells (bvs m).toArray 35) = grow (w.drewN q) os' := ⟨0, _, by rw [alloc_eq_grow, alloc_eq_grow, grow_grow]; rfl⟩
 generalize (w.alloc (.cells (bvs l).toArray 35)).alloc (.cells (bvs m).toArray 35) = wq at h0 h1 hw ⊢
 have s0 : ∀ n, (Instr.sliceAt 35 (.pointer (some ⟨w.heap.size, 0, none⟩)) none none none).run Try.prog (wq.drewN n) = .ok (.slice (some ⟨w.heap.size, 0, none⟩) 32 32) (wq.drewN n) := fun n => jL _ _
 have s1 : ∀ n, (Instr.sliceAt 35 (.pointer (some ⟨w.heap.size + 1, 0, none⟩)) none none none).run Try.prog (wq.drewN n) = .ok (.slice (some ⟨w.heap.size + 1, 0, none⟩) 32 32) (wq.drewN n) := fun n => jL _ _
 have hc := Lib.hid fun n => jX _ _ l m (wq.drewN n) (nU h0 hl (by decide)) (nU h1 hm (by decide))
 clear h0 h1
 go_quiet_o ((go_at_call 21; exact (hc.out _).mono fun e w' ⟨he, hw⟩ => ⟨he, _, hw⟩))
 go_wp2_with fail
 obtain ⟨q, os', rfl⟩ := hw
 exact bodyPost_ret (results_tmp rfl _ _ _) rfl ⟨rfl, q + nq, os', by simp [grow, World.drewN, Nat.add_assoc]⟩
theorem swo (n : Nat) : SWO (Go.Proofs.ltOf fun x y : Ky n => fU x.1 y.1) := by
 have h : ∀ x y : Ky n, Go.Proofs.ltOf (fun x y : Ky n => fU x.1 y.1) x y = decide (x.1 < y.1) := fun x y => jw x.1 y.1
 refine ⟨fun x => ?_, fun x y z h1 h2 => ?_, fun x y z h1 h2 => ?_⟩
 ·
  rw [h]
  simp [List.lt_irrefl]
 ·
  rw [h] at h1 h2 ⊢
  simp only [decide_eq_true_eq] at h1 h2 ⊢
  exact List.lt_trans h1 h2
 ·
  rw [h] at h1 h2 ⊢
  simp only [decide_eq_false_iff_not, List.not_lt] at h1 h2 ⊢
  exact List.le_trans h2 h1
end E
end Go.Proofs.Ytkhjanjlcdhdcaa
