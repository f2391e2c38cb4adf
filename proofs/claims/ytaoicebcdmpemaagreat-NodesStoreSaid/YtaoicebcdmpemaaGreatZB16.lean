/-
 Merged: lemmas of this claim.
 Conditions: none.
-/
import Derived.Test.YtaoicebcdmpemaaGreatZB11
import Derived.RangeFuncNested
import Derived.RangeFuncLeaves
import Derived.RangeFuncBound
import Derived.Maps.RangeRun
import Derived.Maps.AppendAt
import Derived.Sort.MapsRangeIn
import Derived.Shelf.Abstract
import Derived.OwnWalkIn
import Derived.TacticsInMore
import Derived.RegionIn
import Derived.LoopNIn
import Derived.LoopIn
import Derived.WalkKit
import Derived.Test.YtaoicebcdmpemaaGreatZB10
import Derived.Test.YtaoicebcdmpemaaGreatZB15
import Derived.Shelf.RegionOpenPlain
import Derived.Shelf.SlSortCmp.WholeK
import Derived.Shelf.SlGeneric
import Derived.Ground.SlsfProg
import Derived.Test.YtaoicebcdmpemaaGreatRows
import Derived.Shelf.SlSortCmp.NoneTotal
import Derived.Test.YtaoicebcdmpemaaGreatZB0
namespace Go.Proofs.YtaoicebcdmpemaaGreat
set_option linter.unusedVariables false
open Go.RowKit Mono Rlp
open Go.ChangeMaps (setBlock)
namespace E
abbrev Ky (n : Nat) := {l : List UInt8 // l.length = n}
def kv {n : Nat} (k : Ky n) : Value := bg k.1
theorem A8 {es : List MapEntry} (hn : (es.map (·.born)).Nodup) {e : MapEntry} (he : e ∈ es) : es.Perm (e :: es.filter fun x => x.born != e.born) := by
 induction es with
 | nil => cases he
 | cons y es ih =>
  simp only [KD, ML] at hn
  rcases Kz.1 he with rfl | he
  ·
   have : es.filter (fun x => x.born != e.born) = es := List.filter_eq_self.2 fun x hx => by
    have : x.born ≠ e.born := fun h => hn.1 (h ▸ KI.2 ⟨x, hx, rfl⟩)
    simpa using this
   simp [this]
  ·
   have hne : y.born ≠ e.born := fun h => hn.1 (h ▸ KI.2 ⟨e, he, rfl⟩)
   have : (y :: es).filter (fun x => x.born != e.born) = y :: es.filter (fun x => x.born != e.born) := by simp [hne]
   rw [this]
   exact ((ih hn.2 he).cons y).trans (List.Perm.swap e y _)
theorem uz (es : Array MapEntry) (seen : Array Nat) (b : Nat) : (leftOf es (seen.push b)).toList = (leftOf es seen).toList.filter fun x => x.born != b := by
 unfold leftOf
 rw [Array.toList_filter, Array.toList_filter, List.filter_filter]
 refine List.filter_congr fun x _ => ?_
 rw [contains_push]
 cases seen.contains x.born <;> cases h : x.born == b <;> simp [bne, h]
def Rng (w : World) (b r : Nat) (es : Array MapEntry) (clock : Nat) (ss : List Value) (cnt : Nat) : Prop :=
 ∃ since seen c0, w.heap[b]? = some (.map es clock) ∧ w.heap[r]? = some (.mapIter (some b) since seen c0) ∧ (∀ x ∈ es.toList, x.born < since) ∧ since ≤ c0 ∧ since ≤ clock ∧ (leftOf es seen).size = cnt ∧ (ss ++ (leftOf es seen).toList.map (·.key)).Perm (es.toList.map (·.key))
variable {w : World} {b r cnt clock : Nat} {es : Array MapEntry} {ss : List Value}
theorem Rng.left_eq (h : Rng w b r es clock ss cnt) : w.rangeLeft b r = cnt := by
 obtain ⟨since, seen, c0, hb, hr, _, _, _, hc, _⟩ := h
 simp only [World.rangeLeft, hb, hr]
 exact hc
theorem Rng.le (h : Rng w b r es clock ss cnt) : ss.length + cnt = es.size := by
 obtain ⟨since, seen, c0, _, _, _, _, _, hc, hp⟩ := h
 have := hp.length_eq
 simp at this
 omega
theorem Rng.iter (h : Rng w b r es clock ss cnt) : ∃ o : Go.Obj, w.heap[r]? = some o ∧ o.isWalk = true := by
 obtain ⟨since, seen, c0, _, hr, _⟩ := h
 exact ⟨_, hr, rfl⟩
theorem Rng.lt (h : Rng w b r es clock ss cnt) : b < w.heap.size ∧ r < w.heap.size := by
 obtain ⟨since, seen, c0, hb, hr, _⟩ := h
 exact ⟨(KH.1 hb).1, (KH.1 hr).1⟩
theorem Rng.kept {w' : World} (h : Rng w b r es clock ss cnt) (hb : w'.heap[b]? = w.heap[b]?) (hr : w'.heap[r]? = w.heap[r]?) : Rng w' b r es clock ss cnt := by
 obtain ⟨since, seen, c0, h1, h2, rest⟩ := h
 exact ⟨since, seen, c0, hb.trans h1, hr.trans h2, rest⟩
theorem Rng.walks {w' : World} (h : Rng w b r es clock ss cnt) (hk : KeepsWalks w w') : Rng w' b r es clock ss cnt := by
 obtain ⟨since, seen, c0, h1, h2, rest⟩ := h
 exact ⟨since, seen, c0, hk.same _ _ h1 rfl, hk.same _ _ h2 rfl, rest⟩
theorem Rng.start (hb : w.heap[b]? = some (.map es clock)) (hl : ∀ x ∈ es.toList, x.born < clock) : Rng (w.alloc (.mapIter (some b) clock #[] clock)) b w.heap.size es clock [] es.size := by
 have hlt := (KH.1 hb).1
 refine ⟨clock, #[], clock, ((Mc w _).2 b hlt).trans hb, (Mc w _).1, hl, Nat.le_refl _, Nat.le_refl _, ?_, ?_⟩
 · simp [leftOf]
 ·
  simp [leftOf]
  rw [List.filter_eq_self.2 fun _ _ => rfl]
theorem Rng.next (h : Rng w b r es clock ss cnt) (hn : (es.toList.map (·.born)).Nodup) (ty : TypeId) :
  (cnt = 0 ∧ ss.Perm (es.toList.map (·.key)) ∧ (Instr.next (.pointer (some ⟨r, 0, none⟩)) false ty).run Tryz.prog w = .ok (.tuple #[.bool false]) w) ∨
  ∃ e ∈ es.toList, ∃ w' cnt', (Instr.next (.pointer (some ⟨r, 0, none⟩)) false ty).run Tryz.prog w = .ok (.tuple #[.bool true, e.key, e.val]) w' ∧ Rng w' b r es clock (ss ++ [e.key]) cnt' ∧ cnt' < cnt ∧ w.grownBy w' (some r) ∧ w'.heap.size = w.heap.size ∧ (Instr.entry (.pointer (some ⟨r, 0, none⟩))).run Tryz.prog w' = .ok (.tuple #[e.key, e.val]) w' := by
 obtain ⟨since, seen, c0, hb, hr, hold, hsc, hsk, rfl, hp⟩ := h
 have hne : r ≠ b := fun e => by rw [e, hb] at hr; cases hr
 rcases run_next_at (P := Tryz.prog) w ty r b since c0 seen es clock hr hb hold hsc with ⟨h0, hrun⟩ | ⟨e, he, w1, hal, hrun⟩
 ·
  refine .inl ⟨h0, ?_, hrun⟩
  have : leftOf es seen = #[] := Array.eq_empty_of_size_eq_zero h0
  rw [this] at hp
  simpa using hp
 ·
  obtain ⟨hem, hes⟩ := mem_left he
  have hr1 : w1.heap[r]? = some (.mapIter (some b) since seen c0) := by rcases hal with rfl | rfl <;> exact hr
  have hb1 : w1.heap[b]? = some (.map es clock) := by rcases hal with rfl | rfl <;> exact hb
  have hset := MapKept.heap_set (o' := .mapIter (some b) since (seen.push e.born) clock) hr1
  have hb' : (setBlock w1 r (.mapIter (some b) since (seen.push e.born) clock)).heap[b]? = some (.map es clock) := (hset.2 b (fun e1 => hne e1.symm)).trans hb1
  refine .inr ⟨e, hem, _, _, hrun, ⟨since, seen.push e.born, clock, hb', hset.1, hold, hsk, hsk, rfl, ?_⟩, left_shrinks es seen e he, ?_, ?_, run_entry_at _ r b since seen es clock e hset.1 hb' hem hn⟩
  ·
   have hnl : ((leftOf es seen).toList.map (·.born)).Nodup := by
    unfold leftOf
    rw [Array.toList_filter]
    exact hn.sublist (List.filter_sublist.map _)
   have h1 := (A8 hnl he).map (·.key)
   rw [← uz] at h1
   refine List.Perm.trans ?_ hp
   rw [KY]
   exact (List.Perm.append_left ss h1).symm
  · rcases hal with rfl | rfl <;> exact ⟨rfl, rfl, rfl, by simp [setBlock], fun i _ hi => hset.2 i (fun e1 => hi (by rw [e1]))⟩
  · rcases hal with rfl | rfl <;> simp [setBlock]
section
variable {n : Nat} {ops : Array Oper} {rest : List Oper} {o : Oper} {a : Act} {Q : Exit → Act → World → Prop} {F : Fence}
theorem rW (hg : o.guard = none) (ha : ∀ f, o.about Tryz.prog w a.eval = some f → F.fn f) (hd : ∀ c, o.op ≠ .defer c) {v : Value} {w' : World} (hr : (execOp a.eval o).run Tryz.prog w = .ok (.value v) w') (k : wpListIn F n Tryz.prog ops Q rest (a.put o.dst v) w') : wpListIn F n Tryz.prog ops Q (o :: rest) a w := by
 refine wpListIn_plain hg fun K hK => ⟨ha, ?_⟩
 rw [Oper.semAt_plain F _ _ hd, hr]
 exact hK _ _ k
theorem BD (hg : o.guard = none) (m : Operand) (t k e : TypeId) (hop : o.op = Op.range t m) (ht : Tryz.prog.underlying t = some (.map k e)) (hm : a.eval m = .map (some b)) (hb : w.heap[b]? = some (.map es clock))
  (K : wpListIn F n Tryz.prog ops Q rest (a.put o.dst (.pointer (some ⟨w.heap.size, 0, none⟩))) (w.alloc (.mapIter (some b) clock #[] clock))) : wpListIn F n Tryz.prog ops Q (o :: rest) a w := by
 refine rW hg (by simp [Oper.about, hop]) (by rw [hop]; intro c h; cases h) ?_ K
 simp [execOp, hop, hm, run_range_map w t k e b es clock ht hb, Result.andThen]
theorem Es (hg : o.guard = none) (it : Operand) (hop : o.op = Op.next it false) (hit : a.eval it = .pointer (some ⟨r, 0, none⟩)) (h : Rng w b r es clock ss cnt) (hn : (es.toList.map (·.born)).Nodup)
  (hDone : cnt = 0 → ss.Perm (es.toList.map (·.key)) → wpListIn F n Tryz.prog ops Q rest (a.put o.dst (.tuple #[.bool false])) w)
  (hMore : ∀ (e : MapEntry) (w' : World) (cnt' : Nat), e ∈ es.toList → Rng w' b r es clock (ss ++ [e.key]) cnt' → cnt' < cnt → w.grownBy w' (some r) → w'.heap.size = w.heap.size → (Instr.entry (.pointer (some ⟨r, 0, none⟩))).run Tryz.prog w' = .ok (.tuple #[e.key, e.val]) w' → wpListIn F n Tryz.prog ops Q rest (a.put o.dst (.tuple #[.bool true, e.key, e.val])) w') :
  wpListIn F n Tryz.prog ops Q (o :: rest) a w := by
 rcases h.next hn o.type with ⟨h0, hp, hrun⟩ | ⟨e, he, w', cnt', hrun, hrg, hlt, hgr, hsz, hen⟩
 ·
  refine rW hg (by simp [Oper.about, hop]) (by rw [hop]; intro c h; cases h) ?_ (hDone h0 hp)
  simp [execOp, hop, hit, hrun, Result.andThen]
 ·
  refine rW hg (by simp [Oper.about, hop]) (by rw [hop]; intro c h; cases h) ?_ (hMore e w' cnt' he hrg hlt hgr hsz hen)
  simp [execOp, hop, hit, hrun, Result.andThen]
theorem BA {g t : Nat} {l : List UInt8} {cs : List Value} (hg : o.guard = none) (T : TypeId) (x y : Operand) (hop : o.op = Op.store T x y) (hT : assoc tyL T = some (l.length, true)) (hx : a.eval x = .pointer (some ⟨g, 0, none⟩)) (hy : a.eval y = bg l) (hb : w.heap[g]? = some (.cells cs.toArray t (0, 0))) (hs : cs.length = l.length)
  (K : ∀ w', w'.heap[g]? = some (.cells (bvs l).toArray t (0, 0)) → w.grownBy w' (some g) → w'.heap.size = w.heap.size → wpListIn F n Tryz.prog ops Q rest (a.put o.dst undef) w') : wpListIn F n Tryz.prog ops Q (o :: rest) a w := by
 have hr : Reads (fun _ => True) w (.arr l.length l) (bvs l) := by rw [Reads]; exact ⟨rfl, rfl⟩
 obtain ⟨_, _, _, hT'⟩ := tyI hT
 have hrun := iU (T := T) (n := 0) (pre := []) (mid := cs) (post := []) (by rw [hT', Reads.len _ _ hr]; rfl) hr (by simpa using hb) rfl (by rw [aJ, hs])
 have hset := dN (bvs l) [] cs [] w (by rw [aJ, hs]) (by simpa using hb)
 simp only [List.length_nil, J8, MS] at hset
 have hsz : (w.setCells g 0 (bvs l)).heap.size = w.heap.size := by
  have h : ∀ (vs : List Value) (k : Nat) (w : World), (w.setCells g k vs).heap.size = w.heap.size := fun vs => by
   induction vs with
   | nil => intro k w; rfl
   | cons v vs ih =>
    intro k w
    rw [World.setCells, ih]
    show (w.heap.modify _ _).size = _
    rw [Array.size_modify]
  exact h _ _ _
 refine wpListIn_plain hg fun K' hK => ⟨by simp [Oper.about, hop], ?_⟩
 rw [Oper.semAt_plain F _ _ (by rw [hop]; intro c h; cases h)]
 have hrun' : (Instr.storeAt T (.pointer (some ⟨g, 0, none⟩)) (bg l)).run Tryz.prog w = .ok () (w.setCells g 0 (bvs l)) := hrun
 simp only [execOp, hop, hx, hy, Kq, hrun', J6, Ku]
 exact hK _ _ (K _ hset (bU g (bvs l) 0 w) hsz)
theorem Et {g t : Nat} {l : List UInt8} (hg : o.guard = none) (T : TypeId) (x : Operand) (hop : o.op = Op.load T x) (hT : assoc tyL T = some (l.length, true)) (hx : a.eval x = .pointer (some ⟨g, 0, none⟩)) (hb : w.heap[g]? = some (.cells (bvs l).toArray t (0, 0)))
  (K : wpListIn F n Tryz.prog ops Q rest (a.put o.dst (bg l)) w) : wpListIn F n Tryz.prog ops Q (o :: rest) a w := by
 have hr : Reads (fun _ => True) w (.arr l.length l) (bvs l) := by rw [Reads]; exact ⟨rfl, rfl⟩
 refine rW hg (by simp [Oper.about, hop]) (by rw [hop]; intro c h; cases h) ?_ K
 have hrun : (Instr.loadAt T (.pointer (some ⟨g, 0, none⟩))).run Tryz.prog w = .ok (bg l) w := fD (d := .arr l.length l) (tyI hT) hr (dA hb)
 simp only [execOp, hop, hx, Kq, hrun, J6, Ku]
end
end E
end Go.Proofs.YtaoicebcdmpemaaGreat
namespace Go.Proofs.YtaoicebcdmpemaaGreat
set_option linter.unusedVariables false
set_option maxHeartbeats 2000000
open Go.RowKit Mono Rlp
open Go.ChangeMaps (setBlock)
namespace E
set_option maxRecDepth 100000 in
theorem xq (n l Bm b : Nat) (hn1 : 1 ≤ n) (es : Array MapEntry) (clock : Nat) (J Jx : List (Ky 32) → World → Prop)
  (hY : ∀ pre x W, J pre W → pre.length < es.size → YieldAt Fence.wide (n - 1) Tryz.prog l #[kv x] W fun e W' => (e = .returned (.bool true) ∧ J (pre ++ [x]) W' ∧ KeepsWalks W W') ∨ (e = .returned (.bool false) ∧ Jx (pre ++ [x]) W'))
  (W : World) (hJ : AbidesFrom W.heap.size J) (hm : W.cell? ⟨Bm, 0, none⟩ = some (.map (some b))) (hb : W.heap[b]? = some (.map es clock)) (hn : (es.toList.map (·.born)).Nodup) (hl : ∀ x ∈ es.toList, x.born < clock) (hkey : ∀ x ∈ es.toList, ∃ k : Ky 32, x.key = kv k) (h0 : J [] W) :
  CallsIn Fence.wide n Tryz.prog 131 #[.func (.yield l) #[] #[], .pointer (some ⟨Bm, 0, none⟩)] W fun e W' => (∃ v, e = .returned v) ∧ ((∃ ss : List (Ky 32), (ss.map kv).Perm (es.toList.map (·.key)) ∧ J ss W') ∨ (∃ pre : List (Ky 32), True ∧ Jx pre W')) := by
 refine callsIn_of_wp Tryz.func131 rfl trivial ?_ rfl
 simp only [Tryz.ntmps131, List.size_toArray, KN, List.length_nil, Nat.reduceAdd, Nat.reduceSub, Array.replicate_succ, Array.replicate_zero, List.push_toArray, List.append_toArray, J8, Ko]
 have hrg0 := Rng.start hb hl
 have hJ0 := hJ [] W _ none h0 (World.grownBy_alloc W (.mapIter (some b) clock #[] clock) none) (fun r e => by cases e)
 have hlt0 : W.heap.size < (W.alloc (.mapIter (some b) clock #[] clock)).heap.size := by simp
 gi_wp2_with (first
  | (gi_at_range; refine BD rfl _ 88 36 41 rfl Tryz.underlying88 rfl hb ?_)
  | gi_in)
 go_frame
 generalize W.alloc (.mapIter (some b) clock #[] clock) = w0 at hrg0 hJ0 hlt0 ⊢
 gi_loopw [3] (fun _ wr => ∃ (cnt : Nat) (ss : List (Ky 32)), Rng wr b W.heap.size es clock (ss.map kv) cnt ∧ J ss wr)
  (fun _ wr => wr.rangeLeft b W.heap.size)
 case atStart =>
  exact ⟨_, [], hrg0, hJ0⟩
 case round =>
  obtain ⟨cnt, ss, hrg, hJs⟩ := hrel
  gi_wp2_with (first
   | (gi_at_next; refine Es rfl _ rfl rfl hrg hn ?_ ?_)
   | gi_in)
  ·
   intro hc0 hp
   gi_wp2
   go_end0
   exact ⟨⟨_, rfl⟩, .inl ⟨ss, hp, hJs⟩⟩
  ·
   intro e w2 cnt2 he hrg2 hlt hg2 hs2 hen
   obtain ⟨x, hx⟩ := hkey e (by simpa using he)
   have hlen : ss.length < es.size := by have := hrg.le; simp at this; omega
   have hJ2 : J ss w2 := hJ ss wr w2 (some W.heap.size) hJs hg2 (fun r e => by cases e; exact ⟨Nat.le_refl _, hrg.iter⟩)
   rw [hx] at hen hrg2 ⊢
   clear hs2
   have hlt2 := hrg2.lt
   gi_wp2_with (first
    | (
      guard_target = wpListIn _ _ _ _ _ (Oper.mk _ (Op.store _ _ _) _ _ _ _ :: _) _ _; refine BA (l := x.1) (cs := List.replicate 32 (.int .u8 0)) rfl _ _ _ rfl (by rw [x.2]; rfl) rfl rfl (World.alloc_heap_new w2 _) (by rw [x.2]; rfl) ?_
      intro w4 hb4 hg4 hs4
      have hg24 : w2.grownBy w4 none := ⟨hg4.os.trans rfl, hg4.tape.trans rfl, hg4.output.trans rfl, by rw [hs4]; simp, fun i hi _ => (hg4.block i (by simp; omega) (fun e => by cases e; omega)).trans ((Mc w2 _).2 i hi)⟩
      have hJ4 : J ss w4 := hJ ss w2 w4 none hJ2 hg24 (fun r e => by cases e)
      have hrg4 := hrg2.kept (hg24.block b hlt2.1 (by simp)) (hg24.block W.heap.size hlt2.2 (by simp))
      obtain ⟨fn, tmps, assign, body, hy, hR⟩ := hY ss x w4 hJ4 hlen
      rw [show kv x = bg x.1 from rfl] at hy
      have hb4' := Lib.hid hb4
      clear hb4 hs4 hg4 hg24)
    | (guard_target = wpListIn _ _ _ _ _ (Oper.mk _ (Op.load _ _) _ _ _ _ :: _) _ _; refine Et (l := x.1) rfl _ _ rfl (by rw [x.2]; rfl) rfl hb4'.out ?_)
    | gi_in)
   refine hR.mono ?_
   rintro e W3 (⟨rfl, hJ3, hk3⟩ | ⟨rfl, hJx3⟩)
   ·
    gi_wp2
    have hrg3 := hrg4.walks hk3
    go_roundw
    case rel => exact ⟨cnt2, ss ++ [x], by simpa using hrg3, hJ3⟩
    case measure => rw [hrg3.left_eq, hrg.left_eq]; exact hlt
   ·
    gi_wp2
    refine bodyPost_ret (results_none rfl _ _ _) rfl ?_
    exact ⟨⟨_, rfl⟩, .inr ⟨ss ++ [x], trivial, hJx3⟩⟩
end E
end Go.Proofs.YtaoicebcdmpemaaGreat
namespace Go.Proofs.YtaoicebcdmpemaaGreat
set_option linter.unusedVariables false
set_option maxHeartbeats 4000000
open Go.RowKit Mono Rlp
namespace E
theorem D5 {l n : Nat} {P : Program} {row : String} {args : Array Value} {w : World} {R : Value → World → Prop} (h : Rows P row args w R) : RowsIn (Fence.wide.inRound l) n P row args w R := fun c cs _ => by
 obtain ⟨v, w', h1, h2⟩ := h c cs
 exact ⟨v, w', h1, stepsIn_wide.2 h2⟩
theorem Je {l n : Nat} {P : Program} {o : Oper} {a : Act} {w : World} {K K' : Act → World → Prop} {Q : Exit → Act → World → Prop} (hQ : ¬ LetsOut Q) (hd : ∀ c, o.op ≠ .defer c) (hK : ∀ a w, K a w → K' a w) (h : o.wp P a w K Q ∨ (o.asks P a w ∧ LetsOut Q)) : o.wpIn (Fence.wide.inRound l) n P a w K' Q := by
 rcases h with h | ⟨_, h⟩
 ·
  refine ⟨fun _ _ => trivial, ?_⟩
  rw [Oper.semAt_plain _ _ _ hd]
  unfold Oper.wp at h
  cases hr : (execOp a.eval o).run P w with
  | ok x w' =>
   rw [hr] at h
   cases x with
   | value v => exact hK _ _ h
   | skip => exact hK _ _ h
   | defer d => exact hK _ _ h
   | enter f args =>
    refine ⟨fun h => by simp [Fence.wide] at h, CallsIn.inRound l (callsIn_wide.2 (Calls.mono h ?_))⟩
    intro e w'' he
    cases e with
    | returned v => exact hK _ _ he
    | panicked c => exact he
    | outgrown => exact he
   | row row args => exact ⟨fun h => by simp [Fence.wide] at h, D5 (fun c cs => by obtain ⟨v, w', h1, h2⟩ := h c cs; exact ⟨v, w', hK _ _ h1, h2⟩)⟩
   | _ => exact h.elim
  | halt x w' =>
   rw [hr] at h
   cases x <;> first | exact h | exact h.elim
 · exact absurd h hQ
theorem rU {l n : Nat} {P : Program} {ops : Array Oper} {Q : Exit → Act → World → Prop} (hQ : ¬ LetsOut Q) : ∀ (rest : List Oper), (∀ o ∈ rest, ∀ c, o.op ≠ .defer c) → ∀ a w, wpList P ops Q rest a w → wpListIn (Fence.wide.inRound l) n P ops Q rest a w
 | [], _, a, w, h => h
 | o :: rest, hd, a, w, h => by
  rw [wpList] at h
  rw [wpListIn]
  have ih := rU (l := l) (n := n) (P := P) (ops := ops) hQ rest fun o ho => hd o (KC _ ho)
  split
  ·
   rename_i hw
   rw [if_pos hw] at h
   exact Je hQ (hd o (by simp)) ih h
  ·
   rename_i hw
   rw [if_neg hw] at h
   exact ⟨fun _ _ => trivial, ih _ _ h⟩
def kc {n : Nat} (k : Ky n) : List Value := bvs k.1
def dK {n : Nat} (k : Ky n) : D := .arr n k.1
theorem gG {ok : Nat → Prop} {w : World} {n : Nat} : ∀ (ks : List (Ky n)), ah ok w n (ks.map dK) (ks.map kc)
 | [] => by rw [KU, ah]; rfl
 | k :: ks => by
  rw [KD, ah]
  exact ⟨kc k, _, rfl, by unfold kc; rw [aJ, k.2], by unfold dK; rw [Reads]; exact ⟨k.2, rfl⟩, gG ks⟩
theorem lC {ok : Nat → Prop} {w : World} {n : Nat} : ∀ (ks : List (Ky n)) (rows : List (List Value)), ah ok w n (ks.map dK) rows → rows = ks.map kc
 | [], rows, h => by rw [KU, ah] at h; exact h
 | k :: ks, rows, h => by
  rw [KD, ah] at h
  obtain ⟨r, rest, rfl, _, h2, h3⟩ := h
  unfold dK at h2
  rw [Reads] at h2
  rw [lC ks rest h3, h2.2]
  rfl
theorem D8 {w : World} {e : TypeId} {z : Nat} {v : Value} {k : Nat} {xs : List Value} {base : Nat} (h : w.ownsRow 0 e z v k xs) (hb : ∀ b, v.ownBlock = some b → base ≤ b) : w.ownsRow base e z v k xs := by
 refine ⟨h.1, h.2.imp id fun ⟨g, cap, cur, h1, h2, h3⟩ => ⟨g, cap, cur, h1, hb g (by rw [h1]; rfl), h3⟩⟩
theorem nT {w : World} {e : TypeId} {z : Nat} {v : Value} {k : Nat} {xs : List Value} {base : Nat} (h : w.ownsRow base e z v k xs) : w.ownsRow 0 e z v k xs :=
 ⟨h.1, h.2.imp id fun ⟨g, cap, cur, h1, _, h3⟩ => ⟨g, cap, cur, h1, Lm _, h3⟩⟩
theorem nS {w : World} {e : TypeId} {z : Nat} {v : Value} {k : Nat} {xs : List Value} {base : Nat} (h : w.ownsRow base e z v k xs) : v.oneCell' = true := by
 rcases h.2 with ⟨rfl, _⟩ | ⟨g, cap, cur, rfl, _⟩ <;> rfl
set_option maxRecDepth 100000 in
theorem o8 (n : Nat) (hn : 2 ≤ n) (gf : Nat) (lb : Array Value) (eg : ∀ args w, (callFunc gf args).run Tryz.prog w = .ok (.enter gf args) w) (S Sp : List (Ky 32) → Prop) (N : Nat) (hN : N * 32 ≤ 140737488355328) (w : World)
  (hseq : SeqStopsK Fence.wide (n - 1) Tryz.prog gf lb (fun x : Ky 32 => #[kv x]) KeepsWalks S Sp N w) :
  CallsIn Fence.wide n Tryz.prog 155 #[.slice none 0 0, .func (.func gf) #[] lb] w fun e W' => ∃ v ss, e = .returned v ∧ S ss ∧ W'.ownsRow w.heap.size 36 32 v ss.length (ss.map kc).flatten ∧ (v = .slice none 0 0 ↔ ss = []) ∧ Below w.heap.size w W' := by
 refine callsIn_of_wp_marks Tryz.func155 rfl trivial ?_ rfl
 simp only [Tryz.ntmps155, List.size_toArray, KN, List.length_nil, Nat.reduceAdd, Nat.reduceSub, Array.replicate_succ, Array.replicate_zero, List.push_toArray, List.append_toArray, J8, Ko]
 gi_wp2
 have bO := Boxed.new w 69 (.slice none 0 0)
 have hB0 : Below w.heap.size w (w.alloc (.cells #[.slice none 0 0] 69)) := (Below.refl _ w).alloc (Nat.le_refl _) _
 refine wpIn_rangeFunc_ownH rfl (by omega) (gf := gf) (lb := lb) rfl trivial eg hseq walksK_t walksK_b hB0 (fun _ => rfl)
  (fun pre W => (∃ v, Boxed W w.heap.size 69 v ∧ W.ownsRow w.heap.size 36 32 v pre.length (pre.map kc).flatten ∧ (v = .slice none 0 0 ↔ pre = [])) ∧ Below w.heap.size w W)
  (fun _ _ _ => False)
  (OwnFrom.and (Own.from (holdsRow_own w.heap.size w.heap.size 69 36 32 (fun pre : List (Ky 32) => pre.length) (fun pre => (pre.map kc).flatten) (fun pre v => v = .slice none 0 0 ↔ pre = [])) _) (ownFrom_below (Nat.le_refl _) (by simp)))
  (fun _ _ _ _ _ hs _ _ => hs)
  ⟨⟨_, bO, World.ownsRow_nil _ _ _ _, by simp⟩, hB0⟩
  (fun x a' W => ∃ Bx v, w.heap.size < Bx ∧ Boxed W w.heap.size 69 v ∧ v.ownBlock ≠ some Bx ∧ W.heap[Bx]? = some (.cells (bvs x.1).toArray 36 (0, 0)) ∧ a'.tmps.size = 13 ∧ a'.defers = [] ∧ a'.tmps.getD 2 undef = .pointer (some ⟨w.heap.size, 0, none⟩) ∧ a'.tmps.getD 5 undef = .pointer (some ⟨Bx, 0, none⟩))
  ?hAx ?assign ?body ?done ?stop
 case hAx =>
  rintro x a' s X Y row ⟨Bx, v, h1, h2, h3, h4, h5⟩ hg hr
  refine ⟨Bx, v, h1, h2.kept hg fun e => ?_, h3, (hg.block Bx (KH.1 h4).1 fun e => ?_).trans h4, h5⟩
  ·
   obtain ⟨_, o, ho, hc⟩ := hr _ e.symm
   rw [show X.heap[w.heap.size]? = _ from h2] at ho
   cases ho
   cases hc
  ·
   obtain ⟨_, o, ho, hc⟩ := hr _ e.symm
   rw [h4] at ho
   cases ho
   cases hc
 case assign =>
  rintro l pre x W K ⟨⟨v, hv, hrow, hnil⟩, hB⟩ hK
  have e : ((#[7] : Array Tmp).zip #[kv x]).foldl (fun t (p, v) => t.setIfInBounds p v) #[.slice none 0 0, .func (.func gf) #[] lb, .pointer (some ⟨w.heap.size, 0, none⟩), undef, .slice none 0 0, undef, .func (.func gf) #[] lb, undef, undef, undef, undef, undef, undef] = #[.slice none 0 0, .func (.func gf) #[] lb, .pointer (some ⟨w.heap.size, 0, none⟩), undef, .slice none 0 0, undef, .func (.func gf) #[] lb, kv x, undef, undef, undef, undef, undef] := by simp
  rw [e]
  refine wpIn_region_lit (rU (fun ⟨_, _, h⟩ => h) _ (by simp) _ _ ?_)
  have hat : At (⟨W, fun _ => False, fun _ => False, fun _ h => h.elim⟩ : Cx 13) ⟨[(7, .val (.arr 32 x.1)), (2, .val (.v (.pointer (some ⟨w.heap.size, 0, none⟩))))], [], []⟩ { tmps := #[.slice none 0 0, .func (.func gf) #[] lb, .pointer (some ⟨w.heap.size, 0, none⟩), undef, .slice none 0 0, undef, .func (.func gf) #[] lb, kv x, undef, undef, undef, undef, undef], defers := [] } W := by
   refine ⟨⟨.refl _, .nil, fun o ho => by simp at ho, fun f hf => by simp at hf⟩, fun t r h => ?_, rfl, rfl⟩
   simp only [look] at h
   split at h
   ·
    rename_i e
    subst e
    cases h
    exact ⟨bvs x.1, by rw [Reads]; exact ⟨x.2, rfl⟩, rfl⟩
   ·
    split at h
    ·
     rename_i e
     subst e
     cases h
     exact ay.2 ⟨rfl, rfl⟩
    · cases h
  refine EL.go (Q := Exit.then K (fun _ _ _ => False)) (S := ⟨[(7, .val (.arr 32 x.1)), (2, .val (.v (.pointer (some ⟨w.heap.size, 0, none⟩))))], [], []⟩) ?_ _ _ hat
  repeat (refine stp ?_; intros)
  refine ⟨fun a1 w1 h1 => ?_⟩
  rename_i Bx
  obtain ⟨⟨hgr, _, hat1, _⟩, hregs, hsz, hdf⟩ := h1
  obtain ⟨hbx, cs, hheap, hrd⟩ := hat1 _ (Kt ..)
  rw [Reads] at hrd
  rw [hrd.2] at hheap
  have hbx' : W.heap.size ≤ Bx := hbx.resolve_left id
  have hg : W.grownBy w1 none := ⟨hgr.os, hgr.tape, hgr.output, hgr.size, fun i hi _ => hgr.block i hi id⟩
  have hvl := hv.lt
  exact hK a1 w1 ((KeepsOthers.of_grownBy hg fun j o e _ => by cases e).from _) (KeepsWalks.of_grownBy hg fun j o e => by cases e) ⟨⟨v, hv.kept hg (by simp), hrow.kept hg (by cases v.ownBlock with | none => exact .inl rfl | some k => exact .inr (by simp)), hnil⟩, hB.grown hg hB.size fun k e => by cases e⟩
   ⟨Bx, v, by omega, hv.kept hg (by simp), fun e => by have := (hrow.lt _ e).2; omega, hheap, hsz, hdf, (ay.1 (hregs 2 _ rfl)).2, (ay.1 (hregs 5 _ rfl)).2⟩
 case body =>
  rintro l pre x a' W hl hrec ⟨⟨v, hv, hrow, hnil⟩, hB⟩ ⟨Bx, v2, h1, hv2, hne, hbx, hsz, hdf, ht2, ht5⟩ hlen
  obtain rfl : v2 = v := by
   have := (show W.heap[w.heap.size]? = _ from hv2).symm.trans hv
   simpa using this
  have hnr := hv.not_row (by decide) hrow
  have hlow : ∀ b, (b = w.heap.size ∨ b = Bx ∨ v2.ownBlock = some b) → w.heap.size ≤ b := fun b hb => by
   rcases hb with rfl | rfl | hb
   · exact Nat.le_refl _
   · omega
   · exact (hrow.lt _ hb).1
  have hcell : ∀ b o, (b = w.heap.size ∨ b = Bx ∨ v2.ownBlock = some b) → W.heap[b]? = some o → o.isCells = true ∧ o.isWalk = false := fun b o hb ho => by
   rcases hb with rfl | rfl | hb
   ·
    rw [show W.heap[w.heap.size]? = _ from hv] at ho
    cases ho
    exact ⟨rfl, rfl⟩
   ·
    rw [hbx] at ho
    cases ho
    exact ⟨rfl, rfl⟩
   ·
    rcases hrow.2 with ⟨rfl, _⟩ | ⟨g, cap, cur, rfl, _, hgb, _⟩
    · cases hb
    ·
     obtain rfl : g = b := by simpa [Value.ownBlock] using hb
     rw [hgb] at ho
     cases ho
     exact ⟨rfl, rfl⟩
  refine wpIn_block (wpIn_region_lit (rU (fun ⟨_, _, h⟩ => h) _ (by simp) _ _ ?_))
  have hat : At (⟨W, fun _ => False, fun b => b = w.heap.size ∨ b = Bx ∨ v2.ownBlock = some b, fun _ h => h.elim⟩ : Cx 13) ⟨[(5, .val (.v (.pointer (some ⟨Bx, 0, none⟩)))), (2, .val (.v (.pointer (some ⟨w.heap.size, 0, none⟩))))], [.var w.heap.size 69 (.v v2), .row v2 36 32 (pre.map dK), .var Bx 36 (.arr 32 x.1)], []⟩ a' W := by
   refine ⟨⟨.refl _, ?_, fun o ho => ?_, fun f hf => by simp at hf⟩, fun t r h => ?_, hsz, hdf⟩
   ·
    refine .cons (fun p hp b hb => ?_) (.cons (fun p hp b hb => ?_) (.cons (fun p hp => by simp at hp) .nil))
    ·
     obtain rfl : w.heap.size = b := by simpa [Obj.blk] using hb
     rcases Kz.1 hp with rfl | hp
     · exact fun e => hnr e.symm
     ·
      obtain rfl : p = _ := by simpa using hp
      simp only [Obj.blk, ne_eq, MB]
      omega
    ·
     obtain rfl : p = _ := by simpa using hp
     simp only [Obj.blk] at hb ⊢
     exact fun e => hne (hb.trans e.symm)
   ·
    rcases Kz.1 ho with rfl | ho
    · exact ⟨.inl (.inl rfl), [v2], hv, by rw [Reads]; exact ⟨nS hrow, rfl⟩⟩
    ·
     rcases Kz.1 ho with rfl | ho
     ·
      refine ⟨pre.map kc, ⟨?_, fun b hb => .inl (.inr (.inr hb))⟩, gG pre⟩
      rw [Kv]
      exact nT hrow
     ·
      obtain rfl : o = _ := by simpa using ho
      exact ⟨.inl (.inr (.inl rfl)), bvs x.1, hbx, by rw [Reads]; exact ⟨x.2, rfl⟩⟩
   ·
    simp only [look] at h
    split at h
    ·
     rename_i e
     subst e
     cases h
     exact ay.2 ⟨rfl, ht5⟩
    ·
     split at h
     ·
      rename_i e
      subst e
      cases h
      exact ay.2 ⟨rfl, ht2⟩
     · cases h
  refine EL.go (S := ⟨[(5, .val (.v (.pointer (some ⟨Bx, 0, none⟩)))), (2, .val (.v (.pointer (some ⟨w.heap.size, 0, none⟩))))], [.var w.heap.size 69 (.v v2), .row v2 36 32 (pre.map dK), .var Bx 36 (.arr 32 x.1)], []⟩) ?_ _ _ hat
  have hml : (pre.map dK).length = pre.length := Kv _
  have hl1 : ([D.arr 32 x.1] : List D).length = 1 := rfl
  repeat (refine stp ?_; intros)
  refine ⟨fun a1 w1 h1 => ?_⟩
  rename_i v'
  obtain ⟨⟨hgr, _, hat1, _⟩, hregs, hsz', hdf'⟩ := h1
  obtain ⟨_, cs, hbox, hrd⟩ := hat1 _ (Kt ..)
  rw [Reads] at hrd
  rw [hrd.2] at hbox
  obtain ⟨rows, ⟨hrow', hbase⟩, hrows⟩ := hat1 _ (KC _ (Kt ..))
  have hds : pre.map dK ++ [D.arr 32 x.1] = (pre ++ [x]).map dK := by simp [dK]
  rw [hds] at hrow' hrows
  rw [lC _ _ hrows, Kv] at hrow'
  have hown := D8 (base := w.heap.size) hrow' fun b hb => by
   rcases hbase b hb with h | h
   · exact hlow b h
   · exact La hB.size h
  have hsame : ∀ k, k < W.heap.size → ¬ (k = w.heap.size ∨ k = Bx ∨ v2.ownBlock = some k) → w1.heap[k]? = W.heap[k]? := hgr.block
  refine ⟨⟨hgr.size, fun k o _ h0 ho => ?_⟩, ⟨hgr.size, fun k o h0 ho => ?_⟩, ⟨⟨v', hbox, hown, ?_⟩, hB.trans ⟨hgr.os, hgr.tape, hgr.output, hgr.size, fun k hk => ?_⟩⟩⟩
  ·
   refine (hsame k (KH.1 h0).1 fun h => ?_).trans h0
   rw [(hcell k o h h0).1] at ho
   cases ho
  ·
   refine (hsame k (KH.1 h0).1 fun h => ?_).trans h0
   rw [(hcell k o h h0).2] at ho
   cases ho
  ·
   constructor
   ·
    rintro rfl
    rcases hown.2 with ⟨_, h0⟩ | ⟨g, cap, cur, h0, _⟩
    · simp at h0
    · simp at h0
   ·
    intro h
    simp at h
  · exact hsame k (by have := hB.size; omega) fun h => by have := hlow k h; omega
 case done =>
  rintro D ys W hD hS ⟨⟨v, hv, hrow, hnil⟩, hB⟩ hK
  have hc := hv.cell
  gi_wp2
  refine ⟨by simp, .inl ⟨_, _, rfl, run_takeDeferred hK, ?_⟩⟩
  exact ⟨_, results_tmp rfl _ _ _, v, ys, rfl, hS, ownsRow_putObj hrow _ hK rfl, hnil, hB.trans (belowK_b (w := w) (Nat.le_refl _) W D _ _ (by simp at hD; omega) hK rfl rfl)⟩
 case stop =>
  rintro D c pre W _ _ h _
  exact h.elim
end E
end Go.Proofs.YtaoicebcdmpemaaGreat
namespace Go.Proofs.YtaoicebcdmpemaaGreat
set_option linter.unusedVariables false
set_option maxHeartbeats 1000000
open Go.RowKit Mono Rlp Go.Sort
namespace E
theorem yA {w : World} {g n : Nat} {t : TypeId} {l : List UInt8} (h : w.heap[g]? = some (.cells (bvs l).toArray t (0, 0))) (hl : l.length = n) (hn : n ≤ 64) : IsB w (.slice (some ⟨g, 0, none⟩) n n) l := by
 subst hl
 refine ⟨some ⟨g, 0, none⟩, l.length, rfl, Nat.le_refl _, by simp [maxLen]; omega, fun _ => ⟨g, 0, rfl, (KH.1 h).1, fun j u hu => ?_⟩⟩
 rw [cell_of_row w g (0 + j) _ t (0, 0) h]
 simpa using hu
theorem kF (w : World) (l : List UInt8) : (Instr.box 36 (bg l)).run Tryz.prog w = .ok (.pointer (some ⟨w.heap.size, 0, none⟩)) (w.alloc (.cells (bvs l).toArray 36)) := by kernel_rfl
theorem pO {w : World} {ops : Array Oper} {rest : List Oper} {o : Oper} {a : Act} {Q : Exit → Act → World → Prop} {l : List UInt8} {x : Operand} (hgd : o.guard = none) (ho : o.op = .box 36 x) (hx : a.eval x = bg l)
  (h : wpList Tryz.prog ops Q rest (a.put o.dst (.pointer (some ⟨w.heap.size, 0, none⟩))) (w.alloc (.cells (bvs l).toArray 36))) : wpList Tryz.prog ops Q (o :: rest) a w := by
 refine wpList_plain hgd fun _ hK => ?_
 have h1 := hK _ _ h
 unfold Oper.wp execOp
 simp only [ho, hx, Kq, kF, J6, Ku]
 exact h1
theorem iV (w : World) (g : Nat) : (Instr.sliceAt 36 (.pointer (some ⟨g, 0, none⟩)) none none none).run Tryz.prog w = .ok (.slice (some ⟨g, 0, none⟩) 32 32) w := by kernel_rfl
set_option maxRecDepth 100000 in
theorem vg (l m : List UInt8) (hl : l.length = 32) (hm : m.length = 32) (w : World) : Calls Tryz.prog 95 #[bg l, bg m] w fun e w' => e = .returned (.int .i64 (iM l m)) ∧ ∃ q os', w' = grow (w.drewN q) os' := by
 have mixed : Tryz.prog.follows .mixedOrders = true := by kernel_rfl
 go_enter Tryz.func95, Tryz.ntmps95
 go_wp2_with (guard_target = wpList _ _ _ (Oper.mk _ (Op.box _ _) _ _ _ _ :: _) _ _; refine pO rfl rfl rfl ?_)
 have h0 : ((w.alloc (.cells (bvs l).toArray 36)).alloc (.cells (bvs m).toArray 36)).heap[w.heap.size]? = some (.cells (bvs l).toArray 36 (0, 0)) := by
  rw [(Mc _ _).2 _ (by simp)]
  exact (Mc w _).1
 have h1 : ((w.alloc (.cells (bvs l).toArray 36)).alloc (.cells (bvs m).toArray 36)).heap[w.heap.size + 1]? = some (.cells (bvs m).toArray 36 (0, 0)) := by
  have := (Mc (w.alloc (.cells (bvs l).toArray 36)) (.cells (bvs m).toArray 36)).1
  simpa using this
 have hw : ∃ q os', (w.alloc (.cells (bvs l).toArray 36)).alloc (.cells (bvs m).toArray 36) = grow (w.drewN q) os' := ⟨0, _, by rw [alloc_eq_grow, alloc_eq_grow, grow_grow]; rfl⟩
 generalize (w.alloc (.cells (bvs l).toArray 36)).alloc (.cells (bvs m).toArray 36) = wq at h0 h1 hw ⊢
 have s0 : ∀ n, (Instr.sliceAt 36 (.pointer (some ⟨w.heap.size, 0, none⟩)) none none none).run Tryz.prog (wq.drewN n) = .ok (.slice (some ⟨w.heap.size, 0, none⟩) 32 32) (wq.drewN n) := fun n => iV _ _
 have s1 : ∀ n, (Instr.sliceAt 36 (.pointer (some ⟨w.heap.size + 1, 0, none⟩)) none none none).run Tryz.prog (wq.drewN n) = .ok (.slice (some ⟨w.heap.size + 1, 0, none⟩) 32 32) (wq.drewN n) := fun n => iV _ _
 have hc := Lib.hid fun n => oW _ _ l m (wq.drewN n) (yA h0 hl (by decide)) (yA h1 hm (by decide))
 clear h0 h1
 go_quiet_o ((go_at_call 132; exact (hc.out _).mono fun e w' ⟨he, hw⟩ => ⟨he, _, hw⟩))
 go_wp2_with fail
 obtain ⟨q, os', rfl⟩ := hw
 exact bodyPost_ret (results_tmp rfl _ _ _) rfl ⟨rfl, q + nq, os', by simp [grow, World.drewN, Nat.add_assoc]⟩
theorem swo (n : Nat) : SWO (Go.Proofs.ltOf fun x y : Ky n => iM x.1 y.1) := by
 have h : ∀ x y : Ky n, Go.Proofs.ltOf (fun x y : Ky n => iM x.1 y.1) x y = decide (x.1 < y.1) := fun x y => mX x.1 y.1
 refine ⟨fun x => ?_, fun x y z h1 h2 => ?_, fun x y z h1 h2 => ?_⟩
 ·
  rw [h]
  simp [List.lt_irrefl]
 ·
  rw [h] at h1 h2 ⊢
  simp only [decide_eq_true_eq] at h1 h2 ⊢
  exact List.lt_trans h1 h2
 ·
  rw [h] at h1 h2 ⊢
  simp only [decide_eq_false_iff_not, List.not_lt] at h1 h2 ⊢
  exact List.le_trans h2 h1
end E
end Go.Proofs.YtaoicebcdmpemaaGreat
namespace Go.Proofs.YtaoicebcdmpemaaGreat
open Go.Shelf
def rD : Go.Shelf.Ren := ⟨fun | 6 => 130 | 15 => 159 | 14 => 158 | 28 => 189 | 29 => 190 | 20 => 181 | 21 => 182 | 22 => 183 | 23 => 184 | 24 => 185 | 25 => 186 | 26 => 187 | 27 => 188 | 46 => 201 | 47 => 202 | 48 => 203 | 49 => 204 | 50 => 205 | 57 => 208 | n => n, fun | 22 => 69 | 24 => 36 | 25 => 152 | 3 => 3 | 39 => 139 | 0 => 0 | 53 => 262 | 55 => 180 | 4 => 4 | 46 => 256 | 45 => 255 | 50 => 232 | 5 => 5 | 9 => 9 | 66 => 270 | 70 => 274 | 76 => 278 | 77 => 279 | n => n, fun | n => n⟩
theorem tq : Go.Proofs.SlLaysF0.n6 Tryz.prog rD := {
 mixed := by kernel_rfl
 f6 := ⟨Tryz.f130.name, by decide, Tryz.func130.trans (congrArg some (by kernel_rfl))⟩
 f14 := ⟨Tryz.f158.name, by decide, Tryz.func158.trans (congrArg some (by kernel_rfl))⟩
 f15 := Tryz.func159.trans (congrArg some (by kernel_rfl))
 f20 := ⟨Tryz.f181.name, by decide, Tryz.func181.trans (congrArg some (by kernel_rfl))⟩
 f21 := ⟨Tryz.f182.name, by decide, Tryz.func182.trans (congrArg some (by kernel_rfl))⟩
 f22 := ⟨Tryz.f183.name, by decide, Tryz.func183.trans (congrArg some (by kernel_rfl))⟩
 f23 := ⟨Tryz.f184.name, by decide, Tryz.func184.trans (congrArg some (by kernel_rfl))⟩
 f24 := ⟨Tryz.f185.name, by decide, Tryz.func185.trans (congrArg some (by kernel_rfl))⟩
 f25 := ⟨Tryz.f186.name, by decide, Tryz.func186.trans (congrArg some (by kernel_rfl))⟩
 f26 := ⟨Tryz.f187.name, by decide, Tryz.func187.trans (congrArg some (by kernel_rfl))⟩
 f27 := ⟨Tryz.f188.name, by decide, Tryz.func188.trans (congrArg some (by kernel_rfl))⟩
 f28 := Tryz.func189.trans (congrArg some (by kernel_rfl))
 f29 := Tryz.func190.trans (congrArg some (by kernel_rfl))
 f46 := ⟨Tryz.f201.name, by decide, Tryz.func201.trans (congrArg some (by kernel_rfl))⟩
 f47 := Tryz.func202.trans (congrArg some (by kernel_rfl))
 f48 := Tryz.func203.trans (congrArg some (by kernel_rfl))
 f49 := ⟨Tryz.f204.name, by decide, Tryz.func204.trans (congrArg some (by kernel_rfl))⟩
 f50 := ⟨Tryz.f205.name, by decide, Tryz.func205.trans (congrArg some (by kernel_rfl))⟩
 f57 := ⟨Tryz.f208.name, by decide, Tryz.func208.trans (congrArg some (by kernel_rfl))⟩
 t0 := Tryz.underlying0
 a0 := Tryz.isAgg0
 z0 := Tryz.sizeOf0
 v0 := Tryz.zeroValue0
 t3 := Tryz.underlying3
 a3 := Tryz.isAgg3
 z3 := Tryz.sizeOf3
 v3 := Tryz.zeroValue3
 t4 := Tryz.underlying4
 a4 := Tryz.isAgg4
 z4 := Tryz.sizeOf4
 v4 := Tryz.zeroValue4
 t5 := Tryz.underlying5
 a5 := Tryz.isAgg5
 z5 := Tryz.sizeOf5
 v5 := Tryz.zeroValue5
 t9 := Tryz.underlying9
 a9 := Tryz.isAgg9
 z9 := Tryz.sizeOf9
 v9 := Tryz.zeroValue9
 t22 := Tryz.underlying69
 a22 := Tryz.isAgg69
 z22 := Tryz.sizeOf69
 v22 := Tryz.zeroValue69
 t25 := Tryz.underlying152
 a25 := Tryz.isAgg152
 z25 := Tryz.sizeOf152
 v25 := Tryz.zeroValue152
 t39 := Tryz.underlying139
 a39 := Tryz.isAgg139
 z39 := Tryz.sizeOf139
 v39 := Tryz.zeroValue139
 t45 := Tryz.underlying255
 a45 := Tryz.isAgg255
 z45 := Tryz.sizeOf255
 v45 := Tryz.zeroValue255
 t46 := Tryz.underlying256
 a46 := Tryz.isAgg256
 z46 := Tryz.sizeOf256
 v46 := Tryz.zeroValue256
 t50 := Tryz.underlying232
 a50 := Tryz.isAgg232
 z50 := Tryz.sizeOf232
 v50 := Tryz.zeroValue232
 t53 := Tryz.underlying262
 a53 := Tryz.isAgg262
 z53 := Tryz.sizeOf262
 v53 := Tryz.zeroValue262
 t55 := Tryz.underlying180
 a55 := Tryz.isAgg180
 z55 := Tryz.sizeOf180
 v55 := Tryz.zeroValue180
 t66 := Tryz.underlying270
 a66 := Tryz.isAgg270
 z66 := Tryz.sizeOf270
 v66 := Tryz.zeroValue270
 t70 := Tryz.underlying274
 a70 := Tryz.isAgg274
 z70 := Tryz.sizeOf274
 v70 := Tryz.zeroValue274
 t76 := Tryz.underlying278
 a76 := Tryz.isAgg278
 z76 := Tryz.sizeOf278
 v76 := Tryz.zeroValue278
 t77 := Tryz.underlying279
 a77 := Tryz.isAgg279
 z77 := Tryz.sizeOf279
 v77 := Tryz.zeroValue279 }
end Go.Proofs.YtaoicebcdmpemaaGreat
namespace Go.Proofs.YtaoicebcdmpemaaGreat
set_option linter.unusedVariables false
set_option maxRecDepth 20000
set_option maxHeartbeats 2000000
open Go.RowKit Mono Rlp Go.Sort
namespace E
def sortL (l : List (List UInt8)) : List (List UInt8) := l.mergeSort fun a b => decide (a ≤ b)
theorem dV (l : List (List UInt8)) : (sortL l).Perm l := List.mergeSort_perm _ _
theorem rF (l : List (List UInt8)) : (sortL l).Pairwise (· ≤ ·) := by
 have h := List.pairwise_mergeSort (le := fun a b : List UInt8 => decide (a ≤ b)) (fun a b c h1 h2 => by simp only [decide_eq_true_eq] at h1 h2 ⊢; exact List.le_trans h1 h2) (fun a b => by simp only [Bool.or_eq_true, decide_eq_true_eq]; exact List.le_total a b) l
 exact h.imp fun h => by simpa using h
theorem tu {l m : List (List UInt8)} (hp : m.Perm l) (hs : m.Pairwise (· ≤ ·)) : m = sortL l :=
 List.Perm.eq_of_pairwise (fun a b _ _ h1 h2 => List.le_antisymm h1 h2) hs (rF l) (hp.trans (dV l).symm)
theorem yG {n : Nat} (hn : 0 < n) [Inhabited (Ky n)] : ∀ (ks : List (Ky n)) (t : Nat), t < ks.length * n → (ks.map kc).flatten[t]? = some ((kc (ks[t / n]!))[t % n]!)
 | [], t, h => by simp at h
 | k :: ks, t, h => by
  have hk : (kc k).length = n := by unfold kc; rw [aJ, k.2]
  rw [KD, KG]
  by_cases ht : t < n
  ·
   rw [LC (by omega), Nat.div_eq_of_lt ht, Nat.mod_eq_of_lt ht]
   simp [hk, ht]
  ·
   rw [Lr (by omega), hk, yG hn ks (t - n) (by simp [Nat.add_mul] at h; omega)]
   have h1 : t / n = (t - n) / n + 1 := by
    conv => lhs; rw [show t = t - n + n by omega, Nat.add_div_right _ hn]
   have h2 : t % n = (t - n) % n := by
    conv => lhs; rw [show t = t - n + n by omega, Nat.add_mod_right]
   rw [h1, h2]
   simp
theorem jX {n : Nat} (hn : 0 < n) [Inhabited (Ky n)] (ks : List (Ky n)) : (flatK kc n ks.toArray).toList = (ks.map kc).flatten := by
 have hl : (ks.map kc).flatten.length = ks.length * n := by
  have : ∀ ks : List (Ky n), (ks.map kc).flatten.length = ks.length * n := fun ks => by
   induction ks with
   | nil => simp
   | cons k ks ih =>
    have hk : (kc k).length = n := by unfold kc; rw [aJ, k.2]
    rw [KD, KG, List.length_append, ih, hk, KN, LW, Md, Nat.add_comm]
  exact this ks
 refine List.ext_getElem? fun t => ?_
 by_cases ht : t < ks.length * n
 ·
  rw [yG hn ks t ht, MZ]
  have hs : t < (flatK kc n ks.toArray).size := by simpa using ht
  have := get_flatK kc n ks.toArray t (by simpa using ht)
  rw [getElem!_pos _ t hs] at this
  rw [MR hs, this]
  simp
 · rw [List.getElem?_eq_none (by simp; omega), List.getElem?_eq_none (by omega)]
theorem BG {w : World} {g n : Nat} {os : Array Go.Obj} {cur : Array Value} {e : TypeId} {fr : Nat × Nat} (F : Array Value) (hb : w.heap[g]? = some (.cells cur e fr)) :
  (grow (putRow id (Sort.ahead w n) g 0 F) os).heap[g]? = some (.cells (putCells id 0 F cur) e fr) := by
 have hg : g < w.heap.size := (KH.1 hb).1
 rw [heap_grow_old _ _ (by simpa using hg)]
 simp [putRow, mapBlock, Sort.ahead, Array.getElem?_modify, hb, onCells]
theorem zF {w : World} {g n : Nat} {os : Array Go.Obj} (F : Array Value) : w.grownBy (grow (putRow id (Sort.ahead w n) g 0 F) os) (some g) := by
 refine ⟨rfl, rfl, rfl, by simp, fun k hk hne => ?_⟩
 rw [heap_grow_old _ _ (by simpa using hk)]
 have : g ≠ k := fun e => hne (by rw [e])
 simp [putRow, mapBlock, Sort.ahead, Array.getElem?_modify, this]
theorem Au (cur F : Array Value) (h : F.size ≤ cur.size) : (putCells id 0 F cur).toList.take F.size = F.toList := by
 apply List.ext_getElem?
 intro j
 by_cases hj : j < F.size
 ·
  rw [List.getElem?_take_of_lt hj, MZ]
  simp [putCells, hj, show j < cur.size by omega]
 · rw [List.getElem?_take_eq_none (by omega), List.getElem?_eq_none (by simp; omega)]
instance inh_word : Inhabited (Ky 32) := ⟨⟨List.replicate 32 0, by simp⟩⟩
theorem rE (cf : FuncId) (hc : ∀ l m : List UInt8, l.length = 32 → m.length = 32 → ∀ w, Calls Tryz.prog cf #[bg l, bg m] w fun e w' => e = .returned (.int .i64 (iM l m)) ∧ ∃ q os', w' = grow (w.drewN q) os') (ec : ∀ args w, (callFunc cf args).run Tryz.prog w = .ok (.enter cf args) w)
  (g cap : Nat) (ks : List (Ky 32)) (w : World) (hl : ks.length < 4611686018427387904) (hH : HoldsK kc 32 w g 0 ks.toArray) (hb : g < w.heap.size) :
  Calls Tryz.prog 130 #[.slice (some ⟨g, 0, none⟩) ks.length cap, .func (.func cf) #[] #[]] w fun e w' => e = .returned (.tuple #[]) ∧ ∃ n os, w' = grow (putRow id (Sort.ahead w n) g 0 (flatK kc 32 (ks.mergeSort fun x y => decide (x.1 ≤ y.1)).toArray)) os := by
 have hT : ∀ x y : Ky 32, ltOf (fun x y : Ky 32 => iM x.1 y.1) x y = false → ltOf (fun x y : Ky 32 => iM x.1 y.1) y x = false → x = y := fun x y h1 h2 => by
  rw [show ltOf (fun x y : Ky 32 => iM x.1 y.1) x y = decide (x.1 < y.1) from mX x.1 y.1] at h1
  rw [show ltOf (fun x y : Ky 32 => iM x.1 y.1) y x = decide (y.1 < x.1) from mX y.1 x.1] at h2
  simp only [decide_eq_false_iff_not, List.not_lt] at h1 h2
  exact Subtype.ext (List.le_antisymm h2 h1)
 have h := AnyQ.slices_SortFunc_total tq 32 Tryz.isAgg36 Tryz.sizeOf36 kc (fun x => by unfold kc; rw [aJ, x.2]) (fun x v hv => iH x.1 v hv) (fun x y : Ky 32 => iM x.1 y.1) (swo 32) cf #[] g 0 cap ks.toArray w ec (fun m os dk hs x y => hc x.1 y.1 x.2 y.2 _) hH hb (by simpa using hl) hT
 have hf : (fun x y : Ky 32 => !(ltOf fun x y : Ky 32 => iM x.1 y.1) y x) = fun x y => decide (x.1 ≤ y.1) := by
  funext x y
  rw [show ltOf (fun x y : Ky 32 => iM x.1 y.1) y x = decide (y.1 < x.1) from mX y.1 x.1]
  by_cases h : y.1 < x.1
  · simp [h, List.not_le.2 h]
  · simp [h, List.not_lt.1 h]
 rw [hf] at h
 exact h.mono fun e w' ⟨he, n, os, hw⟩ => ⟨he, n, os, hw⟩
theorem yX (cf : FuncId) (hc : ∀ l m : List UInt8, l.length = 32 → m.length = 32 → ∀ w, Calls Tryz.prog cf #[bg l, bg m] w fun e w' => e = .returned (.int .i64 (iM l m)) ∧ ∃ q os', w' = grow (w.drewN q) os') (ec : ∀ args w, (callFunc cf args).run Tryz.prog w = .ok (.enter cf args) w)
  (v : Value) (ks : List (Ky 32)) (hl : ks.length < 4611686018427387904) :
  FnM 130 [.v v, .v (.func (.func cf) #[] #[])] [.row v 36 32 (ks.map dK)] (fun r os' => r = .tpl [] ∧ os' = [.row v 36 32 ((ks.mergeSort fun x y => decide (x.1 ≤ y.1)).map dK)]) := by
 constructor
 intro ok w xs hok hown hr
 obtain ⟨x1, _, rfl, hx1, x2, _, rfl, hx2, rfl⟩ := hr
 obtain rfl := (ay.1 hx1).2
 obtain rfl := (ay.1 hx2).2
 obtain ⟨rows, ⟨hrow, hbase⟩, hrows⟩ := hown.at_ _ (Kt ..)
 rw [lC _ _ hrows, Kv] at hrow
 rcases hrow.2 with ⟨rfl, h0⟩ | ⟨g, cap, cur, rfl, _, hgb, r1, r2, r3, r4⟩
 ·
  obtain rfl : ks = [] := MC h0
  have hms : ([] : List (Ky 32)).mergeSort (fun x y => decide (x.1 ≤ y.1)) = [] := by simp
  rw [hms]
  refine (AnyF.slices_SortFunc_none tq none 0 (.func (.func cf) #[] #[]) w).mono ?_
  rintro e w' ⟨rfl, rfl⟩
  refine ⟨_, .tpl [], _, rfl, ⟨rfl, rfl⟩, ⟨.refl _, hown.apart, fun o ho => ?_⟩, [], rfl, rfl⟩
  obtain rfl : o = _ := by simpa using ho
  exact ⟨[], ⟨⟨by simp, .inl ⟨rfl, rfl⟩⟩, fun b hb => by cases hb⟩, gG []⟩
 ·
  have hlt := (KH.1 hgb).1
  have hml : (ks.mergeSort fun x y => decide (x.1 ≤ y.1)).length = ks.length := List.length_mergeSort _
  have hH : HoldsK kc 32 w g 0 ks.toArray := fun j hj => by
   have hj' : j < ks.length * 32 := by simpa using hj
   have h1 : (cur.toList.take (ks.length * 32))[j]? = (ks.map kc).flatten[j]? := by rw [r4]
   rw [List.getElem?_take_of_lt hj', ← jX (by decide)] at h1
   refine ⟨?_, by simp [World.frozen?, hgb]⟩
   rw [cell_of_row w g (0 + j) cur 36 (0, 0) hgb, KJ, ← MZ, h1, MZ, MR hj, getElem!_pos _ j hj]
   rfl
  refine (rE cf hc ec g cap ks w hl hH hlt).mono ?_
  rintro e w' ⟨rfl, n, os, rfl⟩
  have hg := zF (w := w) (g := g) (n := n) (os := os) (flatK kc 32 (ks.mergeSort fun x y => decide (x.1 ≤ y.1)).toArray)
  have hh := BG (n := n) (os := os) (flatK kc 32 (ks.mergeSort fun x y => decide (x.1 ≤ y.1)).toArray) hgb
  have hF : (flatK kc 32 (ks.mergeSort fun x y => decide (x.1 ≤ y.1)).toArray).size = ks.length * 32 := by rw [size_flatK]; simp [hml]
  have htk := Au cur (flatK kc 32 (ks.mergeSort fun x y => decide (x.1 ≤ y.1)).toArray) (by rw [hF, r3]; exact Nb _ r1)
  rw [hF, jX (by decide)] at htk
  refine ⟨_, .tpl [], _, rfl, ⟨rfl, rfl⟩, ⟨⟨hg.os, hg.tape, hg.output, hg.size, fun k hk hn => hg.block k hk fun e => hn ?_⟩, .cons (fun _ h => by simp at h) .nil, fun o ho => ?_⟩, [], rfl, rfl⟩
  ·
   cases e
   exact ⟨_, Kt .., rfl⟩
  ·
   obtain rfl : o = _ := by simpa using ho
   refine ⟨_, ⟨⟨?_, .inr ⟨g, cap, _, ?_, Lm _, hh, ?_, r2, ?_, ?_⟩⟩, fun b hb => .inl ⟨_, Kt .., hb⟩⟩, gG _⟩
   · rw [← jX (by decide), Array.length_toList, hF, Kv, hml]
   · rw [Kv, hml]
   ·
    rw [Kv, hml]
    exact r1
   · simp [putCells, r3]
   ·
    rw [Kv, hml]
    exact htk
def unV : Value → List UInt8
 | .agg cs => cs.toList.map fun v => match v with
  | .int _ n => UInt8.ofNat n.toNat
  | _ => 0
 | _ => []
theorem xR (l : List UInt8) : unV (bg l) = l := by
 unfold bg unV bvs
 simp only [LU]
 refine (MF fun b _ => ?_).trans (List.map_id l)
 simp [bv]
theorem o9 {α β γ : Type} {R : α → β → Prop} {f : α → γ} {g : β → γ} (h : ∀ a b, R a b → f a = g b) : ∀ {l : List α} {m : List β}, dY R l m → l.map f = m.map g
 | _, _, .nil => rfl
 | _, _, .cons h1 h2 => by rw [KD, KD, h _ _ h1, o9 h h2]
theorem vH {α β : Type} {R : α → β → Prop} {l : List α} {m : List β} (h : dY R l m) {a : α} (ha : a ∈ l) : ∃ b ∈ m, R a b := by
 induction h with
 | nil => cases ha
 | cons h1 h2 ih =>
  rcases Kz.1 ha with rfl | ha
  · exact ⟨_, Kt .., h1⟩
  ·
   obtain ⟨b, hb, hr⟩ := ih ha
   exact ⟨b, KC _ hb, hr⟩
theorem mG {α β : Type} {R : α → β → Prop} : ∀ {l : List α} {m : List β}, dY R l m → l.length = m.length
 | _, _, .nil => rfl
 | _, _, .cons _ h2 => by rw [KN, KN, mG h2]
theorem Gs {n : Nat} (ks : List (Ky n)) : ks.map dK = (ks.map (·.1)).map (D.arr n) := by
 rw [LU]
 rfl
theorem uV : ∀ args w, (callFunc 131 args).run Tryz.prog w = .ok (.enter 131 args) w := enters_of Tryz.func131 (by kernel_rfl) rfl
theorem vG (g m c : Nat) (es : List Ent) (hl : es.length * 32 ≤ 140737488355328) : FnM 155 [.v (.slice none 0 0), .v (.func (.func 131) #[] #[.pointer (some ⟨g, 0, none⟩)])] [.var g 88 (.v (.map (some m))), .map m 32 c es] (fun r os' => ∃ v, ∃ ks : List (Ky 32), r = .val (.v v) ∧ (ks.map (·.1)).Perm (es.map (·.2.1)) ∧ os' = [.row v 36 32 (ks.map dK), .var g 88 (.v (.map (some m))), .map m 32 c es]) := by
 constructor
 intro ok w xs hok hown hr
 obtain ⟨x1, _, rfl, hx1, x2, _, rfl, hx2, rfl⟩ := hr
 obtain rfl := (ay.1 hx1).2
 obtain rfl := (ay.1 hx2).2
 obtain ⟨_, cs, hg, hrd⟩ := hown.at_ _ (Kt ..)
 obtain ⟨_, hent, arr, hm, hall⟩ := hown.at_ _ (KC _ (Kt ..))
 rw [Reads] at hrd
 rw [hrd.2] at hg
 have hglt := (KH.1 hg).1
 have hmlt := (KH.1 hm).1
 have hbs : arr.toList.map (·.born) = es.map (·.1) := o9 (fun a b h => h.born) hall
 have hks : arr.toList.map (·.key) = es.map fun x => bg x.2.1 := o9 (fun a b h => h.key) hall
 have hsz : arr.size = es.length := by rw [← Array.length_toList, mG hall]
 have hseq : SeqStopsK Fence.wide 3 Tryz.prog 131 #[.pointer (some ⟨g, 0, none⟩)] (fun x : Ky 32 => #[kv x]) KeepsWalks (fun ss => (ss.map kv).Perm (arr.toList.map (·.key))) (fun _ => True) arr.size w := fun l J Jx W hW hJ _ hY h0 =>
  xq 3 l g m (by omega) arr c J Jx hY W hJ ((hW.cell (p := ⟨g, 0, none⟩) hglt).trans (by rw [cell_of_row w g 0 _ _ _ hg]; rfl)) ((hW.block m hmlt).trans hm) (by rw [hbs]; exact hent.borns)
   (fun x hx => by obtain ⟨y, hy, he⟩ := vH hall hx; rw [he.born]; exact hent.lt y hy)
   (fun x hx => by obtain ⟨y, hy, he⟩ := vH hall hx; exact ⟨⟨y.2.1, he.len⟩, he.key⟩) h0
 refine (callsIn_wide.1 (o8 4 (by omega) 131 #[.pointer (some ⟨g, 0, none⟩)] uV _ _ arr.size (by rw [hsz]; exact hl) w hseq)).mono ?_
 rintro e w' ⟨v, ks, rfl, hp, hrow, hnil, hB⟩
 have hp' : (ks.map (·.1)).Perm (es.map (·.2.1)) := by
  rw [hks] at hp
  have := hp.map unV
  rw [LU, LU] at this
  have e1 : ks.map (unV ∘ kv) = ks.map (·.1) := MF fun k _ => xR k.1
  have e2 : es.map (unV ∘ fun x => bg x.2.1) = es.map (·.2.1) := MF fun k _ => xR k.2.1
  rwa [e1, e2] at this
 have hnew : ∀ b, v.ownBlock = some b → w.heap.size ≤ b := fun b hb => (hrow.lt b hb).1
 refine ⟨v, .val (.v v), _, rfl, ⟨v, ks, rfl, hp', rfl⟩, ⟨.of hB, .cons (fun p hp b hb e => ?_) hown.apart, fun o ho => ?_⟩, ay.2 ⟨nS hrow, rfl⟩⟩
 ·
  have h1 := hnew b hb
  have h2 := (Obj.bn (hown.at_ p hp) e).2
  omega
 ·
  rcases Kz.1 ho with rfl | ho
  ·
   refine ⟨ks.map kc, ⟨?_, fun b hb => .inr (hnew b hb)⟩, gG ks⟩
   rw [Kv]
   exact nT hrow
  ·
   refine ((hown.at_ o ho).move (fun b hb => ⟨.inl hb, KA (hok b hb) hB.size, fun o' ho' e => ?_⟩) (fun p hp => hB.cell (hok _ hp)) fun b hb => hB.block b (Obj.bn (hown.at_ o ho) hb).2).iD fun b hb => .inl ⟨o, ho, hb⟩
   rcases Kz.1 ho' with rfl | ho'
   ·
    have := hnew b e
    have := hok b hb
    omega
   · exact hown.off b ⟨o', ho', e⟩ hb
theorem qy (m : Nat) : FnM 94 [.v (.map (some m))] [] (fun r os' => ∃ g, r = .val (.v (.func (.func 131) #[] #[.pointer (some ⟨g, 0, none⟩)])) ∧ os' = [.var g 88 (.v (.map (some m)))]) := by
 refine FnM.walk 4 Tryz.func94 rfl Tryz.ntmps94 (by simp) fun X => ?_
 repeat (refine stp ?_; intros)
 rename_i g
 exact EK.aY [.var g 88 (.v (.map (some m)))] rfl rfl (by (repeat first | exact Kr _ | apply List.Sublist.cons_cons | apply List.Sublist.cons)) ⟨g, rfl, rfl⟩
theorem sG (g m c : Nat) (es : List Ent) (hl : es.length * 32 ≤ 140737488355328) : FnM 120 [.v (.func (.func 131) #[] #[.pointer (some ⟨g, 0, none⟩)])] [.var g 88 (.v (.map (some m))), .map m 32 c es] (fun r os' => ∃ v, ∃ ks : List (Ky 32), r = .val (.v v) ∧ (ks.map (·.1)).Perm (es.map (·.2.1)) ∧ os' = [.row v 36 32 (ks.map dK), .var g 88 (.v (.map (some m))), .map m 32 c es]) := by
 have h1 := vG g m c es hl
 refine FnM.walk 5 Tryz.func120 rfl Tryz.ntmps120 (by simp) fun X => ?_
 repeat
  (first
   | (refine aO (os := [.var g 88 (.v (.map (some m))), .map m 32 c es]) h1 (kk := ?_); rintro _ _ ⟨v, ks, rfl, hp, rfl⟩)
   | (refine stp ?_; intros))
 exact EK.aY [.row v 36 32 (ks.map dK), .var g 88 (.v (.map (some m))), .map m 32 c es] rfl rfl (by (repeat first | exact Kr _ | apply List.Sublist.cons_cons | apply List.Sublist.cons)) ⟨v, ks, rfl, hp, rfl⟩
theorem lQ (cf : FuncId) (hc : ∀ l m : List UInt8, l.length = 32 → m.length = 32 → ∀ w, Calls Tryz.prog cf #[bg l, bg m] w fun e w' => e = .returned (.int .i64 (iM l m)) ∧ ∃ q os', w' = grow (w.drewN q) os') (ec : ∀ args w, (callFunc cf args).run Tryz.prog w = .ok (.enter cf args) w)
  (g m c : Nat) (es : List Ent) (hl : es.length * 32 ≤ 140737488355328) : FnM 93 [.v (.func (.func 131) #[] #[.pointer (some ⟨g, 0, none⟩)]), .v (.func (.func cf) #[] #[])] [.var g 88 (.v (.map (some m))), .map m 32 c es] (fun r os' => ∃ v, r = .val (.v v) ∧ os' = [.row v 36 32 ((sortL (es.map (·.2.1))).map (D.arr 32)), .var g 88 (.v (.map (some m))), .map m 32 c es]) := by
 have h1 := sG g m c es hl
 refine FnM.walk 12 Tryz.func93 rfl Tryz.ntmps93 (by simp) fun X => ?_
 repeat
  (first
   | (refine aO (os := [.var g 88 (.v (.map (some m))), .map m 32 c es]) h1 (kk := ?_); rintro _ _ ⟨v, ks, rfl, hp, rfl⟩)
   | (refine stp ?_; intros))
 have hkl : ks.length = es.length := by simpa using hp.length_eq
 have h2 := yX cf hc ec v ks (by omega)
 repeat
  (first
   | (refine aO (os := [.row v 36 32 (ks.map dK)]) h2 (kk := ?_); rintro _ _ ⟨rfl, rfl⟩)
   | (refine stp ?_; intros))
 have hs : (ks.mergeSort fun x y => decide (x.1 ≤ y.1)).map (·.1) = sortL (es.map (·.2.1)) := by
  refine tu (((List.mergeSort_perm ks _).map (·.1)).trans hp) ?_
  have h := List.pairwise_mergeSort (le := fun x y : Ky 32 => decide (x.1 ≤ y.1)) (fun a b c h1 h2 => by simp only [decide_eq_true_eq] at h1 h2 ⊢; exact List.le_trans h1 h2) (fun a b => by simp only [Bool.or_eq_true, decide_eq_true_eq]; exact List.le_total a.1 b.1) ks
  rw [List.pairwise_map]
  exact h.imp fun h => by simpa using h
 exact EK.aY [.row v 36 32 ((ks.mergeSort fun x y => decide (x.1 ≤ y.1)).map dK), .var g 88 (.v (.map (some m))), .map m 32 c es] rfl rfl (by (repeat first | exact Kr _ | apply List.Sublist.cons_cons | apply List.Sublist.cons)) ⟨v, rfl, by rw [Gs, hs]⟩
end E
end Go.Proofs.YtaoicebcdmpemaaGreat
