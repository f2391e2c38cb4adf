/-
 Merged: lemmas of this claim.
 Conditions: none.
-/
import Derived.Test.YtohlgnfachkmaaaGreatZA14
import Derived.Test.YtohlgnfachkmaaaGreatZA11
import Derived.Test.YtohlgnfachkmaaaGreatZA2
import Derived.Lib.Bytealg
import Derived.Lib.BytesEntry
import Derived.Sort.Walk0
import Derived.Shelf.RegionOpenPlain
import Derived.Shelf.SlSortCmp.WholeK
import Derived.Shelf.SlGeneric
import Derived.Ground.SlsfProg
import Derived.Test.YtohlgnfachkmaaaGreatRows
import Derived.Test.YtohlgnfachkmaaaGreatZA0
namespace Go.Proofs.YtohlgnfachkmaaaGreat
set_option linter.unusedVariables false
set_option maxHeartbeats 2000000
open Go.RowKit Mono Rlp
open Go.ChangeMaps (setBlock)
namespace E
set_option maxRecDepth 100000 in
theorem yN (n l Bm b : Nat) (hn1 : 1 ≤ n) (es : Array MapEntry) (clock : Nat) (J Jx : List (Ky 20) → World → Prop)
  (hY : ∀ pre x W, J pre W → pre.length < es.size → YieldAt Fence.wide (n - 1) Tryz.prog l #[kv x] W fun e W' => (e = .returned (.bool true) ∧ J (pre ++ [x]) W' ∧ KeepsWalks W W') ∨ (e = .returned (.bool false) ∧ Jx (pre ++ [x]) W'))
  (W : World) (hJ : AbidesFrom W.heap.size J) (hm : W.cell? ⟨Bm, 0, none⟩ = some (.map (some b))) (hb : W.heap[b]? = some (.map es clock)) (hn : (es.toList.map (·.born)).Nodup) (hl : ∀ x ∈ es.toList, x.born < clock) (hkey : ∀ x ∈ es.toList, ∃ k : Ky 20, x.key = kv k) (h0 : J [] W) :
  CallsIn Fence.wide n Tryz.prog 112 #[.func (.yield l) #[] #[], .pointer (some ⟨Bm, 0, none⟩)] W fun e W' => (∃ v, e = .returned v) ∧ ((∃ ss : List (Ky 20), (ss.map kv).Perm (es.toList.map (·.key)) ∧ J ss W') ∨ (∃ pre : List (Ky 20), True ∧ Jx pre W')) := by
 refine callsIn_of_wp Tryz.func112 rfl trivial ?_ rfl
 simp only [Tryz.ntmps112, ND, Me, Ot, Nat.reduceAdd, Nat.reduceSub, Oa, Oc, Oz, Oh, KO, KN]
 have hrg0 := Rng.start hb hl
 have hJ0 := hJ [] W _ none h0 (World.grownBy_alloc W (.mapIter (some b) clock #[] clock) none) (fun r e => by cases e)
 have hlt0 : W.heap.size < (W.alloc (.mapIter (some b) clock #[] clock)).heap.size := by simp
 gi_wp2_with (first
  | (gi_at_range; refine qE rfl _ 116 36 121 rfl Tryz.underlying116 rfl hb ?_)
  | gi_in)
 go_frame
 generalize W.alloc (.mapIter (some b) clock #[] clock) = w0 at hrg0 hJ0 hlt0 ⊢
 gi_loopw [3] (fun _ wr => ∃ (cnt : Nat) (ss : List (Ky 20)), Rng wr b W.heap.size es clock (ss.map kv) cnt ∧ J ss wr)
  (fun _ wr => wr.rangeLeft b W.heap.size)
 case atStart =>
  exact ⟨_, [], hrg0, hJ0⟩
 case round =>
  obtain ⟨cnt, ss, hrg, hJs⟩ := hrel
  gi_wp2_with (first
   | (gi_at_next; refine uJ rfl _ rfl rfl hrg hn ?_ ?_)
   | gi_in)
  ·
   intro hc0 hp
   gi_wp2
   go_end0
   exact ⟨⟨_, rfl⟩, .inl ⟨ss, hp, hJs⟩⟩
  ·
   intro e w2 cnt2 he hrg2 hlt hg2 hs2 hen
   obtain ⟨x, hx⟩ := hkey e (by simpa using he)
   have hlen : ss.length < es.size := by have := hrg.le; simp at this; omega
   have hJ2 : J ss w2 := hJ ss wr w2 (some W.heap.size) hJs hg2 (fun r e => by cases e; exact ⟨LG _, hrg.iter⟩)
   rw [hx] at hen hrg2 ⊢
   clear hs2
   have hlt2 := hrg2.lt
   gi_wp2_with (first
    | (
      guard_target = wpListIn _ _ _ _ _ (Oper.mk _ (Op.store _ _ _) _ _ _ _ :: _) _ _; refine qC (l := x.1) (cs := List.replicate 20 (.int .u8 0)) rfl _ _ _ rfl (by rw [x.2]; rfl) rfl rfl (World.alloc_heap_new w2 _) (by rw [x.2]; rfl) ?_
      intro w4 hb4 hg4 hs4
      have hg24 : w2.grownBy w4 none := ⟨hg4.os.trans rfl, hg4.tape.trans rfl, hg4.output.trans rfl, by rw [hs4]; simp, fun i hi _ => (hg4.block i (by simp; omega) (fun e => by cases e; omega)).trans ((Na w2 _).2 i hi)⟩
      have hJ4 : J ss w4 := hJ ss w2 w4 none hJ2 hg24 (fun r e => by cases e)
      have hrg4 := hrg2.kept (hg24.block b hlt2.1 (by simp)) (hg24.block W.heap.size hlt2.2 (by simp))
      obtain ⟨fn, tmps, assign, body, hy, hR⟩ := hY ss x w4 hJ4 hlen
      rw [show kv x = aT x.1 from rfl] at hy
      have hb4' := Lib.hid hb4
      clear hb4 hs4 hg4 hg24)
    | (guard_target = wpListIn _ _ _ _ _ (Oper.mk _ (Op.load _ _) _ _ _ _ :: _) _ _; refine uK (l := x.1) rfl _ _ rfl (by rw [x.2]; rfl) rfl hb4'.out ?_)
    | gi_in)
   refine hR.mono ?_
   rintro e W3 (⟨rfl, hJ3, hk3⟩ | ⟨rfl, hJx3⟩)
   ·
    gi_wp2
    have hrg3 := hrg4.walks hk3
    go_roundw
    case rel => exact ⟨cnt2, ss ++ [x], by simpa using hrg3, hJ3⟩
    case measure => rw [hrg3.left_eq, hrg.left_eq]; exact hlt
   ·
    gi_wp2
    refine bodyPost_ret (results_none rfl _ _ _) rfl ?_
    exact ⟨⟨_, rfl⟩, .inr ⟨ss ++ [x], trivial, hJx3⟩⟩
set_option maxRecDepth 100000 in
theorem yM (n l Bm b : Nat) (hn1 : 1 ≤ n) (es : Array MapEntry) (clock : Nat) (J Jx : List (Ky 32) → World → Prop)
  (hY : ∀ pre x W, J pre W → pre.length < es.size → YieldAt Fence.wide (n - 1) Tryz.prog l #[kv x] W fun e W' => (e = .returned (.bool true) ∧ J (pre ++ [x]) W' ∧ KeepsWalks W W') ∨ (e = .returned (.bool false) ∧ Jx (pre ++ [x]) W'))
  (W : World) (hJ : AbidesFrom W.heap.size J) (hm : W.cell? ⟨Bm, 0, none⟩ = some (.map (some b))) (hb : W.heap[b]? = some (.map es clock)) (hn : (es.toList.map (·.born)).Nodup) (hl : ∀ x ∈ es.toList, x.born < clock) (hkey : ∀ x ∈ es.toList, ∃ k : Ky 32, x.key = kv k) (h0 : J [] W) :
  CallsIn Fence.wide n Tryz.prog 114 #[.func (.yield l) #[] #[], .pointer (some ⟨Bm, 0, none⟩)] W fun e W' => (∃ v, e = .returned v) ∧ ((∃ ss : List (Ky 32), (ss.map kv).Perm (es.toList.map (·.key)) ∧ J ss W') ∨ (∃ pre : List (Ky 32), True ∧ Jx pre W')) := by
 refine callsIn_of_wp Tryz.func114 rfl trivial ?_ rfl
 simp only [Tryz.ntmps114, ND, Me, Ot, Nat.reduceAdd, Nat.reduceSub, Oa, Oc, Oz, Oh, KO, KN]
 have hrg0 := Rng.start hb hl
 have hJ0 := hJ [] W _ none h0 (World.grownBy_alloc W (.mapIter (some b) clock #[] clock) none) (fun r e => by cases e)
 have hlt0 : W.heap.size < (W.alloc (.mapIter (some b) clock #[] clock)).heap.size := by simp
 gi_wp2_with (first
  | (gi_at_range; refine qE rfl _ 123 23 23 rfl Tryz.underlying123 rfl hb ?_)
  | gi_in)
 go_frame
 generalize W.alloc (.mapIter (some b) clock #[] clock) = w0 at hrg0 hJ0 hlt0 ⊢
 gi_loopw [3] (fun _ wr => ∃ (cnt : Nat) (ss : List (Ky 32)), Rng wr b W.heap.size es clock (ss.map kv) cnt ∧ J ss wr)
  (fun _ wr => wr.rangeLeft b W.heap.size)
 case atStart =>
  exact ⟨_, [], hrg0, hJ0⟩
 case round =>
  obtain ⟨cnt, ss, hrg, hJs⟩ := hrel
  gi_wp2_with (first
   | (gi_at_next; refine uJ rfl _ rfl rfl hrg hn ?_ ?_)
   | gi_in)
  ·
   intro hc0 hp
   gi_wp2
   go_end0
   exact ⟨⟨_, rfl⟩, .inl ⟨ss, hp, hJs⟩⟩
  ·
   intro e w2 cnt2 he hrg2 hlt hg2 hs2 hen
   obtain ⟨x, hx⟩ := hkey e (by simpa using he)
   have hlen : ss.length < es.size := by have := hrg.le; simp at this; omega
   have hJ2 : J ss w2 := hJ ss wr w2 (some W.heap.size) hJs hg2 (fun r e => by cases e; exact ⟨LG _, hrg.iter⟩)
   rw [hx] at hen hrg2 ⊢
   clear hs2
   have hlt2 := hrg2.lt
   gi_wp2_with (first
    | (
      guard_target = wpListIn _ _ _ _ _ (Oper.mk _ (Op.store _ _ _) _ _ _ _ :: _) _ _; refine qC (l := x.1) (cs := List.replicate 32 (.int .u8 0)) rfl _ _ _ rfl (by rw [x.2]; rfl) rfl rfl (World.alloc_heap_new w2 _) (by rw [x.2]; rfl) ?_
      intro w4 hb4 hg4 hs4
      have hg24 : w2.grownBy w4 none := ⟨hg4.os.trans rfl, hg4.tape.trans rfl, hg4.output.trans rfl, by rw [hs4]; simp, fun i hi _ => (hg4.block i (by simp; omega) (fun e => by cases e; omega)).trans ((Na w2 _).2 i hi)⟩
      have hJ4 : J ss w4 := hJ ss w2 w4 none hJ2 hg24 (fun r e => by cases e)
      have hrg4 := hrg2.kept (hg24.block b hlt2.1 (by simp)) (hg24.block W.heap.size hlt2.2 (by simp))
      obtain ⟨fn, tmps, assign, body, hy, hR⟩ := hY ss x w4 hJ4 hlen
      rw [show kv x = aT x.1 from rfl] at hy
      have hb4' := Lib.hid hb4
      clear hb4 hs4 hg4 hg24)
    | (guard_target = wpListIn _ _ _ _ _ (Oper.mk _ (Op.load _ _) _ _ _ _ :: _) _ _; refine uK (l := x.1) rfl _ _ rfl (by rw [x.2]; rfl) rfl hb4'.out ?_)
    | gi_in)
   refine hR.mono ?_
   rintro e W3 (⟨rfl, hJ3, hk3⟩ | ⟨rfl, hJx3⟩)
   ·
    gi_wp2
    have hrg3 := hrg4.walks hk3
    go_roundw
    case rel => exact ⟨cnt2, ss ++ [x], by simpa using hrg3, hJ3⟩
    case measure => rw [hrg3.left_eq, hrg.left_eq]; exact hlt
   ·
    gi_wp2
    refine bodyPost_ret (results_none rfl _ _ _) rfl ?_
    exact ⟨⟨_, rfl⟩, .inr ⟨ss ++ [x], trivial, hJx3⟩⟩
end E
end Go.Proofs.YtohlgnfachkmaaaGreat
namespace Go.Proofs.YtohlgnfachkmaaaGreat
set_option linter.unusedVariables false
set_option maxHeartbeats 4000000
open Go.RowKit Mono Rlp
namespace E
theorem FW {l n : Nat} {P : Program} {row : String} {args : Array Value} {w : World} {R : Value → World → Prop} (h : Rows P row args w R) : RowsIn (Fence.wide.inRound l) n P row args w R := fun c cs _ => by
 obtain ⟨v, w', h1, h2⟩ := h c cs
 exact ⟨v, w', h1, stepsIn_wide.2 h2⟩
theorem JU {l n : Nat} {P : Program} {o : Oper} {a : Act} {w : World} {K K' : Act → World → Prop} {Q : Exit → Act → World → Prop} (hQ : ¬ LetsOut Q) (hd : ∀ c, o.op ≠ .defer c) (hK : ∀ a w, K a w → K' a w) (h : o.wp P a w K Q ∨ (o.asks P a w ∧ LetsOut Q)) : o.wpIn (Fence.wide.inRound l) n P a w K' Q := by
 rcases h with h | ⟨_, h⟩
 ·
  refine ⟨fun _ _ => trivial, ?_⟩
  rw [Oper.semAt_plain _ _ _ hd]
  unfold Oper.wp at h
  cases hr : (execOp a.eval o).run P w with
  | ok x w' =>
   rw [hr] at h
   cases x with
   | value v => exact hK _ _ h
   | skip => exact hK _ _ h
   | defer d => exact hK _ _ h
   | enter f args =>
    refine ⟨fun h => by simp [Fence.wide] at h, CallsIn.inRound l (callsIn_wide.2 (Calls.mono h ?_))⟩
    intro e w'' he
    cases e with
    | returned v => exact hK _ _ he
    | panicked c => exact he
    | outgrown => exact he
   | row row args => exact ⟨fun h => by simp [Fence.wide] at h, FW (fun c cs => by obtain ⟨v, w', h1, h2⟩ := h c cs; exact ⟨v, w', hK _ _ h1, h2⟩)⟩
   | _ => exact h.elim
  | halt x w' =>
   rw [hr] at h
   cases x <;> first | exact h | exact h.elim
 · exact absurd h hQ
theorem mD {l n : Nat} {P : Program} {ops : Array Oper} {Q : Exit → Act → World → Prop} (hQ : ¬ LetsOut Q) : ∀ (rest : List Oper), (∀ o ∈ rest, ∀ c, o.op ≠ .defer c) → ∀ a w, wpList P ops Q rest a w → wpListIn (Fence.wide.inRound l) n P ops Q rest a w
 | [], _, a, w, h => h
 | o :: rest, hd, a, w, h => by
  rw [wpList] at h
  rw [wpListIn]
  have ih := mD (l := l) (n := n) (P := P) (ops := ops) hQ rest fun o ho => hd o (Lu _ ho)
  split
  ·
   rename_i hw
   rw [if_pos hw] at h
   exact JU hQ (hd o (by simp)) ih h
  ·
   rename_i hw
   rw [if_neg hw] at h
   exact ⟨fun _ _ => trivial, ih _ _ h⟩
def kc {n : Nat} (k : Ky n) : List Value := bvs k.1
def dK {n : Nat} (k : Ky n) : D := .arr n k.1
theorem dV {ok : Nat → Prop} {w : World} {n : Nat} : ∀ (ks : List (Ky n)), aj ok w n (ks.map dK) (ks.map kc)
 | [] => by rw [MW, aj]; rfl
 | k :: ks => by
  rw [LV, aj]
  exact ⟨kc k, _, rfl, by unfold kc; rw [aS, k.2], by unfold dK; rw [Reads]; exact ⟨k.2, rfl⟩, dV ks⟩
theorem jk {ok : Nat → Prop} {w : World} {n : Nat} : ∀ (ks : List (Ky n)) (rows : List (List Value)), aj ok w n (ks.map dK) rows → rows = ks.map kc
 | [], rows, h => by rw [MW, aj] at h; exact h
 | k :: ks, rows, h => by
  rw [LV, aj] at h
  obtain ⟨r, rest, rfl, _, h2, h3⟩ := h
  unfold dK at h2
  rw [Reads] at h2
  rw [jk ks rest h3, h2.2]
  rfl
theorem zB {w : World} {e : TypeId} {z : Nat} {v : Value} {k : Nat} {xs : List Value} {base : Nat} (h : w.ownsRow 0 e z v k xs) (hb : ∀ b, v.ownBlock = some b → base ≤ b) : w.ownsRow base e z v k xs := by
 refine ⟨h.1, h.2.imp id fun ⟨g, cap, cur, h1, h2, h3⟩ => ⟨g, cap, cur, h1, hb g (by rw [h1]; rfl), h3⟩⟩
theorem kE {w : World} {e : TypeId} {z : Nat} {v : Value} {k : Nat} {xs : List Value} {base : Nat} (h : w.ownsRow base e z v k xs) : w.ownsRow 0 e z v k xs :=
 ⟨h.1, h.2.imp id fun ⟨g, cap, cur, h1, _, h3⟩ => ⟨g, cap, cur, h1, LH _, h3⟩⟩
theorem kD {w : World} {e : TypeId} {z : Nat} {v : Value} {k : Nat} {xs : List Value} {base : Nat} (h : w.ownsRow base e z v k xs) : v.oneCell' = true := by
 rcases h.2 with ⟨rfl, _⟩ | ⟨g, cap, cur, rfl, _⟩ <;> rfl
set_option maxRecDepth 100000 in
theorem qU (n : Nat) (hn : 2 ≤ n) (gf : Nat) (lb : Array Value) (eg : ∀ args w, (callFunc gf args).run Tryz.prog w = .ok (.enter gf args) w) (S Sp : List (Ky 20) → Prop) (N : Nat) (hN : N * 20 ≤ 140737488355328) (w : World)
  (hseq : SeqStopsK Fence.wide (n - 1) Tryz.prog gf lb (fun x : Ky 20 => #[kv x]) KeepsWalks S Sp N w) :
  CallsIn Fence.wide n Tryz.prog 141 #[.slice none 0 0, .func (.func gf) #[] lb] w fun e W' => ∃ v ss, e = .returned v ∧ S ss ∧ W'.ownsRow w.heap.size 36 20 v ss.length (ss.map kc).flatten ∧ (v = .slice none 0 0 ↔ ss = []) ∧ Below w.heap.size w W' := by
 refine callsIn_of_wp_marks Tryz.func141 rfl trivial ?_ rfl
 simp only [Tryz.ntmps141, ND, Me, Ot, Nat.reduceAdd, Nat.reduceSub, Oa, Oc, Oz, Oh, KO, KN]
 gi_wp2
 have bO := Boxed.new w 144 (.slice none 0 0)
 have hB0 : Below w.heap.size w (w.alloc (.cells #[.slice none 0 0] 144)) := (Below.refl _ w).alloc (LG _) _
 refine wpIn_rangeFunc_ownH rfl (by omega) (gf := gf) (lb := lb) rfl trivial eg hseq walksK_t walksK_b hB0 (fun _ => rfl)
  (fun pre W => (∃ v, Boxed W w.heap.size 144 v ∧ W.ownsRow w.heap.size 36 20 v pre.length (pre.map kc).flatten ∧ (v = .slice none 0 0 ↔ pre = [])) ∧ Below w.heap.size w W)
  (fun _ _ _ => False)
  (OwnFrom.and (Own.from (holdsRow_own w.heap.size w.heap.size 144 36 20 (fun pre : List (Ky 20) => pre.length) (fun pre => (pre.map kc).flatten) (fun pre v => v = .slice none 0 0 ↔ pre = [])) _) (ownFrom_below (LG _) (by simp)))
  (fun _ _ _ _ _ hs _ _ => hs)
  ⟨⟨_, bO, World.ownsRow_nil _ _ _ _, by simp⟩, hB0⟩
  (fun x a' W => ∃ Bx v, w.heap.size < Bx ∧ Boxed W w.heap.size 144 v ∧ v.ownBlock ≠ some Bx ∧ W.heap[Bx]? = some (.cells (bvs x.1).toArray 36 (0, 0)) ∧ a'.tmps.size = 13 ∧ a'.defers = [] ∧ a'.tmps.getD 2 undef = .pointer (some ⟨w.heap.size, 0, none⟩) ∧ a'.tmps.getD 5 undef = .pointer (some ⟨Bx, 0, none⟩))
  ?hAx ?assign ?body ?done ?stop
 case hAx =>
  rintro x a' s X Y row ⟨Bx, v, h1, h2, h3, h4, h5⟩ hg hr
  refine ⟨Bx, v, h1, h2.kept hg fun e => ?_, h3, (hg.block Bx (LQ.1 h4).1 fun e => ?_).trans h4, h5⟩
  ·
   obtain ⟨_, o, ho, hc⟩ := hr _ e.symm
   rw [show X.heap[w.heap.size]? = _ from h2] at ho
   cases ho
   cases hc
  ·
   obtain ⟨_, o, ho, hc⟩ := hr _ e.symm
   rw [h4] at ho
   cases ho
   cases hc
 case assign =>
  rintro l pre x W K ⟨⟨v, hv, hrow, hnil⟩, hB⟩ hK
  have e : ((#[7] : Array Tmp).zip #[kv x]).foldl (fun t (p, v) => t.setIfInBounds p v) #[.slice none 0 0, .func (.func gf) #[] lb, .pointer (some ⟨w.heap.size, 0, none⟩), undef, .slice none 0 0, undef, .func (.func gf) #[] lb, undef, undef, undef, undef, undef, undef] = #[.slice none 0 0, .func (.func gf) #[] lb, .pointer (some ⟨w.heap.size, 0, none⟩), undef, .slice none 0 0, undef, .func (.func gf) #[] lb, kv x, undef, undef, undef, undef, undef] := by simp
  rw [e]
  refine wpIn_region_lit (mD (fun ⟨_, _, h⟩ => h) _ (by simp) _ _ ?_)
  have hat : At (⟨W, fun _ => False, fun _ => False, fun _ h => h.elim⟩ : Cx 13) ⟨[(7, .val (.arr 20 x.1)), (2, .val (.v (.pointer (some ⟨w.heap.size, 0, none⟩))))], [], []⟩ { tmps := #[.slice none 0 0, .func (.func gf) #[] lb, .pointer (some ⟨w.heap.size, 0, none⟩), undef, .slice none 0 0, undef, .func (.func gf) #[] lb, kv x, undef, undef, undef, undef, undef], defers := [] } W := by
   refine ⟨⟨.refl _, .nil, fun o ho => by simp at ho, fun f hf => by simp at hf⟩, fun t r h => ?_, rfl, rfl⟩
   simp only [look] at h
   split at h
   ·
    rename_i e
    subst e
    cases h
    exact ⟨bvs x.1, by rw [Reads]; exact ⟨x.2, rfl⟩, rfl⟩
   ·
    split at h
    ·
     rename_i e
     subst e
     cases h
     exact aG.2 ⟨rfl, rfl⟩
    · cases h
  refine EL.go (Q := Exit.then K (fun _ _ _ => False)) (S := ⟨[(7, .val (.arr 20 x.1)), (2, .val (.v (.pointer (some ⟨w.heap.size, 0, none⟩))))], [], []⟩) ?_ _ _ hat
  repeat (refine stp ?_; intros)
  refine ⟨fun a1 w1 h1 => ?_⟩
  rename_i Bx
  obtain ⟨⟨hgr, _, hat1, _⟩, hregs, hsz, hdf⟩ := h1
  obtain ⟨hbx, cs, hheap, hrd⟩ := hat1 _ (Ld ..)
  rw [Reads] at hrd
  rw [hrd.2] at hheap
  have hbx' : W.heap.size ≤ Bx := hbx.resolve_left id
  have hg : W.grownBy w1 none := ⟨hgr.os, hgr.tape, hgr.output, hgr.size, fun i hi _ => hgr.block i hi id⟩
  have hvl := hv.lt
  exact hK a1 w1 ((KeepsOthers.of_grownBy hg fun j o e _ => by cases e).from _) (KeepsWalks.of_grownBy hg fun j o e => by cases e) ⟨⟨v, hv.kept hg (by simp), hrow.kept hg (by cases v.ownBlock with | none => exact .inl rfl | some k => exact .inr (by simp)), hnil⟩, hB.grown hg hB.size fun k e => by cases e⟩
   ⟨Bx, v, by omega, hv.kept hg (by simp), fun e => by have := (hrow.lt _ e).2; omega, hheap, hsz, hdf, (aG.1 (hregs 2 _ rfl)).2, (aG.1 (hregs 5 _ rfl)).2⟩
 case body =>
  rintro l pre x a' W hl hrec ⟨⟨v, hv, hrow, hnil⟩, hB⟩ ⟨Bx, v2, h1, hv2, hne, hbx, hsz, hdf, ht2, ht5⟩ hlen
  obtain rfl : v2 = v := by
   have := (show W.heap[w.heap.size]? = _ from hv2).symm.trans hv
   simpa using this
  have hnr := hv.not_row (by decide) hrow
  have hlow : ∀ b, (b = w.heap.size ∨ b = Bx ∨ v2.ownBlock = some b) → w.heap.size ≤ b := fun b hb => by
   rcases hb with rfl | rfl | hb
   · exact LG _
   · omega
   · exact (hrow.lt _ hb).1
  have hcell : ∀ b o, (b = w.heap.size ∨ b = Bx ∨ v2.ownBlock = some b) → W.heap[b]? = some o → o.isCells = true ∧ o.isWalk = false := fun b o hb ho => by
   rcases hb with rfl | rfl | hb
   ·
    rw [show W.heap[w.heap.size]? = _ from hv] at ho
    cases ho
    exact ⟨rfl, rfl⟩
   ·
    rw [hbx] at ho
    cases ho
    exact ⟨rfl, rfl⟩
   ·
    rcases hrow.2 with ⟨rfl, _⟩ | ⟨g, cap, cur, rfl, _, hgb, _⟩
    · cases hb
    ·
     obtain rfl : g = b := by simpa [Value.ownBlock] using hb
     rw [hgb] at ho
     cases ho
     exact ⟨rfl, rfl⟩
  refine wpIn_block (wpIn_region_lit (mD (fun ⟨_, _, h⟩ => h) _ (by simp) _ _ ?_))
  have hat : At (⟨W, fun _ => False, fun b => b = w.heap.size ∨ b = Bx ∨ v2.ownBlock = some b, fun _ h => h.elim⟩ : Cx 13) ⟨[(5, .val (.v (.pointer (some ⟨Bx, 0, none⟩)))), (2, .val (.v (.pointer (some ⟨w.heap.size, 0, none⟩))))], [.var w.heap.size 144 (.v v2), .row v2 36 20 (pre.map dK), .var Bx 36 (.arr 20 x.1)], []⟩ a' W := by
   refine ⟨⟨.refl _, ?_, fun o ho => ?_, fun f hf => by simp at hf⟩, fun t r h => ?_, hsz, hdf⟩
   ·
    refine .cons (fun p hp b hb => ?_) (.cons (fun p hp b hb => ?_) (.cons (fun p hp => by simp at hp) .nil))
    ·
     obtain rfl : w.heap.size = b := by simpa [Obj.blk] using hb
     rcases Lj.1 hp with rfl | hp
     · exact fun e => hnr e.symm
     ·
      obtain rfl : p = _ := by simpa using hp
      simp only [Obj.blk, ne_eq, N9]
      omega
    ·
     obtain rfl : p = _ := by simpa using hp
     simp only [Obj.blk] at hb ⊢
     exact fun e => hne (hb.trans e.symm)
   ·
    rcases Lj.1 ho with rfl | ho
    · exact ⟨.inl (.inl rfl), [v2], hv, by rw [Reads]; exact ⟨kD hrow, rfl⟩⟩
    ·
     rcases Lj.1 ho with rfl | ho
     ·
      refine ⟨pre.map kc, ⟨?_, fun b hb => .inl (.inr (.inr hb))⟩, dV pre⟩
      rw [Lc]
      exact kE hrow
     ·
      obtain rfl : o = _ := by simpa using ho
      exact ⟨.inl (.inr (.inl rfl)), bvs x.1, hbx, by rw [Reads]; exact ⟨x.2, rfl⟩⟩
   ·
    simp only [look] at h
    split at h
    ·
     rename_i e
     subst e
     cases h
     exact aG.2 ⟨rfl, ht5⟩
    ·
     split at h
     ·
      rename_i e
      subst e
      cases h
      exact aG.2 ⟨rfl, ht2⟩
     · cases h
  refine EL.go (S := ⟨[(5, .val (.v (.pointer (some ⟨Bx, 0, none⟩)))), (2, .val (.v (.pointer (some ⟨w.heap.size, 0, none⟩))))], [.var w.heap.size 144 (.v v2), .row v2 36 20 (pre.map dK), .var Bx 36 (.arr 20 x.1)], []⟩) ?_ _ _ hat
  have hml : (pre.map dK).length = pre.length := Lc _
  have hl1 : ([D.arr 20 x.1] : List D).length = 1 := rfl
  repeat (refine stp ?_; intros)
  refine ⟨fun a1 w1 h1 => ?_⟩
  rename_i v'
  obtain ⟨⟨hgr, _, hat1, _⟩, hregs, hsz', hdf'⟩ := h1
  obtain ⟨_, cs, hbox, hrd⟩ := hat1 _ (Ld ..)
  rw [Reads] at hrd
  rw [hrd.2] at hbox
  obtain ⟨rows, ⟨hrow', hbase⟩, hrows⟩ := hat1 _ (Lu _ (Ld ..))
  have hds : pre.map dK ++ [D.arr 20 x.1] = (pre ++ [x]).map dK := by simp [dK]
  rw [hds] at hrow' hrows
  rw [jk _ _ hrows, Lc] at hrow'
  have hown := zB (base := w.heap.size) hrow' fun b hb => by
   rcases hbase b hb with h | h
   · exact hlow b h
   · exact LZ hB.size h
  have hsame : ∀ k, k < W.heap.size → ¬ (k = w.heap.size ∨ k = Bx ∨ v2.ownBlock = some k) → w1.heap[k]? = W.heap[k]? := hgr.block
  refine ⟨⟨hgr.size, fun k o _ h0 ho => ?_⟩, ⟨hgr.size, fun k o h0 ho => ?_⟩, ⟨⟨v', hbox, hown, ?_⟩, hB.trans ⟨hgr.os, hgr.tape, hgr.output, hgr.size, fun k hk => ?_⟩⟩⟩
  ·
   refine (hsame k (LQ.1 h0).1 fun h => ?_).trans h0
   rw [(hcell k o h h0).1] at ho
   cases ho
  ·
   refine (hsame k (LQ.1 h0).1 fun h => ?_).trans h0
   rw [(hcell k o h h0).2] at ho
   cases ho
  ·
   constructor
   ·
    rintro rfl
    rcases hown.2 with ⟨_, h0⟩ | ⟨g, cap, cur, h0, _⟩
    · simp at h0
    · simp at h0
   ·
    intro h
    simp at h
  · exact hsame k (by have := hB.size; omega) fun h => by have := hlow k h; omega
 case done =>
  rintro D ys W hD hS ⟨⟨v, hv, hrow, hnil⟩, hB⟩ hK
  have hc := hv.cell
  gi_wp2
  refine ⟨by simp, .inl ⟨_, _, rfl, run_takeDeferred hK, ?_⟩⟩
  exact ⟨_, results_tmp rfl _ _ _, v, ys, rfl, hS, ownsRow_putObj hrow _ hK rfl, hnil, hB.trans (belowK_b (w := w) (LG _) W D _ _ (by simp at hD; omega) hK rfl rfl)⟩
 case stop =>
  rintro D c pre W _ _ h _
  exact h.elim
set_option maxRecDepth 100000 in
theorem kN (n : Nat) (hn : 2 ≤ n) (gf : Nat) (lb : Array Value) (eg : ∀ args w, (callFunc gf args).run Tryz.prog w = .ok (.enter gf args) w) (S Sp : List (Ky 32) → Prop) (N : Nat) (hN : N * 32 ≤ 140737488355328) (w : World)
  (hseq : SeqStopsK Fence.wide (n - 1) Tryz.prog gf lb (fun x : Ky 32 => #[kv x]) KeepsWalks S Sp N w) :
  CallsIn Fence.wide n Tryz.prog 130 #[.slice none 0 0, .func (.func gf) #[] lb] w fun e W' => ∃ v ss, e = .returned v ∧ S ss ∧ W'.ownsRow w.heap.size 23 32 v ss.length (ss.map kc).flatten ∧ (v = .slice none 0 0 ↔ ss = []) ∧ Below w.heap.size w W' := by
 refine callsIn_of_wp_marks Tryz.func130 rfl trivial ?_ rfl
 simp only [Tryz.ntmps130, ND, Me, Ot, Nat.reduceAdd, Nat.reduceSub, Oa, Oc, Oz, Oh, KO, KN]
 gi_wp2
 have bO := Boxed.new w 44 (.slice none 0 0)
 have hB0 : Below w.heap.size w (w.alloc (.cells #[.slice none 0 0] 44)) := (Below.refl _ w).alloc (LG _) _
 refine wpIn_rangeFunc_ownH rfl (by omega) (gf := gf) (lb := lb) rfl trivial eg hseq walksK_t walksK_b hB0 (fun _ => rfl)
  (fun pre W => (∃ v, Boxed W w.heap.size 44 v ∧ W.ownsRow w.heap.size 23 32 v pre.length (pre.map kc).flatten ∧ (v = .slice none 0 0 ↔ pre = [])) ∧ Below w.heap.size w W)
  (fun _ _ _ => False)
  (OwnFrom.and (Own.from (holdsRow_own w.heap.size w.heap.size 44 23 32 (fun pre : List (Ky 32) => pre.length) (fun pre => (pre.map kc).flatten) (fun pre v => v = .slice none 0 0 ↔ pre = [])) _) (ownFrom_below (LG _) (by simp)))
  (fun _ _ _ _ _ hs _ _ => hs)
  ⟨⟨_, bO, World.ownsRow_nil _ _ _ _, by simp⟩, hB0⟩
  (fun x a' W => ∃ Bx v, w.heap.size < Bx ∧ Boxed W w.heap.size 44 v ∧ v.ownBlock ≠ some Bx ∧ W.heap[Bx]? = some (.cells (bvs x.1).toArray 23 (0, 0)) ∧ a'.tmps.size = 13 ∧ a'.defers = [] ∧ a'.tmps.getD 2 undef = .pointer (some ⟨w.heap.size, 0, none⟩) ∧ a'.tmps.getD 5 undef = .pointer (some ⟨Bx, 0, none⟩))
  ?hAx ?assign ?body ?done ?stop
 case hAx =>
  rintro x a' s X Y row ⟨Bx, v, h1, h2, h3, h4, h5⟩ hg hr
  refine ⟨Bx, v, h1, h2.kept hg fun e => ?_, h3, (hg.block Bx (LQ.1 h4).1 fun e => ?_).trans h4, h5⟩
  ·
   obtain ⟨_, o, ho, hc⟩ := hr _ e.symm
   rw [show X.heap[w.heap.size]? = _ from h2] at ho
   cases ho
   cases hc
  ·
   obtain ⟨_, o, ho, hc⟩ := hr _ e.symm
   rw [h4] at ho
   cases ho
   cases hc
 case assign =>
  rintro l pre x W K ⟨⟨v, hv, hrow, hnil⟩, hB⟩ hK
  have e : ((#[7] : Array Tmp).zip #[kv x]).foldl (fun t (p, v) => t.setIfInBounds p v) #[.slice none 0 0, .func (.func gf) #[] lb, .pointer (some ⟨w.heap.size, 0, none⟩), undef, .slice none 0 0, undef, .func (.func gf) #[] lb, undef, undef, undef, undef, undef, undef] = #[.slice none 0 0, .func (.func gf) #[] lb, .pointer (some ⟨w.heap.size, 0, none⟩), undef, .slice none 0 0, undef, .func (.func gf) #[] lb, kv x, undef, undef, undef, undef, undef] := by simp
  rw [e]
  refine wpIn_region_lit (mD (fun ⟨_, _, h⟩ => h) _ (by simp) _ _ ?_)
  have hat : At (⟨W, fun _ => False, fun _ => False, fun _ h => h.elim⟩ : Cx 13) ⟨[(7, .val (.arr 32 x.1)), (2, .val (.v (.pointer (some ⟨w.heap.size, 0, none⟩))))], [], []⟩ { tmps := #[.slice none 0 0, .func (.func gf) #[] lb, .pointer (some ⟨w.heap.size, 0, none⟩), undef, .slice none 0 0, undef, .func (.func gf) #[] lb, kv x, undef, undef, undef, undef, undef], defers := [] } W := by
   refine ⟨⟨.refl _, .nil, fun o ho => by simp at ho, fun f hf => by simp at hf⟩, fun t r h => ?_, rfl, rfl⟩
   simp only [look] at h
   split at h
   ·
    rename_i e
    subst e
    cases h
    exact ⟨bvs x.1, by rw [Reads]; exact ⟨x.2, rfl⟩, rfl⟩
   ·
    split at h
    ·
     rename_i e
     subst e
     cases h
     exact aG.2 ⟨rfl, rfl⟩
    · cases h
  refine EL.go (Q := Exit.then K (fun _ _ _ => False)) (S := ⟨[(7, .val (.arr 32 x.1)), (2, .val (.v (.pointer (some ⟨w.heap.size, 0, none⟩))))], [], []⟩) ?_ _ _ hat
  repeat (refine stp ?_; intros)
  refine ⟨fun a1 w1 h1 => ?_⟩
  rename_i Bx
  obtain ⟨⟨hgr, _, hat1, _⟩, hregs, hsz, hdf⟩ := h1
  obtain ⟨hbx, cs, hheap, hrd⟩ := hat1 _ (Ld ..)
  rw [Reads] at hrd
  rw [hrd.2] at hheap
  have hbx' : W.heap.size ≤ Bx := hbx.resolve_left id
  have hg : W.grownBy w1 none := ⟨hgr.os, hgr.tape, hgr.output, hgr.size, fun i hi _ => hgr.block i hi id⟩
  have hvl := hv.lt
  exact hK a1 w1 ((KeepsOthers.of_grownBy hg fun j o e _ => by cases e).from _) (KeepsWalks.of_grownBy hg fun j o e => by cases e) ⟨⟨v, hv.kept hg (by simp), hrow.kept hg (by cases v.ownBlock with | none => exact .inl rfl | some k => exact .inr (by simp)), hnil⟩, hB.grown hg hB.size fun k e => by cases e⟩
   ⟨Bx, v, by omega, hv.kept hg (by simp), fun e => by have := (hrow.lt _ e).2; omega, hheap, hsz, hdf, (aG.1 (hregs 2 _ rfl)).2, (aG.1 (hregs 5 _ rfl)).2⟩
 case body =>
  rintro l pre x a' W hl hrec ⟨⟨v, hv, hrow, hnil⟩, hB⟩ ⟨Bx, v2, h1, hv2, hne, hbx, hsz, hdf, ht2, ht5⟩ hlen
  obtain rfl : v2 = v := by
   have := (show W.heap[w.heap.size]? = _ from hv2).symm.trans hv
   simpa using this
  have hnr := hv.not_row (by decide) hrow
  have hlow : ∀ b, (b = w.heap.size ∨ b = Bx ∨ v2.ownBlock = some b) → w.heap.size ≤ b := fun b hb => by
   rcases hb with rfl | rfl | hb
   · exact LG _
   · omega
   · exact (hrow.lt _ hb).1
  have hcell : ∀ b o, (b = w.heap.size ∨ b = Bx ∨ v2.ownBlock = some b) → W.heap[b]? = some o → o.isCells = true ∧ o.isWalk = false := fun b o hb ho => by
   rcases hb with rfl | rfl | hb
   ·
    rw [show W.heap[w.heap.size]? = _ from hv] at ho
    cases ho
    exact ⟨rfl, rfl⟩
   ·
    rw [hbx] at ho
    cases ho
    exact ⟨rfl, rfl⟩
   ·
    rcases hrow.2 with ⟨rfl, _⟩ | ⟨g, cap, cur, rfl, _, hgb, _⟩
    · cases hb
    ·
     obtain rfl : g = b := by simpa [Value.ownBlock] using hb
     rw [hgb] at ho
     cases ho
     exact ⟨rfl, rfl⟩
  refine wpIn_block (wpIn_region_lit (mD (fun ⟨_, _, h⟩ => h) _ (by simp) _ _ ?_))
  have hat : At (⟨W, fun _ => False, fun b => b = w.heap.size ∨ b = Bx ∨ v2.ownBlock = some b, fun _ h => h.elim⟩ : Cx 13) ⟨[(5, .val (.v (.pointer (some ⟨Bx, 0, none⟩)))), (2, .val (.v (.pointer (some ⟨w.heap.size, 0, none⟩))))], [.var w.heap.size 44 (.v v2), .row v2 23 32 (pre.map dK), .var Bx 23 (.arr 32 x.1)], []⟩ a' W := by
   refine ⟨⟨.refl _, ?_, fun o ho => ?_, fun f hf => by simp at hf⟩, fun t r h => ?_, hsz, hdf⟩
   ·
    refine .cons (fun p hp b hb => ?_) (.cons (fun p hp b hb => ?_) (.cons (fun p hp => by simp at hp) .nil))
    ·
     obtain rfl : w.heap.size = b := by simpa [Obj.blk] using hb
     rcases Lj.1 hp with rfl | hp
     · exact fun e => hnr e.symm
     ·
      obtain rfl : p = _ := by simpa using hp
      simp only [Obj.blk, ne_eq, N9]
      omega
    ·
     obtain rfl : p = _ := by simpa using hp
     simp only [Obj.blk] at hb ⊢
     exact fun e => hne (hb.trans e.symm)
   ·
    rcases Lj.1 ho with rfl | ho
    · exact ⟨.inl (.inl rfl), [v2], hv, by rw [Reads]; exact ⟨kD hrow, rfl⟩⟩
    ·
     rcases Lj.1 ho with rfl | ho
     ·
      refine ⟨pre.map kc, ⟨?_, fun b hb => .inl (.inr (.inr hb))⟩, dV pre⟩
      rw [Lc]
      exact kE hrow
     ·
      obtain rfl : o = _ := by simpa using ho
      exact ⟨.inl (.inr (.inl rfl)), bvs x.1, hbx, by rw [Reads]; exact ⟨x.2, rfl⟩⟩
   ·
    simp only [look] at h
    split at h
    ·
     rename_i e
     subst e
     cases h
     exact aG.2 ⟨rfl, ht5⟩
    ·
     split at h
     ·
      rename_i e
      subst e
      cases h
      exact aG.2 ⟨rfl, ht2⟩
     · cases h
  refine EL.go (S := ⟨[(5, .val (.v (.pointer (some ⟨Bx, 0, none⟩)))), (2, .val (.v (.pointer (some ⟨w.heap.size, 0, none⟩))))], [.var w.heap.size 44 (.v v2), .row v2 23 32 (pre.map dK), .var Bx 23 (.arr 32 x.1)], []⟩) ?_ _ _ hat
  have hml : (pre.map dK).length = pre.length := Lc _
  have hl1 : ([D.arr 32 x.1] : List D).length = 1 := rfl
  repeat (refine stp ?_; intros)
  refine ⟨fun a1 w1 h1 => ?_⟩
  rename_i v'
  obtain ⟨⟨hgr, _, hat1, _⟩, hregs, hsz', hdf'⟩ := h1
  obtain ⟨_, cs, hbox, hrd⟩ := hat1 _ (Ld ..)
  rw [Reads] at hrd
  rw [hrd.2] at hbox
  obtain ⟨rows, ⟨hrow', hbase⟩, hrows⟩ := hat1 _ (Lu _ (Ld ..))
  have hds : pre.map dK ++ [D.arr 32 x.1] = (pre ++ [x]).map dK := by simp [dK]
  rw [hds] at hrow' hrows
  rw [jk _ _ hrows, Lc] at hrow'
  have hown := zB (base := w.heap.size) hrow' fun b hb => by
   rcases hbase b hb with h | h
   · exact hlow b h
   · exact LZ hB.size h
  have hsame : ∀ k, k < W.heap.size → ¬ (k = w.heap.size ∨ k = Bx ∨ v2.ownBlock = some k) → w1.heap[k]? = W.heap[k]? := hgr.block
  refine ⟨⟨hgr.size, fun k o _ h0 ho => ?_⟩, ⟨hgr.size, fun k o h0 ho => ?_⟩, ⟨⟨v', hbox, hown, ?_⟩, hB.trans ⟨hgr.os, hgr.tape, hgr.output, hgr.size, fun k hk => ?_⟩⟩⟩
  ·
   refine (hsame k (LQ.1 h0).1 fun h => ?_).trans h0
   rw [(hcell k o h h0).1] at ho
   cases ho
  ·
   refine (hsame k (LQ.1 h0).1 fun h => ?_).trans h0
   rw [(hcell k o h h0).2] at ho
   cases ho
  ·
   constructor
   ·
    rintro rfl
    rcases hown.2 with ⟨_, h0⟩ | ⟨g, cap, cur, h0, _⟩
    · simp at h0
    · simp at h0
   ·
    intro h
    simp at h
  · exact hsame k (by have := hB.size; omega) fun h => by have := hlow k h; omega
 case done =>
  rintro D ys W hD hS ⟨⟨v, hv, hrow, hnil⟩, hB⟩ hK
  have hc := hv.cell
  gi_wp2
  refine ⟨by simp, .inl ⟨_, _, rfl, run_takeDeferred hK, ?_⟩⟩
  exact ⟨_, results_tmp rfl _ _ _, v, ys, rfl, hS, ownsRow_putObj hrow _ hK rfl, hnil, hB.trans (belowK_b (w := w) (LG _) W D _ _ (by simp at hD; omega) hK rfl rfl)⟩
 case stop =>
  rintro D c pre W _ _ h _
  exact h.elim
end E
end Go.Proofs.YtohlgnfachkmaaaGreat
namespace Go.Proofs.YtohlgnfachkmaaaGreat
set_option linter.unusedVariables false
set_option maxRecDepth 20000
set_option maxHeartbeats 1000000
open Go.RowKit Mono
abbrev dA (l m : List UInt8) : Int := Lib.compareBytes l m
theorem wK : ∀ a b : List UInt8, Op.bytesLess a b = decide (dA a b < 0)
 | [], [] => rfl
 | _ :: _, [] => rfl
 | [], _ :: _ => rfl
 | a :: x, b :: y => by
  rw [Op.bytesLess, dA, Lib.compareBytes, wK x y]
  by_cases h1 : a < b
  · simp [h1]
  ·
   by_cases h2 : b < a
   ·
    have h3 : ¬ a = b := fun e => by subst e; exact h1 h2
    simp [h1, h2, h3]
   ·
    have h3 : a = b := by
     apply UInt8.toNat_inj.1
     have := UInt8.not_lt.1 h1
     have := UInt8.not_lt.1 h2
     exact Nat.le_antisymm (UInt8.le_iff_toNat_le.1 (UInt8.not_lt.1 h2)) (UInt8.le_iff_toNat_le.1 (UInt8.not_lt.1 h1))
    subst h3
    simp [h1]
theorem ou {w : World} {v : Value} {l : List UInt8} (h : IsB w v l) : (Extern.Bytes.bytesOf v).run Tryz.prog w = .ok (bs l) w := by
 obtain ⟨A, c, rfl, h1, h2, hr⟩ := h
 cases A with
 | none =>
  have : l = [] := by
   by_cases hl : bvs l = []
   · simpa [bvs] using hl
   ·
    obtain ⟨b, o, e, _⟩ := hr hl
    cases e
  subst this
  rfl
 | some ad =>
  have := Lib.run_loadBytesX (P := Tryz.prog) (w := w) (l.map fun x => (x.toNat : Int)) ad .empty fun j x hx => by
   rw [Ls] at hx
   obtain ⟨y, hy, rfl⟩ := Option.map_eq_some_iff.1 hx
   obtain ⟨b, o, e, _, hc⟩ := hr (fun e => by have := congrArg List.length e; rw [aS] at this; simp at this; rw [this] at hy; simp at hy)
   injection e with e
   subst e
   rw [bI]
   exact hc j _ (by simp [bvs, bv, hy])
  rw [Lc] at this
  show (Extern.Bytes.loadBytes ad l.length .empty).run Tryz.prog w = _
  rw [this]
  have h2 : Lib.bytesOf (l.map fun x => (x.toNat : Int)) = l := by
   simp only [Lib.bytesOf, Nc]
   refine (Nu fun x _ => ?_).trans (List.map_id l)
   simp
  rw [h2]
  simp [bs]
theorem wo {w : World} {v u : Value} {l m : List UInt8} (h1 : IsB w v l) (h2 : IsB w u m) : (Extern.BytealgCompare.compare #[v, u]).run Tryz.prog w = .ok (.int .i64 (dA l m)) w := by
 change Sem.run Tryz.prog (do pure (goInt (Extern.BytealgCompare.cmp (← Extern.Bytes.bytesOf v) (← Extern.Bytes.bytesOf u)))) w = _
 simp only [Lr, ou h1, ou h2, Lh, LD, Lib.cmp_eq]
 rfl
theorem iH (v u : Value) (l m : List UInt8) (w : World) (h1 : IsB w v l) (h2 : IsB w u m) : Calls Tryz.prog 80 #[v, u] w fun e w' => e = .returned (.int .i64 (dA l m)) ∧ w' = w := by
 have hr := wo h1 h2
 go_enter Tryz.func80, Tryz.ntmps80
 go_wp2_with fail
 rw [run_callFunc_extern Tryz.func113 (by kernel_rfl) (by kernel_rfl) (by kernel_rfl) (e := Extern.BytealgCompare.compare) (by kernel_rfl), hr]
 simp only [Result.andThen]
 rw [Oper.upon_value]
 go_wp2_with fail
 exact bodyPost_ret (results_tmp rfl _ _ _) rfl ⟨rfl, rfl⟩
theorem y7 (a b : List UInt8) : Op.bytesLess a b = decide (a < b) := Go.Proofs.bytesLess_eq a b
theorem iO (a b : List UInt8) : decide (dA a b < 0) = decide (a < b) := by rw [← wK, y7]
end Go.Proofs.YtohlgnfachkmaaaGreat
namespace Go.Proofs.YtohlgnfachkmaaaGreat
set_option linter.unusedVariables false
set_option maxHeartbeats 1000000
open Go.RowKit Mono Rlp Go.Sort
namespace E
theorem pq {w : World} {g n : Nat} {t : TypeId} {l : List UInt8} (h : w.heap[g]? = some (.cells (bvs l).toArray t (0, 0))) (hl : l.length = n) (hn : n ≤ 64) : IsB w (.slice (some ⟨g, 0, none⟩) n n) l := by
 subst hl
 refine ⟨some ⟨g, 0, none⟩, l.length, rfl, LG _, by simp [maxLen]; omega, fun _ => ⟨g, 0, rfl, (LQ.1 h).1, fun j u hu => ?_⟩⟩
 rw [cell_of_row w g (0 + j) _ t (0, 0) h]
 simpa using hu
theorem uz (w : World) (l : List UInt8) : (Instr.box 36 (aT l)).run Tryz.prog w = .ok (.pointer (some ⟨w.heap.size, 0, none⟩)) (w.alloc (.cells (bvs l).toArray 36)) := by kernel_rfl
theorem rC {w : World} {ops : Array Oper} {rest : List Oper} {o : Oper} {a : Act} {Q : Exit → Act → World → Prop} {l : List UInt8} {x : Operand} (hgd : o.guard = none) (ho : o.op = .box 36 x) (hx : a.eval x = aT l)
  (h : wpList Tryz.prog ops Q rest (a.put o.dst (.pointer (some ⟨w.heap.size, 0, none⟩))) (w.alloc (.cells (bvs l).toArray 36))) : wpList Tryz.prog ops Q (o :: rest) a w := by
 refine wpList_plain hgd fun _ hK => ?_
 have h1 := hK _ _ h
 unfold Oper.wp execOp
 simp only [ho, hx, Lr, uz, Lh, LD]
 exact h1
theorem jV (w : World) (g : Nat) : (Instr.sliceAt 36 (.pointer (some ⟨g, 0, none⟩)) none none none).run Tryz.prog w = .ok (.slice (some ⟨g, 0, none⟩) 20 20) w := by kernel_rfl
set_option maxRecDepth 100000 in
theorem Es (l m : List UInt8) (hl : l.length = 20) (hm : m.length = 20) (w : World) : Calls Tryz.prog 79 #[aT l, aT m] w fun e w' => e = .returned (.int .i64 (dA l m)) ∧ ∃ q os', w' = grow (w.drewN q) os' := by
 have mixed : Tryz.prog.follows .mixedOrders = true := by kernel_rfl
 go_enter Tryz.func79, Tryz.ntmps79
 go_wp2_with (guard_target = wpList _ _ _ (Oper.mk _ (Op.box _ _) _ _ _ _ :: _) _ _; refine rC rfl rfl rfl ?_)
 have h0 : ((w.alloc (.cells (bvs l).toArray 36)).alloc (.cells (bvs m).toArray 36)).heap[w.heap.size]? = some (.cells (bvs l).toArray 36 (0, 0)) := by
  rw [(Na _ _).2 _ (by simp)]
  exact (Na w _).1
 have h1 : ((w.alloc (.cells (bvs l).toArray 36)).alloc (.cells (bvs m).toArray 36)).heap[w.heap.size + 1]? = some (.cells (bvs m).toArray 36 (0, 0)) := by
  have := (Na (w.alloc (.cells (bvs l).toArray 36)) (.cells (bvs m).toArray 36)).1
  simpa using this
 have hw : ∃ q os', (w.alloc (.cells (bvs l).toArray 36)).alloc (.cells (bvs m).toArray 36) = grow (w.drewN q) os' := ⟨0, _, by rw [alloc_eq_grow, alloc_eq_grow, grow_grow]; rfl⟩
 generalize (w.alloc (.cells (bvs l).toArray 36)).alloc (.cells (bvs m).toArray 36) = wq at h0 h1 hw ⊢
 have s0 : ∀ n, (Instr.sliceAt 36 (.pointer (some ⟨w.heap.size, 0, none⟩)) none none none).run Tryz.prog (wq.drewN n) = .ok (.slice (some ⟨w.heap.size, 0, none⟩) 20 20) (wq.drewN n) := fun n => jV _ _
 have s1 : ∀ n, (Instr.sliceAt 36 (.pointer (some ⟨w.heap.size + 1, 0, none⟩)) none none none).run Tryz.prog (wq.drewN n) = .ok (.slice (some ⟨w.heap.size + 1, 0, none⟩) 20 20) (wq.drewN n) := fun n => jV _ _
 have hc := Lib.hid fun n => iH _ _ l m (wq.drewN n) (pq h0 hl (by decide)) (pq h1 hm (by decide))
 clear h0 h1
 go_quiet_o ((go_at_call 80; exact (hc.out _).mono fun e w' ⟨he, hw⟩ => ⟨he, _, hw⟩))
 go_wp2_with fail
 obtain ⟨q, os', rfl⟩ := hw
 exact bodyPost_ret (results_tmp rfl _ _ _) rfl ⟨rfl, q + nq, os', by simp [grow, World.drewN, Nat.add_assoc]⟩
theorem uy (w : World) (l : List UInt8) : (Instr.box 23 (aT l)).run Tryz.prog w = .ok (.pointer (some ⟨w.heap.size, 0, none⟩)) (w.alloc (.cells (bvs l).toArray 23)) := by kernel_rfl
theorem ru {w : World} {ops : Array Oper} {rest : List Oper} {o : Oper} {a : Act} {Q : Exit → Act → World → Prop} {l : List UInt8} {x : Operand} (hgd : o.guard = none) (ho : o.op = .box 23 x) (hx : a.eval x = aT l)
  (h : wpList Tryz.prog ops Q rest (a.put o.dst (.pointer (some ⟨w.heap.size, 0, none⟩))) (w.alloc (.cells (bvs l).toArray 23))) : wpList Tryz.prog ops Q (o :: rest) a w := by
 refine wpList_plain hgd fun _ hK => ?_
 have h1 := hK _ _ h
 unfold Oper.wp execOp
 simp only [ho, hx, Lr, uy, Lh, LD]
 exact h1
theorem jU (w : World) (g : Nat) : (Instr.sliceAt 23 (.pointer (some ⟨g, 0, none⟩)) none none none).run Tryz.prog w = .ok (.slice (some ⟨g, 0, none⟩) 32 32) w := by kernel_rfl
set_option maxRecDepth 100000 in
theorem qO (l m : List UInt8) (hl : l.length = 32) (hm : m.length = 32) (w : World) : Calls Tryz.prog 43 #[aT l, aT m] w fun e w' => e = .returned (.int .i64 (dA l m)) ∧ ∃ q os', w' = grow (w.drewN q) os' := by
 have mixed : Tryz.prog.follows .mixedOrders = true := by kernel_rfl
 go_enter Tryz.func43, Tryz.ntmps43
 go_wp2_with (guard_target = wpList _ _ _ (Oper.mk _ (Op.box _ _) _ _ _ _ :: _) _ _; refine ru rfl rfl rfl ?_)
 have h0 : ((w.alloc (.cells (bvs l).toArray 23)).alloc (.cells (bvs m).toArray 23)).heap[w.heap.size]? = some (.cells (bvs l).toArray 23 (0, 0)) := by
  rw [(Na _ _).2 _ (by simp)]
  exact (Na w _).1
 have h1 : ((w.alloc (.cells (bvs l).toArray 23)).alloc (.cells (bvs m).toArray 23)).heap[w.heap.size + 1]? = some (.cells (bvs m).toArray 23 (0, 0)) := by
  have := (Na (w.alloc (.cells (bvs l).toArray 23)) (.cells (bvs m).toArray 23)).1
  simpa using this
 have hw : ∃ q os', (w.alloc (.cells (bvs l).toArray 23)).alloc (.cells (bvs m).toArray 23) = grow (w.drewN q) os' := ⟨0, _, by rw [alloc_eq_grow, alloc_eq_grow, grow_grow]; rfl⟩
 generalize (w.alloc (.cells (bvs l).toArray 23)).alloc (.cells (bvs m).toArray 23) = wq at h0 h1 hw ⊢
 have s0 : ∀ n, (Instr.sliceAt 23 (.pointer (some ⟨w.heap.size, 0, none⟩)) none none none).run Tryz.prog (wq.drewN n) = .ok (.slice (some ⟨w.heap.size, 0, none⟩) 32 32) (wq.drewN n) := fun n => jU _ _
 have s1 : ∀ n, (Instr.sliceAt 23 (.pointer (some ⟨w.heap.size + 1, 0, none⟩)) none none none).run Tryz.prog (wq.drewN n) = .ok (.slice (some ⟨w.heap.size + 1, 0, none⟩) 32 32) (wq.drewN n) := fun n => jU _ _
 have hc := Lib.hid fun n => iH _ _ l m (wq.drewN n) (pq h0 hl (by decide)) (pq h1 hm (by decide))
 clear h0 h1
 go_quiet_o ((go_at_call 80; exact (hc.out _).mono fun e w' ⟨he, hw⟩ => ⟨he, _, hw⟩))
 go_wp2_with fail
 obtain ⟨q, os', rfl⟩ := hw
 exact bodyPost_ret (results_tmp rfl _ _ _) rfl ⟨rfl, q + nq, os', by simp [grow, World.drewN, Nat.add_assoc]⟩
theorem swo (n : Nat) : SWO (Go.Proofs.ltOf fun x y : Ky n => dA x.1 y.1) := by
 have h : ∀ x y : Ky n, Go.Proofs.ltOf (fun x y : Ky n => dA x.1 y.1) x y = decide (x.1 < y.1) := fun x y => iO x.1 y.1
 refine ⟨fun x => ?_, fun x y z h1 h2 => ?_, fun x y z h1 h2 => ?_⟩
 ·
  rw [h]
  simp [List.lt_irrefl]
 ·
  rw [h] at h1 h2 ⊢
  simp only [decide_eq_true_eq] at h1 h2 ⊢
  exact NK h1 h2
 ·
  rw [h] at h1 h2 ⊢
  simp only [decide_eq_false_iff_not, NJ] at h1 h2 ⊢
  exact Om h2 h1
end E
end Go.Proofs.YtohlgnfachkmaaaGreat
namespace Go.Proofs.YtohlgnfachkmaaaGreat
open Go.Shelf
def uf : Go.Shelf.Ren := ⟨fun | 6 => 111 | 15 => 89 | 14 => 142 | 28 => 127 | 29 => 128 | 20 => 165 | 21 => 166 | 22 => 167 | 23 => 168 | 24 => 169 | 25 => 170 | 26 => 171 | 27 => 172 | 46 => 198 | 47 => 159 | 48 => 160 | 49 => 199 | 50 => 200 | 57 => 221 | n => n, fun | 22 => 144 | 24 => 36 | 25 => 150 | 3 => 3 | 39 => 156 | 0 => 0 | 53 => 207 | 55 => 209 | 4 => 4 | 46 => 201 | 45 => 200 | 50 => 161 | 5 => 5 | 9 => 9 | 66 => 256 | 70 => 260 | 76 => 300 | 77 => 301 | n => n, fun | n => n⟩
theorem vK : Go.Proofs.SlLaysF0.n6 Tryz.prog uf := {
 mixed := by kernel_rfl
 f6 := ⟨Tryz.f111.name, by decide, Tryz.func111.trans (congrArg some (by kernel_rfl))⟩
 f14 := ⟨Tryz.f142.name, by decide, Tryz.func142.trans (congrArg some (by kernel_rfl))⟩
 f15 := Tryz.func89.trans (congrArg some (by kernel_rfl))
 f20 := ⟨Tryz.f165.name, by decide, Tryz.func165.trans (congrArg some (by kernel_rfl))⟩
 f21 := ⟨Tryz.f166.name, by decide, Tryz.func166.trans (congrArg some (by kernel_rfl))⟩
 f22 := ⟨Tryz.f167.name, by decide, Tryz.func167.trans (congrArg some (by kernel_rfl))⟩
 f23 := ⟨Tryz.f168.name, by decide, Tryz.func168.trans (congrArg some (by kernel_rfl))⟩
 f24 := ⟨Tryz.f169.name, by decide, Tryz.func169.trans (congrArg some (by kernel_rfl))⟩
 f25 := ⟨Tryz.f170.name, by decide, Tryz.func170.trans (congrArg some (by kernel_rfl))⟩
 f26 := ⟨Tryz.f171.name, by decide, Tryz.func171.trans (congrArg some (by kernel_rfl))⟩
 f27 := ⟨Tryz.f172.name, by decide, Tryz.func172.trans (congrArg some (by kernel_rfl))⟩
 f28 := Tryz.func127.trans (congrArg some (by kernel_rfl))
 f29 := Tryz.func128.trans (congrArg some (by kernel_rfl))
 f46 := ⟨Tryz.f198.name, by decide, Tryz.func198.trans (congrArg some (by kernel_rfl))⟩
 f47 := Tryz.func159.trans (congrArg some (by kernel_rfl))
 f48 := Tryz.func160.trans (congrArg some (by kernel_rfl))
 f49 := ⟨Tryz.f199.name, by decide, Tryz.func199.trans (congrArg some (by kernel_rfl))⟩
 f50 := ⟨Tryz.f200.name, by decide, Tryz.func200.trans (congrArg some (by kernel_rfl))⟩
 f57 := ⟨Tryz.f221.name, by decide, Tryz.func221.trans (congrArg some (by kernel_rfl))⟩
 t0 := Tryz.underlying0
 a0 := Tryz.isAgg0
 z0 := Tryz.sizeOf0
 v0 := Tryz.zeroValue0
 t3 := Tryz.underlying3
 a3 := Tryz.isAgg3
 z3 := Tryz.sizeOf3
 v3 := Tryz.zeroValue3
 t4 := Tryz.underlying4
 a4 := Tryz.isAgg4
 z4 := Tryz.sizeOf4
 v4 := Tryz.zeroValue4
 t5 := Tryz.underlying5
 a5 := Tryz.isAgg5
 z5 := Tryz.sizeOf5
 v5 := Tryz.zeroValue5
 t9 := Tryz.underlying9
 a9 := Tryz.isAgg9
 z9 := Tryz.sizeOf9
 v9 := Tryz.zeroValue9
 t22 := Tryz.underlying144
 a22 := Tryz.isAgg144
 z22 := Tryz.sizeOf144
 v22 := Tryz.zeroValue144
 t25 := Tryz.underlying150
 a25 := Tryz.isAgg150
 z25 := Tryz.sizeOf150
 v25 := Tryz.zeroValue150
 t39 := Tryz.underlying156
 a39 := Tryz.isAgg156
 z39 := Tryz.sizeOf156
 v39 := Tryz.zeroValue156
 t45 := Tryz.underlying200
 a45 := Tryz.isAgg200
 z45 := Tryz.sizeOf200
 v45 := Tryz.zeroValue200
 t46 := Tryz.underlying201
 a46 := Tryz.isAgg201
 z46 := Tryz.sizeOf201
 v46 := Tryz.zeroValue201
 t50 := Tryz.underlying161
 a50 := Tryz.isAgg161
 z50 := Tryz.sizeOf161
 v50 := Tryz.zeroValue161
 t53 := Tryz.underlying207
 a53 := Tryz.isAgg207
 z53 := Tryz.sizeOf207
 v53 := Tryz.zeroValue207
 t55 := Tryz.underlying209
 a55 := Tryz.isAgg209
 z55 := Tryz.sizeOf209
 v55 := Tryz.zeroValue209
 t66 := Tryz.underlying256
 a66 := Tryz.isAgg256
 z66 := Tryz.sizeOf256
 v66 := Tryz.zeroValue256
 t70 := Tryz.underlying260
 a70 := Tryz.isAgg260
 z70 := Tryz.sizeOf260
 v70 := Tryz.zeroValue260
 t76 := Tryz.underlying300
 a76 := Tryz.isAgg300
 z76 := Tryz.sizeOf300
 v76 := Tryz.zeroValue300
 t77 := Tryz.underlying301
 a77 := Tryz.isAgg301
 z77 := Tryz.sizeOf301
 v77 := Tryz.zeroValue301 }
def tX : Go.Shelf.Ren := ⟨fun | 6 => 42 | 15 => 89 | 14 => 88 | 28 => 127 | 29 => 128 | 20 => 119 | 21 => 120 | 22 => 121 | 23 => 122 | 24 => 123 | 25 => 124 | 26 => 125 | 27 => 126 | 46 => 158 | 47 => 159 | 48 => 160 | 49 => 161 | 50 => 162 | 57 => 197 | n => n, fun | 22 => 44 | 24 => 23 | 25 => 104 | 3 => 3 | 39 => 156 | 0 => 0 | 53 => 207 | 55 => 209 | 4 => 4 | 46 => 201 | 45 => 200 | 50 => 161 | 5 => 5 | 9 => 9 | 66 => 256 | 70 => 260 | 76 => 300 | 77 => 301 | n => n, fun | n => n⟩
theorem vI : Go.Proofs.SlLaysF0.n6 Tryz.prog tX := {
 mixed := by kernel_rfl
 f6 := ⟨Tryz.f42.name, by decide, Tryz.func42.trans (congrArg some (by kernel_rfl))⟩
 f14 := ⟨Tryz.f88.name, by decide, Tryz.func88.trans (congrArg some (by kernel_rfl))⟩
 f15 := Tryz.func89.trans (congrArg some (by kernel_rfl))
 f20 := ⟨Tryz.f119.name, by decide, Tryz.func119.trans (congrArg some (by kernel_rfl))⟩
 f21 := ⟨Tryz.f120.name, by decide, Tryz.func120.trans (congrArg some (by kernel_rfl))⟩
 f22 := ⟨Tryz.f121.name, by decide, Tryz.func121.trans (congrArg some (by kernel_rfl))⟩
 f23 := ⟨Tryz.f122.name, by decide, Tryz.func122.trans (congrArg some (by kernel_rfl))⟩
 f24 := ⟨Tryz.f123.name, by decide, Tryz.func123.trans (congrArg some (by kernel_rfl))⟩
 f25 := ⟨Tryz.f124.name, by decide, Tryz.func124.trans (congrArg some (by kernel_rfl))⟩
 f26 := ⟨Tryz.f125.name, by decide, Tryz.func125.trans (congrArg some (by kernel_rfl))⟩
 f27 := ⟨Tryz.f126.name, by decide, Tryz.func126.trans (congrArg some (by kernel_rfl))⟩
 f28 := Tryz.func127.trans (congrArg some (by kernel_rfl))
 f29 := Tryz.func128.trans (congrArg some (by kernel_rfl))
 f46 := ⟨Tryz.f158.name, by decide, Tryz.func158.trans (congrArg some (by kernel_rfl))⟩
 f47 := Tryz.func159.trans (congrArg some (by kernel_rfl))
 f48 := Tryz.func160.trans (congrArg some (by kernel_rfl))
 f49 := ⟨Tryz.f161.name, by decide, Tryz.func161.trans (congrArg some (by kernel_rfl))⟩
 f50 := ⟨Tryz.f162.name, by decide, Tryz.func162.trans (congrArg some (by kernel_rfl))⟩
 f57 := ⟨Tryz.f197.name, by decide, Tryz.func197.trans (congrArg some (by kernel_rfl))⟩
 t0 := Tryz.underlying0
 a0 := Tryz.isAgg0
 z0 := Tryz.sizeOf0
 v0 := Tryz.zeroValue0
 t3 := Tryz.underlying3
 a3 := Tryz.isAgg3
 z3 := Tryz.sizeOf3
 v3 := Tryz.zeroValue3
 t4 := Tryz.underlying4
 a4 := Tryz.isAgg4
 z4 := Tryz.sizeOf4
 v4 := Tryz.zeroValue4
 t5 := Tryz.underlying5
 a5 := Tryz.isAgg5
 z5 := Tryz.sizeOf5
 v5 := Tryz.zeroValue5
 t9 := Tryz.underlying9
 a9 := Tryz.isAgg9
 z9 := Tryz.sizeOf9
 v9 := Tryz.zeroValue9
 t22 := Tryz.underlying44
 a22 := Tryz.isAgg44
 z22 := Tryz.sizeOf44
 v22 := Tryz.zeroValue44
 t25 := Tryz.underlying104
 a25 := Tryz.isAgg104
 z25 := Tryz.sizeOf104
 v25 := Tryz.zeroValue104
 t39 := Tryz.underlying156
 a39 := Tryz.isAgg156
 z39 := Tryz.sizeOf156
 v39 := Tryz.zeroValue156
 t45 := Tryz.underlying200
 a45 := Tryz.isAgg200
 z45 := Tryz.sizeOf200
 v45 := Tryz.zeroValue200
 t46 := Tryz.underlying201
 a46 := Tryz.isAgg201
 z46 := Tryz.sizeOf201
 v46 := Tryz.zeroValue201
 t50 := Tryz.underlying161
 a50 := Tryz.isAgg161
 z50 := Tryz.sizeOf161
 v50 := Tryz.zeroValue161
 t53 := Tryz.underlying207
 a53 := Tryz.isAgg207
 z53 := Tryz.sizeOf207
 v53 := Tryz.zeroValue207
 t55 := Tryz.underlying209
 a55 := Tryz.isAgg209
 z55 := Tryz.sizeOf209
 v55 := Tryz.zeroValue209
 t66 := Tryz.underlying256
 a66 := Tryz.isAgg256
 z66 := Tryz.sizeOf256
 v66 := Tryz.zeroValue256
 t70 := Tryz.underlying260
 a70 := Tryz.isAgg260
 z70 := Tryz.sizeOf260
 v70 := Tryz.zeroValue260
 t76 := Tryz.underlying300
 a76 := Tryz.isAgg300
 z76 := Tryz.sizeOf300
 v76 := Tryz.zeroValue300
 t77 := Tryz.underlying301
 a77 := Tryz.isAgg301
 z77 := Tryz.sizeOf301
 v77 := Tryz.zeroValue301 }
end Go.Proofs.YtohlgnfachkmaaaGreat
