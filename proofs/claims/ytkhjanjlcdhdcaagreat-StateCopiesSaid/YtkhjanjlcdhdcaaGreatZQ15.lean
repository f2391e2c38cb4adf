/-
 Merged: lemmas of this claim.
 Conditions: none.
-/
import Derived.Test.YtkhjanjlcdhdcaaGreatZQ11
import Derived.Test.YtkhjanjlcdhdcaaGreatZQ14
import Derived.Test.YtkhjanjlcdhdcaaGreatZQ2
import Derived.Lib.Bytealg
import Derived.Lib.BytesEntry
import Derived.Sort.Walk0
import Derived.Shelf.RegionOpenPlain
import Derived.Shelf.SlSortCmp.WholeK
import Derived.Shelf.SlGeneric
import Derived.Ground.SlsfProg
import Derived.Test.YtkhjanjlcdhdcaaGreatRows
import Derived.Test.YtkhjanjlcdhdcaaGreatZQ0
namespace Go.Proofs.YtkhjanjlcdhdcaaGreat
set_option linter.unusedVariables false
set_option maxHeartbeats 4000000
open Go.RowKit Mono Rlp
namespace E
theorem FV {l n : Nat} {P : Program} {row : String} {args : Array Value} {w : World} {R : Value → World → Prop} (h : Rows P row args w R) : RowsIn (Fence.wide.inRound l) n P row args w R := fun c cs _ => by
 obtain ⟨v, w', h1, h2⟩ := h c cs
 exact ⟨v, w', h1, stepsIn_wide.2 h2⟩
theorem JM {l n : Nat} {P : Program} {o : Oper} {a : Act} {w : World} {K K' : Act → World → Prop} {Q : Exit → Act → World → Prop} (hQ : ¬ LetsOut Q) (hd : ∀ c, o.op ≠ .defer c) (hK : ∀ a w, K a w → K' a w) (h : o.wp P a w K Q ∨ (o.asks P a w ∧ LetsOut Q)) : o.wpIn (Fence.wide.inRound l) n P a w K' Q := by
 rcases h with h | ⟨_, h⟩
 ·
  refine ⟨fun _ _ => trivial, ?_⟩
  rw [Oper.semAt_plain _ _ _ hd]
  unfold Oper.wp at h
  cases hr : (execOp a.eval o).run P w with
  | ok x w' =>
   rw [hr] at h
   cases x with
   | value v => exact hK _ _ h
   | skip => exact hK _ _ h
   | defer d => exact hK _ _ h
   | enter f args =>
    refine ⟨fun h => by simp [Fence.wide] at h, CallsIn.inRound l (callsIn_wide.2 (Calls.mono h ?_))⟩
    intro e w'' he
    cases e with
    | returned v => exact hK _ _ he
    | panicked c => exact he
    | outgrown => exact he
   | row row args => exact ⟨fun h => by simp [Fence.wide] at h, FV (fun c cs => by obtain ⟨v, w', h1, h2⟩ := h c cs; exact ⟨v, w', hK _ _ h1, h2⟩)⟩
   | _ => exact h.elim
  | halt x w' =>
   rw [hr] at h
   cases x <;> first | exact h | exact h.elim
 · exact absurd h hQ
theorem ni {l n : Nat} {P : Program} {ops : Array Oper} {Q : Exit → Act → World → Prop} (hQ : ¬ LetsOut Q) : ∀ (rest : List Oper), (∀ o ∈ rest, ∀ c, o.op ≠ .defer c) → ∀ a w, wpList P ops Q rest a w → wpListIn (Fence.wide.inRound l) n P ops Q rest a w
 | [], _, a, w, h => h
 | o :: rest, hd, a, w, h => by
  rw [wpList] at h
  rw [wpListIn]
  have ih := ni (l := l) (n := n) (P := P) (ops := ops) hQ rest fun o ho => hd o (Ld _ ho)
  split
  ·
   rename_i hw
   rw [if_pos hw] at h
   exact JM hQ (hd o (by simp)) ih h
  ·
   rename_i hw
   rw [if_neg hw] at h
   exact ⟨fun _ _ => trivial, ih _ _ h⟩
def kc {n : Nat} (k : Ky n) : List Value := bvs k.1
def dK {n : Nat} (k : Ky n) : D := .arr n k.1
theorem dV {ok : Nat → Prop} {w : World} {n : Nat} : ∀ (ks : List (Ky n)), ah ok w n (ks.map dK) (ks.map kc)
 | [] => by rw [ML, ah]; rfl
 | k :: ks => by
  rw [Lu, ah]
  exact ⟨kc k, _, rfl, by unfold kc; rw [aS, k.2], by unfold dK; rw [Reads]; exact ⟨k.2, rfl⟩, dV ks⟩
theorem iY {ok : Nat → Prop} {w : World} {n : Nat} : ∀ (ks : List (Ky n)) (rows : List (List Value)), ah ok w n (ks.map dK) rows → rows = ks.map kc
 | [], rows, h => by rw [ML, ah] at h; exact h
 | k :: ks, rows, h => by
  rw [Lu, ah] at h
  obtain ⟨r, rest, rfl, _, h2, h3⟩ := h
  unfold dK at h2
  rw [Reads] at h2
  rw [iY ks rest h3, h2.2]
  rfl
theorem zT {w : World} {e : TypeId} {z : Nat} {v : Value} {k : Nat} {xs : List Value} {base : Nat} (h : w.ownsRow 0 e z v k xs) (hb : ∀ b, v.ownBlock = some b → base ≤ b) : w.ownsRow base e z v k xs := by
 refine ⟨h.1, h.2.imp id fun ⟨g, cap, cur, h1, h2, h3⟩ => ⟨g, cap, cur, h1, hb g (by rw [h1]; rfl), h3⟩⟩
theorem mV {w : World} {e : TypeId} {z : Nat} {v : Value} {k : Nat} {xs : List Value} {base : Nat} (h : w.ownsRow base e z v k xs) : w.ownsRow 0 e z v k xs :=
 ⟨h.1, h.2.imp id fun ⟨g, cap, cur, h1, _, h3⟩ => ⟨g, cap, cur, h1, Lr _, h3⟩⟩
theorem mQ {w : World} {e : TypeId} {z : Nat} {v : Value} {k : Nat} {xs : List Value} {base : Nat} (h : w.ownsRow base e z v k xs) : v.oneCell' = true := by
 rcases h.2 with ⟨rfl, _⟩ | ⟨g, cap, cur, rfl, _⟩ <;> rfl
set_option maxRecDepth 100000 in
theorem qX (n : Nat) (hn : 2 ≤ n) (gf : Nat) (lb : Array Value) (eg : ∀ args w, (callFunc gf args).run Tryz.prog w = .ok (.enter gf args) w) (S Sp : List (Ky 20) → Prop) (N : Nat) (hN : N * 20 ≤ 140737488355328) (w : World)
  (hseq : SeqStopsK Fence.wide (n - 1) Tryz.prog gf lb (fun x : Ky 20 => #[kv x]) KeepsWalks S Sp N w) :
  CallsIn Fence.wide n Tryz.prog 77 #[.slice none 0 0, .func (.func gf) #[] lb] w fun e W' => ∃ v ss, e = .returned v ∧ S ss ∧ W'.ownsRow w.heap.size 32 20 v ss.length (ss.map kc).flatten ∧ (v = .slice none 0 0 ↔ ss = []) ∧ Below w.heap.size w W' := by
 refine callsIn_of_wp_marks Tryz.func77 rfl trivial ?_ rfl
 simp only [Tryz.ntmps77, Om, LX, OI, Nat.reduceAdd, Nat.reduceSub, Oy, Oz, List.push_toArray, OE, KE, KD]
 gi_wp2
 have bO := Boxed.new w 82 (.slice none 0 0)
 have hB0 : Below w.heap.size w (w.alloc (.cells #[.slice none 0 0] 82)) := (Below.refl _ w).alloc (Lj _) _
 refine wpIn_rangeFunc_ownH rfl (by omega) (gf := gf) (lb := lb) rfl trivial eg hseq walksK_t walksK_b hB0 (fun _ => rfl)
  (fun pre W => (∃ v, Boxed W w.heap.size 82 v ∧ W.ownsRow w.heap.size 32 20 v pre.length (pre.map kc).flatten ∧ (v = .slice none 0 0 ↔ pre = [])) ∧ Below w.heap.size w W)
  (fun _ _ _ => False)
  (OwnFrom.and (Own.from (holdsRow_own w.heap.size w.heap.size 82 32 20 (fun pre : List (Ky 20) => pre.length) (fun pre => (pre.map kc).flatten) (fun pre v => v = .slice none 0 0 ↔ pre = [])) _) (ownFrom_below (Lj _) (by simp)))
  (fun _ _ _ _ _ hs _ _ => hs)
  ⟨⟨_, bO, World.ownsRow_nil _ _ _ _, by simp⟩, hB0⟩
  (fun x a' W => ∃ Bx v, w.heap.size < Bx ∧ Boxed W w.heap.size 82 v ∧ v.ownBlock ≠ some Bx ∧ W.heap[Bx]? = some (.cells (bvs x.1).toArray 32 (0, 0)) ∧ a'.tmps.size = 13 ∧ a'.defers = [] ∧ a'.tmps.getD 2 undef = .pointer (some ⟨w.heap.size, 0, none⟩) ∧ a'.tmps.getD 5 undef = .pointer (some ⟨Bx, 0, none⟩))
  ?hAx ?assign ?body ?done ?stop
 case hAx =>
  rintro x a' s X Y row ⟨Bx, v, h1, h2, h3, h4, h5⟩ hg hr
  refine ⟨Bx, v, h1, h2.kept hg fun e => ?_, h3, (hg.block Bx (LJ.1 h4).1 fun e => ?_).trans h4, h5⟩
  ·
   obtain ⟨_, o, ho, hc⟩ := hr _ e.symm
   rw [show X.heap[w.heap.size]? = _ from h2] at ho
   cases ho
   cases hc
  ·
   obtain ⟨_, o, ho, hc⟩ := hr _ e.symm
   rw [h4] at ho
   cases ho
   cases hc
 case assign =>
  rintro l pre x W K ⟨⟨v, hv, hrow, hnil⟩, hB⟩ hK
  have e : ((#[7] : Array Tmp).zip #[kv x]).foldl (fun t (p, v) => t.setIfInBounds p v) #[.slice none 0 0, .func (.func gf) #[] lb, .pointer (some ⟨w.heap.size, 0, none⟩), undef, .slice none 0 0, undef, .func (.func gf) #[] lb, undef, undef, undef, undef, undef, undef] = #[.slice none 0 0, .func (.func gf) #[] lb, .pointer (some ⟨w.heap.size, 0, none⟩), undef, .slice none 0 0, undef, .func (.func gf) #[] lb, kv x, undef, undef, undef, undef, undef] := by simp
  rw [e]
  refine wpIn_region_lit (ni (fun ⟨_, _, h⟩ => h) _ (by simp) _ _ ?_)
  have hat : At (⟨W, fun _ => False, fun _ => False, fun _ h => h.elim⟩ : Cx 13) ⟨[(7, .val (.arr 20 x.1)), (2, .val (.v (.pointer (some ⟨w.heap.size, 0, none⟩))))], [], []⟩ { tmps := #[.slice none 0 0, .func (.func gf) #[] lb, .pointer (some ⟨w.heap.size, 0, none⟩), undef, .slice none 0 0, undef, .func (.func gf) #[] lb, kv x, undef, undef, undef, undef, undef], defers := [] } W := by
   refine ⟨⟨.refl _, .nil, fun o ho => by simp at ho, fun f hf => by simp at hf⟩, fun t r h => ?_, rfl, rfl⟩
   simp only [look] at h
   split at h
   ·
    rename_i e
    subst e
    cases h
    exact ⟨bvs x.1, by rw [Reads]; exact ⟨x.2, rfl⟩, rfl⟩
   ·
    split at h
    ·
     rename_i e
     subst e
     cases h
     exact ay.2 ⟨rfl, rfl⟩
    · cases h
  refine EL.go (Q := Exit.then K (fun _ _ _ => False)) (S := ⟨[(7, .val (.arr 20 x.1)), (2, .val (.v (.pointer (some ⟨w.heap.size, 0, none⟩))))], [], []⟩) ?_ _ _ hat
  repeat (refine stp ?_; intros)
  refine ⟨fun a1 w1 h1 => ?_⟩
  rename_i Bx
  obtain ⟨⟨hgr, _, hat1, _⟩, hregs, hsz, hdf⟩ := h1
  obtain ⟨hbx, cs, hheap, hrd⟩ := hat1 _ (KQ ..)
  rw [Reads] at hrd
  rw [hrd.2] at hheap
  have hbx' : W.heap.size ≤ Bx := hbx.resolve_left id
  have hg : W.grownBy w1 none := ⟨hgr.os, hgr.tape, hgr.output, hgr.size, fun i hi _ => hgr.block i hi id⟩
  have hvl := hv.lt
  exact hK a1 w1 ((KeepsOthers.of_grownBy hg fun j o e _ => by cases e).from _) (KeepsWalks.of_grownBy hg fun j o e => by cases e) ⟨⟨v, hv.kept hg (by simp), hrow.kept hg (by cases v.ownBlock with | none => exact .inl rfl | some k => exact .inr (by simp)), hnil⟩, hB.grown hg hB.size fun k e => by cases e⟩
   ⟨Bx, v, by omega, hv.kept hg (by simp), fun e => by have := (hrow.lt _ e).2; omega, hheap, hsz, hdf, (ay.1 (hregs 2 _ rfl)).2, (ay.1 (hregs 5 _ rfl)).2⟩
 case body =>
  rintro l pre x a' W hl hrec ⟨⟨v, hv, hrow, hnil⟩, hB⟩ ⟨Bx, v2, h1, hv2, hne, hbx, hsz, hdf, ht2, ht5⟩ hlen
  obtain rfl : v2 = v := by
   have := (show W.heap[w.heap.size]? = _ from hv2).symm.trans hv
   simpa using this
  have hnr := hv.not_row (by decide) hrow
  have hlow : ∀ b, (b = w.heap.size ∨ b = Bx ∨ v2.ownBlock = some b) → w.heap.size ≤ b := fun b hb => by
   rcases hb with rfl | rfl | hb
   · exact Lj _
   · omega
   · exact (hrow.lt _ hb).1
  have hcell : ∀ b o, (b = w.heap.size ∨ b = Bx ∨ v2.ownBlock = some b) → W.heap[b]? = some o → o.isCells = true ∧ o.isWalk = false := fun b o hb ho => by
   rcases hb with rfl | rfl | hb
   ·
    rw [show W.heap[w.heap.size]? = _ from hv] at ho
    cases ho
    exact ⟨rfl, rfl⟩
   ·
    rw [hbx] at ho
    cases ho
    exact ⟨rfl, rfl⟩
   ·
    rcases hrow.2 with ⟨rfl, _⟩ | ⟨g, cap, cur, rfl, _, hgb, _⟩
    · cases hb
    ·
     obtain rfl : g = b := by simpa [Value.ownBlock] using hb
     rw [hgb] at ho
     cases ho
     exact ⟨rfl, rfl⟩
  refine wpIn_block (wpIn_region_lit (ni (fun ⟨_, _, h⟩ => h) _ (by simp) _ _ ?_))
  have hat : At (⟨W, fun _ => False, fun b => b = w.heap.size ∨ b = Bx ∨ v2.ownBlock = some b, fun _ h => h.elim⟩ : Cx 13) ⟨[(5, .val (.v (.pointer (some ⟨Bx, 0, none⟩)))), (2, .val (.v (.pointer (some ⟨w.heap.size, 0, none⟩))))], [.var w.heap.size 82 (.v v2), .row v2 32 20 (pre.map dK), .var Bx 32 (.arr 20 x.1)], []⟩ a' W := by
   refine ⟨⟨.refl _, ?_, fun o ho => ?_, fun f hf => by simp at hf⟩, fun t r h => ?_, hsz, hdf⟩
   ·
    refine .cons (fun p hp b hb => ?_) (.cons (fun p hp b hb => ?_) (.cons (fun p hp => by simp at hp) .nil))
    ·
     obtain rfl : w.heap.size = b := by simpa [Obj.blk] using hb
     rcases KT.1 hp with rfl | hp
     · exact fun e => hnr e.symm
     ·
      obtain rfl : p = _ := by simpa using hp
      simp only [Obj.blk, ne_eq, NW]
      omega
    ·
     obtain rfl : p = _ := by simpa using hp
     simp only [Obj.blk] at hb ⊢
     exact fun e => hne (hb.trans e.symm)
   ·
    rcases KT.1 ho with rfl | ho
    · exact ⟨.inl (.inl rfl), [v2], hv, by rw [Reads]; exact ⟨mQ hrow, rfl⟩⟩
    ·
     rcases KT.1 ho with rfl | ho
     ·
      refine ⟨pre.map kc, ⟨?_, fun b hb => .inl (.inr (.inr hb))⟩, dV pre⟩
      rw [KR]
      exact mV hrow
     ·
      obtain rfl : o = _ := by simpa using ho
      exact ⟨.inl (.inr (.inl rfl)), bvs x.1, hbx, by rw [Reads]; exact ⟨x.2, rfl⟩⟩
   ·
    simp only [look] at h
    split at h
    ·
     rename_i e
     subst e
     cases h
     exact ay.2 ⟨rfl, ht5⟩
    ·
     split at h
     ·
      rename_i e
      subst e
      cases h
      exact ay.2 ⟨rfl, ht2⟩
     · cases h
  refine EL.go (S := ⟨[(5, .val (.v (.pointer (some ⟨Bx, 0, none⟩)))), (2, .val (.v (.pointer (some ⟨w.heap.size, 0, none⟩))))], [.var w.heap.size 82 (.v v2), .row v2 32 20 (pre.map dK), .var Bx 32 (.arr 20 x.1)], []⟩) ?_ _ _ hat
  have hml : (pre.map dK).length = pre.length := KR _
  have hl1 : ([D.arr 20 x.1] : List D).length = 1 := rfl
  repeat (refine stp ?_; intros)
  refine ⟨fun a1 w1 h1 => ?_⟩
  rename_i v'
  obtain ⟨⟨hgr, _, hat1, _⟩, hregs, hsz', hdf'⟩ := h1
  obtain ⟨_, cs, hbox, hrd⟩ := hat1 _ (KQ ..)
  rw [Reads] at hrd
  rw [hrd.2] at hbox
  obtain ⟨rows, ⟨hrow', hbase⟩, hrows⟩ := hat1 _ (Ld _ (KQ ..))
  have hds : pre.map dK ++ [D.arr 20 x.1] = (pre ++ [x]).map dK := by simp [dK]
  rw [hds] at hrow' hrows
  rw [iY _ _ hrows, KR] at hrow'
  have hown := zT (base := w.heap.size) hrow' fun b hb => by
   rcases hbase b hb with h | h
   · exact hlow b h
   · exact LG hB.size h
  have hsame : ∀ k, k < W.heap.size → ¬ (k = w.heap.size ∨ k = Bx ∨ v2.ownBlock = some k) → w1.heap[k]? = W.heap[k]? := hgr.block
  refine ⟨⟨hgr.size, fun k o _ h0 ho => ?_⟩, ⟨hgr.size, fun k o h0 ho => ?_⟩, ⟨⟨v', hbox, hown, ?_⟩, hB.trans ⟨hgr.os, hgr.tape, hgr.output, hgr.size, fun k hk => ?_⟩⟩⟩
  ·
   refine (hsame k (LJ.1 h0).1 fun h => ?_).trans h0
   rw [(hcell k o h h0).1] at ho
   cases ho
  ·
   refine (hsame k (LJ.1 h0).1 fun h => ?_).trans h0
   rw [(hcell k o h h0).2] at ho
   cases ho
  ·
   constructor
   ·
    rintro rfl
    rcases hown.2 with ⟨_, h0⟩ | ⟨g, cap, cur, h0, _⟩
    · simp at h0
    · simp at h0
   ·
    intro h
    simp at h
  · exact hsame k (by have := hB.size; omega) fun h => by have := hlow k h; omega
 case done =>
  rintro D ys W hD hS ⟨⟨v, hv, hrow, hnil⟩, hB⟩ hK
  have hc := hv.cell
  gi_wp2
  refine ⟨by simp, .inl ⟨_, _, rfl, run_takeDeferred hK, ?_⟩⟩
  exact ⟨_, results_tmp rfl _ _ _, v, ys, rfl, hS, ownsRow_putObj hrow _ hK rfl, hnil, hB.trans (belowK_b (w := w) (Lj _) W D _ _ (by simp at hD; omega) hK rfl rfl)⟩
 case stop =>
  rintro D c pre W _ _ h _
  exact h.elim
set_option maxRecDepth 100000 in
theorem qW (n : Nat) (hn : 2 ≤ n) (gf : Nat) (lb : Array Value) (eg : ∀ args w, (callFunc gf args).run Tryz.prog w = .ok (.enter gf args) w) (S Sp : List (Ky 32) → Prop) (N : Nat) (hN : N * 32 ≤ 140737488355328) (w : World)
  (hseq : SeqStopsK Fence.wide (n - 1) Tryz.prog gf lb (fun x : Ky 32 => #[kv x]) KeepsWalks S Sp N w) :
  CallsIn Fence.wide n Tryz.prog 80 #[.slice none 0 0, .func (.func gf) #[] lb] w fun e W' => ∃ v ss, e = .returned v ∧ S ss ∧ W'.ownsRow w.heap.size 34 32 v ss.length (ss.map kc).flatten ∧ (v = .slice none 0 0 ↔ ss = []) ∧ Below w.heap.size w W' := by
 refine callsIn_of_wp_marks Tryz.func80 rfl trivial ?_ rfl
 simp only [Tryz.ntmps80, Om, LX, OI, Nat.reduceAdd, Nat.reduceSub, Oy, Oz, List.push_toArray, OE, KE, KD]
 gi_wp2
 have bO := Boxed.new w 89 (.slice none 0 0)
 have hB0 : Below w.heap.size w (w.alloc (.cells #[.slice none 0 0] 89)) := (Below.refl _ w).alloc (Lj _) _
 refine wpIn_rangeFunc_ownH rfl (by omega) (gf := gf) (lb := lb) rfl trivial eg hseq walksK_t walksK_b hB0 (fun _ => rfl)
  (fun pre W => (∃ v, Boxed W w.heap.size 89 v ∧ W.ownsRow w.heap.size 34 32 v pre.length (pre.map kc).flatten ∧ (v = .slice none 0 0 ↔ pre = [])) ∧ Below w.heap.size w W)
  (fun _ _ _ => False)
  (OwnFrom.and (Own.from (holdsRow_own w.heap.size w.heap.size 89 34 32 (fun pre : List (Ky 32) => pre.length) (fun pre => (pre.map kc).flatten) (fun pre v => v = .slice none 0 0 ↔ pre = [])) _) (ownFrom_below (Lj _) (by simp)))
  (fun _ _ _ _ _ hs _ _ => hs)
  ⟨⟨_, bO, World.ownsRow_nil _ _ _ _, by simp⟩, hB0⟩
  (fun x a' W => ∃ Bx v, w.heap.size < Bx ∧ Boxed W w.heap.size 89 v ∧ v.ownBlock ≠ some Bx ∧ W.heap[Bx]? = some (.cells (bvs x.1).toArray 34 (0, 0)) ∧ a'.tmps.size = 13 ∧ a'.defers = [] ∧ a'.tmps.getD 2 undef = .pointer (some ⟨w.heap.size, 0, none⟩) ∧ a'.tmps.getD 5 undef = .pointer (some ⟨Bx, 0, none⟩))
  ?hAx ?assign ?body ?done ?stop
 case hAx =>
  rintro x a' s X Y row ⟨Bx, v, h1, h2, h3, h4, h5⟩ hg hr
  refine ⟨Bx, v, h1, h2.kept hg fun e => ?_, h3, (hg.block Bx (LJ.1 h4).1 fun e => ?_).trans h4, h5⟩
  ·
   obtain ⟨_, o, ho, hc⟩ := hr _ e.symm
   rw [show X.heap[w.heap.size]? = _ from h2] at ho
   cases ho
   cases hc
  ·
   obtain ⟨_, o, ho, hc⟩ := hr _ e.symm
   rw [h4] at ho
   cases ho
   cases hc
 case assign =>
  rintro l pre x W K ⟨⟨v, hv, hrow, hnil⟩, hB⟩ hK
  have e : ((#[7] : Array Tmp).zip #[kv x]).foldl (fun t (p, v) => t.setIfInBounds p v) #[.slice none 0 0, .func (.func gf) #[] lb, .pointer (some ⟨w.heap.size, 0, none⟩), undef, .slice none 0 0, undef, .func (.func gf) #[] lb, undef, undef, undef, undef, undef, undef] = #[.slice none 0 0, .func (.func gf) #[] lb, .pointer (some ⟨w.heap.size, 0, none⟩), undef, .slice none 0 0, undef, .func (.func gf) #[] lb, kv x, undef, undef, undef, undef, undef] := by simp
  rw [e]
  refine wpIn_region_lit (ni (fun ⟨_, _, h⟩ => h) _ (by simp) _ _ ?_)
  have hat : At (⟨W, fun _ => False, fun _ => False, fun _ h => h.elim⟩ : Cx 13) ⟨[(7, .val (.arr 32 x.1)), (2, .val (.v (.pointer (some ⟨w.heap.size, 0, none⟩))))], [], []⟩ { tmps := #[.slice none 0 0, .func (.func gf) #[] lb, .pointer (some ⟨w.heap.size, 0, none⟩), undef, .slice none 0 0, undef, .func (.func gf) #[] lb, kv x, undef, undef, undef, undef, undef], defers := [] } W := by
   refine ⟨⟨.refl _, .nil, fun o ho => by simp at ho, fun f hf => by simp at hf⟩, fun t r h => ?_, rfl, rfl⟩
   simp only [look] at h
   split at h
   ·
    rename_i e
    subst e
    cases h
    exact ⟨bvs x.1, by rw [Reads]; exact ⟨x.2, rfl⟩, rfl⟩
   ·
    split at h
    ·
     rename_i e
     subst e
     cases h
     exact ay.2 ⟨rfl, rfl⟩
    · cases h
  refine EL.go (Q := Exit.then K (fun _ _ _ => False)) (S := ⟨[(7, .val (.arr 32 x.1)), (2, .val (.v (.pointer (some ⟨w.heap.size, 0, none⟩))))], [], []⟩) ?_ _ _ hat
  repeat (refine stp ?_; intros)
  refine ⟨fun a1 w1 h1 => ?_⟩
  rename_i Bx
  obtain ⟨⟨hgr, _, hat1, _⟩, hregs, hsz, hdf⟩ := h1
  obtain ⟨hbx, cs, hheap, hrd⟩ := hat1 _ (KQ ..)
  rw [Reads] at hrd
  rw [hrd.2] at hheap
  have hbx' : W.heap.size ≤ Bx := hbx.resolve_left id
  have hg : W.grownBy w1 none := ⟨hgr.os, hgr.tape, hgr.output, hgr.size, fun i hi _ => hgr.block i hi id⟩
  have hvl := hv.lt
  exact hK a1 w1 ((KeepsOthers.of_grownBy hg fun j o e _ => by cases e).from _) (KeepsWalks.of_grownBy hg fun j o e => by cases e) ⟨⟨v, hv.kept hg (by simp), hrow.kept hg (by cases v.ownBlock with | none => exact .inl rfl | some k => exact .inr (by simp)), hnil⟩, hB.grown hg hB.size fun k e => by cases e⟩
   ⟨Bx, v, by omega, hv.kept hg (by simp), fun e => by have := (hrow.lt _ e).2; omega, hheap, hsz, hdf, (ay.1 (hregs 2 _ rfl)).2, (ay.1 (hregs 5 _ rfl)).2⟩
 case body =>
  rintro l pre x a' W hl hrec ⟨⟨v, hv, hrow, hnil⟩, hB⟩ ⟨Bx, v2, h1, hv2, hne, hbx, hsz, hdf, ht2, ht5⟩ hlen
  obtain rfl : v2 = v := by
   have := (show W.heap[w.heap.size]? = _ from hv2).symm.trans hv
   simpa using this
  have hnr := hv.not_row (by decide) hrow
  have hlow : ∀ b, (b = w.heap.size ∨ b = Bx ∨ v2.ownBlock = some b) → w.heap.size ≤ b := fun b hb => by
   rcases hb with rfl | rfl | hb
   · exact Lj _
   · omega
   · exact (hrow.lt _ hb).1
  have hcell : ∀ b o, (b = w.heap.size ∨ b = Bx ∨ v2.ownBlock = some b) → W.heap[b]? = some o → o.isCells = true ∧ o.isWalk = false := fun b o hb ho => by
   rcases hb with rfl | rfl | hb
   ·
    rw [show W.heap[w.heap.size]? = _ from hv] at ho
    cases ho
    exact ⟨rfl, rfl⟩
   ·
    rw [hbx] at ho
    cases ho
    exact ⟨rfl, rfl⟩
   ·
    rcases hrow.2 with ⟨rfl, _⟩ | ⟨g, cap, cur, rfl, _, hgb, _⟩
    · cases hb
    ·
     obtain rfl : g = b := by simpa [Value.ownBlock] using hb
     rw [hgb] at ho
     cases ho
     exact ⟨rfl, rfl⟩
  refine wpIn_block (wpIn_region_lit (ni (fun ⟨_, _, h⟩ => h) _ (by simp) _ _ ?_))
  have hat : At (⟨W, fun _ => False, fun b => b = w.heap.size ∨ b = Bx ∨ v2.ownBlock = some b, fun _ h => h.elim⟩ : Cx 13) ⟨[(5, .val (.v (.pointer (some ⟨Bx, 0, none⟩)))), (2, .val (.v (.pointer (some ⟨w.heap.size, 0, none⟩))))], [.var w.heap.size 89 (.v v2), .row v2 34 32 (pre.map dK), .var Bx 34 (.arr 32 x.1)], []⟩ a' W := by
   refine ⟨⟨.refl _, ?_, fun o ho => ?_, fun f hf => by simp at hf⟩, fun t r h => ?_, hsz, hdf⟩
   ·
    refine .cons (fun p hp b hb => ?_) (.cons (fun p hp b hb => ?_) (.cons (fun p hp => by simp at hp) .nil))
    ·
     obtain rfl : w.heap.size = b := by simpa [Obj.blk] using hb
     rcases KT.1 hp with rfl | hp
     · exact fun e => hnr e.symm
     ·
      obtain rfl : p = _ := by simpa using hp
      simp only [Obj.blk, ne_eq, NW]
      omega
    ·
     obtain rfl : p = _ := by simpa using hp
     simp only [Obj.blk] at hb ⊢
     exact fun e => hne (hb.trans e.symm)
   ·
    rcases KT.1 ho with rfl | ho
    · exact ⟨.inl (.inl rfl), [v2], hv, by rw [Reads]; exact ⟨mQ hrow, rfl⟩⟩
    ·
     rcases KT.1 ho with rfl | ho
     ·
      refine ⟨pre.map kc, ⟨?_, fun b hb => .inl (.inr (.inr hb))⟩, dV pre⟩
      rw [KR]
      exact mV hrow
     ·
      obtain rfl : o = _ := by simpa using ho
      exact ⟨.inl (.inr (.inl rfl)), bvs x.1, hbx, by rw [Reads]; exact ⟨x.2, rfl⟩⟩
   ·
    simp only [look] at h
    split at h
    ·
     rename_i e
     subst e
     cases h
     exact ay.2 ⟨rfl, ht5⟩
    ·
     split at h
     ·
      rename_i e
      subst e
      cases h
      exact ay.2 ⟨rfl, ht2⟩
     · cases h
  refine EL.go (S := ⟨[(5, .val (.v (.pointer (some ⟨Bx, 0, none⟩)))), (2, .val (.v (.pointer (some ⟨w.heap.size, 0, none⟩))))], [.var w.heap.size 89 (.v v2), .row v2 34 32 (pre.map dK), .var Bx 34 (.arr 32 x.1)], []⟩) ?_ _ _ hat
  have hml : (pre.map dK).length = pre.length := KR _
  have hl1 : ([D.arr 32 x.1] : List D).length = 1 := rfl
  repeat (refine stp ?_; intros)
  refine ⟨fun a1 w1 h1 => ?_⟩
  rename_i v'
  obtain ⟨⟨hgr, _, hat1, _⟩, hregs, hsz', hdf'⟩ := h1
  obtain ⟨_, cs, hbox, hrd⟩ := hat1 _ (KQ ..)
  rw [Reads] at hrd
  rw [hrd.2] at hbox
  obtain ⟨rows, ⟨hrow', hbase⟩, hrows⟩ := hat1 _ (Ld _ (KQ ..))
  have hds : pre.map dK ++ [D.arr 32 x.1] = (pre ++ [x]).map dK := by simp [dK]
  rw [hds] at hrow' hrows
  rw [iY _ _ hrows, KR] at hrow'
  have hown := zT (base := w.heap.size) hrow' fun b hb => by
   rcases hbase b hb with h | h
   · exact hlow b h
   · exact LG hB.size h
  have hsame : ∀ k, k < W.heap.size → ¬ (k = w.heap.size ∨ k = Bx ∨ v2.ownBlock = some k) → w1.heap[k]? = W.heap[k]? := hgr.block
  refine ⟨⟨hgr.size, fun k o _ h0 ho => ?_⟩, ⟨hgr.size, fun k o h0 ho => ?_⟩, ⟨⟨v', hbox, hown, ?_⟩, hB.trans ⟨hgr.os, hgr.tape, hgr.output, hgr.size, fun k hk => ?_⟩⟩⟩
  ·
   refine (hsame k (LJ.1 h0).1 fun h => ?_).trans h0
   rw [(hcell k o h h0).1] at ho
   cases ho
  ·
   refine (hsame k (LJ.1 h0).1 fun h => ?_).trans h0
   rw [(hcell k o h h0).2] at ho
   cases ho
  ·
   constructor
   ·
    rintro rfl
    rcases hown.2 with ⟨_, h0⟩ | ⟨g, cap, cur, h0, _⟩
    · simp at h0
    · simp at h0
   ·
    intro h
    simp at h
  · exact hsame k (by have := hB.size; omega) fun h => by have := hlow k h; omega
 case done =>
  rintro D ys W hD hS ⟨⟨v, hv, hrow, hnil⟩, hB⟩ hK
  have hc := hv.cell
  gi_wp2
  refine ⟨by simp, .inl ⟨_, _, rfl, run_takeDeferred hK, ?_⟩⟩
  exact ⟨_, results_tmp rfl _ _ _, v, ys, rfl, hS, ownsRow_putObj hrow _ hK rfl, hnil, hB.trans (belowK_b (w := w) (Lj _) W D _ _ (by simp at hD; omega) hK rfl rfl)⟩
 case stop =>
  rintro D c pre W _ _ h _
  exact h.elim
end E
end Go.Proofs.YtkhjanjlcdhdcaaGreat
namespace Go.Proofs.YtkhjanjlcdhdcaaGreat
set_option linter.unusedVariables false
set_option maxRecDepth 20000
set_option maxHeartbeats 1000000
open Go.RowKit Mono
abbrev fB (l m : List UInt8) : Int := Lib.compareBytes l m
theorem xu : ∀ a b : List UInt8, Op.bytesLess a b = decide (fB a b < 0)
 | [], [] => rfl
 | _ :: _, [] => rfl
 | [], _ :: _ => rfl
 | a :: x, b :: y => by
  rw [Op.bytesLess, fB, Lib.compareBytes, xu x y]
  by_cases h1 : a < b
  · simp [h1]
  ·
   by_cases h2 : b < a
   ·
    have h3 : ¬ a = b := fun e => by subst e; exact h1 h2
    simp [h1, h2, h3]
   ·
    have h3 : a = b := by
     apply UInt8.toNat_inj.1
     have := UInt8.not_lt.1 h1
     have := UInt8.not_lt.1 h2
     exact Nat.le_antisymm (UInt8.le_iff_toNat_le.1 (UInt8.not_lt.1 h2)) (UInt8.le_iff_toNat_le.1 (UInt8.not_lt.1 h1))
    subst h3
    simp [h1]
theorem oK {w : World} {v : Value} {l : List UInt8} (h : IsB w v l) : (Extern.Bytes.bytesOf v).run Tryz.prog w = .ok (bs l) w := by
 obtain ⟨A, c, rfl, h1, h2, hr⟩ := h
 cases A with
 | none =>
  have : l = [] := by
   by_cases hl : bvs l = []
   · simpa [bvs] using hl
   ·
    obtain ⟨b, o, e, _⟩ := hr hl
    cases e
  subst this
  rfl
 | some ad =>
  have := Lib.run_loadBytesX (P := Tryz.prog) (w := w) (l.map fun x => (x.toNat : Int)) ad .empty fun j x hx => by
   rw [List.getElem?_map] at hx
   obtain ⟨y, hy, rfl⟩ := Option.map_eq_some_iff.1 hx
   obtain ⟨b, o, e, _, hc⟩ := hr (fun e => by have := congrArg List.length e; rw [aS] at this; simp at this; rw [this] at hy; simp at hy)
   injection e with e
   subst e
   rw [bQ]
   exact hc j _ (by simp [bvs, bv, hy])
  rw [KR] at this
  show (Extern.Bytes.loadBytes ad l.length .empty).run Tryz.prog w = _
  rw [this]
  have h2 : Lib.bytesOf (l.map fun x => (x.toNat : Int)) = l := by
   simp only [Lib.bytesOf, MK]
   refine (Na fun x _ => ?_).trans (List.map_id l)
   simp
  rw [h2]
  simp [bs]
theorem wM {w : World} {v u : Value} {l m : List UInt8} (h1 : IsB w v l) (h2 : IsB w u m) : (Extern.BytealgCompare.compare #[v, u]).run Tryz.prog w = .ok (.int .i64 (fB l m)) w := by
 change Sem.run Tryz.prog (do pure (goInt (Extern.BytealgCompare.cmp (← Extern.Bytes.bytesOf v) (← Extern.Bytes.bytesOf u)))) w = _
 simp only [KW, oK h1, oK h2, KL, KX, Lib.cmp_eq]
 rfl
theorem kH (v u : Value) (l m : List UInt8) (w : World) (h1 : IsB w v l) (h2 : IsB w u m) : Calls Tryz.prog 41 #[v, u] w fun e w' => e = .returned (.int .i64 (fB l m)) ∧ w' = w := by
 have hr := wM h1 h2
 go_enter Tryz.func41, Tryz.ntmps41
 go_wp2_with fail
 rw [run_callFunc_extern Tryz.func63 (by kernel_rfl) (by kernel_rfl) (by kernel_rfl) (e := Extern.BytealgCompare.compare) (by kernel_rfl), hr]
 simp only [Result.andThen]
 rw [Oper.upon_value]
 go_wp2_with fail
 exact bodyPost_ret (results_tmp rfl _ _ _) rfl ⟨rfl, rfl⟩
theorem zC (a b : List UInt8) : Op.bytesLess a b = decide (a < b) := Go.Proofs.bytesLess_eq a b
theorem jr (a b : List UInt8) : decide (fB a b < 0) = decide (a < b) := by rw [← xu, zC]
end Go.Proofs.YtkhjanjlcdhdcaaGreat
namespace Go.Proofs.YtkhjanjlcdhdcaaGreat
set_option linter.unusedVariables false
set_option maxHeartbeats 1000000
open Go.RowKit Mono Rlp Go.Sort
namespace E
theorem pJ {w : World} {g n : Nat} {t : TypeId} {l : List UInt8} (h : w.heap[g]? = some (.cells (bvs l).toArray t (0, 0))) (hl : l.length = n) (hn : n ≤ 64) : IsB w (.slice (some ⟨g, 0, none⟩) n n) l := by
 subst hl
 refine ⟨some ⟨g, 0, none⟩, l.length, rfl, Lj _, by simp [maxLen]; omega, fun _ => ⟨g, 0, rfl, (LJ.1 h).1, fun j u hu => ?_⟩⟩
 rw [cell_of_row w g (0 + j) _ t (0, 0) h]
 simpa using hu
theorem uI (w : World) (l : List UInt8) : (Instr.box 32 (aV l)).run Tryz.prog w = .ok (.pointer (some ⟨w.heap.size, 0, none⟩)) (w.alloc (.cells (bvs l).toArray 32)) := by kernel_rfl
theorem rE {w : World} {ops : Array Oper} {rest : List Oper} {o : Oper} {a : Act} {Q : Exit → Act → World → Prop} {l : List UInt8} {x : Operand} (hgd : o.guard = none) (ho : o.op = .box 32 x) (hx : a.eval x = aV l)
  (h : wpList Tryz.prog ops Q rest (a.put o.dst (.pointer (some ⟨w.heap.size, 0, none⟩))) (w.alloc (.cells (bvs l).toArray 32))) : wpList Tryz.prog ops Q (o :: rest) a w := by
 refine wpList_plain hgd fun _ hK => ?_
 have h1 := hK _ _ h
 unfold Oper.wp execOp
 simp only [ho, hx, KW, uI, KL, KX]
 exact h1
theorem jQ (w : World) (g : Nat) : (Instr.sliceAt 32 (.pointer (some ⟨g, 0, none⟩)) none none none).run Tryz.prog w = .ok (.slice (some ⟨g, 0, none⟩) 20 20) w := by kernel_rfl
set_option maxRecDepth 100000 in
theorem Et (l m : List UInt8) (hl : l.length = 20) (hm : m.length = 20) (w : World) : Calls Tryz.prog 40 #[aV l, aV m] w fun e w' => e = .returned (.int .i64 (fB l m)) ∧ ∃ q os', w' = grow (w.drewN q) os' := by
 have mixed : Tryz.prog.follows .mixedOrders = true := by kernel_rfl
 go_enter Tryz.func40, Tryz.ntmps40
 go_wp2_with (guard_target = wpList _ _ _ (Oper.mk _ (Op.box _ _) _ _ _ _ :: _) _ _; refine rE rfl rfl rfl ?_)
 have h0 : ((w.alloc (.cells (bvs l).toArray 32)).alloc (.cells (bvs m).toArray 32)).heap[w.heap.size]? = some (.cells (bvs l).toArray 32 (0, 0)) := by
  rw [(MS _ _).2 _ (by simp)]
  exact (MS w _).1
 have h1 : ((w.alloc (.cells (bvs l).toArray 32)).alloc (.cells (bvs m).toArray 32)).heap[w.heap.size + 1]? = some (.cells (bvs m).toArray 32 (0, 0)) := by
  have := (MS (w.alloc (.cells (bvs l).toArray 32)) (.cells (bvs m).toArray 32)).1
  simpa using this
 have hw : ∃ q os', (w.alloc (.cells (bvs l).toArray 32)).alloc (.cells (bvs m).toArray 32) = grow (w.drewN q) os' := ⟨0, _, by rw [alloc_eq_grow, alloc_eq_grow, grow_grow]; rfl⟩
 generalize (w.alloc (.cells (bvs l).toArray 32)).alloc (.cells (bvs m).toArray 32) = wq at h0 h1 hw ⊢
 have s0 : ∀ n, (Instr.sliceAt 32 (.pointer (some ⟨w.heap.size, 0, none⟩)) none none none).run Tryz.prog (wq.drewN n) = .ok (.slice (some ⟨w.heap.size, 0, none⟩) 20 20) (wq.drewN n) := fun n => jQ _ _
 have s1 : ∀ n, (Instr.sliceAt 32 (.pointer (some ⟨w.heap.size + 1, 0, none⟩)) none none none).run Tryz.prog (wq.drewN n) = .ok (.slice (some ⟨w.heap.size + 1, 0, none⟩) 20 20) (wq.drewN n) := fun n => jQ _ _
 have hc := Lib.hid fun n => kH _ _ l m (wq.drewN n) (pJ h0 hl (by decide)) (pJ h1 hm (by decide))
 clear h0 h1
 go_quiet_o ((go_at_call 41; exact (hc.out _).mono fun e w' ⟨he, hw⟩ => ⟨he, _, hw⟩))
 go_wp2_with fail
 obtain ⟨q, os', rfl⟩ := hw
 exact bodyPost_ret (results_tmp rfl _ _ _) rfl ⟨rfl, q + nq, os', by simp [grow, World.drewN, Nat.add_assoc]⟩
theorem uH (w : World) (l : List UInt8) : (Instr.box 34 (aV l)).run Tryz.prog w = .ok (.pointer (some ⟨w.heap.size, 0, none⟩)) (w.alloc (.cells (bvs l).toArray 34)) := by kernel_rfl
theorem rD {w : World} {ops : Array Oper} {rest : List Oper} {o : Oper} {a : Act} {Q : Exit → Act → World → Prop} {l : List UInt8} {x : Operand} (hgd : o.guard = none) (ho : o.op = .box 34 x) (hx : a.eval x = aV l)
  (h : wpList Tryz.prog ops Q rest (a.put o.dst (.pointer (some ⟨w.heap.size, 0, none⟩))) (w.alloc (.cells (bvs l).toArray 34))) : wpList Tryz.prog ops Q (o :: rest) a w := by
 refine wpList_plain hgd fun _ hK => ?_
 have h1 := hK _ _ h
 unfold Oper.wp execOp
 simp only [ho, hx, KW, uH, KL, KX]
 exact h1
theorem jP (w : World) (g : Nat) : (Instr.sliceAt 34 (.pointer (some ⟨g, 0, none⟩)) none none none).run Tryz.prog w = .ok (.slice (some ⟨g, 0, none⟩) 32 32) w := by kernel_rfl
set_option maxRecDepth 100000 in
theorem Es (l m : List UInt8) (hl : l.length = 32) (hm : m.length = 32) (w : World) : Calls Tryz.prog 45 #[aV l, aV m] w fun e w' => e = .returned (.int .i64 (fB l m)) ∧ ∃ q os', w' = grow (w.drewN q) os' := by
 have mixed : Tryz.prog.follows .mixedOrders = true := by kernel_rfl
 go_enter Tryz.func45, Tryz.ntmps45
 go_wp2_with (guard_target = wpList _ _ _ (Oper.mk _ (Op.box _ _) _ _ _ _ :: _) _ _; refine rD rfl rfl rfl ?_)
 have h0 : ((w.alloc (.cells (bvs l).toArray 34)).alloc (.cells (bvs m).toArray 34)).heap[w.heap.size]? = some (.cells (bvs l).toArray 34 (0, 0)) := by
  rw [(MS _ _).2 _ (by simp)]
  exact (MS w _).1
 have h1 : ((w.alloc (.cells (bvs l).toArray 34)).alloc (.cells (bvs m).toArray 34)).heap[w.heap.size + 1]? = some (.cells (bvs m).toArray 34 (0, 0)) := by
  have := (MS (w.alloc (.cells (bvs l).toArray 34)) (.cells (bvs m).toArray 34)).1
  simpa using this
 have hw : ∃ q os', (w.alloc (.cells (bvs l).toArray 34)).alloc (.cells (bvs m).toArray 34) = grow (w.drewN q) os' := ⟨0, _, by rw [alloc_eq_grow, alloc_eq_grow, grow_grow]; rfl⟩
 generalize (w.alloc (.cells (bvs l).toArray 34)).alloc (.cells (bvs m).toArray 34) = wq at h0 h1 hw ⊢
 have s0 : ∀ n, (Instr.sliceAt 34 (.pointer (some ⟨w.heap.size, 0, none⟩)) none none none).run Tryz.prog (wq.drewN n) = .ok (.slice (some ⟨w.heap.size, 0, none⟩) 32 32) (wq.drewN n) := fun n => jP _ _
 have s1 : ∀ n, (Instr.sliceAt 34 (.pointer (some ⟨w.heap.size + 1, 0, none⟩)) none none none).run Tryz.prog (wq.drewN n) = .ok (.slice (some ⟨w.heap.size + 1, 0, none⟩) 32 32) (wq.drewN n) := fun n => jP _ _
 have hc := Lib.hid fun n => kH _ _ l m (wq.drewN n) (pJ h0 hl (by decide)) (pJ h1 hm (by decide))
 clear h0 h1
 go_quiet_o ((go_at_call 41; exact (hc.out _).mono fun e w' ⟨he, hw⟩ => ⟨he, _, hw⟩))
 go_wp2_with fail
 obtain ⟨q, os', rfl⟩ := hw
 exact bodyPost_ret (results_tmp rfl _ _ _) rfl ⟨rfl, q + nq, os', by simp [grow, World.drewN, Nat.add_assoc]⟩
theorem swo (n : Nat) : SWO (Go.Proofs.ltOf fun x y : Ky n => fB x.1 y.1) := by
 have h : ∀ x y : Ky n, Go.Proofs.ltOf (fun x y : Ky n => fB x.1 y.1) x y = decide (x.1 < y.1) := fun x y => jr x.1 y.1
 refine ⟨fun x => ?_, fun x y z h1 h2 => ?_, fun x y z h1 h2 => ?_⟩
 ·
  rw [h]
  simp [List.lt_irrefl]
 ·
  rw [h] at h1 h2 ⊢
  simp only [decide_eq_true_eq] at h1 h2 ⊢
  exact NU h1 h2
 ·
  rw [h] at h1 h2 ⊢
  simp only [decide_eq_false_iff_not, NR] at h1 h2 ⊢
  exact List.le_trans h2 h1
end E
end Go.Proofs.YtkhjanjlcdhdcaaGreat
namespace Go.Proofs.YtkhjanjlcdhdcaaGreat
open Go.Shelf
def uq : Go.Shelf.Ren := ⟨fun | 6 => 61 | 15 => 79 | 14 => 78 | 28 => 92 | 29 => 93 | 20 => 84 | 21 => 85 | 22 => 86 | 23 => 87 | 24 => 88 | 25 => 89 | 26 => 90 | 27 => 91 | 46 => 102 | 47 => 103 | 48 => 104 | 49 => 105 | 50 => 106 | 57 => 110 | n => n, fun | 22 => 82 | 24 => 32 | 25 => 88 | 3 => 3 | 39 => 140 | 0 => 0 | 53 => 154 | 55 => 123 | 4 => 4 | 46 => 147 | 45 => 146 | 50 => 151 | 5 => 5 | 9 => 9 | 66 => 161 | 70 => 165 | 76 => 169 | 77 => 170 | n => n, fun | n => n⟩
theorem wB : Go.Proofs.SlLaysF0.n6 Tryz.prog uq := {
 mixed := by kernel_rfl
 f6 := ⟨Tryz.f61.name, by decide, Tryz.func61.trans (congrArg some (by kernel_rfl))⟩
 f14 := ⟨Tryz.f78.name, by decide, Tryz.func78.trans (congrArg some (by kernel_rfl))⟩
 f15 := Tryz.func79.trans (congrArg some (by kernel_rfl))
 f20 := ⟨Tryz.f84.name, by decide, Tryz.func84.trans (congrArg some (by kernel_rfl))⟩
 f21 := ⟨Tryz.f85.name, by decide, Tryz.func85.trans (congrArg some (by kernel_rfl))⟩
 f22 := ⟨Tryz.f86.name, by decide, Tryz.func86.trans (congrArg some (by kernel_rfl))⟩
 f23 := ⟨Tryz.f87.name, by decide, Tryz.func87.trans (congrArg some (by kernel_rfl))⟩
 f24 := ⟨Tryz.f88.name, by decide, Tryz.func88.trans (congrArg some (by kernel_rfl))⟩
 f25 := ⟨Tryz.f89.name, by decide, Tryz.func89.trans (congrArg some (by kernel_rfl))⟩
 f26 := ⟨Tryz.f90.name, by decide, Tryz.func90.trans (congrArg some (by kernel_rfl))⟩
 f27 := ⟨Tryz.f91.name, by decide, Tryz.func91.trans (congrArg some (by kernel_rfl))⟩
 f28 := Tryz.func92.trans (congrArg some (by kernel_rfl))
 f29 := Tryz.func93.trans (congrArg some (by kernel_rfl))
 f46 := ⟨Tryz.f102.name, by decide, Tryz.func102.trans (congrArg some (by kernel_rfl))⟩
 f47 := Tryz.func103.trans (congrArg some (by kernel_rfl))
 f48 := Tryz.func104.trans (congrArg some (by kernel_rfl))
 f49 := ⟨Tryz.f105.name, by decide, Tryz.func105.trans (congrArg some (by kernel_rfl))⟩
 f50 := ⟨Tryz.f106.name, by decide, Tryz.func106.trans (congrArg some (by kernel_rfl))⟩
 f57 := ⟨Tryz.f110.name, by decide, Tryz.func110.trans (congrArg some (by kernel_rfl))⟩
 t0 := Tryz.underlying0
 a0 := Tryz.isAgg0
 z0 := Tryz.sizeOf0
 v0 := Tryz.zeroValue0
 t3 := Tryz.underlying3
 a3 := Tryz.isAgg3
 z3 := Tryz.sizeOf3
 v3 := Tryz.zeroValue3
 t4 := Tryz.underlying4
 a4 := Tryz.isAgg4
 z4 := Tryz.sizeOf4
 v4 := Tryz.zeroValue4
 t5 := Tryz.underlying5
 a5 := Tryz.isAgg5
 z5 := Tryz.sizeOf5
 v5 := Tryz.zeroValue5
 t9 := Tryz.underlying9
 a9 := Tryz.isAgg9
 z9 := Tryz.sizeOf9
 v9 := Tryz.zeroValue9
 t22 := Tryz.underlying82
 a22 := Tryz.isAgg82
 z22 := Tryz.sizeOf82
 v22 := Tryz.zeroValue82
 t25 := Tryz.underlying88
 a25 := Tryz.isAgg88
 z25 := Tryz.sizeOf88
 v25 := Tryz.zeroValue88
 t39 := Tryz.underlying140
 a39 := Tryz.isAgg140
 z39 := Tryz.sizeOf140
 v39 := Tryz.zeroValue140
 t45 := Tryz.underlying146
 a45 := Tryz.isAgg146
 z45 := Tryz.sizeOf146
 v45 := Tryz.zeroValue146
 t46 := Tryz.underlying147
 a46 := Tryz.isAgg147
 z46 := Tryz.sizeOf147
 v46 := Tryz.zeroValue147
 t50 := Tryz.underlying151
 a50 := Tryz.isAgg151
 z50 := Tryz.sizeOf151
 v50 := Tryz.zeroValue151
 t53 := Tryz.underlying154
 a53 := Tryz.isAgg154
 z53 := Tryz.sizeOf154
 v53 := Tryz.zeroValue154
 t55 := Tryz.underlying123
 a55 := Tryz.isAgg123
 z55 := Tryz.sizeOf123
 v55 := Tryz.zeroValue123
 t66 := Tryz.underlying161
 a66 := Tryz.isAgg161
 z66 := Tryz.sizeOf161
 v66 := Tryz.zeroValue161
 t70 := Tryz.underlying165
 a70 := Tryz.isAgg165
 z70 := Tryz.sizeOf165
 v70 := Tryz.zeroValue165
 t76 := Tryz.underlying169
 a76 := Tryz.isAgg169
 z76 := Tryz.sizeOf169
 v76 := Tryz.zeroValue169
 t77 := Tryz.underlying170
 a77 := Tryz.isAgg170
 z77 := Tryz.sizeOf170
 v77 := Tryz.zeroValue170 }
def uj : Go.Shelf.Ren := ⟨fun | 6 => 65 | 15 => 79 | 14 => 81 | 28 => 92 | 29 => 93 | 20 => 94 | 21 => 95 | 22 => 96 | 23 => 97 | 24 => 98 | 25 => 99 | 26 => 100 | 27 => 101 | 46 => 107 | 47 => 103 | 48 => 104 | 49 => 108 | 50 => 109 | 57 => 111 | n => n, fun | 22 => 89 | 24 => 34 | 25 => 94 | 3 => 3 | 39 => 140 | 0 => 0 | 53 => 154 | 55 => 123 | 4 => 4 | 46 => 147 | 45 => 146 | 50 => 151 | 5 => 5 | 9 => 9 | 66 => 161 | 70 => 165 | 76 => 169 | 77 => 170 | n => n, fun | n => n⟩
theorem wo : Go.Proofs.SlLaysF0.n6 Tryz.prog uj := {
 mixed := by kernel_rfl
 f6 := ⟨Tryz.f65.name, by decide, Tryz.func65.trans (congrArg some (by kernel_rfl))⟩
 f14 := ⟨Tryz.f81.name, by decide, Tryz.func81.trans (congrArg some (by kernel_rfl))⟩
 f15 := Tryz.func79.trans (congrArg some (by kernel_rfl))
 f20 := ⟨Tryz.f94.name, by decide, Tryz.func94.trans (congrArg some (by kernel_rfl))⟩
 f21 := ⟨Tryz.f95.name, by decide, Tryz.func95.trans (congrArg some (by kernel_rfl))⟩
 f22 := ⟨Tryz.f96.name, by decide, Tryz.func96.trans (congrArg some (by kernel_rfl))⟩
 f23 := ⟨Tryz.f97.name, by decide, Tryz.func97.trans (congrArg some (by kernel_rfl))⟩
 f24 := ⟨Tryz.f98.name, by decide, Tryz.func98.trans (congrArg some (by kernel_rfl))⟩
 f25 := ⟨Tryz.f99.name, by decide, Tryz.func99.trans (congrArg some (by kernel_rfl))⟩
 f26 := ⟨Tryz.f100.name, by decide, Tryz.func100.trans (congrArg some (by kernel_rfl))⟩
 f27 := ⟨Tryz.f101.name, by decide, Tryz.func101.trans (congrArg some (by kernel_rfl))⟩
 f28 := Tryz.func92.trans (congrArg some (by kernel_rfl))
 f29 := Tryz.func93.trans (congrArg some (by kernel_rfl))
 f46 := ⟨Tryz.f107.name, by decide, Tryz.func107.trans (congrArg some (by kernel_rfl))⟩
 f47 := Tryz.func103.trans (congrArg some (by kernel_rfl))
 f48 := Tryz.func104.trans (congrArg some (by kernel_rfl))
 f49 := ⟨Tryz.f108.name, by decide, Tryz.func108.trans (congrArg some (by kernel_rfl))⟩
 f50 := ⟨Tryz.f109.name, by decide, Tryz.func109.trans (congrArg some (by kernel_rfl))⟩
 f57 := ⟨Tryz.f111.name, by decide, Tryz.func111.trans (congrArg some (by kernel_rfl))⟩
 t0 := Tryz.underlying0
 a0 := Tryz.isAgg0
 z0 := Tryz.sizeOf0
 v0 := Tryz.zeroValue0
 t3 := Tryz.underlying3
 a3 := Tryz.isAgg3
 z3 := Tryz.sizeOf3
 v3 := Tryz.zeroValue3
 t4 := Tryz.underlying4
 a4 := Tryz.isAgg4
 z4 := Tryz.sizeOf4
 v4 := Tryz.zeroValue4
 t5 := Tryz.underlying5
 a5 := Tryz.isAgg5
 z5 := Tryz.sizeOf5
 v5 := Tryz.zeroValue5
 t9 := Tryz.underlying9
 a9 := Tryz.isAgg9
 z9 := Tryz.sizeOf9
 v9 := Tryz.zeroValue9
 t22 := Tryz.underlying89
 a22 := Tryz.isAgg89
 z22 := Tryz.sizeOf89
 v22 := Tryz.zeroValue89
 t25 := Tryz.underlying94
 a25 := Tryz.isAgg94
 z25 := Tryz.sizeOf94
 v25 := Tryz.zeroValue94
 t39 := Tryz.underlying140
 a39 := Tryz.isAgg140
 z39 := Tryz.sizeOf140
 v39 := Tryz.zeroValue140
 t45 := Tryz.underlying146
 a45 := Tryz.isAgg146
 z45 := Tryz.sizeOf146
 v45 := Tryz.zeroValue146
 t46 := Tryz.underlying147
 a46 := Tryz.isAgg147
 z46 := Tryz.sizeOf147
 v46 := Tryz.zeroValue147
 t50 := Tryz.underlying151
 a50 := Tryz.isAgg151
 z50 := Tryz.sizeOf151
 v50 := Tryz.zeroValue151
 t53 := Tryz.underlying154
 a53 := Tryz.isAgg154
 z53 := Tryz.sizeOf154
 v53 := Tryz.zeroValue154
 t55 := Tryz.underlying123
 a55 := Tryz.isAgg123
 z55 := Tryz.sizeOf123
 v55 := Tryz.zeroValue123
 t66 := Tryz.underlying161
 a66 := Tryz.isAgg161
 z66 := Tryz.sizeOf161
 v66 := Tryz.zeroValue161
 t70 := Tryz.underlying165
 a70 := Tryz.isAgg165
 z70 := Tryz.sizeOf165
 v70 := Tryz.zeroValue165
 t76 := Tryz.underlying169
 a76 := Tryz.isAgg169
 z76 := Tryz.sizeOf169
 v76 := Tryz.zeroValue169
 t77 := Tryz.underlying170
 a77 := Tryz.isAgg170
 z77 := Tryz.sizeOf170
 v77 := Tryz.zeroValue170 }
end Go.Proofs.YtkhjanjlcdhdcaaGreat
