/-
  Merged (wip/tools/merge.py): SW3, SW4, SortL, SW5, SW6, AN4.
  Conditions: none.
-/
import Derived.Test.YtmlajcbabimkjaaZR16
import Derived.Test.YtmlajcbabimkjaaZR11
import Derived.Shelf.RegionOpenPlain
import Derived.Shelf.SlSortCmp.WholeK
import Derived.Shelf.SlGeneric
import Derived.Ground.SlsfProg
import Derived.Test.YtmlajcbabimkjaaRows
import Derived.Shelf.SlSortCmp.NoneTotal
import Derived.Test.YtmlajcbabimkjaaZR14
/-
  slices.AppendSeq, slices.Collect at arrays of bytes, against whatever iterator value.
  Conditions: none.
-/
namespace Go.Proofs.Ytmlajcbabimkjaa
set_option linter.unusedVariables false
open Go.RowKit Mono Rlp
namespace E
theorem rows_in {l n : Nat} {P : Program} {row : String} {args : Array Value} {w : World} {R : Value → World → Prop} (h : Rows P row args w R) : RowsIn (Fence.wide.inRound l) n P row args w R := fun c cs _ => by
  obtain ⟨v, w', h1, h2⟩ := h c cs
  exact ⟨v, w', h1, stepsIn_wide.2 h2⟩
theorem op_in {l n : Nat} {P : Program} {o : Oper} {a : Act} {w : World} {K K' : Act → World → Prop} {Q : Exit → Act → World → Prop} (hQ : ¬ LetsOut Q) (hd : ∀ c, o.op ≠ .defer c) (hK : ∀ a w, K a w → K' a w) (h : o.wp P a w K Q ∨ (o.asks P a w ∧ LetsOut Q)) : o.wpIn (Fence.wide.inRound l) n P a w K' Q := by
  rcases h with h | ⟨_, h⟩
  · refine ⟨fun _ _ => trivial, ?_⟩
    rw [Oper.semAt_plain _ _ _ hd]
    unfold Oper.wp at h
    cases hr : (execOp a.eval o).run P w with
    | ok x w' =>
      rw [hr] at h
      cases x with
      | value v => exact hK _ _ h
      | skip => exact hK _ _ h
      | defer d => exact hK _ _ h
      | enter f args =>
        refine ⟨fun h => by simp [Fence.wide] at h, CallsIn.inRound l (callsIn_wide.2 (Calls.mono h ?_))⟩
        intro e w'' he
        cases e with
        | returned v => exact hK _ _ he
        | panicked c => exact he
        | outgrown => exact he
      | row row args => exact ⟨fun h => by simp [Fence.wide] at h, rows_in (fun c cs => by obtain ⟨v, w', h1, h2⟩ := h c cs; exact ⟨v, w', hK _ _ h1, h2⟩)⟩
      | _ => exact h.elim
    | halt x w' =>
      rw [hr] at h
      cases x <;> first | exact h | exact h.elim
  · exact absurd h hQ
theorem list_in {l n : Nat} {P : Program} {ops : Array Oper} {Q : Exit → Act → World → Prop} (hQ : ¬ LetsOut Q) : ∀ (rest : List Oper), (∀ o ∈ rest, ∀ c, o.op ≠ .defer c) → ∀ a w, wpList P ops Q rest a w → wpListIn (Fence.wide.inRound l) n P ops Q rest a w
  | [], _, a, w, h => h
  | o :: rest, hd, a, w, h => by
    rw [wpList] at h
    rw [wpListIn]
    have ih := list_in (l := l) (n := n) (P := P) (ops := ops) hQ rest fun o ho => hd o (List.mem_cons_of_mem _ ho)
    split
    · rename_i hw
      rw [if_pos hw] at h
      exact op_in hQ (hd o (by simp)) ih h
    · rename_i hw
      rw [if_neg hw] at h
      exact ⟨fun _ _ => trivial, ih _ _ h⟩
def kc {n : Nat} (k : Ky n) : List Value := bvs k.1
def dK {n : Nat} (k : Ky n) : D := .arr n k.1
theorem rows_keys {ok : Nat → Prop} {w : World} {n : Nat} : ∀ (ks : List (Ky n)), ReadsRows ok w n (ks.map dK) (ks.map kc)
  | [] => by rw [List.map_nil, ReadsRows]; rfl
  | k :: ks => by
    rw [List.map_cons, ReadsRows]
    exact ⟨kc k, _, rfl, by unfold kc; rw [bvs_length, k.2], by unfold dK; rw [Reads]; exact ⟨k.2, rfl⟩, rows_keys ks⟩
theorem keys_rows {ok : Nat → Prop} {w : World} {n : Nat} : ∀ (ks : List (Ky n)) (rows : List (List Value)), ReadsRows ok w n (ks.map dK) rows → rows = ks.map kc
  | [], rows, h => by rw [List.map_nil, ReadsRows] at h; exact h
  | k :: ks, rows, h => by
    rw [List.map_cons, ReadsRows] at h
    obtain ⟨r, rest, rfl, _, h2, h3⟩ := h
    unfold dK at h2
    rw [Reads] at h2
    rw [keys_rows ks rest h3, h2.2]
    rfl
theorem owns_up {w : World} {e : TypeId} {z : Nat} {v : Value} {k : Nat} {xs : List Value} {base : Nat} (h : w.ownsRow 0 e z v k xs) (hb : ∀ b, v.ownBlock = some b → base ≤ b) : w.ownsRow base e z v k xs := by
  refine ⟨h.1, h.2.imp id fun ⟨g, cap, cur, h1, h2, h3⟩ => ⟨g, cap, cur, h1, hb g (by rw [h1]; rfl), h3⟩⟩
theorem owns_low {w : World} {e : TypeId} {z : Nat} {v : Value} {k : Nat} {xs : List Value} {base : Nat} (h : w.ownsRow base e z v k xs) : w.ownsRow 0 e z v k xs :=
  ⟨h.1, h.2.imp id fun ⟨g, cap, cur, h1, _, h3⟩ => ⟨g, cap, cur, h1, Nat.zero_le _, h3⟩⟩
theorem owns_one {w : World} {e : TypeId} {z : Nat} {v : Value} {k : Nat} {xs : List Value} {base : Nat} (h : w.ownsRow base e z v k xs) : v.oneCell' = true := by
  rcases h.2 with ⟨rfl, _⟩ | ⟨g, cap, cur, rfl, _⟩ <;> rfl
set_option maxRecDepth 100000 in
set_option maxHeartbeats 4000000 in
theorem appendSeq_word (n : Nat) (hn : 2 ≤ n) (gf : Nat) (lb : Array Value) (eg : ∀ args w, (callFunc gf args).run Try.prog w = .ok (.enter gf args) w) (S Sp : List (Ky 32) → Prop) (N : Nat) (hN : N * 32 ≤ 140737488355328) (w : World)
    (hseq : SeqStopsK Fence.wide (n - 1) Try.prog gf lb (fun x : Ky 32 => #[kv x]) KeepsWalks S Sp N w) :
    CallsIn Fence.wide n Try.prog 123 #[.slice none 0 0, .func (.func gf) #[] lb] w fun e W' => ∃ v ss, e = .returned v ∧ S ss ∧ W'.ownsRow w.heap.size 32 32 v ss.length (ss.map kc).flatten ∧ (v = .slice none 0 0 ↔ ss = []) ∧ Below w.heap.size w W' := by
  refine callsIn_of_wp_marks Try.func123 rfl trivial ?_ rfl
  simp only [Try.ntmps123, List.size_toArray, List.length_cons, List.length_nil, Nat.reduceAdd, Nat.reduceSub, Array.replicate_succ, Array.replicate_zero, List.push_toArray, List.append_toArray, List.nil_append, List.cons_append]
  gi_wp2
  have bO := Boxed.new w 134 (.slice none 0 0)
  have hB0 : Below w.heap.size w (w.alloc (.cells #[.slice none 0 0] 134)) := (Below.refl _ w).alloc (Nat.le_refl _) _
  refine wpIn_rangeFunc_ownH rfl (by omega) (gf := gf) (lb := lb) rfl trivial eg hseq walksK_t walksK_b hB0 (fun _ => rfl)
    (fun pre W => (∃ v, Boxed W w.heap.size 134 v ∧ W.ownsRow w.heap.size 32 32 v pre.length (pre.map kc).flatten ∧ (v = .slice none 0 0 ↔ pre = [])) ∧ Below w.heap.size w W)
    (fun _ _ _ => False)
    (OwnFrom.and (Own.from (holdsRow_own w.heap.size w.heap.size 134 32 32 (fun pre : List (Ky 32) => pre.length) (fun pre => (pre.map kc).flatten) (fun pre v => v = .slice none 0 0 ↔ pre = [])) _) (ownFrom_below (Nat.le_refl _) (by simp)))
    (fun _ _ _ _ _ hs _ _ => hs)
    ⟨⟨_, bO, World.ownsRow_nil _ _ _ _, by simp⟩, hB0⟩
    (fun x a' W => ∃ Bx v, w.heap.size < Bx ∧ Boxed W w.heap.size 134 v ∧ v.ownBlock ≠ some Bx ∧ W.heap[Bx]? = some (.cells (bvs x.1).toArray 32 (0, 0)) ∧ a'.tmps.size = 13 ∧ a'.defers = [] ∧ a'.tmps.getD 2 undef = .pointer (some ⟨w.heap.size, 0, none⟩) ∧ a'.tmps.getD 5 undef = .pointer (some ⟨Bx, 0, none⟩))
    ?hAx ?assign ?body ?done ?stop
  case hAx =>
    rintro x a' s X Y row ⟨Bx, v, h1, h2, h3, h4, h5⟩ hg hr
    refine ⟨Bx, v, h1, h2.kept hg fun e => ?_, h3, (hg.block Bx (Array.getElem?_eq_some_iff.1 h4).1 fun e => ?_).trans h4, h5⟩
    · obtain ⟨_, o, ho, hc⟩ := hr _ e.symm
      rw [show X.heap[w.heap.size]? = _ from h2] at ho
      cases ho
      cases hc
    · obtain ⟨_, o, ho, hc⟩ := hr _ e.symm
      rw [h4] at ho
      cases ho
      cases hc
  case assign =>
    rintro l pre x W K ⟨⟨v, hv, hrow, hnil⟩, hB⟩ hK
    have e : ((#[7] : Array Tmp).zip #[kv x]).foldl (fun t (p, v) => t.setIfInBounds p v) #[.slice none 0 0, .func (.func gf) #[] lb, .pointer (some ⟨w.heap.size, 0, none⟩), undef, .slice none 0 0, undef, .func (.func gf) #[] lb, undef, undef, undef, undef, undef, undef] = #[.slice none 0 0, .func (.func gf) #[] lb, .pointer (some ⟨w.heap.size, 0, none⟩), undef, .slice none 0 0, undef, .func (.func gf) #[] lb, kv x, undef, undef, undef, undef, undef] := by simp
    rw [e]
    refine wpIn_region_lit (list_in (fun ⟨_, _, h⟩ => h) _ (by simp) _ _ ?_)
    have hat : At (⟨W, fun _ => False, fun _ => False, fun _ h => h.elim⟩ : Cx 13) ⟨[(7, .val (.arr 32 x.1)), (2, .val (.v (.pointer (some ⟨w.heap.size, 0, none⟩))))], [], []⟩ { tmps := #[.slice none 0 0, .func (.func gf) #[] lb, .pointer (some ⟨w.heap.size, 0, none⟩), undef, .slice none 0 0, undef, .func (.func gf) #[] lb, kv x, undef, undef, undef, undef, undef], defers := [] } W := by
      refine ⟨⟨.refl _, .nil, fun o ho => by simp at ho, fun f hf => by simp at hf⟩, fun t r h => ?_, rfl, rfl⟩
      simp only [look] at h
      split at h
      · rename_i e
        subst e
        cases h
        exact ⟨bvs x.1, by rw [Reads]; exact ⟨x.2, rfl⟩, rfl⟩
      · split at h
        · rename_i e
          subst e
          cases h
          exact readV_v.2 ⟨rfl, rfl⟩
        · cases h
    refine EL.go (Q := Exit.then K (fun _ _ _ => False)) (S := ⟨[(7, .val (.arr 32 x.1)), (2, .val (.v (.pointer (some ⟨w.heap.size, 0, none⟩))))], [], []⟩) ?_ _ _ hat
    repeat
      (first
       | (apply P_alloc; exact rfl; exact rfl; exact rfl; intro _) | (apply P_store; exact rfl; (focus (repeat first | exact .z | apply SetAt.s | apply SetAtF.s)); (iterate 4 exact rfl)) | apply EL.nil)
    refine ⟨fun a1 w1 h1 => ?_⟩
    rename_i Bx
    obtain ⟨⟨hgr, _, hat1, _⟩, hregs, hsz, hdf⟩ := h1
    obtain ⟨hbx, cs, hheap, hrd⟩ := hat1 _ (List.mem_cons_self ..)
    rw [Reads] at hrd
    rw [hrd.2] at hheap
    have hbx' : W.heap.size ≤ Bx := hbx.resolve_left id
    have hg : W.grownBy w1 none := ⟨hgr.os, hgr.tape, hgr.output, hgr.size, fun i hi _ => hgr.block i hi id⟩
    have hvl := hv.lt
    exact hK a1 w1 ((KeepsOthers.of_grownBy hg fun j o e _ => by cases e).from _) (KeepsWalks.of_grownBy hg fun j o e => by cases e) ⟨⟨v, hv.kept hg (by simp), hrow.kept hg (by cases v.ownBlock with | none => exact .inl rfl | some k => exact .inr (by simp)), hnil⟩, hB.grown hg hB.size fun k e => by cases e⟩
      ⟨Bx, v, by omega, hv.kept hg (by simp), fun e => by have := (hrow.lt _ e).2; omega, hheap, hsz, hdf, (readV_v.1 (hregs 2 _ rfl)).2, (readV_v.1 (hregs 5 _ rfl)).2⟩
  case body =>
    rintro l pre x a' W hl hrec ⟨⟨v, hv, hrow, hnil⟩, hB⟩ ⟨Bx, v2, h1, hv2, hne, hbx, hsz, hdf, ht2, ht5⟩ hlen
    obtain rfl : v2 = v := by
      have := (show W.heap[w.heap.size]? = _ from hv2).symm.trans hv
      simpa using this
    have hnr := hv.not_row (by decide) hrow
    have hlow : ∀ b, (b = w.heap.size ∨ b = Bx ∨ v2.ownBlock = some b) → w.heap.size ≤ b := fun b hb => by
      rcases hb with rfl | rfl | hb
      · exact Nat.le_refl _
      · omega
      · exact (hrow.lt _ hb).1
    have hcell : ∀ b o, (b = w.heap.size ∨ b = Bx ∨ v2.ownBlock = some b) → W.heap[b]? = some o → o.isCells = true ∧ o.isWalk = false := fun b o hb ho => by
      rcases hb with rfl | rfl | hb
      · rw [show W.heap[w.heap.size]? = _ from hv] at ho
        cases ho
        exact ⟨rfl, rfl⟩
      · rw [hbx] at ho
        cases ho
        exact ⟨rfl, rfl⟩
      · rcases hrow.2 with ⟨rfl, _⟩ | ⟨g, cap, cur, rfl, _, hgb, _⟩
        · cases hb
        · obtain rfl : g = b := by simpa [Value.ownBlock] using hb
          rw [hgb] at ho
          cases ho
          exact ⟨rfl, rfl⟩
    refine wpIn_block (wpIn_region_lit (list_in (fun ⟨_, _, h⟩ => h) _ (by simp) _ _ ?_))
    have hat : At (⟨W, fun _ => False, fun b => b = w.heap.size ∨ b = Bx ∨ v2.ownBlock = some b, fun _ h => h.elim⟩ : Cx 13) ⟨[(5, .val (.v (.pointer (some ⟨Bx, 0, none⟩)))), (2, .val (.v (.pointer (some ⟨w.heap.size, 0, none⟩))))], [.var w.heap.size 134 (.v v2), .row v2 32 32 (pre.map dK), .var Bx 32 (.arr 32 x.1)], []⟩ a' W := by
      refine ⟨⟨.refl _, ?_, fun o ho => ?_, fun f hf => by simp at hf⟩, fun t r h => ?_, hsz, hdf⟩
      · refine .cons (fun p hp b hb => ?_) (.cons (fun p hp b hb => ?_) (.cons (fun p hp => by simp at hp) .nil))
        · obtain rfl : w.heap.size = b := by simpa [Obj.blk] using hb
          rcases List.mem_cons.1 hp with rfl | hp
          · exact fun e => hnr e.symm
          · obtain rfl : p = _ := by simpa using hp
            simp only [Obj.blk, ne_eq, Option.some.injEq]
            omega
        · obtain rfl : p = _ := by simpa using hp
          simp only [Obj.blk] at hb ⊢
          exact fun e => hne (hb.trans e.symm)
      · rcases List.mem_cons.1 ho with rfl | ho
        · exact ⟨.inl (.inl rfl), [v2], hv, by rw [Reads]; exact ⟨owns_one hrow, rfl⟩⟩
        · rcases List.mem_cons.1 ho with rfl | ho
          · refine ⟨pre.map kc, ⟨?_, fun b hb => .inl (.inr (.inr hb))⟩, rows_keys pre⟩
            rw [List.length_map]
            exact owns_low hrow
          · obtain rfl : o = _ := by simpa using ho
            exact ⟨.inl (.inr (.inl rfl)), bvs x.1, hbx, by rw [Reads]; exact ⟨x.2, rfl⟩⟩
      · simp only [look] at h
        split at h
        · rename_i e
          subst e
          cases h
          exact readV_v.2 ⟨rfl, ht5⟩
        · split at h
          · rename_i e
            subst e
            cases h
            exact readV_v.2 ⟨rfl, ht2⟩
          · cases h
    refine EL.go (S := ⟨[(5, .val (.v (.pointer (some ⟨Bx, 0, none⟩)))), (2, .val (.v (.pointer (some ⟨w.heap.size, 0, none⟩))))], [.var w.heap.size 134 (.v v2), .row v2 32 32 (pre.map dK), .var Bx 32 (.arr 32 x.1)], []⟩) ?_ _ _ hat
    have hml : (pre.map dK).length = pre.length := List.length_map _
    have hl1 : ([D.arr 32 x.1] : List D).length = 1 := rfl
    repeat
      (first
       | (apply P_load; exact rfl; (first | exact I0 | exact I1 | exact I2 | exact I3 | exact I4 | exact I5 | exact I6); (iterate 4 exact rfl)) | (apply P_lit; (iterate 9 exact rfl))
       | (apply P_store; exact rfl; (focus (repeat first | exact .z | apply SetAt.s | apply SetAtF.s)); (iterate 4 exact rfl))
       | ((apply P_append; exact rfl; (focus (repeat first | exact .z | apply SetAt.s | apply SetAtF.s)); (iterate 5 exact rfl); (focus (constructor <;> (first | (simp; done) | (simp; omega))))); intro _)
       | apply EL.nil
       | (with_reducible first | apply EC.seq | apply EC.region | apply EC.skip | apply EC.label | apply EC.block | apply EC.exit | apply EC.ret | apply EK.in_normal | apply EK.in_same | apply EK.in_ret | apply EK.then_ret | apply EK.then_exit))
    refine ⟨fun a1 w1 h1 => ?_⟩
    rename_i v'
    obtain ⟨⟨hgr, _, hat1, _⟩, hregs, hsz', hdf'⟩ := h1
    obtain ⟨_, cs, hbox, hrd⟩ := hat1 _ (List.mem_cons_self ..)
    rw [Reads] at hrd
    rw [hrd.2] at hbox
    obtain ⟨rows, ⟨hrow', hbase⟩, hrows⟩ := hat1 _ (List.mem_cons_of_mem _ (List.mem_cons_self ..))
    have hds : pre.map dK ++ [D.arr 32 x.1] = (pre ++ [x]).map dK := by simp [dK]
    rw [hds] at hrow' hrows
    rw [keys_rows _ _ hrows, List.length_map] at hrow'
    have hown := owns_up (base := w.heap.size) hrow' fun b hb => by
      rcases hbase b hb with h | h
      · exact hlow b h
      · exact Nat.le_trans hB.size h
    have hsame : ∀ k, k < W.heap.size → ¬ (k = w.heap.size ∨ k = Bx ∨ v2.ownBlock = some k) → w1.heap[k]? = W.heap[k]? := hgr.block
    refine ⟨⟨hgr.size, fun k o _ h0 ho => ?_⟩, ⟨hgr.size, fun k o h0 ho => ?_⟩, ⟨⟨v', hbox, hown, ?_⟩, hB.trans ⟨hgr.os, hgr.tape, hgr.output, hgr.size, fun k hk => ?_⟩⟩⟩
    · refine (hsame k (Array.getElem?_eq_some_iff.1 h0).1 fun h => ?_).trans h0
      rw [(hcell k o h h0).1] at ho
      cases ho
    · refine (hsame k (Array.getElem?_eq_some_iff.1 h0).1 fun h => ?_).trans h0
      rw [(hcell k o h h0).2] at ho
      cases ho
    · constructor
      · rintro rfl
        rcases hown.2 with ⟨_, h0⟩ | ⟨g, cap, cur, h0, _⟩
        · simp at h0
        · simp at h0
      · intro h
        simp at h
    · exact hsame k (by have := hB.size; omega) fun h => by have := hlow k h; omega
  case done =>
    rintro D ys W hD hS ⟨⟨v, hv, hrow, hnil⟩, hB⟩ hK
    have hc := hv.cell
    gi_wp2
    refine ⟨by simp, .inl ⟨_, _, rfl, run_takeDeferred hK, ?_⟩⟩
    exact ⟨_, results_tmp rfl _ _ _, v, ys, rfl, hS, ownsRow_putObj hrow _ hK rfl, hnil, hB.trans (belowK_b (w := w) (Nat.le_refl _) W D _ _ (by simp at hD; omega) hK rfl rfl)⟩
  case stop =>
    rintro D c pre W _ _ h _
    exact h.elim
end E
end Go.Proofs.Ytmlajcbabimkjaa
/-
  The functions by which keys are sorted: they tell bytes.Compare's order, and make memory alone.
  Conditions: none.
-/
namespace Go.Proofs.Ytmlajcbabimkjaa
set_option linter.unusedVariables false
open Go.RowKit Mono Rlp Go.Sort
namespace E
theorem isB_box {w : World} {g n : Nat} {t : TypeId} {l : List UInt8} (h : w.heap[g]? = some (.cells (bvs l).toArray t (0, 0))) (hl : l.length = n) (hn : n ≤ 64) : IsB w (.slice (some ⟨g, 0, none⟩) n n) l := by
  subst hl
  refine ⟨some ⟨g, 0, none⟩, l.length, rfl, Nat.le_refl _, by simp [maxLen]; omega, fun _ => ⟨g, 0, rfl, (Array.getElem?_eq_some_iff.1 h).1, fun j u hu => ?_⟩⟩
  rw [cell_of_row w g (0 + j) _ t (0, 0) h]
  simpa using hu
theorem run_box_word (w : World) (l : List UInt8) : (Instr.box 32 (arrV l)).run Try.prog w = .ok (.pointer (some ⟨w.heap.size, 0, none⟩)) (w.alloc (.cells (bvs l).toArray 32)) := by kernel_rfl
theorem wpL_boxE_word {w : World} {ops : Array Oper} {rest : List Oper} {o : Oper} {a : Act} {Q : Exit → Act → World → Prop} {l : List UInt8} {x : Operand} (hgd : o.guard = none) (ho : o.op = .box 32 x) (hx : a.eval x = arrV l)
    (h : wpList Try.prog ops Q rest (a.put o.dst (.pointer (some ⟨w.heap.size, 0, none⟩))) (w.alloc (.cells (bvs l).toArray 32))) : wpList Try.prog ops Q (o :: rest) a w := by
  refine wpList_plain hgd fun _ hK => ?_
  have h1 := hK _ _ h
  unfold Oper.wp execOp
  simp only [ho, hx, Sem.run_bind, run_box_word, Result.andThen_ok, Sem.run_pure]
  exact h1
theorem run_slice_word (w : World) (g : Nat) : (Instr.sliceAt 32 (.pointer (some ⟨g, 0, none⟩)) none none none).run Try.prog w = .ok (.slice (some ⟨g, 0, none⟩) 32 32) w := by kernel_rfl
set_option maxRecDepth 100000 in
set_option maxHeartbeats 1000000 in
theorem cmp_word (l m : List UInt8) (hl : l.length = 32) (hm : m.length = 32) (w : World) : Calls Try.prog 70 #[arrV l, arrV m] w fun e w' => e = .returned (.int .i64 (cmpB l m)) ∧ ∃ q os', w' = grow (w.drewN q) os' := by
  have mixed : Try.prog.follows .mixedOrders = true := by kernel_rfl
  go_enter Try.func70, Try.ntmps70
  go_wp2_with (guard_target = wpList _ _ _ (Oper.mk _ (Op.box _ _) _ _ _ _ :: _) _ _; refine wpL_boxE_word rfl rfl rfl ?_)
  have h0 : ((w.alloc (.cells (bvs l).toArray 32)).alloc (.cells (bvs m).toArray 32)).heap[w.heap.size]? = some (.cells (bvs l).toArray 32 (0, 0)) := by
    rw [(MapKept.heap_alloc _ _).2 _ (by simp)]
    exact (MapKept.heap_alloc w _).1
  have h1 : ((w.alloc (.cells (bvs l).toArray 32)).alloc (.cells (bvs m).toArray 32)).heap[w.heap.size + 1]? = some (.cells (bvs m).toArray 32 (0, 0)) := by
    have := (MapKept.heap_alloc (w.alloc (.cells (bvs l).toArray 32)) (.cells (bvs m).toArray 32)).1
    simpa using this
  have hw : ∃ q os', (w.alloc (.cells (bvs l).toArray 32)).alloc (.cells (bvs m).toArray 32) = grow (w.drewN q) os' := ⟨0, _, by rw [alloc_eq_grow, alloc_eq_grow, grow_grow]; rfl⟩
  generalize (w.alloc (.cells (bvs l).toArray 32)).alloc (.cells (bvs m).toArray 32) = wq at h0 h1 hw ⊢
  have s0 : ∀ n, (Instr.sliceAt 32 (.pointer (some ⟨w.heap.size, 0, none⟩)) none none none).run Try.prog (wq.drewN n) = .ok (.slice (some ⟨w.heap.size, 0, none⟩) 32 32) (wq.drewN n) := fun n => run_slice_word _ _
  have s1 : ∀ n, (Instr.sliceAt 32 (.pointer (some ⟨w.heap.size + 1, 0, none⟩)) none none none).run Try.prog (wq.drewN n) = .ok (.slice (some ⟨w.heap.size + 1, 0, none⟩) 32 32) (wq.drewN n) := fun n => run_slice_word _ _
  have hc := Lib.hid fun n => bytes_CompareW _ _ l m (wq.drewN n) (isB_box h0 hl (by decide)) (isB_box h1 hm (by decide))
  clear h0 h1
  go_quiet_o ((go_at_call 43; exact (hc.out _).mono fun e w' ⟨he, hw⟩ => ⟨he, _, hw⟩))
  go_wp2_with fail
  obtain ⟨q, os', rfl⟩ := hw
  exact bodyPost_ret (results_tmp rfl _ _ _) rfl ⟨rfl, q + nq, os', by simp [grow, World.drewN, Nat.add_assoc]⟩
theorem swo (n : Nat) : SWO (Go.Proofs.ltOf fun x y : Ky n => cmpB x.1 y.1) := by
  have h : ∀ x y : Ky n, Go.Proofs.ltOf (fun x y : Ky n => cmpB x.1 y.1) x y = decide (x.1 < y.1) := fun x y => cmpB_lt x.1 y.1
  refine ⟨fun x => ?_, fun x y z h1 h2 => ?_, fun x y z h1 h2 => ?_⟩
  · rw [h]
    simp [List.lt_irrefl]
  · rw [h] at h1 h2 ⊢
    simp only [decide_eq_true_eq] at h1 h2 ⊢
    exact List.lt_trans h1 h2
  · rw [h] at h1 h2 ⊢
    simp only [decide_eq_false_iff_not, List.not_lt] at h1 h2 ⊢
    exact List.le_trans h2 h1
end E
end Go.Proofs.Ytmlajcbabimkjaa
/-
  The laying of slices.SortFunc, printed by the shelf's own tool.
  Conditions: none.
-/
namespace Go.Proofs.Ytmlajcbabimkjaa
open Go.Shelf
def sortWord_ren : Go.Shelf.Ren := ⟨fun | 6 => 104 | 15 => 115 | 14 => 124 | 28 => 133 | 29 => 134 | 20 => 137 | 21 => 138 | 22 => 139 | 23 => 140 | 24 => 141 | 25 => 142 | 26 => 143 | 27 => 144 | 46 => 151 | 47 => 146 | 48 => 147 | 49 => 152 | 50 => 153 | 57 => 157 | n => n, fun | 22 => 134 | 24 => 32 | 25 => 139 | 3 => 3 | 39 => 38 | 0 => 0 | 53 => 216 | 55 => 87 | 4 => 4 | 46 => 210 | 45 => 209 | 50 => 106 | 5 => 5 | 9 => 9 | 66 => 224 | 70 => 228 | 76 => 232 | 77 => 233 | n => n, fun | n => n⟩
theorem sortWord : Go.Proofs.SlLaysF0.n6 Try.prog sortWord_ren := {
  mixed := by kernel_rfl
  f6 := ⟨Try.f104.name, by decide, Try.func104.trans (congrArg some (by kernel_rfl))⟩
  f14 := ⟨Try.f124.name, by decide, Try.func124.trans (congrArg some (by kernel_rfl))⟩
  f15 := Try.func115.trans (congrArg some (by kernel_rfl))
  f20 := ⟨Try.f137.name, by decide, Try.func137.trans (congrArg some (by kernel_rfl))⟩
  f21 := ⟨Try.f138.name, by decide, Try.func138.trans (congrArg some (by kernel_rfl))⟩
  f22 := ⟨Try.f139.name, by decide, Try.func139.trans (congrArg some (by kernel_rfl))⟩
  f23 := ⟨Try.f140.name, by decide, Try.func140.trans (congrArg some (by kernel_rfl))⟩
  f24 := ⟨Try.f141.name, by decide, Try.func141.trans (congrArg some (by kernel_rfl))⟩
  f25 := ⟨Try.f142.name, by decide, Try.func142.trans (congrArg some (by kernel_rfl))⟩
  f26 := ⟨Try.f143.name, by decide, Try.func143.trans (congrArg some (by kernel_rfl))⟩
  f27 := ⟨Try.f144.name, by decide, Try.func144.trans (congrArg some (by kernel_rfl))⟩
  f28 := Try.func133.trans (congrArg some (by kernel_rfl))
  f29 := Try.func134.trans (congrArg some (by kernel_rfl))
  f46 := ⟨Try.f151.name, by decide, Try.func151.trans (congrArg some (by kernel_rfl))⟩
  f47 := Try.func146.trans (congrArg some (by kernel_rfl))
  f48 := Try.func147.trans (congrArg some (by kernel_rfl))
  f49 := ⟨Try.f152.name, by decide, Try.func152.trans (congrArg some (by kernel_rfl))⟩
  f50 := ⟨Try.f153.name, by decide, Try.func153.trans (congrArg some (by kernel_rfl))⟩
  f57 := ⟨Try.f157.name, by decide, Try.func157.trans (congrArg some (by kernel_rfl))⟩
  t0 := Try.underlying0
  a0 := Try.isAgg0
  z0 := Try.sizeOf0
  v0 := Try.zeroValue0
  t3 := Try.underlying3
  a3 := Try.isAgg3
  z3 := Try.sizeOf3
  v3 := Try.zeroValue3
  t4 := Try.underlying4
  a4 := Try.isAgg4
  z4 := Try.sizeOf4
  v4 := Try.zeroValue4
  t5 := Try.underlying5
  a5 := Try.isAgg5
  z5 := Try.sizeOf5
  v5 := Try.zeroValue5
  t9 := Try.underlying9
  a9 := Try.isAgg9
  z9 := Try.sizeOf9
  v9 := Try.zeroValue9
  t22 := Try.underlying134
  a22 := Try.isAgg134
  z22 := Try.sizeOf134
  v22 := Try.zeroValue134
  t25 := Try.underlying139
  a25 := Try.isAgg139
  z25 := Try.sizeOf139
  v25 := Try.zeroValue139
  t39 := Try.underlying38
  a39 := Try.isAgg38
  z39 := Try.sizeOf38
  v39 := Try.zeroValue38
  t45 := Try.underlying209
  a45 := Try.isAgg209
  z45 := Try.sizeOf209
  v45 := Try.zeroValue209
  t46 := Try.underlying210
  a46 := Try.isAgg210
  z46 := Try.sizeOf210
  v46 := Try.zeroValue210
  t50 := Try.underlying106
  a50 := Try.isAgg106
  z50 := Try.sizeOf106
  v50 := Try.zeroValue106
  t53 := Try.underlying216
  a53 := Try.isAgg216
  z53 := Try.sizeOf216
  v53 := Try.zeroValue216
  t55 := Try.underlying87
  a55 := Try.isAgg87
  z55 := Try.sizeOf87
  v55 := Try.zeroValue87
  t66 := Try.underlying224
  a66 := Try.isAgg224
  z66 := Try.sizeOf224
  v66 := Try.zeroValue224
  t70 := Try.underlying228
  a70 := Try.isAgg228
  z70 := Try.sizeOf228
  v70 := Try.zeroValue228
  t76 := Try.underlying232
  a76 := Try.isAgg232
  z76 := Try.sizeOf232
  v76 := Try.zeroValue232
  t77 := Try.underlying233
  a77 := Try.isAgg233
  z77 := Try.sizeOf233
  v77 := Try.zeroValue233 }
end Go.Proofs.Ytmlajcbabimkjaa
/-
  slices.SortFunc at arrays of bytes, as a function that writes a row.
  Conditions: none.
-/
namespace Go.Proofs.Ytmlajcbabimkjaa
set_option linter.unusedVariables false
open Go.RowKit Mono Rlp Go.Sort
namespace E
def sortL (l : List (List UInt8)) : List (List UInt8) := l.mergeSort fun a b => decide (a ≤ b)
theorem sortL_perm (l : List (List UInt8)) : (sortL l).Perm l := List.mergeSort_perm _ _
theorem sortL_sorted (l : List (List UInt8)) : (sortL l).Pairwise (· ≤ ·) := by
  have h := List.pairwise_mergeSort (le := fun a b : List UInt8 => decide (a ≤ b)) (fun a b c h1 h2 => by simp only [decide_eq_true_eq] at h1 h2 ⊢; exact List.le_trans h1 h2) (fun a b => by simp only [Bool.or_eq_true, decide_eq_true_eq]; exact List.le_total a b) l
  exact h.imp fun h => by simpa using h
theorem sortL_eq {l m : List (List UInt8)} (hp : m.Perm l) (hs : m.Pairwise (· ≤ ·)) : m = sortL l :=
  List.Perm.eq_of_pairwise (fun a b _ _ h1 h2 => List.le_antisymm h1 h2) hs (sortL_sorted l) (hp.trans (sortL_perm l).symm)
theorem flat_at {n : Nat} (hn : 0 < n) [Inhabited (Ky n)] : ∀ (ks : List (Ky n)) (t : Nat), t < ks.length * n → (ks.map kc).flatten[t]? = some ((kc (ks[t / n]!))[t % n]!)
  | [], t, h => by simp at h
  | k :: ks, t, h => by
    have hk : (kc k).length = n := by unfold kc; rw [bvs_length, k.2]
    rw [List.map_cons, List.flatten_cons]
    by_cases ht : t < n
    · rw [List.getElem?_append_left (by omega), Nat.div_eq_of_lt ht, Nat.mod_eq_of_lt ht]
      simp [hk, ht]
    · rw [List.getElem?_append_right (by omega), hk, flat_at hn ks (t - n) (by simp [Nat.add_mul] at h; omega)]
      have h1 : t / n = (t - n) / n + 1 := by
        conv => lhs; rw [show t = t - n + n by omega, Nat.add_div_right _ hn]
      have h2 : t % n = (t - n) % n := by
        conv => lhs; rw [show t = t - n + n by omega, Nat.add_mod_right]
      rw [h1, h2]
      simp
theorem flatK_list {n : Nat} (hn : 0 < n) [Inhabited (Ky n)] (ks : List (Ky n)) : (flatK kc n ks.toArray).toList = (ks.map kc).flatten := by
  have hl : (ks.map kc).flatten.length = ks.length * n := by
    have : ∀ ks : List (Ky n), (ks.map kc).flatten.length = ks.length * n := fun ks => by
      induction ks with
      | nil => simp
      | cons k ks ih =>
        have hk : (kc k).length = n := by unfold kc; rw [bvs_length, k.2]
        rw [List.map_cons, List.flatten_cons, List.length_append, ih, hk, List.length_cons, Nat.add_mul, Nat.one_mul, Nat.add_comm]
    exact this ks
  refine List.ext_getElem? fun t => ?_
  by_cases ht : t < ks.length * n
  · rw [flat_at hn ks t ht, Array.getElem?_toList]
    have hs : t < (flatK kc n ks.toArray).size := by simpa using ht
    have := get_flatK kc n ks.toArray t (by simpa using ht)
    rw [getElem!_pos _ t hs] at this
    rw [Array.getElem?_eq_getElem hs, this]
    simp
  · rw [List.getElem?_eq_none (by simp; omega), List.getElem?_eq_none (by omega)]
theorem heap_row {w : World} {g n : Nat} {os : Array Go.Obj} {cur : Array Value} {e : TypeId} {fr : Nat × Nat} (F : Array Value) (hb : w.heap[g]? = some (.cells cur e fr)) :
    (grow (putRow id (Sort.ahead w n) g 0 F) os).heap[g]? = some (.cells (putCells id 0 F cur) e fr) := by
  have hg : g < w.heap.size := (Array.getElem?_eq_some_iff.1 hb).1
  rw [heap_grow_old _ _ (by simpa using hg)]
  simp [putRow, mapBlock, Sort.ahead, Array.getElem?_modify, hb, onCells]
theorem grown_row {w : World} {g n : Nat} {os : Array Go.Obj} (F : Array Value) : w.grownBy (grow (putRow id (Sort.ahead w n) g 0 F) os) (some g) := by
  refine ⟨rfl, rfl, rfl, by simp, fun k hk hne => ?_⟩
  rw [heap_grow_old _ _ (by simpa using hk)]
  have : g ≠ k := fun e => hne (by rw [e])
  simp [putRow, mapBlock, Sort.ahead, Array.getElem?_modify, this]
theorem take_row (cur F : Array Value) (h : F.size ≤ cur.size) : (putCells id 0 F cur).toList.take F.size = F.toList := by
  apply List.ext_getElem?
  intro j
  by_cases hj : j < F.size
  · rw [List.getElem?_take_of_lt hj, Array.getElem?_toList]
    simp [putCells, hj, show j < cur.size by omega]
  · rw [List.getElem?_take_eq_none (by omega), List.getElem?_eq_none (by simp; omega)]
instance inh_word : Inhabited (Ky 32) := ⟨⟨List.replicate 32 0, by simp⟩⟩
theorem sortRun_word (cf : FuncId) (hc : ∀ l m : List UInt8, l.length = 32 → m.length = 32 → ∀ w, Calls Try.prog cf #[arrV l, arrV m] w fun e w' => e = .returned (.int .i64 (cmpB l m)) ∧ ∃ q os', w' = grow (w.drewN q) os') (ec : ∀ args w, (callFunc cf args).run Try.prog w = .ok (.enter cf args) w)
    (g cap : Nat) (ks : List (Ky 32)) (w : World) (hl : ks.length < 4611686018427387904) (hH : HoldsK kc 32 w g 0 ks.toArray) (hb : g < w.heap.size) :
    Calls Try.prog 104 #[.slice (some ⟨g, 0, none⟩) ks.length cap, .func (.func cf) #[] #[]] w fun e w' => e = .returned (.tuple #[]) ∧ ∃ n os, w' = grow (putRow id (Sort.ahead w n) g 0 (flatK kc 32 (ks.mergeSort fun x y => decide (x.1 ≤ y.1)).toArray)) os := by
  have hT : ∀ x y : Ky 32, ltOf (fun x y : Ky 32 => cmpB x.1 y.1) x y = false → ltOf (fun x y : Ky 32 => cmpB x.1 y.1) y x = false → x = y := fun x y h1 h2 => by
    rw [show ltOf (fun x y : Ky 32 => cmpB x.1 y.1) x y = decide (x.1 < y.1) from cmpB_lt x.1 y.1] at h1
    rw [show ltOf (fun x y : Ky 32 => cmpB x.1 y.1) y x = decide (y.1 < x.1) from cmpB_lt y.1 x.1] at h2
    simp only [decide_eq_false_iff_not, List.not_lt] at h1 h2
    exact Subtype.ext (List.le_antisymm h2 h1)
  have h := AnyQ.slices_SortFunc_total sortWord 32 Try.isAgg32 Try.sizeOf32 kc (fun x => by unfold kc; rw [bvs_length, x.2]) (fun x v hv => bvs_one x.1 v hv) (fun x y : Ky 32 => cmpB x.1 y.1) (swo 32) cf #[] g 0 cap ks.toArray w ec (fun m os dk hs x y => hc x.1 y.1 x.2 y.2 _) hH hb (by simpa using hl) hT
  have hf : (fun x y : Ky 32 => !(ltOf fun x y : Ky 32 => cmpB x.1 y.1) y x) = fun x y => decide (x.1 ≤ y.1) := by
    funext x y
    rw [show ltOf (fun x y : Ky 32 => cmpB x.1 y.1) y x = decide (y.1 < x.1) from cmpB_lt y.1 x.1]
    by_cases h : y.1 < x.1
    · simp [h, List.not_le.2 h]
    · simp [h, List.not_lt.1 h]
  rw [hf] at h
  exact h.mono fun e w' ⟨he, n, os, hw⟩ => ⟨he, n, os, hw⟩
theorem sort_word (cf : FuncId) (hc : ∀ l m : List UInt8, l.length = 32 → m.length = 32 → ∀ w, Calls Try.prog cf #[arrV l, arrV m] w fun e w' => e = .returned (.int .i64 (cmpB l m)) ∧ ∃ q os', w' = grow (w.drewN q) os') (ec : ∀ args w, (callFunc cf args).run Try.prog w = .ok (.enter cf args) w)
    (v : Value) (ks : List (Ky 32)) (hl : ks.length < 4611686018427387904) :
    FnM 104 [.v v, .v (.func (.func cf) #[] #[])] [.row v 32 32 (ks.map dK)] (fun r os' => r = .tpl [] ∧ os' = [.row v 32 32 ((ks.mergeSort fun x y => decide (x.1 ≤ y.1)).map dK)]) := by
  constructor
  intro ok w xs hok hown hr
  obtain ⟨x1, _, rfl, hx1, x2, _, rfl, hx2, rfl⟩ := hr
  obtain rfl := (readV_v.1 hx1).2
  obtain rfl := (readV_v.1 hx2).2
  obtain ⟨rows, ⟨hrow, hbase⟩, hrows⟩ := hown.at_ _ (List.mem_cons_self ..)
  rw [keys_rows _ _ hrows, List.length_map] at hrow
  rcases hrow.2 with ⟨rfl, h0⟩ | ⟨g, cap, cur, rfl, _, hgb, r1, r2, r3, r4⟩
  · obtain rfl : ks = [] := List.eq_nil_of_length_eq_zero h0
    have hms : ([] : List (Ky 32)).mergeSort (fun x y => decide (x.1 ≤ y.1)) = [] := by simp
    rw [hms]
    refine (AnyF.slices_SortFunc_none sortWord none 0 (.func (.func cf) #[] #[]) w).mono ?_
    rintro e w' ⟨rfl, rfl⟩
    refine ⟨_, .tpl [], _, rfl, ⟨rfl, rfl⟩, ⟨.refl _, hown.apart, fun o ho => ?_⟩, [], rfl, rfl⟩
    obtain rfl : o = _ := by simpa using ho
    exact ⟨[], ⟨⟨by simp, .inl ⟨rfl, rfl⟩⟩, fun b hb => by cases hb⟩, rows_keys []⟩
  · have hlt := (Array.getElem?_eq_some_iff.1 hgb).1
    have hml : (ks.mergeSort fun x y => decide (x.1 ≤ y.1)).length = ks.length := List.length_mergeSort _
    have hH : HoldsK kc 32 w g 0 ks.toArray := fun j hj => by
      have hj' : j < ks.length * 32 := by simpa using hj
      have h1 : (cur.toList.take (ks.length * 32))[j]? = (ks.map kc).flatten[j]? := by rw [r4]
      rw [List.getElem?_take_of_lt hj', ← flatK_list (by decide)] at h1
      refine ⟨?_, by simp [World.frozen?, hgb]⟩
      rw [cell_of_row w g (0 + j) cur 32 (0, 0) hgb, Nat.zero_add, ← Array.getElem?_toList, h1, Array.getElem?_toList, Array.getElem?_eq_getElem hj, getElem!_pos _ j hj]
      rfl
    refine (sortRun_word cf hc ec g cap ks w hl hH hlt).mono ?_
    rintro e w' ⟨rfl, n, os, rfl⟩
    have hg := grown_row (w := w) (g := g) (n := n) (os := os) (flatK kc 32 (ks.mergeSort fun x y => decide (x.1 ≤ y.1)).toArray)
    have hh := heap_row (n := n) (os := os) (flatK kc 32 (ks.mergeSort fun x y => decide (x.1 ≤ y.1)).toArray) hgb
    have hF : (flatK kc 32 (ks.mergeSort fun x y => decide (x.1 ≤ y.1)).toArray).size = ks.length * 32 := by rw [size_flatK]; simp [hml]
    have htk := take_row cur (flatK kc 32 (ks.mergeSort fun x y => decide (x.1 ≤ y.1)).toArray) (by rw [hF, r3]; exact Nat.mul_le_mul_right _ r1)
    rw [hF, flatK_list (by decide)] at htk
    refine ⟨_, .tpl [], _, rfl, ⟨rfl, rfl⟩, ⟨⟨hg.os, hg.tape, hg.output, hg.size, fun k hk hn => hg.block k hk fun e => hn ?_⟩, .cons (fun _ h => by simp at h) .nil, fun o ho => ?_⟩, [], rfl, rfl⟩
    · cases e
      exact ⟨_, List.mem_cons_self .., rfl⟩
    · obtain rfl : o = _ := by simpa using ho
      refine ⟨_, ⟨⟨?_, .inr ⟨g, cap, _, ?_, Nat.zero_le _, hh, ?_, r2, ?_, ?_⟩⟩, fun b hb => .inl ⟨_, List.mem_cons_self .., hb⟩⟩, rows_keys _⟩
      · rw [← flatK_list (by decide), Array.length_toList, hF, List.length_map, hml]
      · rw [List.length_map, hml]
      · rw [List.length_map, hml]
        exact r1
      · simp [putCells, r3]
      · rw [List.length_map, hml]
        exact htk
end E
end Go.Proofs.Ytmlajcbabimkjaa
/-
  slices.SortedFunc of maps.Keys: the keys of a map, in their order.
  Conditions: none.
-/
namespace Go.Proofs.Ytmlajcbabimkjaa
set_option linter.unusedVariables false
open Go.RowKit Mono Rlp Go.Sort
namespace E
def unV : Value → List UInt8
  | .agg cs => cs.toList.map fun v => match v with
    | .int _ n => UInt8.ofNat n.toNat
    | _ => 0
  | _ => []
theorem unV_arr (l : List UInt8) : unV (arrV l) = l := by
  unfold arrV unV bvs
  simp only [List.map_map]
  refine (List.map_congr_left fun b _ => ?_).trans (List.map_id l)
  simp [bv]
theorem all2_map {α β γ : Type} {R : α → β → Prop} {f : α → γ} {g : β → γ} (h : ∀ a b, R a b → f a = g b) : ∀ {l : List α} {m : List β}, All2 R l m → l.map f = m.map g
  | _, _, .nil => rfl
  | _, _, .cons h1 h2 => by rw [List.map_cons, List.map_cons, h _ _ h1, all2_map h h2]
theorem all2_mem {α β : Type} {R : α → β → Prop} {l : List α} {m : List β} (h : All2 R l m) {a : α} (ha : a ∈ l) : ∃ b ∈ m, R a b := by
  induction h with
  | nil => cases ha
  | cons h1 h2 ih =>
    rcases List.mem_cons.1 ha with rfl | ha
    · exact ⟨_, List.mem_cons_self .., h1⟩
    · obtain ⟨b, hb, hr⟩ := ih ha
      exact ⟨b, List.mem_cons_of_mem _ hb, hr⟩
theorem all2_length {α β : Type} {R : α → β → Prop} : ∀ {l : List α} {m : List β}, All2 R l m → l.length = m.length
  | _, _, .nil => rfl
  | _, _, .cons _ h2 => by rw [List.length_cons, List.length_cons, all2_length h2]
theorem val_dK {n : Nat} (ks : List (Ky n)) : ks.map dK = (ks.map (·.1)).map (D.arr n) := by
  rw [List.map_map]
  rfl
theorem enters_word : ∀ args w, (callFunc 105 args).run Try.prog w = .ok (.enter 105 args) w := enters_of Try.func105 (by kernel_rfl) rfl
theorem append_word (g m c : Nat) (es : List Ent) (hl : es.length * 32 ≤ 140737488355328) : FnM 123 [.v (.slice none 0 0), .v (.func (.func 105) #[] #[.pointer (some ⟨g, 0, none⟩)])] [.var g 92 (.v (.map (some m))), .map m 32 c es] (fun r os' => ∃ v, ∃ ks : List (Ky 32), r = .val (.v v) ∧ (ks.map (·.1)).Perm (es.map (·.2.1)) ∧ os' = [.row v 32 32 (ks.map dK), .var g 92 (.v (.map (some m))), .map m 32 c es]) := by
  constructor
  intro ok w xs hok hown hr
  obtain ⟨x1, _, rfl, hx1, x2, _, rfl, hx2, rfl⟩ := hr
  obtain rfl := (readV_v.1 hx1).2
  obtain rfl := (readV_v.1 hx2).2
  obtain ⟨_, cs, hg, hrd⟩ := hown.at_ _ (List.mem_cons_self ..)
  obtain ⟨_, hent, arr, hm, hall⟩ := hown.at_ _ (List.mem_cons_of_mem _ (List.mem_cons_self ..))
  rw [Reads] at hrd
  rw [hrd.2] at hg
  have hglt := (Array.getElem?_eq_some_iff.1 hg).1
  have hmlt := (Array.getElem?_eq_some_iff.1 hm).1
  have hbs : arr.toList.map (·.born) = es.map (·.1) := all2_map (fun a b h => h.born) hall
  have hks : arr.toList.map (·.key) = es.map fun x => arrV x.2.1 := all2_map (fun a b h => h.key) hall
  have hsz : arr.size = es.length := by rw [← Array.length_toList, all2_length hall]
  have hseq : SeqStopsK Fence.wide 3 Try.prog 105 #[.pointer (some ⟨g, 0, none⟩)] (fun x : Ky 32 => #[kv x]) KeepsWalks (fun ss => (ss.map kv).Perm (arr.toList.map (·.key))) (fun _ => True) arr.size w := fun l J Jx W hW hJ _ hY h0 =>
    keys1_word 3 l g m (by omega) arr c J Jx hY W hJ ((hW.cell (p := ⟨g, 0, none⟩) hglt).trans (by rw [cell_of_row w g 0 _ _ _ hg]; rfl)) ((hW.block m hmlt).trans hm) (by rw [hbs]; exact hent.borns)
      (fun x hx => by obtain ⟨y, hy, he⟩ := all2_mem hall hx; rw [he.born]; exact hent.lt y hy)
      (fun x hx => by obtain ⟨y, hy, he⟩ := all2_mem hall hx; exact ⟨⟨y.2.1, he.len⟩, he.key⟩) h0
  refine (callsIn_wide.1 (appendSeq_word 4 (by omega) 105 #[.pointer (some ⟨g, 0, none⟩)] enters_word _ _ arr.size (by rw [hsz]; exact hl) w hseq)).mono ?_
  rintro e w' ⟨v, ks, rfl, hp, hrow, hnil, hB⟩
  have hp' : (ks.map (·.1)).Perm (es.map (·.2.1)) := by
    rw [hks] at hp
    have := hp.map unV
    rw [List.map_map, List.map_map] at this
    have e1 : ks.map (unV ∘ kv) = ks.map (·.1) := List.map_congr_left fun k _ => unV_arr k.1
    have e2 : es.map (unV ∘ fun x => arrV x.2.1) = es.map (·.2.1) := List.map_congr_left fun k _ => unV_arr k.2.1
    rwa [e1, e2] at this
  have hnew : ∀ b, v.ownBlock = some b → w.heap.size ≤ b := fun b hb => (hrow.lt b hb).1
  refine ⟨v, .val (.v v), _, rfl, ⟨v, ks, rfl, hp', rfl⟩, ⟨.of hB, .cons (fun p hp b hb e => ?_) hown.apart, fun o ho => ?_⟩, readV_v.2 ⟨owns_one hrow, rfl⟩⟩
  · have h1 := hnew b hb
    have h2 := (Obj.blk_lt (hown.at_ p hp) e).2
    omega
  · rcases List.mem_cons.1 ho with rfl | ho
    · refine ⟨ks.map kc, ⟨?_, fun b hb => .inr (hnew b hb)⟩, rows_keys ks⟩
      rw [List.length_map]
      exact owns_low hrow
    · refine ((hown.at_ o ho).move (fun b hb => ⟨.inl hb, Nat.lt_of_lt_of_le (hok b hb) hB.size, fun o' ho' e => ?_⟩) (fun p hp => hB.cell (hok _ hp)) fun b hb => hB.block b (Obj.blk_lt (hown.at_ o ho) hb).2).rebase fun b hb => .inl ⟨o, ho, hb⟩
      rcases List.mem_cons.1 ho' with rfl | ho'
      · have := hnew b e
        have := hok b hb
        omega
      · exact hown.off b ⟨o', ho', e⟩ hb
set_option maxRecDepth 20000 in
set_option maxHeartbeats 2000000 in
theorem keys_word (m : Nat) : FnM 69 [.v (.map (some m))] [] (fun r os' => ∃ g, r = .val (.v (.func (.func 105) #[] #[.pointer (some ⟨g, 0, none⟩)])) ∧ os' = [.var g 92 (.v (.map (some m)))]) := by
  refine FnM.walk 4 Try.func69 rfl Try.ntmps69 (by simp) fun X => ?_
  repeat
    (first
     | (apply P_assign; (iterate 3 exact rfl)) | (apply P_mkfunc; (iterate 3 exact rfl)) | (apply P_box; exact rfl; exact rfl; exact rfl; intro _) | apply EL.nil
     | ((with_reducible apply EK.then_normal); apply EK.code)
     | (with_reducible first | apply EC.seq | apply EC.region | apply EC.skip | apply EC.label | apply EC.block | apply EC.exit | apply EC.ret | apply EK.in_normal | apply EK.in_same | apply EK.in_ret | apply EK.then_ret | apply EK.then_exit))
  rename_i g
  exact EK.retM1s [.var g 92 (.v (.map (some m)))] rfl rfl (by (repeat first | exact List.nil_sublist _ | apply List.Sublist.cons_cons | apply List.Sublist.cons)) ⟨g, rfl, rfl⟩
set_option maxRecDepth 20000 in
set_option maxHeartbeats 2000000 in
theorem collect_word (g m c : Nat) (es : List Ent) (hl : es.length * 32 ≤ 140737488355328) : FnM 103 [.v (.func (.func 105) #[] #[.pointer (some ⟨g, 0, none⟩)])] [.var g 92 (.v (.map (some m))), .map m 32 c es] (fun r os' => ∃ v, ∃ ks : List (Ky 32), r = .val (.v v) ∧ (ks.map (·.1)).Perm (es.map (·.2.1)) ∧ os' = [.row v 32 32 (ks.map dK), .var g 92 (.v (.map (some m))), .map m 32 c es]) := by
  have h1 := append_word g m c es hl
  refine FnM.walk 5 Try.func103 rfl Try.ntmps103 (by simp) fun X => ?_
  repeat
    (first
     | (apply P_callM (os := [.var g 92 (.v (.map (some m))), .map m 32 c es]) h1; (iterate 2 exact rfl); exact RefineL.refl _ _; (focus (intro _ _; simp [go_sem]; done)); (iterate 2 exact rfl); rintro _ _ ⟨v, ks, rfl, hp, rfl⟩)
     | (apply P_move; (iterate 3 exact rfl)) | (apply P_assign; (iterate 3 exact rfl)) | apply EL.nil | ((with_reducible apply EK.then_normal); apply EK.code)
     | (with_reducible first | apply EC.seq | apply EC.region | apply EC.skip | apply EC.label | apply EC.block | apply EC.exit | apply EC.ret | apply EK.in_normal | apply EK.in_same | apply EK.in_ret | apply EK.then_ret | apply EK.then_exit))
  exact EK.retM1s [.row v 32 32 (ks.map dK), .var g 92 (.v (.map (some m))), .map m 32 c es] rfl rfl (by (repeat first | exact List.nil_sublist _ | apply List.Sublist.cons_cons | apply List.Sublist.cons)) ⟨v, ks, rfl, hp, rfl⟩
set_option maxRecDepth 20000 in
set_option maxHeartbeats 2000000 in
theorem sorted_word (cf : FuncId) (hc : ∀ l m : List UInt8, l.length = 32 → m.length = 32 → ∀ w, Calls Try.prog cf #[arrV l, arrV m] w fun e w' => e = .returned (.int .i64 (cmpB l m)) ∧ ∃ q os', w' = grow (w.drewN q) os') (ec : ∀ args w, (callFunc cf args).run Try.prog w = .ok (.enter cf args) w)
    (g m c : Nat) (es : List Ent) (hl : es.length * 32 ≤ 140737488355328) : FnM 68 [.v (.func (.func 105) #[] #[.pointer (some ⟨g, 0, none⟩)]), .v (.func (.func cf) #[] #[])] [.var g 92 (.v (.map (some m))), .map m 32 c es] (fun r os' => ∃ v, r = .val (.v v) ∧ os' = [.row v 32 32 ((sortL (es.map (·.2.1))).map (D.arr 32)), .var g 92 (.v (.map (some m))), .map m 32 c es]) := by
  have h1 := collect_word g m c es hl
  refine FnM.walk 12 Try.func68 rfl Try.ntmps68 (by simp) fun X => ?_
  repeat
    (first
     | (apply P_callM (os := [.var g 92 (.v (.map (some m))), .map m 32 c es]) h1; (iterate 2 exact rfl); exact RefineL.refl _ _; (focus (intro _ _; simp [go_sem]; done)); (iterate 2 exact rfl); rintro _ _ ⟨v, ks, rfl, hp, rfl⟩)
     | (apply P_move; (iterate 3 exact rfl)) | (apply P_assign; (iterate 3 exact rfl)) | apply EL.nil | ((with_reducible apply EK.then_normal); apply EK.code)
     | (with_reducible first | apply EC.seq | apply EC.region | apply EC.skip | apply EC.label | apply EC.block | apply EC.exit | apply EC.ret | apply EK.in_normal | apply EK.in_same | apply EK.in_ret | apply EK.then_ret | apply EK.then_exit))
  have hkl : ks.length = es.length := by simpa using hp.length_eq
  have h2 := sort_word cf hc ec v ks (by omega)
  repeat
    (first
     | (apply P_callM (os := [.row v 32 32 (ks.map dK)]) h2; (iterate 2 exact rfl); exact RefineL.refl _ _; (focus (intro _ _; simp [go_sem]; done)); (iterate 2 exact rfl); rintro _ _ ⟨rfl, rfl⟩)
     | (apply P_move; (iterate 3 exact rfl)) | (apply P_assign; (iterate 3 exact rfl)) | apply EL.nil | ((with_reducible apply EK.then_normal); apply EK.code)
     | (with_reducible first | apply EC.seq | apply EC.region | apply EC.skip | apply EC.label | apply EC.block | apply EC.exit | apply EC.ret | apply EK.in_normal | apply EK.in_same | apply EK.in_ret | apply EK.then_ret | apply EK.then_exit))
  have hs : (ks.mergeSort fun x y => decide (x.1 ≤ y.1)).map (·.1) = sortL (es.map (·.2.1)) := by
    refine sortL_eq (((List.mergeSort_perm ks _).map (·.1)).trans hp) ?_
    have h := List.pairwise_mergeSort (le := fun x y : Ky 32 => decide (x.1 ≤ y.1)) (fun a b c h1 h2 => by simp only [decide_eq_true_eq] at h1 h2 ⊢; exact List.le_trans h1 h2) (fun a b => by simp only [Bool.or_eq_true, decide_eq_true_eq]; exact List.le_total a.1 b.1) ks
    rw [List.pairwise_map]
    exact h.imp fun h => by simpa using h
  exact EK.retM1s [.row v 32 32 ((ks.mergeSort fun x y => decide (x.1 ≤ y.1)).map dK), .var g 92 (.v (.map (some m))), .map m 32 c es] rfl rfl (by (repeat first | exact List.nil_sublist _ | apply List.Sublist.cons_cons | apply List.Sublist.cons)) ⟨v, rfl, by rw [val_dK, hs]⟩
end E
end Go.Proofs.Ytmlajcbabimkjaa
/-
  trie.List, trie.Nodes.
  Conditions: none.
-/
namespace Go.Proofs.Ytmlajcbabimkjaa
set_option linter.unusedVariables false
open Go.RowKit Mono Rlp
namespace E
theorem f_sClone (l : List UInt8) (hl : l.length ≤ 140737488355328) : Fn 71 [.bs l] (· = .val (.bs l)) := ⟨fun ok w xs hok hr => by
  obtain ⟨v, rfl, h⟩ := one_arg hr
  refine (clone_bytes v l w (isB_of hok h) hl).mono ?_
  rintro e w' ⟨v', rfl, hg, ho⟩
  exact ⟨hg, _, _, rfl, rfl, own_read ho⟩⟩
theorem enters_tcW : ∀ args w, (callFunc 70 args).run Try.prog w = .ok (.enter 70 args) w := enters_of Try.func70 (by kernel_rfl) rfl
def dNd (x : List UInt8 × List UInt8) : D := .tup [.arr 32 x.1, .bs x.2]
set_option maxRecDepth 20000 in
set_option maxHeartbeats 8000000 in
theorem f_List (m c : Nat) (es : List Ent) (bf : List UInt8 → List UInt8) (hb : ∀ k ∈ es.map (·.2.1), getE es k = some (.bs (bf k))) (hbl : ∀ k, (bf k).length ≤ 140737488355328) (hl : es.length ≤ 1000000000) :
    FnM 38 [.v (.map (some m))] [.map m 32 c es] (fun r os' => r = .val (.sl 33 ((sortL (es.map (·.2.1))).map fun k => dNd (k, bf k))) ∧ os' = [.map m 32 c es]) := by
  have h1 := keys_word m
  have h2 := fun gk => sorted_word 70 cmp_word enters_tcW gk m c es (by omega)
  have hKm : ∀ k ∈ sortL (es.map (·.2.1)), getE es k = some (.bs (bf k)) := fun k hk => hb k ((sortL_perm _).mem_iff.1 hk)
  have hKl : (sortL (es.map (·.2.1))).length ≤ 1000000000 := by rw [(sortL_perm _).length_eq, List.length_map]; exact hl
  generalize sortL (es.map (·.2.1)) = K at h2 hKm hKl ⊢
  have hml : (K.map (D.arr 32)).length = K.length := List.length_map _
  refine FnM.walk 25 Try.func38 rfl Try.ntmps38 (by simp) fun X => ?_
  repeat
    (first
     | (apply P_callM (os := []) h1; (iterate 2 exact rfl); exact RefineL.refl _ _; (focus (intro _ _; simp [go_sem]; done)); (iterate 2 exact rfl); rintro _ _ ⟨gk, rfl, rfl⟩; simp only [List.cons_append, List.nil_append])
     | (apply P_move; (iterate 3 exact rfl)) | (apply P_assign; (iterate 3 exact rfl)) | apply EL.nil | ((with_reducible apply EK.then_normal); apply EK.code)
     | (with_reducible first | apply EC.seq | apply EC.region | apply EC.skip | apply EC.label | apply EC.block | apply EC.exit | apply EC.ret | apply EK.in_normal | apply EK.in_same | apply EK.in_ret | apply EK.then_ret | apply EK.then_exit))
  refine P_callM (os := [.var gk 92 (.v (.map (some m))), .map m 32 c es]) (h2 gk) rfl rfl (RefineL.refl _ _) (by intro _ _; simp [go_sem]) rfl rfl ?_
  rintro _ _ ⟨v, rfl, rfl⟩
  simp only [List.cons_append, List.nil_append]
  refine EL.le (Le.freeze (pre := []) rfl) ?_
  refine EL.le (Le.refine (t := 8) (d' := .sl 32 (K.map (D.arr 32))) rfl (Rf.fact List.mem_cons_self rfl)) ?_
  simp only [List.nil_append]
  repeat
    (first
     | (apply P_move; (iterate 3 exact rfl)) | (apply P_lensl; (iterate 4 exact rfl)) | apply EL.nil | ((with_reducible apply EK.then_normal); apply EK.code)
     | (with_reducible first | apply EC.seq | apply EC.region | apply EC.skip | apply EC.label | apply EC.block | apply EC.exit | apply EC.ret | apply EK.in_normal | apply EK.in_same | apply EK.in_ret | apply EK.then_ret | apply EK.then_exit))
  refine EC.le (Le.row 141 33) ?_
  refine EC.loop (ι := {x : Nat × Value // x.1 ≤ K.length})
    (fun x => ⟨[(10, .val (.v (.int .i64 (x.1.1 : Int)))), (9, .val (.v (.int .i64 ((K.map (D.arr 32)).length : Int)))), (8, .val (.sl 32 (K.map (D.arr 32)))), (3, .val (.v x.1.2)), (0, .val (.v (.map (some m))))], [.row x.1.2 141 33 ((K.take x.1.1).map fun k => dNd (k, bf k)), .map m 32 c es], []⟩)
    (fun x => K.length - x.1.1) ⟨(0, .slice none 0 0), Nat.zero_le _⟩ ?_ ?_
  · exact (Le.keep (by repeat first | exact trivial | refine ⟨rfl, ?_⟩) (by repeat first | exact List.nil_sublist _ | apply List.Sublist.cons_cons | apply List.Sublist.cons) (by simp))
  rintro ⟨⟨i, rv⟩, hi⟩
  dsimp only at hi ⊢
  by_cases hlt : i < K.length
  · have hd : (K.map (D.arr 32))[i]? = some (D.arr 32 K[i]) := by rw [List.getElem?_map, List.getElem?_eq_getElem hlt]; rfl
    have hget : (getE es K[i]).getD (.v (.slice none 0 0)) = .bs (bf K[i]) := by rw [hKm _ (List.getElem_mem hlt)]; rfl
    have hcl := f_sClone (bf K[i]) (hbl _)
    have hl3 : ((K.take i).map fun k => dNd (k, bf k)).length = i := by rw [List.length_map, List.length_take]; omega
    have htk : (K.take (i + 1)).map (fun k => dNd (k, bf k)) = (K.take i).map (fun k => dNd (k, bf k)) ++ [dNd (K[i], bf K[i])] := by rw [List.take_succ_eq_append_getElem hlt, List.map_append]; rfl
    unfold dNd at htk
    dsimp only at htk
    repeat
      (first
       | (apply P_loadpd; (iterate 5 exact rfl)) | (apply P_cmp (b := true); (iterate 2 exact rfl); (focus (first | (simp [cmpI]; done) | (simp [cmpI]; omega))); (iterate 2 exact rfl))
       | (apply P_index; (iterate 4 exact rfl); (focus (first | exact ⟨by decide, rfl⟩ | (refine ⟨by omega, ?_⟩; rw [Int.toNat_natCast]; assumption))); (iterate 2 exact rfl))
       | (apply P_alloc; exact rfl; exact rfl; exact rfl; intro _) | (apply P_store; exact rfl; (focus (repeat first | exact .z | apply SetAt.s | apply SetAtF.s)); (iterate 4 exact rfl)) | apply EL.nil
       | ((with_reducible apply EK.then_normal); apply EK.code) | (apply EC.cond_true; exact rfl)
       | (with_reducible first | apply EC.seq | apply EC.region | apply EC.skip | apply EC.label | apply EC.block | apply EC.exit | apply EC.ret | apply EK.in_normal | apply EK.in_same | apply EK.in_ret | apply EK.then_ret | apply EK.then_exit))
    refine EC.le (Le.pick [1, 0, 2] [_, _, _] rfl (by decide) rfl) ?_
    refine EC.drawC 9 [0, 1, 2, 3, 4, 5, 6] [7, 8] [_] _ (by kernel_rfl) (by kernel_rfl) rfl ?_
    simp only [pickL, List.filterMap_cons, List.filterMap_nil, List.getElem?_cons_zero, List.getElem?_cons_succ]
    repeat
      (first
       | (apply H_lookup; exact hget; exact rfl; (first | exact I0 | exact I1 | exact I2 | exact I3); (iterate 5 exact rfl))
       | (apply H_call (hcl); exact rfl; (focus (repeat first | exact RefineL.refl _ _ | exact RL.nil | exact Rf.same | exact Rf.bs0 | exact Rf.sl0 | (apply Rf.fact; (focus (simp; done)); exact rfl) | apply Rf.tup | apply RL.cons)); (focus (intro _ _; simp [go_sem]; done)); (iterate 2 exact rfl))
       | (apply H_move; (iterate 3 exact rfl)) | (apply H_load; exact rfl; (first | exact I0 | exact I1 | exact I2 | exact I3 | exact I4 | exact I5 | exact I6); (iterate 4 exact rfl))
       | (apply H_build; (iterate 7 exact rfl)))
    refine EM.nil ?_
    repeat (first | rw [List.cons_append] | rw [List.nil_append])
    refine CH.cut 1 ?_
    simp only [List.take_succ_cons, List.take_zero, List.drop_succ_cons, List.drop_zero]
    repeat
      (first
       | (apply H_lit; (iterate 9 exact rfl)))
    refine EM.nil ?_
    repeat (first | rw [List.cons_append] | rw [List.nil_append])
    refine CH.mut (os := [_]) (rest := []) rfl rfl (m_append rfl rfl rfl rfl rfl ?_) ?_
    · rw [hl3]
      constructor <;> (simp; omega)
    rintro _ _ ⟨sv', rfl, rfl⟩
    try simp only [St.put]
    repeat (first | rw [List.cons_append] | rw [List.nil_append])
    refine CH.nil ?_
    try simp only [List.drop_succ_cons, List.drop_zero]
    repeat
      (first
       | (apply P_move; (iterate 3 exact rfl)) | (apply P_assign; (iterate 3 exact rfl)) | (apply P_ar; (iterate 3 exact rfl); (focus omega); (focus omega); (iterate 2 exact rfl)) | apply EL.nil
       | ((with_reducible apply EK.then_normal); apply EK.code)
       | (with_reducible first | apply EC.seq | apply EC.region | apply EC.skip | apply EC.label | apply EC.block | apply EC.exit | apply EC.ret | apply EK.in_normal | apply EK.in_same | apply EK.in_ret | apply EK.then_ret | apply EK.then_exit))
    refine EK.again ⟨(i + 1, sv'), hlt⟩ (by dsimp only; omega) ?_
    dsimp only
    unfold dNd
    rw [htk]
    simp only [Int.natCast_add]
    exact (Le.keep (by repeat first | exact trivial | refine ⟨rfl, ?_⟩) (by repeat first | exact List.nil_sublist _ | apply List.Sublist.cons_cons | apply List.Sublist.cons) (by simp))
  · obtain rfl : i = K.length := by omega
    rw [List.take_length]
    refine EC.le (Le.freeze (pre := []) rfl) ?_
    simp only [List.nil_append]
    repeat
      (first
       | (apply P_move; (iterate 3 exact rfl)) | (apply P_assign; (iterate 3 exact rfl))
       | (apply P_cmp (b := false); (iterate 2 exact rfl); (focus (first | (simp [cmpI]; done) | (simp [cmpI]; omega))); (iterate 2 exact rfl)) | apply EL.nil
       | ((with_reducible apply EK.then_normal); apply EK.code) | (apply EC.cond_false; exact rfl)
       | (with_reducible first | apply EC.seq | apply EC.region | apply EC.skip | apply EC.label | apply EC.block | apply EC.exit | apply EC.ret | apply EK.in_normal | apply EK.in_same | apply EK.in_ret | apply EK.then_ret | apply EK.then_exit))
    exact EK.retM1k [.map m 32 c es] rfl rfl (RL.cons (Rf.fact List.mem_cons_self rfl) RL.nil) (by (repeat first | exact List.nil_sublist _ | apply List.Sublist.cons_cons | apply List.Sublist.cons)) ⟨rfl, rfl⟩
end E
end Go.Proofs.Ytmlajcbabimkjaa
