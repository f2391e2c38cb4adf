/-
  Merged (wip/tools/merge.py): SK3, SK4, SortL, SK5.
  Conditions: none.
-/
import Derived.Test.YtdhicdnmgmkpkaaGreatZN21
import Derived.Test.YtdhicdnmgmkpkaaGreatZN15
import Derived.Shelf.RegionOpenPlain
import Derived.Shelf.SlSortCmp.WholeK
import Derived.Shelf.SlGeneric
import Derived.Ground.SlsfProg
import Derived.Test.YtdhicdnmgmkpkaaGreatRows
import Derived.Shelf.SlSortCmp.NoneTotal
/-
  slices.AppendSeq, slices.Collect at arrays of bytes, against whatever iterator value.
  Conditions: none.
-/
namespace Go.Proofs.YtdhicdnmgmkpkaaGreat
set_option linter.unusedVariables false
open Go.RowKit Mono Rlp
namespace E
theorem rows_in {l n : Nat} {P : Program} {row : String} {args : Array Value} {w : World} {R : Value → World → Prop} (h : Rows P row args w R) : RowsIn (Fence.wide.inRound l) n P row args w R := fun c cs _ => by
  obtain ⟨v, w', h1, h2⟩ := h c cs
  exact ⟨v, w', h1, stepsIn_wide.2 h2⟩
theorem op_in {l n : Nat} {P : Program} {o : Oper} {a : Act} {w : World} {K K' : Act → World → Prop} {Q : Exit → Act → World → Prop} (hQ : ¬ LetsOut Q) (hd : ∀ c, o.op ≠ .defer c) (hK : ∀ a w, K a w → K' a w) (h : o.wp P a w K Q ∨ (o.asks P a w ∧ LetsOut Q)) : o.wpIn (Fence.wide.inRound l) n P a w K' Q := by
  rcases h with h | ⟨_, h⟩
  · refine ⟨fun _ _ => trivial, ?_⟩
    rw [Oper.semAt_plain _ _ _ hd]
    unfold Oper.wp at h
    cases hr : (execOp a.eval o).run P w with
    | ok x w' =>
      rw [hr] at h
      cases x with
      | value v => exact hK _ _ h
      | skip => exact hK _ _ h
      | defer d => exact hK _ _ h
      | enter f args =>
        refine ⟨fun h => by simp [Fence.wide] at h, CallsIn.inRound l (callsIn_wide.2 (Calls.mono h ?_))⟩
        intro e w'' he
        cases e with
        | returned v => exact hK _ _ he
        | panicked c => exact he
        | outgrown => exact he
      | row row args => exact ⟨fun h => by simp [Fence.wide] at h, rows_in (fun c cs => by obtain ⟨v, w', h1, h2⟩ := h c cs; exact ⟨v, w', hK _ _ h1, h2⟩)⟩
      | _ => exact h.elim
    | halt x w' =>
      rw [hr] at h
      cases x <;> first | exact h | exact h.elim
  · exact absurd h hQ
theorem list_in {l n : Nat} {P : Program} {ops : Array Oper} {Q : Exit → Act → World → Prop} (hQ : ¬ LetsOut Q) : ∀ (rest : List Oper), (∀ o ∈ rest, ∀ c, o.op ≠ .defer c) → ∀ a w, wpList P ops Q rest a w → wpListIn (Fence.wide.inRound l) n P ops Q rest a w
  | [], _, a, w, h => h
  | o :: rest, hd, a, w, h => by
    rw [wpList] at h
    rw [wpListIn]
    have ih := list_in (l := l) (n := n) (P := P) (ops := ops) hQ rest fun o ho => hd o (List.mem_cons_of_mem _ ho)
    split
    · rename_i hw
      rw [if_pos hw] at h
      exact op_in hQ (hd o (by simp)) ih h
    · rename_i hw
      rw [if_neg hw] at h
      exact ⟨fun _ _ => trivial, ih _ _ h⟩
def kc {n : Nat} (k : Ky n) : List Value := bvs k.1
def dK {n : Nat} (k : Ky n) : D := .arr n k.1
theorem rows_keys {ok : Nat → Prop} {w : World} {n : Nat} : ∀ (ks : List (Ky n)), ReadsRows ok w n (ks.map dK) (ks.map kc)
  | [] => by rw [List.map_nil, ReadsRows]; rfl
  | k :: ks => by
    rw [List.map_cons, ReadsRows]
    exact ⟨kc k, _, rfl, by unfold kc; rw [bvs_length, k.2], by unfold dK; rw [Reads]; exact ⟨k.2, rfl⟩, rows_keys ks⟩
theorem keys_rows {ok : Nat → Prop} {w : World} {n : Nat} : ∀ (ks : List (Ky n)) (rows : List (List Value)), ReadsRows ok w n (ks.map dK) rows → rows = ks.map kc
  | [], rows, h => by rw [List.map_nil, ReadsRows] at h; exact h
  | k :: ks, rows, h => by
    rw [List.map_cons, ReadsRows] at h
    obtain ⟨r, rest, rfl, _, h2, h3⟩ := h
    unfold dK at h2
    rw [Reads] at h2
    rw [keys_rows ks rest h3, h2.2]
    rfl
theorem owns_up {w : World} {e : TypeId} {z : Nat} {v : Value} {k : Nat} {xs : List Value} {base : Nat} (h : w.ownsRow 0 e z v k xs) (hb : ∀ b, v.ownBlock = some b → base ≤ b) : w.ownsRow base e z v k xs := by
  refine ⟨h.1, h.2.imp id fun ⟨g, cap, cur, h1, h2, h3⟩ => ⟨g, cap, cur, h1, hb g (by rw [h1]; rfl), h3⟩⟩
theorem owns_low {w : World} {e : TypeId} {z : Nat} {v : Value} {k : Nat} {xs : List Value} {base : Nat} (h : w.ownsRow base e z v k xs) : w.ownsRow 0 e z v k xs :=
  ⟨h.1, h.2.imp id fun ⟨g, cap, cur, h1, _, h3⟩ => ⟨g, cap, cur, h1, Nat.zero_le _, h3⟩⟩
theorem owns_one {w : World} {e : TypeId} {z : Nat} {v : Value} {k : Nat} {xs : List Value} {base : Nat} (h : w.ownsRow base e z v k xs) : v.oneCell' = true := by
  rcases h.2 with ⟨rfl, _⟩ | ⟨g, cap, cur, rfl, _⟩ <;> rfl
set_option maxRecDepth 100000 in
set_option maxHeartbeats 4000000 in
theorem appendSeq_addr (n : Nat) (hn : 2 ≤ n) (gf : Nat) (lb : Array Value) (eg : ∀ args w, (callFunc gf args).run Tryz.prog w = .ok (.enter gf args) w) (S Sp : List (Ky 20) → Prop) (N : Nat) (hN : N * 20 ≤ 140737488355328) (w : World)
    (hseq : SeqStopsK Fence.wide (n - 1) Tryz.prog gf lb (fun x : Ky 20 => #[kv x]) KeepsWalks S Sp N w) :
    CallsIn Fence.wide n Tryz.prog 153 #[.slice none 0 0, .func (.func gf) #[] lb] w fun e W' => ∃ v ss, e = .returned v ∧ S ss ∧ W'.ownsRow w.heap.size 32 20 v ss.length (ss.map kc).flatten ∧ (v = .slice none 0 0 ↔ ss = []) ∧ Below w.heap.size w W' := by
  refine callsIn_of_wp_marks Tryz.func153 rfl trivial ?_ rfl
  simp only [Tryz.ntmps153, List.size_toArray, List.length_cons, List.length_nil, Nat.reduceAdd, Nat.reduceSub, Array.replicate_succ, Array.replicate_zero, List.push_toArray, List.append_toArray, List.nil_append, List.cons_append]
  gi_wp2
  have bO := Boxed.new w 129 (.slice none 0 0)
  have hB0 : Below w.heap.size w (w.alloc (.cells #[.slice none 0 0] 129)) := (Below.refl _ w).alloc (Nat.le_refl _) _
  refine wpIn_rangeFunc_ownH rfl (by omega) (gf := gf) (lb := lb) rfl trivial eg hseq walksK_t walksK_b hB0 (fun _ => rfl)
    (fun pre W => (∃ v, Boxed W w.heap.size 129 v ∧ W.ownsRow w.heap.size 32 20 v pre.length (pre.map kc).flatten ∧ (v = .slice none 0 0 ↔ pre = [])) ∧ Below w.heap.size w W)
    (fun _ _ _ => False)
    (OwnFrom.and (Own.from (holdsRow_own w.heap.size w.heap.size 129 32 20 (fun pre : List (Ky 20) => pre.length) (fun pre => (pre.map kc).flatten) (fun pre v => v = .slice none 0 0 ↔ pre = [])) _) (ownFrom_below (Nat.le_refl _) (by simp)))
    (fun _ _ _ _ _ hs _ _ => hs)
    ⟨⟨_, bO, World.ownsRow_nil _ _ _ _, by simp⟩, hB0⟩
    (fun x a' W => ∃ Bx v, w.heap.size < Bx ∧ Boxed W w.heap.size 129 v ∧ v.ownBlock ≠ some Bx ∧ W.heap[Bx]? = some (.cells (bvs x.1).toArray 32 (0, 0)) ∧ a'.tmps.size = 13 ∧ a'.defers = [] ∧ a'.tmps.getD 2 undef = .pointer (some ⟨w.heap.size, 0, none⟩) ∧ a'.tmps.getD 5 undef = .pointer (some ⟨Bx, 0, none⟩))
    ?hAx ?assign ?body ?done ?stop
  case hAx =>
    rintro x a' s X Y row ⟨Bx, v, h1, h2, h3, h4, h5⟩ hg hr
    refine ⟨Bx, v, h1, h2.kept hg fun e => ?_, h3, (hg.block Bx (Array.getElem?_eq_some_iff.1 h4).1 fun e => ?_).trans h4, h5⟩
    · obtain ⟨_, o, ho, hc⟩ := hr _ e.symm
      rw [show X.heap[w.heap.size]? = _ from h2] at ho
      cases ho
      cases hc
    · obtain ⟨_, o, ho, hc⟩ := hr _ e.symm
      rw [h4] at ho
      cases ho
      cases hc
  case assign =>
    rintro l pre x W K ⟨⟨v, hv, hrow, hnil⟩, hB⟩ hK
    have e : ((#[7] : Array Tmp).zip #[kv x]).foldl (fun t (p, v) => t.setIfInBounds p v) #[.slice none 0 0, .func (.func gf) #[] lb, .pointer (some ⟨w.heap.size, 0, none⟩), undef, .slice none 0 0, undef, .func (.func gf) #[] lb, undef, undef, undef, undef, undef, undef] = #[.slice none 0 0, .func (.func gf) #[] lb, .pointer (some ⟨w.heap.size, 0, none⟩), undef, .slice none 0 0, undef, .func (.func gf) #[] lb, kv x, undef, undef, undef, undef, undef] := by simp
    rw [e]
    refine wpIn_region_lit (list_in (fun ⟨_, _, h⟩ => h) _ (by simp) _ _ ?_)
    have hat : At (⟨W, fun _ => False, fun _ => False, fun _ h => h.elim⟩ : Cx 13) ⟨[(7, .val (.arr 20 x.1)), (2, .val (.v (.pointer (some ⟨w.heap.size, 0, none⟩))))], [], []⟩ { tmps := #[.slice none 0 0, .func (.func gf) #[] lb, .pointer (some ⟨w.heap.size, 0, none⟩), undef, .slice none 0 0, undef, .func (.func gf) #[] lb, kv x, undef, undef, undef, undef, undef], defers := [] } W := by
      refine ⟨⟨.refl _, .nil, fun o ho => by simp at ho, fun f hf => by simp at hf⟩, fun t r h => ?_, rfl, rfl⟩
      simp only [look] at h
      split at h
      · rename_i e
        subst e
        cases h
        exact ⟨bvs x.1, by rw [Reads]; exact ⟨x.2, rfl⟩, rfl⟩
      · split at h
        · rename_i e
          subst e
          cases h
          exact readV_v.2 ⟨rfl, rfl⟩
        · cases h
    refine EL.go (Q := Exit.then K (fun _ _ _ => False)) (S := ⟨[(7, .val (.arr 20 x.1)), (2, .val (.v (.pointer (some ⟨w.heap.size, 0, none⟩))))], [], []⟩) ?_ _ _ hat
    repeat
      (first
       | (apply P_alloc; exact rfl; exact rfl; exact rfl; intro _) | (apply P_store; exact rfl; (focus (repeat first | exact .z | apply SetAt.s | apply SetAtF.s)); (iterate 4 exact rfl)) | apply EL.nil)
    refine ⟨fun a1 w1 h1 => ?_⟩
    rename_i Bx
    obtain ⟨⟨hgr, _, hat1, _⟩, hregs, hsz, hdf⟩ := h1
    obtain ⟨hbx, cs, hheap, hrd⟩ := hat1 _ (List.mem_cons_self ..)
    rw [Reads] at hrd
    rw [hrd.2] at hheap
    have hbx' : W.heap.size ≤ Bx := hbx.resolve_left id
    have hg : W.grownBy w1 none := ⟨hgr.os, hgr.tape, hgr.output, hgr.size, fun i hi _ => hgr.block i hi id⟩
    have hvl := hv.lt
    exact hK a1 w1 ((KeepsOthers.of_grownBy hg fun j o e _ => by cases e).from _) (KeepsWalks.of_grownBy hg fun j o e => by cases e) ⟨⟨v, hv.kept hg (by simp), hrow.kept hg (by cases v.ownBlock with | none => exact .inl rfl | some k => exact .inr (by simp)), hnil⟩, hB.grown hg hB.size fun k e => by cases e⟩
      ⟨Bx, v, by omega, hv.kept hg (by simp), fun e => by have := (hrow.lt _ e).2; omega, hheap, hsz, hdf, (readV_v.1 (hregs 2 _ rfl)).2, (readV_v.1 (hregs 5 _ rfl)).2⟩
  case body =>
    rintro l pre x a' W hl hrec ⟨⟨v, hv, hrow, hnil⟩, hB⟩ ⟨Bx, v2, h1, hv2, hne, hbx, hsz, hdf, ht2, ht5⟩ hlen
    obtain rfl : v2 = v := by
      have := (show W.heap[w.heap.size]? = _ from hv2).symm.trans hv
      simpa using this
    have hnr := hv.not_row (by decide) hrow
    have hlow : ∀ b, (b = w.heap.size ∨ b = Bx ∨ v2.ownBlock = some b) → w.heap.size ≤ b := fun b hb => by
      rcases hb with rfl | rfl | hb
      · exact Nat.le_refl _
      · omega
      · exact (hrow.lt _ hb).1
    have hcell : ∀ b o, (b = w.heap.size ∨ b = Bx ∨ v2.ownBlock = some b) → W.heap[b]? = some o → o.isCells = true ∧ o.isWalk = false := fun b o hb ho => by
      rcases hb with rfl | rfl | hb
      · rw [show W.heap[w.heap.size]? = _ from hv] at ho
        cases ho
        exact ⟨rfl, rfl⟩
      · rw [hbx] at ho
        cases ho
        exact ⟨rfl, rfl⟩
      · rcases hrow.2 with ⟨rfl, _⟩ | ⟨g, cap, cur, rfl, _, hgb, _⟩
        · cases hb
        · obtain rfl : g = b := by simpa [Value.ownBlock] using hb
          rw [hgb] at ho
          cases ho
          exact ⟨rfl, rfl⟩
    refine wpIn_block (wpIn_region_lit (list_in (fun ⟨_, _, h⟩ => h) _ (by simp) _ _ ?_))
    have hat : At (⟨W, fun _ => False, fun b => b = w.heap.size ∨ b = Bx ∨ v2.ownBlock = some b, fun _ h => h.elim⟩ : Cx 13) ⟨[(5, .val (.v (.pointer (some ⟨Bx, 0, none⟩)))), (2, .val (.v (.pointer (some ⟨w.heap.size, 0, none⟩))))], [.var w.heap.size 129 (.v v2), .row v2 32 20 (pre.map dK), .var Bx 32 (.arr 20 x.1)], []⟩ a' W := by
      refine ⟨⟨.refl _, ?_, fun o ho => ?_, fun f hf => by simp at hf⟩, fun t r h => ?_, hsz, hdf⟩
      · refine .cons (fun p hp b hb => ?_) (.cons (fun p hp b hb => ?_) (.cons (fun p hp => by simp at hp) .nil))
        · obtain rfl : w.heap.size = b := by simpa [Obj.blk] using hb
          rcases List.mem_cons.1 hp with rfl | hp
          · exact fun e => hnr e.symm
          · obtain rfl : p = _ := by simpa using hp
            simp only [Obj.blk, ne_eq, Option.some.injEq]
            omega
        · obtain rfl : p = _ := by simpa using hp
          simp only [Obj.blk] at hb ⊢
          exact fun e => hne (hb.trans e.symm)
      · rcases List.mem_cons.1 ho with rfl | ho
        · exact ⟨.inl (.inl rfl), [v2], hv, by rw [Reads]; exact ⟨owns_one hrow, rfl⟩⟩
        · rcases List.mem_cons.1 ho with rfl | ho
          · refine ⟨pre.map kc, ⟨?_, fun b hb => .inl (.inr (.inr hb))⟩, rows_keys pre⟩
            rw [List.length_map]
            exact owns_low hrow
          · obtain rfl : o = _ := by simpa using ho
            exact ⟨.inl (.inr (.inl rfl)), bvs x.1, hbx, by rw [Reads]; exact ⟨x.2, rfl⟩⟩
      · simp only [look] at h
        split at h
        · rename_i e
          subst e
          cases h
          exact readV_v.2 ⟨rfl, ht5⟩
        · split at h
          · rename_i e
            subst e
            cases h
            exact readV_v.2 ⟨rfl, ht2⟩
          · cases h
    refine EL.go (S := ⟨[(5, .val (.v (.pointer (some ⟨Bx, 0, none⟩)))), (2, .val (.v (.pointer (some ⟨w.heap.size, 0, none⟩))))], [.var w.heap.size 129 (.v v2), .row v2 32 20 (pre.map dK), .var Bx 32 (.arr 20 x.1)], []⟩) ?_ _ _ hat
    have hml : (pre.map dK).length = pre.length := List.length_map _
    have hl1 : ([D.arr 20 x.1] : List D).length = 1 := rfl
    repeat
      (first
       | (apply P_load; exact rfl; (first | exact I0 | exact I1 | exact I2 | exact I3 | exact I4 | exact I5 | exact I6); (iterate 4 exact rfl)) | (apply P_lit; (iterate 9 exact rfl))
       | (apply P_store; exact rfl; (focus (repeat first | exact .z | apply SetAt.s | apply SetAtF.s)); (iterate 4 exact rfl))
       | ((apply P_append; exact rfl; (focus (repeat first | exact .z | apply SetAt.s | apply SetAtF.s)); (iterate 5 exact rfl); (focus (constructor <;> (first | (simp; done) | (simp; omega))))); intro _)
       | apply EL.nil
       | (with_reducible first | apply EC.seq | apply EC.region | apply EC.skip | apply EC.label | apply EC.block | apply EC.exit | apply EC.ret | apply EK.in_normal | apply EK.in_same | apply EK.in_ret | apply EK.then_ret | apply EK.then_exit))
    refine ⟨fun a1 w1 h1 => ?_⟩
    rename_i v'
    obtain ⟨⟨hgr, _, hat1, _⟩, hregs, hsz', hdf'⟩ := h1
    obtain ⟨_, cs, hbox, hrd⟩ := hat1 _ (List.mem_cons_self ..)
    rw [Reads] at hrd
    rw [hrd.2] at hbox
    obtain ⟨rows, ⟨hrow', hbase⟩, hrows⟩ := hat1 _ (List.mem_cons_of_mem _ (List.mem_cons_self ..))
    have hds : pre.map dK ++ [D.arr 20 x.1] = (pre ++ [x]).map dK := by simp [dK]
    rw [hds] at hrow' hrows
    rw [keys_rows _ _ hrows, List.length_map] at hrow'
    have hown := owns_up (base := w.heap.size) hrow' fun b hb => by
      rcases hbase b hb with h | h
      · exact hlow b h
      · exact Nat.le_trans hB.size h
    have hsame : ∀ k, k < W.heap.size → ¬ (k = w.heap.size ∨ k = Bx ∨ v2.ownBlock = some k) → w1.heap[k]? = W.heap[k]? := hgr.block
    refine ⟨⟨hgr.size, fun k o _ h0 ho => ?_⟩, ⟨hgr.size, fun k o h0 ho => ?_⟩, ⟨⟨v', hbox, hown, ?_⟩, hB.trans ⟨hgr.os, hgr.tape, hgr.output, hgr.size, fun k hk => ?_⟩⟩⟩
    · refine (hsame k (Array.getElem?_eq_some_iff.1 h0).1 fun h => ?_).trans h0
      rw [(hcell k o h h0).1] at ho
      cases ho
    · refine (hsame k (Array.getElem?_eq_some_iff.1 h0).1 fun h => ?_).trans h0
      rw [(hcell k o h h0).2] at ho
      cases ho
    · constructor
      · rintro rfl
        rcases hown.2 with ⟨_, h0⟩ | ⟨g, cap, cur, h0, _⟩
        · simp at h0
        · simp at h0
      · intro h
        simp at h
    · exact hsame k (by have := hB.size; omega) fun h => by have := hlow k h; omega
  case done =>
    rintro D ys W hD hS ⟨⟨v, hv, hrow, hnil⟩, hB⟩ hK
    have hc := hv.cell
    gi_wp2
    refine ⟨by simp, .inl ⟨_, _, rfl, run_takeDeferred hK, ?_⟩⟩
    exact ⟨_, results_tmp rfl _ _ _, v, ys, rfl, hS, ownsRow_putObj hrow _ hK rfl, hnil, hB.trans (belowK_b (w := w) (Nat.le_refl _) W D _ _ (by simp at hD; omega) hK rfl rfl)⟩
  case stop =>
    rintro D c pre W _ _ h _
    exact h.elim
set_option maxRecDepth 100000 in
set_option maxHeartbeats 4000000 in
theorem appendSeq_word (n : Nat) (hn : 2 ≤ n) (gf : Nat) (lb : Array Value) (eg : ∀ args w, (callFunc gf args).run Tryz.prog w = .ok (.enter gf args) w) (S Sp : List (Ky 32) → Prop) (N : Nat) (hN : N * 32 ≤ 140737488355328) (w : World)
    (hseq : SeqStopsK Fence.wide (n - 1) Tryz.prog gf lb (fun x : Ky 32 => #[kv x]) KeepsWalks S Sp N w) :
    CallsIn Fence.wide n Tryz.prog 154 #[.slice none 0 0, .func (.func gf) #[] lb] w fun e W' => ∃ v ss, e = .returned v ∧ S ss ∧ W'.ownsRow w.heap.size 34 32 v ss.length (ss.map kc).flatten ∧ (v = .slice none 0 0 ↔ ss = []) ∧ Below w.heap.size w W' := by
  refine callsIn_of_wp_marks Tryz.func154 rfl trivial ?_ rfl
  simp only [Tryz.ntmps154, List.size_toArray, List.length_cons, List.length_nil, Nat.reduceAdd, Nat.reduceSub, Array.replicate_succ, Array.replicate_zero, List.push_toArray, List.append_toArray, List.nil_append, List.cons_append]
  gi_wp2
  have bO := Boxed.new w 62 (.slice none 0 0)
  have hB0 : Below w.heap.size w (w.alloc (.cells #[.slice none 0 0] 62)) := (Below.refl _ w).alloc (Nat.le_refl _) _
  refine wpIn_rangeFunc_ownH rfl (by omega) (gf := gf) (lb := lb) rfl trivial eg hseq walksK_t walksK_b hB0 (fun _ => rfl)
    (fun pre W => (∃ v, Boxed W w.heap.size 62 v ∧ W.ownsRow w.heap.size 34 32 v pre.length (pre.map kc).flatten ∧ (v = .slice none 0 0 ↔ pre = [])) ∧ Below w.heap.size w W)
    (fun _ _ _ => False)
    (OwnFrom.and (Own.from (holdsRow_own w.heap.size w.heap.size 62 34 32 (fun pre : List (Ky 32) => pre.length) (fun pre => (pre.map kc).flatten) (fun pre v => v = .slice none 0 0 ↔ pre = [])) _) (ownFrom_below (Nat.le_refl _) (by simp)))
    (fun _ _ _ _ _ hs _ _ => hs)
    ⟨⟨_, bO, World.ownsRow_nil _ _ _ _, by simp⟩, hB0⟩
    (fun x a' W => ∃ Bx v, w.heap.size < Bx ∧ Boxed W w.heap.size 62 v ∧ v.ownBlock ≠ some Bx ∧ W.heap[Bx]? = some (.cells (bvs x.1).toArray 34 (0, 0)) ∧ a'.tmps.size = 13 ∧ a'.defers = [] ∧ a'.tmps.getD 2 undef = .pointer (some ⟨w.heap.size, 0, none⟩) ∧ a'.tmps.getD 5 undef = .pointer (some ⟨Bx, 0, none⟩))
    ?hAx ?assign ?body ?done ?stop
  case hAx =>
    rintro x a' s X Y row ⟨Bx, v, h1, h2, h3, h4, h5⟩ hg hr
    refine ⟨Bx, v, h1, h2.kept hg fun e => ?_, h3, (hg.block Bx (Array.getElem?_eq_some_iff.1 h4).1 fun e => ?_).trans h4, h5⟩
    · obtain ⟨_, o, ho, hc⟩ := hr _ e.symm
      rw [show X.heap[w.heap.size]? = _ from h2] at ho
      cases ho
      cases hc
    · obtain ⟨_, o, ho, hc⟩ := hr _ e.symm
      rw [h4] at ho
      cases ho
      cases hc
  case assign =>
    rintro l pre x W K ⟨⟨v, hv, hrow, hnil⟩, hB⟩ hK
    have e : ((#[7] : Array Tmp).zip #[kv x]).foldl (fun t (p, v) => t.setIfInBounds p v) #[.slice none 0 0, .func (.func gf) #[] lb, .pointer (some ⟨w.heap.size, 0, none⟩), undef, .slice none 0 0, undef, .func (.func gf) #[] lb, undef, undef, undef, undef, undef, undef] = #[.slice none 0 0, .func (.func gf) #[] lb, .pointer (some ⟨w.heap.size, 0, none⟩), undef, .slice none 0 0, undef, .func (.func gf) #[] lb, kv x, undef, undef, undef, undef, undef] := by simp
    rw [e]
    refine wpIn_region_lit (list_in (fun ⟨_, _, h⟩ => h) _ (by simp) _ _ ?_)
    have hat : At (⟨W, fun _ => False, fun _ => False, fun _ h => h.elim⟩ : Cx 13) ⟨[(7, .val (.arr 32 x.1)), (2, .val (.v (.pointer (some ⟨w.heap.size, 0, none⟩))))], [], []⟩ { tmps := #[.slice none 0 0, .func (.func gf) #[] lb, .pointer (some ⟨w.heap.size, 0, none⟩), undef, .slice none 0 0, undef, .func (.func gf) #[] lb, kv x, undef, undef, undef, undef, undef], defers := [] } W := by
      refine ⟨⟨.refl _, .nil, fun o ho => by simp at ho, fun f hf => by simp at hf⟩, fun t r h => ?_, rfl, rfl⟩
      simp only [look] at h
      split at h
      · rename_i e
        subst e
        cases h
        exact ⟨bvs x.1, by rw [Reads]; exact ⟨x.2, rfl⟩, rfl⟩
      · split at h
        · rename_i e
          subst e
          cases h
          exact readV_v.2 ⟨rfl, rfl⟩
        · cases h
    refine EL.go (Q := Exit.then K (fun _ _ _ => False)) (S := ⟨[(7, .val (.arr 32 x.1)), (2, .val (.v (.pointer (some ⟨w.heap.size, 0, none⟩))))], [], []⟩) ?_ _ _ hat
    repeat
      (first
       | (apply P_alloc; exact rfl; exact rfl; exact rfl; intro _) | (apply P_store; exact rfl; (focus (repeat first | exact .z | apply SetAt.s | apply SetAtF.s)); (iterate 4 exact rfl)) | apply EL.nil)
    refine ⟨fun a1 w1 h1 => ?_⟩
    rename_i Bx
    obtain ⟨⟨hgr, _, hat1, _⟩, hregs, hsz, hdf⟩ := h1
    obtain ⟨hbx, cs, hheap, hrd⟩ := hat1 _ (List.mem_cons_self ..)
    rw [Reads] at hrd
    rw [hrd.2] at hheap
    have hbx' : W.heap.size ≤ Bx := hbx.resolve_left id
    have hg : W.grownBy w1 none := ⟨hgr.os, hgr.tape, hgr.output, hgr.size, fun i hi _ => hgr.block i hi id⟩
    have hvl := hv.lt
    exact hK a1 w1 ((KeepsOthers.of_grownBy hg fun j o e _ => by cases e).from _) (KeepsWalks.of_grownBy hg fun j o e => by cases e) ⟨⟨v, hv.kept hg (by simp), hrow.kept hg (by cases v.ownBlock with | none => exact .inl rfl | some k => exact .inr (by simp)), hnil⟩, hB.grown hg hB.size fun k e => by cases e⟩
      ⟨Bx, v, by omega, hv.kept hg (by simp), fun e => by have := (hrow.lt _ e).2; omega, hheap, hsz, hdf, (readV_v.1 (hregs 2 _ rfl)).2, (readV_v.1 (hregs 5 _ rfl)).2⟩
  case body =>
    rintro l pre x a' W hl hrec ⟨⟨v, hv, hrow, hnil⟩, hB⟩ ⟨Bx, v2, h1, hv2, hne, hbx, hsz, hdf, ht2, ht5⟩ hlen
    obtain rfl : v2 = v := by
      have := (show W.heap[w.heap.size]? = _ from hv2).symm.trans hv
      simpa using this
    have hnr := hv.not_row (by decide) hrow
    have hlow : ∀ b, (b = w.heap.size ∨ b = Bx ∨ v2.ownBlock = some b) → w.heap.size ≤ b := fun b hb => by
      rcases hb with rfl | rfl | hb
      · exact Nat.le_refl _
      · omega
      · exact (hrow.lt _ hb).1
    have hcell : ∀ b o, (b = w.heap.size ∨ b = Bx ∨ v2.ownBlock = some b) → W.heap[b]? = some o → o.isCells = true ∧ o.isWalk = false := fun b o hb ho => by
      rcases hb with rfl | rfl | hb
      · rw [show W.heap[w.heap.size]? = _ from hv] at ho
        cases ho
        exact ⟨rfl, rfl⟩
      · rw [hbx] at ho
        cases ho
        exact ⟨rfl, rfl⟩
      · rcases hrow.2 with ⟨rfl, _⟩ | ⟨g, cap, cur, rfl, _, hgb, _⟩
        · cases hb
        · obtain rfl : g = b := by simpa [Value.ownBlock] using hb
          rw [hgb] at ho
          cases ho
          exact ⟨rfl, rfl⟩
    refine wpIn_block (wpIn_region_lit (list_in (fun ⟨_, _, h⟩ => h) _ (by simp) _ _ ?_))
    have hat : At (⟨W, fun _ => False, fun b => b = w.heap.size ∨ b = Bx ∨ v2.ownBlock = some b, fun _ h => h.elim⟩ : Cx 13) ⟨[(5, .val (.v (.pointer (some ⟨Bx, 0, none⟩)))), (2, .val (.v (.pointer (some ⟨w.heap.size, 0, none⟩))))], [.var w.heap.size 62 (.v v2), .row v2 34 32 (pre.map dK), .var Bx 34 (.arr 32 x.1)], []⟩ a' W := by
      refine ⟨⟨.refl _, ?_, fun o ho => ?_, fun f hf => by simp at hf⟩, fun t r h => ?_, hsz, hdf⟩
      · refine .cons (fun p hp b hb => ?_) (.cons (fun p hp b hb => ?_) (.cons (fun p hp => by simp at hp) .nil))
        · obtain rfl : w.heap.size = b := by simpa [Obj.blk] using hb
          rcases List.mem_cons.1 hp with rfl | hp
          · exact fun e => hnr e.symm
          · obtain rfl : p = _ := by simpa using hp
            simp only [Obj.blk, ne_eq, Option.some.injEq]
            omega
        · obtain rfl : p = _ := by simpa using hp
          simp only [Obj.blk] at hb ⊢
          exact fun e => hne (hb.trans e.symm)
      · rcases List.mem_cons.1 ho with rfl | ho
        · exact ⟨.inl (.inl rfl), [v2], hv, by rw [Reads]; exact ⟨owns_one hrow, rfl⟩⟩
        · rcases List.mem_cons.1 ho with rfl | ho
          · refine ⟨pre.map kc, ⟨?_, fun b hb => .inl (.inr (.inr hb))⟩, rows_keys pre⟩
            rw [List.length_map]
            exact owns_low hrow
          · obtain rfl : o = _ := by simpa using ho
            exact ⟨.inl (.inr (.inl rfl)), bvs x.1, hbx, by rw [Reads]; exact ⟨x.2, rfl⟩⟩
      · simp only [look] at h
        split at h
        · rename_i e
          subst e
          cases h
          exact readV_v.2 ⟨rfl, ht5⟩
        · split at h
          · rename_i e
            subst e
            cases h
            exact readV_v.2 ⟨rfl, ht2⟩
          · cases h
    refine EL.go (S := ⟨[(5, .val (.v (.pointer (some ⟨Bx, 0, none⟩)))), (2, .val (.v (.pointer (some ⟨w.heap.size, 0, none⟩))))], [.var w.heap.size 62 (.v v2), .row v2 34 32 (pre.map dK), .var Bx 34 (.arr 32 x.1)], []⟩) ?_ _ _ hat
    have hml : (pre.map dK).length = pre.length := List.length_map _
    have hl1 : ([D.arr 32 x.1] : List D).length = 1 := rfl
    repeat
      (first
       | (apply P_load; exact rfl; (first | exact I0 | exact I1 | exact I2 | exact I3 | exact I4 | exact I5 | exact I6); (iterate 4 exact rfl)) | (apply P_lit; (iterate 9 exact rfl))
       | (apply P_store; exact rfl; (focus (repeat first | exact .z | apply SetAt.s | apply SetAtF.s)); (iterate 4 exact rfl))
       | ((apply P_append; exact rfl; (focus (repeat first | exact .z | apply SetAt.s | apply SetAtF.s)); (iterate 5 exact rfl); (focus (constructor <;> (first | (simp; done) | (simp; omega))))); intro _)
       | apply EL.nil
       | (with_reducible first | apply EC.seq | apply EC.region | apply EC.skip | apply EC.label | apply EC.block | apply EC.exit | apply EC.ret | apply EK.in_normal | apply EK.in_same | apply EK.in_ret | apply EK.then_ret | apply EK.then_exit))
    refine ⟨fun a1 w1 h1 => ?_⟩
    rename_i v'
    obtain ⟨⟨hgr, _, hat1, _⟩, hregs, hsz', hdf'⟩ := h1
    obtain ⟨_, cs, hbox, hrd⟩ := hat1 _ (List.mem_cons_self ..)
    rw [Reads] at hrd
    rw [hrd.2] at hbox
    obtain ⟨rows, ⟨hrow', hbase⟩, hrows⟩ := hat1 _ (List.mem_cons_of_mem _ (List.mem_cons_self ..))
    have hds : pre.map dK ++ [D.arr 32 x.1] = (pre ++ [x]).map dK := by simp [dK]
    rw [hds] at hrow' hrows
    rw [keys_rows _ _ hrows, List.length_map] at hrow'
    have hown := owns_up (base := w.heap.size) hrow' fun b hb => by
      rcases hbase b hb with h | h
      · exact hlow b h
      · exact Nat.le_trans hB.size h
    have hsame : ∀ k, k < W.heap.size → ¬ (k = w.heap.size ∨ k = Bx ∨ v2.ownBlock = some k) → w1.heap[k]? = W.heap[k]? := hgr.block
    refine ⟨⟨hgr.size, fun k o _ h0 ho => ?_⟩, ⟨hgr.size, fun k o h0 ho => ?_⟩, ⟨⟨v', hbox, hown, ?_⟩, hB.trans ⟨hgr.os, hgr.tape, hgr.output, hgr.size, fun k hk => ?_⟩⟩⟩
    · refine (hsame k (Array.getElem?_eq_some_iff.1 h0).1 fun h => ?_).trans h0
      rw [(hcell k o h h0).1] at ho
      cases ho
    · refine (hsame k (Array.getElem?_eq_some_iff.1 h0).1 fun h => ?_).trans h0
      rw [(hcell k o h h0).2] at ho
      cases ho
    · constructor
      · rintro rfl
        rcases hown.2 with ⟨_, h0⟩ | ⟨g, cap, cur, h0, _⟩
        · simp at h0
        · simp at h0
      · intro h
        simp at h
    · exact hsame k (by have := hB.size; omega) fun h => by have := hlow k h; omega
  case done =>
    rintro D ys W hD hS ⟨⟨v, hv, hrow, hnil⟩, hB⟩ hK
    have hc := hv.cell
    gi_wp2
    refine ⟨by simp, .inl ⟨_, _, rfl, run_takeDeferred hK, ?_⟩⟩
    exact ⟨_, results_tmp rfl _ _ _, v, ys, rfl, hS, ownsRow_putObj hrow _ hK rfl, hnil, hB.trans (belowK_b (w := w) (Nat.le_refl _) W D _ _ (by simp at hD; omega) hK rfl rfl)⟩
  case stop =>
    rintro D c pre W _ _ h _
    exact h.elim
end E
end Go.Proofs.YtdhicdnmgmkpkaaGreat
/-
  The functions by which keys are sorted: they tell bytes.Compare's order, and make memory alone.
  Conditions: none.
-/
namespace Go.Proofs.YtdhicdnmgmkpkaaGreat
set_option linter.unusedVariables false
open Go.RowKit Mono Rlp Go.Sort
namespace E
theorem isB_box {w : World} {g n : Nat} {t : TypeId} {l : List UInt8} (h : w.heap[g]? = some (.cells (bvs l).toArray t (0, 0))) (hl : l.length = n) (hn : n ≤ 64) : IsB w (.slice (some ⟨g, 0, none⟩) n n) l := by
  subst hl
  refine ⟨some ⟨g, 0, none⟩, l.length, rfl, Nat.le_refl _, by simp [maxLen]; omega, fun _ => ⟨g, 0, rfl, (Array.getElem?_eq_some_iff.1 h).1, fun j u hu => ?_⟩⟩
  rw [cell_of_row w g (0 + j) _ t (0, 0) h]
  simpa using hu
theorem run_box_addr (w : World) (l : List UInt8) : (Instr.box 32 (arrV l)).run Tryz.prog w = .ok (.pointer (some ⟨w.heap.size, 0, none⟩)) (w.alloc (.cells (bvs l).toArray 32)) := by kernel_rfl
theorem wpL_boxE_addr {w : World} {ops : Array Oper} {rest : List Oper} {o : Oper} {a : Act} {Q : Exit → Act → World → Prop} {l : List UInt8} {x : Operand} (hgd : o.guard = none) (ho : o.op = .box 32 x) (hx : a.eval x = arrV l)
    (h : wpList Tryz.prog ops Q rest (a.put o.dst (.pointer (some ⟨w.heap.size, 0, none⟩))) (w.alloc (.cells (bvs l).toArray 32))) : wpList Tryz.prog ops Q (o :: rest) a w := by
  refine wpList_plain hgd fun _ hK => ?_
  have h1 := hK _ _ h
  unfold Oper.wp execOp
  simp only [ho, hx, Sem.run_bind, run_box_addr, Result.andThen_ok, Sem.run_pure]
  exact h1
theorem run_slice_addr (w : World) (g : Nat) : (Instr.sliceAt 32 (.pointer (some ⟨g, 0, none⟩)) none none none).run Tryz.prog w = .ok (.slice (some ⟨g, 0, none⟩) 20 20) w := by kernel_rfl
set_option maxRecDepth 100000 in
set_option maxHeartbeats 1000000 in
theorem cmp_addr (l m : List UInt8) (hl : l.length = 20) (hm : m.length = 20) (w : World) : Calls Tryz.prog 76 #[arrV l, arrV m] w fun e w' => e = .returned (.int .i64 (cmpB l m)) ∧ ∃ q os', w' = grow (w.drewN q) os' := by
  have mixed : Tryz.prog.follows .mixedOrders = true := by kernel_rfl
  go_enter Tryz.func76, Tryz.ntmps76
  go_wp2_with (guard_target = wpList _ _ _ (Oper.mk _ (Op.box _ _) _ _ _ _ :: _) _ _; refine wpL_boxE_addr rfl rfl rfl ?_)
  have h0 : ((w.alloc (.cells (bvs l).toArray 32)).alloc (.cells (bvs m).toArray 32)).heap[w.heap.size]? = some (.cells (bvs l).toArray 32 (0, 0)) := by
    rw [(MapKept.heap_alloc _ _).2 _ (by simp)]
    exact (MapKept.heap_alloc w _).1
  have h1 : ((w.alloc (.cells (bvs l).toArray 32)).alloc (.cells (bvs m).toArray 32)).heap[w.heap.size + 1]? = some (.cells (bvs m).toArray 32 (0, 0)) := by
    have := (MapKept.heap_alloc (w.alloc (.cells (bvs l).toArray 32)) (.cells (bvs m).toArray 32)).1
    simpa using this
  have hw : ∃ q os', (w.alloc (.cells (bvs l).toArray 32)).alloc (.cells (bvs m).toArray 32) = grow (w.drewN q) os' := ⟨0, _, by rw [alloc_eq_grow, alloc_eq_grow, grow_grow]; rfl⟩
  generalize (w.alloc (.cells (bvs l).toArray 32)).alloc (.cells (bvs m).toArray 32) = wq at h0 h1 hw ⊢
  have s0 : ∀ n, (Instr.sliceAt 32 (.pointer (some ⟨w.heap.size, 0, none⟩)) none none none).run Tryz.prog (wq.drewN n) = .ok (.slice (some ⟨w.heap.size, 0, none⟩) 20 20) (wq.drewN n) := fun n => run_slice_addr _ _
  have s1 : ∀ n, (Instr.sliceAt 32 (.pointer (some ⟨w.heap.size + 1, 0, none⟩)) none none none).run Tryz.prog (wq.drewN n) = .ok (.slice (some ⟨w.heap.size + 1, 0, none⟩) 20 20) (wq.drewN n) := fun n => run_slice_addr _ _
  have hc := Lib.hid fun n => bytes_CompareW _ _ l m (wq.drewN n) (isB_box h0 hl (by decide)) (isB_box h1 hm (by decide))
  clear h0 h1
  go_quiet_o ((go_at_call 77; exact (hc.out _).mono fun e w' ⟨he, hw⟩ => ⟨he, _, hw⟩))
  go_wp2_with fail
  obtain ⟨q, os', rfl⟩ := hw
  exact bodyPost_ret (results_tmp rfl _ _ _) rfl ⟨rfl, q + nq, os', by simp [grow, World.drewN, Nat.add_assoc]⟩
theorem run_box_word (w : World) (l : List UInt8) : (Instr.box 34 (arrV l)).run Tryz.prog w = .ok (.pointer (some ⟨w.heap.size, 0, none⟩)) (w.alloc (.cells (bvs l).toArray 34)) := by kernel_rfl
theorem wpL_boxE_word {w : World} {ops : Array Oper} {rest : List Oper} {o : Oper} {a : Act} {Q : Exit → Act → World → Prop} {l : List UInt8} {x : Operand} (hgd : o.guard = none) (ho : o.op = .box 34 x) (hx : a.eval x = arrV l)
    (h : wpList Tryz.prog ops Q rest (a.put o.dst (.pointer (some ⟨w.heap.size, 0, none⟩))) (w.alloc (.cells (bvs l).toArray 34))) : wpList Tryz.prog ops Q (o :: rest) a w := by
  refine wpList_plain hgd fun _ hK => ?_
  have h1 := hK _ _ h
  unfold Oper.wp execOp
  simp only [ho, hx, Sem.run_bind, run_box_word, Result.andThen_ok, Sem.run_pure]
  exact h1
theorem run_slice_word (w : World) (g : Nat) : (Instr.sliceAt 34 (.pointer (some ⟨g, 0, none⟩)) none none none).run Tryz.prog w = .ok (.slice (some ⟨g, 0, none⟩) 32 32) w := by kernel_rfl
set_option maxRecDepth 100000 in
set_option maxHeartbeats 1000000 in
theorem cmp_word (l m : List UInt8) (hl : l.length = 32) (hm : m.length = 32) (w : World) : Calls Tryz.prog 81 #[arrV l, arrV m] w fun e w' => e = .returned (.int .i64 (cmpB l m)) ∧ ∃ q os', w' = grow (w.drewN q) os' := by
  have mixed : Tryz.prog.follows .mixedOrders = true := by kernel_rfl
  go_enter Tryz.func81, Tryz.ntmps81
  go_wp2_with (guard_target = wpList _ _ _ (Oper.mk _ (Op.box _ _) _ _ _ _ :: _) _ _; refine wpL_boxE_word rfl rfl rfl ?_)
  have h0 : ((w.alloc (.cells (bvs l).toArray 34)).alloc (.cells (bvs m).toArray 34)).heap[w.heap.size]? = some (.cells (bvs l).toArray 34 (0, 0)) := by
    rw [(MapKept.heap_alloc _ _).2 _ (by simp)]
    exact (MapKept.heap_alloc w _).1
  have h1 : ((w.alloc (.cells (bvs l).toArray 34)).alloc (.cells (bvs m).toArray 34)).heap[w.heap.size + 1]? = some (.cells (bvs m).toArray 34 (0, 0)) := by
    have := (MapKept.heap_alloc (w.alloc (.cells (bvs l).toArray 34)) (.cells (bvs m).toArray 34)).1
    simpa using this
  have hw : ∃ q os', (w.alloc (.cells (bvs l).toArray 34)).alloc (.cells (bvs m).toArray 34) = grow (w.drewN q) os' := ⟨0, _, by rw [alloc_eq_grow, alloc_eq_grow, grow_grow]; rfl⟩
  generalize (w.alloc (.cells (bvs l).toArray 34)).alloc (.cells (bvs m).toArray 34) = wq at h0 h1 hw ⊢
  have s0 : ∀ n, (Instr.sliceAt 34 (.pointer (some ⟨w.heap.size, 0, none⟩)) none none none).run Tryz.prog (wq.drewN n) = .ok (.slice (some ⟨w.heap.size, 0, none⟩) 32 32) (wq.drewN n) := fun n => run_slice_word _ _
  have s1 : ∀ n, (Instr.sliceAt 34 (.pointer (some ⟨w.heap.size + 1, 0, none⟩)) none none none).run Tryz.prog (wq.drewN n) = .ok (.slice (some ⟨w.heap.size + 1, 0, none⟩) 32 32) (wq.drewN n) := fun n => run_slice_word _ _
  have hc := Lib.hid fun n => bytes_CompareW _ _ l m (wq.drewN n) (isB_box h0 hl (by decide)) (isB_box h1 hm (by decide))
  clear h0 h1
  go_quiet_o ((go_at_call 77; exact (hc.out _).mono fun e w' ⟨he, hw⟩ => ⟨he, _, hw⟩))
  go_wp2_with fail
  obtain ⟨q, os', rfl⟩ := hw
  exact bodyPost_ret (results_tmp rfl _ _ _) rfl ⟨rfl, q + nq, os', by simp [grow, World.drewN, Nat.add_assoc]⟩
theorem swo (n : Nat) : SWO (Go.Proofs.ltOf fun x y : Ky n => cmpB x.1 y.1) := by
  have h : ∀ x y : Ky n, Go.Proofs.ltOf (fun x y : Ky n => cmpB x.1 y.1) x y = decide (x.1 < y.1) := fun x y => cmpB_lt x.1 y.1
  refine ⟨fun x => ?_, fun x y z h1 h2 => ?_, fun x y z h1 h2 => ?_⟩
  · rw [h]
    simp [List.lt_irrefl]
  · rw [h] at h1 h2 ⊢
    simp only [decide_eq_true_eq] at h1 h2 ⊢
    exact List.lt_trans h1 h2
  · rw [h] at h1 h2 ⊢
    simp only [decide_eq_false_iff_not, List.not_lt] at h1 h2 ⊢
    exact List.le_trans h2 h1
end E
end Go.Proofs.YtdhicdnmgmkpkaaGreat
/-
  The laying of slices.SortFunc, printed by the shelf's own tool.
  Conditions: none.
-/
namespace Go.Proofs.YtdhicdnmgmkpkaaGreat
open Go.Shelf
def sortAddr_ren : Go.Shelf.Ren := ⟨fun | 6 => 95 | 15 => 127 | 14 => 136 | 28 => 163 | 29 => 164 | 20 => 166 | 21 => 167 | 22 => 168 | 23 => 169 | 24 => 170 | 25 => 171 | 26 => 172 | 27 => 173 | 46 => 195 | 47 => 191 | 48 => 192 | 49 => 196 | 50 => 197 | 57 => 222 | n => n, fun | 22 => 129 | 24 => 32 | 25 => 135 | 3 => 3 | 39 => 166 | 0 => 0 | 53 => 241 | 55 => 209 | 4 => 4 | 46 => 235 | 45 => 234 | 50 => 196 | 5 => 5 | 9 => 9 | 66 => 282 | 70 => 286 | 76 => 317 | 77 => 318 | n => n, fun | n => n⟩
theorem sortAddr : Go.Proofs.SlLaysF0.n6 Tryz.prog sortAddr_ren := {
  mixed := by kernel_rfl
  f6 := ⟨Tryz.f95.name, by decide, Tryz.func95.trans (congrArg some (by kernel_rfl))⟩
  f14 := ⟨Tryz.f136.name, by decide, Tryz.func136.trans (congrArg some (by kernel_rfl))⟩
  f15 := Tryz.func127.trans (congrArg some (by kernel_rfl))
  f20 := ⟨Tryz.f166.name, by decide, Tryz.func166.trans (congrArg some (by kernel_rfl))⟩
  f21 := ⟨Tryz.f167.name, by decide, Tryz.func167.trans (congrArg some (by kernel_rfl))⟩
  f22 := ⟨Tryz.f168.name, by decide, Tryz.func168.trans (congrArg some (by kernel_rfl))⟩
  f23 := ⟨Tryz.f169.name, by decide, Tryz.func169.trans (congrArg some (by kernel_rfl))⟩
  f24 := ⟨Tryz.f170.name, by decide, Tryz.func170.trans (congrArg some (by kernel_rfl))⟩
  f25 := ⟨Tryz.f171.name, by decide, Tryz.func171.trans (congrArg some (by kernel_rfl))⟩
  f26 := ⟨Tryz.f172.name, by decide, Tryz.func172.trans (congrArg some (by kernel_rfl))⟩
  f27 := ⟨Tryz.f173.name, by decide, Tryz.func173.trans (congrArg some (by kernel_rfl))⟩
  f28 := Tryz.func163.trans (congrArg some (by kernel_rfl))
  f29 := Tryz.func164.trans (congrArg some (by kernel_rfl))
  f46 := ⟨Tryz.f195.name, by decide, Tryz.func195.trans (congrArg some (by kernel_rfl))⟩
  f47 := Tryz.func191.trans (congrArg some (by kernel_rfl))
  f48 := Tryz.func192.trans (congrArg some (by kernel_rfl))
  f49 := ⟨Tryz.f196.name, by decide, Tryz.func196.trans (congrArg some (by kernel_rfl))⟩
  f50 := ⟨Tryz.f197.name, by decide, Tryz.func197.trans (congrArg some (by kernel_rfl))⟩
  f57 := ⟨Tryz.f222.name, by decide, Tryz.func222.trans (congrArg some (by kernel_rfl))⟩
  t0 := Tryz.underlying0
  a0 := Tryz.isAgg0
  z0 := Tryz.sizeOf0
  v0 := Tryz.zeroValue0
  t3 := Tryz.underlying3
  a3 := Tryz.isAgg3
  z3 := Tryz.sizeOf3
  v3 := Tryz.zeroValue3
  t4 := Tryz.underlying4
  a4 := Tryz.isAgg4
  z4 := Tryz.sizeOf4
  v4 := Tryz.zeroValue4
  t5 := Tryz.underlying5
  a5 := Tryz.isAgg5
  z5 := Tryz.sizeOf5
  v5 := Tryz.zeroValue5
  t9 := Tryz.underlying9
  a9 := Tryz.isAgg9
  z9 := Tryz.sizeOf9
  v9 := Tryz.zeroValue9
  t22 := Tryz.underlying129
  a22 := Tryz.isAgg129
  z22 := Tryz.sizeOf129
  v22 := Tryz.zeroValue129
  t25 := Tryz.underlying135
  a25 := Tryz.isAgg135
  z25 := Tryz.sizeOf135
  v25 := Tryz.zeroValue135
  t39 := Tryz.underlying166
  a39 := Tryz.isAgg166
  z39 := Tryz.sizeOf166
  v39 := Tryz.zeroValue166
  t45 := Tryz.underlying234
  a45 := Tryz.isAgg234
  z45 := Tryz.sizeOf234
  v45 := Tryz.zeroValue234
  t46 := Tryz.underlying235
  a46 := Tryz.isAgg235
  z46 := Tryz.sizeOf235
  v46 := Tryz.zeroValue235
  t50 := Tryz.underlying196
  a50 := Tryz.isAgg196
  z50 := Tryz.sizeOf196
  v50 := Tryz.zeroValue196
  t53 := Tryz.underlying241
  a53 := Tryz.isAgg241
  z53 := Tryz.sizeOf241
  v53 := Tryz.zeroValue241
  t55 := Tryz.underlying209
  a55 := Tryz.isAgg209
  z55 := Tryz.sizeOf209
  v55 := Tryz.zeroValue209
  t66 := Tryz.underlying282
  a66 := Tryz.isAgg282
  z66 := Tryz.sizeOf282
  v66 := Tryz.zeroValue282
  t70 := Tryz.underlying286
  a70 := Tryz.isAgg286
  z70 := Tryz.sizeOf286
  v70 := Tryz.zeroValue286
  t76 := Tryz.underlying317
  a76 := Tryz.isAgg317
  z76 := Tryz.sizeOf317
  v76 := Tryz.zeroValue317
  t77 := Tryz.underlying318
  a77 := Tryz.isAgg318
  z77 := Tryz.sizeOf318
  v77 := Tryz.zeroValue318 }
def sortWord_ren : Go.Shelf.Ren := ⟨fun | 6 => 86 | 15 => 127 | 14 => 126 | 28 => 163 | 29 => 164 | 20 => 155 | 21 => 156 | 22 => 157 | 23 => 158 | 24 => 159 | 25 => 160 | 26 => 161 | 27 => 162 | 46 => 190 | 47 => 191 | 48 => 192 | 49 => 193 | 50 => 194 | 57 => 221 | n => n, fun | 22 => 62 | 24 => 34 | 25 => 140 | 3 => 3 | 39 => 166 | 0 => 0 | 53 => 241 | 55 => 209 | 4 => 4 | 46 => 235 | 45 => 234 | 50 => 196 | 5 => 5 | 9 => 9 | 66 => 282 | 70 => 286 | 76 => 317 | 77 => 318 | n => n, fun | n => n⟩
theorem sortWord : Go.Proofs.SlLaysF0.n6 Tryz.prog sortWord_ren := {
  mixed := by kernel_rfl
  f6 := ⟨Tryz.f86.name, by decide, Tryz.func86.trans (congrArg some (by kernel_rfl))⟩
  f14 := ⟨Tryz.f126.name, by decide, Tryz.func126.trans (congrArg some (by kernel_rfl))⟩
  f15 := Tryz.func127.trans (congrArg some (by kernel_rfl))
  f20 := ⟨Tryz.f155.name, by decide, Tryz.func155.trans (congrArg some (by kernel_rfl))⟩
  f21 := ⟨Tryz.f156.name, by decide, Tryz.func156.trans (congrArg some (by kernel_rfl))⟩
  f22 := ⟨Tryz.f157.name, by decide, Tryz.func157.trans (congrArg some (by kernel_rfl))⟩
  f23 := ⟨Tryz.f158.name, by decide, Tryz.func158.trans (congrArg some (by kernel_rfl))⟩
  f24 := ⟨Tryz.f159.name, by decide, Tryz.func159.trans (congrArg some (by kernel_rfl))⟩
  f25 := ⟨Tryz.f160.name, by decide, Tryz.func160.trans (congrArg some (by kernel_rfl))⟩
  f26 := ⟨Tryz.f161.name, by decide, Tryz.func161.trans (congrArg some (by kernel_rfl))⟩
  f27 := ⟨Tryz.f162.name, by decide, Tryz.func162.trans (congrArg some (by kernel_rfl))⟩
  f28 := Tryz.func163.trans (congrArg some (by kernel_rfl))
  f29 := Tryz.func164.trans (congrArg some (by kernel_rfl))
  f46 := ⟨Tryz.f190.name, by decide, Tryz.func190.trans (congrArg some (by kernel_rfl))⟩
  f47 := Tryz.func191.trans (congrArg some (by kernel_rfl))
  f48 := Tryz.func192.trans (congrArg some (by kernel_rfl))
  f49 := ⟨Tryz.f193.name, by decide, Tryz.func193.trans (congrArg some (by kernel_rfl))⟩
  f50 := ⟨Tryz.f194.name, by decide, Tryz.func194.trans (congrArg some (by kernel_rfl))⟩
  f57 := ⟨Tryz.f221.name, by decide, Tryz.func221.trans (congrArg some (by kernel_rfl))⟩
  t0 := Tryz.underlying0
  a0 := Tryz.isAgg0
  z0 := Tryz.sizeOf0
  v0 := Tryz.zeroValue0
  t3 := Tryz.underlying3
  a3 := Tryz.isAgg3
  z3 := Tryz.sizeOf3
  v3 := Tryz.zeroValue3
  t4 := Tryz.underlying4
  a4 := Tryz.isAgg4
  z4 := Tryz.sizeOf4
  v4 := Tryz.zeroValue4
  t5 := Tryz.underlying5
  a5 := Tryz.isAgg5
  z5 := Tryz.sizeOf5
  v5 := Tryz.zeroValue5
  t9 := Tryz.underlying9
  a9 := Tryz.isAgg9
  z9 := Tryz.sizeOf9
  v9 := Tryz.zeroValue9
  t22 := Tryz.underlying62
  a22 := Tryz.isAgg62
  z22 := Tryz.sizeOf62
  v22 := Tryz.zeroValue62
  t25 := Tryz.underlying140
  a25 := Tryz.isAgg140
  z25 := Tryz.sizeOf140
  v25 := Tryz.zeroValue140
  t39 := Tryz.underlying166
  a39 := Tryz.isAgg166
  z39 := Tryz.sizeOf166
  v39 := Tryz.zeroValue166
  t45 := Tryz.underlying234
  a45 := Tryz.isAgg234
  z45 := Tryz.sizeOf234
  v45 := Tryz.zeroValue234
  t46 := Tryz.underlying235
  a46 := Tryz.isAgg235
  z46 := Tryz.sizeOf235
  v46 := Tryz.zeroValue235
  t50 := Tryz.underlying196
  a50 := Tryz.isAgg196
  z50 := Tryz.sizeOf196
  v50 := Tryz.zeroValue196
  t53 := Tryz.underlying241
  a53 := Tryz.isAgg241
  z53 := Tryz.sizeOf241
  v53 := Tryz.zeroValue241
  t55 := Tryz.underlying209
  a55 := Tryz.isAgg209
  z55 := Tryz.sizeOf209
  v55 := Tryz.zeroValue209
  t66 := Tryz.underlying282
  a66 := Tryz.isAgg282
  z66 := Tryz.sizeOf282
  v66 := Tryz.zeroValue282
  t70 := Tryz.underlying286
  a70 := Tryz.isAgg286
  z70 := Tryz.sizeOf286
  v70 := Tryz.zeroValue286
  t76 := Tryz.underlying317
  a76 := Tryz.isAgg317
  z76 := Tryz.sizeOf317
  v76 := Tryz.zeroValue317
  t77 := Tryz.underlying318
  a77 := Tryz.isAgg318
  z77 := Tryz.sizeOf318
  v77 := Tryz.zeroValue318 }
end Go.Proofs.YtdhicdnmgmkpkaaGreat
/-
  slices.SortFunc at arrays of bytes, as a function that writes a row.
  Conditions: none.
-/
namespace Go.Proofs.YtdhicdnmgmkpkaaGreat
set_option linter.unusedVariables false
open Go.RowKit Mono Rlp Go.Sort
namespace E
def sortL (l : List (List UInt8)) : List (List UInt8) := l.mergeSort fun a b => decide (a ≤ b)
theorem sortL_perm (l : List (List UInt8)) : (sortL l).Perm l := List.mergeSort_perm _ _
theorem sortL_sorted (l : List (List UInt8)) : (sortL l).Pairwise (· ≤ ·) := by
  have h := List.pairwise_mergeSort (le := fun a b : List UInt8 => decide (a ≤ b)) (fun a b c h1 h2 => by simp only [decide_eq_true_eq] at h1 h2 ⊢; exact List.le_trans h1 h2) (fun a b => by simp only [Bool.or_eq_true, decide_eq_true_eq]; exact List.le_total a b) l
  exact h.imp fun h => by simpa using h
theorem sortL_eq {l m : List (List UInt8)} (hp : m.Perm l) (hs : m.Pairwise (· ≤ ·)) : m = sortL l :=
  List.Perm.eq_of_pairwise (fun a b _ _ h1 h2 => List.le_antisymm h1 h2) hs (sortL_sorted l) (hp.trans (sortL_perm l).symm)
theorem flat_at {n : Nat} (hn : 0 < n) [Inhabited (Ky n)] : ∀ (ks : List (Ky n)) (t : Nat), t < ks.length * n → (ks.map kc).flatten[t]? = some ((kc (ks[t / n]!))[t % n]!)
  | [], t, h => by simp at h
  | k :: ks, t, h => by
    have hk : (kc k).length = n := by unfold kc; rw [bvs_length, k.2]
    rw [List.map_cons, List.flatten_cons]
    by_cases ht : t < n
    · rw [List.getElem?_append_left (by omega), Nat.div_eq_of_lt ht, Nat.mod_eq_of_lt ht]
      simp [hk, ht]
    · rw [List.getElem?_append_right (by omega), hk, flat_at hn ks (t - n) (by simp [Nat.add_mul] at h; omega)]
      have h1 : t / n = (t - n) / n + 1 := by
        conv => lhs; rw [show t = t - n + n by omega, Nat.add_div_right _ hn]
      have h2 : t % n = (t - n) % n := by
        conv => lhs; rw [show t = t - n + n by omega, Nat.add_mod_right]
      rw [h1, h2]
      simp
theorem flatK_list {n : Nat} (hn : 0 < n) [Inhabited (Ky n)] (ks : List (Ky n)) : (flatK kc n ks.toArray).toList = (ks.map kc).flatten := by
  have hl : (ks.map kc).flatten.length = ks.length * n := by
    have : ∀ ks : List (Ky n), (ks.map kc).flatten.length = ks.length * n := fun ks => by
      induction ks with
      | nil => simp
      | cons k ks ih =>
        have hk : (kc k).length = n := by unfold kc; rw [bvs_length, k.2]
        rw [List.map_cons, List.flatten_cons, List.length_append, ih, hk, List.length_cons, Nat.add_mul, Nat.one_mul, Nat.add_comm]
    exact this ks
  refine List.ext_getElem? fun t => ?_
  by_cases ht : t < ks.length * n
  · rw [flat_at hn ks t ht, Array.getElem?_toList]
    have hs : t < (flatK kc n ks.toArray).size := by simpa using ht
    have := get_flatK kc n ks.toArray t (by simpa using ht)
    rw [getElem!_pos _ t hs] at this
    rw [Array.getElem?_eq_getElem hs, this]
    simp
  · rw [List.getElem?_eq_none (by simp; omega), List.getElem?_eq_none (by omega)]
theorem heap_row {w : World} {g n : Nat} {os : Array Go.Obj} {cur : Array Value} {e : TypeId} {fr : Nat × Nat} (F : Array Value) (hb : w.heap[g]? = some (.cells cur e fr)) :
    (grow (putRow id (Sort.ahead w n) g 0 F) os).heap[g]? = some (.cells (putCells id 0 F cur) e fr) := by
  have hg : g < w.heap.size := (Array.getElem?_eq_some_iff.1 hb).1
  rw [heap_grow_old _ _ (by simpa using hg)]
  simp [putRow, mapBlock, Sort.ahead, Array.getElem?_modify, hb, onCells]
theorem grown_row {w : World} {g n : Nat} {os : Array Go.Obj} (F : Array Value) : w.grownBy (grow (putRow id (Sort.ahead w n) g 0 F) os) (some g) := by
  refine ⟨rfl, rfl, rfl, by simp, fun k hk hne => ?_⟩
  rw [heap_grow_old _ _ (by simpa using hk)]
  have : g ≠ k := fun e => hne (by rw [e])
  simp [putRow, mapBlock, Sort.ahead, Array.getElem?_modify, this]
theorem take_row (cur F : Array Value) (h : F.size ≤ cur.size) : (putCells id 0 F cur).toList.take F.size = F.toList := by
  apply List.ext_getElem?
  intro j
  by_cases hj : j < F.size
  · rw [List.getElem?_take_of_lt hj, Array.getElem?_toList]
    simp [putCells, hj, show j < cur.size by omega]
  · rw [List.getElem?_take_eq_none (by omega), List.getElem?_eq_none (by simp; omega)]
instance inh_addr : Inhabited (Ky 20) := ⟨⟨List.replicate 20 0, by simp⟩⟩
theorem sortRun_addr (cf : FuncId) (hc : ∀ l m : List UInt8, l.length = 20 → m.length = 20 → ∀ w, Calls Tryz.prog cf #[arrV l, arrV m] w fun e w' => e = .returned (.int .i64 (cmpB l m)) ∧ ∃ q os', w' = grow (w.drewN q) os') (ec : ∀ args w, (callFunc cf args).run Tryz.prog w = .ok (.enter cf args) w)
    (g cap : Nat) (ks : List (Ky 20)) (w : World) (hl : ks.length < 4611686018427387904) (hH : HoldsK kc 20 w g 0 ks.toArray) (hb : g < w.heap.size) :
    Calls Tryz.prog 95 #[.slice (some ⟨g, 0, none⟩) ks.length cap, .func (.func cf) #[] #[]] w fun e w' => e = .returned (.tuple #[]) ∧ ∃ n os, w' = grow (putRow id (Sort.ahead w n) g 0 (flatK kc 20 (ks.mergeSort fun x y => decide (x.1 ≤ y.1)).toArray)) os := by
  have hT : ∀ x y : Ky 20, ltOf (fun x y : Ky 20 => cmpB x.1 y.1) x y = false → ltOf (fun x y : Ky 20 => cmpB x.1 y.1) y x = false → x = y := fun x y h1 h2 => by
    rw [show ltOf (fun x y : Ky 20 => cmpB x.1 y.1) x y = decide (x.1 < y.1) from cmpB_lt x.1 y.1] at h1
    rw [show ltOf (fun x y : Ky 20 => cmpB x.1 y.1) y x = decide (y.1 < x.1) from cmpB_lt y.1 x.1] at h2
    simp only [decide_eq_false_iff_not, List.not_lt] at h1 h2
    exact Subtype.ext (List.le_antisymm h2 h1)
  have h := AnyQ.slices_SortFunc_total sortAddr 20 Tryz.isAgg32 Tryz.sizeOf32 kc (fun x => by unfold kc; rw [bvs_length, x.2]) (fun x v hv => bvs_one x.1 v hv) (fun x y : Ky 20 => cmpB x.1 y.1) (swo 20) cf #[] g 0 cap ks.toArray w ec (fun m os dk hs x y => hc x.1 y.1 x.2 y.2 _) hH hb (by simpa using hl) hT
  have hf : (fun x y : Ky 20 => !(ltOf fun x y : Ky 20 => cmpB x.1 y.1) y x) = fun x y => decide (x.1 ≤ y.1) := by
    funext x y
    rw [show ltOf (fun x y : Ky 20 => cmpB x.1 y.1) y x = decide (y.1 < x.1) from cmpB_lt y.1 x.1]
    by_cases h : y.1 < x.1
    · simp [h, List.not_le.2 h]
    · simp [h, List.not_lt.1 h]
  rw [hf] at h
  exact h.mono fun e w' ⟨he, n, os, hw⟩ => ⟨he, n, os, hw⟩
theorem sort_addr (cf : FuncId) (hc : ∀ l m : List UInt8, l.length = 20 → m.length = 20 → ∀ w, Calls Tryz.prog cf #[arrV l, arrV m] w fun e w' => e = .returned (.int .i64 (cmpB l m)) ∧ ∃ q os', w' = grow (w.drewN q) os') (ec : ∀ args w, (callFunc cf args).run Tryz.prog w = .ok (.enter cf args) w)
    (v : Value) (ks : List (Ky 20)) (hl : ks.length < 4611686018427387904) :
    FnM 95 [.v v, .v (.func (.func cf) #[] #[])] [.row v 32 20 (ks.map dK)] (fun r os' => r = .tpl [] ∧ os' = [.row v 32 20 ((ks.mergeSort fun x y => decide (x.1 ≤ y.1)).map dK)]) := by
  constructor
  intro ok w xs hok hown hr
  obtain ⟨x1, _, rfl, hx1, x2, _, rfl, hx2, rfl⟩ := hr
  obtain rfl := (readV_v.1 hx1).2
  obtain rfl := (readV_v.1 hx2).2
  obtain ⟨rows, ⟨hrow, hbase⟩, hrows⟩ := hown.at_ _ (List.mem_cons_self ..)
  rw [keys_rows _ _ hrows, List.length_map] at hrow
  rcases hrow.2 with ⟨rfl, h0⟩ | ⟨g, cap, cur, rfl, _, hgb, r1, r2, r3, r4⟩
  · obtain rfl : ks = [] := List.eq_nil_of_length_eq_zero h0
    have hms : ([] : List (Ky 20)).mergeSort (fun x y => decide (x.1 ≤ y.1)) = [] := by simp
    rw [hms]
    refine (AnyF.slices_SortFunc_none sortAddr none 0 (.func (.func cf) #[] #[]) w).mono ?_
    rintro e w' ⟨rfl, rfl⟩
    refine ⟨_, .tpl [], _, rfl, ⟨rfl, rfl⟩, ⟨.refl _, hown.apart, fun o ho => ?_⟩, [], rfl, rfl⟩
    obtain rfl : o = _ := by simpa using ho
    exact ⟨[], ⟨⟨by simp, .inl ⟨rfl, rfl⟩⟩, fun b hb => by cases hb⟩, rows_keys []⟩
  · have hlt := (Array.getElem?_eq_some_iff.1 hgb).1
    have hml : (ks.mergeSort fun x y => decide (x.1 ≤ y.1)).length = ks.length := List.length_mergeSort _
    have hH : HoldsK kc 20 w g 0 ks.toArray := fun j hj => by
      have hj' : j < ks.length * 20 := by simpa using hj
      have h1 : (cur.toList.take (ks.length * 20))[j]? = (ks.map kc).flatten[j]? := by rw [r4]
      rw [List.getElem?_take_of_lt hj', ← flatK_list (by decide)] at h1
      refine ⟨?_, by simp [World.frozen?, hgb]⟩
      rw [cell_of_row w g (0 + j) cur 32 (0, 0) hgb, Nat.zero_add, ← Array.getElem?_toList, h1, Array.getElem?_toList, Array.getElem?_eq_getElem hj, getElem!_pos _ j hj]
      rfl
    refine (sortRun_addr cf hc ec g cap ks w hl hH hlt).mono ?_
    rintro e w' ⟨rfl, n, os, rfl⟩
    have hg := grown_row (w := w) (g := g) (n := n) (os := os) (flatK kc 20 (ks.mergeSort fun x y => decide (x.1 ≤ y.1)).toArray)
    have hh := heap_row (n := n) (os := os) (flatK kc 20 (ks.mergeSort fun x y => decide (x.1 ≤ y.1)).toArray) hgb
    have hF : (flatK kc 20 (ks.mergeSort fun x y => decide (x.1 ≤ y.1)).toArray).size = ks.length * 20 := by rw [size_flatK]; simp [hml]
    have htk := take_row cur (flatK kc 20 (ks.mergeSort fun x y => decide (x.1 ≤ y.1)).toArray) (by rw [hF, r3]; exact Nat.mul_le_mul_right _ r1)
    rw [hF, flatK_list (by decide)] at htk
    refine ⟨_, .tpl [], _, rfl, ⟨rfl, rfl⟩, ⟨⟨hg.os, hg.tape, hg.output, hg.size, fun k hk hn => hg.block k hk fun e => hn ?_⟩, .cons (fun _ h => by simp at h) .nil, fun o ho => ?_⟩, [], rfl, rfl⟩
    · cases e
      exact ⟨_, List.mem_cons_self .., rfl⟩
    · obtain rfl : o = _ := by simpa using ho
      refine ⟨_, ⟨⟨?_, .inr ⟨g, cap, _, ?_, Nat.zero_le _, hh, ?_, r2, ?_, ?_⟩⟩, fun b hb => .inl ⟨_, List.mem_cons_self .., hb⟩⟩, rows_keys _⟩
      · rw [← flatK_list (by decide), Array.length_toList, hF, List.length_map, hml]
      · rw [List.length_map, hml]
      · rw [List.length_map, hml]
        exact r1
      · simp [putCells, r3]
      · rw [List.length_map, hml]
        exact htk
instance inh_word : Inhabited (Ky 32) := ⟨⟨List.replicate 32 0, by simp⟩⟩
theorem sortRun_word (cf : FuncId) (hc : ∀ l m : List UInt8, l.length = 32 → m.length = 32 → ∀ w, Calls Tryz.prog cf #[arrV l, arrV m] w fun e w' => e = .returned (.int .i64 (cmpB l m)) ∧ ∃ q os', w' = grow (w.drewN q) os') (ec : ∀ args w, (callFunc cf args).run Tryz.prog w = .ok (.enter cf args) w)
    (g cap : Nat) (ks : List (Ky 32)) (w : World) (hl : ks.length < 4611686018427387904) (hH : HoldsK kc 32 w g 0 ks.toArray) (hb : g < w.heap.size) :
    Calls Tryz.prog 86 #[.slice (some ⟨g, 0, none⟩) ks.length cap, .func (.func cf) #[] #[]] w fun e w' => e = .returned (.tuple #[]) ∧ ∃ n os, w' = grow (putRow id (Sort.ahead w n) g 0 (flatK kc 32 (ks.mergeSort fun x y => decide (x.1 ≤ y.1)).toArray)) os := by
  have hT : ∀ x y : Ky 32, ltOf (fun x y : Ky 32 => cmpB x.1 y.1) x y = false → ltOf (fun x y : Ky 32 => cmpB x.1 y.1) y x = false → x = y := fun x y h1 h2 => by
    rw [show ltOf (fun x y : Ky 32 => cmpB x.1 y.1) x y = decide (x.1 < y.1) from cmpB_lt x.1 y.1] at h1
    rw [show ltOf (fun x y : Ky 32 => cmpB x.1 y.1) y x = decide (y.1 < x.1) from cmpB_lt y.1 x.1] at h2
    simp only [decide_eq_false_iff_not, List.not_lt] at h1 h2
    exact Subtype.ext (List.le_antisymm h2 h1)
  have h := AnyQ.slices_SortFunc_total sortWord 32 Tryz.isAgg34 Tryz.sizeOf34 kc (fun x => by unfold kc; rw [bvs_length, x.2]) (fun x v hv => bvs_one x.1 v hv) (fun x y : Ky 32 => cmpB x.1 y.1) (swo 32) cf #[] g 0 cap ks.toArray w ec (fun m os dk hs x y => hc x.1 y.1 x.2 y.2 _) hH hb (by simpa using hl) hT
  have hf : (fun x y : Ky 32 => !(ltOf fun x y : Ky 32 => cmpB x.1 y.1) y x) = fun x y => decide (x.1 ≤ y.1) := by
    funext x y
    rw [show ltOf (fun x y : Ky 32 => cmpB x.1 y.1) y x = decide (y.1 < x.1) from cmpB_lt y.1 x.1]
    by_cases h : y.1 < x.1
    · simp [h, List.not_le.2 h]
    · simp [h, List.not_lt.1 h]
  rw [hf] at h
  exact h.mono fun e w' ⟨he, n, os, hw⟩ => ⟨he, n, os, hw⟩
theorem sort_word (cf : FuncId) (hc : ∀ l m : List UInt8, l.length = 32 → m.length = 32 → ∀ w, Calls Tryz.prog cf #[arrV l, arrV m] w fun e w' => e = .returned (.int .i64 (cmpB l m)) ∧ ∃ q os', w' = grow (w.drewN q) os') (ec : ∀ args w, (callFunc cf args).run Tryz.prog w = .ok (.enter cf args) w)
    (v : Value) (ks : List (Ky 32)) (hl : ks.length < 4611686018427387904) :
    FnM 86 [.v v, .v (.func (.func cf) #[] #[])] [.row v 34 32 (ks.map dK)] (fun r os' => r = .tpl [] ∧ os' = [.row v 34 32 ((ks.mergeSort fun x y => decide (x.1 ≤ y.1)).map dK)]) := by
  constructor
  intro ok w xs hok hown hr
  obtain ⟨x1, _, rfl, hx1, x2, _, rfl, hx2, rfl⟩ := hr
  obtain rfl := (readV_v.1 hx1).2
  obtain rfl := (readV_v.1 hx2).2
  obtain ⟨rows, ⟨hrow, hbase⟩, hrows⟩ := hown.at_ _ (List.mem_cons_self ..)
  rw [keys_rows _ _ hrows, List.length_map] at hrow
  rcases hrow.2 with ⟨rfl, h0⟩ | ⟨g, cap, cur, rfl, _, hgb, r1, r2, r3, r4⟩
  · obtain rfl : ks = [] := List.eq_nil_of_length_eq_zero h0
    have hms : ([] : List (Ky 32)).mergeSort (fun x y => decide (x.1 ≤ y.1)) = [] := by simp
    rw [hms]
    refine (AnyF.slices_SortFunc_none sortWord none 0 (.func (.func cf) #[] #[]) w).mono ?_
    rintro e w' ⟨rfl, rfl⟩
    refine ⟨_, .tpl [], _, rfl, ⟨rfl, rfl⟩, ⟨.refl _, hown.apart, fun o ho => ?_⟩, [], rfl, rfl⟩
    obtain rfl : o = _ := by simpa using ho
    exact ⟨[], ⟨⟨by simp, .inl ⟨rfl, rfl⟩⟩, fun b hb => by cases hb⟩, rows_keys []⟩
  · have hlt := (Array.getElem?_eq_some_iff.1 hgb).1
    have hml : (ks.mergeSort fun x y => decide (x.1 ≤ y.1)).length = ks.length := List.length_mergeSort _
    have hH : HoldsK kc 32 w g 0 ks.toArray := fun j hj => by
      have hj' : j < ks.length * 32 := by simpa using hj
      have h1 : (cur.toList.take (ks.length * 32))[j]? = (ks.map kc).flatten[j]? := by rw [r4]
      rw [List.getElem?_take_of_lt hj', ← flatK_list (by decide)] at h1
      refine ⟨?_, by simp [World.frozen?, hgb]⟩
      rw [cell_of_row w g (0 + j) cur 34 (0, 0) hgb, Nat.zero_add, ← Array.getElem?_toList, h1, Array.getElem?_toList, Array.getElem?_eq_getElem hj, getElem!_pos _ j hj]
      rfl
    refine (sortRun_word cf hc ec g cap ks w hl hH hlt).mono ?_
    rintro e w' ⟨rfl, n, os, rfl⟩
    have hg := grown_row (w := w) (g := g) (n := n) (os := os) (flatK kc 32 (ks.mergeSort fun x y => decide (x.1 ≤ y.1)).toArray)
    have hh := heap_row (n := n) (os := os) (flatK kc 32 (ks.mergeSort fun x y => decide (x.1 ≤ y.1)).toArray) hgb
    have hF : (flatK kc 32 (ks.mergeSort fun x y => decide (x.1 ≤ y.1)).toArray).size = ks.length * 32 := by rw [size_flatK]; simp [hml]
    have htk := take_row cur (flatK kc 32 (ks.mergeSort fun x y => decide (x.1 ≤ y.1)).toArray) (by rw [hF, r3]; exact Nat.mul_le_mul_right _ r1)
    rw [hF, flatK_list (by decide)] at htk
    refine ⟨_, .tpl [], _, rfl, ⟨rfl, rfl⟩, ⟨⟨hg.os, hg.tape, hg.output, hg.size, fun k hk hn => hg.block k hk fun e => hn ?_⟩, .cons (fun _ h => by simp at h) .nil, fun o ho => ?_⟩, [], rfl, rfl⟩
    · cases e
      exact ⟨_, List.mem_cons_self .., rfl⟩
    · obtain rfl : o = _ := by simpa using ho
      refine ⟨_, ⟨⟨?_, .inr ⟨g, cap, _, ?_, Nat.zero_le _, hh, ?_, r2, ?_, ?_⟩⟩, fun b hb => .inl ⟨_, List.mem_cons_self .., hb⟩⟩, rows_keys _⟩
      · rw [← flatK_list (by decide), Array.length_toList, hF, List.length_map, hml]
      · rw [List.length_map, hml]
      · rw [List.length_map, hml]
        exact r1
      · simp [putCells, r3]
      · rw [List.length_map, hml]
        exact htk
end E
end Go.Proofs.YtdhicdnmgmkpkaaGreat
