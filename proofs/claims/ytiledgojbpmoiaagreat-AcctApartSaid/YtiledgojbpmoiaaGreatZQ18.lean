/-
 Merged (wip/tools/merge.py): TP5, AN1, AN2, AN3, SK1, SW2, SW3, SW4, SortL, SW5, SW6, AN4, SB0, BR1.
 Conditions: none.
-/
import Derived.Test.YtiledgojbpmoiaaGreatZQ17
import Derived.Test.YtiledgojbpmoiaaGreatZQ10
import Derived.RangeFuncNested
import Derived.RangeFuncLeaves
import Derived.RangeFuncBound
import Derived.Maps.RangeRun
import Derived.Maps.AppendAt
import Derived.Sort.MapsRangeIn
import Derived.Shelf.Abstract
import Derived.OwnWalkIn
import Derived.TacticsInMore
import Derived.RegionIn
import Derived.LoopNIn
import Derived.LoopIn
import Derived.WalkKit
import Derived.Test.YtiledgojbpmoiaaGreatZQ11
import Derived.Shelf.RegionOpenPlain
import Derived.Shelf.SlSortCmp.WholeK
import Derived.Shelf.SlGeneric
import Derived.Ground.SlsfProg
import Derived.Test.YtiledgojbpmoiaaGreatRows
import Derived.Shelf.SlSortCmp.NoneTotal
import Derived.Test.YtiledgojbpmoiaaGreatZQ6
namespace Go.Proofs.YtiledgojbpmoiaaGreat
set_option linter.unusedVariables false
set_option maxRecDepth 20000
set_option maxHeartbeats 4000000
open Go.RowKit Mono Rlp Go.Sort
namespace E
def dPr (x : List UInt8 × List UInt8) : D := .tup [.bs x.1, .bs x.2]
theorem Fn.Vw {f : FuncId} {ds : List D} {Φ : R → Prop} (h : Fn f ds Φ) : FnM f ds [] (fun r os' => Φ r ∧ os' = []) := ⟨fun ok w xs hok hown hr => (h.go ok w xs hok hr).mono fun e w' ⟨hg, v, r, he, hΦ, hv⟩ =>
 ⟨v, r, [], he, ⟨hΦ, rfl⟩, ⟨.of hg, .nil, fun o ho => by simp at ho⟩, hv.mono (fun b hb => ⟨hb.1.elim .inl fun h => .inr (.inr h), hb.2, fun o ho => by simp at ho⟩) fun _ _ => rfl⟩⟩
def lg (x : List UInt8 × List UInt8) : Bool := decide (64 < x.1.length) || decide (1048576 < x.2.length)
theorem U0 (x : List UInt8 × List UInt8) : Fn 162 [.bs x.1, .bs x.2] (· = .val (.v (.bool (lg x)))) := by
 unfold lg
 refine Fn.walk 13 Tryz.func162 rfl Tryz.ntmps162 (by simp) fun X => ?_
 by_cases h : 64 < x.1.length
 ·
  rw [decide_eq_true h]
  repeat
   (first
    | (apply fP; iterate 2 rfl) | (apply au; iterate 3 rfl) | (apply aj; iterate 3 rfl) | (apply bV; iterate 4 rfl)
    | (apply aA (b := true); (iterate 2 rfl); exact aG; iterate 2 rfl) | (apply dU; iterate 4 rfl) | apply EL.nil | ((with_reducible apply EK.ah); apply EK.code)
    | (with_reducible first | apply EC.seq | apply EC.region | apply EC.ret))
  exact EK.fV rfl rfl rfl
 ·
  rw [decide_eq_false h]
  by_cases h2 : 1048576 < x.2.length
  ·
   rw [decide_eq_true h2]
   repeat
    (first
     | (apply au; iterate 3 rfl) | (apply aj; iterate 3 rfl) | (apply bV; iterate 4 rfl)
     | (apply aA (b := true); (iterate 2 rfl); exact aG; iterate 2 rfl) | (apply aA (b := false); (iterate 2 rfl); exact aG; iterate 2 rfl)
     | (apply dU; iterate 4 rfl) | apply EL.nil | ((with_reducible apply EK.ah); apply EK.code) | (with_reducible first | apply EC.seq | apply EC.region | apply EC.ret))
   exact EK.fV rfl rfl rfl
  ·
   rw [decide_eq_false h2]
   repeat
    (first
     | (apply au; iterate 3 rfl) | (apply aj; iterate 3 rfl) | (apply bV; iterate 4 rfl)
     | (apply aA (b := false); (iterate 2 rfl); exact aG; iterate 2 rfl) | (apply dU; iterate 4 rfl) | apply EL.nil | ((with_reducible apply EK.ah); apply EK.code)
     | (with_reducible first | apply EC.seq | apply EC.region | apply EC.ret))
   exact EK.fV rfl rfl rfl
theorem Sz (x : List UInt8 × List UInt8) : Fn 161 [dPr x] (· = .val (.v (.bool (lg x)))) := by
 have h1 := U0 x
 unfold dPr
 refine Fn.walk 8 Tryz.func161 rfl Tryz.ntmps161 (by simp) fun X => ?_
 repeat
  (first
   | (apply aJ (h1); rfl; exact ak.refl _ _; exact enA; iterate 2 rfl) | (apply aj; iterate 3 rfl) | (apply dF; iterate 6 rfl)
   | (apply dA; rfl; exact I.a; iterate 4 rfl) | (apply jD; rfl; rfl; rfl; intro _) | apply EL.nil | ((with_reducible apply EK.ah); apply EK.code)
   | (with_reducible first | apply EC.seq | apply EC.region | apply EC.ret))
 exact EK.fV rfl rfl rfl
def F7 : List (List UInt8 × List UInt8) → Nat → Int
 | [], _ => -1
 | x :: l, k => if lg x then (k : Int) else F7 l (k + 1)
theorem F6 : ∀ (l : List (List UInt8 × List UInt8)) (k : Nat), decide (F7 l k ≥ 0) = l.any lg
 | [], k => rfl
 | x :: l, k => by
  rw [F7, List.any_cons]
  cases hx : lg x
  · simpa using F6 l (k + 1)
  · simp
theorem PK (l : List (List UInt8 × List UInt8)) : Fn 197 [.sl 2 (l.map dPr), .v (.func (.func 161) #[] #[])] (· = .val (.v (.int .i64 (F7 l 0)))) := by
 refine Fn.walk 19 Tryz.func197 rfl Tryz.ntmps197 (by simp) fun X => ?_
 have hl : (l.map dPr).length = l.length := by rw [List.length_map]
 refine EC.lenOf (t := 0) rfl fun hmax => ?_
 rw [hl] at hmax
 unfold maxLen at hmax
 repeat
  (first
   | (apply au; iterate 3 rfl) | (apply aj; iterate 3 rfl) | (apply aB; iterate 4 rfl) | apply EL.nil | ((with_reducible apply EK.ah); apply EK.code)
   | (with_reducible first | apply EC.seq | apply EC.region | apply EC.block))
 refine EC.loop (ι := {n : Nat // n ≤ l.length ∧ F7 l 0 = F7 (l.drop n) n})
  (fun n => ⟨[(8, .val (.v (.int .i64 (n.1 : Int)))), (7, .val (.v (.int .i64 ((l.map dPr).length : Int)))), (6, .val (.sl 2 (l.map dPr))), (4, .val (.v (.int .i64 0))), (0, .val (.sl 2 (l.map dPr))), (1, .val (.v (.func (.func 161) #[] #[])))], [], []⟩)
  (fun n => l.length - n.1) ⟨0, by omega, by rw [List.drop_zero]⟩ ?_ ?_
 · exact Le.kp
 rintro ⟨n, hn, hI⟩
 dsimp only
 by_cases hlt : n < l.length
 ·
  have hat : (l.map dPr)[n]? = some (.tup [.bs l[n].1, .bs l[n].2]) := by rw [List.getElem?_map, List.getElem?_eq_getElem hlt]; rfl
  have hc := Sz l[n]
  rw [List.drop_eq_getElem_cons hlt, F7] at hI
  unfold dPr at hc
  cases hg : lg l[n] with
  | true =>
   rw [hg] at hc hI
   repeat
    (first
     | (apply H7 (os := []) (caps := []) (ds' := [.tup [.bs l[n].1, .bs l[n].2]]) (cds := []) hc.Vw; (exact fun base ok L a w _ => rfl); (iterate 3 rfl); exact ak.refl _ _; (focus (intro _ _; simp [go_sem]; done)); (iterate 2 rfl); rintro _ _ ⟨rfl, rfl⟩; simp only [List.nil_append])
     | (apply au; iterate 3 rfl) | (apply aj; iterate 3 rfl) | (apply aK; iterate 5 rfl)
     | (apply aA (b := true); (iterate 2 rfl); exact aG; iterate 2 rfl)
     | (apply aX; (iterate 4 rfl); (focus (first | exact ⟨by decide, rfl⟩ | (refine ⟨by omega, ?_⟩; rw [Int.toNat_natCast]; assumption))); iterate 2 rfl) | apply EL.nil
     | ((with_reducible apply EK.ah); apply EK.code) | (apply EC.cond_true; rfl)
     | (with_reducible first | apply EC.seq | apply EC.region | apply EC.skip | apply EC.block | apply EC.ret | apply EK.dS | apply EK.aI))
   refine EK.fV rfl rfl ?_
   rw [hI, if_pos rfl]
  | false =>
   rw [hg] at hc hI
   rw [if_neg (by decide)] at hI
   repeat
    (first
     | (apply H7 (os := []) (caps := []) (ds' := [.tup [.bs l[n].1, .bs l[n].2]]) (cds := []) hc.Vw; (exact fun base ok L a w _ => rfl); (iterate 3 rfl); exact ak.refl _ _; (focus (intro _ _; simp [go_sem]; done)); (iterate 2 rfl); rintro _ _ ⟨rfl, rfl⟩; simp only [List.nil_append])
     | (apply au; iterate 3 rfl) | (apply aj; iterate 3 rfl) | (apply aK; iterate 5 rfl)
     | (apply aA (b := true); (iterate 2 rfl); exact aG; iterate 2 rfl) | (apply eU; (iterate 3 rfl); (focus omega); (focus omega); iterate 2 rfl)
     | (apply aX; (iterate 4 rfl); (focus (first | exact ⟨by decide, rfl⟩ | (refine ⟨by omega, ?_⟩; rw [Int.toNat_natCast]; assumption))); iterate 2 rfl) | apply EL.nil
     | ((with_reducible apply EK.ah); apply EK.code) | (apply EC.cond_true; rfl) | (apply EC.cond_false; rfl)
     | (with_reducible first | apply EC.seq | apply EC.region | apply EC.skip | apply EC.block | apply EK.aF))
   refine EK.again ⟨n + 1, hlt, hI⟩ (by dsimp only; omega) ?_
   dsimp only
   simp only [Int.natCast_add]
   exact Le.kp
 ·
  have hge : l.drop n = [] := List.drop_eq_nil_of_le (by omega)
  rw [hge, F7] at hI
  repeat
   (first
    | (apply aj; iterate 3 rfl) | (apply aA (b := false); (iterate 2 rfl); exact aG; iterate 2 rfl) | apply EL.nil | ((with_reducible apply EK.ah); apply EK.code)
    | (apply EC.cond_false; rfl) | (with_reducible first | apply EC.seq | apply EC.region | apply EC.exit | apply EC.ret | apply EK.aZ | apply EK.aH))
  refine EK.fV rfl rfl ?_
  rw [hI]
theorem GV (l : List (List UInt8 × List UInt8)) : Fn 160 [.sl 2 (l.map dPr), .v (.func (.func 161) #[] #[])] (· = .val (.v (.bool (l.any lg)))) := by
 have h1 := PK l
 have h2 := F6 l 0
 rw [← h2]
 refine Fn.walk 9 Tryz.func160 rfl Tryz.ntmps160 (by simp) fun X => ?_
 repeat
  (first
   | (apply aJ (h1); rfl; exact ak.refl _ _; exact enA; iterate 2 rfl) | (apply au; iterate 3 rfl) | (apply aj; iterate 3 rfl)
   | (apply aA; iterate 5 rfl) | apply EL.nil | ((with_reducible apply EK.ah); apply EK.code) | (with_reducible first | apply EC.seq | apply EC.region | apply EC.ret))
 exact EK.fV rfl rfl rfl
theorem Nl : ∀ args w, (callFunc 164 args).run Tryz.prog w = .ok (.enter 164 args) w := enters_of Tryz.func164 (by kernel_rfl) rfl
set_option maxRecDepth 100000 in
theorem P6 (u1 v1 u2 v2 : Value) (l m : List UInt8) (w : World) (h1 : IsB w u1 l) (h2 : IsB w u2 m) (o1 : v1.oneCell' = true) (o2 : v2.oneCell' = true) : Calls Tryz.prog 164 #[.agg #[u1, v1], .agg #[u2, v2]] w fun e w' => e = .returned (.int .i64 (uO l m)) ∧ ∃ q os', w' = grow (w.drewN q) os' := by
 have g1 := h1.gr ((aC w (.cells #[u1, v1] 263)).trans (aC _ (.cells #[u2, v2] 263)))
 have g2 := h2.gr ((aC w (.cells #[u1, v1] 263)).trans (aC _ (.cells #[u2, v2] 263)))
 have hc := Lib.hid (zJ _ _ _ _ _ g1 g2)
 obtain ⟨A1, c1, rfl, a1, a2, a3⟩ := h1
 obtain ⟨A2, c2, rfl, b1, b2, b3⟩ := h2
 clear a3 b3 g1 g2
 go_enter Tryz.func164, Tryz.ntmps164
 go_wp2_with fail
 refine hc.out.mono ?_
 rintro e w' ⟨rfl, rfl⟩
 go_wp2_with fail
 exact bodyPost_ret (results_tmp rfl _ _ _) rfl ⟨rfl, 0, _, by rw [alloc_eq_grow, alloc_eq_grow, grow_grow]; rfl⟩
theorem Lm (v : Value) (ps : List (List UInt8 × List UInt8)) (hl : ps.length < 4611686018427387904) :
  FnM 163 [.v v, .v (.func (.func 164) #[] #[])] [.row v 263 2 (ps.map dPr)] (fun r os' => r = .tpl [] ∧ ∃ qs : List (List UInt8 × List UInt8), qs.Perm ps ∧ qs.Pairwise (fun x y => x.1 ≤ y.1) ∧ os' = [.row v 263 2 (qs.map dPr)]) :=
 NY Es 263 2 (by decide) Tryz.isAgg263 Tryz.sizeOf263 dPr (fun _ => rfl) (fun _ => rfl) (·.1) ([], []) [.slice none 0 0, .slice none 0 0]
  (fun ok w => by
   unfold dPr
   rw [Reads, bC]
   refine ⟨[_], [_], rfl, by rw [Reads]; exact ⟨_, rfl, none, 0, rfl, Nat.le_refl _, by simp [maxLen], fun h => absurd rfl h⟩, ?_⟩
   rw [bC]
   refine ⟨[_], [], rfl, by rw [Reads]; exact ⟨_, rfl, none, 0, rfl, Nat.le_refl _, by simp [maxLen], fun h => absurd rfl h⟩, ?_⟩
   rw [bC]) 164
  (fun ok w hok x y v u hv hu => by
   have key : ∀ (z : List UInt8 × List UInt8) (t : Value), dw ok w (dPr z) t → ∃ a b, t = .agg #[a, b] ∧ IsB w a z.1 ∧ b.oneCell' = true := by
    intro z t ht
    obtain ⟨cs, h', rfl⟩ := (jg rfl).1 ht
    unfold dPr at h'
    rw [Reads, bC] at h'
    obtain ⟨k1, k2, rfl, g1, g2⟩ := h'
    rw [bC] at g2
    obtain ⟨k3, k4, rfl, g3, g4⟩ := g2
    rw [bC] at g4
    subst g4
    have g1' := g1
    rw [Reads] at g1'
    obtain ⟨a, rfl, _⟩ := g1'
    have g3' := g3
    rw [Reads] at g3'
    obtain ⟨b, rfl, _⟩ := g3'
    exact ⟨a, b, rfl, kQ hok ((cu rfl).2 g1), Reads.one _ _ g3 b (by simp)⟩
   obtain ⟨a1, b1, rfl, e1, e2⟩ := key x v hv
   obtain ⟨a2, b2, rfl, e3, e4⟩ := key y u hu
   exact P6 a1 b1 a2 b2 x.1 y.1 w e1 e3 e2 e4) Nl v ps hl
end E
end Go.Proofs.YtiledgojbpmoiaaGreat
namespace Go.Proofs.YtiledgojbpmoiaaGreat
set_option linter.unusedVariables false
open Go.RowKit Mono Rlp
namespace E
def OM (ts : List Tn) : List Tn := ts.filter fun t => !t.isNil
structure Dlt (ts R : List Tn) (k i : Nat) : Prop where
 len : R.length = ts.length
 ki : k < i
 le : i ≤ ts.length
 hd : R.take k = OM (ts.take i)
 tl : R.drop i = ts.drop i
theorem Dlt.at_ {ts R : List Tn} {k i : Nat} (h : Dlt ts R k i) (hi : i < ts.length) : R[i]? = some ts[i] := by
 have h1 := congrArg (fun l => l[0]?) h.tl
 simp only [List.getElem?_drop, Nat.add_zero] at h1
 rw [h1, List.getElem?_eq_getElem hi]
theorem Dlt.skip {ts R : List Tn} {k i : Nat} (h : Dlt ts R k i) (hi : i < ts.length) (hn : ts[i].isNil = true) : Dlt ts R k (i + 1) :=
 ⟨h.len, by have := h.ki; omega, hi, by
  rw [h.hd, List.take_succ_eq_append_getElem hi]
  unfold OM
  rw [List.filter_append, List.filter_cons_of_neg (by simp [hn]), List.filter_nil, List.append_nil], by
  have := congrArg (List.drop 1) h.tl
  rwa [List.drop_drop, List.drop_drop] at this⟩
theorem Dlt.keep {ts R : List Tn} {k i : Nat} (h : Dlt ts R k i) (hi : i < ts.length) (hn : ts[i].isNil = false) : Dlt ts (R.set k ts[i]) (k + 1) (i + 1) :=
 ⟨by rw [List.length_set, h.len], by have := h.ki; omega, hi, by
  have hk : k < R.length := by rw [h.len]; have := h.ki; omega
  rw [List.take_succ_eq_append_getElem (by rw [List.length_set]; exact hk), List.getElem_set_self, List.take_set_of_le (Nat.le_refl _), h.hd, List.take_succ_eq_append_getElem hi]
  unfold OM
  rw [List.filter_append, List.filter_cons_of_pos (by simp [hn]), List.filter_nil], by
  have := congrArg (List.drop 1) h.tl
  rw [List.drop_drop, List.drop_drop] at this
  rw [List.drop_set_of_lt (by have := h.ki; omega)]
  exact this⟩
end E
end Go.Proofs.YtiledgojbpmoiaaGreat
namespace Go.Proofs.YtiledgojbpmoiaaGreat
set_option linter.unusedVariables false
open Go.RowKit Mono Rlp
open Go.ChangeMaps (setBlock)
namespace E
abbrev Ky (n : Nat) := {l : List UInt8 // l.length = n}
theorem Ou {es : List MapEntry} (hn : (es.map (·.born)).Nodup) {e : MapEntry} (he : e ∈ es) : es.Perm (e :: es.filter fun x => x.born != e.born) := by
 induction es with
 | nil => cases he
 | cons y es ih =>
  simp only [List.map_cons, List.nodup_cons] at hn
  rcases List.mem_cons.1 he with rfl | he
  ·
   have : es.filter (fun x => x.born != e.born) = es := List.filter_eq_self.2 fun x hx => by
    have : x.born ≠ e.born := fun h => hn.1 (h ▸ List.mem_map.2 ⟨x, hx, rfl⟩)
    simpa using this
   simp [this]
  ·
   have hne : y.born ≠ e.born := fun h => hn.1 (h ▸ List.mem_map.2 ⟨e, he, rfl⟩)
   have : (y :: es).filter (fun x => x.born != e.born) = y :: es.filter (fun x => x.born != e.born) := by simp [hne]
   rw [this]
   exact ((ih hn.2 he).cons y).trans (List.Perm.swap e y _)
theorem F8 (es : Array MapEntry) (seen : Array Nat) (b : Nat) : (leftOf es (seen.push b)).toList = (leftOf es seen).toList.filter fun x => x.born != b := by
 unfold leftOf
 rw [Array.toList_filter, Array.toList_filter, List.filter_filter]
 refine List.filter_congr fun x _ => ?_
 rw [contains_push]
 cases seen.contains x.born <;> cases h : x.born == b <;> simp [bne, h]
def Rng (w : World) (b r : Nat) (es : Array MapEntry) (clock : Nat) (ss : List Value) (cnt : Nat) : Prop :=
 ∃ since seen c0, w.heap[b]? = some (.map es clock) ∧ w.heap[r]? = some (.mapIter (some b) since seen c0) ∧ (∀ x ∈ es.toList, x.born < since) ∧ since ≤ c0 ∧ since ≤ clock ∧ (leftOf es seen).size = cnt ∧ (ss ++ (leftOf es seen).toList.map (·.key)).Perm (es.toList.map (·.key))
variable {w : World} {b r cnt clock : Nat} {es : Array MapEntry} {ss : List Value}
theorem Rng.le (h : Rng w b r es clock ss cnt) : ss.length + cnt = es.size := by
 obtain ⟨since, seen, c0, _, _, _, _, _, hc, hp⟩ := h
 have := hp.length_eq
 simp at this
 omega
theorem Rng.lt (h : Rng w b r es clock ss cnt) : b < w.heap.size ∧ r < w.heap.size := by
 obtain ⟨since, seen, c0, hb, hr, _⟩ := h
 exact ⟨(Array.getElem?_eq_some_iff.1 hb).1, (Array.getElem?_eq_some_iff.1 hr).1⟩
theorem Rng.kept {w' : World} (h : Rng w b r es clock ss cnt) (hb : w'.heap[b]? = w.heap[b]?) (hr : w'.heap[r]? = w.heap[r]?) : Rng w' b r es clock ss cnt := by
 obtain ⟨since, seen, c0, h1, h2, rest⟩ := h
 exact ⟨since, seen, c0, hb.trans h1, hr.trans h2, rest⟩
theorem Rng.next (h : Rng w b r es clock ss cnt) (hn : (es.toList.map (·.born)).Nodup) (ty : TypeId) :
  (cnt = 0 ∧ ss.Perm (es.toList.map (·.key)) ∧ (Instr.next (.pointer (some ⟨r, 0, none⟩)) false ty).run Tryz.prog w = .ok (.tuple #[.bool false]) w) ∨
  ∃ e ∈ es.toList, ∃ w' cnt', (Instr.next (.pointer (some ⟨r, 0, none⟩)) false ty).run Tryz.prog w = .ok (.tuple #[.bool true, e.key, e.val]) w' ∧ Rng w' b r es clock (ss ++ [e.key]) cnt' ∧ cnt' < cnt ∧ w.grownBy w' (some r) ∧ w'.heap.size = w.heap.size ∧ (Instr.entry (.pointer (some ⟨r, 0, none⟩))).run Tryz.prog w' = .ok (.tuple #[e.key, e.val]) w' := by
 obtain ⟨since, seen, c0, hb, hr, hold, hsc, hsk, rfl, hp⟩ := h
 have hne : r ≠ b := fun e => by rw [e, hb] at hr; cases hr
 rcases run_next_at (P := Tryz.prog) w ty r b since c0 seen es clock hr hb hold hsc with ⟨h0, hrun⟩ | ⟨e, he, w1, hal, hrun⟩
 ·
  refine .inl ⟨h0, ?_, hrun⟩
  have : leftOf es seen = #[] := Array.eq_empty_of_size_eq_zero h0
  rw [this] at hp
  simpa using hp
 ·
  obtain ⟨hem, hes⟩ := mem_left he
  have hr1 : w1.heap[r]? = some (.mapIter (some b) since seen c0) := by rcases hal with rfl | rfl <;> exact hr
  have hb1 : w1.heap[b]? = some (.map es clock) := by rcases hal with rfl | rfl <;> exact hb
  have hset := MapKept.heap_set (o' := .mapIter (some b) since (seen.push e.born) clock) hr1
  have hb' : (setBlock w1 r (.mapIter (some b) since (seen.push e.born) clock)).heap[b]? = some (.map es clock) := (hset.2 b (fun e1 => hne e1.symm)).trans hb1
  refine .inr ⟨e, hem, _, _, hrun, ⟨since, seen.push e.born, clock, hb', hset.1, hold, hsk, hsk, rfl, ?_⟩, left_shrinks es seen e he, ?_, ?_, run_entry_at _ r b since seen es clock e hset.1 hb' hem hn⟩
  ·
   have hnl : ((leftOf es seen).toList.map (·.born)).Nodup := by
    unfold leftOf
    rw [Array.toList_filter]
    exact hn.sublist (List.filter_sublist.map _)
   have h1 := (Ou hnl he).map (·.key)
   rw [← F8] at h1
   refine List.Perm.trans ?_ hp
   rw [List.append_assoc]
   exact (List.Perm.append_left ss h1).symm
  · rcases hal with rfl | rfl <;> exact ⟨rfl, rfl, rfl, by simp [setBlock], fun i _ hi => hset.2 i (fun e1 => hi (by rw [e1]))⟩
  · rcases hal with rfl | rfl <;> simp [setBlock]
end E
end Go.Proofs.YtiledgojbpmoiaaGreat
namespace Go.Proofs.YtiledgojbpmoiaaGreat
set_option linter.unusedVariables false
open Go.RowKit Mono Rlp
open Go.ChangeMaps (setBlock)
namespace E

end E
end Go.Proofs.YtiledgojbpmoiaaGreat
namespace Go.Proofs.YtiledgojbpmoiaaGreat
set_option linter.unusedVariables false
open Go.RowKit Mono Rlp
namespace E

end E
end Go.Proofs.YtiledgojbpmoiaaGreat
namespace Go.Proofs.YtiledgojbpmoiaaGreat
set_option linter.unusedVariables false
open Go.RowKit Mono Rlp Go.Sort
namespace E
theorem tV (w : World) (l : List UInt8) : (Instr.box 29 (gG l)).run Tryz.prog w = .ok (.pointer (some ⟨w.heap.size, 0, none⟩)) (w.alloc (.cells (bvs l).toArray 29)) := by kernel_rfl
end E
end Go.Proofs.YtiledgojbpmoiaaGreat
namespace Go.Proofs.YtiledgojbpmoiaaGreat
open Go.Shelf

end Go.Proofs.YtiledgojbpmoiaaGreat
namespace Go.Proofs.YtiledgojbpmoiaaGreat
set_option linter.unusedVariables false
open Go.RowKit Mono Rlp Go.Sort
namespace E
instance inh_word : Inhabited (Ky 32) := ⟨⟨List.replicate 32 0, by simp⟩⟩
end E
end Go.Proofs.YtiledgojbpmoiaaGreat
namespace Go.Proofs.YtiledgojbpmoiaaGreat
set_option linter.unusedVariables false
set_option maxRecDepth 20000
set_option maxHeartbeats 8000000
open Go.RowKit Mono Rlp
namespace E
def dNd (x : List UInt8 × List UInt8) : D := .tup [.arr 32 x.1, .bs x.2]
theorem Qi (l m : List UInt8) : Bin .eql 27 (.arr 20 l) (.arr 20 m) (.bool (l == m)) ∧ Bin .neq 27 (.arr 20 l) (.arr 20 m) (.bool (l != m)) :=
 KH Tryz.underlying27 Tryz.underlying5 (fun w => by kernel_rfl) (by kernel_rfl) l m
theorem Nq (l m : List UInt8) : Bin .lss 9 (.v (.string (Go.Proofs.YtiledgojbpmoiaaGreat.bs l))) (.v (.string (Go.Proofs.YtiledgojbpmoiaaGreat.bs m))) (.bool (Op.bytesLess l m)) := by
 refine ⟨rfl, fun ok w p q hp hq => ?_⟩
 obtain rfl := (bf.1 hp).2
 obtain rfl := (bf.1 hq).2
 refine ⟨fun x y => by simp [eqGuard], ?_⟩
 simp [binOp, Op.stringOp, qW]
theorem kD : qG 27 20 := ⟨fun w g o => by
 have hn : Tryz.prog.arrayLen 27 = 20 := by kernel_rfl
 have hs : (sizeOf (Tryz.prog.elem 27)).run Tryz.prog w = .ok 1 w := by kernel_rfl
 rw [run_sliceAt_array_all (P := Tryz.prog) w 27 ⟨g, o, none⟩ (by kernel_rfl), hs]
 simp [slicedAt, hn, dN, Result.andThen]⟩
theorem bv8 (n : Nat) : bv (UInt8.ofNat n) = .int .u8 ((n % 256 : Nat) : Int) := by
 unfold bv
 rw [show (UInt8.ofNat n).toNat = n % 256 from rfl]
abbrev n64 (n : Nat) : Value := .int .i64 (n : Int)
theorem OH (n : Nat) (h : n < 9223372036854775808) : IntKind.i64.wrap (n : Int) = (n : Int) := IntWalk.i64_in _ ⟨by omega, by omega⟩
theorem Bq (a : Nat) (h : a < 18446744073709551616) : (BitVec.ofInt 64 (a : Int)).toNat = a := by
 rw [BitVec.toNat_ofInt]
 omega
theorem Rq (a b : Nat) (ha : a < 9223372036854775808) (hb : b < 9223372036854775808) : bits .and .i64 (a : Int) (b : Int) = ((a &&& b : Nat) : Int) := by
 have h : a &&& b ≤ a := Nat.and_le_left
 show IntKind.i64.wrap (((BitVec.ofInt 64 (a : Int) &&& BitVec.ofInt 64 (b : Int)).toNat : Nat) : Int) = _
 rw [BitVec.toNat_and, Bq a (by omega), Bq b (by omega)]
 exact OH _ (by omega)
theorem KI (T : TypeId) (x k : Nat) (hx : x < 9223372036854775808) (hk : k < 63) (m : Int) (hm : m = ((2 ^ k - 1 : Nat) : Int)) : Bin .and T (.v (n64 x)) (.v (.int .i64 m)) (n64 (x % 2 ^ k)) := zM rfl fun w => by
 subst hm
 have hp : 2 ^ k - 1 < 9223372036854775808 := by
  have : 2 ^ k < 2 ^ 63 := Nat.pow_lt_pow_right (by decide) hk
  omega
 show Result.ok (Value.int .i64 (bits .and .i64 (x : Int) ((2 ^ k - 1 : Nat) : Int))) w = _
 rw [Rq x _ hx hp, Nat.and_two_pow_sub_one_eq_mod]
theorem Va (T : TypeId) (x k : Nat) (hk : k < 64) : Bin .shr T (.v (n64 x)) (.v (.int .u64 (k : Int))) (n64 (x / 2 ^ k)) := zM rfl fun w => by
 have h1 : ¬ ((k : Int) < 0) := by omega
 have h2 : min ((k : Int)).toNat IntKind.i64.bits = k := by
  rw [Int.toNat_natCast]
  exact Nat.min_eq_left (Nat.le_of_lt hk)
 have h3 : (x : Int).fdiv (2 ^ k) = ((x / 2 ^ k : Nat) : Int) := by
  rw [Int.fdiv_eq_ediv_of_nonneg _ (Int.le_of_lt (Int.pow_pos (by decide)))]
  simp
 show (Op.shift .shr .i64 (x : Int) .u64 (k : Int)).run Tryz.prog w = _
 unfold Op.shift
 rw [if_neg h1]
 simp only [h2, h3, Sem.run_pure]
theorem uM (l m : List UInt8) : Fn 30 [.arr 32 l, .arr 32 m] (· = .val (.v (.bool (Op.bytesLess l m)))) := by
 have hb := Nq l m
 refine Fn.walk 10 Tryz.func30 rfl Tryz.ntmps30 (by simp) fun X => ?_
 repeat
  (first
   | (apply aj; iterate 3 rfl) | (apply jD; rfl; rfl; rfl; intro _) | apply EL.nil | ((with_reducible apply EK.ah); apply EK.code)
   | (with_reducible first | apply EC.seq | apply EC.region))
 refine EC.draw 5 (by kernel_rfl) ?_
 simp only [List.take_succ_cons, List.take_zero, List.drop_succ_cons, List.drop_zero]
 repeat
  (first
   | (apply qZ; exact jQ; iterate 3 rfl) | (apply mg; rfl; exact I0; iterate 4 rfl) | (apply mg; rfl; exact I1; iterate 4 rfl)
   | (apply fK; (iterate 2 rfl); exact hb; iterate 2 rfl) | ((with_reducible apply EH.nil); rfl))
 repeat
  (first
   | (apply aj; iterate 3 rfl) | apply EL.nil | ((with_reducible apply EK.ah); apply EK.code) | (with_reducible apply EC.ret))
 exact EK.fV rfl rfl rfl
def fO (x : List UInt8 × List UInt8) : List (List UInt8 × List UInt8) → List (List UInt8 × List UInt8)
 | [] => [x]
 | y :: l => if Op.bytesLess y.1 x.1 then y :: fO x l else if (y.1 == x.1) then y :: l else x :: y :: l
theorem kH (x : List UInt8 × List UInt8) : ∀ l, (fO x l).length ≤ l.length + 1
 | [] => by simp [fO]
 | y :: l => by
  have := kH x l
  rw [fO]
  split
  · simp; omega
  · split <;> simp
theorem BU (ns : List (List UInt8 × List UInt8)) (x : List UInt8 × List UInt8) (hl : ns.length ≤ 1000000000) : Fn 56 [.sl 33 (ns.map dNd), dNd x] (· = .val (.sl 33 ((fO x ns).map dNd))) := by
 have hml : (ns.map dNd).length = ns.length := List.length_map _
 obtain ⟨xh, xb⟩ := x
 unfold dNd
 dsimp only
 refine FnM.toFn ?_
 generalize hres : fO (xh, xb) ns = res
 refine FnM.walk 51 Tryz.func56 rfl Tryz.ntmps56 (by simp) fun X => ?_
 have hfn : (fun x : List UInt8 × List UInt8 => D.tup [.arr 32 x.1, .bs x.2]) = dNd := rfl
 rw [hfn]
 repeat
  (first
   | (apply aj; iterate 3 rfl) | (apply jD; rfl; rfl; rfl; intro _) | apply EL.nil | ((with_reducible apply EK.ah); apply EK.code)
   | (with_reducible first | apply EC.seq | apply EC.region | apply EC.block))
 rename_i gx
 refine EC.loop (ι := {k : Nat // k ≤ ns.length ∧ res = ns.take k ++ fO (xh, xb) (ns.drop k)})
  (fun k => ⟨[(5, .val (.v (.int .i64 (k.1 : Int)))), (0, .val (.sl 33 (ns.map dNd))), (3, .val (.v (.pointer (some ⟨gx, 0, none⟩))))], [.var gx 56 (.tup [.arr 32 xh, .bs xb])], []⟩)
  (fun k => ns.length - k.1) ⟨0, Nat.zero_le _, by rw [← hres]; rfl⟩ ?_ ?_
 · exact Le.kp
 rintro ⟨k, hk, hI⟩
 dsimp only at hk ⊢
 have htk : (ns.map dNd).take k = (ns.take k).map dNd := by rw [List.map_take]
 have hdr : (ns.map dNd).drop k = (ns.drop k).map dNd := by rw [List.map_drop]
 have htl : ((ns.take k).map dNd).length = k := by rw [List.length_map, List.length_take]; omega
 have hdl : ((ns.drop k).map dNd).length = ns.length - k := by rw [List.length_map, List.length_drop]
 by_cases hlt : k < ns.length
 ·
  have hd : (ns.map dNd)[k]? = some (.tup [.arr 32 ns[k].1, .bs ns[k].2]) := by rw [List.getElem?_map, List.getElem?_eq_getElem hlt]; rfl
  have hL := uM ns[k].1 xh
  have he := (jd ns[k].1 xh).1
  rw [List.drop_eq_getElem_cons hlt, fO] at hI
  cases hb : Op.bytesLess ns[k].1 xh with
  | true =>
   rw [hb] at hL
   rw [if_pos hb] at hI
   have hI2 : res = ns.take (k + 1) ++ fO (xh, xb) (ns.drop (k + 1)) := by
    rw [hI, List.take_succ_eq_append_getElem hlt, List.append_assoc]
    rfl
   repeat
    (first
     | (with_reducible apply EC.seq))
   refine EC.draw 14 (by kernel_rfl) ?_
   simp only [List.take_succ_cons, List.take_zero, List.drop_succ_cons, List.drop_zero]
   repeat
    (first
     | (apply bP (hL); rfl; exact ak.refl _ _; exact enA; iterate 2 rfl) | (apply aU; iterate 3 rfl) | (apply bH; iterate 6 rfl)
     | (apply aW; iterate 7 rfl) | (apply bG; iterate 5 rfl) | (apply dX; iterate 4 rfl) | (apply bT; rfl; exact I.a; iterate 4 rfl)
     | (apply gy (b := true); (iterate 2 rfl); exact aG; iterate 2 rfl) | (apply jY; iterate 4 rfl)
     | (apply bD; (iterate 4 rfl); (focus (first | exact ⟨by decide, rfl⟩ | (refine ⟨by omega, ?_⟩; rw [Int.toNat_natCast]; assumption))); iterate 2 rfl)
     | ((with_reducible apply EH.nil); rfl))
   repeat
    (first
     | (apply au; iterate 3 rfl) | (apply aj; iterate 3 rfl) | (apply eU; (iterate 3 rfl); (focus omega); (focus omega); iterate 2 rfl) | apply EL.nil
     | ((with_reducible apply EK.ah); apply EK.code) | (apply EC.cond_true; rfl) | (with_reducible first | apply EC.region | apply EC.skip | apply EC.block | apply EK.aF))
   refine EK.again ⟨k + 1, hlt, hI2⟩ (by dsimp only; omega) ?_
   simp only [Int.natCast_add]
   exact Le.kp
  | false =>
   rw [hb] at hL
   rw [if_neg (by rw [hb]; decide)] at hI
   cases hq : (ns[k].1 == xh) with
   | true =>
    rw [hq] at he
    rw [if_pos hq, ← List.drop_eq_getElem_cons hlt, List.take_append_drop] at hI
    repeat
     (first
      | (with_reducible apply EC.seq))
    refine EC.draw 14 (by kernel_rfl) ?_
    simp only [List.take_succ_cons, List.take_zero, List.drop_succ_cons, List.drop_zero]
    repeat
     (first
      | (apply bP (hL); rfl; exact ak.refl _ _; exact enA; iterate 2 rfl) | (apply aU; iterate 3 rfl) | (apply bH; iterate 6 rfl)
      | (apply aW; iterate 7 rfl) | (apply bG; iterate 5 rfl) | (apply dX; iterate 4 rfl) | (apply bT; rfl; exact I.a; iterate 4 rfl)
      | (apply gy (b := true); (iterate 2 rfl); exact aG; iterate 2 rfl) | (apply jY; iterate 4 rfl)
      | (apply bD; (iterate 4 rfl); (focus (first | exact ⟨by decide, rfl⟩ | (refine ⟨by omega, ?_⟩; rw [Int.toNat_natCast]; assumption))); iterate 2 rfl)
      | ((with_reducible apply EH.nil); rfl))
    repeat
     (first
      | apply EL.nil | ((with_reducible apply EK.ah); apply EK.code) | (apply EC.cond_false; rfl) | (with_reducible first | apply EC.seq | apply EC.exit | apply EK.aZ | apply EK.aH))
    refine EC.draw 14 (by kernel_rfl) ?_
    simp only [List.take_succ_cons, List.take_zero, List.drop_succ_cons, List.drop_zero]
    repeat
     (first
      | (apply fK; (iterate 2 rfl); exact he; iterate 2 rfl) | (apply aU; iterate 3 rfl) | (apply bH; iterate 6 rfl) | (apply aW; iterate 7 rfl)
      | (apply bG; iterate 5 rfl) | (apply dX; iterate 4 rfl) | (apply bT; rfl; exact I.a; iterate 4 rfl)
      | (apply gy (b := true); (iterate 2 rfl); exact aG; iterate 2 rfl) | (apply jY; iterate 4 rfl)
      | (apply bD; (iterate 4 rfl); (focus (first | exact ⟨by decide, rfl⟩ | (refine ⟨by omega, ?_⟩; rw [Int.toNat_natCast]; assumption))); iterate 2 rfl)
      | ((with_reducible apply EH.nil); rfl))
    repeat
     (first
      | (apply au; iterate 3 rfl) | (apply aj; iterate 3 rfl) | apply EL.nil | ((with_reducible apply EK.ah); apply EK.code) | (apply EC.cond_true; rfl)
      | (with_reducible first | apply EC.seq | apply EC.region | apply EC.ret | apply EK.aI))
    rw [hI]
    exact EK.Dj [] rfl rfl (RL.cons Rf.same RL.nil) (List.nil_sublist _) ⟨rfl, rfl⟩
   | false =>
    rw [hq] at he
    rw [if_neg (by rw [hq]; decide), ← List.drop_eq_getElem_cons hlt] at hI
    have hfin : res.map dNd = [] ++ (ns.take k).map dNd ++ [.tup [.arr 32 xh, .bs xb]] ++ (ns.drop k).map dNd := by
     rw [hI]
     simp [dNd]
    repeat
     (first
      | (with_reducible apply EC.seq))
    refine EC.draw 14 (by kernel_rfl) ?_
    simp only [List.take_succ_cons, List.take_zero, List.drop_succ_cons, List.drop_zero]
    repeat
     (first
      | (apply bP (hL); rfl; exact ak.refl _ _; exact enA; iterate 2 rfl) | (apply aU; iterate 3 rfl) | (apply bH; iterate 6 rfl)
      | (apply aW; iterate 7 rfl) | (apply bG; iterate 5 rfl) | (apply dX; iterate 4 rfl) | (apply bT; rfl; exact I.a; iterate 4 rfl)
      | (apply gy (b := true); (iterate 2 rfl); exact aG; iterate 2 rfl) | (apply jY; iterate 4 rfl)
      | (apply bD; (iterate 4 rfl); (focus (first | exact ⟨by decide, rfl⟩ | (refine ⟨by omega, ?_⟩; rw [Int.toNat_natCast]; assumption))); iterate 2 rfl)
      | ((with_reducible apply EH.nil); rfl))
    repeat
     (first
      | apply EL.nil | ((with_reducible apply EK.ah); apply EK.code) | (apply EC.cond_false; rfl) | (with_reducible first | apply EC.seq | apply EC.exit | apply EK.aZ | apply EK.aH))
    refine EC.draw 14 (by kernel_rfl) ?_
    simp only [List.take_succ_cons, List.take_zero, List.drop_succ_cons, List.drop_zero]
    repeat
     (first
      | (apply fK; (iterate 2 rfl); exact he; iterate 2 rfl) | (apply aU; iterate 3 rfl) | (apply bH; iterate 6 rfl) | (apply aW; iterate 7 rfl)
      | (apply bG; iterate 5 rfl) | (apply dX; iterate 4 rfl) | (apply bT; rfl; exact I.a; iterate 4 rfl)
      | (apply gy (b := true); (iterate 2 rfl); exact aG; iterate 2 rfl) | (apply jY; iterate 4 rfl)
      | (apply bD; (iterate 4 rfl); (focus (first | exact ⟨by decide, rfl⟩ | (refine ⟨by omega, ?_⟩; rw [Int.toNat_natCast]; assumption))); iterate 2 rfl)
      | ((with_reducible apply EH.nil); rfl))
    repeat
     (first
      | (apply au; iterate 3 rfl) | apply EL.nil | ((with_reducible apply EK.ah); apply EK.code) | (apply EC.cond_false; rfl)
      | (with_reducible first | apply EC.seq | apply EC.region | apply EC.skip))
    refine EL.le (Le.row 56 33) ?_
    repeat
     (first
      | (apply lZ; (iterate 3 rfl); exact ⟨by omega, by rw [hml, Int.toNat_natCast]; omega⟩; iterate 2 rfl) | (apply aj; iterate 3 rfl)
      | ((apply fJ; rfl; (focus (repeat first | exact .z | apply aY.s | apply aN.s)); (iterate 5 rfl); (focus (constructor <;> (first | (simp; done) | (simp; omega))))); intro _)
      | apply EL.nil | ((with_reducible apply EK.ah); apply EK.code) | (with_reducible apply EC.seq))
    refine EC.le (Le.freeze (pre := []) rfl) ?_
    refine EC.le (Le.refine (t := 6) (d' := .sl 33 ((ns.drop k).map dNd)) rfl (Rf.fact (by rw [← hdr]; exact List.mem_cons_self) rfl)) ?_
    simp only [List.nil_append]
    refine EC.le (Le.row 56 33) ?_
    refine EC.jm 9 [0, 1, 2, 4, 5, 7] [3, 6, 8] [_] _ (by kernel_rfl) (by kernel_rfl) rfl ?_
    simp only [aQ, List.filterMap_cons, List.filterMap_nil, List.getElem?_cons_zero, List.getElem?_cons_succ]
    repeat
     (first
      | (apply wC; (iterate 3 rfl); exact ⟨by omega, by rw [hml, Int.toNat_natCast]; omega⟩; iterate 2 rfl) | (apply aU; iterate 3 rfl)
      | (apply bT; rfl; exact I.a; iterate 4 rfl) | (apply kP; iterate 9 rfl))
    rw [Int.toNat_natCast, htk]
    refine EM.nil ?_
    repeat (first | rw [List.cons_append] | rw [List.nil_append])
    refine CH.mut (os := [_]) (rest := []) rfl rfl (fZ rfl rfl rfl rfl rfl ?_) ?_
    ·
     rw [htl]
     constructor <;> (simp; omega)
    rintro _ _ ⟨v2, rfl, rfl⟩
    try simp only [St.put]
    repeat (first | rw [List.cons_append] | rw [List.nil_append])
    refine CH.mut (os := [_]) (rest := []) rfl rfl (fZ rfl rfl rfl rfl rfl ?_) ?_
    ·
     rw [htl]
     constructor <;> (simp; omega)
    rintro _ _ ⟨v3, rfl, rfl⟩
    try simp only [St.put]
    repeat (first | rw [List.cons_append] | rw [List.nil_append])
    refine CH.mut (os := [_]) (rest := []) rfl rfl (fZ rfl rfl rfl rfl rfl ?_) ?_
    ·
     rw [List.length_append, htl, hdl]
     constructor <;> (simp; omega)
    rintro _ _ ⟨v4, rfl, rfl⟩
    try simp only [St.put]
    repeat (first | rw [List.cons_append] | rw [List.nil_append])
    refine CH.nil ?_
    try simp only [List.drop_succ_cons, List.drop_zero]
    refine EL.le (Le.freeze (pre := []) rfl) ?_
    simp only [List.nil_append]
    repeat
     (first
      | (apply aj; iterate 3 rfl) | apply EL.nil | ((with_reducible apply EK.ah); apply EK.code) | (with_reducible apply EC.ret))
    exact EK.Dj [] rfl rfl (RL.cons (Rf.fact (by rw [hfin]; exact List.mem_cons_self) rfl) RL.nil) (List.nil_sublist _) ⟨rfl, rfl⟩
 ·
  have hke : k = ns.length := by omega
  rw [List.drop_eq_nil_of_le (by omega), fO] at hI
  have hfin : res.map dNd = [] ++ (ns.take k).map dNd ++ [.tup [.arr 32 xh, .bs xb]] ++ (ns.drop k).map dNd := by
   rw [hI, List.drop_eq_nil_of_le (by omega)]
   simp [dNd]
  repeat
   (first
    | (with_reducible apply EC.seq))
  refine EC.draw 14 (by kernel_rfl) ?_
  simp only [List.take_succ_cons, List.take_zero, List.drop_succ_cons, List.drop_zero]
  repeat
   (first
    | (apply jI; iterate 2 rfl) | (apply aU; iterate 3 rfl) | (apply dX; iterate 4 rfl)
    | (apply gy (b := false); (iterate 2 rfl); exact aG; iterate 2 rfl) | (apply jY; iterate 4 rfl) | ((with_reducible apply EH.nil); rfl))
  repeat
   (first
    | apply EL.nil | ((with_reducible apply EK.ah); apply EK.code) | (apply EC.cond_false; rfl) | (with_reducible first | apply EC.seq | apply EC.exit | apply EK.aZ | apply EK.aH))
  refine EC.draw 14 (by kernel_rfl) ?_
  simp only [List.take_succ_cons, List.take_zero, List.drop_succ_cons, List.drop_zero]
  repeat
   (first
    | (apply jI; iterate 2 rfl) | (apply aU; iterate 3 rfl) | (apply dX; iterate 4 rfl)
    | (apply gy (b := false); (iterate 2 rfl); exact aG; iterate 2 rfl) | (apply jY; iterate 4 rfl) | ((with_reducible apply EH.nil); rfl))
  repeat
   (first
    | (apply au; iterate 3 rfl) | apply EL.nil | ((with_reducible apply EK.ah); apply EK.code) | (apply EC.cond_false; rfl)
    | (with_reducible first | apply EC.seq | apply EC.region | apply EC.skip))
  refine EL.le (Le.row 56 33) ?_
  repeat
   (first
    | (apply lZ; (iterate 3 rfl); exact ⟨by omega, by rw [hml, Int.toNat_natCast]; omega⟩; iterate 2 rfl) | (apply aj; iterate 3 rfl)
    | ((apply fJ; rfl; (focus (repeat first | exact .z | apply aY.s | apply aN.s)); (iterate 5 rfl); (focus (constructor <;> (first | (simp; done) | (simp; omega))))); intro _)
    | apply EL.nil | ((with_reducible apply EK.ah); apply EK.code) | (with_reducible apply EC.seq))
  refine EC.le (Le.freeze (pre := []) rfl) ?_
  refine EC.le (Le.refine (t := 6) (d' := .sl 33 ((ns.drop k).map dNd)) rfl (Rf.fact (by rw [← hdr]; exact List.mem_cons_self) rfl)) ?_
  simp only [List.nil_append]
  refine EC.le (Le.row 56 33) ?_
  refine EC.jm 9 [0, 1, 2, 4, 5, 7] [3, 6, 8] [_] _ (by kernel_rfl) (by kernel_rfl) rfl ?_
  simp only [aQ, List.filterMap_cons, List.filterMap_nil, List.getElem?_cons_zero, List.getElem?_cons_succ]
  repeat
   (first
    | (apply wC; (iterate 3 rfl); exact ⟨by omega, by rw [hml, Int.toNat_natCast]; omega⟩; iterate 2 rfl) | (apply aU; iterate 3 rfl)
    | (apply bT; rfl; exact I.a; iterate 4 rfl) | (apply kP; iterate 9 rfl))
  rw [Int.toNat_natCast, htk]
  refine EM.nil ?_
  repeat (first | rw [List.cons_append] | rw [List.nil_append])
  refine CH.mut (os := [_]) (rest := []) rfl rfl (fZ rfl rfl rfl rfl rfl ?_) ?_
  ·
   rw [htl]
   constructor <;> (simp; omega)
  rintro _ _ ⟨v2, rfl, rfl⟩
  try simp only [St.put]
  repeat (first | rw [List.cons_append] | rw [List.nil_append])
  refine CH.mut (os := [_]) (rest := []) rfl rfl (fZ rfl rfl rfl rfl rfl ?_) ?_
  ·
   rw [htl]
   constructor <;> (simp; omega)
  rintro _ _ ⟨v3, rfl, rfl⟩
  try simp only [St.put]
  repeat (first | rw [List.cons_append] | rw [List.nil_append])
  refine CH.mut (os := [_]) (rest := []) rfl rfl (fZ rfl rfl rfl rfl rfl ?_) ?_
  ·
   rw [List.length_append, htl, hdl]
   constructor <;> (simp; omega)
  rintro _ _ ⟨v4, rfl, rfl⟩
  try simp only [St.put]
  repeat (first | rw [List.cons_append] | rw [List.nil_append])
  refine CH.nil ?_
  try simp only [List.drop_succ_cons, List.drop_zero]
  refine EL.le (Le.freeze (pre := []) rfl) ?_
  simp only [List.nil_append]
  repeat
   (first
    | (apply aj; iterate 3 rfl) | apply EL.nil | ((with_reducible apply EK.ah); apply EK.code) | (with_reducible apply EC.ret))
  exact EK.Dj [] rfl rfl (RL.cons (Rf.fact (by rw [hfin]; exact List.mem_cons_self) rfl) RL.nil) (List.nil_sublist _) ⟨rfl, rfl⟩
end E
end Go.Proofs.YtiledgojbpmoiaaGreat
