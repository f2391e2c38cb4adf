/-
  Merged (wip/tools/merge.py): TP5, AN1, AN2, AN3, SK1, SW2, SW3, SW4, SortL, SW5, SW6, AN4, SB0, BR1.
  Conditions: none.
-/
import Derived.Test.YtmlajcbabimkjaaGreatZA16
import Derived.Test.YtmlajcbabimkjaaGreatZA17
import Derived.Test.YtmlajcbabimkjaaGreatZA10
import Derived.RangeFuncNested
import Derived.RangeFuncLeaves
import Derived.RangeFuncBound
import Derived.Maps.RangeRun
import Derived.Maps.AppendAt
import Derived.Sort.MapsRangeIn
import Derived.Shelf.Abstract
import Derived.OwnWalkIn
import Derived.TacticsInMore
import Derived.RegionIn
import Derived.LoopNIn
import Derived.LoopIn
import Derived.WalkKit
import Derived.Test.YtmlajcbabimkjaaGreatZA11
import Derived.Shelf.RegionOpenPlain
import Derived.Shelf.SlSortCmp.WholeK
import Derived.Shelf.SlGeneric
import Derived.Ground.SlsfProg
import Derived.Test.YtmlajcbabimkjaaGreatRows
import Derived.Shelf.SlSortCmp.NoneTotal
import Derived.Test.YtmlajcbabimkjaaGreatZA7
/-
  trie.Long, ContainsFunc of it, SortFunc of pairs.
  Conditions: none.
-/
namespace Go.Proofs.YtmlajcbabimkjaaGreat
set_option linter.unusedVariables false
open Go.RowKit Mono Rlp Go.Sort
namespace E
def dPr (x : List UInt8 × List UInt8) : D := .tup [.bs x.1, .bs x.2]
theorem Fn.toMT {f : FuncId} {ds : List D} {Φ : R → Prop} (h : Fn f ds Φ) : FnM f ds [] (fun r os' => Φ r ∧ os' = []) := ⟨fun ok w xs hok hown hr => (h.go ok w xs hok hr).mono fun e w' ⟨hg, v, r, he, hΦ, hv⟩ =>
  ⟨v, r, [], he, ⟨hΦ, rfl⟩, ⟨.of hg, .nil, fun o ho => by simp at ho⟩, hv.mono (fun b hb => ⟨hb.1.elim .inl fun h => .inr (.inr h), hb.2, fun o ho => by simp at ho⟩) fun _ _ => rfl⟩⟩
def lg (x : List UInt8 × List UInt8) : Bool := decide (64 < x.1.length) || decide (1048576 < x.2.length)
set_option maxRecDepth 20000 in
theorem f_Long (x : List UInt8 × List UInt8) : Fn 101 [.bs x.1, .bs x.2] (· = .val (.v (.bool (lg x)))) := by
  unfold lg
  refine Fn.walk 13 Tryz.func101 rfl Tryz.ntmps101 (by simp) fun X => ?_
  by_cases h : 64 < x.1.length
  · rw [decide_eq_true h]
    repeat
      (first
       | (apply P_skip; (iterate 2 exact rfl)) | (apply P_move; (iterate 3 exact rfl)) | (apply P_assign; (iterate 3 exact rfl)) | (apply P_pick; (iterate 4 exact rfl))
       | (apply P_cmp (b := true); (iterate 2 exact rfl); (focus (first | (simp [cmpI]; done) | (simp [cmpI]; omega))); (iterate 2 exact rfl)) | (apply P_lenbs; (iterate 4 exact rfl)) | apply EL.nil
       | ((with_reducible apply EK.then_normal); apply EK.code)
       | (with_reducible first | apply EC.seq | apply EC.region | apply EC.skip | apply EC.label | apply EC.block | apply EC.exit | apply EC.ret | apply EK.in_normal | apply EK.in_same | apply EK.in_ret | apply EK.then_ret | apply EK.then_exit))
    exact EK.ret1 rfl rfl rfl
  · rw [decide_eq_false h]
    by_cases h2 : 1048576 < x.2.length
    · rw [decide_eq_true h2]
      repeat
        (first
         | (apply P_move; (iterate 3 exact rfl)) | (apply P_assign; (iterate 3 exact rfl)) | (apply P_pick; (iterate 4 exact rfl))
         | (apply P_cmp (b := true); (iterate 2 exact rfl); (focus (first | (simp [cmpI]; done) | (simp [cmpI]; omega))); (iterate 2 exact rfl))
         | (apply P_cmp (b := false); (iterate 2 exact rfl); (focus (first | (simp [cmpI]; done) | (simp [cmpI]; omega))); (iterate 2 exact rfl)) | (apply P_lenbs; (iterate 4 exact rfl)) | apply EL.nil
         | ((with_reducible apply EK.then_normal); apply EK.code)
         | (with_reducible first | apply EC.seq | apply EC.region | apply EC.skip | apply EC.label | apply EC.block | apply EC.exit | apply EC.ret | apply EK.in_normal | apply EK.in_same | apply EK.in_ret | apply EK.then_ret | apply EK.then_exit))
      exact EK.ret1 rfl rfl rfl
    · rw [decide_eq_false h2]
      repeat
        (first
         | (apply P_move; (iterate 3 exact rfl)) | (apply P_assign; (iterate 3 exact rfl)) | (apply P_pick; (iterate 4 exact rfl))
         | (apply P_cmp (b := false); (iterate 2 exact rfl); (focus (first | (simp [cmpI]; done) | (simp [cmpI]; omega))); (iterate 2 exact rfl)) | (apply P_lenbs; (iterate 4 exact rfl)) | apply EL.nil
         | ((with_reducible apply EK.then_normal); apply EK.code)
         | (with_reducible first | apply EC.seq | apply EC.region | apply EC.skip | apply EC.label | apply EC.block | apply EC.exit | apply EC.ret | apply EK.in_normal | apply EK.in_same | apply EK.in_ret | apply EK.then_ret | apply EK.then_exit))
      exact EK.ret1 rfl rfl rfl
theorem f_long1 (x : List UInt8 × List UInt8) : Fn 100 [dPr x] (· = .val (.v (.bool (lg x)))) := by
  have h1 := f_Long x
  unfold dPr
  refine Fn.walk 8 Tryz.func100 rfl Tryz.ntmps100 (by simp) fun X => ?_
  repeat
    (first
     | (apply P_call (h1); exact rfl; (focus (repeat first | exact RefineL.refl _ _ | exact RL.nil | exact Rf.same | exact Rf.bs0 | exact Rf.sl0 | (apply Rf.fact; (focus (simp; done)); exact rfl) | apply Rf.tup | apply RL.cons)); (focus (intro _ _; simp [go_sem]; done)); (iterate 2 exact rfl))
     | (apply P_assign; (iterate 3 exact rfl)) | (apply P_field; (iterate 6 exact rfl))
     | (apply P_load; exact rfl; (first | exact I0 | exact I1 | exact I2 | exact I3 | exact I4 | exact I5 | exact I6); (iterate 4 exact rfl)) | (apply P_box; exact rfl; exact rfl; exact rfl; intro _)
     | apply EL.nil | ((with_reducible apply EK.then_normal); apply EK.code)
     | (with_reducible first | apply EC.seq | apply EC.region | apply EC.skip | apply EC.label | apply EC.block | apply EC.exit | apply EC.ret | apply EK.in_normal | apply EK.in_same | apply EK.in_ret | apply EK.then_ret | apply EK.then_exit))
  exact EK.ret1 rfl rfl rfl
def lgAt : List (List UInt8 × List UInt8) → Nat → Int
  | [], _ => -1
  | x :: l, k => if lg x then (k : Int) else lgAt l (k + 1)
theorem lgAt_any : ∀ (l : List (List UInt8 × List UInt8)) (k : Nat), decide (lgAt l k ≥ 0) = l.any lg
  | [], k => rfl
  | x :: l, k => by
    rw [lgAt, List.any_cons]
    cases hx : lg x
    · simpa using lgAt_any l (k + 1)
    · simp
set_option maxRecDepth 20000 in
set_option maxHeartbeats 4000000 in
theorem f_indexP (l : List (List UInt8 × List UInt8)) : Fn 127 [.sl 2 (l.map dPr), .v (.func (.func 100) #[] #[])] (· = .val (.v (.int .i64 (lgAt l 0)))) := by
  refine Fn.walk 19 Tryz.func127 rfl Tryz.ntmps127 (by simp) fun X => ?_
  have hl : (l.map dPr).length = l.length := by rw [List.length_map]
  refine EC.lenOf (t := 0) rfl fun hmax => ?_
  rw [hl] at hmax
  unfold maxLen at hmax
  repeat
    (first
     | (apply P_move; (iterate 3 exact rfl)) | (apply P_assign; (iterate 3 exact rfl)) | (apply P_lensl; (iterate 4 exact rfl)) | apply EL.nil | ((with_reducible apply EK.then_normal); apply EK.code)
     | (with_reducible first | apply EC.seq | apply EC.region | apply EC.skip | apply EC.label | apply EC.block | apply EC.exit | apply EC.ret | apply EK.in_normal | apply EK.in_same | apply EK.in_ret | apply EK.then_ret | apply EK.then_exit))
  refine EC.loop (ι := {n : Nat // n ≤ l.length ∧ lgAt l 0 = lgAt (l.drop n) n})
    (fun n => ⟨[(8, .val (.v (.int .i64 (n.1 : Int)))), (7, .val (.v (.int .i64 ((l.map dPr).length : Int)))), (6, .val (.sl 2 (l.map dPr))), (4, .val (.v (.int .i64 0))), (0, .val (.sl 2 (l.map dPr))), (1, .val (.v (.func (.func 100) #[] #[])))], [], []⟩)
    (fun n => l.length - n.1) ⟨0, by omega, by rw [List.drop_zero]⟩ ?_ ?_
  · exact (Le.keep (by repeat first | exact trivial | refine ⟨rfl, ?_⟩) (by repeat first | exact List.nil_sublist _ | apply List.Sublist.cons_cons | apply List.Sublist.cons) (by simp))
  rintro ⟨n, hn, hI⟩
  dsimp only
  by_cases hlt : n < l.length
  · have hat : (l.map dPr)[n]? = some (.tup [.bs l[n].1, .bs l[n].2]) := by rw [List.getElem?_map, List.getElem?_eq_getElem hlt]; rfl
    have hc := f_long1 l[n]
    rw [List.drop_eq_getElem_cons hlt, lgAt] at hI
    unfold dPr at hc
    cases hg : lg l[n] with
    | true =>
      rw [hg] at hc hI
      repeat
        (first
         | (apply P_callMV (os := []) (caps := []) (ds' := [.tup [.bs l[n].1, .bs l[n].2]]) (cds := []) hc.toMT; (exact fun base ok L a w _ => rfl); (iterate 3 exact rfl); exact RefineL.refl _ _; (focus (intro _ _; simp [go_sem]; done)); (iterate 2 exact rfl); rintro _ _ ⟨rfl, rfl⟩; simp only [List.nil_append])
         | (apply P_move; (iterate 3 exact rfl)) | (apply P_assign; (iterate 3 exact rfl)) | (apply P_loadpd; (iterate 5 exact rfl))
         | (apply P_cmp (b := true); (iterate 2 exact rfl); (focus (first | (simp [cmpI]; done) | (simp [cmpI]; omega))); (iterate 2 exact rfl))
         | (apply P_index; (iterate 4 exact rfl); (focus (first | exact ⟨by decide, rfl⟩ | (refine ⟨by omega, ?_⟩; rw [Int.toNat_natCast]; assumption))); (iterate 2 exact rfl)) | apply EL.nil
         | ((with_reducible apply EK.then_normal); apply EK.code) | (apply EC.cond_true; exact rfl)
         | (with_reducible first | apply EC.seq | apply EC.region | apply EC.skip | apply EC.label | apply EC.block | apply EC.exit | apply EC.ret | apply EK.in_normal | apply EK.in_same | apply EK.in_ret | apply EK.then_ret | apply EK.then_exit))
      refine EK.ret1 rfl rfl ?_
      rw [hI, if_pos rfl]
    | false =>
      rw [hg] at hc hI
      rw [if_neg (by decide)] at hI
      repeat
        (first
         | (apply P_callMV (os := []) (caps := []) (ds' := [.tup [.bs l[n].1, .bs l[n].2]]) (cds := []) hc.toMT; (exact fun base ok L a w _ => rfl); (iterate 3 exact rfl); exact RefineL.refl _ _; (focus (intro _ _; simp [go_sem]; done)); (iterate 2 exact rfl); rintro _ _ ⟨rfl, rfl⟩; simp only [List.nil_append])
         | (apply P_move; (iterate 3 exact rfl)) | (apply P_assign; (iterate 3 exact rfl)) | (apply P_loadpd; (iterate 5 exact rfl))
         | (apply P_cmp (b := true); (iterate 2 exact rfl); (focus (first | (simp [cmpI]; done) | (simp [cmpI]; omega))); (iterate 2 exact rfl))
         | (apply P_ar; (iterate 3 exact rfl); (focus omega); (focus omega); (iterate 2 exact rfl))
         | (apply P_index; (iterate 4 exact rfl); (focus (first | exact ⟨by decide, rfl⟩ | (refine ⟨by omega, ?_⟩; rw [Int.toNat_natCast]; assumption))); (iterate 2 exact rfl)) | apply EL.nil
         | ((with_reducible apply EK.then_normal); apply EK.code) | (apply EC.cond_true; exact rfl) | (apply EC.cond_false; exact rfl)
         | (with_reducible first | apply EC.seq | apply EC.region | apply EC.skip | apply EC.label | apply EC.block | apply EC.exit | apply EC.ret | apply EK.in_normal | apply EK.in_same | apply EK.in_ret | apply EK.then_ret | apply EK.then_exit))
      refine EK.again ⟨n + 1, hlt, hI⟩ (by dsimp only; omega) ?_
      dsimp only
      simp only [Int.natCast_add]
      exact (Le.keep (by repeat first | exact trivial | refine ⟨rfl, ?_⟩) (by repeat first | exact List.nil_sublist _ | apply List.Sublist.cons_cons | apply List.Sublist.cons) (by simp))
  · have hge : l.drop n = [] := List.drop_eq_nil_of_le (by omega)
    rw [hge, lgAt] at hI
    repeat
      (first
       | (apply P_assign; (iterate 3 exact rfl)) | (apply P_cmp (b := false); (iterate 2 exact rfl); (focus (first | (simp [cmpI]; done) | (simp [cmpI]; omega))); (iterate 2 exact rfl)) | apply EL.nil
       | ((with_reducible apply EK.then_normal); apply EK.code) | (apply EC.cond_false; exact rfl)
       | (with_reducible first | apply EC.seq | apply EC.region | apply EC.skip | apply EC.label | apply EC.block | apply EC.exit | apply EC.ret | apply EK.in_normal | apply EK.in_same | apply EK.in_ret | apply EK.then_ret | apply EK.then_exit))
    refine EK.ret1 rfl rfl ?_
    rw [hI]
theorem f_containsP (l : List (List UInt8 × List UInt8)) : Fn 99 [.sl 2 (l.map dPr), .v (.func (.func 100) #[] #[])] (· = .val (.v (.bool (l.any lg)))) := by
  have h1 := f_indexP l
  have h2 := lgAt_any l 0
  rw [← h2]
  refine Fn.walk 9 Tryz.func99 rfl Tryz.ntmps99 (by simp) fun X => ?_
  repeat
    (first
     | (apply P_call (h1); exact rfl; (focus (repeat first | exact RefineL.refl _ _ | exact RL.nil | exact Rf.same | exact Rf.bs0 | exact Rf.sl0 | (apply Rf.fact; (focus (simp; done)); exact rfl) | apply Rf.tup | apply RL.cons)); (focus (intro _ _; simp [go_sem]; done)); (iterate 2 exact rfl))
     | (apply P_move; (iterate 3 exact rfl)) | (apply P_assign; (iterate 3 exact rfl)) | (apply P_cmp; (iterate 5 exact rfl)) | apply EL.nil | ((with_reducible apply EK.then_normal); apply EK.code)
     | (with_reducible first | apply EC.seq | apply EC.region | apply EC.skip | apply EC.label | apply EC.block | apply EC.exit | apply EC.ret | apply EK.in_normal | apply EK.in_same | apply EK.in_ret | apply EK.then_ret | apply EK.then_exit))
  exact EK.ret1 rfl rfl rfl
theorem enters_p2 : ∀ args w, (callFunc 104 args).run Tryz.prog w = .ok (.enter 104 args) w := enters_of Tryz.func104 (by kernel_rfl) rfl
set_option maxRecDepth 100000 in
set_option maxHeartbeats 1000000 in
theorem cmp_pair (u1 v1 u2 v2 : Value) (l m : List UInt8) (w : World) (h1 : IsB w u1 l) (h2 : IsB w u2 m) (o1 : v1.oneCell' = true) (o2 : v2.oneCell' = true) : Calls Tryz.prog 104 #[.agg #[u1, v1], .agg #[u2, v2]] w fun e w' => e = .returned (.int .i64 (cmpB l m)) ∧ ∃ q os', w' = grow (w.drewN q) os' := by
  have g1 := h1.gr ((gr_alloc w (.cells #[u1, v1] 178)).trans (gr_alloc _ (.cells #[u2, v2] 178)))
  have g2 := h2.gr ((gr_alloc w (.cells #[u1, v1] 178)).trans (gr_alloc _ (.cells #[u2, v2] 178)))
  have hc := Lib.hid (bytes_CompareW _ _ _ _ _ g1 g2)
  obtain ⟨A1, c1, rfl, a1, a2, a3⟩ := h1
  obtain ⟨A2, c2, rfl, b1, b2, b3⟩ := h2
  clear a3 b3 g1 g2
  go_enter Tryz.func104, Tryz.ntmps104
  go_wp2_with fail
  refine hc.out.mono ?_
  rintro e w' ⟨rfl, rfl⟩
  go_wp2_with fail
  exact bodyPost_ret (results_tmp rfl _ _ _) rfl ⟨rfl, 0, _, by rw [alloc_eq_grow, alloc_eq_grow, grow_grow]; rfl⟩
theorem sort_pair (v : Value) (ps : List (List UInt8 × List UInt8)) (hl : ps.length < 4611686018427387904) :
    FnM 103 [.v v, .v (.func (.func 104) #[] #[])] [.row v 178 2 (ps.map dPr)] (fun r os' => r = .tpl [] ∧ ∃ qs : List (List UInt8 × List UInt8), qs.Perm ps ∧ qs.Pairwise (fun x y => x.1 ≤ y.1) ∧ os' = [.row v 178 2 (qs.map dPr)]) :=
  sort_gen sortPair 178 2 (by decide) Tryz.isAgg178 Tryz.sizeOf178 dPr (fun _ => rfl) (fun _ => rfl) (·.1) ([], []) [.slice none 0 0, .slice none 0 0]
    (fun ok w => by
      unfold dPr
      rw [Reads, ReadsL]
      refine ⟨[_], [_], rfl, by rw [Reads]; exact ⟨_, rfl, none, 0, rfl, Nat.le_refl _, by simp [maxLen], fun h => absurd rfl h⟩, ?_⟩
      rw [ReadsL]
      refine ⟨[_], [], rfl, by rw [Reads]; exact ⟨_, rfl, none, 0, rfl, Nat.le_refl _, by simp [maxLen], fun h => absurd rfl h⟩, ?_⟩
      rw [ReadsL]) 104
    (fun ok w hok x y v u hv hu => by
      have key : ∀ (z : List UInt8 × List UInt8) (t : Value), ReadV ok w (dPr z) t → ∃ a b, t = .agg #[a, b] ∧ IsB w a z.1 ∧ b.oneCell' = true := by
        intro z t ht
        obtain ⟨cs, h', rfl⟩ := (readV_agg rfl).1 ht
        unfold dPr at h'
        rw [Reads, ReadsL] at h'
        obtain ⟨k1, k2, rfl, g1, g2⟩ := h'
        rw [ReadsL] at g2
        obtain ⟨k3, k4, rfl, g3, g4⟩ := g2
        rw [ReadsL] at g4
        subst g4
        have g1' := g1
        rw [Reads] at g1'
        obtain ⟨a, rfl, _⟩ := g1'
        have g3' := g3
        rw [Reads] at g3'
        obtain ⟨b, rfl, _⟩ := g3'
        exact ⟨a, b, rfl, isB_of hok ((readV_one rfl).2 g1), Reads.one _ _ g3 b (by simp)⟩
      obtain ⟨a1, b1, rfl, e1, e2⟩ := key x v hv
      obtain ⟨a2, b2, rfl, e3, e4⟩ := key y u hu
      exact cmp_pair a1 b1 a2 b2 x.1 y.1 w e1 e3 e2 e4) enters_p2 v ps hl
end E
end Go.Proofs.YtmlajcbabimkjaaGreat
/-
  shape.Kids: a node's own nodes; slices.DeleteFunc and slices.Clone at rows of nodes.
  Conditions: none.
-/
namespace Go.Proofs.YtmlajcbabimkjaaGreat
set_option linter.unusedVariables false
open Go.RowKit Mono Rlp
namespace E
end E
end Go.Proofs.YtmlajcbabimkjaaGreat
/-
  slices.DeleteFunc and slices.Clone at rows of nodes; shape.Kids.
  Conditions: none.
-/
namespace Go.Proofs.YtmlajcbabimkjaaGreat
set_option linter.unusedVariables false
open Go.RowKit Mono Rlp
namespace E
def keepN (ts : List Tn) : List Tn := ts.filter fun t => !t.isNil
structure Dlt (ts R : List Tn) (k i : Nat) : Prop where
  len : R.length = ts.length
  ki : k < i
  le : i ≤ ts.length
  hd : R.take k = keepN (ts.take i)
  tl : R.drop i = ts.drop i
theorem Dlt.at_ {ts R : List Tn} {k i : Nat} (h : Dlt ts R k i) (hi : i < ts.length) : R[i]? = some ts[i] := by
  have h1 := congrArg (fun l => l[0]?) h.tl
  simp only [List.getElem?_drop, Nat.add_zero] at h1
  rw [h1, List.getElem?_eq_getElem hi]
theorem Dlt.skip {ts R : List Tn} {k i : Nat} (h : Dlt ts R k i) (hi : i < ts.length) (hn : ts[i].isNil = true) : Dlt ts R k (i + 1) :=
  ⟨h.len, by have := h.ki; omega, hi, by
    rw [h.hd, List.take_succ_eq_append_getElem hi]
    unfold keepN
    rw [List.filter_append, List.filter_cons_of_neg (by simp [hn]), List.filter_nil, List.append_nil], by
    have := congrArg (List.drop 1) h.tl
    rwa [List.drop_drop, List.drop_drop] at this⟩
theorem Dlt.keep {ts R : List Tn} {k i : Nat} (h : Dlt ts R k i) (hi : i < ts.length) (hn : ts[i].isNil = false) : Dlt ts (R.set k ts[i]) (k + 1) (i + 1) :=
  ⟨by rw [List.length_set, h.len], by have := h.ki; omega, hi, by
    have hk : k < R.length := by rw [h.len]; have := h.ki; omega
    rw [List.take_succ_eq_append_getElem (by rw [List.length_set]; exact hk), List.getElem_set_self, List.take_set_of_le (Nat.le_refl _), h.hd, List.take_succ_eq_append_getElem hi]
    unfold keepN
    rw [List.filter_append, List.filter_cons_of_pos (by simp [hn]), List.filter_nil], by
    have := congrArg (List.drop 1) h.tl
    rw [List.drop_drop, List.drop_drop] at this
    rw [List.drop_set_of_lt (by have := h.ki; omega)]
    exact this⟩
end E
end Go.Proofs.YtmlajcbabimkjaaGreat
/-
  trie.collect.
  Conditions: none.
-/
namespace Go.Proofs.YtmlajcbabimkjaaGreat
set_option linter.unusedVariables false
open Go.RowKit Mono Rlp
namespace E
end E
end Go.Proofs.YtmlajcbabimkjaaGreat
/-
  Ranges over maps whose keys are arrays of bytes, inside a fence: laws for the walk.
  Conditions: none.
-/
namespace Go.Proofs.YtmlajcbabimkjaaGreat
set_option linter.unusedVariables false
open Go.RowKit Mono Rlp
open Go.ChangeMaps (setBlock)
namespace E
abbrev Ky (n : Nat) := {l : List UInt8 // l.length = n}
theorem perm_out {es : List MapEntry} (hn : (es.map (·.born)).Nodup) {e : MapEntry} (he : e ∈ es) : es.Perm (e :: es.filter fun x => x.born != e.born) := by
  induction es with
  | nil => cases he
  | cons y es ih =>
    simp only [List.map_cons, List.nodup_cons] at hn
    rcases List.mem_cons.1 he with rfl | he
    · have : es.filter (fun x => x.born != e.born) = es := List.filter_eq_self.2 fun x hx => by
        have : x.born ≠ e.born := fun h => hn.1 (h ▸ List.mem_map.2 ⟨x, hx, rfl⟩)
        simpa using this
      simp [this]
    · have hne : y.born ≠ e.born := fun h => hn.1 (h ▸ List.mem_map.2 ⟨e, he, rfl⟩)
      have : (y :: es).filter (fun x => x.born != e.born) = y :: es.filter (fun x => x.born != e.born) := by simp [hne]
      rw [this]
      exact ((ih hn.2 he).cons y).trans (List.Perm.swap e y _)
theorem leftOf_push (es : Array MapEntry) (seen : Array Nat) (b : Nat) : (leftOf es (seen.push b)).toList = (leftOf es seen).toList.filter fun x => x.born != b := by
  unfold leftOf
  rw [Array.toList_filter, Array.toList_filter, List.filter_filter]
  refine List.filter_congr fun x _ => ?_
  rw [contains_push]
  cases seen.contains x.born <;> cases h : x.born == b <;> simp [bne, h]
def Rng (w : World) (b r : Nat) (es : Array MapEntry) (clock : Nat) (ss : List Value) (cnt : Nat) : Prop :=
  ∃ since seen c0, w.heap[b]? = some (.map es clock) ∧ w.heap[r]? = some (.mapIter (some b) since seen c0) ∧ (∀ x ∈ es.toList, x.born < since) ∧ since ≤ c0 ∧ since ≤ clock ∧ (leftOf es seen).size = cnt ∧ (ss ++ (leftOf es seen).toList.map (·.key)).Perm (es.toList.map (·.key))
variable {w : World} {b r cnt clock : Nat} {es : Array MapEntry} {ss : List Value}
theorem Rng.le (h : Rng w b r es clock ss cnt) : ss.length + cnt = es.size := by
  obtain ⟨since, seen, c0, _, _, _, _, _, hc, hp⟩ := h
  have := hp.length_eq
  simp at this
  omega
theorem Rng.lt (h : Rng w b r es clock ss cnt) : b < w.heap.size ∧ r < w.heap.size := by
  obtain ⟨since, seen, c0, hb, hr, _⟩ := h
  exact ⟨(Array.getElem?_eq_some_iff.1 hb).1, (Array.getElem?_eq_some_iff.1 hr).1⟩
theorem Rng.kept {w' : World} (h : Rng w b r es clock ss cnt) (hb : w'.heap[b]? = w.heap[b]?) (hr : w'.heap[r]? = w.heap[r]?) : Rng w' b r es clock ss cnt := by
  obtain ⟨since, seen, c0, h1, h2, rest⟩ := h
  exact ⟨since, seen, c0, hb.trans h1, hr.trans h2, rest⟩
theorem Rng.next (h : Rng w b r es clock ss cnt) (hn : (es.toList.map (·.born)).Nodup) (ty : TypeId) :
    (cnt = 0 ∧ ss.Perm (es.toList.map (·.key)) ∧ (Instr.next (.pointer (some ⟨r, 0, none⟩)) false ty).run Tryz.prog w = .ok (.tuple #[.bool false]) w) ∨
    ∃ e ∈ es.toList, ∃ w' cnt', (Instr.next (.pointer (some ⟨r, 0, none⟩)) false ty).run Tryz.prog w = .ok (.tuple #[.bool true, e.key, e.val]) w' ∧ Rng w' b r es clock (ss ++ [e.key]) cnt' ∧ cnt' < cnt ∧ w.grownBy w' (some r) ∧ w'.heap.size = w.heap.size ∧ (Instr.entry (.pointer (some ⟨r, 0, none⟩))).run Tryz.prog w' = .ok (.tuple #[e.key, e.val]) w' := by
  obtain ⟨since, seen, c0, hb, hr, hold, hsc, hsk, rfl, hp⟩ := h
  have hne : r ≠ b := fun e => by rw [e, hb] at hr; cases hr
  rcases run_next_at (P := Tryz.prog) w ty r b since c0 seen es clock hr hb hold hsc with ⟨h0, hrun⟩ | ⟨e, he, w1, hal, hrun⟩
  · refine .inl ⟨h0, ?_, hrun⟩
    have : leftOf es seen = #[] := Array.eq_empty_of_size_eq_zero h0
    rw [this] at hp
    simpa using hp
  · obtain ⟨hem, hes⟩ := mem_left he
    have hr1 : w1.heap[r]? = some (.mapIter (some b) since seen c0) := by rcases hal with rfl | rfl <;> exact hr
    have hb1 : w1.heap[b]? = some (.map es clock) := by rcases hal with rfl | rfl <;> exact hb
    have hset := MapKept.heap_set (o' := .mapIter (some b) since (seen.push e.born) clock) hr1
    have hb' : (setBlock w1 r (.mapIter (some b) since (seen.push e.born) clock)).heap[b]? = some (.map es clock) := (hset.2 b (fun e1 => hne e1.symm)).trans hb1
    refine .inr ⟨e, hem, _, _, hrun, ⟨since, seen.push e.born, clock, hb', hset.1, hold, hsk, hsk, rfl, ?_⟩, left_shrinks es seen e he, ?_, ?_, run_entry_at _ r b since seen es clock e hset.1 hb' hem hn⟩
    · have hnl : ((leftOf es seen).toList.map (·.born)).Nodup := by
        unfold leftOf
        rw [Array.toList_filter]
        exact hn.sublist (List.filter_sublist.map _)
      have h1 := (perm_out hnl he).map (·.key)
      rw [← leftOf_push] at h1
      refine List.Perm.trans ?_ hp
      rw [List.append_assoc]
      exact (List.Perm.append_left ss h1).symm
    · rcases hal with rfl | rfl <;> exact ⟨rfl, rfl, rfl, by simp [setBlock], fun i _ hi => hset.2 i (fun e1 => hi (by rw [e1]))⟩
    · rcases hal with rfl | rfl <;> simp [setBlock]
end E
end Go.Proofs.YtmlajcbabimkjaaGreat
/-
  The iterator of maps.Keys, at keys that are arrays of bytes.
  Conditions: none.
-/
namespace Go.Proofs.YtmlajcbabimkjaaGreat
set_option linter.unusedVariables false
open Go.RowKit Mono Rlp
open Go.ChangeMaps (setBlock)
namespace E
end E
end Go.Proofs.YtmlajcbabimkjaaGreat
/-
  slices.AppendSeq, slices.Collect at arrays of bytes, against whatever iterator value.
  Conditions: none.
-/
namespace Go.Proofs.YtmlajcbabimkjaaGreat
set_option linter.unusedVariables false
open Go.RowKit Mono Rlp
namespace E
end E
end Go.Proofs.YtmlajcbabimkjaaGreat
/-
  The functions by which keys are sorted: they tell bytes.Compare's order, and make memory alone.
  Conditions: none.
-/
namespace Go.Proofs.YtmlajcbabimkjaaGreat
set_option linter.unusedVariables false
open Go.RowKit Mono Rlp Go.Sort
namespace E
theorem run_box_word (w : World) (l : List UInt8) : (Instr.box 29 (arrV l)).run Tryz.prog w = .ok (.pointer (some ⟨w.heap.size, 0, none⟩)) (w.alloc (.cells (bvs l).toArray 29)) := by kernel_rfl
end E
end Go.Proofs.YtmlajcbabimkjaaGreat
/-
  The laying of slices.SortFunc, printed by the shelf's own tool.
  Conditions: none.
-/
namespace Go.Proofs.YtmlajcbabimkjaaGreat
open Go.Shelf
end Go.Proofs.YtmlajcbabimkjaaGreat
/-
  slices.SortFunc at arrays of bytes, as a function that writes a row.
  Conditions: none.
-/
namespace Go.Proofs.YtmlajcbabimkjaaGreat
set_option linter.unusedVariables false
open Go.RowKit Mono Rlp Go.Sort
namespace E
instance inh_word : Inhabited (Ky 32) := ⟨⟨List.replicate 32 0, by simp⟩⟩
end E
end Go.Proofs.YtmlajcbabimkjaaGreat
/-
  slices.SortedFunc of maps.Keys: the keys of a map, in their order.
  Conditions: none.
-/
namespace Go.Proofs.YtmlajcbabimkjaaGreat
set_option linter.unusedVariables false
open Go.RowKit Mono Rlp Go.Sort
namespace E
end E
end Go.Proofs.YtmlajcbabimkjaaGreat
/-
  trie.List, trie.Nodes.
  Conditions: none.
-/
namespace Go.Proofs.YtmlajcbabimkjaaGreat
set_option linter.unusedVariables false
open Go.RowKit Mono Rlp
namespace E
def dNd (x : List UInt8 × List UInt8) : D := .tup [.arr 32 x.1, .bs x.2]
end E
end Go.Proofs.YtmlajcbabimkjaaGreat
/-
  Small things of many walks: tests of addresses and strings, nil, numbers' last bytes.
  Conditions: none.
-/
namespace Go.Proofs.YtmlajcbabimkjaaGreat
set_option linter.unusedVariables false
open Go.RowKit Mono Rlp
namespace E
theorem bin_addr (l m : List UInt8) : Bin .eql 27 (.arr 20 l) (.arr 20 m) (.bool (l == m)) ∧ Bin .neq 27 (.arr 20 l) (.arr 20 m) (.bool (l != m)) :=
  bin_arr Tryz.underlying27 Tryz.underlying5 (fun w => by kernel_rfl) (by kernel_rfl) l m
theorem bin_strlt (l m : List UInt8) : Bin .lss 9 (.v (.string (Go.Proofs.YtmlajcbabimkjaaGreat.bs l))) (.v (.string (Go.Proofs.YtmlajcbabimkjaaGreat.bs m))) (.bool (Op.bytesLess l m)) := by
  refine ⟨rfl, fun ok w p q hp hq => ?_⟩
  obtain rfl := (readV_v.1 hp).2
  obtain rfl := (readV_v.1 hq).2
  refine ⟨fun x y => by simp [eqGuard], ?_⟩
  simp [binOp, Op.stringOp, bs_toList]
theorem sl_addr : SliceA 27 20 := ⟨fun w g o => by
  have hn : Tryz.prog.arrayLen 27 = 20 := by kernel_rfl
  have hs : (sizeOf (Tryz.prog.elem 27)).run Tryz.prog w = .ok 1 w := by kernel_rfl
  rw [run_sliceAt_array_all (P := Tryz.prog) w 27 ⟨g, o, none⟩ (by kernel_rfl), hs]
  simp [slicedAt, hn, add_none, Result.andThen]⟩
end E
end Go.Proofs.YtmlajcbabimkjaaGreat
/-
  The reference's Less, PutNode, rest; a builder's put.
  Conditions: none.
-/
namespace Go.Proofs.YtmlajcbabimkjaaGreat
set_option linter.unusedVariables false
open Go.RowKit Mono Rlp
namespace E
set_option maxRecDepth 20000 in
set_option maxHeartbeats 8000000 in
theorem f_rLessB (l m : List UInt8) : Fn 26 [.arr 32 l, .arr 32 m] (· = .val (.v (.bool (Op.bytesLess l m)))) := by
  have hb := bin_strlt l m
  refine Fn.walk 10 Tryz.func26 rfl Tryz.ntmps26 (by simp) fun X => ?_
  repeat
    (first
     | (apply P_assign; (iterate 3 exact rfl)) | (apply P_box; exact rfl; exact rfl; exact rfl; intro _) | apply EL.nil | ((with_reducible apply EK.then_normal); apply EK.code)
     | (with_reducible first | apply EC.seq | apply EC.region | apply EC.skip | apply EC.label | apply EC.block | apply EC.exit | apply EC.ret | apply EK.in_normal | apply EK.in_same | apply EK.in_ret | apply EK.then_ret | apply EK.then_exit))
  refine EC.draw 5 (by kernel_rfl) ?_
  simp only [List.take_succ_cons, List.take_zero, List.drop_succ_cons, List.drop_zero]
  repeat
    (first
     | (apply H_slarr; exact sl_word; (iterate 3 exact rfl)) | (apply H_strvar; exact rfl; exact I0; (iterate 4 exact rfl)) | (apply H_strvar; exact rfl; exact I1; (iterate 4 exact rfl))
     | (apply H_bin; (iterate 2 exact rfl); exact hb; (iterate 2 exact rfl)) | ((with_reducible apply EH.nil); exact rfl))
  repeat
    (first
     | (apply P_assign; (iterate 3 exact rfl)) | apply EL.nil | ((with_reducible apply EK.then_normal); apply EK.code)
     | (with_reducible first | apply EC.seq | apply EC.region | apply EC.skip | apply EC.label | apply EC.block | apply EC.exit | apply EC.ret | apply EK.in_normal | apply EK.in_same | apply EK.in_ret | apply EK.then_ret | apply EK.then_exit))
  exact EK.ret1 rfl rfl rfl
def putN (x : List UInt8 × List UInt8) : List (List UInt8 × List UInt8) → List (List UInt8 × List UInt8)
  | [] => [x]
  | y :: l => if Op.bytesLess y.1 x.1 then y :: putN x l else if (y.1 == x.1) then y :: l else x :: y :: l
theorem putN_len (x : List UInt8 × List UInt8) : ∀ l, (putN x l).length ≤ l.length + 1
  | [] => by simp [putN]
  | y :: l => by
    have := putN_len x l
    rw [putN]
    split
    · simp; omega
    · split <;> simp
set_option maxRecDepth 20000 in
set_option maxHeartbeats 8000000 in
theorem f_PutNode (ns : List (List UInt8 × List UInt8)) (x : List UInt8 × List UInt8) (hl : ns.length ≤ 1000000000) : Fn 57 [.sl 33 (ns.map dNd), dNd x] (· = .val (.sl 33 ((putN x ns).map dNd))) := by
  have hml : (ns.map dNd).length = ns.length := List.length_map _
  obtain ⟨xh, xb⟩ := x
  unfold dNd
  dsimp only
  refine FnM.toFn ?_
  generalize hres : putN (xh, xb) ns = res
  refine FnM.walk 51 Tryz.func57 rfl Tryz.ntmps57 (by simp) fun X => ?_
  have hfn : (fun x : List UInt8 × List UInt8 => D.tup [.arr 32 x.1, .bs x.2]) = dNd := rfl
  rw [hfn]
  repeat
    (first
     | (apply P_assign; (iterate 3 exact rfl)) | (apply P_box; exact rfl; exact rfl; exact rfl; intro _) | apply EL.nil | ((with_reducible apply EK.then_normal); apply EK.code)
     | (with_reducible first | apply EC.seq | apply EC.region | apply EC.skip | apply EC.label | apply EC.block | apply EC.exit | apply EC.ret | apply EK.in_normal | apply EK.in_same | apply EK.in_ret | apply EK.then_ret | apply EK.then_exit))
  rename_i gx
  refine EC.loop (ι := {k : Nat // k ≤ ns.length ∧ res = ns.take k ++ putN (xh, xb) (ns.drop k)})
    (fun k => ⟨[(5, .val (.v (.int .i64 (k.1 : Int)))), (0, .val (.sl 33 (ns.map dNd))), (3, .val (.v (.pointer (some ⟨gx, 0, none⟩))))], [.var gx 55 (.tup [.arr 32 xh, .bs xb])], []⟩)
    (fun k => ns.length - k.1) ⟨0, Nat.zero_le _, by rw [← hres]; rfl⟩ ?_ ?_
  · exact (Le.keep (by repeat first | exact trivial | refine ⟨rfl, ?_⟩) (by repeat first | exact List.nil_sublist _ | apply List.Sublist.cons_cons | apply List.Sublist.cons) (by simp))
  rintro ⟨k, hk, hI⟩
  dsimp only at hk ⊢
  have htk : (ns.map dNd).take k = (ns.take k).map dNd := by rw [List.map_take]
  have hdr : (ns.map dNd).drop k = (ns.drop k).map dNd := by rw [List.map_drop]
  have htl : ((ns.take k).map dNd).length = k := by rw [List.length_map, List.length_take]; omega
  have hdl : ((ns.drop k).map dNd).length = ns.length - k := by rw [List.length_map, List.length_drop]
  by_cases hlt : k < ns.length
  · have hd : (ns.map dNd)[k]? = some (.tup [.arr 32 ns[k].1, .bs ns[k].2]) := by rw [List.getElem?_map, List.getElem?_eq_getElem hlt]; rfl
    have hL := f_rLessB ns[k].1 xh
    have he := (bin_word ns[k].1 xh).1
    rw [List.drop_eq_getElem_cons hlt, putN] at hI
    cases hb : Op.bytesLess ns[k].1 xh with
    | true =>
      rw [hb] at hL
      rw [if_pos hb] at hI
      have hI2 : res = ns.take (k + 1) ++ putN (xh, xb) (ns.drop (k + 1)) := by
        rw [hI, List.take_succ_eq_append_getElem hlt, List.append_assoc]
        rfl
      repeat
        (first
         | (with_reducible first | apply EC.seq | apply EC.region | apply EC.skip | apply EC.label | apply EC.block | apply EC.exit | apply EC.ret | apply EK.in_normal | apply EK.in_same | apply EK.in_ret | apply EK.then_ret | apply EK.then_exit))
      refine EC.draw 14 (by kernel_rfl) ?_
      simp only [List.take_succ_cons, List.take_zero, List.drop_succ_cons, List.drop_zero]
      repeat
        (first
         | (apply H_call (hL); exact rfl; (focus (repeat first | exact RefineL.refl _ _ | exact RL.nil | exact Rf.same | exact Rf.bs0 | exact Rf.sl0 | (apply Rf.fact; (focus (simp; done)); exact rfl) | apply Rf.tup | apply RL.cons)); (focus (intro _ _; simp [go_sem]; done)); (iterate 2 exact rfl))
         | (apply H_move; (iterate 3 exact rfl)) | (apply H_field; (iterate 6 exact rfl)) | (apply H_fieldpd; (iterate 7 exact rfl)) | (apply H_loadpd; (iterate 5 exact rfl))
         | (apply H_pick; (iterate 4 exact rfl)) | (apply H_load; exact rfl; (first | exact I0 | exact I1 | exact I2 | exact I3 | exact I4 | exact I5 | exact I6); (iterate 4 exact rfl))
         | (apply H_cmp (b := true); (iterate 2 exact rfl); (focus (first | (simp [cmpI]; done) | (simp [cmpI]; omega))); (iterate 2 exact rfl)) | (apply H_lensl; (iterate 4 exact rfl))
         | (apply H_index; (iterate 4 exact rfl); (focus (first | exact ⟨by decide, rfl⟩ | (refine ⟨by omega, ?_⟩; rw [Int.toNat_natCast]; assumption))); (iterate 2 exact rfl))
         | ((with_reducible apply EH.nil); exact rfl))
      repeat
        (first
         | (apply P_move; (iterate 3 exact rfl)) | (apply P_assign; (iterate 3 exact rfl)) | (apply P_ar; (iterate 3 exact rfl); (focus omega); (focus omega); (iterate 2 exact rfl)) | apply EL.nil
         | ((with_reducible apply EK.then_normal); apply EK.code) | (apply EC.cond_true; exact rfl)
         | (with_reducible first | apply EC.seq | apply EC.region | apply EC.skip | apply EC.label | apply EC.block | apply EC.exit | apply EC.ret | apply EK.in_normal | apply EK.in_same | apply EK.in_ret | apply EK.then_ret | apply EK.then_exit))
      refine EK.again ⟨k + 1, hlt, hI2⟩ (by dsimp only; omega) ?_
      simp only [Int.natCast_add]
      exact (Le.keep (by repeat first | exact trivial | refine ⟨rfl, ?_⟩) (by repeat first | exact List.nil_sublist _ | apply List.Sublist.cons_cons | apply List.Sublist.cons) (by simp))
    | false =>
      rw [hb] at hL
      rw [if_neg (by rw [hb]; decide)] at hI
      cases hq : (ns[k].1 == xh) with
      | true =>
        rw [hq] at he
        rw [if_pos hq, ← List.drop_eq_getElem_cons hlt, List.take_append_drop] at hI
        repeat
          (first
           | (with_reducible first | apply EC.seq | apply EC.region | apply EC.skip | apply EC.label | apply EC.block | apply EC.exit | apply EC.ret | apply EK.in_normal | apply EK.in_same | apply EK.in_ret | apply EK.then_ret | apply EK.then_exit))
        refine EC.draw 14 (by kernel_rfl) ?_
        simp only [List.take_succ_cons, List.take_zero, List.drop_succ_cons, List.drop_zero]
        repeat
          (first
           | (apply H_call (hL); exact rfl; (focus (repeat first | exact RefineL.refl _ _ | exact RL.nil | exact Rf.same | exact Rf.bs0 | exact Rf.sl0 | (apply Rf.fact; (focus (simp; done)); exact rfl) | apply Rf.tup | apply RL.cons)); (focus (intro _ _; simp [go_sem]; done)); (iterate 2 exact rfl))
           | (apply H_move; (iterate 3 exact rfl)) | (apply H_field; (iterate 6 exact rfl)) | (apply H_fieldpd; (iterate 7 exact rfl)) | (apply H_loadpd; (iterate 5 exact rfl))
           | (apply H_pick; (iterate 4 exact rfl)) | (apply H_load; exact rfl; (first | exact I0 | exact I1 | exact I2 | exact I3 | exact I4 | exact I5 | exact I6); (iterate 4 exact rfl))
           | (apply H_cmp (b := true); (iterate 2 exact rfl); (focus (first | (simp [cmpI]; done) | (simp [cmpI]; omega))); (iterate 2 exact rfl)) | (apply H_lensl; (iterate 4 exact rfl))
           | (apply H_index; (iterate 4 exact rfl); (focus (first | exact ⟨by decide, rfl⟩ | (refine ⟨by omega, ?_⟩; rw [Int.toNat_natCast]; assumption))); (iterate 2 exact rfl))
           | ((with_reducible apply EH.nil); exact rfl))
        repeat
          (first
           | apply EL.nil | ((with_reducible apply EK.then_normal); apply EK.code) | (apply EC.cond_false; exact rfl)
           | (with_reducible first | apply EC.seq | apply EC.region | apply EC.skip | apply EC.label | apply EC.block | apply EC.exit | apply EC.ret | apply EK.in_normal | apply EK.in_same | apply EK.in_ret | apply EK.then_ret | apply EK.then_exit))
        refine EC.draw 14 (by kernel_rfl) ?_
        simp only [List.take_succ_cons, List.take_zero, List.drop_succ_cons, List.drop_zero]
        repeat
          (first
           | (apply H_bin; (iterate 2 exact rfl); exact he; (iterate 2 exact rfl)) | (apply H_move; (iterate 3 exact rfl)) | (apply H_field; (iterate 6 exact rfl)) | (apply H_fieldpd; (iterate 7 exact rfl))
           | (apply H_loadpd; (iterate 5 exact rfl)) | (apply H_pick; (iterate 4 exact rfl))
           | (apply H_load; exact rfl; (first | exact I0 | exact I1 | exact I2 | exact I3 | exact I4 | exact I5 | exact I6); (iterate 4 exact rfl))
           | (apply H_cmp (b := true); (iterate 2 exact rfl); (focus (first | (simp [cmpI]; done) | (simp [cmpI]; omega))); (iterate 2 exact rfl)) | (apply H_lensl; (iterate 4 exact rfl))
           | (apply H_index; (iterate 4 exact rfl); (focus (first | exact ⟨by decide, rfl⟩ | (refine ⟨by omega, ?_⟩; rw [Int.toNat_natCast]; assumption))); (iterate 2 exact rfl))
           | ((with_reducible apply EH.nil); exact rfl))
        repeat
          (first
           | (apply P_move; (iterate 3 exact rfl)) | (apply P_assign; (iterate 3 exact rfl)) | apply EL.nil | ((with_reducible apply EK.then_normal); apply EK.code) | (apply EC.cond_true; exact rfl)
           | (with_reducible first | apply EC.seq | apply EC.region | apply EC.skip | apply EC.label | apply EC.block | apply EC.exit | apply EC.ret | apply EK.in_normal | apply EK.in_same | apply EK.in_ret | apply EK.then_ret | apply EK.then_exit))
        rw [hI]
        exact EK.retM1k [] rfl rfl (RL.cons Rf.same RL.nil) (List.nil_sublist _) ⟨rfl, rfl⟩
      | false =>
        rw [hq] at he
        rw [if_neg (by rw [hq]; decide), ← List.drop_eq_getElem_cons hlt] at hI
        have hfin : res.map dNd = [] ++ (ns.take k).map dNd ++ [.tup [.arr 32 xh, .bs xb]] ++ (ns.drop k).map dNd := by
          rw [hI]
          simp [dNd]
        repeat
          (first
           | (with_reducible first | apply EC.seq | apply EC.region | apply EC.skip | apply EC.label | apply EC.block | apply EC.exit | apply EC.ret | apply EK.in_normal | apply EK.in_same | apply EK.in_ret | apply EK.then_ret | apply EK.then_exit))
        refine EC.draw 14 (by kernel_rfl) ?_
        simp only [List.take_succ_cons, List.take_zero, List.drop_succ_cons, List.drop_zero]
        repeat
          (first
           | (apply H_call (hL); exact rfl; (focus (repeat first | exact RefineL.refl _ _ | exact RL.nil | exact Rf.same | exact Rf.bs0 | exact Rf.sl0 | (apply Rf.fact; (focus (simp; done)); exact rfl) | apply Rf.tup | apply RL.cons)); (focus (intro _ _; simp [go_sem]; done)); (iterate 2 exact rfl))
           | (apply H_move; (iterate 3 exact rfl)) | (apply H_field; (iterate 6 exact rfl)) | (apply H_fieldpd; (iterate 7 exact rfl)) | (apply H_loadpd; (iterate 5 exact rfl))
           | (apply H_pick; (iterate 4 exact rfl)) | (apply H_load; exact rfl; (first | exact I0 | exact I1 | exact I2 | exact I3 | exact I4 | exact I5 | exact I6); (iterate 4 exact rfl))
           | (apply H_cmp (b := true); (iterate 2 exact rfl); (focus (first | (simp [cmpI]; done) | (simp [cmpI]; omega))); (iterate 2 exact rfl)) | (apply H_lensl; (iterate 4 exact rfl))
           | (apply H_index; (iterate 4 exact rfl); (focus (first | exact ⟨by decide, rfl⟩ | (refine ⟨by omega, ?_⟩; rw [Int.toNat_natCast]; assumption))); (iterate 2 exact rfl))
           | ((with_reducible apply EH.nil); exact rfl))
        repeat
          (first
           | apply EL.nil | ((with_reducible apply EK.then_normal); apply EK.code) | (apply EC.cond_false; exact rfl)
           | (with_reducible first | apply EC.seq | apply EC.region | apply EC.skip | apply EC.label | apply EC.block | apply EC.exit | apply EC.ret | apply EK.in_normal | apply EK.in_same | apply EK.in_ret | apply EK.then_ret | apply EK.then_exit))
        refine EC.draw 14 (by kernel_rfl) ?_
        simp only [List.take_succ_cons, List.take_zero, List.drop_succ_cons, List.drop_zero]
        repeat
          (first
           | (apply H_bin; (iterate 2 exact rfl); exact he; (iterate 2 exact rfl)) | (apply H_move; (iterate 3 exact rfl)) | (apply H_field; (iterate 6 exact rfl)) | (apply H_fieldpd; (iterate 7 exact rfl))
           | (apply H_loadpd; (iterate 5 exact rfl)) | (apply H_pick; (iterate 4 exact rfl))
           | (apply H_load; exact rfl; (first | exact I0 | exact I1 | exact I2 | exact I3 | exact I4 | exact I5 | exact I6); (iterate 4 exact rfl))
           | (apply H_cmp (b := true); (iterate 2 exact rfl); (focus (first | (simp [cmpI]; done) | (simp [cmpI]; omega))); (iterate 2 exact rfl)) | (apply H_lensl; (iterate 4 exact rfl))
           | (apply H_index; (iterate 4 exact rfl); (focus (first | exact ⟨by decide, rfl⟩ | (refine ⟨by omega, ?_⟩; rw [Int.toNat_natCast]; assumption))); (iterate 2 exact rfl))
           | ((with_reducible apply EH.nil); exact rfl))
        repeat
          (first
           | (apply P_move; (iterate 3 exact rfl)) | apply EL.nil | ((with_reducible apply EK.then_normal); apply EK.code) | (apply EC.cond_false; exact rfl)
           | (with_reducible first | apply EC.seq | apply EC.region | apply EC.skip | apply EC.label | apply EC.block | apply EC.exit | apply EC.ret | apply EK.in_normal | apply EK.in_same | apply EK.in_ret | apply EK.then_ret | apply EK.then_exit))
        refine EL.le (Le.row 55 33) ?_
        repeat
          (first
           | (apply P_slfrom; (iterate 3 exact rfl); exact ⟨by omega, by rw [hml, Int.toNat_natCast]; omega⟩; (iterate 2 exact rfl)) | (apply P_assign; (iterate 3 exact rfl))
           | ((apply P_append; exact rfl; (focus (repeat first | exact .z | apply SetAt.s | apply SetAtF.s)); (iterate 5 exact rfl); (focus (constructor <;> (first | (simp; done) | (simp; omega))))); intro _)
           | apply EL.nil | ((with_reducible apply EK.then_normal); apply EK.code)
           | (with_reducible first | apply EC.seq | apply EC.region | apply EC.skip | apply EC.label | apply EC.block | apply EC.exit | apply EC.ret | apply EK.in_normal | apply EK.in_same | apply EK.in_ret | apply EK.then_ret | apply EK.then_exit))
        refine EC.le (Le.freeze (pre := []) rfl) ?_
        refine EC.le (Le.refine (t := 6) (d' := .sl 33 ((ns.drop k).map dNd)) rfl (Rf.fact (by rw [← hdr]; exact List.mem_cons_self) rfl)) ?_
        simp only [List.nil_append]
        refine EC.le (Le.row 55 33) ?_
        refine EC.drawC 9 [0, 1, 2, 4, 5, 7] [3, 6, 8] [_] _ (by kernel_rfl) (by kernel_rfl) rfl ?_
        simp only [pickL, List.filterMap_cons, List.filterMap_nil, List.getElem?_cons_zero, List.getElem?_cons_succ]
        repeat
          (first
           | (apply H_slto; (iterate 3 exact rfl); exact ⟨by omega, by rw [hml, Int.toNat_natCast]; omega⟩; (iterate 2 exact rfl)) | (apply H_move; (iterate 3 exact rfl))
           | (apply H_load; exact rfl; (first | exact I0 | exact I1 | exact I2 | exact I3 | exact I4 | exact I5 | exact I6); (iterate 4 exact rfl)) | (apply H_lit; (iterate 9 exact rfl)))
        rw [Int.toNat_natCast, htk]
        refine EM.nil ?_
        repeat (first | rw [List.cons_append] | rw [List.nil_append])
        refine CH.mut (os := [_]) (rest := []) rfl rfl (m_append rfl rfl rfl rfl rfl ?_) ?_
        · rw [htl]
          constructor <;> (simp; omega)
        rintro _ _ ⟨v2, rfl, rfl⟩
        try simp only [St.put]
        repeat (first | rw [List.cons_append] | rw [List.nil_append])
        refine CH.mut (os := [_]) (rest := []) rfl rfl (m_append rfl rfl rfl rfl rfl ?_) ?_
        · rw [htl]
          constructor <;> (simp; omega)
        rintro _ _ ⟨v3, rfl, rfl⟩
        try simp only [St.put]
        repeat (first | rw [List.cons_append] | rw [List.nil_append])
        refine CH.mut (os := [_]) (rest := []) rfl rfl (m_append rfl rfl rfl rfl rfl ?_) ?_
        · rw [List.length_append, htl, hdl]
          constructor <;> (simp; omega)
        rintro _ _ ⟨v4, rfl, rfl⟩
        try simp only [St.put]
        repeat (first | rw [List.cons_append] | rw [List.nil_append])
        refine CH.nil ?_
        try simp only [List.drop_succ_cons, List.drop_zero]
        refine EL.le (Le.freeze (pre := []) rfl) ?_
        simp only [List.nil_append]
        repeat
          (first
           | (apply P_assign; (iterate 3 exact rfl)) | apply EL.nil | ((with_reducible apply EK.then_normal); apply EK.code)
           | (with_reducible first | apply EC.seq | apply EC.region | apply EC.skip | apply EC.label | apply EC.block | apply EC.exit | apply EC.ret | apply EK.in_normal | apply EK.in_same | apply EK.in_ret | apply EK.then_ret | apply EK.then_exit))
        exact EK.retM1k [] rfl rfl (RL.cons (Rf.fact (by rw [hfin]; exact List.mem_cons_self) rfl) RL.nil) (List.nil_sublist _) ⟨rfl, rfl⟩
  · have hke : k = ns.length := by omega
    rw [List.drop_eq_nil_of_le (by omega), putN] at hI
    have hfin : res.map dNd = [] ++ (ns.take k).map dNd ++ [.tup [.arr 32 xh, .bs xb]] ++ (ns.drop k).map dNd := by
      rw [hI, List.drop_eq_nil_of_le (by omega)]
      simp [dNd]
    repeat
      (first
       | (with_reducible first | apply EC.seq | apply EC.region | apply EC.skip | apply EC.label | apply EC.block | apply EC.exit | apply EC.ret | apply EK.in_normal | apply EK.in_same | apply EK.in_ret | apply EK.then_ret | apply EK.then_exit))
    refine EC.draw 14 (by kernel_rfl) ?_
    simp only [List.take_succ_cons, List.take_zero, List.drop_succ_cons, List.drop_zero]
    repeat
      (first
       | (apply H_skip; (iterate 2 exact rfl)) | (apply H_move; (iterate 3 exact rfl)) | (apply H_pick; (iterate 4 exact rfl))
       | (apply H_cmp (b := false); (iterate 2 exact rfl); (focus (first | (simp [cmpI]; done) | (simp [cmpI]; omega))); (iterate 2 exact rfl)) | (apply H_lensl; (iterate 4 exact rfl))
       | ((with_reducible apply EH.nil); exact rfl))
    repeat
      (first
       | apply EL.nil | ((with_reducible apply EK.then_normal); apply EK.code) | (apply EC.cond_false; exact rfl)
       | (with_reducible first | apply EC.seq | apply EC.region | apply EC.skip | apply EC.label | apply EC.block | apply EC.exit | apply EC.ret | apply EK.in_normal | apply EK.in_same | apply EK.in_ret | apply EK.then_ret | apply EK.then_exit))
    refine EC.draw 14 (by kernel_rfl) ?_
    simp only [List.take_succ_cons, List.take_zero, List.drop_succ_cons, List.drop_zero]
    repeat
      (first
       | (apply H_skip; (iterate 2 exact rfl)) | (apply H_move; (iterate 3 exact rfl)) | (apply H_pick; (iterate 4 exact rfl))
       | (apply H_cmp (b := false); (iterate 2 exact rfl); (focus (first | (simp [cmpI]; done) | (simp [cmpI]; omega))); (iterate 2 exact rfl)) | (apply H_lensl; (iterate 4 exact rfl))
       | ((with_reducible apply EH.nil); exact rfl))
    repeat
      (first
       | (apply P_move; (iterate 3 exact rfl)) | apply EL.nil | ((with_reducible apply EK.then_normal); apply EK.code) | (apply EC.cond_false; exact rfl)
       | (with_reducible first | apply EC.seq | apply EC.region | apply EC.skip | apply EC.label | apply EC.block | apply EC.exit | apply EC.ret | apply EK.in_normal | apply EK.in_same | apply EK.in_ret | apply EK.then_ret | apply EK.then_exit))
    refine EL.le (Le.row 55 33) ?_
    repeat
      (first
       | (apply P_slfrom; (iterate 3 exact rfl); exact ⟨by omega, by rw [hml, Int.toNat_natCast]; omega⟩; (iterate 2 exact rfl)) | (apply P_assign; (iterate 3 exact rfl))
       | ((apply P_append; exact rfl; (focus (repeat first | exact .z | apply SetAt.s | apply SetAtF.s)); (iterate 5 exact rfl); (focus (constructor <;> (first | (simp; done) | (simp; omega))))); intro _)
       | apply EL.nil | ((with_reducible apply EK.then_normal); apply EK.code)
       | (with_reducible first | apply EC.seq | apply EC.region | apply EC.skip | apply EC.label | apply EC.block | apply EC.exit | apply EC.ret | apply EK.in_normal | apply EK.in_same | apply EK.in_ret | apply EK.then_ret | apply EK.then_exit))
    refine EC.le (Le.freeze (pre := []) rfl) ?_
    refine EC.le (Le.refine (t := 6) (d' := .sl 33 ((ns.drop k).map dNd)) rfl (Rf.fact (by rw [← hdr]; exact List.mem_cons_self) rfl)) ?_
    simp only [List.nil_append]
    refine EC.le (Le.row 55 33) ?_
    refine EC.drawC 9 [0, 1, 2, 4, 5, 7] [3, 6, 8] [_] _ (by kernel_rfl) (by kernel_rfl) rfl ?_
    simp only [pickL, List.filterMap_cons, List.filterMap_nil, List.getElem?_cons_zero, List.getElem?_cons_succ]
    repeat
      (first
       | (apply H_slto; (iterate 3 exact rfl); exact ⟨by omega, by rw [hml, Int.toNat_natCast]; omega⟩; (iterate 2 exact rfl)) | (apply H_move; (iterate 3 exact rfl))
       | (apply H_load; exact rfl; (first | exact I0 | exact I1 | exact I2 | exact I3 | exact I4 | exact I5 | exact I6); (iterate 4 exact rfl)) | (apply H_lit; (iterate 9 exact rfl)))
    rw [Int.toNat_natCast, htk]
    refine EM.nil ?_
    repeat (first | rw [List.cons_append] | rw [List.nil_append])
    refine CH.mut (os := [_]) (rest := []) rfl rfl (m_append rfl rfl rfl rfl rfl ?_) ?_
    · rw [htl]
      constructor <;> (simp; omega)
    rintro _ _ ⟨v2, rfl, rfl⟩
    try simp only [St.put]
    repeat (first | rw [List.cons_append] | rw [List.nil_append])
    refine CH.mut (os := [_]) (rest := []) rfl rfl (m_append rfl rfl rfl rfl rfl ?_) ?_
    · rw [htl]
      constructor <;> (simp; omega)
    rintro _ _ ⟨v3, rfl, rfl⟩
    try simp only [St.put]
    repeat (first | rw [List.cons_append] | rw [List.nil_append])
    refine CH.mut (os := [_]) (rest := []) rfl rfl (m_append rfl rfl rfl rfl rfl ?_) ?_
    · rw [List.length_append, htl, hdl]
      constructor <;> (simp; omega)
    rintro _ _ ⟨v4, rfl, rfl⟩
    try simp only [St.put]
    repeat (first | rw [List.cons_append] | rw [List.nil_append])
    refine CH.nil ?_
    try simp only [List.drop_succ_cons, List.drop_zero]
    refine EL.le (Le.freeze (pre := []) rfl) ?_
    simp only [List.nil_append]
    repeat
      (first
       | (apply P_assign; (iterate 3 exact rfl)) | apply EL.nil | ((with_reducible apply EK.then_normal); apply EK.code)
       | (with_reducible first | apply EC.seq | apply EC.region | apply EC.skip | apply EC.label | apply EC.block | apply EC.exit | apply EC.ret | apply EK.in_normal | apply EK.in_same | apply EK.in_ret | apply EK.then_ret | apply EK.then_exit))
    exact EK.retM1k [] rfl rfl (RL.cons (Rf.fact (by rw [hfin]; exact List.mem_cons_self) rfl) RL.nil) (List.nil_sublist _) ⟨rfl, rfl⟩
end E
end Go.Proofs.YtmlajcbabimkjaaGreat
