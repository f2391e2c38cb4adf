/-
  Merged (wip/tools/merge.py): AN3, SK1, SW2, SW3, SW4, SortL.
  Conditions: none.
-/
import Derived.Test.YtmlajcbabimkjaaGreatZO18
import Derived.Test.YtmlajcbabimkjaaGreatZO11
import Derived.RangeFuncNested
import Derived.RangeFuncLeaves
import Derived.RangeFuncBound
import Derived.Maps.RangeRun
import Derived.Maps.AppendAt
import Derived.Sort.MapsRangeIn
import Derived.Shelf.Abstract
import Derived.OwnWalkIn
import Derived.TacticsInMore
import Derived.RegionIn
import Derived.LoopNIn
import Derived.LoopIn
import Derived.WalkKit
import Derived.Shelf.RegionOpenPlain
import Derived.Shelf.SlSortCmp.WholeK
import Derived.Shelf.SlGeneric
import Derived.Ground.SlsfProg
import Derived.Test.YtmlajcbabimkjaaGreatRows
/-
  trie.collect.
  Conditions: none.
-/
namespace Go.Proofs.YtmlajcbabimkjaaGreat
set_option linter.unusedVariables false
open Go.RowKit Mono Rlp
namespace E
theorem item_nil : Fn 107 [dT .nil] (· = .val (dItem (itemT .nil))) := by
  unfold dT
  refine Fn.walk 85 Tryz.func107 rfl Tryz.ntmps107 (by simp) fun X => ?_
  repeat
    (first
     | (apply P_move; (iterate 3 exact rfl)) | (apply P_extract; (iterate 4 exact rfl))
     | (apply P_load; exact rfl; (first | exact I0 | exact I1 | exact I2 | exact I3 | exact I4 | exact I5 | exact I6); (iterate 4 exact rfl)) | (apply P_build; (iterate 7 exact rfl))
     | (apply P_asNil; (iterate 5 exact rfl)) | (apply P_alloc; exact rfl; exact rfl; exact rfl; intro _)
     | (apply P_store; exact rfl; (focus (repeat first | exact .z | apply SetAt.s | apply SetAtF.s)); (iterate 4 exact rfl)) | apply EL.nil | ((with_reducible apply EK.then_normal); apply EK.code)
     | (apply EC.cond_false; exact rfl)
     | (with_reducible first | apply EC.seq | apply EC.region | apply EC.skip | apply EC.label | apply EC.block | apply EC.exit | apply EC.ret | apply EK.in_normal | apply EK.in_same | apply EK.in_ret | apply EK.then_ret | apply EK.then_exit))
  refine EK.retc1r 1 rfl rfl rfl rfl ?_ rfl
  (repeat first | exact RefineL.refl _ _ | exact RL.nil | exact Rf.same | exact Rf.bs0 | exact Rf.sl0 | (apply Rf.fact; (focus (simp; done)); exact rfl) | apply Rf.tup | apply RL.cons)
theorem f_BytesN (t : Tn) (h : t.ok) : Fn 75 [dT t] (· = .val (.bs (pkB (itemT t)))) := by
  cases hn : t.isNil with
  | false => exact f_Bytes t h hn
  | true =>
    cases t with
    | nil => exact f_Bytes_of .nil item_nil
    | leaf _ _ => cases hn
    | ext _ _ => cases hn
    | br _ _ => cases hn
theorem f_KidsN (t : Tn) : Fn 76 [dT t] (· = .val (.sl 1 ((kidsT t).map dT))) := by
  cases hn : t.isNil with
  | false => exact f_Kids t hn
  | true =>
    cases t with
    | nil =>
      refine FnM.toFn ?_
      refine FnM.walk 23 Tryz.func76 rfl Tryz.ntmps76 (by simp) fun X => ?_
      unfold dT kidsT
      repeat
        (first
         | (apply P_move; (iterate 3 exact rfl)) | (apply P_assign; (iterate 3 exact rfl)) | (apply P_extract; (iterate 4 exact rfl)) | (apply P_asNil; (iterate 5 exact rfl)) | apply EL.nil
         | ((with_reducible apply EK.then_normal); apply EK.code) | (apply EC.cond_false; exact rfl)
         | (with_reducible first | apply EC.seq | apply EC.region | apply EC.skip | apply EC.label | apply EC.block | apply EC.exit | apply EC.ret | apply EK.in_normal | apply EK.in_same | apply EK.in_ret | apply EK.then_ret | apply EK.then_exit))
      exact EK.retM1k [] rfl rfl (RL.cons Rf.sl0 RL.nil) (List.nil_sublist _) ⟨rfl, rfl⟩
    | leaf _ _ => cases hn
    | ext _ _ => cases hn
    | br _ _ => cases hn
abbrev Mp := Nat × List Ent
def ifput (t : Tn) (root : Bool) (s : Mp) : Mp :=
  if root || decide (32 ≤ (pkB (itemT t)).length) then (tickE s.1 s.2 (hash (pkB (itemT t))), putE s.1 s.2 (hash (pkB (itemT t))) (.bs (pkB (itemT t)))) else s
def colT : Tn → Bool → Mp → Mp
  | .nil, r, s => ifput .nil r s
  | .leaf p v, r, s => ifput (.leaf p v) r s
  | .ext p k, r, s => colT k false (ifput (.ext p k) r s)
  | .br ks v, r, s => (List.range 16).foldl (fun s i => if (ks i).isNil then s else colT (ks i) false s) (ifput (.br ks v) r s)
theorem fold_keep {α : Type} (f : α → Tn) (g : Mp → Tn → Mp) : ∀ (l : List α) (s : Mp), (keepN (l.map f)).foldl g s = l.foldl (fun s a => if (f a).isNil then s else g s (f a)) s
  | [], s => rfl
  | a :: l, s => by
    have ih := fold_keep f g l
    unfold keepN at ih ⊢
    rw [List.map_cons, List.foldl_cons]
    cases h : (f a).isNil with
    | true =>
      rw [List.filter_cons_of_neg (by simp [h]), ih]
      simp
    | false =>
      rw [List.filter_cons_of_pos (by simp [h]), List.foldl_cons, ih]
      simp
theorem colT_kids (t : Tn) (r : Bool) (s : Mp) : colT t r s = (kidsT t).foldl (fun s k => colT k false s) (ifput t r s) := by
  cases t with
  | nil => rfl
  | leaf p v => rfl
  | ext p k => rfl
  | br ks v =>
    unfold kidsT
    rw [fold_keep ks (fun s k => colT k false s)]
    rfl
abbrev mpO (m : Nat) (s : Mp) : Obj := .map m 32 s.1 s.2
set_option maxRecDepth 20000 in
set_option maxHeartbeats 8000000 in
theorem collect_of (m : Nat) (t : Tn) (h : t.ok) (root : Bool) (s : Mp) (hkl : (kidsT t).length ≤ 16)
    (H : ∀ k ∈ kidsT t, ∀ s : Mp, FnM 52 [dT k, .v (.bool false), .v (.map (some m))] [mpO m s] (fun r os' => r = .tpl [] ∧ os' = [mpO m (colT k false s)])) :
    FnM 52 [dT t, .v (.bool root), .v (.map (some m))] [mpO m s] (fun r os' => r = .tpl [] ∧ os' = [mpO m (colT t root s)]) := by
  have hB := f_BytesN t h
  have hK := f_KidsN t
  have hS := f_kSum1 (pkB (itemT t))
  rw [colT_kids]
  generalize hL : kidsT t = L at *
  have hml : (L.map dT).length = L.length := List.length_map _
  obtain ⟨s1, hs1⟩ : ∃ s1, ifput t root s = s1 := ⟨_, rfl⟩
  have hs1' := hs1
  rw [hs1]
  unfold ifput at hs1'
  obtain ⟨s1c, s1e⟩ := s1
  obtain ⟨sc, se⟩ := s
  dsimp only at hs1'
  refine FnM.walk 33 Tryz.func52 rfl Tryz.ntmps52 (by simp) fun X => ?_
  refine EC.cut (ι := Unit) (fun _ => ⟨[(0, .val (dT t)), (2, .val (.v (.map (some m))))], [mpO m (s1c, s1e)], []⟩) ?_ ?_
  · by_cases hp : root = true ∨ 32 ≤ (pkB (itemT t)).length
    · rw [if_pos (by simpa using hp)] at hs1'
      obtain ⟨rfl, rfl⟩ := Prod.mk.inj hs1'
      clear hs1 hs1'
      generalize pkB (itemT t) = pb at hB hS hp
      cases root with
      | true =>
        repeat
          (first
           | (apply P_skip; (iterate 2 exact rfl))
           | (apply P_call (hB); exact rfl; (focus (repeat first | exact RefineL.refl _ _ | exact RL.nil | exact Rf.same | exact Rf.bs0 | exact Rf.sl0 | (apply Rf.fact; (focus (simp; done)); exact rfl) | apply Rf.tup | apply RL.cons)); (focus (intro _ _; simp [go_sem]; done)); (iterate 2 exact rfl))
           | (apply P_call (hS); exact rfl; (focus (repeat first | exact RefineL.refl _ _ | exact RL.nil | exact Rf.same | exact Rf.bs0 | exact Rf.sl0 | (apply Rf.fact; (focus (simp; done)); exact rfl) | apply Rf.tup | apply RL.cons)); (focus (intro _ _; simp [go_sem]; done)); (iterate 2 exact rfl))
           | (apply P_move; (iterate 3 exact rfl)) | (apply P_assign; (iterate 3 exact rfl)) | (apply P_pick; (iterate 4 exact rfl)) | (apply P_lit; (iterate 9 exact rfl))
           | (apply P_mapUpd; exact rfl; (focus (repeat first | exact .z | apply SetAt.s | apply SetAtF.s)); (iterate 4 exact rfl)) | apply EL.nil | ((with_reducible apply EK.then_normal); apply EK.code)
           | (apply EC.cond_true; exact rfl)
           | (with_reducible first | apply EC.seq | apply EC.region | apply EC.skip | apply EC.label | apply EC.block | apply EC.exit | apply EC.ret | apply EK.in_normal | apply EK.in_same | apply EK.in_ret | apply EK.then_ret | apply EK.then_exit))
        refine EK.then_normal (EK.meet () ?_)
        exact (Le.keep (by repeat first | exact trivial | refine ⟨rfl, ?_⟩) (by repeat first | exact List.nil_sublist _ | apply List.Sublist.cons_cons | apply List.Sublist.cons) (by simp))
      | false =>
        have hp : 32 ≤ pb.length := by simpa using hp
        repeat
          (first
           | (apply P_call (hB); exact rfl; (focus (repeat first | exact RefineL.refl _ _ | exact RL.nil | exact Rf.same | exact Rf.bs0 | exact Rf.sl0 | (apply Rf.fact; (focus (simp; done)); exact rfl) | apply Rf.tup | apply RL.cons)); (focus (intro _ _; simp [go_sem]; done)); (iterate 2 exact rfl))
           | (apply P_call (hS); exact rfl; (focus (repeat first | exact RefineL.refl _ _ | exact RL.nil | exact Rf.same | exact Rf.bs0 | exact Rf.sl0 | (apply Rf.fact; (focus (simp; done)); exact rfl) | apply Rf.tup | apply RL.cons)); (focus (intro _ _; simp [go_sem]; done)); (iterate 2 exact rfl))
           | (apply P_move; (iterate 3 exact rfl)) | (apply P_assign; (iterate 3 exact rfl)) | (apply P_pick; (iterate 4 exact rfl))
           | (apply P_cmp (b := true); (iterate 2 exact rfl); (focus (first | (simp [cmpI]; done) | (simp [cmpI]; omega))); (iterate 2 exact rfl)) | (apply P_lenbs; (iterate 4 exact rfl))
           | (apply P_lit; (iterate 9 exact rfl)) | (apply P_mapUpd; exact rfl; (focus (repeat first | exact .z | apply SetAt.s | apply SetAtF.s)); (iterate 4 exact rfl)) | apply EL.nil
           | ((with_reducible apply EK.then_normal); apply EK.code) | (apply EC.cond_true; exact rfl)
           | (with_reducible first | apply EC.seq | apply EC.region | apply EC.skip | apply EC.label | apply EC.block | apply EC.exit | apply EC.ret | apply EK.in_normal | apply EK.in_same | apply EK.in_ret | apply EK.then_ret | apply EK.then_exit))
        refine EK.then_normal (EK.meet () ?_)
        exact (Le.keep (by repeat first | exact trivial | refine ⟨rfl, ?_⟩) (by repeat first | exact List.nil_sublist _ | apply List.Sublist.cons_cons | apply List.Sublist.cons) (by simp))
    · rw [if_neg (by simpa using hp)] at hs1'
      obtain ⟨rfl, rfl⟩ := Prod.mk.inj hs1'
      clear hs1 hs1'
      generalize pkB (itemT t) = pb at hB hS hp
      cases root with
      | true => exact absurd (Or.inl rfl) hp
      | false =>
        have hp : ¬ 32 ≤ pb.length := by simpa using hp
        repeat
          (first
           | (apply P_call (hB); exact rfl; (focus (repeat first | exact RefineL.refl _ _ | exact RL.nil | exact Rf.same | exact Rf.bs0 | exact Rf.sl0 | (apply Rf.fact; (focus (simp; done)); exact rfl) | apply Rf.tup | apply RL.cons)); (focus (intro _ _; simp [go_sem]; done)); (iterate 2 exact rfl))
           | (apply P_move; (iterate 3 exact rfl)) | (apply P_assign; (iterate 3 exact rfl)) | (apply P_pick; (iterate 4 exact rfl))
           | (apply P_cmp (b := false); (iterate 2 exact rfl); (focus (first | (simp [cmpI]; done) | (simp [cmpI]; omega))); (iterate 2 exact rfl)) | (apply P_lenbs; (iterate 4 exact rfl)) | apply EL.nil
           | ((with_reducible apply EK.then_normal); apply EK.code) | (apply EC.cond_false; exact rfl)
           | (with_reducible first | apply EC.seq | apply EC.region | apply EC.skip | apply EC.label | apply EC.block | apply EC.exit | apply EC.ret | apply EK.in_normal | apply EK.in_same | apply EK.in_ret | apply EK.then_ret | apply EK.then_exit))
        refine EK.then_normal (EK.meet () ?_)
        exact (Le.keep (by repeat first | exact trivial | refine ⟨rfl, ?_⟩) (by repeat first | exact List.nil_sublist _ | apply List.Sublist.cons_cons | apply List.Sublist.cons) (by simp))
  · rintro ⟨⟩
    clear hs1 hs1' hS hB
    repeat
      (first
       | (apply P_call (hK); exact rfl; (focus (repeat first | exact RefineL.refl _ _ | exact RL.nil | exact Rf.same | exact Rf.bs0 | exact Rf.sl0 | (apply Rf.fact; (focus (simp; done)); exact rfl) | apply Rf.tup | apply RL.cons)); (focus (intro _ _; simp [go_sem]; done)); (iterate 2 exact rfl))
       | (apply P_move; (iterate 3 exact rfl)) | (apply P_lensl; (iterate 4 exact rfl)) | apply EL.nil | ((with_reducible apply EK.then_normal); apply EK.code)
       | (with_reducible first | apply EC.seq | apply EC.region | apply EC.skip | apply EC.label | apply EC.block | apply EC.exit | apply EC.ret | apply EK.in_normal | apply EK.in_same | apply EK.in_ret | apply EK.then_ret | apply EK.then_exit))
    refine EC.loop (ι := {i : Nat // i ≤ L.length})
      (fun i => ⟨[(25, .val (.v (.int .i64 (i.1 : Int)))), (24, .val (.v (.int .i64 ((L.map dT).length : Int)))), (23, .val (.sl 1 (L.map dT))), (2, .val (.v (.map (some m))))], [mpO m ((L.take i.1).foldl (fun s k => colT k false s) (s1c, s1e))], []⟩)
      (fun i => L.length - i.1) ⟨0, Nat.zero_le _⟩ ?_ ?_
    · exact (Le.keep (by repeat first | exact trivial | refine ⟨rfl, ?_⟩) (by repeat first | exact List.nil_sublist _ | apply List.Sublist.cons_cons | apply List.Sublist.cons) (by simp))
    rintro ⟨i, hi⟩
    dsimp only at hi ⊢
    by_cases hlt : i < L.length
    · have hd : (L.map dT)[i]? = some (dT L[i]) := by rw [List.getElem?_map, List.getElem?_eq_getElem hlt]; rfl
      have hk := H L[i] (List.getElem_mem hlt) ((L.take i).foldl (fun s k => colT k false s) (s1c, s1e))
      have hfold : (L.take (i + 1)).foldl (fun s k => colT k false s) (s1c, s1e) = colT L[i] false ((L.take i).foldl (fun s k => colT k false s) (s1c, s1e)) := by
        rw [List.take_succ_eq_append_getElem hlt, List.foldl_append]
        rfl
      have hsub := sub_Tn L[i]
      repeat
        (first
         | ((apply P_callMD (hk); (iterate 2 exact rfl); (focus (repeat first | exact RefineL.refl _ _ | exact RL.nil | exact Rf.same | exact Rf.bs0 | exact Rf.sl0 | (apply Rf.fact; (focus (simp; done)); exact rfl) | apply Rf.tup | apply RL.cons)); (focus (intro _ _; simp [go_sem]; done)); (iterate 2 exact rfl)))
         | (apply P_loadpd; (iterate 2 exact rfl); exact hsub; (iterate 2 exact rfl)) | (apply P_move; (iterate 3 exact rfl)) | (apply P_assign; (iterate 3 exact rfl))
         | (apply P_cmp (b := true); (iterate 2 exact rfl); (focus (first | (simp [cmpI]; done) | (simp [cmpI]; omega))); (iterate 2 exact rfl))
         | (apply P_ar; (iterate 3 exact rfl); (focus omega); (focus omega); (iterate 2 exact rfl))
         | (apply P_index; (iterate 4 exact rfl); (focus (first | exact ⟨by decide, rfl⟩ | (refine ⟨by omega, ?_⟩; rw [Int.toNat_natCast]; assumption))); (iterate 2 exact rfl)) | apply EL.nil
         | ((with_reducible apply EK.then_normal); apply EK.code) | (apply EC.cond_true; exact rfl)
         | (with_reducible first | apply EC.seq | apply EC.region | apply EC.skip | apply EC.label | apply EC.block | apply EC.exit | apply EC.ret | apply EK.in_normal | apply EK.in_same | apply EK.in_ret | apply EK.then_ret | apply EK.then_exit))
      rw [← hfold]
      refine EK.again ⟨i + 1, hlt⟩ (by dsimp only; omega) ?_
      simp only [Int.natCast_add]
      exact (Le.keep (by repeat first | exact trivial | refine ⟨rfl, ?_⟩) (by repeat first | exact List.nil_sublist _ | apply List.Sublist.cons_cons | apply List.Sublist.cons) (by simp))
    · obtain rfl : i = L.length := by omega
      rw [List.take_length]
      repeat
        (first
         | (apply P_cmp (b := false); (iterate 2 exact rfl); (focus (first | (simp [cmpI]; done) | (simp [cmpI]; omega))); (iterate 2 exact rfl)) | apply EL.nil
         | ((with_reducible apply EK.then_normal); apply EK.code) | (apply EC.cond_false; exact rfl)
         | (with_reducible first | apply EC.seq | apply EC.region | apply EC.skip | apply EC.label | apply EC.block | apply EC.exit | apply EC.ret | apply EK.in_normal | apply EK.in_same | apply EK.in_ret | apply EK.then_ret | apply EK.then_exit))
      exact EK.retM0s [mpO m (L.foldl (fun s k => colT k false s) (s1c, s1e))] rfl (by (repeat first | exact List.nil_sublist _ | apply List.Sublist.cons_cons | apply List.Sublist.cons)) ⟨rfl, rfl⟩
theorem kids_len (t : Tn) : (kidsT t).length ≤ 16 := by
  cases t with
  | nil => decide
  | leaf p v => exact Nat.zero_le _
  | ext p k => exact Nat.le_of_ble_eq_true rfl
  | br ks v =>
    have h := List.length_filter_le (fun t : Tn => !t.isNil) ((List.range 16).map ks)
    rw [List.length_map, List.length_range] at h
    exact h
theorem f_collect (m : Nat) : ∀ t : Tn, t.ok → ∀ (root : Bool) (s : Mp), FnM 52 [dT t, .v (.bool root), .v (.map (some m))] [mpO m s] (fun r os' => r = .tpl [] ∧ os' = [mpO m (colT t root s)]) := by
  intro t
  induction t with
  | nil => exact fun h root s => collect_of m .nil h root s (kids_len _) fun k hk => by cases hk
  | leaf p v => exact fun h root s => collect_of m (.leaf p v) h root s (kids_len _) fun k hk => by cases hk
  | ext p k ih =>
    intro h root s
    refine collect_of m (.ext p k) h root s (kids_len _) fun k' hk s => ?_
    rw [List.mem_singleton.1 hk]
    exact ih h.2 false s
  | br ks v ih =>
    intro h root s
    refine collect_of m (.br ks v) h root s (kids_len _) fun k' hk s => ?_
    have hx := (List.mem_filter.1 hk).1
    have : ∃ i, ks i = k' := by
      obtain ⟨i, _, e⟩ := List.mem_map.1 hx
      exact ⟨i, e⟩
    obtain ⟨i, e⟩ := this
    rw [← e]
    exact ih i (h i) false s
end E
end Go.Proofs.YtmlajcbabimkjaaGreat
/-
  Ranges over maps whose keys are arrays of bytes, inside a fence: laws for the walk.
  Conditions: none.
-/
namespace Go.Proofs.YtmlajcbabimkjaaGreat
set_option linter.unusedVariables false
open Go.RowKit Mono Rlp
open Go.ChangeMaps (setBlock)
namespace E
abbrev Ky (n : Nat) := {l : List UInt8 // l.length = n}
def kv {n : Nat} (k : Ky n) : Value := arrV k.1
theorem perm_out {es : List MapEntry} (hn : (es.map (·.born)).Nodup) {e : MapEntry} (he : e ∈ es) : es.Perm (e :: es.filter fun x => x.born != e.born) := by
  induction es with
  | nil => cases he
  | cons y es ih =>
    simp only [List.map_cons, List.nodup_cons] at hn
    rcases List.mem_cons.1 he with rfl | he
    · have : es.filter (fun x => x.born != e.born) = es := List.filter_eq_self.2 fun x hx => by
        have : x.born ≠ e.born := fun h => hn.1 (h ▸ List.mem_map.2 ⟨x, hx, rfl⟩)
        simpa using this
      simp [this]
    · have hne : y.born ≠ e.born := fun h => hn.1 (h ▸ List.mem_map.2 ⟨e, he, rfl⟩)
      have : (y :: es).filter (fun x => x.born != e.born) = y :: es.filter (fun x => x.born != e.born) := by simp [hne]
      rw [this]
      exact ((ih hn.2 he).cons y).trans (List.Perm.swap e y _)
theorem leftOf_push (es : Array MapEntry) (seen : Array Nat) (b : Nat) : (leftOf es (seen.push b)).toList = (leftOf es seen).toList.filter fun x => x.born != b := by
  unfold leftOf
  rw [Array.toList_filter, Array.toList_filter, List.filter_filter]
  refine List.filter_congr fun x _ => ?_
  rw [contains_push]
  cases seen.contains x.born <;> cases h : x.born == b <;> simp [bne, h]
def Rng (w : World) (b r : Nat) (es : Array MapEntry) (clock : Nat) (ss : List Value) (cnt : Nat) : Prop :=
  ∃ since seen c0, w.heap[b]? = some (.map es clock) ∧ w.heap[r]? = some (.mapIter (some b) since seen c0) ∧ (∀ x ∈ es.toList, x.born < since) ∧ since ≤ c0 ∧ since ≤ clock ∧ (leftOf es seen).size = cnt ∧ (ss ++ (leftOf es seen).toList.map (·.key)).Perm (es.toList.map (·.key))
variable {w : World} {b r cnt clock : Nat} {es : Array MapEntry} {ss : List Value}
theorem Rng.left_eq (h : Rng w b r es clock ss cnt) : w.rangeLeft b r = cnt := by
  obtain ⟨since, seen, c0, hb, hr, _, _, _, hc, _⟩ := h
  simp only [World.rangeLeft, hb, hr]
  exact hc
theorem Rng.le (h : Rng w b r es clock ss cnt) : ss.length + cnt = es.size := by
  obtain ⟨since, seen, c0, _, _, _, _, _, hc, hp⟩ := h
  have := hp.length_eq
  simp at this
  omega
theorem Rng.iter (h : Rng w b r es clock ss cnt) : ∃ o : Go.Obj, w.heap[r]? = some o ∧ o.isWalk = true := by
  obtain ⟨since, seen, c0, _, hr, _⟩ := h
  exact ⟨_, hr, rfl⟩
theorem Rng.lt (h : Rng w b r es clock ss cnt) : b < w.heap.size ∧ r < w.heap.size := by
  obtain ⟨since, seen, c0, hb, hr, _⟩ := h
  exact ⟨(Array.getElem?_eq_some_iff.1 hb).1, (Array.getElem?_eq_some_iff.1 hr).1⟩
theorem Rng.kept {w' : World} (h : Rng w b r es clock ss cnt) (hb : w'.heap[b]? = w.heap[b]?) (hr : w'.heap[r]? = w.heap[r]?) : Rng w' b r es clock ss cnt := by
  obtain ⟨since, seen, c0, h1, h2, rest⟩ := h
  exact ⟨since, seen, c0, hb.trans h1, hr.trans h2, rest⟩
theorem Rng.walks {w' : World} (h : Rng w b r es clock ss cnt) (hk : KeepsWalks w w') : Rng w' b r es clock ss cnt := by
  obtain ⟨since, seen, c0, h1, h2, rest⟩ := h
  exact ⟨since, seen, c0, hk.same _ _ h1 rfl, hk.same _ _ h2 rfl, rest⟩
theorem Rng.start (hb : w.heap[b]? = some (.map es clock)) (hl : ∀ x ∈ es.toList, x.born < clock) : Rng (w.alloc (.mapIter (some b) clock #[] clock)) b w.heap.size es clock [] es.size := by
  have hlt := (Array.getElem?_eq_some_iff.1 hb).1
  refine ⟨clock, #[], clock, ((MapKept.heap_alloc w _).2 b hlt).trans hb, (MapKept.heap_alloc w _).1, hl, Nat.le_refl _, Nat.le_refl _, ?_, ?_⟩
  · simp [leftOf]
  · simp [leftOf]
    rw [List.filter_eq_self.2 fun _ _ => rfl]
theorem Rng.next (h : Rng w b r es clock ss cnt) (hn : (es.toList.map (·.born)).Nodup) (ty : TypeId) :
    (cnt = 0 ∧ ss.Perm (es.toList.map (·.key)) ∧ (Instr.next (.pointer (some ⟨r, 0, none⟩)) false ty).run Tryz.prog w = .ok (.tuple #[.bool false]) w) ∨
    ∃ e ∈ es.toList, ∃ w' cnt', (Instr.next (.pointer (some ⟨r, 0, none⟩)) false ty).run Tryz.prog w = .ok (.tuple #[.bool true, e.key, e.val]) w' ∧ Rng w' b r es clock (ss ++ [e.key]) cnt' ∧ cnt' < cnt ∧ w.grownBy w' (some r) ∧ w'.heap.size = w.heap.size ∧ (Instr.entry (.pointer (some ⟨r, 0, none⟩))).run Tryz.prog w' = .ok (.tuple #[e.key, e.val]) w' := by
  obtain ⟨since, seen, c0, hb, hr, hold, hsc, hsk, rfl, hp⟩ := h
  have hne : r ≠ b := fun e => by rw [e, hb] at hr; cases hr
  rcases run_next_at (P := Tryz.prog) w ty r b since c0 seen es clock hr hb hold hsc with ⟨h0, hrun⟩ | ⟨e, he, w1, hal, hrun⟩
  · refine .inl ⟨h0, ?_, hrun⟩
    have : leftOf es seen = #[] := Array.eq_empty_of_size_eq_zero h0
    rw [this] at hp
    simpa using hp
  · obtain ⟨hem, hes⟩ := mem_left he
    have hr1 : w1.heap[r]? = some (.mapIter (some b) since seen c0) := by rcases hal with rfl | rfl <;> exact hr
    have hb1 : w1.heap[b]? = some (.map es clock) := by rcases hal with rfl | rfl <;> exact hb
    have hset := MapKept.heap_set (o' := .mapIter (some b) since (seen.push e.born) clock) hr1
    have hb' : (setBlock w1 r (.mapIter (some b) since (seen.push e.born) clock)).heap[b]? = some (.map es clock) := (hset.2 b (fun e1 => hne e1.symm)).trans hb1
    refine .inr ⟨e, hem, _, _, hrun, ⟨since, seen.push e.born, clock, hb', hset.1, hold, hsk, hsk, rfl, ?_⟩, left_shrinks es seen e he, ?_, ?_, run_entry_at _ r b since seen es clock e hset.1 hb' hem hn⟩
    · have hnl : ((leftOf es seen).toList.map (·.born)).Nodup := by
        unfold leftOf
        rw [Array.toList_filter]
        exact hn.sublist (List.filter_sublist.map _)
      have h1 := (perm_out hnl he).map (·.key)
      rw [← leftOf_push] at h1
      refine List.Perm.trans ?_ hp
      rw [List.append_assoc]
      exact (List.Perm.append_left ss h1).symm
    · rcases hal with rfl | rfl <;> exact ⟨rfl, rfl, rfl, by simp [setBlock], fun i _ hi => hset.2 i (fun e1 => hi (by rw [e1]))⟩
    · rcases hal with rfl | rfl <;> simp [setBlock]
section
variable {n : Nat} {ops : Array Oper} {rest : List Oper} {o : Oper} {a : Act} {Q : Exit → Act → World → Prop} {F : Fence}
theorem in_val (hg : o.guard = none) (ha : ∀ f, o.about Tryz.prog w a.eval = some f → F.fn f) (hd : ∀ c, o.op ≠ .defer c) {v : Value} {w' : World} (hr : (execOp a.eval o).run Tryz.prog w = .ok (.value v) w') (k : wpListIn F n Tryz.prog ops Q rest (a.put o.dst v) w') : wpListIn F n Tryz.prog ops Q (o :: rest) a w := by
  refine wpListIn_plain hg fun K hK => ⟨ha, ?_⟩
  rw [Oper.semAt_plain F _ _ hd, hr]
  exact hK _ _ k
theorem in_range (hg : o.guard = none) (m : Operand) (t k e : TypeId) (hop : o.op = Op.range t m) (ht : Tryz.prog.underlying t = some (.map k e)) (hm : a.eval m = .map (some b)) (hb : w.heap[b]? = some (.map es clock))
    (K : wpListIn F n Tryz.prog ops Q rest (a.put o.dst (.pointer (some ⟨w.heap.size, 0, none⟩))) (w.alloc (.mapIter (some b) clock #[] clock))) : wpListIn F n Tryz.prog ops Q (o :: rest) a w := by
  refine in_val hg (by simp [Oper.about, hop]) (by rw [hop]; intro c h; cases h) ?_ K
  simp [execOp, hop, hm, run_range_map w t k e b es clock ht hb, Result.andThen]
theorem in_next (hg : o.guard = none) (it : Operand) (hop : o.op = Op.next it false) (hit : a.eval it = .pointer (some ⟨r, 0, none⟩)) (h : Rng w b r es clock ss cnt) (hn : (es.toList.map (·.born)).Nodup)
    (hDone : cnt = 0 → ss.Perm (es.toList.map (·.key)) → wpListIn F n Tryz.prog ops Q rest (a.put o.dst (.tuple #[.bool false])) w)
    (hMore : ∀ (e : MapEntry) (w' : World) (cnt' : Nat), e ∈ es.toList → Rng w' b r es clock (ss ++ [e.key]) cnt' → cnt' < cnt → w.grownBy w' (some r) → w'.heap.size = w.heap.size → (Instr.entry (.pointer (some ⟨r, 0, none⟩))).run Tryz.prog w' = .ok (.tuple #[e.key, e.val]) w' → wpListIn F n Tryz.prog ops Q rest (a.put o.dst (.tuple #[.bool true, e.key, e.val])) w') :
    wpListIn F n Tryz.prog ops Q (o :: rest) a w := by
  rcases h.next hn o.type with ⟨h0, hp, hrun⟩ | ⟨e, he, w', cnt', hrun, hrg, hlt, hgr, hsz, hen⟩
  · refine in_val hg (by simp [Oper.about, hop]) (by rw [hop]; intro c h; cases h) ?_ (hDone h0 hp)
    simp [execOp, hop, hit, hrun, Result.andThen]
  · refine in_val hg (by simp [Oper.about, hop]) (by rw [hop]; intro c h; cases h) ?_ (hMore e w' cnt' he hrg hlt hgr hsz hen)
    simp [execOp, hop, hit, hrun, Result.andThen]
theorem in_store {g t : Nat} {l : List UInt8} {cs : List Value} (hg : o.guard = none) (T : TypeId) (x y : Operand) (hop : o.op = Op.store T x y) (hT : assoc tyL T = some (l.length, true)) (hx : a.eval x = .pointer (some ⟨g, 0, none⟩)) (hy : a.eval y = arrV l) (hb : w.heap[g]? = some (.cells cs.toArray t (0, 0))) (hs : cs.length = l.length)
    (K : ∀ w', w'.heap[g]? = some (.cells (bvs l).toArray t (0, 0)) → w.grownBy w' (some g) → w'.heap.size = w.heap.size → wpListIn F n Tryz.prog ops Q rest (a.put o.dst undef) w') : wpListIn F n Tryz.prog ops Q (o :: rest) a w := by
  have hr : Reads (fun _ => True) w (.arr l.length l) (bvs l) := by rw [Reads]; exact ⟨rfl, rfl⟩
  obtain ⟨_, _, _, hT'⟩ := tyI hT
  have hrun := run_storeAt (T := T) (n := 0) (pre := []) (mid := cs) (post := []) (by rw [hT', Reads.len _ _ hr]; rfl) hr (by simpa using hb) rfl (by rw [bvs_length, hs])
  have hset := setCells_row (bvs l) [] cs [] w (by rw [bvs_length, hs]) (by simpa using hb)
  simp only [List.length_nil, List.nil_append, List.append_nil] at hset
  have hsz : (w.setCells g 0 (bvs l)).heap.size = w.heap.size := by
    have h : ∀ (vs : List Value) (k : Nat) (w : World), (w.setCells g k vs).heap.size = w.heap.size := fun vs => by
      induction vs with
      | nil => intro k w; rfl
      | cons v vs ih =>
        intro k w
        rw [World.setCells, ih]
        show (w.heap.modify _ _).size = _
        rw [Array.size_modify]
    exact h _ _ _
  refine wpListIn_plain hg fun K' hK => ⟨by simp [Oper.about, hop], ?_⟩
  rw [Oper.semAt_plain F _ _ (by rw [hop]; intro c h; cases h)]
  have hrun' : (Instr.storeAt T (.pointer (some ⟨g, 0, none⟩)) (arrV l)).run Tryz.prog w = .ok () (w.setCells g 0 (bvs l)) := hrun
  simp only [execOp, hop, hx, hy, Sem.run_bind, hrun', Result.andThen_ok, Sem.run_pure]
  exact hK _ _ (K _ hset (grownBy_setCells g (bvs l) 0 w) hsz)
theorem in_load {g t : Nat} {l : List UInt8} (hg : o.guard = none) (T : TypeId) (x : Operand) (hop : o.op = Op.load T x) (hT : assoc tyL T = some (l.length, true)) (hx : a.eval x = .pointer (some ⟨g, 0, none⟩)) (hb : w.heap[g]? = some (.cells (bvs l).toArray t (0, 0)))
    (K : wpListIn F n Tryz.prog ops Q rest (a.put o.dst (arrV l)) w) : wpListIn F n Tryz.prog ops Q (o :: rest) a w := by
  have hr : Reads (fun _ => True) w (.arr l.length l) (bvs l) := by rw [Reads]; exact ⟨rfl, rfl⟩
  refine in_val hg (by simp [Oper.about, hop]) (by rw [hop]; intro c h; cases h) ?_ K
  have hrun : (Instr.loadAt T (.pointer (some ⟨g, 0, none⟩))).run Tryz.prog w = .ok (arrV l) w := run_loadAt (d := .arr l.length l) (tyI hT) hr (range_of_row hb)
  simp only [execOp, hop, hx, Sem.run_bind, hrun, Result.andThen_ok, Sem.run_pure]
end
end E
end Go.Proofs.YtmlajcbabimkjaaGreat
/-
  The iterator of maps.Keys, at keys that are arrays of bytes.
  Conditions: none.
-/
namespace Go.Proofs.YtmlajcbabimkjaaGreat
set_option linter.unusedVariables false
open Go.RowKit Mono Rlp
open Go.ChangeMaps (setBlock)
namespace E
set_option maxRecDepth 100000 in
set_option maxHeartbeats 2000000 in
theorem keys1_word (n l Bm b : Nat) (hn1 : 1 ≤ n) (es : Array MapEntry) (clock : Nat) (J Jx : List (Ky 32) → World → Prop)
    (hY : ∀ pre x W, J pre W → pre.length < es.size → YieldAt Fence.wide (n - 1) Tryz.prog l #[kv x] W fun e W' => (e = .returned (.bool true) ∧ J (pre ++ [x]) W' ∧ KeepsWalks W W') ∨ (e = .returned (.bool false) ∧ Jx (pre ++ [x]) W'))
    (W : World) (hJ : AbidesFrom W.heap.size J) (hm : W.cell? ⟨Bm, 0, none⟩ = some (.map (some b))) (hb : W.heap[b]? = some (.map es clock)) (hn : (es.toList.map (·.born)).Nodup) (hl : ∀ x ∈ es.toList, x.born < clock) (hkey : ∀ x ∈ es.toList, ∃ k : Ky 32, x.key = kv k) (h0 : J [] W) :
    CallsIn Fence.wide n Tryz.prog 113 #[.func (.yield l) #[] #[], .pointer (some ⟨Bm, 0, none⟩)] W fun e W' => (∃ v, e = .returned v) ∧ ((∃ ss : List (Ky 32), (ss.map kv).Perm (es.toList.map (·.key)) ∧ J ss W') ∨ (∃ pre : List (Ky 32), True ∧ Jx pre W')) := by
  refine callsIn_of_wp Tryz.func113 rfl trivial ?_ rfl
  simp only [Tryz.ntmps113, List.size_toArray, List.length_cons, List.length_nil, Nat.reduceAdd, Nat.reduceSub, Array.replicate_succ, Array.replicate_zero, List.push_toArray, List.append_toArray, List.nil_append, List.cons_append]
  have hrg0 := Rng.start hb hl
  have hJ0 := hJ [] W _ none h0 (World.grownBy_alloc W (.mapIter (some b) clock #[] clock) none) (fun r e => by cases e)
  have hlt0 : W.heap.size < (W.alloc (.mapIter (some b) clock #[] clock)).heap.size := by simp
  gi_wp2_with (first
    | (gi_at_range; refine in_range rfl _ 105 29 30 rfl Tryz.underlying105 rfl hb ?_)
    | gi_in)
  go_frame
  generalize W.alloc (.mapIter (some b) clock #[] clock) = w0 at hrg0 hJ0 hlt0 ⊢
  gi_loopw [3] (fun _ wr => ∃ (cnt : Nat) (ss : List (Ky 32)), Rng wr b W.heap.size es clock (ss.map kv) cnt ∧ J ss wr)
    (fun _ wr => wr.rangeLeft b W.heap.size)
  case atStart =>
    exact ⟨_, [], hrg0, hJ0⟩
  case round =>
    obtain ⟨cnt, ss, hrg, hJs⟩ := hrel
    gi_wp2_with (first
      | (gi_at_next; refine in_next rfl _ rfl rfl hrg hn ?_ ?_)
      | gi_in)
    · intro hc0 hp
      gi_wp2
      go_end0
      exact ⟨⟨_, rfl⟩, .inl ⟨ss, hp, hJs⟩⟩
    · intro e w2 cnt2 he hrg2 hlt hg2 hs2 hen
      obtain ⟨x, hx⟩ := hkey e (by simpa using he)
      have hlen : ss.length < es.size := by have := hrg.le; simp at this; omega
      have hJ2 : J ss w2 := hJ ss wr w2 (some W.heap.size) hJs hg2 (fun r e => by cases e; exact ⟨Nat.le_refl _, hrg.iter⟩)
      rw [hx] at hen hrg2 ⊢
      clear hs2
      have hlt2 := hrg2.lt
      gi_wp2_with (first
        | (guard_target = wpListIn _ _ _ _ _ (Oper.mk _ (Op.store _ _ _) _ _ _ _ :: _) _ _; refine in_store (l := x.1) (cs := List.replicate 32 (.int .u8 0)) rfl _ _ _ rfl (by rw [x.2]; rfl) rfl rfl (World.alloc_heap_new w2 _) (by rw [x.2]; rfl) ?_
           intro w4 hb4 hg4 hs4
           have hg24 : w2.grownBy w4 none := ⟨hg4.os.trans rfl, hg4.tape.trans rfl, hg4.output.trans rfl, by rw [hs4]; simp, fun i hi _ => (hg4.block i (by simp; omega) (fun e => by cases e; omega)).trans ((MapKept.heap_alloc w2 _).2 i hi)⟩
           have hJ4 : J ss w4 := hJ ss w2 w4 none hJ2 hg24 (fun r e => by cases e)
           have hrg4 := hrg2.kept (hg24.block b hlt2.1 (by simp)) (hg24.block W.heap.size hlt2.2 (by simp))
           obtain ⟨fn, tmps, assign, body, hy, hR⟩ := hY ss x w4 hJ4 hlen
           rw [show kv x = arrV x.1 from rfl] at hy
           have hb4' := Lib.hid hb4
           clear hb4 hs4 hg4 hg24)
        | (guard_target = wpListIn _ _ _ _ _ (Oper.mk _ (Op.load _ _) _ _ _ _ :: _) _ _; refine in_load (l := x.1) rfl _ _ rfl (by rw [x.2]; rfl) rfl hb4'.out ?_)
        | gi_in)
      refine hR.mono ?_
      rintro e W3 (⟨rfl, hJ3, hk3⟩ | ⟨rfl, hJx3⟩)
      · gi_wp2
        have hrg3 := hrg4.walks hk3
        go_roundw
        case rel => exact ⟨cnt2, ss ++ [x], by simpa using hrg3, hJ3⟩
        case measure => rw [hrg3.left_eq, hrg.left_eq]; exact hlt
      · gi_wp2
        refine bodyPost_ret (results_none rfl _ _ _) rfl ?_
        exact ⟨⟨_, rfl⟩, .inr ⟨ss ++ [x], trivial, hJx3⟩⟩
end E
end Go.Proofs.YtmlajcbabimkjaaGreat
/-
  slices.AppendSeq, slices.Collect at arrays of bytes, against whatever iterator value.
  Conditions: none.
-/
namespace Go.Proofs.YtmlajcbabimkjaaGreat
set_option linter.unusedVariables false
open Go.RowKit Mono Rlp
namespace E
theorem rows_in {l n : Nat} {P : Program} {row : String} {args : Array Value} {w : World} {R : Value → World → Prop} (h : Rows P row args w R) : RowsIn (Fence.wide.inRound l) n P row args w R := fun c cs _ => by
  obtain ⟨v, w', h1, h2⟩ := h c cs
  exact ⟨v, w', h1, stepsIn_wide.2 h2⟩
theorem op_in {l n : Nat} {P : Program} {o : Oper} {a : Act} {w : World} {K K' : Act → World → Prop} {Q : Exit → Act → World → Prop} (hQ : ¬ LetsOut Q) (hd : ∀ c, o.op ≠ .defer c) (hK : ∀ a w, K a w → K' a w) (h : o.wp P a w K Q ∨ (o.asks P a w ∧ LetsOut Q)) : o.wpIn (Fence.wide.inRound l) n P a w K' Q := by
  rcases h with h | ⟨_, h⟩
  · refine ⟨fun _ _ => trivial, ?_⟩
    rw [Oper.semAt_plain _ _ _ hd]
    unfold Oper.wp at h
    cases hr : (execOp a.eval o).run P w with
    | ok x w' =>
      rw [hr] at h
      cases x with
      | value v => exact hK _ _ h
      | skip => exact hK _ _ h
      | defer d => exact hK _ _ h
      | enter f args =>
        refine ⟨fun h => by simp [Fence.wide] at h, CallsIn.inRound l (callsIn_wide.2 (Calls.mono h ?_))⟩
        intro e w'' he
        cases e with
        | returned v => exact hK _ _ he
        | panicked c => exact he
        | outgrown => exact he
      | row row args => exact ⟨fun h => by simp [Fence.wide] at h, rows_in (fun c cs => by obtain ⟨v, w', h1, h2⟩ := h c cs; exact ⟨v, w', hK _ _ h1, h2⟩)⟩
      | _ => exact h.elim
    | halt x w' =>
      rw [hr] at h
      cases x <;> first | exact h | exact h.elim
  · exact absurd h hQ
theorem list_in {l n : Nat} {P : Program} {ops : Array Oper} {Q : Exit → Act → World → Prop} (hQ : ¬ LetsOut Q) : ∀ (rest : List Oper), (∀ o ∈ rest, ∀ c, o.op ≠ .defer c) → ∀ a w, wpList P ops Q rest a w → wpListIn (Fence.wide.inRound l) n P ops Q rest a w
  | [], _, a, w, h => h
  | o :: rest, hd, a, w, h => by
    rw [wpList] at h
    rw [wpListIn]
    have ih := list_in (l := l) (n := n) (P := P) (ops := ops) hQ rest fun o ho => hd o (List.mem_cons_of_mem _ ho)
    split
    · rename_i hw
      rw [if_pos hw] at h
      exact op_in hQ (hd o (by simp)) ih h
    · rename_i hw
      rw [if_neg hw] at h
      exact ⟨fun _ _ => trivial, ih _ _ h⟩
def kc {n : Nat} (k : Ky n) : List Value := bvs k.1
def dK {n : Nat} (k : Ky n) : D := .arr n k.1
theorem rows_keys {ok : Nat → Prop} {w : World} {n : Nat} : ∀ (ks : List (Ky n)), ReadsRows ok w n (ks.map dK) (ks.map kc)
  | [] => by rw [List.map_nil, ReadsRows]; rfl
  | k :: ks => by
    rw [List.map_cons, ReadsRows]
    exact ⟨kc k, _, rfl, by unfold kc; rw [bvs_length, k.2], by unfold dK; rw [Reads]; exact ⟨k.2, rfl⟩, rows_keys ks⟩
theorem keys_rows {ok : Nat → Prop} {w : World} {n : Nat} : ∀ (ks : List (Ky n)) (rows : List (List Value)), ReadsRows ok w n (ks.map dK) rows → rows = ks.map kc
  | [], rows, h => by rw [List.map_nil, ReadsRows] at h; exact h
  | k :: ks, rows, h => by
    rw [List.map_cons, ReadsRows] at h
    obtain ⟨r, rest, rfl, _, h2, h3⟩ := h
    unfold dK at h2
    rw [Reads] at h2
    rw [keys_rows ks rest h3, h2.2]
    rfl
theorem owns_up {w : World} {e : TypeId} {z : Nat} {v : Value} {k : Nat} {xs : List Value} {base : Nat} (h : w.ownsRow 0 e z v k xs) (hb : ∀ b, v.ownBlock = some b → base ≤ b) : w.ownsRow base e z v k xs := by
  refine ⟨h.1, h.2.imp id fun ⟨g, cap, cur, h1, h2, h3⟩ => ⟨g, cap, cur, h1, hb g (by rw [h1]; rfl), h3⟩⟩
theorem owns_low {w : World} {e : TypeId} {z : Nat} {v : Value} {k : Nat} {xs : List Value} {base : Nat} (h : w.ownsRow base e z v k xs) : w.ownsRow 0 e z v k xs :=
  ⟨h.1, h.2.imp id fun ⟨g, cap, cur, h1, _, h3⟩ => ⟨g, cap, cur, h1, Nat.zero_le _, h3⟩⟩
theorem owns_one {w : World} {e : TypeId} {z : Nat} {v : Value} {k : Nat} {xs : List Value} {base : Nat} (h : w.ownsRow base e z v k xs) : v.oneCell' = true := by
  rcases h.2 with ⟨rfl, _⟩ | ⟨g, cap, cur, rfl, _⟩ <;> rfl
set_option maxRecDepth 100000 in
set_option maxHeartbeats 4000000 in
theorem appendSeq_word (n : Nat) (hn : 2 ≤ n) (gf : Nat) (lb : Array Value) (eg : ∀ args w, (callFunc gf args).run Tryz.prog w = .ok (.enter gf args) w) (S Sp : List (Ky 32) → Prop) (N : Nat) (hN : N * 32 ≤ 140737488355328) (w : World)
    (hseq : SeqStopsK Fence.wide (n - 1) Tryz.prog gf lb (fun x : Ky 32 => #[kv x]) KeepsWalks S Sp N w) :
    CallsIn Fence.wide n Tryz.prog 134 #[.slice none 0 0, .func (.func gf) #[] lb] w fun e W' => ∃ v ss, e = .returned v ∧ S ss ∧ W'.ownsRow w.heap.size 29 32 v ss.length (ss.map kc).flatten ∧ (v = .slice none 0 0 ↔ ss = []) ∧ Below w.heap.size w W' := by
  refine callsIn_of_wp_marks Tryz.func134 rfl trivial ?_ rfl
  simp only [Tryz.ntmps134, List.size_toArray, List.length_cons, List.length_nil, Nat.reduceAdd, Nat.reduceSub, Array.replicate_succ, Array.replicate_zero, List.push_toArray, List.append_toArray, List.nil_append, List.cons_append]
  gi_wp2
  have bO := Boxed.new w 153 (.slice none 0 0)
  have hB0 : Below w.heap.size w (w.alloc (.cells #[.slice none 0 0] 153)) := (Below.refl _ w).alloc (Nat.le_refl _) _
  refine wpIn_rangeFunc_ownH rfl (by omega) (gf := gf) (lb := lb) rfl trivial eg hseq walksK_t walksK_b hB0 (fun _ => rfl)
    (fun pre W => (∃ v, Boxed W w.heap.size 153 v ∧ W.ownsRow w.heap.size 29 32 v pre.length (pre.map kc).flatten ∧ (v = .slice none 0 0 ↔ pre = [])) ∧ Below w.heap.size w W)
    (fun _ _ _ => False)
    (OwnFrom.and (Own.from (holdsRow_own w.heap.size w.heap.size 153 29 32 (fun pre : List (Ky 32) => pre.length) (fun pre => (pre.map kc).flatten) (fun pre v => v = .slice none 0 0 ↔ pre = [])) _) (ownFrom_below (Nat.le_refl _) (by simp)))
    (fun _ _ _ _ _ hs _ _ => hs)
    ⟨⟨_, bO, World.ownsRow_nil _ _ _ _, by simp⟩, hB0⟩
    (fun x a' W => ∃ Bx v, w.heap.size < Bx ∧ Boxed W w.heap.size 153 v ∧ v.ownBlock ≠ some Bx ∧ W.heap[Bx]? = some (.cells (bvs x.1).toArray 29 (0, 0)) ∧ a'.tmps.size = 13 ∧ a'.defers = [] ∧ a'.tmps.getD 2 undef = .pointer (some ⟨w.heap.size, 0, none⟩) ∧ a'.tmps.getD 5 undef = .pointer (some ⟨Bx, 0, none⟩))
    ?hAx ?assign ?body ?done ?stop
  case hAx =>
    rintro x a' s X Y row ⟨Bx, v, h1, h2, h3, h4, h5⟩ hg hr
    refine ⟨Bx, v, h1, h2.kept hg fun e => ?_, h3, (hg.block Bx (Array.getElem?_eq_some_iff.1 h4).1 fun e => ?_).trans h4, h5⟩
    · obtain ⟨_, o, ho, hc⟩ := hr _ e.symm
      rw [show X.heap[w.heap.size]? = _ from h2] at ho
      cases ho
      cases hc
    · obtain ⟨_, o, ho, hc⟩ := hr _ e.symm
      rw [h4] at ho
      cases ho
      cases hc
  case assign =>
    rintro l pre x W K ⟨⟨v, hv, hrow, hnil⟩, hB⟩ hK
    have e : ((#[7] : Array Tmp).zip #[kv x]).foldl (fun t (p, v) => t.setIfInBounds p v) #[.slice none 0 0, .func (.func gf) #[] lb, .pointer (some ⟨w.heap.size, 0, none⟩), undef, .slice none 0 0, undef, .func (.func gf) #[] lb, undef, undef, undef, undef, undef, undef] = #[.slice none 0 0, .func (.func gf) #[] lb, .pointer (some ⟨w.heap.size, 0, none⟩), undef, .slice none 0 0, undef, .func (.func gf) #[] lb, kv x, undef, undef, undef, undef, undef] := by simp
    rw [e]
    refine wpIn_region_lit (list_in (fun ⟨_, _, h⟩ => h) _ (by simp) _ _ ?_)
    have hat : At (⟨W, fun _ => False, fun _ => False, fun _ h => h.elim⟩ : Cx 13) ⟨[(7, .val (.arr 32 x.1)), (2, .val (.v (.pointer (some ⟨w.heap.size, 0, none⟩))))], [], []⟩ { tmps := #[.slice none 0 0, .func (.func gf) #[] lb, .pointer (some ⟨w.heap.size, 0, none⟩), undef, .slice none 0 0, undef, .func (.func gf) #[] lb, kv x, undef, undef, undef, undef, undef], defers := [] } W := by
      refine ⟨⟨.refl _, .nil, fun o ho => by simp at ho, fun f hf => by simp at hf⟩, fun t r h => ?_, rfl, rfl⟩
      simp only [look] at h
      split at h
      · rename_i e
        subst e
        cases h
        exact ⟨bvs x.1, by rw [Reads]; exact ⟨x.2, rfl⟩, rfl⟩
      · split at h
        · rename_i e
          subst e
          cases h
          exact readV_v.2 ⟨rfl, rfl⟩
        · cases h
    refine EL.go (Q := Exit.then K (fun _ _ _ => False)) (S := ⟨[(7, .val (.arr 32 x.1)), (2, .val (.v (.pointer (some ⟨w.heap.size, 0, none⟩))))], [], []⟩) ?_ _ _ hat
    repeat
      (first
       | (apply P_alloc; exact rfl; exact rfl; exact rfl; intro _) | (apply P_store; exact rfl; (focus (repeat first | exact .z | apply SetAt.s | apply SetAtF.s)); (iterate 4 exact rfl)) | apply EL.nil)
    refine ⟨fun a1 w1 h1 => ?_⟩
    rename_i Bx
    obtain ⟨⟨hgr, _, hat1, _⟩, hregs, hsz, hdf⟩ := h1
    obtain ⟨hbx, cs, hheap, hrd⟩ := hat1 _ (List.mem_cons_self ..)
    rw [Reads] at hrd
    rw [hrd.2] at hheap
    have hbx' : W.heap.size ≤ Bx := hbx.resolve_left id
    have hg : W.grownBy w1 none := ⟨hgr.os, hgr.tape, hgr.output, hgr.size, fun i hi _ => hgr.block i hi id⟩
    have hvl := hv.lt
    exact hK a1 w1 ((KeepsOthers.of_grownBy hg fun j o e _ => by cases e).from _) (KeepsWalks.of_grownBy hg fun j o e => by cases e) ⟨⟨v, hv.kept hg (by simp), hrow.kept hg (by cases v.ownBlock with | none => exact .inl rfl | some k => exact .inr (by simp)), hnil⟩, hB.grown hg hB.size fun k e => by cases e⟩
      ⟨Bx, v, by omega, hv.kept hg (by simp), fun e => by have := (hrow.lt _ e).2; omega, hheap, hsz, hdf, (readV_v.1 (hregs 2 _ rfl)).2, (readV_v.1 (hregs 5 _ rfl)).2⟩
  case body =>
    rintro l pre x a' W hl hrec ⟨⟨v, hv, hrow, hnil⟩, hB⟩ ⟨Bx, v2, h1, hv2, hne, hbx, hsz, hdf, ht2, ht5⟩ hlen
    obtain rfl : v2 = v := by
      have := (show W.heap[w.heap.size]? = _ from hv2).symm.trans hv
      simpa using this
    have hnr := hv.not_row (by decide) hrow
    have hlow : ∀ b, (b = w.heap.size ∨ b = Bx ∨ v2.ownBlock = some b) → w.heap.size ≤ b := fun b hb => by
      rcases hb with rfl | rfl | hb
      · exact Nat.le_refl _
      · omega
      · exact (hrow.lt _ hb).1
    have hcell : ∀ b o, (b = w.heap.size ∨ b = Bx ∨ v2.ownBlock = some b) → W.heap[b]? = some o → o.isCells = true ∧ o.isWalk = false := fun b o hb ho => by
      rcases hb with rfl | rfl | hb
      · rw [show W.heap[w.heap.size]? = _ from hv] at ho
        cases ho
        exact ⟨rfl, rfl⟩
      · rw [hbx] at ho
        cases ho
        exact ⟨rfl, rfl⟩
      · rcases hrow.2 with ⟨rfl, _⟩ | ⟨g, cap, cur, rfl, _, hgb, _⟩
        · cases hb
        · obtain rfl : g = b := by simpa [Value.ownBlock] using hb
          rw [hgb] at ho
          cases ho
          exact ⟨rfl, rfl⟩
    refine wpIn_block (wpIn_region_lit (list_in (fun ⟨_, _, h⟩ => h) _ (by simp) _ _ ?_))
    have hat : At (⟨W, fun _ => False, fun b => b = w.heap.size ∨ b = Bx ∨ v2.ownBlock = some b, fun _ h => h.elim⟩ : Cx 13) ⟨[(5, .val (.v (.pointer (some ⟨Bx, 0, none⟩)))), (2, .val (.v (.pointer (some ⟨w.heap.size, 0, none⟩))))], [.var w.heap.size 153 (.v v2), .row v2 29 32 (pre.map dK), .var Bx 29 (.arr 32 x.1)], []⟩ a' W := by
      refine ⟨⟨.refl _, ?_, fun o ho => ?_, fun f hf => by simp at hf⟩, fun t r h => ?_, hsz, hdf⟩
      · refine .cons (fun p hp b hb => ?_) (.cons (fun p hp b hb => ?_) (.cons (fun p hp => by simp at hp) .nil))
        · obtain rfl : w.heap.size = b := by simpa [Obj.blk] using hb
          rcases List.mem_cons.1 hp with rfl | hp
          · exact fun e => hnr e.symm
          · obtain rfl : p = _ := by simpa using hp
            simp only [Obj.blk, ne_eq, Option.some.injEq]
            omega
        · obtain rfl : p = _ := by simpa using hp
          simp only [Obj.blk] at hb ⊢
          exact fun e => hne (hb.trans e.symm)
      · rcases List.mem_cons.1 ho with rfl | ho
        · exact ⟨.inl (.inl rfl), [v2], hv, by rw [Reads]; exact ⟨owns_one hrow, rfl⟩⟩
        · rcases List.mem_cons.1 ho with rfl | ho
          · refine ⟨pre.map kc, ⟨?_, fun b hb => .inl (.inr (.inr hb))⟩, rows_keys pre⟩
            rw [List.length_map]
            exact owns_low hrow
          · obtain rfl : o = _ := by simpa using ho
            exact ⟨.inl (.inr (.inl rfl)), bvs x.1, hbx, by rw [Reads]; exact ⟨x.2, rfl⟩⟩
      · simp only [look] at h
        split at h
        · rename_i e
          subst e
          cases h
          exact readV_v.2 ⟨rfl, ht5⟩
        · split at h
          · rename_i e
            subst e
            cases h
            exact readV_v.2 ⟨rfl, ht2⟩
          · cases h
    refine EL.go (S := ⟨[(5, .val (.v (.pointer (some ⟨Bx, 0, none⟩)))), (2, .val (.v (.pointer (some ⟨w.heap.size, 0, none⟩))))], [.var w.heap.size 153 (.v v2), .row v2 29 32 (pre.map dK), .var Bx 29 (.arr 32 x.1)], []⟩) ?_ _ _ hat
    have hml : (pre.map dK).length = pre.length := List.length_map _
    have hl1 : ([D.arr 32 x.1] : List D).length = 1 := rfl
    repeat
      (first
       | (apply P_load; exact rfl; (first | exact I0 | exact I1 | exact I2 | exact I3 | exact I4 | exact I5 | exact I6); (iterate 4 exact rfl)) | (apply P_lit; (iterate 9 exact rfl))
       | (apply P_store; exact rfl; (focus (repeat first | exact .z | apply SetAt.s | apply SetAtF.s)); (iterate 4 exact rfl))
       | ((apply P_append; exact rfl; (focus (repeat first | exact .z | apply SetAt.s | apply SetAtF.s)); (iterate 5 exact rfl); (focus (constructor <;> (first | (simp; done) | (simp; omega))))); intro _)
       | apply EL.nil
       | (with_reducible first | apply EC.seq | apply EC.region | apply EC.skip | apply EC.label | apply EC.block | apply EC.exit | apply EC.ret | apply EK.in_normal | apply EK.in_same | apply EK.in_ret | apply EK.then_ret | apply EK.then_exit))
    refine ⟨fun a1 w1 h1 => ?_⟩
    rename_i v'
    obtain ⟨⟨hgr, _, hat1, _⟩, hregs, hsz', hdf'⟩ := h1
    obtain ⟨_, cs, hbox, hrd⟩ := hat1 _ (List.mem_cons_self ..)
    rw [Reads] at hrd
    rw [hrd.2] at hbox
    obtain ⟨rows, ⟨hrow', hbase⟩, hrows⟩ := hat1 _ (List.mem_cons_of_mem _ (List.mem_cons_self ..))
    have hds : pre.map dK ++ [D.arr 32 x.1] = (pre ++ [x]).map dK := by simp [dK]
    rw [hds] at hrow' hrows
    rw [keys_rows _ _ hrows, List.length_map] at hrow'
    have hown := owns_up (base := w.heap.size) hrow' fun b hb => by
      rcases hbase b hb with h | h
      · exact hlow b h
      · exact Nat.le_trans hB.size h
    have hsame : ∀ k, k < W.heap.size → ¬ (k = w.heap.size ∨ k = Bx ∨ v2.ownBlock = some k) → w1.heap[k]? = W.heap[k]? := hgr.block
    refine ⟨⟨hgr.size, fun k o _ h0 ho => ?_⟩, ⟨hgr.size, fun k o h0 ho => ?_⟩, ⟨⟨v', hbox, hown, ?_⟩, hB.trans ⟨hgr.os, hgr.tape, hgr.output, hgr.size, fun k hk => ?_⟩⟩⟩
    · refine (hsame k (Array.getElem?_eq_some_iff.1 h0).1 fun h => ?_).trans h0
      rw [(hcell k o h h0).1] at ho
      cases ho
    · refine (hsame k (Array.getElem?_eq_some_iff.1 h0).1 fun h => ?_).trans h0
      rw [(hcell k o h h0).2] at ho
      cases ho
    · constructor
      · rintro rfl
        rcases hown.2 with ⟨_, h0⟩ | ⟨g, cap, cur, h0, _⟩
        · simp at h0
        · simp at h0
      · intro h
        simp at h
    · exact hsame k (by have := hB.size; omega) fun h => by have := hlow k h; omega
  case done =>
    rintro D ys W hD hS ⟨⟨v, hv, hrow, hnil⟩, hB⟩ hK
    have hc := hv.cell
    gi_wp2
    refine ⟨by simp, .inl ⟨_, _, rfl, run_takeDeferred hK, ?_⟩⟩
    exact ⟨_, results_tmp rfl _ _ _, v, ys, rfl, hS, ownsRow_putObj hrow _ hK rfl, hnil, hB.trans (belowK_b (w := w) (Nat.le_refl _) W D _ _ (by simp at hD; omega) hK rfl rfl)⟩
  case stop =>
    rintro D c pre W _ _ h _
    exact h.elim
end E
end Go.Proofs.YtmlajcbabimkjaaGreat
/-
  The functions by which keys are sorted: they tell bytes.Compare's order, and make memory alone.
  Conditions: none.
-/
namespace Go.Proofs.YtmlajcbabimkjaaGreat
set_option linter.unusedVariables false
open Go.RowKit Mono Rlp Go.Sort
namespace E
theorem isB_box {w : World} {g n : Nat} {t : TypeId} {l : List UInt8} (h : w.heap[g]? = some (.cells (bvs l).toArray t (0, 0))) (hl : l.length = n) (hn : n ≤ 64) : IsB w (.slice (some ⟨g, 0, none⟩) n n) l := by
  subst hl
  refine ⟨some ⟨g, 0, none⟩, l.length, rfl, Nat.le_refl _, by simp [maxLen]; omega, fun _ => ⟨g, 0, rfl, (Array.getElem?_eq_some_iff.1 h).1, fun j u hu => ?_⟩⟩
  rw [cell_of_row w g (0 + j) _ t (0, 0) h]
  simpa using hu
theorem run_box_word (w : World) (l : List UInt8) : (Instr.box 29 (arrV l)).run Tryz.prog w = .ok (.pointer (some ⟨w.heap.size, 0, none⟩)) (w.alloc (.cells (bvs l).toArray 29)) := by kernel_rfl
theorem wpL_boxE_word {w : World} {ops : Array Oper} {rest : List Oper} {o : Oper} {a : Act} {Q : Exit → Act → World → Prop} {l : List UInt8} {x : Operand} (hgd : o.guard = none) (ho : o.op = .box 29 x) (hx : a.eval x = arrV l)
    (h : wpList Tryz.prog ops Q rest (a.put o.dst (.pointer (some ⟨w.heap.size, 0, none⟩))) (w.alloc (.cells (bvs l).toArray 29))) : wpList Tryz.prog ops Q (o :: rest) a w := by
  refine wpList_plain hgd fun _ hK => ?_
  have h1 := hK _ _ h
  unfold Oper.wp execOp
  simp only [ho, hx, Sem.run_bind, run_box_word, Result.andThen_ok, Sem.run_pure]
  exact h1
theorem run_slice_word (w : World) (g : Nat) : (Instr.sliceAt 29 (.pointer (some ⟨g, 0, none⟩)) none none none).run Tryz.prog w = .ok (.slice (some ⟨g, 0, none⟩) 32 32) w := by kernel_rfl
set_option maxRecDepth 100000 in
set_option maxHeartbeats 1000000 in
theorem cmp_word (l m : List UInt8) (hl : l.length = 32) (hm : m.length = 32) (w : World) : Calls Tryz.prog 79 #[arrV l, arrV m] w fun e w' => e = .returned (.int .i64 (cmpB l m)) ∧ ∃ q os', w' = grow (w.drewN q) os' := by
  have mixed : Tryz.prog.follows .mixedOrders = true := by kernel_rfl
  go_enter Tryz.func79, Tryz.ntmps79
  go_wp2_with (guard_target = wpList _ _ _ (Oper.mk _ (Op.box _ _) _ _ _ _ :: _) _ _; refine wpL_boxE_word rfl rfl rfl ?_)
  have h0 : ((w.alloc (.cells (bvs l).toArray 29)).alloc (.cells (bvs m).toArray 29)).heap[w.heap.size]? = some (.cells (bvs l).toArray 29 (0, 0)) := by
    rw [(MapKept.heap_alloc _ _).2 _ (by simp)]
    exact (MapKept.heap_alloc w _).1
  have h1 : ((w.alloc (.cells (bvs l).toArray 29)).alloc (.cells (bvs m).toArray 29)).heap[w.heap.size + 1]? = some (.cells (bvs m).toArray 29 (0, 0)) := by
    have := (MapKept.heap_alloc (w.alloc (.cells (bvs l).toArray 29)) (.cells (bvs m).toArray 29)).1
    simpa using this
  have hw : ∃ q os', (w.alloc (.cells (bvs l).toArray 29)).alloc (.cells (bvs m).toArray 29) = grow (w.drewN q) os' := ⟨0, _, by rw [alloc_eq_grow, alloc_eq_grow, grow_grow]; rfl⟩
  generalize (w.alloc (.cells (bvs l).toArray 29)).alloc (.cells (bvs m).toArray 29) = wq at h0 h1 hw ⊢
  have s0 : ∀ n, (Instr.sliceAt 29 (.pointer (some ⟨w.heap.size, 0, none⟩)) none none none).run Tryz.prog (wq.drewN n) = .ok (.slice (some ⟨w.heap.size, 0, none⟩) 32 32) (wq.drewN n) := fun n => run_slice_word _ _
  have s1 : ∀ n, (Instr.sliceAt 29 (.pointer (some ⟨w.heap.size + 1, 0, none⟩)) none none none).run Tryz.prog (wq.drewN n) = .ok (.slice (some ⟨w.heap.size + 1, 0, none⟩) 32 32) (wq.drewN n) := fun n => run_slice_word _ _
  have hc := Lib.hid fun n => bytes_CompareW _ _ l m (wq.drewN n) (isB_box h0 hl (by decide)) (isB_box h1 hm (by decide))
  clear h0 h1
  go_quiet_o ((go_at_call 65; exact (hc.out _).mono fun e w' ⟨he, hw⟩ => ⟨he, _, hw⟩))
  go_wp2_with fail
  obtain ⟨q, os', rfl⟩ := hw
  exact bodyPost_ret (results_tmp rfl _ _ _) rfl ⟨rfl, q + nq, os', by simp [grow, World.drewN, Nat.add_assoc]⟩
theorem swo (n : Nat) : SWO (Go.Proofs.ltOf fun x y : Ky n => cmpB x.1 y.1) := by
  have h : ∀ x y : Ky n, Go.Proofs.ltOf (fun x y : Ky n => cmpB x.1 y.1) x y = decide (x.1 < y.1) := fun x y => cmpB_lt x.1 y.1
  refine ⟨fun x => ?_, fun x y z h1 h2 => ?_, fun x y z h1 h2 => ?_⟩
  · rw [h]
    simp [List.lt_irrefl]
  · rw [h] at h1 h2 ⊢
    simp only [decide_eq_true_eq] at h1 h2 ⊢
    exact List.lt_trans h1 h2
  · rw [h] at h1 h2 ⊢
    simp only [decide_eq_false_iff_not, List.not_lt] at h1 h2 ⊢
    exact List.le_trans h2 h1
end E
end Go.Proofs.YtmlajcbabimkjaaGreat
/-
  The laying of slices.SortFunc, printed by the shelf's own tool.
  Conditions: none.
-/
namespace Go.Proofs.YtmlajcbabimkjaaGreat
open Go.Shelf
def sortWord_ren : Go.Shelf.Ren := ⟨fun | 6 => 112 | 15 => 129 | 14 => 135 | 28 => 148 | 29 => 149 | 20 => 151 | 21 => 152 | 22 => 153 | 23 => 154 | 24 => 155 | 25 => 156 | 26 => 157 | 27 => 158 | 46 => 165 | 47 => 160 | 48 => 161 | 49 => 166 | 50 => 167 | 57 => 171 | n => n, fun | 22 => 153 | 24 => 29 | 25 => 158 | 3 => 3 | 39 => 92 | 0 => 0 | 53 => 236 | 55 => 115 | 4 => 4 | 46 => 230 | 45 => 229 | 50 => 206 | 5 => 5 | 9 => 9 | 66 => 243 | 70 => 247 | 76 => 251 | 77 => 252 | n => n, fun | n => n⟩
theorem sortWord : Go.Proofs.SlLaysF0.n6 Tryz.prog sortWord_ren := {
  mixed := by kernel_rfl
  f6 := ⟨Tryz.f112.name, by decide, Tryz.func112.trans (congrArg some (by kernel_rfl))⟩
  f14 := ⟨Tryz.f135.name, by decide, Tryz.func135.trans (congrArg some (by kernel_rfl))⟩
  f15 := Tryz.func129.trans (congrArg some (by kernel_rfl))
  f20 := ⟨Tryz.f151.name, by decide, Tryz.func151.trans (congrArg some (by kernel_rfl))⟩
  f21 := ⟨Tryz.f152.name, by decide, Tryz.func152.trans (congrArg some (by kernel_rfl))⟩
  f22 := ⟨Tryz.f153.name, by decide, Tryz.func153.trans (congrArg some (by kernel_rfl))⟩
  f23 := ⟨Tryz.f154.name, by decide, Tryz.func154.trans (congrArg some (by kernel_rfl))⟩
  f24 := ⟨Tryz.f155.name, by decide, Tryz.func155.trans (congrArg some (by kernel_rfl))⟩
  f25 := ⟨Tryz.f156.name, by decide, Tryz.func156.trans (congrArg some (by kernel_rfl))⟩
  f26 := ⟨Tryz.f157.name, by decide, Tryz.func157.trans (congrArg some (by kernel_rfl))⟩
  f27 := ⟨Tryz.f158.name, by decide, Tryz.func158.trans (congrArg some (by kernel_rfl))⟩
  f28 := Tryz.func148.trans (congrArg some (by kernel_rfl))
  f29 := Tryz.func149.trans (congrArg some (by kernel_rfl))
  f46 := ⟨Tryz.f165.name, by decide, Tryz.func165.trans (congrArg some (by kernel_rfl))⟩
  f47 := Tryz.func160.trans (congrArg some (by kernel_rfl))
  f48 := Tryz.func161.trans (congrArg some (by kernel_rfl))
  f49 := ⟨Tryz.f166.name, by decide, Tryz.func166.trans (congrArg some (by kernel_rfl))⟩
  f50 := ⟨Tryz.f167.name, by decide, Tryz.func167.trans (congrArg some (by kernel_rfl))⟩
  f57 := ⟨Tryz.f171.name, by decide, Tryz.func171.trans (congrArg some (by kernel_rfl))⟩
  t0 := Tryz.underlying0
  a0 := Tryz.isAgg0
  z0 := Tryz.sizeOf0
  v0 := Tryz.zeroValue0
  t3 := Tryz.underlying3
  a3 := Tryz.isAgg3
  z3 := Tryz.sizeOf3
  v3 := Tryz.zeroValue3
  t4 := Tryz.underlying4
  a4 := Tryz.isAgg4
  z4 := Tryz.sizeOf4
  v4 := Tryz.zeroValue4
  t5 := Tryz.underlying5
  a5 := Tryz.isAgg5
  z5 := Tryz.sizeOf5
  v5 := Tryz.zeroValue5
  t9 := Tryz.underlying9
  a9 := Tryz.isAgg9
  z9 := Tryz.sizeOf9
  v9 := Tryz.zeroValue9
  t22 := Tryz.underlying153
  a22 := Tryz.isAgg153
  z22 := Tryz.sizeOf153
  v22 := Tryz.zeroValue153
  t25 := Tryz.underlying158
  a25 := Tryz.isAgg158
  z25 := Tryz.sizeOf158
  v25 := Tryz.zeroValue158
  t39 := Tryz.underlying92
  a39 := Tryz.isAgg92
  z39 := Tryz.sizeOf92
  v39 := Tryz.zeroValue92
  t45 := Tryz.underlying229
  a45 := Tryz.isAgg229
  z45 := Tryz.sizeOf229
  v45 := Tryz.zeroValue229
  t46 := Tryz.underlying230
  a46 := Tryz.isAgg230
  z46 := Tryz.sizeOf230
  v46 := Tryz.zeroValue230
  t50 := Tryz.underlying206
  a50 := Tryz.isAgg206
  z50 := Tryz.sizeOf206
  v50 := Tryz.zeroValue206
  t53 := Tryz.underlying236
  a53 := Tryz.isAgg236
  z53 := Tryz.sizeOf236
  v53 := Tryz.zeroValue236
  t55 := Tryz.underlying115
  a55 := Tryz.isAgg115
  z55 := Tryz.sizeOf115
  v55 := Tryz.zeroValue115
  t66 := Tryz.underlying243
  a66 := Tryz.isAgg243
  z66 := Tryz.sizeOf243
  v66 := Tryz.zeroValue243
  t70 := Tryz.underlying247
  a70 := Tryz.isAgg247
  z70 := Tryz.sizeOf247
  v70 := Tryz.zeroValue247
  t76 := Tryz.underlying251
  a76 := Tryz.isAgg251
  z76 := Tryz.sizeOf251
  v76 := Tryz.zeroValue251
  t77 := Tryz.underlying252
  a77 := Tryz.isAgg252
  z77 := Tryz.sizeOf252
  v77 := Tryz.zeroValue252 }
end Go.Proofs.YtmlajcbabimkjaaGreat
