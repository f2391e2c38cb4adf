/-
  Merged (wip/tools/merge.py): TP5, AN1, AN2.
  Conditions: none.
-/
import Derived.Test.YtmlajcbabimkjaaGreatZO16
import Derived.Test.YtmlajcbabimkjaaGreatZO17
/-
  trie.Long, ContainsFunc of it, SortFunc of pairs.
  Conditions: none.
-/
namespace Go.Proofs.YtmlajcbabimkjaaGreat
set_option linter.unusedVariables false
open Go.RowKit Mono Rlp Go.Sort
namespace E
def dPr (x : List UInt8 × List UInt8) : D := .tup [.bs x.1, .bs x.2]
theorem Fn.toMT {f : FuncId} {ds : List D} {Φ : R → Prop} (h : Fn f ds Φ) : FnM f ds [] (fun r os' => Φ r ∧ os' = []) := ⟨fun ok w xs hok hown hr => (h.go ok w xs hok hr).mono fun e w' ⟨hg, v, r, he, hΦ, hv⟩ =>
  ⟨v, r, [], he, ⟨hΦ, rfl⟩, ⟨.of hg, .nil, fun o ho => by simp at ho⟩, hv.mono (fun b hb => ⟨hb.1.elim .inl fun h => .inr (.inr h), hb.2, fun o ho => by simp at ho⟩) fun _ _ => rfl⟩⟩
def lg (x : List UInt8 × List UInt8) : Bool := decide (64 < x.1.length) || decide (1048576 < x.2.length)
set_option maxRecDepth 20000 in
theorem f_Long (x : List UInt8 × List UInt8) : Fn 101 [.bs x.1, .bs x.2] (· = .val (.v (.bool (lg x)))) := by
  unfold lg
  refine Fn.walk 13 Tryz.func101 rfl Tryz.ntmps101 (by simp) fun X => ?_
  by_cases h : 64 < x.1.length
  · rw [decide_eq_true h]
    repeat
      (first
       | (apply P_skip; (iterate 2 exact rfl)) | (apply P_move; (iterate 3 exact rfl)) | (apply P_assign; (iterate 3 exact rfl)) | (apply P_pick; (iterate 4 exact rfl))
       | (apply P_cmp (b := true); (iterate 2 exact rfl); (focus (first | (simp [cmpI]; done) | (simp [cmpI]; omega))); (iterate 2 exact rfl)) | (apply P_lenbs; (iterate 4 exact rfl)) | apply EL.nil
       | ((with_reducible apply EK.then_normal); apply EK.code)
       | (with_reducible first | apply EC.seq | apply EC.region | apply EC.skip | apply EC.label | apply EC.block | apply EC.exit | apply EC.ret | apply EK.in_normal | apply EK.in_same | apply EK.in_ret | apply EK.then_ret | apply EK.then_exit))
    exact EK.ret1 rfl rfl rfl
  · rw [decide_eq_false h]
    by_cases h2 : 1048576 < x.2.length
    · rw [decide_eq_true h2]
      repeat
        (first
         | (apply P_move; (iterate 3 exact rfl)) | (apply P_assign; (iterate 3 exact rfl)) | (apply P_pick; (iterate 4 exact rfl))
         | (apply P_cmp (b := true); (iterate 2 exact rfl); (focus (first | (simp [cmpI]; done) | (simp [cmpI]; omega))); (iterate 2 exact rfl))
         | (apply P_cmp (b := false); (iterate 2 exact rfl); (focus (first | (simp [cmpI]; done) | (simp [cmpI]; omega))); (iterate 2 exact rfl)) | (apply P_lenbs; (iterate 4 exact rfl)) | apply EL.nil
         | ((with_reducible apply EK.then_normal); apply EK.code)
         | (with_reducible first | apply EC.seq | apply EC.region | apply EC.skip | apply EC.label | apply EC.block | apply EC.exit | apply EC.ret | apply EK.in_normal | apply EK.in_same | apply EK.in_ret | apply EK.then_ret | apply EK.then_exit))
      exact EK.ret1 rfl rfl rfl
    · rw [decide_eq_false h2]
      repeat
        (first
         | (apply P_move; (iterate 3 exact rfl)) | (apply P_assign; (iterate 3 exact rfl)) | (apply P_pick; (iterate 4 exact rfl))
         | (apply P_cmp (b := false); (iterate 2 exact rfl); (focus (first | (simp [cmpI]; done) | (simp [cmpI]; omega))); (iterate 2 exact rfl)) | (apply P_lenbs; (iterate 4 exact rfl)) | apply EL.nil
         | ((with_reducible apply EK.then_normal); apply EK.code)
         | (with_reducible first | apply EC.seq | apply EC.region | apply EC.skip | apply EC.label | apply EC.block | apply EC.exit | apply EC.ret | apply EK.in_normal | apply EK.in_same | apply EK.in_ret | apply EK.then_ret | apply EK.then_exit))
      exact EK.ret1 rfl rfl rfl
theorem f_long1 (x : List UInt8 × List UInt8) : Fn 100 [dPr x] (· = .val (.v (.bool (lg x)))) := by
  have h1 := f_Long x
  unfold dPr
  refine Fn.walk 8 Tryz.func100 rfl Tryz.ntmps100 (by simp) fun X => ?_
  repeat
    (first
     | (apply P_call (h1); exact rfl; (focus (repeat first | exact RefineL.refl _ _ | exact RL.nil | exact Rf.same | exact Rf.bs0 | exact Rf.sl0 | (apply Rf.fact; (focus (simp; done)); exact rfl) | apply Rf.tup | apply RL.cons)); (focus (intro _ _; simp [go_sem]; done)); (iterate 2 exact rfl))
     | (apply P_assign; (iterate 3 exact rfl)) | (apply P_field; (iterate 6 exact rfl))
     | (apply P_load; exact rfl; (first | exact I0 | exact I1 | exact I2 | exact I3 | exact I4 | exact I5 | exact I6); (iterate 4 exact rfl)) | (apply P_box; exact rfl; exact rfl; exact rfl; intro _)
     | apply EL.nil | ((with_reducible apply EK.then_normal); apply EK.code)
     | (with_reducible first | apply EC.seq | apply EC.region | apply EC.skip | apply EC.label | apply EC.block | apply EC.exit | apply EC.ret | apply EK.in_normal | apply EK.in_same | apply EK.in_ret | apply EK.then_ret | apply EK.then_exit))
  exact EK.ret1 rfl rfl rfl
def lgAt : List (List UInt8 × List UInt8) → Nat → Int
  | [], _ => -1
  | x :: l, k => if lg x then (k : Int) else lgAt l (k + 1)
theorem lgAt_any : ∀ (l : List (List UInt8 × List UInt8)) (k : Nat), decide (lgAt l k ≥ 0) = l.any lg
  | [], k => rfl
  | x :: l, k => by
    rw [lgAt, List.any_cons]
    cases hx : lg x
    · simpa using lgAt_any l (k + 1)
    · simp
set_option maxRecDepth 20000 in
set_option maxHeartbeats 4000000 in
theorem f_indexP (l : List (List UInt8 × List UInt8)) : Fn 127 [.sl 2 (l.map dPr), .v (.func (.func 100) #[] #[])] (· = .val (.v (.int .i64 (lgAt l 0)))) := by
  refine Fn.walk 19 Tryz.func127 rfl Tryz.ntmps127 (by simp) fun X => ?_
  have hl : (l.map dPr).length = l.length := by rw [List.length_map]
  refine EC.lenOf (t := 0) rfl fun hmax => ?_
  rw [hl] at hmax
  unfold maxLen at hmax
  repeat
    (first
     | (apply P_move; (iterate 3 exact rfl)) | (apply P_assign; (iterate 3 exact rfl)) | (apply P_lensl; (iterate 4 exact rfl)) | apply EL.nil | ((with_reducible apply EK.then_normal); apply EK.code)
     | (with_reducible first | apply EC.seq | apply EC.region | apply EC.skip | apply EC.label | apply EC.block | apply EC.exit | apply EC.ret | apply EK.in_normal | apply EK.in_same | apply EK.in_ret | apply EK.then_ret | apply EK.then_exit))
  refine EC.loop (ι := {n : Nat // n ≤ l.length ∧ lgAt l 0 = lgAt (l.drop n) n})
    (fun n => ⟨[(8, .val (.v (.int .i64 (n.1 : Int)))), (7, .val (.v (.int .i64 ((l.map dPr).length : Int)))), (6, .val (.sl 2 (l.map dPr))), (4, .val (.v (.int .i64 0))), (0, .val (.sl 2 (l.map dPr))), (1, .val (.v (.func (.func 100) #[] #[])))], [], []⟩)
    (fun n => l.length - n.1) ⟨0, by omega, by rw [List.drop_zero]⟩ ?_ ?_
  · exact (Le.keep (by repeat first | exact trivial | refine ⟨rfl, ?_⟩) (by repeat first | exact List.nil_sublist _ | apply List.Sublist.cons_cons | apply List.Sublist.cons) (by simp))
  rintro ⟨n, hn, hI⟩
  dsimp only
  by_cases hlt : n < l.length
  · have hat : (l.map dPr)[n]? = some (.tup [.bs l[n].1, .bs l[n].2]) := by rw [List.getElem?_map, List.getElem?_eq_getElem hlt]; rfl
    have hc := f_long1 l[n]
    rw [List.drop_eq_getElem_cons hlt, lgAt] at hI
    unfold dPr at hc
    cases hg : lg l[n] with
    | true =>
      rw [hg] at hc hI
      repeat
        (first
         | (apply P_callMV (os := []) (caps := []) (ds' := [.tup [.bs l[n].1, .bs l[n].2]]) (cds := []) hc.toMT; (exact fun base ok L a w _ => rfl); (iterate 3 exact rfl); exact RefineL.refl _ _; (focus (intro _ _; simp [go_sem]; done)); (iterate 2 exact rfl); rintro _ _ ⟨rfl, rfl⟩; simp only [List.nil_append])
         | (apply P_move; (iterate 3 exact rfl)) | (apply P_assign; (iterate 3 exact rfl)) | (apply P_loadpd; (iterate 5 exact rfl))
         | (apply P_cmp (b := true); (iterate 2 exact rfl); (focus (first | (simp [cmpI]; done) | (simp [cmpI]; omega))); (iterate 2 exact rfl))
         | (apply P_index; (iterate 4 exact rfl); (focus (first | exact ⟨by decide, rfl⟩ | (refine ⟨by omega, ?_⟩; rw [Int.toNat_natCast]; assumption))); (iterate 2 exact rfl)) | apply EL.nil
         | ((with_reducible apply EK.then_normal); apply EK.code) | (apply EC.cond_true; exact rfl)
         | (with_reducible first | apply EC.seq | apply EC.region | apply EC.skip | apply EC.label | apply EC.block | apply EC.exit | apply EC.ret | apply EK.in_normal | apply EK.in_same | apply EK.in_ret | apply EK.then_ret | apply EK.then_exit))
      refine EK.ret1 rfl rfl ?_
      rw [hI, if_pos rfl]
    | false =>
      rw [hg] at hc hI
      rw [if_neg (by decide)] at hI
      repeat
        (first
         | (apply P_callMV (os := []) (caps := []) (ds' := [.tup [.bs l[n].1, .bs l[n].2]]) (cds := []) hc.toMT; (exact fun base ok L a w _ => rfl); (iterate 3 exact rfl); exact RefineL.refl _ _; (focus (intro _ _; simp [go_sem]; done)); (iterate 2 exact rfl); rintro _ _ ⟨rfl, rfl⟩; simp only [List.nil_append])
         | (apply P_move; (iterate 3 exact rfl)) | (apply P_assign; (iterate 3 exact rfl)) | (apply P_loadpd; (iterate 5 exact rfl))
         | (apply P_cmp (b := true); (iterate 2 exact rfl); (focus (first | (simp [cmpI]; done) | (simp [cmpI]; omega))); (iterate 2 exact rfl))
         | (apply P_ar; (iterate 3 exact rfl); (focus omega); (focus omega); (iterate 2 exact rfl))
         | (apply P_index; (iterate 4 exact rfl); (focus (first | exact ⟨by decide, rfl⟩ | (refine ⟨by omega, ?_⟩; rw [Int.toNat_natCast]; assumption))); (iterate 2 exact rfl)) | apply EL.nil
         | ((with_reducible apply EK.then_normal); apply EK.code) | (apply EC.cond_true; exact rfl) | (apply EC.cond_false; exact rfl)
         | (with_reducible first | apply EC.seq | apply EC.region | apply EC.skip | apply EC.label | apply EC.block | apply EC.exit | apply EC.ret | apply EK.in_normal | apply EK.in_same | apply EK.in_ret | apply EK.then_ret | apply EK.then_exit))
      refine EK.again ⟨n + 1, hlt, hI⟩ (by dsimp only; omega) ?_
      dsimp only
      simp only [Int.natCast_add]
      exact (Le.keep (by repeat first | exact trivial | refine ⟨rfl, ?_⟩) (by repeat first | exact List.nil_sublist _ | apply List.Sublist.cons_cons | apply List.Sublist.cons) (by simp))
  · have hge : l.drop n = [] := List.drop_eq_nil_of_le (by omega)
    rw [hge, lgAt] at hI
    repeat
      (first
       | (apply P_assign; (iterate 3 exact rfl)) | (apply P_cmp (b := false); (iterate 2 exact rfl); (focus (first | (simp [cmpI]; done) | (simp [cmpI]; omega))); (iterate 2 exact rfl)) | apply EL.nil
       | ((with_reducible apply EK.then_normal); apply EK.code) | (apply EC.cond_false; exact rfl)
       | (with_reducible first | apply EC.seq | apply EC.region | apply EC.skip | apply EC.label | apply EC.block | apply EC.exit | apply EC.ret | apply EK.in_normal | apply EK.in_same | apply EK.in_ret | apply EK.then_ret | apply EK.then_exit))
    refine EK.ret1 rfl rfl ?_
    rw [hI]
theorem f_containsP (l : List (List UInt8 × List UInt8)) : Fn 99 [.sl 2 (l.map dPr), .v (.func (.func 100) #[] #[])] (· = .val (.v (.bool (l.any lg)))) := by
  have h1 := f_indexP l
  have h2 := lgAt_any l 0
  rw [← h2]
  refine Fn.walk 9 Tryz.func99 rfl Tryz.ntmps99 (by simp) fun X => ?_
  repeat
    (first
     | (apply P_call (h1); exact rfl; (focus (repeat first | exact RefineL.refl _ _ | exact RL.nil | exact Rf.same | exact Rf.bs0 | exact Rf.sl0 | (apply Rf.fact; (focus (simp; done)); exact rfl) | apply Rf.tup | apply RL.cons)); (focus (intro _ _; simp [go_sem]; done)); (iterate 2 exact rfl))
     | (apply P_move; (iterate 3 exact rfl)) | (apply P_assign; (iterate 3 exact rfl)) | (apply P_cmp; (iterate 5 exact rfl)) | apply EL.nil | ((with_reducible apply EK.then_normal); apply EK.code)
     | (with_reducible first | apply EC.seq | apply EC.region | apply EC.skip | apply EC.label | apply EC.block | apply EC.exit | apply EC.ret | apply EK.in_normal | apply EK.in_same | apply EK.in_ret | apply EK.then_ret | apply EK.then_exit))
  exact EK.ret1 rfl rfl rfl
theorem enters_p2 : ∀ args w, (callFunc 104 args).run Tryz.prog w = .ok (.enter 104 args) w := enters_of Tryz.func104 (by kernel_rfl) rfl
set_option maxRecDepth 100000 in
set_option maxHeartbeats 1000000 in
theorem cmp_pair (u1 v1 u2 v2 : Value) (l m : List UInt8) (w : World) (h1 : IsB w u1 l) (h2 : IsB w u2 m) (o1 : v1.oneCell' = true) (o2 : v2.oneCell' = true) : Calls Tryz.prog 104 #[.agg #[u1, v1], .agg #[u2, v2]] w fun e w' => e = .returned (.int .i64 (cmpB l m)) ∧ ∃ q os', w' = grow (w.drewN q) os' := by
  have g1 := h1.gr ((gr_alloc w (.cells #[u1, v1] 178)).trans (gr_alloc _ (.cells #[u2, v2] 178)))
  have g2 := h2.gr ((gr_alloc w (.cells #[u1, v1] 178)).trans (gr_alloc _ (.cells #[u2, v2] 178)))
  have hc := Lib.hid (bytes_CompareW _ _ _ _ _ g1 g2)
  obtain ⟨A1, c1, rfl, a1, a2, a3⟩ := h1
  obtain ⟨A2, c2, rfl, b1, b2, b3⟩ := h2
  clear a3 b3 g1 g2
  go_enter Tryz.func104, Tryz.ntmps104
  go_wp2_with fail
  refine hc.out.mono ?_
  rintro e w' ⟨rfl, rfl⟩
  go_wp2_with fail
  exact bodyPost_ret (results_tmp rfl _ _ _) rfl ⟨rfl, 0, _, by rw [alloc_eq_grow, alloc_eq_grow, grow_grow]; rfl⟩
theorem sort_pair (v : Value) (ps : List (List UInt8 × List UInt8)) (hl : ps.length < 4611686018427387904) :
    FnM 103 [.v v, .v (.func (.func 104) #[] #[])] [.row v 178 2 (ps.map dPr)] (fun r os' => r = .tpl [] ∧ ∃ qs : List (List UInt8 × List UInt8), qs.Perm ps ∧ qs.Pairwise (fun x y => x.1 ≤ y.1) ∧ os' = [.row v 178 2 (qs.map dPr)]) :=
  sort_gen sortPair 178 2 (by decide) Tryz.isAgg178 Tryz.sizeOf178 dPr (fun _ => rfl) (fun _ => rfl) (·.1) ([], []) [.slice none 0 0, .slice none 0 0]
    (fun ok w => by
      unfold dPr
      rw [Reads, ReadsL]
      refine ⟨[_], [_], rfl, by rw [Reads]; exact ⟨_, rfl, none, 0, rfl, Nat.le_refl _, by simp [maxLen], fun h => absurd rfl h⟩, ?_⟩
      rw [ReadsL]
      refine ⟨[_], [], rfl, by rw [Reads]; exact ⟨_, rfl, none, 0, rfl, Nat.le_refl _, by simp [maxLen], fun h => absurd rfl h⟩, ?_⟩
      rw [ReadsL]) 104
    (fun ok w hok x y v u hv hu => by
      have key : ∀ (z : List UInt8 × List UInt8) (t : Value), ReadV ok w (dPr z) t → ∃ a b, t = .agg #[a, b] ∧ IsB w a z.1 ∧ b.oneCell' = true := by
        intro z t ht
        obtain ⟨cs, h', rfl⟩ := (readV_agg rfl).1 ht
        unfold dPr at h'
        rw [Reads, ReadsL] at h'
        obtain ⟨k1, k2, rfl, g1, g2⟩ := h'
        rw [ReadsL] at g2
        obtain ⟨k3, k4, rfl, g3, g4⟩ := g2
        rw [ReadsL] at g4
        subst g4
        have g1' := g1
        rw [Reads] at g1'
        obtain ⟨a, rfl, _⟩ := g1'
        have g3' := g3
        rw [Reads] at g3'
        obtain ⟨b, rfl, _⟩ := g3'
        exact ⟨a, b, rfl, isB_of hok ((readV_one rfl).2 g1), Reads.one _ _ g3 b (by simp)⟩
      obtain ⟨a1, b1, rfl, e1, e2⟩ := key x v hv
      obtain ⟨a2, b2, rfl, e3, e4⟩ := key y u hu
      exact cmp_pair a1 b1 a2 b2 x.1 y.1 w e1 e3 e2 e4) enters_p2 v ps hl
end E
end Go.Proofs.YtmlajcbabimkjaaGreat
/-
  shape.Kids: a node's own nodes; slices.DeleteFunc and slices.Clone at rows of nodes.
  Conditions: none.
-/
namespace Go.Proofs.YtmlajcbabimkjaaGreat
set_option linter.unusedVariables false
open Go.RowKit Mono Rlp
namespace E
abbrev ndF : Value := .func (.func 110) #[] #[]
abbrev ndO (v : Value) (ts : List Tn) : Obj := .row v 101 1 (ts.map dT)
theorem sub_Tn (t : Tn) : (dT t).sub 0 1 false = some (dT t) := by cases t <;> rfl
theorem upd_Tn (t t' : Tn) : (dT t).upd 0 (dT t') = some (dT t') := by cases t <;> cases t' <;> rfl
theorem f_isNil (t : Tn) : Fn 110 ([dT t] ++ []) (· = .val (.v (.bool t.isNil))) := by
  have h : Bin .eql 101 (dT t) (.v .nilIface) (.bool t.isNil) := by
    cases t with
    | nil => exact bin_inil
    | leaf a b => exact bin_ifc _ _
    | ext a b => exact bin_ifc _ _
    | br a b => exact bin_ifc _ _
  rw [List.append_nil]
  refine Fn.walk 5 Tryz.func110 rfl Tryz.ntmps110 (by simp) fun X => ?_
  repeat
    (first
     | (apply P_bin; (iterate 2 exact rfl); exact h; (iterate 2 exact rfl)) | (apply P_move; (iterate 3 exact rfl)) | (apply P_assign; (iterate 3 exact rfl)) | apply EL.nil
     | ((with_reducible apply EK.then_normal); apply EK.code)
     | (with_reducible first | apply EC.seq | apply EC.region | apply EC.skip | apply EC.label | apply EC.block | apply EC.exit | apply EC.ret | apply EK.in_normal | apply EK.in_same | apply EK.in_ret | apply EK.then_ret | apply EK.then_exit))
  exact EK.ret1 rfl rfl rfl
def nilAt : List Tn → Nat → Int
  | [], _ => -1
  | t :: l, k => if t.isNil then (k : Int) else nilAt l (k + 1)
theorem nilAt_none : ∀ (l : List Tn) (k : Nat), nilAt l k = -1 → l.filter (fun t => !t.isNil) = l
  | [], _, _ => rfl
  | t :: l, k, h => by
    rw [nilAt] at h
    split at h
    · omega
    · rename_i hn
      rw [List.filter_cons_of_pos (by simpa using hn), nilAt_none l (k + 1) h]
theorem nilAt_some : ∀ (l : List Tn) (k : Nat), nilAt l k ≠ -1 → ∃ j, nilAt l k = ((k + j : Nat) : Int) ∧ j < l.length ∧ (l.take (j + 1)).filter (fun t => !t.isNil) = l.take j
  | [], _, h => absurd rfl h
  | t :: l, k, h => by
    rw [nilAt] at h ⊢
    split
    · rename_i hn
      exact ⟨0, rfl, by simp, by simp [hn]⟩
    · rename_i hn
      rw [if_neg hn] at h
      obtain ⟨j, h1, h2, h3⟩ := nilAt_some l (k + 1) h
      refine ⟨j + 1, by rw [h1]; omega, by simpa using h2, ?_⟩
      rw [List.take_succ_cons, List.filter_cons_of_pos (by simpa using hn), h3, List.take_succ_cons]
set_option maxRecDepth 20000 in
set_option maxHeartbeats 4000000 in
theorem index_nd (v : Value) (ts : List Tn) (hl : ts.length ≤ 1000000) : FnM 133 [.v v, .v ndF] [ndO v ts] (fun r os' => r = .val (.v (.int .i64 (nilAt ts 0))) ∧ os' = [ndO v ts]) := by
  have hml : (ts.map dT).length = ts.length := List.length_map _
  generalize hres : nilAt ts 0 = res
  refine FnM.walk 19 Tryz.func133 rfl Tryz.ntmps133 (by simp) fun X => ?_
  repeat
    (first
     | (apply P_move; (iterate 3 exact rfl)) | (apply P_assign; (iterate 3 exact rfl))
     | (apply P_lenrow; exact rfl; (first | exact I0 | exact I1 | exact I2 | exact I3 | exact I4 | exact I5 | exact I6); (iterate 3 exact rfl)) | apply EL.nil
     | ((with_reducible apply EK.then_normal); apply EK.code)
     | (with_reducible first | apply EC.seq | apply EC.region | apply EC.skip | apply EC.label | apply EC.block | apply EC.exit | apply EC.ret | apply EK.in_normal | apply EK.in_same | apply EK.in_ret | apply EK.then_ret | apply EK.then_exit))
  refine EC.loop (ι := {i : Nat // i ≤ ts.length ∧ res = nilAt (ts.drop i) i})
    (fun i => ⟨[(8, .val (.v (.int .i64 (i.1 : Int)))), (7, .val (.v (.int .i64 ((ts.map dT).length : Int)))), (1, .val (.v ndF)), (0, .val (.v v))], [ndO v ts], []⟩)
    (fun i => ts.length - i.1) ⟨0, Nat.zero_le _, hres.symm⟩ ?_ ?_
  · exact (Le.keep (by repeat first | exact trivial | refine ⟨rfl, ?_⟩) (by repeat first | exact List.nil_sublist _ | apply List.Sublist.cons_cons | apply List.Sublist.cons) (by simp))
  rintro ⟨i, hi, hI⟩
  dsimp only at hi ⊢
  by_cases hlt : i < ts.length
  · have hd : (ts.map dT)[i]? = some (dT ts[i]) := by rw [List.getElem?_map, List.getElem?_eq_getElem hlt]; rfl
    have hb := f_isNil ts[i]
    have hsub := sub_Tn ts[i]
    rw [List.drop_eq_getElem_cons hlt, nilAt] at hI
    cases hn : ts[i].isNil with
    | true =>
      rw [hn] at hb hI
      rw [if_pos rfl] at hI
      generalize dT ts[i] = x at hd hb hsub
      repeat
        (first
         | (apply P_rowload (k := i) (off := 0) (d := x) (d' := x); exact rfl; exact I0; exact ⟨by simp, hd⟩; exact rfl; exact hsub; (iterate 2 exact rfl))
         | (apply P_callMV (os := []) (caps := []) (ds' := [x]) (cds := []) hb.toMT; (exact fun base ok L a w _ => rfl); (iterate 3 exact rfl); exact RefineL.refl _ _; (focus (intro _ _; simp [go_sem]; done)); (iterate 2 exact rfl); rintro _ _ ⟨rfl, rfl⟩; simp only [List.nil_append])
         | (apply P_move; (iterate 3 exact rfl)) | (apply P_assign; (iterate 3 exact rfl))
         | (apply P_cmp (b := true); (iterate 2 exact rfl); (focus (first | (simp [cmpI]; done) | (simp [cmpI]; omega))); (iterate 2 exact rfl))
         | (apply P_rowidx; exact rfl; (first | exact I0 | exact I1 | exact I2 | exact I3 | exact I4 | exact I5 | exact I6); (iterate 2 exact rfl); (focus (first | assumption | omega | (constructor <;> (first | (simp; done) | (simp; omega))))); (iterate 2 exact rfl))
         | apply EL.nil | ((with_reducible apply EK.then_normal); apply EK.code) | (apply EC.cond_true; exact rfl)
         | (with_reducible first | apply EC.seq | apply EC.region | apply EC.skip | apply EC.label | apply EC.block | apply EC.exit | apply EC.ret | apply EK.in_normal | apply EK.in_same | apply EK.in_ret | apply EK.then_ret | apply EK.then_exit))
      exact EK.retM1s [ndO v ts] rfl rfl (by (repeat first | exact List.nil_sublist _ | apply List.Sublist.cons_cons | apply List.Sublist.cons)) ⟨by rw [hI], rfl⟩
    | false =>
      rw [hn] at hb hI
      rw [if_neg (by decide)] at hI
      generalize dT ts[i] = x at hd hb hsub
      repeat
        (first
         | (apply P_rowload (k := i) (off := 0) (d := x) (d' := x); exact rfl; exact I0; exact ⟨by simp, hd⟩; exact rfl; exact hsub; (iterate 2 exact rfl))
         | (apply P_callMV (os := []) (caps := []) (ds' := [x]) (cds := []) hb.toMT; (exact fun base ok L a w _ => rfl); (iterate 3 exact rfl); exact RefineL.refl _ _; (focus (intro _ _; simp [go_sem]; done)); (iterate 2 exact rfl); rintro _ _ ⟨rfl, rfl⟩; simp only [List.nil_append])
         | (apply P_move; (iterate 3 exact rfl)) | (apply P_assign; (iterate 3 exact rfl))
         | (apply P_cmp (b := true); (iterate 2 exact rfl); (focus (first | (simp [cmpI]; done) | (simp [cmpI]; omega))); (iterate 2 exact rfl))
         | (apply P_ar; (iterate 3 exact rfl); (focus omega); (focus omega); (iterate 2 exact rfl))
         | (apply P_rowidx; exact rfl; (first | exact I0 | exact I1 | exact I2 | exact I3 | exact I4 | exact I5 | exact I6); (iterate 2 exact rfl); (focus (first | assumption | omega | (constructor <;> (first | (simp; done) | (simp; omega))))); (iterate 2 exact rfl))
         | apply EL.nil | ((with_reducible apply EK.then_normal); apply EK.code) | (apply EC.cond_true; exact rfl) | (apply EC.cond_false; exact rfl)
         | (with_reducible first | apply EC.seq | apply EC.region | apply EC.skip | apply EC.label | apply EC.block | apply EC.exit | apply EC.ret | apply EK.in_normal | apply EK.in_same | apply EK.in_ret | apply EK.then_ret | apply EK.then_exit))
      refine EK.again ⟨i + 1, hlt, hI⟩ (by dsimp only; omega) ?_
      simp only [Int.natCast_add]
      exact (Le.keep (by repeat first | exact trivial | refine ⟨rfl, ?_⟩) (by repeat first | exact List.nil_sublist _ | apply List.Sublist.cons_cons | apply List.Sublist.cons) (by simp))
  · obtain rfl : res = -1 := by rw [hI, List.drop_eq_nil_of_le (by omega), nilAt]
    repeat
      (first
       | (apply P_assign; (iterate 3 exact rfl)) | (apply P_cmp (b := false); (iterate 2 exact rfl); (focus (first | (simp [cmpI]; done) | (simp [cmpI]; omega))); (iterate 2 exact rfl)) | apply EL.nil
       | ((with_reducible apply EK.then_normal); apply EK.code) | (apply EC.cond_false; exact rfl)
       | (with_reducible first | apply EC.seq | apply EC.region | apply EC.skip | apply EC.label | apply EC.block | apply EC.exit | apply EC.ret | apply EK.in_normal | apply EK.in_same | apply EK.in_ret | apply EK.then_ret | apply EK.then_exit))
    exact EK.retM1s [ndO v ts] rfl rfl (by (repeat first | exact List.nil_sublist _ | apply List.Sublist.cons_cons | apply List.Sublist.cons)) ⟨rfl, rfl⟩
end E
end Go.Proofs.YtmlajcbabimkjaaGreat
/-
  slices.DeleteFunc and slices.Clone at rows of nodes; shape.Kids.
  Conditions: none.
-/
namespace Go.Proofs.YtmlajcbabimkjaaGreat
set_option linter.unusedVariables false
open Go.RowKit Mono Rlp
namespace E
def keepN (ts : List Tn) : List Tn := ts.filter fun t => !t.isNil
structure Dlt (ts R : List Tn) (k i : Nat) : Prop where
  len : R.length = ts.length
  ki : k < i
  le : i ≤ ts.length
  hd : R.take k = keepN (ts.take i)
  tl : R.drop i = ts.drop i
theorem Dlt.at_ {ts R : List Tn} {k i : Nat} (h : Dlt ts R k i) (hi : i < ts.length) : R[i]? = some ts[i] := by
  have h1 := congrArg (fun l => l[0]?) h.tl
  simp only [List.getElem?_drop, Nat.add_zero] at h1
  rw [h1, List.getElem?_eq_getElem hi]
theorem Dlt.skip {ts R : List Tn} {k i : Nat} (h : Dlt ts R k i) (hi : i < ts.length) (hn : ts[i].isNil = true) : Dlt ts R k (i + 1) :=
  ⟨h.len, by have := h.ki; omega, hi, by
    rw [h.hd, List.take_succ_eq_append_getElem hi]
    unfold keepN
    rw [List.filter_append, List.filter_cons_of_neg (by simp [hn]), List.filter_nil, List.append_nil], by
    have := congrArg (List.drop 1) h.tl
    rwa [List.drop_drop, List.drop_drop] at this⟩
theorem Dlt.keep {ts R : List Tn} {k i : Nat} (h : Dlt ts R k i) (hi : i < ts.length) (hn : ts[i].isNil = false) : Dlt ts (R.set k ts[i]) (k + 1) (i + 1) :=
  ⟨by rw [List.length_set, h.len], by have := h.ki; omega, hi, by
    have hk : k < R.length := by rw [h.len]; have := h.ki; omega
    rw [List.take_succ_eq_append_getElem (by rw [List.length_set]; exact hk), List.getElem_set_self, List.take_set_of_le (Nat.le_refl _), h.hd, List.take_succ_eq_append_getElem hi]
    unfold keepN
    rw [List.filter_append, List.filter_cons_of_pos (by simp [hn]), List.filter_nil], by
    have := congrArg (List.drop 1) h.tl
    rw [List.drop_drop, List.drop_drop] at this
    rw [List.drop_set_of_lt (by have := h.ki; omega)]
    exact this⟩
set_option maxRecDepth 20000 in
set_option maxHeartbeats 8000000 in
theorem delete_nd (v : Value) (ts : List Tn) (hl : ts.length ≤ 1000000) : FnM 108 [.v v, .v ndF] [ndO v ts] (fun r os' => ∃ v', r = .val (.v v') ∧ os' = [ndO v' (keepN ts)]) := by
  have hix := index_nd v ts hl
  refine FnM.walk 42 Tryz.func108 rfl Tryz.ntmps108 (by simp) fun X => ?_
  by_cases hnone : nilAt ts 0 = -1
  · rw [hnone] at hix
    have hk : keepN ts = ts := nilAt_none ts 0 hnone
    rw [hk]
    repeat
      (first
       | ((apply P_callMD (hix); (iterate 2 exact rfl); (focus (repeat first | exact RefineL.refl _ _ | exact RL.nil | exact Rf.same | exact Rf.bs0 | exact Rf.sl0 | (apply Rf.fact; (focus (simp; done)); exact rfl) | apply Rf.tup | apply RL.cons)); (focus (intro _ _; simp [go_sem]; done)); (iterate 2 exact rfl)))
       | (apply P_move; (iterate 3 exact rfl)) | (apply P_assign; (iterate 3 exact rfl))
       | (apply P_cmp (b := true); (iterate 2 exact rfl); (focus (first | (simp [cmpI]; done) | (simp [cmpI]; omega))); (iterate 2 exact rfl)) | apply EL.nil
       | ((with_reducible apply EK.then_normal); apply EK.code) | (apply EC.cond_true; exact rfl)
       | (with_reducible first | apply EC.seq | apply EC.region | apply EC.skip | apply EC.label | apply EC.block | apply EC.exit | apply EC.ret | apply EK.in_normal | apply EK.in_same | apply EK.in_ret | apply EK.then_ret | apply EK.then_exit))
    exact EK.retM1s [ndO v ts] rfl rfl (by (repeat first | exact List.nil_sublist _ | apply List.Sublist.cons_cons | apply List.Sublist.cons)) ⟨v, rfl, rfl⟩
  · obtain ⟨j, h1, h2, h3⟩ := nilAt_some ts 0 hnone
    rw [Nat.zero_add] at h1
    rw [h1] at hix
    repeat
      (first
       | ((apply P_callMD (hix); (iterate 2 exact rfl); (focus (repeat first | exact RefineL.refl _ _ | exact RL.nil | exact Rf.same | exact Rf.bs0 | exact Rf.sl0 | (apply Rf.fact; (focus (simp; done)); exact rfl) | apply Rf.tup | apply RL.cons)); (focus (intro _ _; simp [go_sem]; done)); (iterate 2 exact rfl)))
       | (apply P_move; (iterate 3 exact rfl)) | (apply P_assign; (iterate 3 exact rfl))
       | (apply P_cmp (b := false); (iterate 2 exact rfl); (focus (first | (simp [cmpI]; done) | (simp [cmpI]; omega))); (iterate 2 exact rfl))
       | (apply P_ar; (iterate 3 exact rfl); (focus omega); (focus omega); (iterate 2 exact rfl)) | apply EL.nil | ((with_reducible apply EK.then_normal); apply EK.code) | (apply EC.cond_false; exact rfl)
       | (with_reducible first | apply EC.seq | apply EC.region | apply EC.skip | apply EC.label | apply EC.block | apply EC.exit | apply EC.ret | apply EK.in_normal | apply EK.in_same | apply EK.in_ret | apply EK.then_ret | apply EK.then_exit))
    refine EC.loop (ι := {x : Nat × Nat × List Tn // Dlt ts x.2.2 x.2.1 x.1})
      (fun x => ⟨[(6, .val (.v (.int .i64 (x.1.1 : Int)))), (5, .val (.v (.int .i64 (x.1.2.1 : Int)))), (1, .val (.v ndF)), (0, .val (.v v))], [ndO v x.1.2.2], []⟩)
      (fun x => ts.length - x.1.1) ⟨(j + 1, j, ts), rfl, by dsimp only; omega, h2, h3.symm, rfl⟩ ?_ ?_
    · simp only [Int.natCast_add]
      exact (Le.keep (by repeat first | exact trivial | refine ⟨rfl, ?_⟩) (by repeat first | exact List.nil_sublist _ | apply List.Sublist.cons_cons | apply List.Sublist.cons) (by simp))
    rintro ⟨⟨i, k, R⟩, hD⟩
    dsimp only at hD ⊢
    have hRl : (R.map dT).length = ts.length := by rw [List.length_map, hD.len]
    have hRn : R.length = ts.length := hD.len
    have hki := hD.ki
    have hil := hD.le
    by_cases hlt : i < ts.length
    · have hd : (R.map dT)[i]? = some (dT ts[i]) := by rw [List.getElem?_map, hD.at_ hlt]; rfl
      have hsub := sub_Tn ts[i]
      have hb := f_isNil ts[i]
      cases hn : ts[i].isNil with
      | true =>
        rw [hn] at hb
        have hD2 := hD.skip hlt hn
        repeat
          (first
           | (apply P_rowload (k := i) (off := 0) (d := dT ts[i]) (d' := dT ts[i]); exact rfl; exact I0; exact ⟨by simp, hd⟩; exact rfl; exact hsub; (iterate 2 exact rfl))
           | (apply P_callMV (os := []) (caps := []) (ds' := [dT ts[i]]) (cds := []) hb.toMT; (exact fun base ok L a w _ => rfl); (iterate 3 exact rfl); exact RefineL.refl _ _; (focus (intro _ _; simp [go_sem]; done)); (iterate 2 exact rfl); rintro _ _ ⟨rfl, rfl⟩; simp only [List.nil_append])
           | (apply P_move; (iterate 3 exact rfl)) | (apply P_assign; (iterate 3 exact rfl)) | (apply P_not; (iterate 3 exact rfl))
           | (apply P_cmp (b := true); (iterate 2 exact rfl); (focus (first | (simp [cmpI]; done) | (simp [cmpI]; omega))); (iterate 2 exact rfl))
           | (apply P_ar; (iterate 3 exact rfl); (focus omega); (focus omega); (iterate 2 exact rfl))
           | (apply P_lenrow; exact rfl; (first | exact I0 | exact I1 | exact I2 | exact I3 | exact I4 | exact I5 | exact I6); (iterate 3 exact rfl))
           | (apply P_rowidx; exact rfl; (first | exact I0 | exact I1 | exact I2 | exact I3 | exact I4 | exact I5 | exact I6); (iterate 2 exact rfl); (focus (first | assumption | omega | (constructor <;> (first | (simp; done) | (simp; omega))))); (iterate 2 exact rfl))
           | apply EL.nil | ((with_reducible apply EK.then_normal); apply EK.code) | (apply EC.cond_true; exact rfl) | (apply EC.cond_false; exact rfl)
           | (with_reducible first | apply EC.seq | apply EC.region | apply EC.skip | apply EC.label | apply EC.block | apply EC.exit | apply EC.ret | apply EK.in_normal | apply EK.in_same | apply EK.in_ret | apply EK.then_ret | apply EK.then_exit))
        refine EK.again ⟨(i + 1, k, R), hD2⟩ (by dsimp only; omega) ?_
        simp only [Int.natCast_add]
        exact (Le.keep (by repeat first | exact trivial | refine ⟨rfl, ?_⟩) (by repeat first | exact List.nil_sublist _ | apply List.Sublist.cons_cons | apply List.Sublist.cons) (by simp))
      | false =>
        rw [hn] at hb
        have hD2 := hD.keep hlt hn
        have hkR : k < R.length := by rw [hD.len]; omega
        have hd2 : (R.map dT)[k]? = some (dT R[k]) := by rw [List.getElem?_map, List.getElem?_eq_getElem hkR]; rfl
        have hset : (R.map dT).set k (dT ts[i]) = (R.set k ts[i]).map dT := by rw [List.map_set]
        repeat
          (first
           | (apply P_rowload (k := i) (off := 0) (d := dT ts[i]) (d' := dT ts[i]); exact rfl; exact I0; exact ⟨by simp, hd⟩; exact rfl; exact hsub; (iterate 2 exact rfl))
           | (apply P_callMV (os := []) (caps := []) (ds' := [dT ts[i]]) (cds := []) hb.toMT; (exact fun base ok L a w _ => rfl); (iterate 3 exact rfl); exact RefineL.refl _ _; (focus (intro _ _; simp [go_sem]; done)); (iterate 2 exact rfl); rintro _ _ ⟨rfl, rfl⟩; simp only [List.nil_append])
           | (apply P_rowstore (k := k) (off := 0) (d := dT R[k]) (d' := dT ts[i]) (d'' := dT ts[i]); exact rfl; exact .z; exact ⟨by simp, hd2⟩; exact rfl; (rw [(dT_one ts[i]).1, (dT_one ts[i]).2]; exact rfl); exact upd_Tn _ _; exact rfl)
           | (apply P_move; (iterate 3 exact rfl)) | (apply P_assign; (iterate 3 exact rfl)) | (apply P_not; (iterate 3 exact rfl))
           | (apply P_cmp (b := true); (iterate 2 exact rfl); (focus (first | (simp [cmpI]; done) | (simp [cmpI]; omega))); (iterate 2 exact rfl))
           | (apply P_ar; (iterate 3 exact rfl); (focus omega); (focus omega); (iterate 2 exact rfl))
           | (apply P_lenrow; exact rfl; (first | exact I0 | exact I1 | exact I2 | exact I3 | exact I4 | exact I5 | exact I6); (iterate 3 exact rfl))
           | (apply P_rowidx; exact rfl; (first | exact I0 | exact I1 | exact I2 | exact I3 | exact I4 | exact I5 | exact I6); (iterate 2 exact rfl); (focus (first | assumption | omega | (constructor <;> (first | (simp; done) | (simp; omega))))); (iterate 2 exact rfl))
           | apply EL.nil | ((with_reducible apply EK.then_normal); apply EK.code) | (apply EC.cond_true; exact rfl)
           | (with_reducible first | apply EC.seq | apply EC.region | apply EC.skip | apply EC.label | apply EC.block | apply EC.exit | apply EC.ret | apply EK.in_normal | apply EK.in_same | apply EK.in_ret | apply EK.then_ret | apply EK.then_exit))
        rw [hset]
        refine EK.again ⟨(i + 1, k + 1, R.set k ts[i]), hD2⟩ (by dsimp only; omega) ?_
        simp only [Int.natCast_add]
        exact (Le.keep (by repeat first | exact trivial | refine ⟨rfl, ?_⟩) (by repeat first | exact List.nil_sublist _ | apply List.Sublist.cons_cons | apply List.Sublist.cons) (by simp))
    · obtain rfl : i = ts.length := by omega
      have hkd := hD.hd
      rw [List.take_length] at hkd
      repeat
        (first
         | (apply P_rowsuf; exact rfl; exact I0; (iterate 2 exact rfl); (focus (constructor <;> (first | omega | (rw [Int.toNat_natCast, hRl]; omega)))); (iterate 2 exact rfl))
         | (apply P_move; (iterate 3 exact rfl)) | (apply P_cmp (b := false); (iterate 2 exact rfl); (focus (first | (simp [cmpI]; done) | (simp [cmpI]; omega))); (iterate 2 exact rfl))
         | (apply P_lenrow; exact rfl; (first | exact I0 | exact I1 | exact I2 | exact I3 | exact I4 | exact I5 | exact I6); (iterate 3 exact rfl)) | apply EL.nil
         | ((with_reducible apply EK.then_normal); apply EK.code) | (apply EC.cond_false; exact rfl)
         | (with_reducible first | apply EC.seq | apply EC.region | apply EC.skip | apply EC.label | apply EC.block | apply EC.exit | apply EC.ret | apply EK.in_normal | apply EK.in_same | apply EK.in_ret | apply EK.then_ret | apply EK.then_exit))
      rw [Int.toNat_natCast]
      repeat
        (first
         | (apply P_clearN (k := k) (dz := .v .nilIface); exact rfl; exact .z; (rw [hRl]; omega); (iterate 6 exact rfl)) | (apply P_move; (iterate 3 exact rfl)) | apply EL.nil
         | ((with_reducible apply EK.then_normal); apply EK.code)
         | (with_reducible first | apply EC.seq | apply EC.region | apply EC.skip | apply EC.label | apply EC.block | apply EC.exit | apply EC.ret | apply EK.in_normal | apply EK.in_same | apply EK.in_ret | apply EK.then_ret | apply EK.then_exit))
      have hcl : ((R.map dT).take k ++ List.replicate ((R.map dT).length - k) (D.v .nilIface)).length = ts.length := by
        rw [List.length_append, List.length_take, List.length_replicate, hRl]
        omega
      have hct : ((R.map dT).take k ++ List.replicate ((R.map dT).length - k) (D.v .nilIface)).take k = (keepN ts).map dT := by
        rw [List.take_left' (by rw [List.length_take, hRl]; omega), ← List.map_take, hkd]
      generalize (R.map dT).take k ++ List.replicate ((R.map dT).length - k) (D.v .nilIface) = Z at hcl hct ⊢
      repeat
        (first
         | (apply P_rowcut; exact rfl; exact I0; (iterate 2 exact rfl); (focus (constructor <;> (first | omega | (rw [Int.toNat_natCast, hcl]; omega)))); (iterate 2 exact rfl))
         | (apply P_assign; (iterate 3 exact rfl)) | apply EL.nil | ((with_reducible apply EK.then_normal); apply EK.code)
         | (with_reducible first | apply EC.seq | apply EC.region | apply EC.skip | apply EC.label | apply EC.block | apply EC.exit | apply EC.ret | apply EK.in_normal | apply EK.in_same | apply EK.in_ret | apply EK.then_ret | apply EK.then_exit))
      rw [Int.toNat_natCast]
      refine EK.le (Le.cutRow (k := k) (by rw [hcl]; omega) .z) ?_
      rw [hct]
      exact EK.retM1s [ndO (cutV v k) (keepN ts)] rfl rfl (by (repeat first | exact List.nil_sublist _ | apply List.Sublist.cons_cons | apply List.Sublist.cons)) ⟨_, rfl, rfl⟩
set_option maxRecDepth 20000 in
set_option maxHeartbeats 4000000 in
theorem clone_nd (ts : List Tn) (hl : ts.length = 16) : FnM 109 [.sl 1 (ts.map dT)] [] (fun r os' => ∃ v, r = .val (.v v) ∧ os' = [ndO v ts]) := by
  have hml : (ts.map dT).length = 16 := by rw [List.length_map, hl]
  refine FnM.walk 8 Tryz.func109 rfl Tryz.ntmps109 (by simp) fun X => ?_
  repeat
    (first
     | (apply P_slnil; (iterate 6 exact rfl); intro v hv) | (apply P_move; (iterate 3 exact rfl)) | (apply P_assign; (iterate 3 exact rfl)) | apply EL.nil
     | ((with_reducible apply EK.then_normal); apply EK.code)
     | (with_reducible first | apply EC.seq | apply EC.region | apply EC.skip | apply EC.label | apply EC.block | apply EC.exit | apply EC.ret | apply EK.in_normal | apply EK.in_same | apply EK.in_ret | apply EK.then_ret | apply EK.then_exit))
  cases v with
  | true =>
    have h0 := hv rfl
    rw [h0] at hml
    cases hml
  | false =>
    repeat
      (first
       | (refine EL.mut (os := []) (rest := []) rfl (dst_lt rfl rfl) (m_lit0 rfl rfl rfl) ?_; rintro _ _ ⟨v, rfl, rfl⟩; simp only [St.put, List.cons_append, List.nil_append])
       | (apply P_move; (iterate 3 exact rfl)) | (apply P_assign; (iterate 3 exact rfl))
       | ((apply P_append; exact rfl; (focus (repeat first | exact .z | apply SetAt.s | apply SetAtF.s)); (iterate 5 exact rfl); (focus (constructor <;> (first | (simp; done) | (simp; omega))))); intro _)
       | apply EL.nil | ((with_reducible apply EK.then_normal); apply EK.code) | (apply EC.cond_false; exact rfl)
       | (with_reducible first | apply EC.seq | apply EC.region | apply EC.skip | apply EC.label | apply EC.block | apply EC.exit | apply EC.ret | apply EK.in_normal | apply EK.in_same | apply EK.in_ret | apply EK.then_ret | apply EK.then_exit))
    rename_i v'
    exact EK.retM1s [ndO v' ts] rfl rfl (by (repeat first | exact List.nil_sublist _ | apply List.Sublist.cons_cons | apply List.Sublist.cons)) ⟨v', rfl, rfl⟩
def kidsT : Tn → List Tn
  | .ext _ k => [k]
  | .br ks _ => keepN ((List.range 16).map ks)
  | _ => []
set_option maxRecDepth 20000 in
set_option maxHeartbeats 8000000 in
theorem f_Kids (t : Tn) (hn : t.isNil = false) : Fn 76 [dT t] (· = .val (.sl 1 ((kidsT t).map dT))) := by
  refine FnM.toFn ?_
  refine FnM.walk 23 Tryz.func76 rfl Tryz.ntmps76 (by simp) fun X => ?_
  cases t with
  | nil => cases hn
  | leaf p v =>
    unfold dT kidsT
    repeat
      (first
       | (apply P_move; (iterate 3 exact rfl)) | (apply P_assign; (iterate 3 exact rfl)) | (apply P_extract; (iterate 4 exact rfl)) | (apply P_asNo; (iterate 6 exact rfl)) | apply EL.nil
       | ((with_reducible apply EK.then_normal); apply EK.code) | (apply EC.cond_false; exact rfl)
       | (with_reducible first | apply EC.seq | apply EC.region | apply EC.skip | apply EC.label | apply EC.block | apply EC.exit | apply EC.ret | apply EK.in_normal | apply EK.in_same | apply EK.in_ret | apply EK.then_ret | apply EK.then_exit))
    refine EK.retM1k [] rfl rfl (RL.cons Rf.sl0 RL.nil) (List.nil_sublist _) ⟨rfl, rfl⟩
  | ext p k =>
    unfold kidsT
    cases k with
    | nil =>
      unfold dT
      repeat
        (first
         | (apply P_move; (iterate 3 exact rfl)) | (apply P_assign; (iterate 3 exact rfl)) | (apply P_fieldpd; (iterate 7 exact rfl)) | (apply P_extract; (iterate 4 exact rfl))
         | (apply P_loadpd; (iterate 5 exact rfl)) | (apply P_lit; (iterate 9 exact rfl)) | (apply P_nilckpd; (iterate 3 exact rfl)) | (apply P_asYes; (iterate 4 exact rfl)) | apply EL.nil
         | ((with_reducible apply EK.then_normal); apply EK.code) | (apply EC.cond_true; exact rfl)
         | (with_reducible first | apply EC.seq | apply EC.region | apply EC.skip | apply EC.label | apply EC.block | apply EC.exit | apply EC.ret | apply EK.in_normal | apply EK.in_same | apply EK.in_ret | apply EK.then_ret | apply EK.then_exit))
      exact EK.retM1s [] rfl rfl (List.nil_sublist _) ⟨rfl, rfl⟩
    | leaf a b =>
      unfold dT
      repeat
        (first
         | (apply P_move; (iterate 3 exact rfl)) | (apply P_assign; (iterate 3 exact rfl)) | (apply P_fieldpd; (iterate 7 exact rfl)) | (apply P_extract; (iterate 4 exact rfl))
         | (apply P_loadpd; (iterate 5 exact rfl)) | (apply P_lit; (iterate 9 exact rfl)) | (apply P_nilckpd; (iterate 3 exact rfl)) | (apply P_asYes; (iterate 4 exact rfl)) | apply EL.nil
         | ((with_reducible apply EK.then_normal); apply EK.code) | (apply EC.cond_true; exact rfl)
         | (with_reducible first | apply EC.seq | apply EC.region | apply EC.skip | apply EC.label | apply EC.block | apply EC.exit | apply EC.ret | apply EK.in_normal | apply EK.in_same | apply EK.in_ret | apply EK.then_ret | apply EK.then_exit))
      exact EK.retM1s [] rfl rfl (List.nil_sublist _) ⟨rfl, rfl⟩
    | ext a b =>
      unfold dT
      repeat
        (first
         | (apply P_move; (iterate 3 exact rfl)) | (apply P_assign; (iterate 3 exact rfl)) | (apply P_fieldpd; (iterate 7 exact rfl)) | (apply P_extract; (iterate 4 exact rfl))
         | (apply P_loadpd; (iterate 5 exact rfl)) | (apply P_lit; (iterate 9 exact rfl)) | (apply P_nilckpd; (iterate 3 exact rfl)) | (apply P_asYes; (iterate 4 exact rfl)) | apply EL.nil
         | ((with_reducible apply EK.then_normal); apply EK.code) | (apply EC.cond_true; exact rfl)
         | (with_reducible first | apply EC.seq | apply EC.region | apply EC.skip | apply EC.label | apply EC.block | apply EC.exit | apply EC.ret | apply EK.in_normal | apply EK.in_same | apply EK.in_ret | apply EK.then_ret | apply EK.then_exit))
      exact EK.retM1s [] rfl rfl (List.nil_sublist _) ⟨rfl, rfl⟩
    | br a b =>
      unfold dT
      repeat
        (first
         | (apply P_move; (iterate 3 exact rfl)) | (apply P_assign; (iterate 3 exact rfl)) | (apply P_fieldpd; (iterate 7 exact rfl)) | (apply P_extract; (iterate 4 exact rfl))
         | (apply P_loadpd; (iterate 5 exact rfl)) | (apply P_lit; (iterate 9 exact rfl)) | (apply P_nilckpd; (iterate 3 exact rfl)) | (apply P_asYes; (iterate 4 exact rfl)) | apply EL.nil
         | ((with_reducible apply EK.then_normal); apply EK.code) | (apply EC.cond_true; exact rfl)
         | (with_reducible first | apply EC.seq | apply EC.region | apply EC.skip | apply EC.label | apply EC.block | apply EC.exit | apply EC.ret | apply EK.in_normal | apply EK.in_same | apply EK.in_ret | apply EK.then_ret | apply EK.then_exit))
      exact EK.retM1s [] rfl rfl (List.nil_sublist _) ⟨rfl, rfl⟩
  | br ks v =>
    have hsz : D.sizes ((List.range 16).map fun i => dT (ks i)) = 16 := by rw [sizes_T, List.length_range]
    have hc := clone_nd ((List.range 16).map ks) (by simp)
    have hall : ∀ d ∈ ((List.range 16).map fun i => dT (ks i)), d.size = 1 := fun d hd => by
      obtain ⟨i, _, rfl⟩ := List.mem_map.1 hd
      exact (dT_one _).1
    have hlen : ((List.range 16).map fun i => dT (ks i)).length = 16 := by simp
    rw [List.map_map, show (dT ∘ ks) = (fun i => dT (ks i)) from rfl] at hc
    unfold dT kidsT
    generalize hE : ((List.range 16).map fun i => dT (ks i)) = K at *
    repeat
      (first
       | (apply P_fieldpd; (iterate 4 exact rfl); exact sub_br0 _ hsz; (iterate 2 exact rfl)) | (apply P_sltup sl_kids rfl; exact rfl; exact hlen; exact hall; (iterate 2 exact rfl))
       | (apply P_callM (os := []) hc; (iterate 2 exact rfl); exact RefineL.refl _ _; (focus (intro _ _; simp [go_sem]; done)); (iterate 2 exact rfl); rintro _ _ ⟨u, rfl, rfl⟩; simp only [List.cons_append, List.nil_append])
       | (apply P_move; (iterate 3 exact rfl)) | (apply P_assign; (iterate 3 exact rfl)) | (apply P_extract; (iterate 4 exact rfl)) | (apply P_nilckpd; (iterate 3 exact rfl))
       | (apply P_asYes; (iterate 4 exact rfl)) | (apply P_asNo; (iterate 6 exact rfl)) | apply EL.nil | ((with_reducible apply EK.then_normal); apply EK.code) | (apply EC.cond_true; exact rfl)
       | (apply EC.cond_false; exact rfl)
       | (with_reducible first | apply EC.seq | apply EC.region | apply EC.skip | apply EC.label | apply EC.block | apply EC.exit | apply EC.ret | apply EK.in_normal | apply EK.in_same | apply EK.in_ret | apply EK.then_ret | apply EK.then_exit))
    refine P_callM (os := [ndO u ((List.range 16).map ks)]) (delete_nd u ((List.range 16).map ks) (by simp)) rfl rfl (RefineL.refl _ _) (by intro _ _; simp [go_sem]) rfl rfl ?_
    rintro _ _ ⟨u', rfl, rfl⟩
    simp only [List.cons_append, List.nil_append]
    refine EL.le (Le.freeze (pre := []) rfl) ?_
    repeat
      (first
       | (apply P_assign; (iterate 3 exact rfl)) | apply EL.nil | ((with_reducible apply EK.then_normal); apply EK.code)
       | (with_reducible first | apply EC.seq | apply EC.region | apply EC.skip | apply EC.label | apply EC.block | apply EC.exit | apply EC.ret | apply EK.in_normal | apply EK.in_same | apply EK.in_ret | apply EK.then_ret | apply EK.then_exit))
    refine EK.retM1k [] rfl rfl (RL.cons (Rf.fact List.mem_cons_self rfl) RL.nil) (List.nil_sublist _) ⟨rfl, rfl⟩
end E
end Go.Proofs.YtmlajcbabimkjaaGreat
