/-
  Merged (wip/tools/merge.py): TP5, TP6, TP3.
  Conditions: none.
-/
import Derived.Test.YtmlajcbabimkjaaZT14
/-
  trie.Long, ContainsFunc of it, SortFunc of pairs.
  Conditions: none.
-/
namespace Go.Proofs.Ytmlajcbabimkjaa
set_option linter.unusedVariables false
open Go.RowKit Mono Rlp Go.Sort
namespace E
def dPr (x : List UInt8 × List UInt8) : D := .tup [.bs x.1, .bs x.2]
theorem Fn.toMT {f : FuncId} {ds : List D} {Φ : R → Prop} (h : Fn f ds Φ) : FnM f ds [] (fun r os' => Φ r ∧ os' = []) := ⟨fun ok w xs hok hown hr => (h.go ok w xs hok hr).mono fun e w' ⟨hg, v, r, he, hΦ, hv⟩ =>
  ⟨v, r, [], he, ⟨hΦ, rfl⟩, ⟨.of hg, .nil, fun o ho => by simp at ho⟩, hv.mono (fun b hb => ⟨hb.1.elim .inl fun h => .inr (.inr h), hb.2, fun o ho => by simp at ho⟩) fun _ _ => rfl⟩⟩
def lg (x : List UInt8 × List UInt8) : Bool := decide (64 < x.1.length) || decide (1048576 < x.2.length)
set_option maxRecDepth 20000 in
theorem f_Long (x : List UInt8 × List UInt8) : Fn 91 [.bs x.1, .bs x.2] (· = .val (.v (.bool (lg x)))) := by
  unfold lg
  refine Fn.walk 13 Try.func91 rfl Try.ntmps91 (by simp) fun X => ?_
  by_cases h : 64 < x.1.length
  · rw [decide_eq_true h]
    repeat
      (first
       | (apply P_skip; (iterate 2 exact rfl)) | (apply P_move; (iterate 3 exact rfl)) | (apply P_assign; (iterate 3 exact rfl)) | (apply P_pick; (iterate 4 exact rfl))
       | (apply P_cmp (b := true); (iterate 2 exact rfl); (focus (first | (simp [cmpI]; done) | (simp [cmpI]; omega))); (iterate 2 exact rfl)) | (apply P_lenbs; (iterate 4 exact rfl)) | apply EL.nil
       | ((with_reducible apply EK.then_normal); apply EK.code)
       | (with_reducible first | apply EC.seq | apply EC.region | apply EC.skip | apply EC.label | apply EC.block | apply EC.exit | apply EC.ret | apply EK.in_normal | apply EK.in_same | apply EK.in_ret | apply EK.then_ret | apply EK.then_exit))
    exact EK.ret1 rfl rfl rfl
  · rw [decide_eq_false h]
    by_cases h2 : 1048576 < x.2.length
    · rw [decide_eq_true h2]
      repeat
        (first
         | (apply P_move; (iterate 3 exact rfl)) | (apply P_assign; (iterate 3 exact rfl)) | (apply P_pick; (iterate 4 exact rfl))
         | (apply P_cmp (b := true); (iterate 2 exact rfl); (focus (first | (simp [cmpI]; done) | (simp [cmpI]; omega))); (iterate 2 exact rfl))
         | (apply P_cmp (b := false); (iterate 2 exact rfl); (focus (first | (simp [cmpI]; done) | (simp [cmpI]; omega))); (iterate 2 exact rfl)) | (apply P_lenbs; (iterate 4 exact rfl)) | apply EL.nil
         | ((with_reducible apply EK.then_normal); apply EK.code)
         | (with_reducible first | apply EC.seq | apply EC.region | apply EC.skip | apply EC.label | apply EC.block | apply EC.exit | apply EC.ret | apply EK.in_normal | apply EK.in_same | apply EK.in_ret | apply EK.then_ret | apply EK.then_exit))
      exact EK.ret1 rfl rfl rfl
    · rw [decide_eq_false h2]
      repeat
        (first
         | (apply P_move; (iterate 3 exact rfl)) | (apply P_assign; (iterate 3 exact rfl)) | (apply P_pick; (iterate 4 exact rfl))
         | (apply P_cmp (b := false); (iterate 2 exact rfl); (focus (first | (simp [cmpI]; done) | (simp [cmpI]; omega))); (iterate 2 exact rfl)) | (apply P_lenbs; (iterate 4 exact rfl)) | apply EL.nil
         | ((with_reducible apply EK.then_normal); apply EK.code)
         | (with_reducible first | apply EC.seq | apply EC.region | apply EC.skip | apply EC.label | apply EC.block | apply EC.exit | apply EC.ret | apply EK.in_normal | apply EK.in_same | apply EK.in_ret | apply EK.then_ret | apply EK.then_exit))
      exact EK.ret1 rfl rfl rfl
theorem f_long1 (x : List UInt8 × List UInt8) : Fn 90 [dPr x] (· = .val (.v (.bool (lg x)))) := by
  have h1 := f_Long x
  unfold dPr
  refine Fn.walk 8 Try.func90 rfl Try.ntmps90 (by simp) fun X => ?_
  repeat
    (first
     | (apply P_call (h1); exact rfl; (focus (repeat first | exact RefineL.refl _ _ | exact RL.nil | exact Rf.same | exact Rf.bs0 | exact Rf.sl0 | (apply Rf.fact; (focus (simp; done)); exact rfl) | apply Rf.tup | apply RL.cons)); (focus (intro _ _; simp [go_sem]; done)); (iterate 2 exact rfl))
     | (apply P_assign; (iterate 3 exact rfl)) | (apply P_field; (iterate 6 exact rfl))
     | (apply P_load; exact rfl; (first | exact I0 | exact I1 | exact I2 | exact I3 | exact I4 | exact I5 | exact I6); (iterate 4 exact rfl)) | (apply P_box; exact rfl; exact rfl; exact rfl; intro _)
     | apply EL.nil | ((with_reducible apply EK.then_normal); apply EK.code)
     | (with_reducible first | apply EC.seq | apply EC.region | apply EC.skip | apply EC.label | apply EC.block | apply EC.exit | apply EC.ret | apply EK.in_normal | apply EK.in_same | apply EK.in_ret | apply EK.then_ret | apply EK.then_exit))
  exact EK.ret1 rfl rfl rfl
def lgAt : List (List UInt8 × List UInt8) → Nat → Int
  | [], _ => -1
  | x :: l, k => if lg x then (k : Int) else lgAt l (k + 1)
theorem lgAt_any : ∀ (l : List (List UInt8 × List UInt8)) (k : Nat), decide (lgAt l k ≥ 0) = l.any lg
  | [], k => rfl
  | x :: l, k => by
    rw [lgAt, List.any_cons]
    cases hx : lg x
    · simpa using lgAt_any l (k + 1)
    · simp
set_option maxRecDepth 20000 in
set_option maxHeartbeats 4000000 in
theorem f_indexP (l : List (List UInt8 × List UInt8)) : Fn 113 [.sl 2 (l.map dPr), .v (.func (.func 90) #[] #[])] (· = .val (.v (.int .i64 (lgAt l 0)))) := by
  refine Fn.walk 19 Try.func113 rfl Try.ntmps113 (by simp) fun X => ?_
  have hl : (l.map dPr).length = l.length := by rw [List.length_map]
  refine EC.lenOf (t := 0) rfl fun hmax => ?_
  rw [hl] at hmax
  unfold maxLen at hmax
  repeat
    (first
     | (apply P_move; (iterate 3 exact rfl)) | (apply P_assign; (iterate 3 exact rfl)) | (apply P_lensl; (iterate 4 exact rfl)) | apply EL.nil | ((with_reducible apply EK.then_normal); apply EK.code)
     | (with_reducible first | apply EC.seq | apply EC.region | apply EC.skip | apply EC.label | apply EC.block | apply EC.exit | apply EC.ret | apply EK.in_normal | apply EK.in_same | apply EK.in_ret | apply EK.then_ret | apply EK.then_exit))
  refine EC.loop (ι := {n : Nat // n ≤ l.length ∧ lgAt l 0 = lgAt (l.drop n) n})
    (fun n => ⟨[(8, .val (.v (.int .i64 (n.1 : Int)))), (7, .val (.v (.int .i64 ((l.map dPr).length : Int)))), (6, .val (.sl 2 (l.map dPr))), (4, .val (.v (.int .i64 0))), (0, .val (.sl 2 (l.map dPr))), (1, .val (.v (.func (.func 90) #[] #[])))], [], []⟩)
    (fun n => l.length - n.1) ⟨0, by omega, by rw [List.drop_zero]⟩ ?_ ?_
  · exact (Le.keep (by repeat first | exact trivial | refine ⟨rfl, ?_⟩) (by repeat first | exact List.nil_sublist _ | apply List.Sublist.cons_cons | apply List.Sublist.cons) (by simp))
  rintro ⟨n, hn, hI⟩
  dsimp only
  by_cases hlt : n < l.length
  · have hat : (l.map dPr)[n]? = some (.tup [.bs l[n].1, .bs l[n].2]) := by rw [List.getElem?_map, List.getElem?_eq_getElem hlt]; rfl
    have hc := f_long1 l[n]
    rw [List.drop_eq_getElem_cons hlt, lgAt] at hI
    unfold dPr at hc
    cases hg : lg l[n] with
    | true =>
      rw [hg] at hc hI
      repeat
        (first
         | (apply P_callMV (os := []) (caps := []) (ds' := [.tup [.bs l[n].1, .bs l[n].2]]) (cds := []) hc.toMT; (exact fun base ok L a w _ => rfl); (iterate 3 exact rfl); exact RefineL.refl _ _; (focus (intro _ _; simp [go_sem]; done)); (iterate 2 exact rfl); rintro _ _ ⟨rfl, rfl⟩; simp only [List.nil_append])
         | (apply P_move; (iterate 3 exact rfl)) | (apply P_assign; (iterate 3 exact rfl)) | (apply P_loadpd; (iterate 5 exact rfl))
         | (apply P_cmp (b := true); (iterate 2 exact rfl); (focus (first | (simp [cmpI]; done) | (simp [cmpI]; omega))); (iterate 2 exact rfl))
         | (apply P_index; (iterate 4 exact rfl); (focus (first | exact ⟨by decide, rfl⟩ | (refine ⟨by omega, ?_⟩; rw [Int.toNat_natCast]; assumption))); (iterate 2 exact rfl)) | apply EL.nil
         | ((with_reducible apply EK.then_normal); apply EK.code) | (apply EC.cond_true; exact rfl)
         | (with_reducible first | apply EC.seq | apply EC.region | apply EC.skip | apply EC.label | apply EC.block | apply EC.exit | apply EC.ret | apply EK.in_normal | apply EK.in_same | apply EK.in_ret | apply EK.then_ret | apply EK.then_exit))
      refine EK.ret1 rfl rfl ?_
      rw [hI, if_pos rfl]
    | false =>
      rw [hg] at hc hI
      rw [if_neg (by decide)] at hI
      repeat
        (first
         | (apply P_callMV (os := []) (caps := []) (ds' := [.tup [.bs l[n].1, .bs l[n].2]]) (cds := []) hc.toMT; (exact fun base ok L a w _ => rfl); (iterate 3 exact rfl); exact RefineL.refl _ _; (focus (intro _ _; simp [go_sem]; done)); (iterate 2 exact rfl); rintro _ _ ⟨rfl, rfl⟩; simp only [List.nil_append])
         | (apply P_move; (iterate 3 exact rfl)) | (apply P_assign; (iterate 3 exact rfl)) | (apply P_loadpd; (iterate 5 exact rfl))
         | (apply P_cmp (b := true); (iterate 2 exact rfl); (focus (first | (simp [cmpI]; done) | (simp [cmpI]; omega))); (iterate 2 exact rfl))
         | (apply P_ar; (iterate 3 exact rfl); (focus omega); (focus omega); (iterate 2 exact rfl))
         | (apply P_index; (iterate 4 exact rfl); (focus (first | exact ⟨by decide, rfl⟩ | (refine ⟨by omega, ?_⟩; rw [Int.toNat_natCast]; assumption))); (iterate 2 exact rfl)) | apply EL.nil
         | ((with_reducible apply EK.then_normal); apply EK.code) | (apply EC.cond_true; exact rfl) | (apply EC.cond_false; exact rfl)
         | (with_reducible first | apply EC.seq | apply EC.region | apply EC.skip | apply EC.label | apply EC.block | apply EC.exit | apply EC.ret | apply EK.in_normal | apply EK.in_same | apply EK.in_ret | apply EK.then_ret | apply EK.then_exit))
      refine EK.again ⟨n + 1, hlt, hI⟩ (by dsimp only; omega) ?_
      dsimp only
      simp only [Int.natCast_add]
      exact (Le.keep (by repeat first | exact trivial | refine ⟨rfl, ?_⟩) (by repeat first | exact List.nil_sublist _ | apply List.Sublist.cons_cons | apply List.Sublist.cons) (by simp))
  · have hge : l.drop n = [] := List.drop_eq_nil_of_le (by omega)
    rw [hge, lgAt] at hI
    repeat
      (first
       | (apply P_assign; (iterate 3 exact rfl)) | (apply P_cmp (b := false); (iterate 2 exact rfl); (focus (first | (simp [cmpI]; done) | (simp [cmpI]; omega))); (iterate 2 exact rfl)) | apply EL.nil
       | ((with_reducible apply EK.then_normal); apply EK.code) | (apply EC.cond_false; exact rfl)
       | (with_reducible first | apply EC.seq | apply EC.region | apply EC.skip | apply EC.label | apply EC.block | apply EC.exit | apply EC.ret | apply EK.in_normal | apply EK.in_same | apply EK.in_ret | apply EK.then_ret | apply EK.then_exit))
    refine EK.ret1 rfl rfl ?_
    rw [hI]
theorem f_containsP (l : List (List UInt8 × List UInt8)) : Fn 89 [.sl 2 (l.map dPr), .v (.func (.func 90) #[] #[])] (· = .val (.v (.bool (l.any lg)))) := by
  have h1 := f_indexP l
  have h2 := lgAt_any l 0
  rw [← h2]
  refine Fn.walk 9 Try.func89 rfl Try.ntmps89 (by simp) fun X => ?_
  repeat
    (first
     | (apply P_call (h1); exact rfl; (focus (repeat first | exact RefineL.refl _ _ | exact RL.nil | exact Rf.same | exact Rf.bs0 | exact Rf.sl0 | (apply Rf.fact; (focus (simp; done)); exact rfl) | apply Rf.tup | apply RL.cons)); (focus (intro _ _; simp [go_sem]; done)); (iterate 2 exact rfl))
     | (apply P_move; (iterate 3 exact rfl)) | (apply P_assign; (iterate 3 exact rfl)) | (apply P_cmp; (iterate 5 exact rfl)) | apply EL.nil | ((with_reducible apply EK.then_normal); apply EK.code)
     | (with_reducible first | apply EC.seq | apply EC.region | apply EC.skip | apply EC.label | apply EC.block | apply EC.exit | apply EC.ret | apply EK.in_normal | apply EK.in_same | apply EK.in_ret | apply EK.then_ret | apply EK.then_exit))
  exact EK.ret1 rfl rfl rfl
theorem enters_p2 : ∀ args w, (callFunc 94 args).run Try.prog w = .ok (.enter 94 args) w := enters_of Try.func94 (by kernel_rfl) rfl
set_option maxRecDepth 100000 in
set_option maxHeartbeats 1000000 in
theorem cmp_pair (u1 v1 u2 v2 : Value) (l m : List UInt8) (w : World) (h1 : IsB w u1 l) (h2 : IsB w u2 m) (o1 : v1.oneCell' = true) (o2 : v2.oneCell' = true) : Calls Try.prog 94 #[.agg #[u1, v1], .agg #[u2, v2]] w fun e w' => e = .returned (.int .i64 (cmpB l m)) ∧ ∃ q os', w' = grow (w.drewN q) os' := by
  have g1 := h1.gr ((gr_alloc w (.cells #[u1, v1] 162)).trans (gr_alloc _ (.cells #[u2, v2] 162)))
  have g2 := h2.gr ((gr_alloc w (.cells #[u1, v1] 162)).trans (gr_alloc _ (.cells #[u2, v2] 162)))
  have hc := Lib.hid (bytes_CompareW _ _ _ _ _ g1 g2)
  obtain ⟨A1, c1, rfl, a1, a2, a3⟩ := h1
  obtain ⟨A2, c2, rfl, b1, b2, b3⟩ := h2
  clear a3 b3 g1 g2
  go_enter Try.func94, Try.ntmps94
  go_wp2_with fail
  refine hc.out.mono ?_
  rintro e w' ⟨rfl, rfl⟩
  go_wp2_with fail
  exact bodyPost_ret (results_tmp rfl _ _ _) rfl ⟨rfl, 0, _, by rw [alloc_eq_grow, alloc_eq_grow, grow_grow]; rfl⟩
theorem sort_pair (v : Value) (ps : List (List UInt8 × List UInt8)) (hl : ps.length < 4611686018427387904) :
    FnM 93 [.v v, .v (.func (.func 94) #[] #[])] [.row v 162 2 (ps.map dPr)] (fun r os' => r = .tpl [] ∧ ∃ qs : List (List UInt8 × List UInt8), qs.Perm ps ∧ qs.Pairwise (fun x y => x.1 ≤ y.1) ∧ os' = [.row v 162 2 (qs.map dPr)]) :=
  sort_gen sortPair 162 2 (by decide) Try.isAgg162 Try.sizeOf162 dPr (fun _ => rfl) (fun _ => rfl) (·.1) ([], []) [.slice none 0 0, .slice none 0 0]
    (fun ok w => by
      unfold dPr
      rw [Reads, ReadsL]
      refine ⟨[_], [_], rfl, by rw [Reads]; exact ⟨_, rfl, none, 0, rfl, Nat.le_refl _, by simp [maxLen], fun h => absurd rfl h⟩, ?_⟩
      rw [ReadsL]
      refine ⟨[_], [], rfl, by rw [Reads]; exact ⟨_, rfl, none, 0, rfl, Nat.le_refl _, by simp [maxLen], fun h => absurd rfl h⟩, ?_⟩
      rw [ReadsL]) 94
    (fun ok w hok x y v u hv hu => by
      have key : ∀ (z : List UInt8 × List UInt8) (t : Value), ReadV ok w (dPr z) t → ∃ a b, t = .agg #[a, b] ∧ IsB w a z.1 ∧ b.oneCell' = true := by
        intro z t ht
        obtain ⟨cs, h', rfl⟩ := (readV_agg rfl).1 ht
        unfold dPr at h'
        rw [Reads, ReadsL] at h'
        obtain ⟨k1, k2, rfl, g1, g2⟩ := h'
        rw [ReadsL] at g2
        obtain ⟨k3, k4, rfl, g3, g4⟩ := g2
        rw [ReadsL] at g4
        subst g4
        have g1' := g1
        rw [Reads] at g1'
        obtain ⟨a, rfl, _⟩ := g1'
        have g3' := g3
        rw [Reads] at g3'
        obtain ⟨b, rfl, _⟩ := g3'
        exact ⟨a, b, rfl, isB_of hok ((readV_one rfl).2 g1), Reads.one _ _ g3 b (by simp)⟩
      obtain ⟨a1, b1, rfl, e1, e2⟩ := key x v hv
      obtain ⟨a2, b2, rfl, e3, e4⟩ := key y u hu
      exact cmp_pair a1 b1 a2 b2 x.1 y.1 w e1 e3 e2 e4) enters_p2 v ps hl
end E
end Go.Proofs.Ytmlajcbabimkjaa
/-
  trie.pairs: the pairs by rising paths.
  Conditions: none.
-/
namespace Go.Proofs.Ytmlajcbabimkjaa
set_option linter.unusedVariables false
open Go.RowKit Mono Rlp Go.Sort
namespace E
abbrev Pr := List UInt8 × List UInt8
def sp (x : Pr) : Pr := (split x.1, x.2)
def srt (ps : List Pr) : List Pr := ps.mergeSort fun a b => decide (a.1 ≤ b.1)
theorem srt_perm (ps : List Pr) : (srt ps).Perm ps := List.mergeSort_perm _ _
theorem srt_sorted (ps : List Pr) : (srt ps).Pairwise fun a b => a.1 ≤ b.1 := by
  have h := List.pairwise_mergeSort (le := fun a b : Pr => decide (a.1 ≤ b.1)) (fun a b c h1 h2 => by simp only [decide_eq_true_eq] at h1 h2 ⊢; exact List.le_trans h1 h2) (fun a b => by simp only [Bool.or_eq_true, decide_eq_true_eq]; exact List.le_total a.1 b.1) ps
  exact h.imp fun h => by simpa using h
theorem nodup_key {ps : List Pr} (h : (ps.map (·.1)).Nodup) {a b : Pr} (ha : a ∈ ps) (hb : b ∈ ps) (e : a.1 = b.1) : a = b := by
  obtain ⟨i, hi, rfl⟩ := List.getElem_of_mem ha
  obtain ⟨j, hj, rfl⟩ := List.getElem_of_mem hb
  have := (List.getElem_inj (h₀ := by simpa using hi) (h₁ := by simpa using hj) h).1 (by simpa using e)
  subst this
  rfl
theorem srt_eq {ps qs : List Pr} (hp : qs.Perm ps) (hs : qs.Pairwise fun a b => a.1 ≤ b.1) (hn : (ps.map (·.1)).Nodup) : qs = srt ps :=
  List.Perm.eq_of_pairwise (fun a b ha hb h1 h2 => nodup_key hn (hp.mem_iff.1 ha) ((srt_perm ps).mem_iff.1 hb) (List.le_antisymm h1 h2)) hs (srt_sorted ps) (hp.trans (srt_perm ps).symm)
def pairsF (l : List Pr) : R :=
  if 100000 < l.length ∨ l.any lg = true then .tpl [.v (.slice none 0 0), .v (.int .i64 3)]
  else if l.any (·.2.isEmpty) = true then .tpl [.v (.slice none 0 0), .v (.int .i64 1)]
  else if ((l.map sp).map (·.1)).Nodup then .tpl [.sl 2 ((srt (l.map sp)).map dPr), .v (.int .i64 0)]
  else .tpl [.v (.slice none 0 0), .v (.int .i64 1)]
theorem f_EqualT (l m : List UInt8) : Fn 95 [.bs l, .bs m] (· = .val (.v (.bool (l == m)))) := by
  have hb := (bin_string l m).1
  refine Fn.walk 10 Try.func95 rfl Try.ntmps95 (by simp) fun X => ?_
  repeat
    (first
     | (apply P_bin; (iterate 2 exact rfl); exact hb; (iterate 2 exact rfl)) | (apply P_move; (iterate 3 exact rfl)) | (apply P_assign; (iterate 3 exact rfl)) | (apply P_str; (iterate 3 exact rfl))
     | apply EL.nil | ((with_reducible apply EK.then_normal); apply EK.code)
     | (with_reducible first | apply EC.seq | apply EC.region | apply EC.skip | apply EC.label | apply EC.block | apply EC.exit | apply EC.ret | apply EK.in_normal | apply EK.in_same | apply EK.in_ret | apply EK.then_ret | apply EK.then_exit))
  exact EK.ret1 rfl rfl rfl
theorem not_long {l : List Pr} (h : l.any lg = false) {x : Pr} (hx : x ∈ l) : x.1.length ≤ 64 ∧ x.2.length ≤ 1048576 := by
  have := List.any_eq_false.1 h x hx
  unfold lg at this
  simp at this
  omega
theorem adj_nodup {qs : List Pr} (hq : qs.Pairwise fun a b => a.1 ≤ b.1) (h : ∀ j (hj : j + 1 < qs.length), qs[j].1 ≠ qs[j + 1].1) : (qs.map (·.1)).Nodup := by
  unfold List.Nodup
  rw [List.pairwise_map, List.pairwise_iff_getElem]
  intro i j hi hj hij e
  have h1 := List.pairwise_iff_getElem.1 hq i (i + 1) hi (by omega) (by omega)
  have h2 : qs[i + 1].1 ≤ qs[j].1 := by
    rcases Nat.lt_or_ge (i + 1) j with h | h
    · exact List.pairwise_iff_getElem.1 hq (i + 1) j (by omega) hj h
    · obtain rfl : j = i + 1 := by omega
      exact List.le_refl _
  exact h i (by omega) (List.le_antisymm h1 (by rw [e]; exact h2))
set_option maxRecDepth 20000 in
set_option maxHeartbeats 8000000 in
theorem f_pairs (l : List Pr) : Fn 60 [.sl 2 (l.map dPr)] (· = pairsF l) := by
  have h1 := f_containsP l
  unfold pairsF
  have hl : (l.map dPr).length = l.length := by rw [List.length_map]
  refine Fn.walk 56 Try.func60 rfl Try.ntmps60 (by simp) fun X => ?_
  by_cases hbig : 100000 < l.length
  · rw [if_pos (.inl hbig)]
    repeat
      (first
       | (apply P_skip; (iterate 2 exact rfl)) | (apply P_move; (iterate 3 exact rfl)) | (apply P_assign; (iterate 3 exact rfl)) | (apply P_pick; (iterate 4 exact rfl))
       | (apply P_cmp (b := true); (iterate 2 exact rfl); (focus (first | (simp [cmpI]; done) | (simp [cmpI]; omega))); (iterate 2 exact rfl)) | (apply P_lensl; (iterate 4 exact rfl)) | apply EL.nil
       | ((with_reducible apply EK.then_normal); apply EK.code) | (apply EC.cond_true; exact rfl)
       | (with_reducible first | apply EC.seq | apply EC.region | apply EC.skip | apply EC.label | apply EC.block | apply EC.exit | apply EC.ret | apply EK.in_normal | apply EK.in_same | apply EK.in_ret | apply EK.then_ret | apply EK.then_exit))
    exact EK.ret2 rfl rfl rfl rfl
  · cases hany : l.any lg with
    | true =>
      rw [hany] at h1
      rw [if_pos (.inr rfl)]
      repeat
        (first
         | (apply P_call (h1); exact rfl; (focus (repeat first | exact RefineL.refl _ _ | exact RL.nil | exact Rf.same | exact Rf.bs0 | exact Rf.sl0 | (apply Rf.fact; (focus (simp; done)); exact rfl) | apply Rf.tup | apply RL.cons)); (focus (intro _ _; simp [go_sem]; done)); (iterate 2 exact rfl))
         | (apply P_move; (iterate 3 exact rfl)) | (apply P_assign; (iterate 3 exact rfl)) | (apply P_pick; (iterate 4 exact rfl))
         | (apply P_cmp (b := false); (iterate 2 exact rfl); (focus (first | (simp [cmpI]; done) | (simp [cmpI]; omega))); (iterate 2 exact rfl)) | (apply P_lensl; (iterate 4 exact rfl)) | apply EL.nil
         | ((with_reducible apply EK.then_normal); apply EK.code) | (apply EC.cond_true; exact rfl)
         | (with_reducible first | apply EC.seq | apply EC.region | apply EC.skip | apply EC.label | apply EC.block | apply EC.exit | apply EC.ret | apply EK.in_normal | apply EK.in_same | apply EK.in_ret | apply EK.then_ret | apply EK.then_exit))
      exact EK.ret2 rfl rfl rfl rfl
    | false =>
      rw [hany] at h1
      rw [if_neg (by simp; omega)]
      repeat
        (first
         | (apply P_call (h1); exact rfl; (focus (repeat first | exact RefineL.refl _ _ | exact RL.nil | exact Rf.same | exact Rf.bs0 | exact Rf.sl0 | (apply Rf.fact; (focus (simp; done)); exact rfl) | apply Rf.tup | apply RL.cons)); (focus (intro _ _; simp [go_sem]; done)); (iterate 2 exact rfl))
         | (apply P_move; (iterate 3 exact rfl)) | (apply P_assign; (iterate 3 exact rfl)) | (apply P_pick; (iterate 4 exact rfl))
         | (apply P_cmp (b := false); (iterate 2 exact rfl); (focus (first | (simp [cmpI]; done) | (simp [cmpI]; omega))); (iterate 2 exact rfl)) | (apply P_lensl; (iterate 4 exact rfl)) | apply EL.nil
         | ((with_reducible apply EK.then_normal); apply EK.code) | (apply EC.cond_false; exact rfl)
         | (with_reducible first | apply EC.seq | apply EC.region | apply EC.skip | apply EC.label | apply EC.block | apply EC.exit | apply EC.ret | apply EK.in_normal | apply EK.in_same | apply EK.in_ret | apply EK.then_ret | apply EK.then_exit))
      refine EC.le (Le.row 162 2) ?_
      refine EC.loop (ι := {p : Value × Nat // p.2 ≤ l.length ∧ (l.take p.2).any (·.2.isEmpty) = false})
        (fun p => ⟨[(17, .val (.v (.int .i64 (p.1.2 : Int)))), (16, .val (.v (.int .i64 ((l.map dPr).length : Int)))), (15, .val (.sl 2 (l.map dPr))), (4, .val (.v p.1.1))],
          [.row p.1.1 162 2 ((l.take p.1.2).map fun x => dPr (sp x))], []⟩)
        (fun p => l.length - p.1.2) ⟨(.slice none 0 0, 0), by omega, by simp⟩ ?_ ?_
      · exact (Le.keep (by repeat first | exact trivial | refine ⟨rfl, ?_⟩) (by repeat first | exact List.nil_sublist _ | apply List.Sublist.cons_cons | apply List.Sublist.cons) (by simp))
      rintro ⟨⟨rv, n⟩, hn, hI⟩
      dsimp only at hn hI ⊢
      by_cases hlt : n < l.length
      · have hat : (l.map dPr)[n]? = some (.tup [.bs l[n].1, .bs l[n].2]) := by rw [List.getElem?_map, List.getElem?_eq_getElem hlt]; rfl
        have hx := not_long hany (List.getElem_mem hlt)
        have hs := f_pSplit l[n].1 (by omega)
        by_cases he : l[n].2 = []
        · have he0 : (l[n].2.length : Int) = 0 := by rw [he]; rfl
          have hempty : l.any (·.2.isEmpty) = true := List.any_eq_true.2 ⟨_, List.getElem_mem hlt, by rw [he]; rfl⟩
          repeat
            (first
             | (apply P_assign; (iterate 3 exact rfl)) | (apply P_field; (iterate 6 exact rfl)) | (apply P_loadpd; (iterate 5 exact rfl))
             | (apply P_load; exact rfl; (first | exact I0 | exact I1 | exact I2 | exact I3 | exact I4 | exact I5 | exact I6); (iterate 4 exact rfl))
             | (apply P_cmp (b := true); (iterate 2 exact rfl); (focus (first | (simp [cmpI]; done) | (simp [cmpI]; omega))); (iterate 2 exact rfl)) | (apply P_lenbs; (iterate 4 exact rfl))
             | (apply P_index; (iterate 4 exact rfl); (focus (first | exact ⟨by decide, rfl⟩ | (refine ⟨by omega, ?_⟩; rw [Int.toNat_natCast]; assumption))); (iterate 2 exact rfl))
             | (apply P_alloc; exact rfl; exact rfl; exact rfl; intro _) | (apply P_store; exact rfl; (focus (repeat first | exact .z | apply SetAt.s | apply SetAtF.s)); (iterate 4 exact rfl)) | apply EL.nil
             | ((with_reducible apply EK.then_normal); apply EK.code) | (apply EC.cond_true; exact rfl)
             | (with_reducible first | apply EC.seq | apply EC.region | apply EC.skip | apply EC.label | apply EC.block | apply EC.exit | apply EC.ret | apply EK.in_normal | apply EK.in_same | apply EK.in_ret | apply EK.then_ret | apply EK.then_exit))
          refine EK.ret2 rfl rfl rfl ?_
          rw [if_pos hempty]
        · have he0 : ¬ (l[n].2.length : Int) = 0 := fun h => he (List.eq_nil_of_length_eq_zero (by omega))
          repeat
            (first
             | (apply P_field; (iterate 6 exact rfl)) | (apply P_loadpd; (iterate 5 exact rfl))
             | (apply P_load; exact rfl; (first | exact I0 | exact I1 | exact I2 | exact I3 | exact I4 | exact I5 | exact I6); (iterate 4 exact rfl))
             | (apply P_cmp (b := true); (iterate 2 exact rfl); (focus (first | (simp [cmpI]; done) | (simp [cmpI]; omega))); (iterate 2 exact rfl))
             | (apply P_cmp (b := false); (iterate 2 exact rfl); (focus (first | (simp [cmpI]; done) | (simp [cmpI]; omega))); (iterate 2 exact rfl)) | (apply P_lenbs; (iterate 4 exact rfl))
             | (apply P_index; (iterate 4 exact rfl); (focus (first | exact ⟨by decide, rfl⟩ | (refine ⟨by omega, ?_⟩; rw [Int.toNat_natCast]; assumption))); (iterate 2 exact rfl))
             | (apply P_alloc; exact rfl; exact rfl; exact rfl; intro _) | (apply P_store; exact rfl; (focus (repeat first | exact .z | apply SetAt.s | apply SetAtF.s)); (iterate 4 exact rfl)) | apply EL.nil
             | ((with_reducible apply EK.then_normal); apply EK.code) | (apply EC.cond_true; exact rfl) | (apply EC.cond_false; exact rfl)
             | (with_reducible first | apply EC.seq | apply EC.region | apply EC.skip | apply EC.label | apply EC.block | apply EC.exit | apply EC.ret | apply EK.in_normal | apply EK.in_same | apply EK.in_ret | apply EK.then_ret | apply EK.then_exit))
          have hm : ((l.take n).map fun x => dPr (sp x)).length = n := by rw [List.length_map, List.length_take]; omega
          have hnx : (l.take (n + 1)).map (fun x => dPr (sp x)) = (l.take n).map (fun x => dPr (sp x)) ++ [.tup [.bs (split l[n].1), .bs l[n].2]] := by rw [List.take_succ_eq_append_getElem hlt, List.map_append]; rfl
          have hIx : (l.take (n + 1)).any (·.2.isEmpty) = false := by
            rw [List.take_succ_eq_append_getElem hlt, List.any_append, hI, Bool.false_or, List.any_cons, List.any_nil, Bool.or_false]
            cases hv : l[n].2 with
            | nil => exact absurd hv he
            | cons _ _ => rfl
          refine EC.le (Le.pick [1, 0] [_, _] rfl (by decide) rfl) ?_
          refine EC.drawC 9 [0, 1, 2, 4, 5] [3, 6, 7, 8] [_] _ (by kernel_rfl) (by kernel_rfl) rfl ?_
          simp only [pickL, List.filterMap_cons, List.filterMap_nil, List.getElem?_cons_zero, List.getElem?_cons_succ]
          repeat
            (first
             | (apply H_move; (iterate 3 exact rfl)) | (apply H_field; (iterate 6 exact rfl))
             | (apply H_load; exact rfl; (first | exact I0 | exact I1 | exact I2 | exact I3 | exact I4 | exact I5 | exact I6); (iterate 4 exact rfl)))
          refine EM.nil ?_
          repeat (first | rw [List.cons_append] | rw [List.nil_append])
          refine CH.cut 3 ?_
          simp only [List.take_succ_cons, List.take_zero, List.drop_succ_cons, List.drop_zero]
          repeat
            (first
             | (apply H_call (hs); exact rfl; (focus (repeat first | exact RefineL.refl _ _ | exact RL.nil | exact Rf.same | exact Rf.bs0 | exact Rf.sl0 | (apply Rf.fact; (focus (simp; done)); exact rfl) | apply Rf.tup | apply RL.cons)); (focus (intro _ _; simp [go_sem]; done)); (iterate 2 exact rfl))
             | (apply H_build; (iterate 7 exact rfl)) | (apply H_lit; (iterate 9 exact rfl)))
          refine EM.nil ?_
          repeat (first | rw [List.cons_append] | rw [List.nil_append])
          refine CH.mut (os := [_]) (rest := []) rfl rfl (m_append rfl rfl rfl rfl rfl (by rw [hm]; constructor <;> (simp; omega))) ?_
          rintro _ _ ⟨v', rfl, rfl⟩
          try simp only [St.put]
          repeat (first | rw [List.cons_append] | rw [List.nil_append])
          refine CH.nil ?_
          try simp only [List.drop_succ_cons, List.drop_zero]
          repeat
            (first
             | (apply P_move; (iterate 3 exact rfl)) | (apply P_assign; (iterate 3 exact rfl)) | (apply P_ar; (iterate 3 exact rfl); (focus omega); (focus omega); (iterate 2 exact rfl)) | apply EL.nil
             | ((with_reducible apply EK.then_normal); apply EK.code)
             | (with_reducible first | apply EC.seq | apply EC.region | apply EC.skip | apply EC.label | apply EC.block | apply EC.exit | apply EC.ret | apply EK.in_normal | apply EK.in_same | apply EK.in_ret | apply EK.then_ret | apply EK.then_exit))
          refine EK.again ⟨(v', n + 1), hlt, hIx⟩ (by dsimp only; omega) ?_
          dsimp only
          rw [hnx]
          simp only [Int.natCast_add]
          exact (Le.keep (by repeat first | exact trivial | refine ⟨rfl, ?_⟩) (by repeat first | exact List.nil_sublist _ | apply List.Sublist.cons_cons | apply List.Sublist.cons) (by simp))
      · obtain rfl : n = l.length := by omega
        have hne : l.any (·.2.isEmpty) = false := by rwa [List.take_length] at hI
        have hrow : (l.take l.length).map (fun x => dPr (sp x)) = (l.map sp).map dPr := by rw [List.take_length, List.map_map]; rfl
        rw [hrow]
        have hso := sort_pair rv (l.map sp) (by rw [List.length_map]; omega)
        simp only [hne, Bool.false_eq_true, if_false]
        repeat
          (first
           | (apply P_callM (os := [.row rv 162 2 ((l.map sp).map dPr)]) hso; (iterate 2 exact rfl); exact RefineL.refl _ _; (focus (intro _ _; simp [go_sem]; done)); (iterate 2 exact rfl); rintro _ _ ⟨rfl, qs, hp, hq, rfl⟩; refine EL.le (Le.freeze (pre := []) rfl) ?_; refine EL.le (Le.refine (t := 4) rfl (Rf.fact List.mem_cons_self rfl)) ?_)
           | (apply P_move; (iterate 3 exact rfl)) | (apply P_assign; (iterate 3 exact rfl))
           | (apply P_cmp (b := false); (iterate 2 exact rfl); (focus (first | (simp [cmpI]; done) | (simp [cmpI]; omega))); (iterate 2 exact rfl)) | apply EL.nil
           | ((with_reducible apply EK.then_normal); apply EK.code) | (apply EC.cond_false; exact rfl)
           | (with_reducible first | apply EC.seq | apply EC.region | apply EC.skip | apply EC.label | apply EC.block | apply EC.exit | apply EC.ret | apply EK.in_normal | apply EK.in_same | apply EK.in_ret | apply EK.then_ret | apply EK.then_exit))
        have hql : qs.length = l.length := by rw [hp.length_eq, List.length_map]
        have hqd : (qs.map dPr).length = qs.length := by rw [List.length_map]
        refine EC.loop (ι := {n : Nat // n ≤ qs.length ∧ ∀ j (hj : j + 1 < qs.length), j < n → qs[j].1 ≠ qs[j + 1].1})
          (fun n => ⟨[(7, .val (.v (.int .i64 ((n.1 + 1 : Nat) : Int)))), (4, .val (.sl 2 (qs.map dPr)))], [], []⟩)
          (fun n => qs.length - n.1) ⟨0, by omega, fun j _ h => absurd h (Nat.not_lt_zero _)⟩ ?_ ?_
        · exact (Le.keep (by repeat first | exact trivial | refine ⟨rfl, ?_⟩) (by repeat first | exact List.nil_sublist _ | apply List.Sublist.cons_cons | apply List.Sublist.cons) (by simp))
        rintro ⟨n, hn, hI⟩
        dsimp only
        by_cases hlt : n + 1 < qs.length
        · have hat1 : (qs.map dPr)[n]? = some (.tup [.bs qs[n].1, .bs qs[n].2]) := by rw [List.getElem?_map, List.getElem?_eq_getElem (by omega)]; rfl
          have hat2 : (qs.map dPr)[n + 1]? = some (.tup [.bs qs[n + 1].1, .bs qs[n + 1].2]) := by rw [List.getElem?_map, List.getElem?_eq_getElem hlt]; rfl
          have hE := f_EqualT qs[n].1 qs[n + 1].1
          by_cases heq : qs[n].1 = qs[n + 1].1
          · rw [show (qs[n].1 == qs[n + 1].1) = true by simpa using heq] at hE
            repeat
              (first
               | (apply P_move; (iterate 3 exact rfl)) | (apply P_cmp (b := true); (iterate 2 exact rfl); (focus (first | (simp [cmpI]; done) | (simp [cmpI]; omega))); (iterate 2 exact rfl))
               | (apply P_lensl; (iterate 4 exact rfl)) | apply EL.nil | ((with_reducible apply EK.then_normal); apply EK.code) | (apply EC.cond_true; exact rfl)
               | (with_reducible first | apply EC.seq | apply EC.region | apply EC.skip | apply EC.label | apply EC.block | apply EC.exit | apply EC.ret | apply EK.in_normal | apply EK.in_same | apply EK.in_ret | apply EK.then_ret | apply EK.then_exit))
            refine EC.draw 12 (by kernel_rfl) ?_
            simp only [List.take_succ_cons, List.take_zero, List.drop_succ_cons, List.drop_zero]
            repeat
              (first
               | (apply H_call (hE); exact rfl; (focus (repeat first | exact RefineL.refl _ _ | exact RL.nil | exact Rf.same | exact Rf.bs0 | exact Rf.sl0 | (apply Rf.fact; (focus (simp; done)); exact rfl) | apply Rf.tup | apply RL.cons)); (focus (intro _ _; simp [go_sem]; done)); (iterate 2 exact rfl))
               | (apply H_index; (iterate 4 exact rfl); exact ⟨by omega, by rw [show (((n + 1 : Nat) : Int) - 1).toNat = n by omega]; exact hat1⟩; (iterate 2 exact rfl)) | (apply H_move; (iterate 3 exact rfl))
               | (apply H_fieldpd; (iterate 7 exact rfl)) | (apply H_loadpd; (iterate 5 exact rfl)) | (apply H_ar; (iterate 3 exact rfl); (focus omega); (focus omega); (iterate 2 exact rfl))
               | (apply H_index; (iterate 4 exact rfl); (focus (first | exact ⟨by decide, rfl⟩ | (refine ⟨by omega, ?_⟩; rw [Int.toNat_natCast]; assumption))); (iterate 2 exact rfl))
               | ((with_reducible apply EH.nil); exact rfl))
            repeat
              (first
               | (apply P_assign; (iterate 3 exact rfl)) | apply EL.nil | ((with_reducible apply EK.then_normal); apply EK.code) | (apply EC.cond_true; exact rfl)
               | (with_reducible first | apply EC.seq | apply EC.region | apply EC.skip | apply EC.label | apply EC.block | apply EC.exit | apply EC.ret | apply EK.in_normal | apply EK.in_same | apply EK.in_ret | apply EK.then_ret | apply EK.then_exit))
            refine EK.ret2 rfl rfl rfl ?_
            rw [if_neg]
            intro hnd
            have h3 := (hp.map (·.1)).nodup_iff.2 hnd
            have h4 := (List.getElem_inj (h₀ := by rw [List.length_map]; omega) (h₁ := by rw [List.length_map]; exact hlt) h3 (i := n) (j := n + 1)).1 (by simpa using heq)
            omega
          · rw [show (qs[n].1 == qs[n + 1].1) = false by simpa using heq] at hE
            repeat
              (first
               | (apply P_move; (iterate 3 exact rfl)) | (apply P_cmp (b := true); (iterate 2 exact rfl); (focus (first | (simp [cmpI]; done) | (simp [cmpI]; omega))); (iterate 2 exact rfl))
               | (apply P_lensl; (iterate 4 exact rfl)) | apply EL.nil | ((with_reducible apply EK.then_normal); apply EK.code) | (apply EC.cond_true; exact rfl)
               | (with_reducible first | apply EC.seq | apply EC.region | apply EC.skip | apply EC.label | apply EC.block | apply EC.exit | apply EC.ret | apply EK.in_normal | apply EK.in_same | apply EK.in_ret | apply EK.then_ret | apply EK.then_exit))
            refine EC.draw 12 (by kernel_rfl) ?_
            simp only [List.take_succ_cons, List.take_zero, List.drop_succ_cons, List.drop_zero]
            repeat
              (first
               | (apply H_call (hE); exact rfl; (focus (repeat first | exact RefineL.refl _ _ | exact RL.nil | exact Rf.same | exact Rf.bs0 | exact Rf.sl0 | (apply Rf.fact; (focus (simp; done)); exact rfl) | apply Rf.tup | apply RL.cons)); (focus (intro _ _; simp [go_sem]; done)); (iterate 2 exact rfl))
               | (apply H_index; (iterate 4 exact rfl); exact ⟨by omega, by rw [show (((n + 1 : Nat) : Int) - 1).toNat = n by omega]; exact hat1⟩; (iterate 2 exact rfl)) | (apply H_move; (iterate 3 exact rfl))
               | (apply H_fieldpd; (iterate 7 exact rfl)) | (apply H_loadpd; (iterate 5 exact rfl)) | (apply H_ar; (iterate 3 exact rfl); (focus omega); (focus omega); (iterate 2 exact rfl))
               | (apply H_index; (iterate 4 exact rfl); (focus (first | exact ⟨by decide, rfl⟩ | (refine ⟨by omega, ?_⟩; rw [Int.toNat_natCast]; assumption))); (iterate 2 exact rfl))
               | ((with_reducible apply EH.nil); exact rfl))
            repeat
              (first
               | (apply P_move; (iterate 3 exact rfl)) | (apply P_assign; (iterate 3 exact rfl)) | (apply P_ar; (iterate 3 exact rfl); (focus omega); (focus omega); (iterate 2 exact rfl)) | apply EL.nil
               | ((with_reducible apply EK.then_normal); apply EK.code) | (apply EC.cond_false; exact rfl)
               | (with_reducible first | apply EC.seq | apply EC.region | apply EC.skip | apply EC.label | apply EC.block | apply EC.exit | apply EC.ret | apply EK.in_normal | apply EK.in_same | apply EK.in_ret | apply EK.then_ret | apply EK.then_exit))
            refine EK.again ⟨n + 1, by omega, fun j hj hjn => ?_⟩ (by dsimp only; omega) ?_
            · rcases Nat.lt_or_ge j n with h | h
              · exact hI j hj h
              · obtain rfl : j = n := by omega
                exact heq
            dsimp only
            simp only [Int.natCast_add]
            exact (Le.keep (by repeat first | exact trivial | refine ⟨rfl, ?_⟩) (by repeat first | exact List.nil_sublist _ | apply List.Sublist.cons_cons | apply List.Sublist.cons) (by simp))
        · have hnd := adj_nodup hq fun j hj => hI j hj (by omega)
          have hnd2 : ((l.map sp).map (·.1)).Nodup := (hp.map (·.1)).nodup_iff.1 hnd
          have hqs := srt_eq hp hq hnd2
          repeat
            (first
             | (apply P_move; (iterate 3 exact rfl)) | (apply P_assign; (iterate 3 exact rfl))
             | (apply P_cmp (b := false); (iterate 2 exact rfl); (focus (first | (simp [cmpI]; done) | (simp [cmpI]; omega))); (iterate 2 exact rfl)) | (apply P_lensl; (iterate 4 exact rfl)) | apply EL.nil
             | ((with_reducible apply EK.then_normal); apply EK.code) | (apply EC.cond_false; exact rfl)
             | (with_reducible first | apply EC.seq | apply EC.region | apply EC.skip | apply EC.label | apply EC.block | apply EC.exit | apply EC.ret | apply EK.in_normal | apply EK.in_same | apply EK.in_ret | apply EK.then_ret | apply EK.then_exit))
          refine EK.ret2 rfl rfl rfl ?_
          rw [if_pos hnd2, hqs]
end E
end Go.Proofs.Ytmlajcbabimkjaa
/-
  shape's Item, Bytes, Ref, Sum.
  Conditions: none.
-/
namespace Go.Proofs.Ytmlajcbabimkjaa
set_option linter.unusedVariables false
open Go.RowKit Mono Rlp
namespace E
theorem bin_ifc (T : TypeId) (d : D) : Bin .eql 80 (.ifc T d) (.v .nilIface) (.bool false) := by
  refine ⟨rfl, fun ok w p q hp hq => ?_⟩
  obtain rfl := (readV_v.1 hq).2
  obtain ⟨cs, h1, rfl⟩ := hp
  rw [Reads] at h1
  obtain ⟨cs', rfl, _⟩ := h1
  exact ⟨fun x y => by simp [eqGuard, form, D.agg], run_eql_held_nil _ _ _ _ (by kernel_rfl)⟩
theorem bin_inil : Bin .eql 80 (.v .nilIface) (.v .nilIface) (.bool true) := by
  refine ⟨rfl, fun ok w p q hp hq => ?_⟩
  obtain rfl := (readV_v.1 hp).2
  obtain rfl := (readV_v.1 hq).2
  exact ⟨fun x y => by cases x <;> cases y <;> kernel_rfl, by kernel_rfl⟩
theorem dT_ifc {t : Tn} (h : t.isNil = false) : ∃ T d, dT t = .ifc T d ∧ Nat.beq T 125 = false := by
  cases t with
  | nil => cases h
  | leaf p v => exact ⟨_, _, by rw [dT], rfl⟩
  | ext p k => exact ⟨_, _, by rw [dT], rfl⟩
  | br ks v => exact ⟨_, _, by rw [dT], rfl⟩
set_option maxRecDepth 20000 in
set_option maxHeartbeats 4000000 in
theorem f_Bytes_of (t : Tn) (h : Fn 99 [dT t] (· = .val (dItem (itemT t)))) : Fn 64 [dT t] (· = .val (.bs (pkB (itemT t)))) := by
  have h1 := f_Pack (itemT t)
  unfold pkB
  refine Fn.walk 12 Try.func64 rfl Try.ntmps64 (by simp) fun X => ?_
  cases hp : packed (itemT t) with
  | none =>
    rw [hp] at h1
    repeat
      (first
       | (apply P_call (h); exact rfl; (focus (repeat first | exact RefineL.refl _ _ | exact RL.nil | exact Rf.same | exact Rf.bs0 | exact Rf.sl0 | (apply Rf.fact; (focus (simp; done)); exact rfl) | apply Rf.tup | apply RL.cons)); (focus (intro _ _; simp [go_sem]; done)); (iterate 2 exact rfl))
       | (apply P_call (h1); exact rfl; (focus (repeat first | exact RefineL.refl _ _ | exact RL.nil | exact Rf.same | exact Rf.bs0 | exact Rf.sl0 | (apply Rf.fact; (focus (simp; done)); exact rfl) | apply Rf.tup | apply RL.cons)); (focus (intro _ _; simp [go_sem]; done)); (iterate 2 exact rfl))
       | (apply P_move; (iterate 3 exact rfl)) | (apply P_assign; (iterate 3 exact rfl)) | (apply P_extract; (iterate 4 exact rfl)) | apply EL.nil | ((with_reducible apply EK.then_normal); apply EK.code)
       | (with_reducible first | apply EC.seq | apply EC.region | apply EC.skip | apply EC.label | apply EC.block | apply EC.exit | apply EC.ret | apply EK.in_normal | apply EK.in_same | apply EK.in_ret | apply EK.then_ret | apply EK.then_exit))
    refine EK.ret1r rfl rfl ?_ rfl
    (repeat first | exact RefineL.refl _ _ | exact RL.nil | exact Rf.same | exact Rf.bs0 | exact Rf.sl0 | (apply Rf.fact; (focus (simp; done)); exact rfl) | apply Rf.tup | apply RL.cons)
  | some b =>
    rw [hp] at h1
    repeat
      (first
       | (apply P_call (h); exact rfl; (focus (repeat first | exact RefineL.refl _ _ | exact RL.nil | exact Rf.same | exact Rf.bs0 | exact Rf.sl0 | (apply Rf.fact; (focus (simp; done)); exact rfl) | apply Rf.tup | apply RL.cons)); (focus (intro _ _; simp [go_sem]; done)); (iterate 2 exact rfl))
       | (apply P_call (h1); exact rfl; (focus (repeat first | exact RefineL.refl _ _ | exact RL.nil | exact Rf.same | exact Rf.bs0 | exact Rf.sl0 | (apply Rf.fact; (focus (simp; done)); exact rfl) | apply Rf.tup | apply RL.cons)); (focus (intro _ _; simp [go_sem]; done)); (iterate 2 exact rfl))
       | (apply P_move; (iterate 3 exact rfl)) | (apply P_assign; (iterate 3 exact rfl)) | (apply P_extract; (iterate 4 exact rfl)) | apply EL.nil | ((with_reducible apply EK.then_normal); apply EK.code)
       | (with_reducible first | apply EC.seq | apply EC.region | apply EC.skip | apply EC.label | apply EC.block | apply EC.exit | apply EC.ret | apply EK.in_normal | apply EK.in_same | apply EK.in_ret | apply EK.then_ret | apply EK.then_exit))
    exact EK.ret1 rfl rfl rfl
set_option maxRecDepth 20000 in
set_option maxHeartbeats 4000000 in
theorem f_Ref_of (t : Tn) (h : t.isNil = false → Fn 99 [dT t] (· = .val (dItem (itemT t)))) : Fn 121 [dT t] (· = .val (dItem (refT t))) := by
  unfold refT
  cases hn : t.isNil with
  | true =>
    cases t with
    | nil =>
      rw [if_pos rfl]
      have hb := bin_inil
      have e : dT Tn.nil = .v .nilIface := rfl
      rw [e]
      refine Fn.walk 31 Try.func121 rfl Try.ntmps121 (by simp) fun X => ?_
      repeat
        (first
         | (apply P_bin; (iterate 2 exact rfl); exact hb; (iterate 2 exact rfl)) | (apply P_move; (iterate 3 exact rfl)) | (apply P_build; (iterate 7 exact rfl))
         | (apply P_alloc; exact rfl; exact rfl; exact rfl; intro _) | (apply P_store; exact rfl; (focus (repeat first | exact .z | apply SetAt.s | apply SetAtF.s)); (iterate 4 exact rfl)) | apply EL.nil
         | ((with_reducible apply EK.then_normal); apply EK.code) | (apply EC.cond_true; exact rfl)
         | (with_reducible first | apply EC.seq | apply EC.region | apply EC.skip | apply EC.label | apply EC.block | apply EC.exit | apply EC.ret | apply EK.in_normal | apply EK.in_same | apply EK.in_ret | apply EK.then_ret | apply EK.then_exit))
      refine EK.retc1r 0 rfl rfl rfl rfl ?_ rfl
      (repeat first | exact RefineL.refl _ _ | exact RL.nil | exact Rf.same | exact Rf.bs0 | exact Rf.sl0 | (apply Rf.fact; (focus (simp; done)); exact rfl) | apply Rf.tup | apply RL.cons)
    | leaf p v => cases hn
    | ext p k => cases hn
    | br ks v => cases hn
  | false =>
    rw [if_neg (by decide)]
    have h1 := h hn
    have h2 := f_Bytes_of t h1
    obtain ⟨T, d, e, hne⟩ := dT_ifc hn
    rw [e] at h1 h2 ⊢
    have hb := bin_ifc T d
    unfold refI
    refine Fn.walk 31 Try.func121 rfl Try.ntmps121 (by simp) fun X => ?_
    by_cases hl : (pkB (itemT t)).length < 32
    · rw [if_pos hl]
      have hli : ((pkB (itemT t)).length : Int) < 32 := by omega
      generalize itemT t = x at *
      obtain ⟨xb, xl, xs⟩ := x
      rw [dItem] at h1
      repeat
        (first
         | (apply P_bin; (iterate 2 exact rfl); exact hb; (iterate 2 exact rfl)) | (apply P_asNo; exact rfl; exact rfl; exact hne; (iterate 3 exact rfl))
         | (apply P_call (h2); exact rfl; (focus (repeat first | exact RefineL.refl _ _ | exact RL.nil | exact Rf.same | exact Rf.bs0 | exact Rf.sl0 | (apply Rf.fact; (focus (simp; done)); exact rfl) | apply Rf.tup | apply RL.cons)); (focus (intro _ _; simp [go_sem]; done)); (iterate 2 exact rfl))
         | (apply P_call (h1); exact rfl; (focus (repeat first | exact RefineL.refl _ _ | exact RL.nil | exact Rf.same | exact Rf.bs0 | exact Rf.sl0 | (apply Rf.fact; (focus (simp; done)); exact rfl) | apply Rf.tup | apply RL.cons)); (focus (intro _ _; simp [go_sem]; done)); (iterate 2 exact rfl))
         | (apply P_move; (iterate 3 exact rfl)) | (apply P_assign; (iterate 3 exact rfl)) | (apply P_extract; (iterate 4 exact rfl))
         | (apply P_cmp (b := true); (iterate 2 exact rfl); (focus (first | (simp [cmpI]; done) | (simp [cmpI]; omega))); (iterate 2 exact rfl)) | (apply P_lenbs; (iterate 4 exact rfl))
         | (apply P_alloc; exact rfl; exact rfl; exact rfl; intro _) | (apply P_store; exact rfl; (focus (repeat first | exact .z | apply SetAt.s | apply SetAtF.s)); (iterate 4 exact rfl)) | apply EL.nil
         | ((with_reducible apply EK.then_normal); apply EK.code) | (apply EC.cond_true; exact rfl) | (apply EC.cond_false; exact rfl)
         | (with_reducible first | apply EC.seq | apply EC.region | apply EC.skip | apply EC.label | apply EC.block | apply EC.exit | apply EC.ret | apply EK.in_normal | apply EK.in_same | apply EK.in_ret | apply EK.then_ret | apply EK.then_exit))
      refine EK.retc1r 1 rfl rfl rfl rfl ?_ rfl
      (repeat first | exact RefineL.refl _ _ | exact RL.nil | exact Rf.same | exact Rf.bs0 | exact Rf.sl0 | (apply Rf.fact; (focus (simp; done)); exact rfl) | apply Rf.tup | apply RL.cons)
    · rw [if_neg hl]
      have hli : ¬ ((pkB (itemT t)).length : Int) < 32 := by omega
      have h3 := f_kSum1 (pkB (itemT t))
      repeat
        (first
         | (apply P_bin; (iterate 2 exact rfl); exact hb; (iterate 2 exact rfl)) | (apply P_asNo; exact rfl; exact rfl; exact hne; (iterate 3 exact rfl))
         | (apply P_call (h2); exact rfl; (focus (repeat first | exact RefineL.refl _ _ | exact RL.nil | exact Rf.same | exact Rf.bs0 | exact Rf.sl0 | (apply Rf.fact; (focus (simp; done)); exact rfl) | apply Rf.tup | apply RL.cons)); (focus (intro _ _; simp [go_sem]; done)); (iterate 2 exact rfl))
         | (apply P_call (h3); exact rfl; (focus (repeat first | exact RefineL.refl _ _ | exact RL.nil | exact Rf.same | exact Rf.bs0 | exact Rf.sl0 | (apply Rf.fact; (focus (simp; done)); exact rfl) | apply Rf.tup | apply RL.cons)); (focus (intro _ _; simp [go_sem]; done)); (iterate 2 exact rfl))
         | (apply P_move; (iterate 3 exact rfl)) | (apply P_assign; (iterate 3 exact rfl)) | (apply P_extract; (iterate 4 exact rfl))
         | (apply P_cmp (b := false); (iterate 2 exact rfl); (focus (first | (simp [cmpI]; done) | (simp [cmpI]; omega))); (iterate 2 exact rfl)) | (apply P_lenbs; (iterate 4 exact rfl))
         | (apply P_lit; (iterate 9 exact rfl)) | (apply P_alloc; exact rfl; exact rfl; exact rfl; intro _)
         | (apply P_store; exact rfl; (focus (repeat first | exact .z | apply SetAt.s | apply SetAtF.s)); (iterate 4 exact rfl)) | apply EL.nil | ((with_reducible apply EK.then_normal); apply EK.code)
         | (apply EC.cond_false; exact rfl)
         | (with_reducible first | apply EC.seq | apply EC.region | apply EC.skip | apply EC.label | apply EC.block | apply EC.exit | apply EC.ret | apply EK.in_normal | apply EK.in_same | apply EK.in_ret | apply EK.then_ret | apply EK.then_exit))
      refine EL.le (Le.pin (p := 6) (pre := []) rfl rfl) ?_
      repeat
        (first
         | (apply P_slpd sl_word; (iterate 6 exact rfl)) | (apply P_build; (iterate 7 exact rfl))
         | (apply P_store; exact rfl; (focus (repeat first | exact .z | apply SetAt.s | apply SetAtF.s)); (iterate 4 exact rfl)) | apply EL.nil | ((with_reducible apply EK.then_normal); apply EK.code)
         | (with_reducible first | apply EC.seq | apply EC.region | apply EC.skip | apply EC.label | apply EC.block | apply EC.exit | apply EC.ret | apply EK.in_normal | apply EK.in_same | apply EK.in_ret | apply EK.then_ret | apply EK.then_exit))
      refine EK.retc1r 1 rfl rfl rfl rfl ?_ rfl
      (repeat first | exact RefineL.refl _ _ | exact RL.nil | exact Rf.same | exact Rf.bs0 | exact Rf.sl0 | (apply Rf.fact; (focus (simp; done)); exact rfl) | apply Rf.tup | apply RL.cons)
set_option maxRecDepth 20000 in
set_option maxHeartbeats 4000000 in
theorem f_Sum_of (t : Tn) (h : t.isNil = false → Fn 99 [dT t] (· = .val (dItem (itemT t)))) : Fn 33 [dT t] (· = .val (.arr 32 (sumT t))) := by
  unfold sumT
  cases hn : t.isNil with
  | true =>
    cases t with
    | nil =>
      rw [if_pos rfl]
      have hb := bin_inil
      have h1 := f_shEmpty
      have e : dT Tn.nil = .v .nilIface := rfl
      rw [e]
      refine Fn.walk 19 Try.func33 rfl Try.ntmps33 (by simp) fun X => ?_
      repeat
        (first
         | (apply P_bin; (iterate 2 exact rfl); exact hb; (iterate 2 exact rfl))
         | (apply P_call (h1); exact rfl; (focus (repeat first | exact RefineL.refl _ _ | exact RL.nil | exact Rf.same | exact Rf.bs0 | exact Rf.sl0 | (apply Rf.fact; (focus (simp; done)); exact rfl) | apply Rf.tup | apply RL.cons)); (focus (intro _ _; simp [go_sem]; done)); (iterate 2 exact rfl))
         | (apply P_move; (iterate 3 exact rfl)) | (apply P_alloc; exact rfl; exact rfl; exact rfl; intro _)
         | (apply P_store; exact rfl; (focus (repeat first | exact .z | apply SetAt.s | apply SetAtF.s)); (iterate 4 exact rfl)) | apply EL.nil | ((with_reducible apply EK.then_normal); apply EK.code)
         | (apply EC.cond_true; exact rfl)
         | (with_reducible first | apply EC.seq | apply EC.region | apply EC.skip | apply EC.label | apply EC.block | apply EC.exit | apply EC.ret | apply EK.in_normal | apply EK.in_same | apply EK.in_ret | apply EK.then_ret | apply EK.then_exit))
      refine EK.retc1r 0 rfl rfl rfl rfl ?_ rfl
      (repeat first | exact RefineL.refl _ _ | exact RL.nil | exact Rf.same | exact Rf.bs0 | exact Rf.sl0 | (apply Rf.fact; (focus (simp; done)); exact rfl) | apply Rf.tup | apply RL.cons)
    | leaf p v => cases hn
    | ext p k => cases hn
    | br ks v => cases hn
  | false =>
    rw [if_neg (by decide)]
    have h2 := f_Bytes_of t (h hn)
    obtain ⟨T, d, e, hne⟩ := dT_ifc hn
    rw [e] at h2 ⊢
    have hb := bin_ifc T d
    have h3 := f_kSum1 (pkB (itemT t))
    refine Fn.walk 19 Try.func33 rfl Try.ntmps33 (by simp) fun X => ?_
    repeat
      (first
       | (apply P_bin; (iterate 2 exact rfl); exact hb; (iterate 2 exact rfl)) | (apply P_asNo; exact rfl; exact rfl; exact hne; (iterate 3 exact rfl))
       | (apply P_call (h2); exact rfl; (focus (repeat first | exact RefineL.refl _ _ | exact RL.nil | exact Rf.same | exact Rf.bs0 | exact Rf.sl0 | (apply Rf.fact; (focus (simp; done)); exact rfl) | apply Rf.tup | apply RL.cons)); (focus (intro _ _; simp [go_sem]; done)); (iterate 2 exact rfl))
       | (apply P_call (h3); exact rfl; (focus (repeat first | exact RefineL.refl _ _ | exact RL.nil | exact Rf.same | exact Rf.bs0 | exact Rf.sl0 | (apply Rf.fact; (focus (simp; done)); exact rfl) | apply Rf.tup | apply RL.cons)); (focus (intro _ _; simp [go_sem]; done)); (iterate 2 exact rfl))
       | (apply P_move; (iterate 3 exact rfl)) | (apply P_assign; (iterate 3 exact rfl)) | (apply P_extract; (iterate 4 exact rfl)) | (apply P_lit; (iterate 9 exact rfl))
       | (apply P_alloc; exact rfl; exact rfl; exact rfl; intro _) | (apply P_store; exact rfl; (focus (repeat first | exact .z | apply SetAt.s | apply SetAtF.s)); (iterate 4 exact rfl)) | apply EL.nil
       | ((with_reducible apply EK.then_normal); apply EK.code) | (apply EC.cond_false; exact rfl)
       | (with_reducible first | apply EC.seq | apply EC.region | apply EC.skip | apply EC.label | apply EC.block | apply EC.exit | apply EC.ret | apply EK.in_normal | apply EK.in_same | apply EK.in_ret | apply EK.then_ret | apply EK.then_exit))
    refine EK.retc1r 1 rfl rfl rfl rfl ?_ rfl
    (repeat first | exact RefineL.refl _ _ | exact RL.nil | exact Rf.same | exact Rf.bs0 | exact Rf.sl0 | (apply Rf.fact; (focus (simp; done)); exact rfl) | apply Rf.tup | apply RL.cons)
end E
end Go.Proofs.Ytmlajcbabimkjaa
