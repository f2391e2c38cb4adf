/-
 Merged (wip/tools/merge.py): TP5, TP6, TP7.
 Conditions: none.
-/
import Derived.Test.YtiledgojbpmoiaaZC15
import Derived.Test.YtiledgojbpmoiaaZC18
/-
 trie.Long, ContainsFunc of it, SortFunc of pairs.
 Conditions: none.
-/
namespace Go.Proofs.Ytiledgojbpmoiaa
set_option linter.unusedVariables false
open Go.RowKit Mono Rlp Go.Sort
namespace E
def dPr (x : List UInt8 × List UInt8) : D := .tup [.bs x.1, .bs x.2]
theorem Fn.toMT {f : FuncId} {ds : List D} {Φ : R → Prop} (h : Fn f ds Φ) : FnM f ds [] (fun r os' => Φ r ∧ os' = []) := ⟨fun ok w xs hok hown hr => (h.go ok w xs hok hr).mono fun e w' ⟨hg, v, r, he, hΦ, hv⟩ =>
 ⟨v, r, [], he, ⟨hΦ, rfl⟩, ⟨.of hg, .nil, fun o ho => by simp at ho⟩, hv.mono (fun b hb => ⟨hb.1.elim .inl fun h => .inr (.inr h), hb.2, fun o ho => by simp at ho⟩) fun _ _ => rfl⟩⟩
def lg (x : List UInt8 × List UInt8) : Bool := decide (64 < x.1.length) || decide (1048576 < x.2.length)
set_option maxRecDepth 20000 in
theorem f_Long (x : List UInt8 × List UInt8) : Fn 53 [.bs x.1, .bs x.2] (· = .val (.v (.bool (lg x)))) := by
 unfold lg
 refine Fn.walk 13 Try.func53 rfl Try.ntmps53 (by simp) fun X => ?_
 by_cases h : 64 < x.1.length
 ·
  rw [decide_eq_true h]
  repeat
   (first
    | (apply P_skip; iterate 2 rfl) | (apply P_move; iterate 3 rfl) | (apply P_assign; iterate 3 rfl) | (apply P_pick; iterate 4 rfl)
    | (apply P_cmp (b := true); (iterate 2 rfl); (focus (first | (simp [cmpI]; done) | (simp [cmpI]; omega))); iterate 2 rfl) | (apply P_lenbs; iterate 4 rfl) | apply EL.nil
    | ((with_reducible apply EK.then_normal); apply EK.code) | (with_reducible first | apply EC.seq | apply EC.region | apply EC.ret))
  exact EK.ret1 rfl rfl rfl
 ·
  rw [decide_eq_false h]
  by_cases h2 : 1048576 < x.2.length
  ·
   rw [decide_eq_true h2]
   repeat
    (first
     | (apply P_move; iterate 3 rfl) | (apply P_assign; iterate 3 rfl) | (apply P_pick; iterate 4 rfl)
     | (apply P_cmp (b := true); (iterate 2 rfl); (focus (first | (simp [cmpI]; done) | (simp [cmpI]; omega))); iterate 2 rfl)
     | (apply P_cmp (b := false); (iterate 2 rfl); (focus (first | (simp [cmpI]; done) | (simp [cmpI]; omega))); iterate 2 rfl) | (apply P_lenbs; iterate 4 rfl) | apply EL.nil
     | ((with_reducible apply EK.then_normal); apply EK.code) | (with_reducible first | apply EC.seq | apply EC.region | apply EC.ret))
   exact EK.ret1 rfl rfl rfl
  ·
   rw [decide_eq_false h2]
   repeat
    (first
     | (apply P_move; iterate 3 rfl) | (apply P_assign; iterate 3 rfl) | (apply P_pick; iterate 4 rfl)
     | (apply P_cmp (b := false); (iterate 2 rfl); (focus (first | (simp [cmpI]; done) | (simp [cmpI]; omega))); iterate 2 rfl) | (apply P_lenbs; iterate 4 rfl) | apply EL.nil
     | ((with_reducible apply EK.then_normal); apply EK.code) | (with_reducible first | apply EC.seq | apply EC.region | apply EC.ret))
   exact EK.ret1 rfl rfl rfl
theorem f_long1 (x : List UInt8 × List UInt8) : Fn 52 [dPr x] (· = .val (.v (.bool (lg x)))) := by
 have h1 := f_Long x
 unfold dPr
 refine Fn.walk 8 Try.func52 rfl Try.ntmps52 (by simp) fun X => ?_
 repeat
  (first
   | (apply P_call (h1); rfl; exact RefineL.refl _ _; (focus (intro _ _; simp [go_sem]; done)); iterate 2 rfl) | (apply P_assign; iterate 3 rfl)
   | (apply P_field; iterate 6 rfl) | (apply P_load; rfl; (first | exact I0 | exact I1 | exact I2 | exact I3 | exact I4 | exact I5 | exact I6); iterate 4 rfl)
   | (apply P_box; rfl; rfl; rfl; intro _) | apply EL.nil | ((with_reducible apply EK.then_normal); apply EK.code) | (with_reducible first | apply EC.seq | apply EC.region | apply EC.ret))
 exact EK.ret1 rfl rfl rfl
def lgAt : List (List UInt8 × List UInt8) → Nat → Int
 | [], _ => -1
 | x :: l, k => if lg x then (k : Int) else lgAt l (k + 1)
theorem lgAt_any : ∀ (l : List (List UInt8 × List UInt8)) (k : Nat), decide (lgAt l k ≥ 0) = l.any lg
 | [], k => rfl
 | x :: l, k => by
  rw [lgAt, List.any_cons]
  cases hx : lg x
  · simpa using lgAt_any l (k + 1)
  · simp
set_option maxRecDepth 20000 in
set_option maxHeartbeats 4000000 in
theorem f_indexP (l : List (List UInt8 × List UInt8)) : Fn 72 [.sl 2 (l.map dPr), .v (.func (.func 52) #[] #[])] (· = .val (.v (.int .i64 (lgAt l 0)))) := by
 refine Fn.walk 19 Try.func72 rfl Try.ntmps72 (by simp) fun X => ?_
 have hl : (l.map dPr).length = l.length := by rw [List.length_map]
 refine EC.lenOf (t := 0) rfl fun hmax => ?_
 rw [hl] at hmax
 unfold maxLen at hmax
 repeat
  (first
   | (apply P_move; iterate 3 rfl) | (apply P_assign; iterate 3 rfl) | (apply P_lensl; iterate 4 rfl) | apply EL.nil | ((with_reducible apply EK.then_normal); apply EK.code)
   | (with_reducible first | apply EC.seq | apply EC.region | apply EC.block))
 refine EC.loop (ι := {n : Nat // n ≤ l.length ∧ lgAt l 0 = lgAt (l.drop n) n})
  (fun n => ⟨[(8, .val (.v (.int .i64 (n.1 : Int)))), (7, .val (.v (.int .i64 ((l.map dPr).length : Int)))), (6, .val (.sl 2 (l.map dPr))), (4, .val (.v (.int .i64 0))), (0, .val (.sl 2 (l.map dPr))), (1, .val (.v (.func (.func 52) #[] #[])))], [], []⟩)
  (fun n => l.length - n.1) ⟨0, by omega, by rw [List.drop_zero]⟩ ?_ ?_
 · exact (Le.keep (by repeat first | exact trivial | refine ⟨rfl, ?_⟩) (by repeat first | exact List.nil_sublist _ | apply List.Sublist.cons_cons | apply List.Sublist.cons) (by simp))
 rintro ⟨n, hn, hI⟩
 dsimp only
 by_cases hlt : n < l.length
 ·
  have hat : (l.map dPr)[n]? = some (.tup [.bs l[n].1, .bs l[n].2]) := by rw [List.getElem?_map, List.getElem?_eq_getElem hlt]; rfl
  have hc := f_long1 l[n]
  rw [List.drop_eq_getElem_cons hlt, lgAt] at hI
  unfold dPr at hc
  cases hg : lg l[n] with
  | true =>
   rw [hg] at hc hI
   repeat
    (first
     | (apply P_callMV (os := []) (caps := []) (ds' := [.tup [.bs l[n].1, .bs l[n].2]]) (cds := []) hc.toMT; (exact fun base ok L a w _ => rfl); (iterate 3 rfl); exact RefineL.refl _ _; (focus (intro _ _; simp [go_sem]; done)); (iterate 2 rfl); rintro _ _ ⟨rfl, rfl⟩; simp only [List.nil_append])
     | (apply P_move; iterate 3 rfl) | (apply P_assign; iterate 3 rfl) | (apply P_loadpd; iterate 5 rfl)
     | (apply P_cmp (b := true); (iterate 2 rfl); (focus (first | (simp [cmpI]; done) | (simp [cmpI]; omega))); iterate 2 rfl)
     | (apply P_index; (iterate 4 rfl); (focus (first | exact ⟨by decide, rfl⟩ | (refine ⟨by omega, ?_⟩; rw [Int.toNat_natCast]; assumption))); iterate 2 rfl) | apply EL.nil
     | ((with_reducible apply EK.then_normal); apply EK.code) | (apply EC.cond_true; rfl)
     | (with_reducible first | apply EC.seq | apply EC.region | apply EC.skip | apply EC.block | apply EC.ret | apply EK.in_ret | apply EK.then_ret))
   refine EK.ret1 rfl rfl ?_
   rw [hI, if_pos rfl]
  | false =>
   rw [hg] at hc hI
   rw [if_neg (by decide)] at hI
   repeat
    (first
     | (apply P_callMV (os := []) (caps := []) (ds' := [.tup [.bs l[n].1, .bs l[n].2]]) (cds := []) hc.toMT; (exact fun base ok L a w _ => rfl); (iterate 3 rfl); exact RefineL.refl _ _; (focus (intro _ _; simp [go_sem]; done)); (iterate 2 rfl); rintro _ _ ⟨rfl, rfl⟩; simp only [List.nil_append])
     | (apply P_move; iterate 3 rfl) | (apply P_assign; iterate 3 rfl) | (apply P_loadpd; iterate 5 rfl)
     | (apply P_cmp (b := true); (iterate 2 rfl); (focus (first | (simp [cmpI]; done) | (simp [cmpI]; omega))); iterate 2 rfl)
     | (apply P_ar; (iterate 3 rfl); (focus omega); (focus omega); iterate 2 rfl)
     | (apply P_index; (iterate 4 rfl); (focus (first | exact ⟨by decide, rfl⟩ | (refine ⟨by omega, ?_⟩; rw [Int.toNat_natCast]; assumption))); iterate 2 rfl) | apply EL.nil
     | ((with_reducible apply EK.then_normal); apply EK.code) | (apply EC.cond_true; rfl) | (apply EC.cond_false; rfl)
     | (with_reducible first | apply EC.seq | apply EC.region | apply EC.skip | apply EC.block | apply EK.in_normal))
   refine EK.again ⟨n + 1, hlt, hI⟩ (by dsimp only; omega) ?_
   dsimp only
   simp only [Int.natCast_add]
   exact (Le.keep (by repeat first | exact trivial | refine ⟨rfl, ?_⟩) (by repeat first | exact List.nil_sublist _ | apply List.Sublist.cons_cons | apply List.Sublist.cons) (by simp))
 ·
  have hge : l.drop n = [] := List.drop_eq_nil_of_le (by omega)
  rw [hge, lgAt] at hI
  repeat
   (first
    | (apply P_assign; iterate 3 rfl) | (apply P_cmp (b := false); (iterate 2 rfl); (focus (first | (simp [cmpI]; done) | (simp [cmpI]; omega))); iterate 2 rfl) | apply EL.nil
    | ((with_reducible apply EK.then_normal); apply EK.code) | (apply EC.cond_false; rfl)
    | (with_reducible first | apply EC.seq | apply EC.region | apply EC.exit | apply EC.ret | apply EK.in_same | apply EK.then_exit))
  refine EK.ret1 rfl rfl ?_
  rw [hI]
theorem f_containsP (l : List (List UInt8 × List UInt8)) : Fn 51 [.sl 2 (l.map dPr), .v (.func (.func 52) #[] #[])] (· = .val (.v (.bool (l.any lg)))) := by
 have h1 := f_indexP l
 have h2 := lgAt_any l 0
 rw [← h2]
 refine Fn.walk 9 Try.func51 rfl Try.ntmps51 (by simp) fun X => ?_
 repeat
  (first
   | (apply P_call (h1); rfl; exact RefineL.refl _ _; (focus (intro _ _; simp [go_sem]; done)); iterate 2 rfl) | (apply P_move; iterate 3 rfl)
   | (apply P_assign; iterate 3 rfl) | (apply P_cmp; iterate 5 rfl) | apply EL.nil | ((with_reducible apply EK.then_normal); apply EK.code)
   | (with_reducible first | apply EC.seq | apply EC.region | apply EC.ret))
 exact EK.ret1 rfl rfl rfl
theorem enters_p2 : ∀ args w, (callFunc 55 args).run Try.prog w = .ok (.enter 55 args) w := enters_of Try.func55 (by kernel_rfl) rfl
set_option maxRecDepth 100000 in
set_option maxHeartbeats 1000000 in
theorem cmp_pair (u1 v1 u2 v2 : Value) (l m : List UInt8) (w : World) (h1 : IsB w u1 l) (h2 : IsB w u2 m) (o1 : v1.oneCell' = true) (o2 : v2.oneCell' = true) : Calls Try.prog 55 #[.agg #[u1, v1], .agg #[u2, v2]] w fun e w' => e = .returned (.int .i64 (cmpB l m)) ∧ ∃ q os', w' = grow (w.drewN q) os' := by
 have g1 := h1.gr ((gr_alloc w (.cells #[u1, v1] 118)).trans (gr_alloc _ (.cells #[u2, v2] 118)))
 have g2 := h2.gr ((gr_alloc w (.cells #[u1, v1] 118)).trans (gr_alloc _ (.cells #[u2, v2] 118)))
 have hc := Lib.hid (bytes_CompareW _ _ _ _ _ g1 g2)
 obtain ⟨A1, c1, rfl, a1, a2, a3⟩ := h1
 obtain ⟨A2, c2, rfl, b1, b2, b3⟩ := h2
 clear a3 b3 g1 g2
 go_enter Try.func55, Try.ntmps55
 go_wp2_with fail
 refine hc.out.mono ?_
 rintro e w' ⟨rfl, rfl⟩
 go_wp2_with fail
 exact bodyPost_ret (results_tmp rfl _ _ _) rfl ⟨rfl, 0, _, by rw [alloc_eq_grow, alloc_eq_grow, grow_grow]; rfl⟩
theorem sort_pair (v : Value) (ps : List (List UInt8 × List UInt8)) (hl : ps.length < 4611686018427387904) :
  FnM 54 [.v v, .v (.func (.func 55) #[] #[])] [.row v 118 2 (ps.map dPr)] (fun r os' => r = .tpl [] ∧ ∃ qs : List (List UInt8 × List UInt8), qs.Perm ps ∧ qs.Pairwise (fun x y => x.1 ≤ y.1) ∧ os' = [.row v 118 2 (qs.map dPr)]) :=
 sort_gen sortPair 118 2 (by decide) Try.isAgg118 Try.sizeOf118 dPr (fun _ => rfl) (fun _ => rfl) (·.1) ([], []) [.slice none 0 0, .slice none 0 0]
  (fun ok w => by
   unfold dPr
   rw [Reads, ReadsL]
   refine ⟨[_], [_], rfl, by rw [Reads]; exact ⟨_, rfl, none, 0, rfl, Nat.le_refl _, by simp [maxLen], fun h => absurd rfl h⟩, ?_⟩
   rw [ReadsL]
   refine ⟨[_], [], rfl, by rw [Reads]; exact ⟨_, rfl, none, 0, rfl, Nat.le_refl _, by simp [maxLen], fun h => absurd rfl h⟩, ?_⟩
   rw [ReadsL]) 55
  (fun ok w hok x y v u hv hu => by
   have key : ∀ (z : List UInt8 × List UInt8) (t : Value), ReadV ok w (dPr z) t → ∃ a b, t = .agg #[a, b] ∧ IsB w a z.1 ∧ b.oneCell' = true := by
    intro z t ht
    obtain ⟨cs, h', rfl⟩ := (readV_agg rfl).1 ht
    unfold dPr at h'
    rw [Reads, ReadsL] at h'
    obtain ⟨k1, k2, rfl, g1, g2⟩ := h'
    rw [ReadsL] at g2
    obtain ⟨k3, k4, rfl, g3, g4⟩ := g2
    rw [ReadsL] at g4
    subst g4
    have g1' := g1
    rw [Reads] at g1'
    obtain ⟨a, rfl, _⟩ := g1'
    have g3' := g3
    rw [Reads] at g3'
    obtain ⟨b, rfl, _⟩ := g3'
    exact ⟨a, b, rfl, isB_of hok ((readV_one rfl).2 g1), Reads.one _ _ g3 b (by simp)⟩
   obtain ⟨a1, b1, rfl, e1, e2⟩ := key x v hv
   obtain ⟨a2, b2, rfl, e3, e4⟩ := key y u hu
   exact cmp_pair a1 b1 a2 b2 x.1 y.1 w e1 e3 e2 e4) enters_p2 v ps hl
end E
end Go.Proofs.Ytiledgojbpmoiaa
/-
 trie.pairs: the pairs by rising paths.
 Conditions: none.
-/
namespace Go.Proofs.Ytiledgojbpmoiaa
set_option linter.unusedVariables false
open Go.RowKit Mono Rlp Go.Sort
namespace E
abbrev Pr := List UInt8 × List UInt8
def sp (x : Pr) : Pr := (split x.1, x.2)
def srt (ps : List Pr) : List Pr := ps.mergeSort fun a b => decide (a.1 ≤ b.1)
theorem srt_perm (ps : List Pr) : (srt ps).Perm ps := List.mergeSort_perm _ _
theorem srt_sorted (ps : List Pr) : (srt ps).Pairwise fun a b => a.1 ≤ b.1 := by
 have h := List.pairwise_mergeSort (le := fun a b : Pr => decide (a.1 ≤ b.1)) (fun a b c h1 h2 => by simp only [decide_eq_true_eq] at h1 h2 ⊢; exact List.le_trans h1 h2) (fun a b => by simp only [Bool.or_eq_true, decide_eq_true_eq]; exact List.le_total a.1 b.1) ps
 exact h.imp fun h => by simpa using h
theorem nodup_key {ps : List Pr} (h : (ps.map (·.1)).Nodup) {a b : Pr} (ha : a ∈ ps) (hb : b ∈ ps) (e : a.1 = b.1) : a = b := by
 obtain ⟨i, hi, rfl⟩ := List.getElem_of_mem ha
 obtain ⟨j, hj, rfl⟩ := List.getElem_of_mem hb
 have := (List.getElem_inj (h₀ := by simpa using hi) (h₁ := by simpa using hj) h).1 (by simpa using e)
 subst this
 rfl
theorem srt_eq {ps qs : List Pr} (hp : qs.Perm ps) (hs : qs.Pairwise fun a b => a.1 ≤ b.1) (hn : (ps.map (·.1)).Nodup) : qs = srt ps :=
 List.Perm.eq_of_pairwise (fun a b ha hb h1 h2 => nodup_key hn (hp.mem_iff.1 ha) ((srt_perm ps).mem_iff.1 hb) (List.le_antisymm h1 h2)) hs (srt_sorted ps) (hp.trans (srt_perm ps).symm)
def pairsF (l : List Pr) : R :=
 if 100000 < l.length ∨ l.any lg = true then .tpl [.v (.slice none 0 0), .v (.int .i64 3)]
 else if l.any (·.2.isEmpty) = true then .tpl [.v (.slice none 0 0), .v (.int .i64 1)]
 else if ((l.map sp).map (·.1)).Nodup then .tpl [.sl 2 ((srt (l.map sp)).map dPr), .v (.int .i64 0)]
 else .tpl [.v (.slice none 0 0), .v (.int .i64 1)]
theorem f_EqualT (l m : List UInt8) : Fn 30 [.bs l, .bs m] (· = .val (.v (.bool (l == m)))) := by
 have hb := (bin_string l m).1
 refine Fn.walk 10 Try.func30 rfl Try.ntmps30 (by simp) fun X => ?_
 repeat
  (first
   | (apply P_bin; (iterate 2 rfl); exact hb; iterate 2 rfl) | (apply P_move; iterate 3 rfl) | (apply P_assign; iterate 3 rfl) | (apply P_str; iterate 3 rfl)
   | apply EL.nil | ((with_reducible apply EK.then_normal); apply EK.code) | (with_reducible first | apply EC.seq | apply EC.region | apply EC.ret))
 exact EK.ret1 rfl rfl rfl
theorem not_long {l : List Pr} (h : l.any lg = false) {x : Pr} (hx : x ∈ l) : x.1.length ≤ 64 ∧ x.2.length ≤ 1048576 := by
 have := List.any_eq_false.1 h x hx
 unfold lg at this
 simp at this
 omega
theorem adj_nodup {qs : List Pr} (hq : qs.Pairwise fun a b => a.1 ≤ b.1) (h : ∀ j (hj : j + 1 < qs.length), qs[j].1 ≠ qs[j + 1].1) : (qs.map (·.1)).Nodup := by
 unfold List.Nodup
 rw [List.pairwise_map, List.pairwise_iff_getElem]
 intro i j hi hj hij e
 have h1 := List.pairwise_iff_getElem.1 hq i (i + 1) hi (by omega) (by omega)
 have h2 : qs[i + 1].1 ≤ qs[j].1 := by
  rcases Nat.lt_or_ge (i + 1) j with h | h
  · exact List.pairwise_iff_getElem.1 hq (i + 1) j (by omega) hj h
  ·
   obtain rfl : j = i + 1 := by omega
   exact List.le_refl _
 exact h i (by omega) (List.le_antisymm h1 (by rw [e]; exact h2))
set_option maxRecDepth 20000 in
set_option maxHeartbeats 8000000 in
theorem f_pairs (l : List Pr) : Fn 38 [.sl 2 (l.map dPr)] (· = pairsF l) := by
 have h1 := f_containsP l
 unfold pairsF
 have hl : (l.map dPr).length = l.length := by rw [List.length_map]
 refine Fn.walk 56 Try.func38 rfl Try.ntmps38 (by simp) fun X => ?_
 by_cases hbig : 100000 < l.length
 ·
  rw [if_pos (.inl hbig)]
  repeat
   (first
    | (apply P_skip; iterate 2 rfl) | (apply P_move; iterate 3 rfl) | (apply P_assign; iterate 3 rfl) | (apply P_pick; iterate 4 rfl)
    | (apply P_cmp (b := true); (iterate 2 rfl); (focus (first | (simp [cmpI]; done) | (simp [cmpI]; omega))); iterate 2 rfl) | (apply P_lensl; iterate 4 rfl) | apply EL.nil
    | ((with_reducible apply EK.then_normal); apply EK.code) | (apply EC.cond_true; rfl) | (with_reducible first | apply EC.seq | apply EC.region | apply EC.ret | apply EK.then_ret))
  exact EK.ret2 rfl rfl rfl rfl
 ·
  cases hany : l.any lg with
  | true =>
   rw [hany] at h1
   rw [if_pos (.inr rfl)]
   repeat
    (first
     | (apply P_call (h1); rfl; exact RefineL.refl _ _; (focus (intro _ _; simp [go_sem]; done)); iterate 2 rfl) | (apply P_move; iterate 3 rfl)
     | (apply P_assign; iterate 3 rfl) | (apply P_pick; iterate 4 rfl)
     | (apply P_cmp (b := false); (iterate 2 rfl); (focus (first | (simp [cmpI]; done) | (simp [cmpI]; omega))); iterate 2 rfl) | (apply P_lensl; iterate 4 rfl) | apply EL.nil
     | ((with_reducible apply EK.then_normal); apply EK.code) | (apply EC.cond_true; rfl) | (with_reducible first | apply EC.seq | apply EC.region | apply EC.ret | apply EK.then_ret))
   exact EK.ret2 rfl rfl rfl rfl
  | false =>
   rw [hany] at h1
   rw [if_neg (by simp; omega)]
   repeat
    (first
     | (apply P_call (h1); rfl; exact RefineL.refl _ _; (focus (intro _ _; simp [go_sem]; done)); iterate 2 rfl) | (apply P_move; iterate 3 rfl)
     | (apply P_assign; iterate 3 rfl) | (apply P_pick; iterate 4 rfl)
     | (apply P_cmp (b := false); (iterate 2 rfl); (focus (first | (simp [cmpI]; done) | (simp [cmpI]; omega))); iterate 2 rfl) | (apply P_lensl; iterate 4 rfl) | apply EL.nil
     | ((with_reducible apply EK.then_normal); apply EK.code) | (apply EC.cond_false; rfl) | (with_reducible first | apply EC.seq | apply EC.region | apply EC.skip | apply EC.block))
   refine EC.le (Le.row 118 2) ?_
   refine EC.loop (ι := {p : Value × Nat // p.2 ≤ l.length ∧ (l.take p.2).any (·.2.isEmpty) = false})
    (fun p => ⟨[(17, .val (.v (.int .i64 (p.1.2 : Int)))), (16, .val (.v (.int .i64 ((l.map dPr).length : Int)))), (15, .val (.sl 2 (l.map dPr))), (4, .val (.v p.1.1))],
     [.row p.1.1 118 2 ((l.take p.1.2).map fun x => dPr (sp x))], []⟩)
    (fun p => l.length - p.1.2) ⟨(.slice none 0 0, 0), by omega, by simp⟩ ?_ ?_
   · exact (Le.keep (by repeat first | exact trivial | refine ⟨rfl, ?_⟩) (by repeat first | exact List.nil_sublist _ | apply List.Sublist.cons_cons | apply List.Sublist.cons) (by simp))
   rintro ⟨⟨rv, n⟩, hn, hI⟩
   dsimp only at hn hI ⊢
   by_cases hlt : n < l.length
   ·
    have hat : (l.map dPr)[n]? = some (.tup [.bs l[n].1, .bs l[n].2]) := by rw [List.getElem?_map, List.getElem?_eq_getElem hlt]; rfl
    have hx := not_long hany (List.getElem_mem hlt)
    have hs := f_pSplit l[n].1 (by omega)
    by_cases he : l[n].2 = []
    ·
     have he0 : (l[n].2.length : Int) = 0 := by rw [he]; rfl
     have hempty : l.any (·.2.isEmpty) = true := List.any_eq_true.2 ⟨_, List.getElem_mem hlt, by rw [he]; rfl⟩
     repeat
      (first
       | (apply P_assign; iterate 3 rfl) | (apply P_field; iterate 6 rfl) | (apply P_loadpd; iterate 5 rfl)
       | (apply P_load; rfl; (first | exact I0 | exact I1 | exact I2 | exact I3 | exact I4 | exact I5 | exact I6); iterate 4 rfl)
       | (apply P_cmp (b := true); (iterate 2 rfl); (focus (first | (simp [cmpI]; done) | (simp [cmpI]; omega))); iterate 2 rfl) | (apply P_lenbs; iterate 4 rfl)
       | (apply P_index; (iterate 4 rfl); (focus (first | exact ⟨by decide, rfl⟩ | (refine ⟨by omega, ?_⟩; rw [Int.toNat_natCast]; assumption))); iterate 2 rfl)
       | (apply P_alloc; rfl; rfl; rfl; intro _) | (apply P_store; rfl; (focus (repeat first | exact .z | apply SetAt.s | apply SetAtF.s)); iterate 4 rfl) | apply EL.nil
       | ((with_reducible apply EK.then_normal); apply EK.code) | (apply EC.cond_true; rfl)
       | (with_reducible first | apply EC.seq | apply EC.region | apply EC.skip | apply EC.block | apply EC.ret | apply EK.in_ret | apply EK.then_ret))
     refine EK.ret2 rfl rfl rfl ?_
     rw [if_pos hempty]
    ·
     have he0 : ¬ (l[n].2.length : Int) = 0 := fun h => he (List.eq_nil_of_length_eq_zero (by omega))
     repeat
      (first
       | (apply P_field; iterate 6 rfl) | (apply P_loadpd; iterate 5 rfl)
       | (apply P_load; rfl; (first | exact I0 | exact I1 | exact I2 | exact I3 | exact I4 | exact I5 | exact I6); iterate 4 rfl)
       | (apply P_cmp (b := true); (iterate 2 rfl); (focus (first | (simp [cmpI]; done) | (simp [cmpI]; omega))); iterate 2 rfl)
       | (apply P_cmp (b := false); (iterate 2 rfl); (focus (first | (simp [cmpI]; done) | (simp [cmpI]; omega))); iterate 2 rfl) | (apply P_lenbs; iterate 4 rfl)
       | (apply P_index; (iterate 4 rfl); (focus (first | exact ⟨by decide, rfl⟩ | (refine ⟨by omega, ?_⟩; rw [Int.toNat_natCast]; assumption))); iterate 2 rfl)
       | (apply P_alloc; rfl; rfl; rfl; intro _) | (apply P_store; rfl; (focus (repeat first | exact .z | apply SetAt.s | apply SetAtF.s)); iterate 4 rfl) | apply EL.nil
       | ((with_reducible apply EK.then_normal); apply EK.code) | (apply EC.cond_true; rfl) | (apply EC.cond_false; rfl)
       | (with_reducible first | apply EC.seq | apply EC.region | apply EC.skip | apply EC.block))
     have hm : ((l.take n).map fun x => dPr (sp x)).length = n := by rw [List.length_map, List.length_take]; omega
     have hnx : (l.take (n + 1)).map (fun x => dPr (sp x)) = (l.take n).map (fun x => dPr (sp x)) ++ [.tup [.bs (split l[n].1), .bs l[n].2]] := by rw [List.take_succ_eq_append_getElem hlt, List.map_append]; rfl
     have hIx : (l.take (n + 1)).any (·.2.isEmpty) = false := by
      rw [List.take_succ_eq_append_getElem hlt, List.any_append, hI, Bool.false_or, List.any_cons, List.any_nil, Bool.or_false]
      cases hv : l[n].2 with
      | nil => exact absurd hv he
      | cons _ _ => rfl
     refine EC.le (Le.pick [1, 0] [_, _] rfl (by decide) rfl) ?_
     refine EC.drawC 9 [0, 1, 2, 4, 5] [3, 6, 7, 8] [_] _ (by kernel_rfl) (by kernel_rfl) rfl ?_
     simp only [pickL, List.filterMap_cons, List.filterMap_nil, List.getElem?_cons_zero, List.getElem?_cons_succ]
     repeat
      (first
       | (apply H_move; iterate 3 rfl) | (apply H_field; iterate 6 rfl)
       | (apply H_load; rfl; (first | exact I0 | exact I1 | exact I2 | exact I3 | exact I4 | exact I5 | exact I6); iterate 4 rfl))
     refine EM.nil ?_
     repeat (first | rw [List.cons_append] | rw [List.nil_append])
     refine CH.cut 3 ?_
     simp only [List.take_succ_cons, List.take_zero, List.drop_succ_cons, List.drop_zero]
     repeat
      (first
       | (apply H_call (hs); rfl; exact RefineL.refl _ _; (focus (intro _ _; simp [go_sem]; done)); iterate 2 rfl) | (apply H_build; iterate 7 rfl) | (apply H_lit; iterate 9 rfl))
     refine EM.nil ?_
     repeat (first | rw [List.cons_append] | rw [List.nil_append])
     refine CH.mut (os := [_]) (rest := []) rfl rfl (m_append rfl rfl rfl rfl rfl (by rw [hm]; constructor <;> (simp; omega))) ?_
     rintro _ _ ⟨v', rfl, rfl⟩
     try simp only [St.put]
     repeat (first | rw [List.cons_append] | rw [List.nil_append])
     refine CH.nil ?_
     try simp only [List.drop_succ_cons, List.drop_zero]
     repeat
      (first
       | (apply P_move; iterate 3 rfl) | (apply P_assign; iterate 3 rfl) | (apply P_ar; (iterate 3 rfl); (focus omega); (focus omega); iterate 2 rfl) | apply EL.nil
       | ((with_reducible apply EK.then_normal); apply EK.code) | (with_reducible first | apply EC.region | apply EK.in_normal))
     refine EK.again ⟨(v', n + 1), hlt, hIx⟩ (by dsimp only; omega) ?_
     dsimp only
     rw [hnx]
     simp only [Int.natCast_add]
     exact (Le.keep (by repeat first | exact trivial | refine ⟨rfl, ?_⟩) (by repeat first | exact List.nil_sublist _ | apply List.Sublist.cons_cons | apply List.Sublist.cons) (by simp))
   ·
    obtain rfl : n = l.length := by omega
    have hne : l.any (·.2.isEmpty) = false := by rwa [List.take_length] at hI
    have hrow : (l.take l.length).map (fun x => dPr (sp x)) = (l.map sp).map dPr := by rw [List.take_length, List.map_map]; rfl
    rw [hrow]
    have hso := sort_pair rv (l.map sp) (by rw [List.length_map]; omega)
    simp only [hne, Bool.false_eq_true, if_false]
    repeat
     (first
      | (apply P_callM (os := [.row rv 118 2 ((l.map sp).map dPr)]) hso; (iterate 2 rfl); exact RefineL.refl _ _; (focus (intro _ _; simp [go_sem]; done)); (iterate 2 rfl); rintro _ _ ⟨rfl, qs, hp, hq, rfl⟩; refine EL.le (Le.freeze (pre := []) rfl) ?_; refine EL.le (Le.refine (t := 4) rfl (Rf.fact List.mem_cons_self rfl)) ?_)
      | (apply P_move; iterate 3 rfl) | (apply P_assign; iterate 3 rfl)
      | (apply P_cmp (b := false); (iterate 2 rfl); (focus (first | (simp [cmpI]; done) | (simp [cmpI]; omega))); iterate 2 rfl) | apply EL.nil
      | ((with_reducible apply EK.then_normal); apply EK.code) | (apply EC.cond_false; rfl)
      | (with_reducible first | apply EC.seq | apply EC.region | apply EC.block | apply EC.exit | apply EK.in_same | apply EK.then_exit))
    have hql : qs.length = l.length := by rw [hp.length_eq, List.length_map]
    have hqd : (qs.map dPr).length = qs.length := by rw [List.length_map]
    refine EC.loop (ι := {n : Nat // n ≤ qs.length ∧ ∀ j (hj : j + 1 < qs.length), j < n → qs[j].1 ≠ qs[j + 1].1})
     (fun n => ⟨[(7, .val (.v (.int .i64 ((n.1 + 1 : Nat) : Int)))), (4, .val (.sl 2 (qs.map dPr)))], [], []⟩)
     (fun n => qs.length - n.1) ⟨0, by omega, fun j _ h => absurd h (Nat.not_lt_zero _)⟩ ?_ ?_
    · exact (Le.keep (by repeat first | exact trivial | refine ⟨rfl, ?_⟩) (by repeat first | exact List.nil_sublist _ | apply List.Sublist.cons_cons | apply List.Sublist.cons) (by simp))
    rintro ⟨n, hn, hI⟩
    dsimp only
    by_cases hlt : n + 1 < qs.length
    ·
     have hat1 : (qs.map dPr)[n]? = some (.tup [.bs qs[n].1, .bs qs[n].2]) := by rw [List.getElem?_map, List.getElem?_eq_getElem (by omega)]; rfl
     have hat2 : (qs.map dPr)[n + 1]? = some (.tup [.bs qs[n + 1].1, .bs qs[n + 1].2]) := by rw [List.getElem?_map, List.getElem?_eq_getElem hlt]; rfl
     have hE := f_EqualT qs[n].1 qs[n + 1].1
     by_cases heq : qs[n].1 = qs[n + 1].1
     ·
      rw [show (qs[n].1 == qs[n + 1].1) = true by simpa using heq] at hE
      repeat
       (first
        | (apply P_move; iterate 3 rfl) | (apply P_cmp (b := true); (iterate 2 rfl); (focus (first | (simp [cmpI]; done) | (simp [cmpI]; omega))); iterate 2 rfl)
        | (apply P_lensl; iterate 4 rfl) | apply EL.nil | ((with_reducible apply EK.then_normal); apply EK.code) | (apply EC.cond_true; rfl)
        | (with_reducible first | apply EC.seq | apply EC.region | apply EC.skip | apply EC.block))
      refine EC.draw 12 (by kernel_rfl) ?_
      simp only [List.take_succ_cons, List.take_zero, List.drop_succ_cons, List.drop_zero]
      repeat
       (first
        | (apply H_call (hE); rfl; exact RefineL.refl _ _; (focus (intro _ _; simp [go_sem]; done)); iterate 2 rfl)
        | (apply H_index; (iterate 4 rfl); exact ⟨by omega, by rw [show (((n + 1 : Nat) : Int) - 1).toNat = n by omega]; exact hat1⟩; iterate 2 rfl) | (apply H_move; iterate 3 rfl)
        | (apply H_fieldpd; iterate 7 rfl) | (apply H_loadpd; iterate 5 rfl) | (apply H_ar; (iterate 3 rfl); (focus omega); (focus omega); iterate 2 rfl)
        | (apply H_index; (iterate 4 rfl); (focus (first | exact ⟨by decide, rfl⟩ | (refine ⟨by omega, ?_⟩; rw [Int.toNat_natCast]; assumption))); iterate 2 rfl)
        | ((with_reducible apply EH.nil); rfl))
      repeat
       (first
        | (apply P_assign; iterate 3 rfl) | apply EL.nil | ((with_reducible apply EK.then_normal); apply EK.code) | (apply EC.cond_true; rfl)
        | (with_reducible first | apply EC.seq | apply EC.region | apply EC.ret | apply EK.in_ret | apply EK.then_ret))
      refine EK.ret2 rfl rfl rfl ?_
      rw [if_neg]
      intro hnd
      have h3 := (hp.map (·.1)).nodup_iff.2 hnd
      have h4 := (List.getElem_inj (h₀ := by rw [List.length_map]; omega) (h₁ := by rw [List.length_map]; exact hlt) h3 (i := n) (j := n + 1)).1 (by simpa using heq)
      omega
     ·
      rw [show (qs[n].1 == qs[n + 1].1) = false by simpa using heq] at hE
      repeat
       (first
        | (apply P_move; iterate 3 rfl) | (apply P_cmp (b := true); (iterate 2 rfl); (focus (first | (simp [cmpI]; done) | (simp [cmpI]; omega))); iterate 2 rfl)
        | (apply P_lensl; iterate 4 rfl) | apply EL.nil | ((with_reducible apply EK.then_normal); apply EK.code) | (apply EC.cond_true; rfl)
        | (with_reducible first | apply EC.seq | apply EC.region | apply EC.skip | apply EC.block))
      refine EC.draw 12 (by kernel_rfl) ?_
      simp only [List.take_succ_cons, List.take_zero, List.drop_succ_cons, List.drop_zero]
      repeat
       (first
        | (apply H_call (hE); rfl; exact RefineL.refl _ _; (focus (intro _ _; simp [go_sem]; done)); iterate 2 rfl)
        | (apply H_index; (iterate 4 rfl); exact ⟨by omega, by rw [show (((n + 1 : Nat) : Int) - 1).toNat = n by omega]; exact hat1⟩; iterate 2 rfl) | (apply H_move; iterate 3 rfl)
        | (apply H_fieldpd; iterate 7 rfl) | (apply H_loadpd; iterate 5 rfl) | (apply H_ar; (iterate 3 rfl); (focus omega); (focus omega); iterate 2 rfl)
        | (apply H_index; (iterate 4 rfl); (focus (first | exact ⟨by decide, rfl⟩ | (refine ⟨by omega, ?_⟩; rw [Int.toNat_natCast]; assumption))); iterate 2 rfl)
        | ((with_reducible apply EH.nil); rfl))
      repeat
       (first
        | (apply P_move; iterate 3 rfl) | (apply P_assign; iterate 3 rfl) | (apply P_ar; (iterate 3 rfl); (focus omega); (focus omega); iterate 2 rfl) | apply EL.nil
        | ((with_reducible apply EK.then_normal); apply EK.code) | (apply EC.cond_false; rfl) | (with_reducible first | apply EC.region | apply EC.skip | apply EK.in_normal))
      refine EK.again ⟨n + 1, by omega, fun j hj hjn => ?_⟩ (by dsimp only; omega) ?_
      ·
       rcases Nat.lt_or_ge j n with h | h
       · exact hI j hj h
       ·
        obtain rfl : j = n := by omega
        exact heq
      dsimp only
      simp only [Int.natCast_add]
      exact (Le.keep (by repeat first | exact trivial | refine ⟨rfl, ?_⟩) (by repeat first | exact List.nil_sublist _ | apply List.Sublist.cons_cons | apply List.Sublist.cons) (by simp))
    ·
     have hnd := adj_nodup hq fun j hj => hI j hj (by omega)
     have hnd2 : ((l.map sp).map (·.1)).Nodup := (hp.map (·.1)).nodup_iff.1 hnd
     have hqs := srt_eq hp hq hnd2
     repeat
      (first
       | (apply P_move; iterate 3 rfl) | (apply P_assign; iterate 3 rfl)
       | (apply P_cmp (b := false); (iterate 2 rfl); (focus (first | (simp [cmpI]; done) | (simp [cmpI]; omega))); iterate 2 rfl) | (apply P_lensl; iterate 4 rfl) | apply EL.nil
       | ((with_reducible apply EK.then_normal); apply EK.code) | (apply EC.cond_false; rfl)
       | (with_reducible first | apply EC.seq | apply EC.region | apply EC.exit | apply EC.ret | apply EK.in_same | apply EK.then_exit))
     refine EK.ret2 rfl rfl rfl ?_
     rw [if_pos hnd2, hqs]
end E
end Go.Proofs.Ytiledgojbpmoiaa
/-
 The trie of rising pairs (plain).
 Conditions: none.
-/
namespace Go.Proofs.Ytiledgojbpmoiaa
set_option linter.unusedVariables false
open Go.RowKit Mono Rlp
namespace E
theorem lex_drop : ∀ (at_ : Nat) (a b : List UInt8), a < b → a.take at_ = b.take at_ → a.drop at_ < b.drop at_
 | 0, a, b, h, _ => h
 | n + 1, [], [], h, _ => absurd h (List.lt_irrefl _)
 | n + 1, [], _ :: _, _, e => by simp at e
 | n + 1, _ :: _, [], h, _ => absurd h (List.not_lt_nil _)
 | n + 1, x :: a, y :: b, h, e => by
  simp only [List.take_succ_cons, List.cons.injEq] at e
  obtain ⟨rfl, e⟩ := e
  rcases List.cons_lt_cons_iff.1 h with h | ⟨_, h⟩
  · exact absurd h (by simp)
  · exact lex_drop n a b h e
theorem sandwich : ∀ (n : Nat) (a b c : List UInt8), a ≤ b → b ≤ c → a.take n = c.take n → n ≤ a.length → b.take n = a.take n ∧ n ≤ b.length
 | 0, a, b, c, _, _, _, _ => ⟨rfl, Nat.zero_le _⟩
 | n + 1, [], b, c, _, _, _, h => by simp at h
 | n + 1, x :: a, [], c, h, _, _, _ => by
  rw [← List.not_lt] at h
  exact absurd (List.nil_lt_cons x a) h
 | n + 1, x :: a, y :: b, [], _, _, e, _ => by simp at e
 | n + 1, x :: a, y :: b, z :: c, h1, h2, e, h => by
  simp only [List.take_succ_cons, List.cons.injEq] at e
  obtain ⟨rfl, e⟩ := e
  rw [List.cons_le_cons_iff] at h1 h2
  have hxy : x = y := by
   rcases h1 with h1 | ⟨h1, _⟩
   ·
    rcases h2 with h2 | ⟨h2, _⟩
    · exact absurd (UInt8.lt_trans h1 h2) (by simp)
    · exact h2.symm
   · exact h1
  subst hxy
  have h1' : a ≤ b := by
   rcases h1 with h1 | ⟨_, h1⟩
   · exact absurd h1 (by simp)
   · exact h1
  have h2' : b ≤ c := by
   rcases h2 with h2 | ⟨_, h2⟩
   · exact absurd h2 (by simp)
   · exact h2
  obtain ⟨g1, g2⟩ := sandwich n a b c h1' h2' e (by simpa using h)
  exact ⟨by rw [List.take_succ_cons, List.take_succ_cons, g1], by simpa using g2⟩
theorem common_take : ∀ (a b : List UInt8), a.take (common a b) = b.take (common a b) ∧ common a b ≤ a.length ∧ common a b ≤ b.length
 | [], b => by simp [common]
 | _ :: _, [] => by simp [common]
 | x :: a, y :: b => by
  unfold common
  split
  ·
   rename_i h
   subst h
   obtain ⟨g1, g2, g3⟩ := common_take a b
   refine ⟨by rw [List.take_succ_cons, List.take_succ_cons, g1], by simpa using g2, by simpa using g3⟩
  · simp
structure Rise (at_ : Nat) (l : List Pr) : Prop where
 ord : l.Pairwise fun a b => a.1 < b.1
 len : ∀ x ∈ l, at_ ≤ x.1.length
 pre : ∀ x ∈ l, ∀ y ∈ l, x.1.take at_ = y.1.take at_
 nib : ∀ x ∈ l, ∀ b ∈ x.1, b.toNat < 16
theorem Rise.sub {at_ : Nat} {l m : List Pr} (h : Rise at_ l) (hs : m.Sublist l) : Rise at_ m := ⟨h.ord.sublist hs, fun x hx => h.len x (hs.subset hx), fun x hx y hy => h.pre x (hs.subset hx) y (hs.subset hy), fun x hx => h.nib x (hs.subset hx)⟩
theorem Rise.longer {at_ : Nat} {x : Pr} {r : List Pr} (h : Rise at_ (x :: r)) {y : Pr} (hy : y ∈ r) : at_ < y.1.length := by
 have h1 := h.len y (List.mem_cons_of_mem _ hy)
 rcases Nat.lt_or_ge at_ y.1.length with h2 | h2
 · exact h2
 ·
  exfalso
  have h3 := lex_drop at_ x.1 y.1 ((List.pairwise_cons.1 h.ord).1 y hy) (h.pre _ List.mem_cons_self _ (List.mem_cons_of_mem _ hy))
  rw [List.drop_eq_nil_of_le h2] at h3
  exact List.not_lt_nil _ h3
def nibA (at_ : Nat) (x : Pr) : UInt8 := x.1.getD at_ 0
theorem nibA_get {at_ : Nat} {x : Pr} (h : at_ < x.1.length) : x.1[at_]? = some (nibA at_ x) := by
 unfold nibA
 rw [List.getElem?_eq_getElem h, List.getD_eq_getElem?_getD, List.getElem?_eq_getElem h]
 rfl
theorem Rise.mono {at_ : Nat} {l : List Pr} (h : Rise at_ l) (hl : ∀ x ∈ l, at_ < x.1.length) {i j : Nat} (hi : i < l.length) (hj : j < l.length) (hij : i ≤ j) : (nibA at_ l[i]).toNat ≤ (nibA at_ l[j]).toNat := by
 rcases Nat.lt_or_ge i j with h1 | h1
 ·
  have h2 := List.pairwise_iff_getElem.1 h.ord i j hi hj h1
  have h3 := lex_drop at_ _ _ h2 (h.pre _ (List.getElem_mem hi) _ (List.getElem_mem hj))
  have e1 := hl _ (List.getElem_mem hi)
  have e2 := hl _ (List.getElem_mem hj)
  rw [List.drop_eq_getElem_cons e1, List.drop_eq_getElem_cons e2] at h3
  have e3 : nibA at_ l[i] = l[i].1[at_] := by unfold nibA; rw [List.getD_eq_getElem?_getD, List.getElem?_eq_getElem e1]; rfl
  have e4 : nibA at_ l[j] = l[j].1[at_] := by unfold nibA; rw [List.getD_eq_getElem?_getD, List.getElem?_eq_getElem e2]; rfl
  rw [e3, e4]
  rcases List.cons_lt_cons_iff.1 h3 with h4 | ⟨h4, _⟩
  · exact Nat.le_of_lt (UInt8.lt_iff_toNat_lt.1 h4)
  ·
   rw [h4]
   exact Nat.le_refl _
 ·
  obtain rfl : i = j := by omega
  exact Nat.le_refl _
def bdF : Nat → List Pr → Nat → Tn
 | 0, _, _ => .nil
 | f + 1, l, at_ => match l with
  | [] => .nil
  | [x] => .leaf (x.1.drop at_) x.2
  | x :: y :: r =>
   if common (x.1.drop at_) (((y :: r).getLast (by simp)).1.drop at_) > 0 then
    .ext ((x.1.drop at_).take (common (x.1.drop at_) (((y :: r).getLast (by simp)).1.drop at_))) (bdF f (x :: y :: r) (at_ + common (x.1.drop at_) (((y :: r).getLast (by simp)).1.drop at_)))
   else if (x.1.drop at_).length = 0 then .br (fun d => bdF f ((y :: r).filter fun z => (nibA at_ z).toNat == d) (at_ + 1)) x.2
   else .br (fun d => bdF f ((x :: y :: r).filter fun z => (nibA at_ z).toNat == d) (at_ + 1)) []
theorem Rise.leDrop {at_ : Nat} {l : List Pr} (h : Rise at_ l) {i j : Nat} (hi : i < l.length) (hj : j < l.length) (hij : i ≤ j) : l[i].1.drop at_ ≤ l[j].1.drop at_ := by
 rcases Nat.lt_or_ge i j with h1 | h1
 · exact List.le_of_lt (lex_drop at_ _ _ (List.pairwise_iff_getElem.1 h.ord i j hi hj h1) (h.pre _ (List.getElem_mem hi) _ (List.getElem_mem hj)))
 ·
  obtain rfl : i = j := by omega
  exact List.le_refl _
theorem Rise.more {at_ n : Nat} {l : List Pr} (h : Rise at_ l) (h0 : 0 < l.length) (hn : n = common (l[0].1.drop at_) (l[l.length - 1].1.drop at_)) : Rise (at_ + n) l := by
 obtain ⟨c1, c2, c3⟩ := common_take (l[0].1.drop at_) (l[l.length - 1].1.drop at_)
 rw [← hn] at c1 c2 c3
 have key : ∀ x ∈ l, (x.1.drop at_).take n = (l[0].1.drop at_).take n ∧ n ≤ (x.1.drop at_).length := fun x hx => by
  obtain ⟨i, hi, rfl⟩ := List.getElem_of_mem hx
  exact sandwich n _ _ _ (h.leDrop h0 hi (Nat.zero_le _)) (h.leDrop hi (by omega) (by omega)) c1 c2
 refine ⟨h.ord, fun x hx => ?_, fun x hx y hy => ?_, h.nib⟩
 ·
  have h1 := (key x hx).2
  have h2 := h.len x hx
  rw [List.length_drop] at h1
  omega
 · rw [List.take_add, List.take_add, h.pre x hx y hy, (key x hx).1, (key y hy).1]
theorem bd_nil (f at_ : Nat) : bdF f [] at_ = .nil := by cases f <;> rfl
theorem bd_one (f at_ : Nat) (x : Pr) : bdF (f + 1) [x] at_ = .leaf (x.1.drop at_) x.2 := rfl
theorem bd_ext (f at_ : Nat) (l : List Pr) (h : 1 < l.length) (hn : common (l[0].1.drop at_) (l[l.length - 1].1.drop at_) > 0) : bdF (f + 1) l at_ = .ext ((l[0].1.drop at_).take (common (l[0].1.drop at_) (l[l.length - 1].1.drop at_))) (bdF f l (at_ + common (l[0].1.drop at_) (l[l.length - 1].1.drop at_))) := by
 match l, h with
 | x :: y :: r, _ =>
  have e : (y :: r).getLast (by simp) = (x :: y :: r)[(x :: y :: r).length - 1] := by rw [List.getLast_eq_getElem]; simp
  rw [bdF, e]
  exact if_pos hn
theorem bd_br0 (f at_ : Nat) (l : List Pr) (h : 1 < l.length) (hn : ¬ common (l[0].1.drop at_) (l[l.length - 1].1.drop at_) > 0) (h0 : (l[0].1.drop at_).length = 0) : bdF (f + 1) l at_ = .br (fun d => bdF f (l.tail.filter fun z => (nibA at_ z).toNat == d) (at_ + 1)) l[0].2 := by
 match l, h with
 | x :: y :: r, _ =>
  have e : (y :: r).getLast (by simp) = (x :: y :: r)[(x :: y :: r).length - 1] := by rw [List.getLast_eq_getElem]; simp
  rw [bdF, e]
  exact (if_neg hn).trans (if_pos h0)
theorem bd_br1 (f at_ : Nat) (l : List Pr) (h : 1 < l.length) (hn : ¬ common (l[0].1.drop at_) (l[l.length - 1].1.drop at_) > 0) (h0 : ¬ (l[0].1.drop at_).length = 0) : bdF (f + 1) l at_ = .br (fun d => bdF f (l.filter fun z => (nibA at_ z).toNat == d) (at_ + 1)) [] := by
 match l, h with
 | x :: y :: r, _ =>
  have e : (y :: r).getLast (by simp) = (x :: y :: r)[(x :: y :: r).length - 1] := by rw [List.getLast_eq_getElem]; simp
  rw [bdF, e]
  exact (if_neg hn).trans (if_neg h0)
def kidsTo (f at_ : Nat) (L : List Pr) (m : Nat) : List D := (List.range 16).map fun d => dT (bdF f ((L.take m).filter fun z => (nibA at_ z).toNat == d) (at_ + 1))
theorem kidsTo_zero (f at_ : Nat) (L : List Pr) : kidsTo f at_ L 0 = List.replicate 16 (.v .nilIface) := by
 unfold kidsTo
 simp only [List.take_zero, List.filter_nil, bd_nil]
 rfl
theorem kidsTo_all (f at_ : Nat) (L : List Pr) : kidsTo f at_ L L.length = (List.range 16).map fun d => dT (bdF f (L.filter fun z => (nibA at_ z).toNat == d) (at_ + 1)) := by
 unfold kidsTo
 rw [List.take_length]
theorem kidsTo_run (f at_ : Nat) (L : List Pr) (m n k : Nat) (hk : k < 16) (hrun : ∀ z ∈ (L.drop m).take n, (nibA at_ z).toNat = k) (hold : ∀ z ∈ L.take m, (nibA at_ z).toNat ≠ k) : kidsTo f at_ L (m + n) = (kidsTo f at_ L m).set k (dT (bdF f ((L.drop m).take n) (at_ + 1))) := by
 unfold kidsTo
 refine List.ext_getElem? fun d => ?_
 rw [List.take_add, List.getElem?_set]
 by_cases hd : k = d
 ·
  subst hd
  rw [if_pos rfl, if_pos (by simpa using hk), List.getElem?_map, List.getElem?_range hk, Option.map_some, List.filter_append]
  have e1 : (L.take m).filter (fun z => (nibA at_ z).toNat == k) = [] := List.filter_eq_nil_iff.2 fun z hz => by simpa using hold z hz
  have e2 : ((L.drop m).take n).filter (fun z => (nibA at_ z).toNat == k) = (L.drop m).take n := List.filter_eq_self.2 fun z hz => by simpa using hrun z hz
  rw [e1, e2, List.nil_append]
 ·
  rw [if_neg hd, List.getElem?_map, List.getElem?_map]
  by_cases h16 : d < 16
  ·
   rw [List.getElem?_range h16, Option.map_some, Option.map_some, List.filter_append]
   have e2 : ((L.drop m).take n).filter (fun z => (nibA at_ z).toNat == d) = [] := List.filter_eq_nil_iff.2 fun z hz => by
    have := hrun z hz
    simp
    omega
   rw [e2, List.append_nil]
  ·
   rw [List.getElem?_eq_none (by simp; omega)]
   rfl
end E
end Go.Proofs.Ytiledgojbpmoiaa
