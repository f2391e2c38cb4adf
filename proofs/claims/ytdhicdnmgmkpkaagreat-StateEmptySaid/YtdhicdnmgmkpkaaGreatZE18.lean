/-
  Merged (wip/tools/merge.py): SU6, SU7, SE1, SU8, SU9, SE2.
  Conditions: none.
-/
import Derived.Test.YtdhicdnmgmkpkaaGreatZE15
import Derived.Test.YtdhicdnmgmkpkaaGreatZE17
/-
  Accounts as a list: the one list that tells what a state tells.
  Conditions: none.
-/
namespace Go.Proofs.YtdhicdnmgmkpkaaGreat
set_option linter.unusedVariables false
open Go.RowKit Mono Rlp Wd
namespace E
theorem Le.pickT {N : Nat} {X : Cx N} {rs : List (Tmp × R)} {os : List Obj} {fs : List (Value × D)} (ix : List Nat) (l l' rest : List Obj) (hos : os = l ++ rest) (hn : l.length = ix.length) (h : ix.Perm (List.range ix.length)) (hp : (ix.filterMap fun i => l[i]?) = l') : Le X ⟨rs, os, fs⟩ ⟨rs, l' ++ rest, fs⟩ := by
  subst hos hp
  exact Le.perm (List.Perm.append_right _ (pick_perm ix hn h))
structure AcL where
  a : List UInt8
  n : Int
  w : List UInt8
  cd : List UInt8
  sl : List (List UInt8 × List UInt8)
def dSlL (x : List UInt8 × List UInt8) : D := .tup [.arr 32 x.1, .arr 32 x.2]
def dAcL (x : AcL) : D := .tup [.arr 20 x.a, .v (.int .i64 x.n), .arr 32 x.w, .bs x.cd, .sl 64 (x.sl.map dSlL)]
structure AcL.Is (x : AcL) (y : Ac) : Prop where
  n : x.n = y.n
  w : x.w = y.w
  cd : x.cd = y.cd
  ord : x.sl.Pairwise fun p q => p.1 < q.1
  val : ∀ p ∈ x.sl, p.2 = y.sl p.1 ∧ p.2 ≠ zero32
  all : ∀ k, y.sl k ≠ zero32 → ∃ p ∈ x.sl, p.1 = k
structure CU (A : As) (K : List (List UInt8)) (L : List AcL) : Prop where
  ord : L.Pairwise fun x y => x.a < y.a
  mem : ∀ x ∈ L, x.a ∈ K ∧ x.Is (A x.a) ∧ A x.a ≠ Ac.zero
  all : ∀ a ∈ K, A a ≠ Ac.zero → ∃ x ∈ L, x.a = a
structure Canon (A : As) (L : List AcL) : Prop where
  ord : L.Pairwise fun x y => x.a < y.a
  mem : ∀ x ∈ L, x.Is (A x.a) ∧ A x.a ≠ Ac.zero
  all : ∀ a, A a ≠ Ac.zero → ∃ x ∈ L, x.a = a
theorem CU.canon {A : As} {K : List (List UInt8)} {L : List AcL} (h : CU A K L) (hK : ∀ a, A a ≠ Ac.zero → a ∈ K) : Canon A L := ⟨h.ord, fun x hx => (h.mem x hx).2, fun a ha => h.all a (hK a ha) ha⟩
theorem CU.nil {A : As} : CU A [] [] := ⟨.nil, fun x hx => by simp at hx, fun a ha => by simp at ha⟩
theorem CU.skip {A : As} {K : List (List UInt8)} {L : List AcL} (h : CU A K L) {a : List UInt8} (ha : A a = Ac.zero) : CU A (K ++ [a]) L := ⟨h.ord, fun x hx => ⟨List.mem_append_left _ (h.mem x hx).1, (h.mem x hx).2⟩, fun b hb hne => by
  rcases List.mem_append.1 hb with hb | hb
  · exact h.all b hb hne
  · obtain rfl : b = a := by simpa using hb
    exact absurd ha hne⟩
theorem CU.take {A : As} {K : List (List UInt8)} {L : List AcL} (h : CU A K L) {x : AcL} (hx : x.Is (A x.a)) (hne : A x.a ≠ Ac.zero) (hlt : ∀ b ∈ K, b < x.a) : CU A (K ++ [x.a]) (L ++ [x]) := ⟨List.pairwise_append.2 ⟨h.ord, List.pairwise_singleton _ _, fun y hy z hz => by
    obtain rfl : z = x := by simpa using hz
    exact hlt _ (h.mem y hy).1⟩, fun y hy => by
    rcases List.mem_append.1 hy with hy | hy
    · exact ⟨List.mem_append_left _ (h.mem y hy).1, (h.mem y hy).2⟩
    · obtain rfl : y = x := by simpa using hy
      exact ⟨by simp, hx, hne⟩, fun b hb hb' => by
    rcases List.mem_append.1 hb with hb | hb
    · obtain ⟨y, hy, e⟩ := h.all b hb hb'
      exact ⟨y, List.mem_append_left _ hy, e⟩
    · obtain rfl : b = x.a := by simpa using hb
      exact ⟨x, by simp, rfl⟩⟩
theorem getE_mem : ∀ (es : List Ent) (k : List UInt8) (d : D), getE es k = some d → ∃ e ∈ es, e.2.1 = k ∧ e.2.2 = d
  | [], k, d, h => by simp [getE] at h
  | x :: es, k, d, h => by
    rw [getE] at h
    split at h
    · rename_i he
      cases h
      exact ⟨x, List.mem_cons_self .., by simpa using he, rfl⟩
    · obtain ⟨e, he, h1⟩ := getE_mem es k d h
      exact ⟨e, List.mem_cons_of_mem _ he, h1⟩
theorem getE_some {es : List Ent} {k : List UInt8} (h : k ∈ es.map (·.2.1)) : ∃ d, getE es k = some d := by
  cases hg : getE es k with
  | none => exact absurd h ((getE_none es k).1 hg)
  | some d => exact ⟨d, rfl⟩
theorem sortL_lt {l : List (List UInt8)} (h : l.Nodup) : (sortL l).Pairwise (· < ·) := by
  have hn : (sortL l).Nodup := (sortL_perm l).nodup_iff.2 h
  have := (sortL_sorted l).and hn
  refine this.imp fun {a b} ⟨h1, h2⟩ => ?_
  rcases List.le_total b a with h3 | h3
  · exact absurd (List.le_antisymm h1 h3) h2
  · exact Classical.byContradiction fun h4 => h2 (List.le_antisymm h1 (List.not_lt.1 h4))
def slots (x : Ac) (ss : List Ent) : List (List UInt8 × List UInt8) := (sortL (ss.map (·.2.1))).map fun k => (k, x.sl k)
theorem PA.Is.list {p : PA} {x : Ac} {N : Nat} (h : p.Is x N) (a : List UInt8) : (⟨a, p.n, p.w, p.cd, slots x p.ss⟩ : AcL).Is x := by
  refine ⟨h.n, h.w, h.cd, ?_, fun q hq => ?_, fun k hk => ?_⟩
  · show (slots x p.ss).Pairwise _
    unfold slots
    rw [List.pairwise_map]
    exact sortL_lt h.nod
  · obtain ⟨k, hk, rfl⟩ := List.mem_map.1 hq
    refine ⟨rfl, ?_⟩
    obtain ⟨d, hd⟩ := getE_some ((sortL_perm _).mem_iff.1 hk)
    obtain ⟨e, he, h1, h2⟩ := getE_mem _ _ _ hd
    obtain ⟨v, hv, hne⟩ := h.ent e he
    have := h.sl k
    unfold slE at this
    rw [hd, ← h2, hv] at this
    have : v = x.sl k := by simpa using this
    dsimp only
    rw [← this]
    exact hne
  · refine ⟨(k, x.sl k), List.mem_map.2 ⟨k, ?_, rfl⟩, rfl⟩
    refine (sortL_perm _).mem_iff.2 ?_
    refine Classical.byContradiction fun hn => hk ?_
    have := h.sl k
    unfold slE at this
    rw [(getE_none _ _).2 hn] at this
    simpa using this.symm
end E
end Go.Proofs.YtdhicdnmgmkpkaaGreat
/-
  The program's state: its accounts, as a list.
  Conditions: none.
-/
namespace Go.Proofs.YtdhicdnmgmkpkaaGreat
set_option linter.unusedVariables false
open Go.RowKit Mono Rlp Wd Go.Sort
namespace E
theorem enters_c1 : ∀ args w, (callFunc 76 args).run Tryz.prog w = .ok (.enter 76 args) w := enters_of Tryz.func76 (by kernel_rfl) rfl
theorem enters_tc : ∀ args w, (callFunc 81 args).run Tryz.prog w = .ok (.enter 81 args) w := enters_of Tryz.func81 (by kernel_rfl) rfl
theorem perm_front {l rest p rest2 : List Obj} (h : rest.Perm (p ++ rest2)) : (l ++ rest).Perm (p ++ (l ++ rest2)) := by
  refine (List.Perm.append_left l h).trans ?_
  rw [← List.append_assoc, ← List.append_assoc]
  exact List.Perm.append_right _ List.perm_append_comm
set_option maxRecDepth 20000 in
set_option maxHeartbeats 16000000 in
theorem accounts0 {g m c M : Nat} {es : List Ent} {u k : Value} {n : Int} {us : List D} {ps : List PA} {A : As} (hi : PInv es ps A M) (hM : M ≤ 1000000) : FnM 21 [.v (ptr g)] (stO g m u k n :: smO m c es :: unO u us :: mkO k [] :: ps.flatMap PA.os) (fun r os' => (∃ L, Canon A L ∧ L.length ≤ M ∧ (∀ x ∈ L, x.sl.length ≤ M) ∧ r = .val (.sl 55 (L.map dAcL))) ∧ os' = stO g m u k n :: smO m c es :: unO u us :: mkO k [] :: ps.flatMap PA.os) := by
  have hlen := hi.len
  have h1 := keys_addr m
  have h2 := fun gk => sorted_addr 76 cmp_addr enters_c1 gk m c es (by omega)
  have hKl : (sortL (es.map (·.2.1))).length = es.length := by rw [(sortL_perm _).length_eq, List.length_map]
  have hKm : ∀ a, a ∈ sortL (es.map (·.2.1)) ↔ a ∈ es.map (·.2.1) := fun a => (sortL_perm _).mem_iff
  have hKo := sortL_lt hi.nod
  have hKc : ∀ a, A a ≠ Ac.zero → a ∈ sortL (es.map (·.2.1)) := fun a ha => (hKm a).2 (Classical.byContradiction fun hn => ha (hi.out a ((getE_none _ _).2 hn)))
  generalize hrest : ps.flatMap PA.os = rest
  generalize sortL (es.map (·.2.1)) = K at h2 hKl hKm hKo hKc
  have hml : (K.map (D.arr 20)).length = K.length := List.length_map _
  refine FnM.walk 75 Tryz.func21 rfl Tryz.ntmps21 (by simp) fun X => ?_
  repeat
    (first
     | (apply P_callM (os := []) h1; (iterate 2 exact rfl); exact RefineL.refl _ _; (focus (intro _ _; simp [go_sem]; done)); (iterate 2 exact rfl); rintro _ _ ⟨gk, rfl, rfl⟩)
     | (apply P_move; (iterate 3 exact rfl)) | (apply P_assign; (iterate 3 exact rfl)) | (apply P_field; (iterate 6 exact rfl))
     | (apply P_load; exact rfl; (first | exact I0 | exact I1 | exact I2 | exact I3 | exact I4 | exact I5 | exact I6); (iterate 4 exact rfl)) | (apply P_nilck; (iterate 3 exact rfl)) | apply EL.nil
     | ((with_reducible apply EK.then_normal); apply EK.code)
     | (with_reducible first | apply EC.seq | apply EC.region | apply EC.skip | apply EC.label | apply EC.block | apply EC.exit | apply EC.ret | apply EK.in_normal | apply EK.in_same | apply EK.in_ret | apply EK.then_ret | apply EK.then_exit))
  refine EL.le (Le.pickT [0, 2, 1, 3, 4] [_, _, _, _, _] [_, _, _, _, _] (rest) rfl rfl (by decide) rfl) ?_
  try simp only [List.cons_append, List.nil_append]
  repeat
    (first
     | (apply P_callM (os := [.var gk 106 (.v (.map (some m))), smO m c es]) (h2 gk); (iterate 2 exact rfl); exact RefineL.refl _ _; (focus (intro _ _; simp [go_sem]; done)); (iterate 2 exact rfl); rintro _ _ ⟨kv, rfl, rfl⟩; refine EL.le (Le.freeze (pre := []) rfl) ?_; refine EL.le (Le.refine (t := 15) (d' := .sl 20 (K.map (D.arr 20))) rfl (Rf.fact (by simp) rfl)) ?_; simp only [List.nil_append])
     | (apply P_move; (iterate 3 exact rfl)) | (apply P_lensl; (iterate 4 exact rfl)) | apply EL.nil | ((with_reducible apply EK.then_normal); apply EK.code)
     | (with_reducible first | apply EC.seq | apply EC.region | apply EC.skip | apply EC.label | apply EC.block | apply EC.exit | apply EC.ret | apply EK.in_normal | apply EK.in_same | apply EK.in_ret | apply EK.then_ret | apply EK.then_exit))
  refine EC.le (Le.pickT [2, 1, 3, 4, 0] [_, _, _, _, _] [_, _, _, _, _] (rest) rfl rfl (by decide) rfl) ?_
  try simp only [List.cons_append, List.nil_append]
  refine EC.le (Le.row 74 55) ?_
  refine EC.loop (ι := {x : Nat × List AcL × Value // x.1 ≤ K.length ∧ CU A (K.take x.1) x.2.1 ∧ x.2.1.length ≤ x.1 ∧ ∀ y ∈ x.2.1, y.sl.length ≤ M})
    (fun x => ⟨[(17, .val (.v (.int .i64 (x.1.1 : Int)))), (16, .val (.v (.int .i64 (K.map (D.arr 20)).length))), (15, .val (.sl 20 (K.map (D.arr 20)))), (3, .val (.v x.1.2.2)), (0, .val (.v (ptr g)))], .row x.1.2.2 74 55 (x.1.2.1.map dAcL) :: stO g m u k n :: smO m c es :: unO u us :: mkO k [] :: rest, []⟩)
    (fun x => K.length - x.1.1) ⟨(0, [], nilS), Nat.zero_le _, CU.nil, Nat.le_refl _, fun y hy => by simp at hy⟩ ?_ ?_
  · exact (Le.keep (by repeat first | exact trivial | refine ⟨rfl, ?_⟩) (by repeat first | exact List.Sublist.refl _ | apply List.Sublist.cons_cons | apply List.Sublist.cons) (by simp))
  rintro ⟨⟨i, L, v⟩, hiK, hCU, hLl, hsl⟩
  dsimp only at hiK hCU hLl hsl ⊢
  by_cases hlt : i < K.length
  · have hd : (K.map (D.arr 20))[i]? = some (D.arr 20 K[i]) := by rw [List.getElem?_map, List.getElem?_eq_getElem hlt]; rfl
    obtain ⟨d, hge⟩ := getE_some ((hKm K[i]).1 (List.getElem_mem hlt))
    obtain ⟨p, hp, rfl, his⟩ := hi.inn _ _ hge
    obtain ⟨ps1, ps2, rfl⟩ := List.append_of_mem hp
    have hg : (getE es K[i]).getD (.v (.pointer none)) = .v (ptr p.g) := by rw [hge]; rfl
    have hperm : rest.Perm (p.os ++ (ps1 ++ ps2).flatMap PA.os) := hrest ▸ flat_perm ps1 ps2 p
    generalize hrest2 : (ps1 ++ ps2).flatMap PA.os = rest2 at hperm
    have hsp := his.list K[i]
    have hse := his.sl
    have hempty := his.empty_iff
    have hem := empty_ p
    obtain ⟨pg, pn, pw, pc, pgs, psc, pss⟩ := p
    dsimp only at hg hsp hse
    refine EC.le (Le.perm (perm_front (l := [.row v 74 55 (L.map dAcL), stO g m u k n, smO m c es, unO u us, mkO k []]) hperm)) ?_
    simp only [PA.os, List.cons_append, List.nil_append]
    repeat
      (first
       | (apply P_loadpd; (iterate 5 exact rfl)) | (apply P_cmp (b := true); (iterate 2 exact rfl); (focus (first | (simp [cmpI]; done) | (simp [cmpI]; omega))); (iterate 2 exact rfl))
       | (apply P_index; (iterate 4 exact rfl); (focus (first | exact ⟨by decide, rfl⟩ | (refine ⟨by omega, ?_⟩; rw [Int.toNat_natCast]; assumption))); (iterate 2 exact rfl))
       | (apply P_alloc; exact rfl; exact rfl; exact rfl; intro _) | (apply P_store; exact rfl; (focus (repeat first | exact .z | apply SetAt.s | apply SetAtF.s)); (iterate 4 exact rfl)) | apply EL.nil
       | ((with_reducible apply EK.then_normal); apply EK.code) | (apply EC.cond_true; exact rfl)
       | (with_reducible first | apply EC.seq | apply EC.region | apply EC.skip | apply EC.label | apply EC.block | apply EC.exit | apply EC.ret | apply EK.in_normal | apply EK.in_same | apply EK.in_ret | apply EK.then_ret | apply EK.then_exit))
    rename_i g5
    refine EC.draw 6 (by kernel_rfl) ?_
    simp only [List.take_succ_cons, List.take_zero, List.drop_succ_cons, List.drop_zero]
    repeat
      (first
       | (apply H_lookup; exact hg; exact rfl; (first | exact I0 | exact I1 | exact I2 | exact I3 | exact I4 | exact I5); (iterate 5 exact rfl)) | (apply H_move; (iterate 3 exact rfl))
       | (apply H_field; (iterate 6 exact rfl)) | (apply H_load; exact rfl; (first | exact I0 | exact I1 | exact I2 | exact I3 | exact I4 | exact I5 | exact I6); (iterate 4 exact rfl))
       | (apply H_nilck; (iterate 3 exact rfl)) | ((with_reducible apply EH.nil); exact rfl))
    cases hpe : PA.empty ⟨pg, pn, pw, pc, pgs, psc, pss⟩ with
    | true =>
      rw [hpe] at hem
      repeat
        (first
         | (apply P_callAt hem [_] _ rfl rfl (RefineL.refl _ _) (by intro _ _; simp [go_sem]) rfl rfl; rintro _ _ ⟨rfl, rfl⟩; simp only [PA.os, List.cons_append, List.nil_append])
         | (apply P_move; (iterate 3 exact rfl)) | (apply P_assign; (iterate 3 exact rfl)) | (apply P_ar; (iterate 3 exact rfl); (focus omega); (focus omega); (iterate 2 exact rfl)) | apply EL.nil
         | ((with_reducible apply EK.then_normal); apply EK.code) | (apply EC.cond_true; exact rfl)
         | (with_reducible first | apply EC.seq | apply EC.region | apply EC.skip | apply EC.label | apply EC.block | apply EC.exit | apply EC.ret | apply EK.in_normal | apply EK.in_same | apply EK.in_ret | apply EK.then_ret | apply EK.then_exit))
      refine EK.le (Le.perm ((perm_front (l := [.row v 74 55 (L.map dAcL), stO g m u k n, smO m c es, unO u us, mkO k []]) hperm).symm.cons _)) ?_
      refine EK.again ⟨(i + 1, L, v), hlt, ?_, Nat.le_succ_of_le hLl, hsl⟩ (by dsimp only; omega) ?_
      · rw [List.take_succ_eq_append_getElem hlt]
        exact hCU.skip (hempty.1 hpe)
      · simp only [Int.natCast_add, List.cons_append, List.nil_append]
        exact (Le.keep (by repeat first | exact trivial | refine ⟨rfl, ?_⟩) (by repeat first | exact List.Sublist.refl _ | apply List.Sublist.cons_cons | apply List.Sublist.cons) (by simp))
    | false =>
      rw [hpe] at hem
      repeat
        (first
         | (apply P_callAt hem [_] _ rfl rfl (RefineL.refl _ _) (by intro _ _; simp [go_sem]) rfl rfl; rintro _ _ ⟨rfl, rfl⟩; simp only [PA.os, List.cons_append, List.nil_append])
         | (apply P_move; (iterate 3 exact rfl)) | (apply P_assign; (iterate 3 exact rfl)) | apply EL.nil | ((with_reducible apply EK.then_normal); apply EK.code) | (apply EC.cond_false; exact rfl)
         | (with_reducible first | apply EC.seq | apply EC.region | apply EC.skip | apply EC.label | apply EC.block | apply EC.exit | apply EC.ret | apply EK.in_normal | apply EK.in_same | apply EK.in_ret | apply EK.then_ret | apply EK.then_exit))
      have hcl := f_Clone pc his.cl
      refine EC.draw 16 (by kernel_rfl) ?_
      simp only [List.take_succ_cons, List.take_zero, List.drop_succ_cons, List.drop_zero]
      repeat
        (first
         | (apply H_call (hcl); exact rfl; (focus (repeat first | exact RefineL.refl _ _ | exact RL.nil | exact Rf.same | exact Rf.bs0 | exact Rf.sl0 | (apply Rf.fact; (focus (simp; done)); exact rfl) | apply Rf.tup | apply RL.cons)); (focus (intro _ _; simp [go_sem]; done)); (iterate 2 exact rfl))
         | (apply H_move; (iterate 3 exact rfl)) | (apply H_field; (iterate 6 exact rfl))
         | (apply H_load; exact rfl; (first | exact I0 | exact I1 | exact I2 | exact I3 | exact I4 | exact I5 | exact I6); (iterate 4 exact rfl)) | (apply H_build; (iterate 7 exact rfl))
         | (apply H_nilck; (iterate 3 exact rfl)) | (apply H_alloc; (iterate 3 exact rfl)) | ((with_reducible apply EH.nil1); exact rfl; intro _))
      have hpl := his.len
      dsimp only at hpl
      have h3 := keys_word pgs
      have h4 := fun gk => sorted_word 81 cmp_word enters_tc gk pgs psc pss (by omega)
      have hK2l : (sortL (pss.map (·.2.1))).length = pss.length := by rw [(sortL_perm _).length_eq, List.length_map]
      have hsx : slots (A K[i]) pss = (sortL (pss.map (·.2.1))).map fun k => (k, (A K[i]).sl k) := rfl
      generalize sortL (pss.map (·.2.1)) = K2 at h4 hK2l hsx
      have hm2 : (K2.map (D.arr 32)).length = K2.length := List.length_map _
      rename_i gy
      repeat
        (first
         | (apply P_callM (os := []) h3; (iterate 2 exact rfl); exact RefineL.refl _ _; (focus (intro _ _; simp [go_sem]; done)); (iterate 2 exact rfl); rintro _ _ ⟨gk2, rfl, rfl⟩; refine EL.le (Le.pickT [0, 4, 1, 2, 3] [_, _, _, _, _] [_, _, _, _, _] _ rfl rfl (by decide) rfl) ?_; simp only [List.cons_append, List.nil_append]; apply P_callM (os := [.var gk2 113 (.v (.map (some pgs))), .map pgs 32 psc pss]) (h4 gk2); (iterate 2 exact rfl); exact RefineL.refl _ _; (focus (intro _ _; simp [go_sem]; done)); (iterate 2 exact rfl); rintro _ _ ⟨kv2, rfl, rfl⟩; refine EL.le (Le.freeze (pre := []) rfl) ?_; refine EL.le (Le.refine (t := 49) (d' := .sl 32 (K2.map (D.arr 32))) rfl (Rf.fact (by simp) rfl)) ?_; simp only [List.nil_append])
         | (apply P_move; (iterate 3 exact rfl)) | (apply P_field; (iterate 6 exact rfl))
         | (apply P_load; exact rfl; (first | exact I0 | exact I1 | exact I2 | exact I3 | exact I4 | exact I5 | exact I6); (iterate 4 exact rfl)) | (apply P_lensl; (iterate 4 exact rfl))
         | (apply P_nilck; (iterate 3 exact rfl)) | (apply P_store; exact rfl; (focus (repeat first | exact .z | apply SetAt.s | apply SetAtF.s)); (iterate 4 exact rfl)) | apply EL.nil
         | ((with_reducible apply EK.then_normal); apply EK.code)
         | (with_reducible first | apply EC.seq | apply EC.region | apply EC.skip | apply EC.label | apply EC.block | apply EC.exit | apply EC.ret | apply EK.in_normal | apply EK.in_same | apply EK.in_ret | apply EK.then_ret | apply EK.then_exit))
      refine EC.le (Le.pickT [2, 1, 4, 0, 3] [_, _, _, _, _] [_, _, _, _, _] (_) rfl rfl (by decide) rfl) ?_
      try simp only [List.cons_append, List.nil_append]
      refine EC.le (Le.row 103 64) ?_
      refine EC.loop (ι := {x : Nat × Value // x.1 ≤ K2.length})
        (fun x => ⟨[(51, .val (.v (.int .i64 (x.1.1 : Int)))), (50, .val (.v (.int .i64 (K2.map (D.arr 32)).length))), (49, .val (.sl 32 (K2.map (D.arr 32)))), (17, .val (.v (.int .i64 (i : Int)))), (16, .val (.v (.int .i64 (K.map (D.arr 20)).length))), (15, .val (.sl 20 (K.map (D.arr 20)))), (7, .val (.v (ptr gy))), (6, .val (.v (ptr pg))), (3, .val (.v v)), (0, .val (.v (ptr g)))],
          .row x.1.2 103 64 ((K2.take x.1.1).map fun k => dSlL (k, (A K[i]).sl k)) :: .var gy 74 (.tup [.arr 20 K[i], .v (.int .i64 pn), .arr 32 pw, .bs pc, .v x.1.2]) :: .map pgs 32 psc pss :: acO pg pn pw pc (.map (some pgs)) :: .row v 74 55 (L.map dAcL) :: stO g m u k n :: smO m c es :: unO u us :: mkO k [] :: rest2, []⟩)
        (fun x => K2.length - x.1.1) ⟨(0, nilS), Nat.zero_le _⟩ ?_ ?_
      · exact (Le.keep (by repeat first | exact trivial | refine ⟨rfl, ?_⟩) (by repeat first | exact List.Sublist.refl _ | apply List.Sublist.cons_cons | apply List.Sublist.cons) (by simp))
      rintro ⟨⟨j, sv⟩, hjK⟩
      dsimp only at hjK ⊢
      by_cases hlj : j < K2.length
      · have hd2 : (K2.map (D.arr 32))[j]? = some (D.arr 32 K2[j]) := by rw [List.getElem?_map, List.getElem?_eq_getElem hlj]; rfl
        have hg2 : (getE pss K2[j]).getD (.arr 32 zero32) = .arr 32 ((A K[i]).sl K2[j]) := hse K2[j]
        repeat
          (first
           | (apply P_loadpd; (iterate 5 exact rfl)) | (apply P_cmp (b := true); (iterate 2 exact rfl); (focus (first | (simp [cmpI]; done) | (simp [cmpI]; omega))); (iterate 2 exact rfl))
           | (apply P_index; (iterate 4 exact rfl); (focus (first | exact ⟨by decide, rfl⟩ | (refine ⟨by omega, ?_⟩; rw [Int.toNat_natCast]; assumption))); (iterate 2 exact rfl))
           | (apply P_alloc; exact rfl; exact rfl; exact rfl; intro _) | (apply P_store; exact rfl; (focus (repeat first | exact .z | apply SetAt.s | apply SetAtF.s)); (iterate 4 exact rfl)) | apply EL.nil
           | ((with_reducible apply EK.then_normal); apply EK.code) | (apply EC.cond_true; exact rfl)
           | (with_reducible first | apply EC.seq | apply EC.region | apply EC.skip | apply EC.label | apply EC.block | apply EC.exit | apply EC.ret | apply EK.in_normal | apply EK.in_same | apply EK.in_ret | apply EK.then_ret | apply EK.then_exit))
        rename_i g9
        refine EC.le (Le.pickT [1, 0] [_, _] [_, _] (_) rfl rfl (by decide) rfl) ?_
        try simp only [List.cons_append, List.nil_append]
        refine EC.drawC 12 [0, 1, 2, 3, 4, 5, 6, 7, 8, 9] [10, 11] [_] _ (by kernel_rfl) (by kernel_rfl) rfl ?_
        simp only [pickL, List.filterMap_cons, List.filterMap_nil, List.getElem?_cons_zero, List.getElem?_cons_succ]
        repeat
          (first
           | (apply H_lookup; exact hg2; exact rfl; (first | exact I0 | exact I1 | exact I2 | exact I3 | exact I4 | exact I5); (iterate 5 exact rfl)) | (apply H_move; (iterate 3 exact rfl))
           | (apply H_field; (iterate 6 exact rfl)) | (apply H_load; exact rfl; (first | exact I0 | exact I1 | exact I2 | exact I3 | exact I4 | exact I5 | exact I6); (iterate 4 exact rfl))
           | (apply H_build; (iterate 7 exact rfl)) | (apply H_nilck; (iterate 3 exact rfl)))
        refine EM.nil ?_
        repeat (first | rw [List.cons_append] | rw [List.nil_append])
        refine CH.cut 1 ?_
        simp only [List.take_succ_cons, List.take_zero, List.drop_succ_cons, List.drop_zero]
        repeat
          (first
           | (apply H_lit; (iterate 9 exact rfl)))
        refine EM.nil ?_
        repeat (first | rw [List.cons_append] | rw [List.nil_append])
        have hl3 : ((K2.take j).map fun k => dSlL (k, (A K[i]).sl k)).length = j := by rw [List.length_map, List.length_take]; omega
        refine CH.mut (os := [_]) (rest := []) rfl rfl (m_append rfl rfl rfl rfl rfl ?_) ?_
        · rw [hl3]
          constructor <;> (simp; omega)
        rintro _ _ ⟨sv', rfl, rfl⟩
        try simp only [St.put]
        repeat (first | rw [List.cons_append] | rw [List.nil_append])
        refine CH.nil ?_
        try simp only [List.drop_succ_cons, List.drop_zero]
        repeat
          (first
           | (apply P_move; (iterate 3 exact rfl)) | (apply P_field; (iterate 6 exact rfl)) | (apply P_ar; (iterate 3 exact rfl); (focus omega); (focus omega); (iterate 2 exact rfl))
           | (apply P_store; exact rfl; (focus (repeat first | exact .z | apply SetAt.s | apply SetAtF.s)); (iterate 4 exact rfl)) | apply EL.nil | ((with_reducible apply EK.then_normal); apply EK.code)
           | (with_reducible first | apply EC.seq | apply EC.region | apply EC.skip | apply EC.label | apply EC.block | apply EC.exit | apply EC.ret | apply EK.in_normal | apply EK.in_same | apply EK.in_ret | apply EK.then_ret | apply EK.then_exit))
        refine EK.again ⟨(j + 1, sv'), hlj⟩ (by dsimp only; omega) ?_
        have htk : (K2.take (j + 1)).map (fun k => dSlL (k, (A K[i]).sl k)) = (K2.take j).map (fun k => dSlL (k, (A K[i]).sl k)) ++ [dSlL (K2[j], (A K[i]).sl K2[j])] := by rw [List.take_succ_eq_append_getElem hlj, List.map_append]; rfl
        dsimp only
        rw [htk]
        simp only [Int.natCast_add]
        exact (Le.keep (by repeat first | exact trivial | refine ⟨rfl, ?_⟩) (by repeat first | exact List.Sublist.refl _ | apply List.Sublist.cons_cons | apply List.Sublist.cons) (by simp))
      · have hjE : j = K2.length := by omega
        subst hjE
        refine EC.le (Le.freeze (pre := []) rfl) ?_
        simp only [List.nil_append]
        refine EC.le (Le.varR (d' := .tup [.arr 20 K[i], .v (.int .i64 pn), .arr 32 pw, .bs pc, .sl 64 ((K2.take K2.length).map fun k => dSlL (k, (A K[i]).sl k))]) (Rf.tup (RL.cons Rf.same (RL.cons Rf.same (RL.cons Rf.same (RL.cons Rf.same (RL.cons (Rf.fact (by simp) rfl) RL.nil))))))) ?_
        repeat
          (first
           | (apply P_move; (iterate 3 exact rfl)) | (apply P_assign; (iterate 3 exact rfl))
           | (apply P_load; exact rfl; (first | exact I0 | exact I1 | exact I2 | exact I3 | exact I4 | exact I5 | exact I6); (iterate 4 exact rfl))
           | (apply P_cmp (b := false); (iterate 2 exact rfl); (focus (first | (simp [cmpI]; done) | (simp [cmpI]; omega))); (iterate 2 exact rfl))
           | (apply P_ar; (iterate 3 exact rfl); (focus omega); (focus omega); (iterate 2 exact rfl)) | (apply P_lit; (iterate 9 exact rfl))
           | ((apply P_append; exact rfl; (focus (repeat first | exact .z | apply SetAt.s | apply SetAtF.s)); (iterate 5 exact rfl); (focus (constructor <;> (first | (simp; done) | (simp; omega))))); intro _)
           | apply EL.nil | ((with_reducible apply EK.then_normal); apply EK.code) | (apply EC.cond_false; exact rfl)
           | (with_reducible first | apply EC.seq | apply EC.region | apply EC.skip | apply EC.label | apply EC.block | apply EC.exit | apply EC.ret | apply EK.in_normal | apply EK.in_same | apply EK.in_ret | apply EK.then_ret | apply EK.then_exit))
        rename_i v'
        refine EK.le (Le.pickT [0, 2, 1] [_, _, _] [_, _, _] (_) rfl rfl (by decide) rfl) ?_
        try simp only [List.cons_append, List.nil_append]
        refine EK.le (Le.perm ((perm_front (l := [.row v' 74 55 (L.map dAcL ++ [.tup [.arr 20 K[i], .v (.int .i64 pn), .arr 32 pw, .bs pc, .sl 64 ((K2.take K2.length).map fun k => dSlL (k, (A K[i]).sl k))]]), stO g m u k n, smO m c es, unO u us, mkO k []]) hperm).symm.cons _)) ?_
        have hne : A K[i] ≠ Ac.zero := fun e => by
          have := hempty.2 e
          rw [hpe] at this
          cases this
        refine EK.again ⟨(i + 1, L ++ [⟨K[i], pn, pw, pc, slots (A K[i]) pss⟩], v'), hlt, ?_, ?_, ?_⟩ (by dsimp only; omega) ?_
        · rw [List.take_succ_eq_append_getElem hlt]
          refine hCU.take hsp hne fun b hb => ?_
          obtain ⟨j, hj, rfl⟩ := List.getElem_of_mem hb
          rw [List.length_take] at hj
          rw [List.getElem_take]
          exact List.pairwise_iff_getElem.1 hKo j i (by omega) hlt (by omega)
        · simp
          omega
        · intro y hy
          rcases List.mem_append.1 hy with hy | hy
          · exact hsl y hy
          · obtain rfl : y = _ := by simpa using hy
            show (slots (A K[i]) pss).length ≤ M
            rw [hsx, List.length_map, hK2l]
            exact hpl
        have hmp : (L ++ [(⟨K[i], pn, pw, pc, slots (A K[i]) pss⟩ : AcL)]).map dAcL = L.map dAcL ++ [.tup [.arr 20 K[i], .v (.int .i64 pn), .arr 32 pw, .bs pc, .sl 64 ((K2.take K2.length).map fun k => dSlL (k, (A K[i]).sl k))]] := by
          rw [List.map_append, List.take_length]
          simp only [List.map_cons, List.map_nil, dAcL]
          rw [hsx, List.map_map]
          rfl
        dsimp only
        rw [hmp]
        simp only [Int.natCast_add, List.cons_append, List.nil_append]
        exact (Le.keep (by repeat first | exact trivial | refine ⟨rfl, ?_⟩) (by repeat first | exact List.Sublist.refl _ | apply List.Sublist.cons_cons | apply List.Sublist.cons) (by simp))
  · have hiE : i = K.length := by omega
    subst hiE
    repeat
      (first
       | (apply P_move; (iterate 3 exact rfl)) | (apply P_assign; (iterate 3 exact rfl))
       | (apply P_cmp (b := false); (iterate 2 exact rfl); (focus (first | (simp [cmpI]; done) | (simp [cmpI]; omega))); (iterate 2 exact rfl)) | apply EL.nil
       | ((with_reducible apply EK.then_normal); apply EK.code) | (apply EC.cond_false; exact rfl)
       | (with_reducible first | apply EC.seq | apply EC.region | apply EC.skip | apply EC.label | apply EC.block | apply EC.exit | apply EC.ret | apply EK.in_normal | apply EK.in_same | apply EK.in_ret | apply EK.then_ret | apply EK.then_exit))
    refine EK.le (Le.freeze (pre := []) rfl) ?_
    refine EK.retM1k (stO g m u k n :: smO m c es :: unO u us :: mkO k [] :: rest) rfl rfl (RL.cons (Rf.fact (by simp) rfl) RL.nil) (by repeat first | exact List.Sublist.refl _ | apply List.Sublist.cons_cons | apply List.Sublist.cons) ⟨⟨L, ?_, by omega, hsl, rfl⟩, rfl⟩
    rw [List.take_length] at hCU
    exact hCU.canon hKc
theorem ps_accounts {g N : Nat} {A : As} {os : List Obj} (h : PSt g A N os) (hN : N ≤ 1000000) : FnM 21 [.v (ptr g)] os (fun r os' => (∃ L, Canon A L ∧ L.length ≤ N ∧ (∀ x ∈ L, x.sl.length ≤ N) ∧ r = .val (.sl 55 (L.map dAcL))) ∧ os' = os) := by
  obtain ⟨m, c, es, u, k, n, us, ps, rfl, hi, hu⟩ := h
  exact accounts0 hi hN
end E
end Go.Proofs.YtdhicdnmgmkpkaaGreat
/-
  The root of no accounts.
  Conditions: none.
-/
namespace Go.Proofs.YtdhicdnmgmkpkaaGreat
set_option linter.unusedVariables false
open Go.RowKit Mono Rlp Wd
namespace E
theorem f_sortP0 : Fn 235 [.v (.slice none 0 0), .v (.func (.func 236) #[] #[])] (· = .tpl []) := ⟨fun ok w xs hok hr => by
  obtain ⟨x1, _, rfl, hx1, x2, _, rfl, hx2, rfl⟩ := hr
  obtain rfl := (readV_v.1 hx1).2
  obtain rfl := (readV_v.1 hx2).2
  refine (AnyF.slices_SortFunc_none sortPair none 0 (.func (.func 236) #[] #[]) w).mono ?_
  rintro e w' ⟨rfl, rfl⟩
  exact ⟨.refl _, _, _, rfl, rfl, [], rfl, rfl⟩⟩
theorem f_index0 (F : Value) (hF : F.oneCell' = true) : Fn 245 [.v (.slice none 0 0), .v F] (· = .val (.v (.int .i64 (-1)))) := by
  refine Fn.walk 19 Tryz.func245 rfl Tryz.ntmps245 (by simp) fun X => ?_
  repeat
    (first
     | (apply P_move; (iterate 3 exact rfl)) | (apply P_assign; (iterate 3 exact rfl)) | (apply P_lenv; (iterate 4 exact rfl)) | apply EL.nil | ((with_reducible apply EK.then_normal); apply EK.code)
     | (with_reducible first | apply EC.seq | apply EC.region | apply EC.skip | apply EC.label | apply EC.block | apply EC.exit | apply EC.ret | apply EK.in_normal | apply EK.in_same | apply EK.in_ret | apply EK.then_ret | apply EK.then_exit))
  refine EC.loopN 1 (EK.round ?_)
  repeat
    (first
     | (apply P_assign; (iterate 3 exact rfl)) | (apply P_cmp (b := false); (iterate 2 exact rfl); (focus (first | (simp [cmpI]; done) | (simp [cmpI]; omega))); (iterate 2 exact rfl)) | apply EL.nil
     | ((with_reducible apply EK.then_normal); apply EK.code) | (apply EC.cond_false; exact rfl)
     | (with_reducible first | apply EC.seq | apply EC.region | apply EC.skip | apply EC.label | apply EC.block | apply EC.exit | apply EC.ret | apply EK.in_normal | apply EK.in_same | apply EK.in_ret | apply EK.then_ret | apply EK.then_exit))
  exact EK.ret1 rfl rfl rfl
theorem f_contains0 (F : Value) (hF : F.oneCell' = true) : Fn 231 [.v (.slice none 0 0), .v F] (· = .val (.v (.bool false))) := by
  have h1 := f_index0 F hF
  refine Fn.walk 9 Tryz.func231 rfl Tryz.ntmps231 (by simp) fun X => ?_
  repeat
    (first
     | (apply P_call (h1); exact rfl; (focus (repeat first | exact RefineL.refl _ _ | exact RL.nil | exact Rf.same | exact Rf.bs0 | exact Rf.sl0 | (apply Rf.fact; (focus (simp; done)); exact rfl) | apply Rf.tup | apply RL.cons)); (focus (intro _ _; simp [go_sem]; done)); (iterate 2 exact rfl))
     | (apply P_move; (iterate 3 exact rfl)) | (apply P_assign; (iterate 3 exact rfl))
     | (apply P_cmp (b := false); (iterate 2 exact rfl); (focus (first | (simp [cmpI]; done) | (simp [cmpI]; omega))); (iterate 2 exact rfl)) | apply EL.nil
     | ((with_reducible apply EK.then_normal); apply EK.code)
     | (with_reducible first | apply EC.seq | apply EC.region | apply EC.skip | apply EC.label | apply EC.block | apply EC.exit | apply EC.ret | apply EK.in_normal | apply EK.in_same | apply EK.in_ret | apply EK.then_ret | apply EK.then_exit))
  exact EK.ret1 rfl rfl rfl
theorem f_pairs0 : Fn 204 [.v (.slice none 0 0)] (· = .tpl [.v (.slice none 0 0), .v (.int .i64 0)]) := by
  have h1 := f_contains0 (.func (.func 232) #[] #[]) rfl
  have h2 := f_sortP0
  refine Fn.walk 56 Tryz.func204 rfl Tryz.ntmps204 (by simp) fun X => ?_
  repeat
    (first
     | (apply P_call (h1); exact rfl; (focus (repeat first | exact RefineL.refl _ _ | exact RL.nil | exact Rf.same | exact Rf.bs0 | exact Rf.sl0 | (apply Rf.fact; (focus (simp; done)); exact rfl) | apply Rf.tup | apply RL.cons)); (focus (intro _ _; simp [go_sem]; done)); (iterate 2 exact rfl))
     | (apply P_move; (iterate 3 exact rfl)) | (apply P_assign; (iterate 3 exact rfl)) | (apply P_pick; (iterate 4 exact rfl))
     | (apply P_cmp (b := false); (iterate 2 exact rfl); (focus (first | (simp [cmpI]; done) | (simp [cmpI]; omega))); (iterate 2 exact rfl)) | (apply P_lenv; (iterate 4 exact rfl)) | apply EL.nil
     | ((with_reducible apply EK.then_normal); apply EK.code) | (apply EC.cond_false; exact rfl)
     | (with_reducible first | apply EC.seq | apply EC.region | apply EC.skip | apply EC.label | apply EC.block | apply EC.exit | apply EC.ret | apply EK.in_normal | apply EK.in_same | apply EK.in_ret | apply EK.then_ret | apply EK.then_exit))
  refine EC.loopN 1 (EK.round ?_)
  repeat
    (first
     | (apply P_call (h2); exact rfl; (focus (repeat first | exact RefineL.refl _ _ | exact RL.nil | exact Rf.same | exact Rf.bs0 | exact Rf.sl0 | (apply Rf.fact; (focus (simp; done)); exact rfl) | apply Rf.tup | apply RL.cons)); (focus (intro _ _; simp [go_sem]; done)); (iterate 2 exact rfl))
     | (apply P_move; (iterate 3 exact rfl)) | (apply P_assign; (iterate 3 exact rfl))
     | (apply P_cmp (b := false); (iterate 2 exact rfl); (focus (first | (simp [cmpI]; done) | (simp [cmpI]; omega))); (iterate 2 exact rfl)) | apply EL.nil
     | ((with_reducible apply EK.then_normal); apply EK.code) | (apply EC.cond_false; exact rfl)
     | (with_reducible first | apply EC.seq | apply EC.region | apply EC.skip | apply EC.label | apply EC.block | apply EC.exit | apply EC.ret | apply EK.in_normal | apply EK.in_same | apply EK.in_ret | apply EK.then_ret | apply EK.then_exit))
  refine EC.loopN 1 (EK.round ?_)
  repeat
    (first
     | (apply P_move; (iterate 3 exact rfl)) | (apply P_assign; (iterate 3 exact rfl))
     | (apply P_cmp (b := false); (iterate 2 exact rfl); (focus (first | (simp [cmpI]; done) | (simp [cmpI]; omega))); (iterate 2 exact rfl)) | (apply P_lenv; (iterate 4 exact rfl)) | apply EL.nil
     | ((with_reducible apply EK.then_normal); apply EK.code) | (apply EC.cond_false; exact rfl)
     | (with_reducible first | apply EC.seq | apply EC.region | apply EC.skip | apply EC.label | apply EC.block | apply EC.exit | apply EC.ret | apply EK.in_normal | apply EK.in_same | apply EK.in_ret | apply EK.then_ret | apply EK.then_exit))
  exact EK.ret2 rfl rfl rfl rfl
theorem f_build0 : Fn 205 [.v (.slice none 0 0), .v (.int .i64 0)] (· = .val (.v .nilIface)) := by
  refine Fn.walk 114 Tryz.func205 rfl Tryz.ntmps205 (by simp) fun X => ?_
  repeat
    (first
     | (apply P_move; (iterate 3 exact rfl)) | (apply P_assign; (iterate 3 exact rfl))
     | (apply P_cmp (b := true); (iterate 2 exact rfl); (focus (first | (simp [cmpI]; done) | (simp [cmpI]; omega))); (iterate 2 exact rfl)) | (apply P_lenv; (iterate 4 exact rfl)) | apply EL.nil
     | ((with_reducible apply EK.then_normal); apply EK.code) | (apply EC.cond_true; exact rfl)
     | (with_reducible first | apply EC.seq | apply EC.region | apply EC.skip | apply EC.label | apply EC.block | apply EC.exit | apply EC.ret | apply EK.in_normal | apply EK.in_same | apply EK.in_ret | apply EK.then_ret | apply EK.then_exit))
  exact EK.ret1 rfl rfl rfl
theorem f_tree0 : Fn 177 [.v (.slice none 0 0)] (· = .tpl [.v .nilIface, .v (.int .i64 0)]) := by
  have h1 := f_pairs0
  have h2 := f_build0
  refine Fn.walk 16 Tryz.func177 rfl Tryz.ntmps177 (by simp) fun X => ?_
  repeat
    (first
     | (apply P_call (h1); exact rfl; (focus (repeat first | exact RefineL.refl _ _ | exact RL.nil | exact Rf.same | exact Rf.bs0 | exact Rf.sl0 | (apply Rf.fact; (focus (simp; done)); exact rfl) | apply Rf.tup | apply RL.cons)); (focus (intro _ _; simp [go_sem]; done)); (iterate 2 exact rfl))
     | (apply P_call (h2); exact rfl; (focus (repeat first | exact RefineL.refl _ _ | exact RL.nil | exact Rf.same | exact Rf.bs0 | exact Rf.sl0 | (apply Rf.fact; (focus (simp; done)); exact rfl) | apply Rf.tup | apply RL.cons)); (focus (intro _ _; simp [go_sem]; done)); (iterate 2 exact rfl))
     | (apply P_move; (iterate 3 exact rfl)) | (apply P_assign; (iterate 3 exact rfl)) | (apply P_extract; (iterate 4 exact rfl))
     | (apply P_cmp (b := false); (iterate 2 exact rfl); (focus (first | (simp [cmpI]; done) | (simp [cmpI]; omega))); (iterate 2 exact rfl)) | apply EL.nil
     | ((with_reducible apply EK.then_normal); apply EK.code) | (apply EC.cond_false; exact rfl)
     | (with_reducible first | apply EC.seq | apply EC.region | apply EC.skip | apply EC.label | apply EC.block | apply EC.exit | apply EC.ret | apply EK.in_normal | apply EK.in_same | apply EK.in_ret | apply EK.then_ret | apply EK.then_exit))
  exact EK.ret2 rfl rfl rfl rfl
theorem bin_ifcnil : Bin .eql 258 (.v .nilIface) (.v .nilIface) (.bool true) := by
  refine ⟨rfl, fun ok w p q hp hq => ?_⟩
  obtain rfl := (readV_v.1 hp).2
  obtain rfl := (readV_v.1 hq).2
  exact ⟨fun x y => by cases x <;> cases y <;> kernel_rfl, by kernel_rfl⟩
theorem f_shSum0 : Fn 178 [.v .nilIface] (· = .val (.arr 32 root0)) := by
  have h1 := f_shEmpty
  refine Fn.walk 19 Tryz.func178 rfl Tryz.ntmps178 (by simp) fun X => ?_
  repeat
    (first
     | (apply P_call (h1); exact rfl; (focus (repeat first | exact RefineL.refl _ _ | exact RL.nil | exact Rf.same | exact Rf.bs0 | exact Rf.sl0 | (apply Rf.fact; (focus (simp; done)); exact rfl) | apply Rf.tup | apply RL.cons)); (focus (intro _ _; simp [go_sem]; done)); (iterate 2 exact rfl))
     | (apply P_bin; (iterate 2 exact rfl); exact bin_ifcnil; (iterate 2 exact rfl)) | (apply P_move; (iterate 3 exact rfl)) | (apply P_alloc; exact rfl; exact rfl; exact rfl; intro _)
     | (apply P_store; exact rfl; (focus (repeat first | exact .z | apply SetAt.s | apply SetAtF.s)); (iterate 4 exact rfl)) | apply EL.nil | ((with_reducible apply EK.then_normal); apply EK.code)
     | (apply EC.cond_true; exact rfl)
     | (with_reducible first | apply EC.seq | apply EC.region | apply EC.skip | apply EC.label | apply EC.block | apply EC.exit | apply EC.ret | apply EK.in_normal | apply EK.in_same | apply EK.in_ret | apply EK.then_ret | apply EK.then_exit))
  refine EK.retc1r 0 rfl rfl rfl rfl ?_ rfl
  (repeat first | exact RefineL.refl _ _ | exact RL.nil | exact Rf.same | exact Rf.bs0 | exact Rf.sl0 | (apply Rf.fact; (focus (simp; done)); exact rfl) | apply Rf.tup | apply RL.cons)
theorem f_trieRoot0 : Fn 139 [.v (.slice none 0 0)] (· = .tpl [.arr 32 root0, .v (.int .i64 0)]) := by
  have h1 := f_tree0
  have h2 := f_shSum0
  refine Fn.walk 17 Tryz.func139 rfl Tryz.ntmps139 (by simp) fun X => ?_
  repeat
    (first
     | (apply P_call (h1); exact rfl; (focus (repeat first | exact RefineL.refl _ _ | exact RL.nil | exact Rf.same | exact Rf.bs0 | exact Rf.sl0 | (apply Rf.fact; (focus (simp; done)); exact rfl) | apply Rf.tup | apply RL.cons)); (focus (intro _ _; simp [go_sem]; done)); (iterate 2 exact rfl))
     | (apply P_call (h2); exact rfl; (focus (repeat first | exact RefineL.refl _ _ | exact RL.nil | exact Rf.same | exact Rf.bs0 | exact Rf.sl0 | (apply Rf.fact; (focus (simp; done)); exact rfl) | apply Rf.tup | apply RL.cons)); (focus (intro _ _; simp [go_sem]; done)); (iterate 2 exact rfl))
     | (apply P_move; (iterate 3 exact rfl)) | (apply P_assign; (iterate 3 exact rfl)) | (apply P_extract; (iterate 4 exact rfl))
     | (apply P_cmp (b := false); (iterate 2 exact rfl); (focus (first | (simp [cmpI]; done) | (simp [cmpI]; omega))); (iterate 2 exact rfl)) | (apply P_alloc; exact rfl; exact rfl; exact rfl; intro _)
     | (apply P_store; exact rfl; (focus (repeat first | exact .z | apply SetAt.s | apply SetAtF.s)); (iterate 4 exact rfl)) | apply EL.nil | ((with_reducible apply EK.then_normal); apply EK.code)
     | (apply EC.cond_false; exact rfl)
     | (with_reducible first | apply EC.seq | apply EC.region | apply EC.skip | apply EC.label | apply EC.block | apply EC.exit | apply EC.ret | apply EK.in_normal | apply EK.in_same | apply EK.in_ret | apply EK.then_ret | apply EK.then_exit))
  refine EK.retc2r 0 rfl rfl rfl rfl rfl ?_ rfl
  (repeat first | exact RefineL.refl _ _ | exact RL.nil | exact Rf.same | exact Rf.bs0 | exact Rf.sl0 | (apply Rf.fact; (focus (simp; done)); exact rfl) | apply Rf.tup | apply RL.cons)
theorem f_acctPairs0 : Fn 138 [.sl 55 []] (· = .tpl [.v (.slice none 0 0), .v (.int .i64 0)]) := by
  refine Fn.walk 64 Tryz.func138 rfl Tryz.ntmps138 (by simp) fun X => ?_
  repeat
    (first
     | (apply P_move; (iterate 3 exact rfl)) | (apply P_assign; (iterate 3 exact rfl)) | (apply P_lensl; (iterate 4 exact rfl)) | (apply P_makeMap; exact rfl; exact rfl; exact rfl; intro _) | apply EL.nil
     | ((with_reducible apply EK.then_normal); apply EK.code)
     | (with_reducible first | apply EC.seq | apply EC.region | apply EC.skip | apply EC.label | apply EC.block | apply EC.exit | apply EC.ret | apply EK.in_normal | apply EK.in_same | apply EK.in_ret | apply EK.then_ret | apply EK.then_exit))
  refine EC.loopN 1 (EK.round ?_)
  repeat
    (first
     | (apply P_move; (iterate 3 exact rfl)) | (apply P_assign; (iterate 3 exact rfl))
     | (apply P_cmp (b := false); (iterate 2 exact rfl); (focus (first | (simp [cmpI]; done) | (simp [cmpI]; omega))); (iterate 2 exact rfl)) | apply EL.nil
     | ((with_reducible apply EK.then_normal); apply EK.code) | (apply EC.cond_false; exact rfl)
     | (with_reducible first | apply EC.seq | apply EC.region | apply EC.skip | apply EC.label | apply EC.block | apply EC.exit | apply EC.ret | apply EK.in_normal | apply EK.in_same | apply EK.in_ret | apply EK.then_ret | apply EK.then_exit))
  exact EK.ret2 rfl rfl rfl rfl
theorem f_acctRoot0 : Fn 104 [.sl 55 []] (· = .tpl [.arr 32 root0, .v (.int .i64 0)]) := by
  have h1 := f_acctPairs0
  have h2 := f_trieRoot0
  refine Fn.walk 19 Tryz.func104 rfl Tryz.ntmps104 (by simp) fun X => ?_
  repeat
    (first
     | (apply P_call (h1); exact rfl; (focus (repeat first | exact RefineL.refl _ _ | exact RL.nil | exact Rf.same | exact Rf.bs0 | exact Rf.sl0 | (apply Rf.fact; (focus (simp; done)); exact rfl) | apply Rf.tup | apply RL.cons)); (focus (intro _ _; simp [go_sem]; done)); (iterate 2 exact rfl))
     | (apply P_call (h2); exact rfl; (focus (repeat first | exact RefineL.refl _ _ | exact RL.nil | exact Rf.same | exact Rf.bs0 | exact Rf.sl0 | (apply Rf.fact; (focus (simp; done)); exact rfl) | apply Rf.tup | apply RL.cons)); (focus (intro _ _; simp [go_sem]; done)); (iterate 2 exact rfl))
     | (apply P_move; (iterate 3 exact rfl)) | (apply P_assign; (iterate 3 exact rfl)) | (apply P_extract; (iterate 4 exact rfl))
     | (apply P_cmp (b := false); (iterate 2 exact rfl); (focus (first | (simp [cmpI]; done) | (simp [cmpI]; omega))); (iterate 2 exact rfl)) | (apply P_alloc; exact rfl; exact rfl; exact rfl; intro _)
     | (apply P_store; exact rfl; (focus (repeat first | exact .z | apply SetAt.s | apply SetAtF.s)); (iterate 4 exact rfl)) | apply EL.nil | ((with_reducible apply EK.then_normal); apply EK.code)
     | (apply EC.cond_false; exact rfl)
     | (with_reducible first | apply EC.seq | apply EC.region | apply EC.skip | apply EC.label | apply EC.block | apply EC.exit | apply EC.ret | apply EK.in_normal | apply EK.in_same | apply EK.in_ret | apply EK.then_ret | apply EK.then_exit))
  refine EK.retc2r 0 rfl rfl rfl rfl rfl ?_ rfl
  (repeat first | exact RefineL.refl _ _ | exact RL.nil | exact Rf.same | exact Rf.bs0 | exact Rf.sl0 | (apply Rf.fact; (focus (simp; done)); exact rfl) | apply Rf.tup | apply RL.cons)
end E
end Go.Proofs.YtdhicdnmgmkpkaaGreat
/-
  The program's state: made of accounts.
  Conditions: none.
-/
namespace Go.Proofs.YtdhicdnmgmkpkaaGreat
set_option linter.unusedVariables false
open Go.RowKit Mono Rlp Wd Go.Sort
namespace E
def slF (sl : List (List UInt8 × List UInt8)) : List UInt8 → List UInt8 := sl.foldl (fun f p => fun k => if p.1 = k then p.2 else f k) fun _ => zero32
def AcL.take (x : AcL) : Ac := ⟨if x.n > 0 then x.n else 0, x.w, x.cd, slF x.sl⟩
structure SlIs (ss : List Ent) (f : List UInt8 → List UInt8) (N : Nat) : Prop where
  sl : ∀ k, slE ss k = .arr 32 (f k)
  ent : ∀ e ∈ ss, ∃ v, e.2.2 = .arr 32 v ∧ v ≠ zero32
  nod : (ss.map (·.2.1)).Nodup
  len : ss.length ≤ N
theorem SlIs.nil : SlIs [] (slF []) 0 := ⟨fun k => rfl, fun e he => by simp at he, List.nodup_nil, Nat.le_refl _⟩
theorem EK.apart {N : Nat} {X : Cx N} {K : Act → World → Prop} {S : St} (h : Apart S.objs → EK X K S) : EK X K S := ⟨fun a w ha => (h ha.mem.apart).go a w ha⟩
end E
end Go.Proofs.YtdhicdnmgmkpkaaGreat
/-
  The program's snap.Apply: changes of accounts.
  Conditions: none.
-/
namespace Go.Proofs.YtdhicdnmgmkpkaaGreat
set_option linter.unusedVariables false
open Go.RowKit Mono Rlp Wd Go.Sort
namespace E
section
variable {N : Nat} {X : Cx N} {ops : Array Oper} {Q : Exit → Act → World → Prop}
theorem P_callT {l' : List Oper} {t ty f : Nat} {pos : String} {af : Array Edge} {gd : Option (Nat × Bool)} {args : Array Operand} {tys : Array TypeId} {ds ds' : List D} {Φ : R → List Obj → Prop} {rs : List (Tmp × R)} {os os0 : List Obj} {fs : List (Value × D)} (hF : FnM f ds' os Φ) (l1 : List Obj) (hos : os0 = l1 ++ os)
    (hx : evs (⟨rs, l1, fs⟩ : St) args.toList = some ds) (hR : RefineL fs ds ds') (hf : Enters f) (hg : guardOf ops ⟨rs, os ++ l1, fs⟩ ⟨some t, .call { callee := .value (.func f), args := args, argTypes := tys }, ty, pos, af, gd⟩ = some true) (hN : Nat.blt t N = true) (k : ∀ r os', Φ r os' → EL X ops Q l' ⟨(t, r) :: rs, l1 ++ os', fs⟩) : EL X ops Q (⟨some t, .call { callee := .value (.func f), args := args, argTypes := tys }, ty, pos, af, gd⟩ :: l') ⟨rs, os0, fs⟩ := by
  subst hos
  exact EL.le (Le.perm List.perm_append_comm) (P_callM hF rfl hx hR hf hg hN fun r os' h => EL.le (Le.perm List.perm_append_comm) (k r os' h))
end
theorem PA.Is.mono {p : PA} {x : Ac} {N M : Nat} (h : p.Is x N) (hm : N ≤ M) : p.Is x M := ⟨h.n, h.w, h.cd, h.sl, h.ent, h.nod, Nat.le_trans h.len hm, h.cl⟩
theorem PSt.mono {g N M : Nat} {A : As} {os : List Obj} (h : PSt g A N os) (hm : N ≤ M) : PSt g A M os := by
  obtain ⟨m, c, es, u, k, n, us, ps, h1, hi, hu⟩ := h
  exact ⟨m, c, es, u, k, n, us, ps, h1, ⟨hi.out, fun a d h => by obtain ⟨p, h1, h2, h3⟩ := hi.inn a d h; exact ⟨p, h1, h2, h3.mono hm⟩, hi.inj, hi.nod, Nat.le_trans hi.len hm⟩, hu⟩
structure ChL where
  a : List UInt8
  gone : Bool
  n : Int
  w : List UInt8
  cd : List UInt8
  sl : List (List UInt8 × List UInt8)
def ChL.base (c : ChL) (A : As) : As :=
  let A1 := if c.gone = true then A.upd c.a Ac.zero else A
  let A2 := A1.upd c.a {A1 c.a with n := if c.n > 0 then c.n else 0}
  let A3 := A2.upd c.a {A2 c.a with w := c.w}
  A3.upd c.a {A3 c.a with cd := c.cd}
def slots1 (a : List UInt8) (sl : List (List UInt8 × List UInt8)) (A : As) : As := sl.foldl (fun A p => A.upd a ((A a).slot p.1 p.2)) A
def ChL.of (c : ChL) (A : As) : As := slots1 c.a c.sl (c.base A)
end E
end Go.Proofs.YtdhicdnmgmkpkaaGreat
/-
  The state: Exists, and the root of one without accounts.
  Conditions: none.
-/
namespace Go.Proofs.YtdhicdnmgmkpkaaGreat
set_option linter.unusedVariables false
open Go.RowKit Mono Rlp Wd
namespace E
section
variable {g N : Nat} {A : As} {os : List Obj} {a : List UInt8}
set_option maxRecDepth 20000 in
set_option maxHeartbeats 4000000 in
theorem zempty (ga : Nat) : FnM 78 [.v (ptr ga)] [zaO ga] (fun r os' => r = .val (.v (.bool true)) ∧ os' = [zaO ga]) := by
  have hz := (bin_word zero32 zero32).1
  rw [show (zero32 == zero32) = true by decide] at hz
  refine FnM.walk 32 Tryz.func78 rfl Tryz.ntmps78 (by simp) fun X => ?_
  repeat
    (first
     | (apply P_bin; (iterate 2 exact rfl); exact hz; (iterate 2 exact rfl)) | (apply P_lenmapNil; exact rfl; exact rfl; exact rfl; exact rfl) | (apply P_move; (iterate 3 exact rfl))
     | (apply P_assign; (iterate 3 exact rfl)) | (apply P_field; (iterate 6 exact rfl)) | (apply P_pick; (iterate 4 exact rfl))
     | (apply P_load; exact rfl; (first | exact I0 | exact I1 | exact I2 | exact I3 | exact I4 | exact I5 | exact I6); (iterate 4 exact rfl))
     | (apply P_cmp (b := true); (iterate 2 exact rfl); (focus (first | (simp [cmpI]; done) | (simp [cmpI]; omega))); (iterate 2 exact rfl)) | (apply P_lenv; (iterate 4 exact rfl))
     | (apply P_build0; (iterate 5 exact rfl)) | (apply P_nilck; (iterate 3 exact rfl)) | apply EL.nil | ((with_reducible apply EK.then_normal); apply EK.code)
     | (with_reducible first | apply EC.seq | apply EC.region | apply EC.skip | apply EC.label | apply EC.block | apply EC.exit | apply EC.ret | apply EK.in_normal | apply EK.in_same | apply EK.in_ret | apply EK.then_ret | apply EK.then_exit))
  exact EK.retM1s [zaO ga] rfl rfl (by (repeat first | exact List.nil_sublist _ | apply List.Sublist.cons_cons | apply List.Sublist.cons)) ⟨rfl, rfl⟩
set_option maxRecDepth 20000 in
set_option maxHeartbeats 4000000 in
theorem exists_in {m c : Nat} {es : List Ent} {u k : Value} {n : Int} {us : List D} {p : PA} (h : getE es a = some (.v (ptr p.g))) : FnM 49 [.v (ptr g), .arr 20 a] ([stO g m u k n, smO m c es, unO u us, mkO k []] ++ p.os) (fun r os' => r = .val (.v (.bool !p.empty)) ∧ os' = [stO g m u k n, smO m c es, unO u us, mkO k []] ++ p.os) := by
  have h1 := of_in (g := g) (m := m) (c := c) (u := u) (k := k) (n := n) h
  have h2 := empty_ p
  refine FnM.walk 10 Tryz.func49 rfl Tryz.ntmps49 (by simp) fun X => ?_
  repeat
    (first
     | (apply P_callAt h1 [_] (unO u us :: mkO k [] :: p.os); exact rfl; exact rfl; exact RefineL.refl _ _; (focus (intro _ _; simp [go_sem]; done)); exact rfl; exact rfl; rintro _ _ ⟨rfl, rfl⟩)
     | (apply P_move; (iterate 3 exact rfl)) | (apply P_assign; (iterate 3 exact rfl))
     | (apply P_load; exact rfl; (first | exact I0 | exact I1 | exact I2 | exact I3 | exact I4 | exact I5 | exact I6); (iterate 4 exact rfl)) | (apply P_box; exact rfl; exact rfl; exact rfl; intro _)
     | apply EL.nil | ((with_reducible apply EK.then_normal); apply EK.code)
     | (with_reducible first | apply EC.seq | apply EC.region | apply EC.skip | apply EC.label | apply EC.block | apply EC.exit | apply EC.ret | apply EK.in_normal | apply EK.in_same | apply EK.in_ret | apply EK.then_ret | apply EK.then_exit))
  refine P_callT h2 [_, _, _, _, _] rfl rfl (RefineL.refl _ _) (by intro _ _; simp [go_sem]) rfl rfl ?_
  rintro _ _ ⟨rfl, rfl⟩
  repeat
    (first
     | (apply P_assign; (iterate 3 exact rfl)) | (apply P_not; (iterate 3 exact rfl)) | apply EL.nil | ((with_reducible apply EK.then_normal); apply EK.code)
     | (with_reducible first | apply EC.seq | apply EC.region | apply EC.skip | apply EC.label | apply EC.block | apply EC.exit | apply EC.ret | apply EK.in_normal | apply EK.in_same | apply EK.in_ret | apply EK.then_ret | apply EK.then_exit))
  exact EK.retM1s _ rfl rfl (List.sublist_cons_self ..) ⟨rfl, rfl⟩
set_option maxRecDepth 20000 in
set_option maxHeartbeats 4000000 in
theorem exists_out {m c : Nat} {es : List Ent} {u k : Value} {n : Int} (h : getE es a = none) : FnM 49 [.v (ptr g), .arr 20 a] [stO g m u k n, smO m c es] (fun r os' => r = .val (.v (.bool false)) ∧ os' = [stO g m u k n, smO m c es]) := by
  have h1 := of_out (g := g) (m := m) (c := c) (u := u) (k := k) (n := n) h
  refine FnM.walk 10 Tryz.func49 rfl Tryz.ntmps49 (by simp) fun X => ?_
  repeat
    (first
     | (apply P_callAt h1 [_] []; exact rfl; exact rfl; exact RefineL.refl _ _; (focus (intro _ _; simp [go_sem]; done)); exact rfl; exact rfl; rintro _ _ ⟨ga, rfl, rfl⟩)
     | (apply P_move; (iterate 3 exact rfl)) | (apply P_assign; (iterate 3 exact rfl))
     | (apply P_load; exact rfl; (first | exact I0 | exact I1 | exact I2 | exact I3 | exact I4 | exact I5 | exact I6); (iterate 4 exact rfl)) | (apply P_box; exact rfl; exact rfl; exact rfl; intro _)
     | apply EL.nil | ((with_reducible apply EK.then_normal); apply EK.code)
     | (with_reducible first | apply EC.seq | apply EC.region | apply EC.skip | apply EC.label | apply EC.block | apply EC.exit | apply EC.ret | apply EK.in_normal | apply EK.in_same | apply EK.in_ret | apply EK.then_ret | apply EK.then_exit))
  refine P_callAt (zempty _) [_] [_, _] rfl rfl (RefineL.refl _ _) (by intro _ _; simp [go_sem]) rfl rfl ?_
  rintro _ _ ⟨rfl, rfl⟩
  repeat
    (first
     | (apply P_assign; (iterate 3 exact rfl)) | (apply P_not; (iterate 3 exact rfl)) | apply EL.nil | ((with_reducible apply EK.then_normal); apply EK.code)
     | (with_reducible first | apply EC.seq | apply EC.region | apply EC.skip | apply EC.label | apply EC.block | apply EC.exit | apply EC.ret | apply EK.in_normal | apply EK.in_same | apply EK.in_ret | apply EK.then_ret | apply EK.then_exit))
  exact EK.retM1s [stO g m u k n, smO m c es] rfl rfl (by (repeat first | exact List.nil_sublist _ | apply List.Sublist.cons_cons | apply List.Sublist.cons)) ⟨rfl, rfl⟩
theorem ps_exists (h : PSt g A N os) (a : List UInt8) : FnM 49 [.v (ptr g), .arr 20 a] os (fun r os' => (∃ b : Bool, r = .val (.v (.bool b)) ∧ (b = true ↔ A a ≠ Ac.zero)) ∧ os' = os) := by
  obtain ⟨m, c, es, u, k, n, us, ps, rfl, hi, hu⟩ := h
  cases hE : getE es a with
  | some d =>
    obtain ⟨p, hp, rfl, his⟩ := hi.inn a d hE
    obtain ⟨ps1, ps2, rfl⟩ := List.append_of_mem hp
    refine FnM.mono (FnM.lift (Ψ := fun r hdr p' => r = .val (.v (.bool !p.empty)) ∧ hdr = [stO g m u k n, smO m c es, unO u us, mkO k []] ∧ p' = p) ps1 ps2 (FnM.mono (exists_in (p := p) hE) fun r os' ⟨h1, h2⟩ => ⟨_, p, ⟨h1, rfl, rfl⟩, h2⟩)) ?_
    rintro r _ ⟨_, _, ⟨rfl, rfl, rfl⟩, rfl⟩
    refine ⟨⟨_, rfl, ?_⟩, rfl⟩
    have := his.empty_iff
    rw [ne_eq, ← this]
    simp
  | none =>
    refine FnM.mono ((exists_out hE).frame _) ?_
    rintro r _ ⟨_, ⟨rfl, rfl⟩, rfl⟩
    refine ⟨⟨_, rfl, ?_⟩, rfl⟩
    simp [hi.out a hE]
set_option maxRecDepth 20000 in
set_option maxHeartbeats 4000000 in
theorem ps_root0 (h : PSt g A N os) (hN : N ≤ 1000000) (hA : ∀ a, A a = Ac.zero) : FnM 48 [.v (ptr g)] os (fun r os' => r = .val (.arr 32 root0) ∧ os' = os) := by
  have h1 := ps_accounts h hN
  have h2 := f_acctRoot0
  refine FnM.walk 12 Tryz.func48 rfl Tryz.ntmps48 (by simp) fun X => ?_
  repeat
    (first
     | (apply P_callT h1 [_]; exact rfl; exact rfl; exact RefineL.refl _ _; (focus (intro _ _; simp [go_sem]; done)); exact rfl; exact rfl; rintro _ _ ⟨⟨L, hL, _, _, rfl⟩, rfl⟩; obtain rfl : L = [] := List.eq_nil_iff_forall_not_mem.2 fun x hx => (hL.mem x hx).2 (hA _))
     | (apply P_call (h2); exact rfl; (focus (repeat first | exact RefineL.refl _ _ | exact RL.nil | exact Rf.same | exact Rf.bs0 | exact Rf.sl0 | (apply Rf.fact; (focus (simp; done)); exact rfl) | apply Rf.tup | apply RL.cons)); (focus (intro _ _; simp [go_sem]; done)); (iterate 2 exact rfl))
     | (apply P_move; (iterate 3 exact rfl)) | (apply P_assign; (iterate 3 exact rfl)) | (apply P_extract; (iterate 4 exact rfl))
     | (apply P_load; exact rfl; (first | exact I0 | exact I1 | exact I2 | exact I3 | exact I4 | exact I5 | exact I6); (iterate 4 exact rfl)) | (apply P_alloc; exact rfl; exact rfl; exact rfl; intro _)
     | (apply P_store; exact rfl; (focus (repeat first | exact .z | apply SetAt.s | apply SetAtF.s)); (iterate 4 exact rfl)) | apply EL.nil | ((with_reducible apply EK.then_normal); apply EK.code)
     | (with_reducible first | apply EC.seq | apply EC.region | apply EC.skip | apply EC.label | apply EC.block | apply EC.exit | apply EC.ret | apply EK.in_normal | apply EK.in_same | apply EK.in_ret | apply EK.then_ret | apply EK.then_exit))
  exact EK.retMc1s 1 _ rfl rfl rfl rfl (by repeat first | exact RefineL.refl _ _ | exact RL.nil | exact Rf.same) ((List.sublist_cons_self ..).trans (List.sublist_cons_self ..)) ⟨rfl, rfl⟩
end
end E
end Go.Proofs.YtdhicdnmgmkpkaaGreat
