/-
  Merged (wip/tools/merge.py): TP6, TP3, TP4.
  Conditions: none.
-/
import Derived.Test.YtmlajcbabimkjaaZW16
/-
  trie.pairs: the pairs by rising paths.
  Conditions: none.
-/
namespace Go.Proofs.Ytmlajcbabimkjaa
set_option linter.unusedVariables false
open Go.RowKit Mono Rlp Go.Sort
namespace E
abbrev Pr := List UInt8 × List UInt8
def sp (x : Pr) : Pr := (split x.1, x.2)
def srt (ps : List Pr) : List Pr := ps.mergeSort fun a b => decide (a.1 ≤ b.1)
theorem srt_perm (ps : List Pr) : (srt ps).Perm ps := List.mergeSort_perm _ _
theorem srt_sorted (ps : List Pr) : (srt ps).Pairwise fun a b => a.1 ≤ b.1 := by
  have h := List.pairwise_mergeSort (le := fun a b : Pr => decide (a.1 ≤ b.1)) (fun a b c h1 h2 => by simp only [decide_eq_true_eq] at h1 h2 ⊢; exact List.le_trans h1 h2) (fun a b => by simp only [Bool.or_eq_true, decide_eq_true_eq]; exact List.le_total a.1 b.1) ps
  exact h.imp fun h => by simpa using h
theorem nodup_key {ps : List Pr} (h : (ps.map (·.1)).Nodup) {a b : Pr} (ha : a ∈ ps) (hb : b ∈ ps) (e : a.1 = b.1) : a = b := by
  obtain ⟨i, hi, rfl⟩ := List.getElem_of_mem ha
  obtain ⟨j, hj, rfl⟩ := List.getElem_of_mem hb
  have := (List.getElem_inj (h₀ := by simpa using hi) (h₁ := by simpa using hj) h).1 (by simpa using e)
  subst this
  rfl
theorem srt_eq {ps qs : List Pr} (hp : qs.Perm ps) (hs : qs.Pairwise fun a b => a.1 ≤ b.1) (hn : (ps.map (·.1)).Nodup) : qs = srt ps :=
  List.Perm.eq_of_pairwise (fun a b ha hb h1 h2 => nodup_key hn (hp.mem_iff.1 ha) ((srt_perm ps).mem_iff.1 hb) (List.le_antisymm h1 h2)) hs (srt_sorted ps) (hp.trans (srt_perm ps).symm)
def pairsF (l : List Pr) : R :=
  if 100000 < l.length ∨ l.any lg = true then .tpl [.v (.slice none 0 0), .v (.int .i64 3)]
  else if l.any (·.2.isEmpty) = true then .tpl [.v (.slice none 0 0), .v (.int .i64 1)]
  else if ((l.map sp).map (·.1)).Nodup then .tpl [.sl 2 ((srt (l.map sp)).map dPr), .v (.int .i64 0)]
  else .tpl [.v (.slice none 0 0), .v (.int .i64 1)]
theorem f_EqualT (l m : List UInt8) : Fn 95 [.bs l, .bs m] (· = .val (.v (.bool (l == m)))) := by
  have hb := (bin_string l m).1
  refine Fn.walk 10 Try.func95 rfl Try.ntmps95 (by simp) fun X => ?_
  repeat
    (first
     | (apply P_bin; (iterate 2 exact rfl); exact hb; (iterate 2 exact rfl)) | (apply P_move; (iterate 3 exact rfl)) | (apply P_assign; (iterate 3 exact rfl)) | (apply P_str; (iterate 3 exact rfl))
     | apply EL.nil | ((with_reducible apply EK.then_normal); apply EK.code)
     | (with_reducible first | apply EC.seq | apply EC.region | apply EC.skip | apply EC.label | apply EC.block | apply EC.exit | apply EC.ret | apply EK.in_normal | apply EK.in_same | apply EK.in_ret | apply EK.then_ret | apply EK.then_exit))
  exact EK.ret1 rfl rfl rfl
theorem not_long {l : List Pr} (h : l.any lg = false) {x : Pr} (hx : x ∈ l) : x.1.length ≤ 64 ∧ x.2.length ≤ 1048576 := by
  have := List.any_eq_false.1 h x hx
  unfold lg at this
  simp at this
  omega
theorem adj_nodup {qs : List Pr} (hq : qs.Pairwise fun a b => a.1 ≤ b.1) (h : ∀ j (hj : j + 1 < qs.length), qs[j].1 ≠ qs[j + 1].1) : (qs.map (·.1)).Nodup := by
  unfold List.Nodup
  rw [List.pairwise_map, List.pairwise_iff_getElem]
  intro i j hi hj hij e
  have h1 := List.pairwise_iff_getElem.1 hq i (i + 1) hi (by omega) (by omega)
  have h2 : qs[i + 1].1 ≤ qs[j].1 := by
    rcases Nat.lt_or_ge (i + 1) j with h | h
    · exact List.pairwise_iff_getElem.1 hq (i + 1) j (by omega) hj h
    · obtain rfl : j = i + 1 := by omega
      exact List.le_refl _
  exact h i (by omega) (List.le_antisymm h1 (by rw [e]; exact h2))
set_option maxRecDepth 20000 in
set_option maxHeartbeats 8000000 in
theorem f_pairs (l : List Pr) : Fn 60 [.sl 2 (l.map dPr)] (· = pairsF l) := by
  have h1 := f_containsP l
  unfold pairsF
  have hl : (l.map dPr).length = l.length := by rw [List.length_map]
  refine Fn.walk 56 Try.func60 rfl Try.ntmps60 (by simp) fun X => ?_
  by_cases hbig : 100000 < l.length
  · rw [if_pos (.inl hbig)]
    repeat
      (first
       | (apply P_skip; (iterate 2 exact rfl)) | (apply P_move; (iterate 3 exact rfl)) | (apply P_assign; (iterate 3 exact rfl)) | (apply P_pick; (iterate 4 exact rfl))
       | (apply P_cmp (b := true); (iterate 2 exact rfl); (focus (first | (simp [cmpI]; done) | (simp [cmpI]; omega))); (iterate 2 exact rfl)) | (apply P_lensl; (iterate 4 exact rfl)) | apply EL.nil
       | ((with_reducible apply EK.then_normal); apply EK.code) | (apply EC.cond_true; exact rfl)
       | (with_reducible first | apply EC.seq | apply EC.region | apply EC.skip | apply EC.label | apply EC.block | apply EC.exit | apply EC.ret | apply EK.in_normal | apply EK.in_same | apply EK.in_ret | apply EK.then_ret | apply EK.then_exit))
    exact EK.ret2 rfl rfl rfl rfl
  · cases hany : l.any lg with
    | true =>
      rw [hany] at h1
      rw [if_pos (.inr rfl)]
      repeat
        (first
         | (apply P_call (h1); exact rfl; (focus (repeat first | exact RefineL.refl _ _ | exact RL.nil | exact Rf.same | exact Rf.bs0 | exact Rf.sl0 | (apply Rf.fact; (focus (simp; done)); exact rfl) | apply Rf.tup | apply RL.cons)); (focus (intro _ _; simp [go_sem]; done)); (iterate 2 exact rfl))
         | (apply P_move; (iterate 3 exact rfl)) | (apply P_assign; (iterate 3 exact rfl)) | (apply P_pick; (iterate 4 exact rfl))
         | (apply P_cmp (b := false); (iterate 2 exact rfl); (focus (first | (simp [cmpI]; done) | (simp [cmpI]; omega))); (iterate 2 exact rfl)) | (apply P_lensl; (iterate 4 exact rfl)) | apply EL.nil
         | ((with_reducible apply EK.then_normal); apply EK.code) | (apply EC.cond_true; exact rfl)
         | (with_reducible first | apply EC.seq | apply EC.region | apply EC.skip | apply EC.label | apply EC.block | apply EC.exit | apply EC.ret | apply EK.in_normal | apply EK.in_same | apply EK.in_ret | apply EK.then_ret | apply EK.then_exit))
      exact EK.ret2 rfl rfl rfl rfl
    | false =>
      rw [hany] at h1
      rw [if_neg (by simp; omega)]
      repeat
        (first
         | (apply P_call (h1); exact rfl; (focus (repeat first | exact RefineL.refl _ _ | exact RL.nil | exact Rf.same | exact Rf.bs0 | exact Rf.sl0 | (apply Rf.fact; (focus (simp; done)); exact rfl) | apply Rf.tup | apply RL.cons)); (focus (intro _ _; simp [go_sem]; done)); (iterate 2 exact rfl))
         | (apply P_move; (iterate 3 exact rfl)) | (apply P_assign; (iterate 3 exact rfl)) | (apply P_pick; (iterate 4 exact rfl))
         | (apply P_cmp (b := false); (iterate 2 exact rfl); (focus (first | (simp [cmpI]; done) | (simp [cmpI]; omega))); (iterate 2 exact rfl)) | (apply P_lensl; (iterate 4 exact rfl)) | apply EL.nil
         | ((with_reducible apply EK.then_normal); apply EK.code) | (apply EC.cond_false; exact rfl)
         | (with_reducible first | apply EC.seq | apply EC.region | apply EC.skip | apply EC.label | apply EC.block | apply EC.exit | apply EC.ret | apply EK.in_normal | apply EK.in_same | apply EK.in_ret | apply EK.then_ret | apply EK.then_exit))
      refine EC.le (Le.row 162 2) ?_
      refine EC.loop (ι := {p : Value × Nat // p.2 ≤ l.length ∧ (l.take p.2).any (·.2.isEmpty) = false})
        (fun p => ⟨[(17, .val (.v (.int .i64 (p.1.2 : Int)))), (16, .val (.v (.int .i64 ((l.map dPr).length : Int)))), (15, .val (.sl 2 (l.map dPr))), (4, .val (.v p.1.1))],
          [.row p.1.1 162 2 ((l.take p.1.2).map fun x => dPr (sp x))], []⟩)
        (fun p => l.length - p.1.2) ⟨(.slice none 0 0, 0), by omega, by simp⟩ ?_ ?_
      · exact (Le.keep (by repeat first | exact trivial | refine ⟨rfl, ?_⟩) (by repeat first | exact List.nil_sublist _ | apply List.Sublist.cons_cons | apply List.Sublist.cons) (by simp))
      rintro ⟨⟨rv, n⟩, hn, hI⟩
      dsimp only at hn hI ⊢
      by_cases hlt : n < l.length
      · have hat : (l.map dPr)[n]? = some (.tup [.bs l[n].1, .bs l[n].2]) := by rw [List.getElem?_map, List.getElem?_eq_getElem hlt]; rfl
        have hx := not_long hany (List.getElem_mem hlt)
        have hs := f_pSplit l[n].1 (by omega)
        by_cases he : l[n].2 = []
        · have he0 : (l[n].2.length : Int) = 0 := by rw [he]; rfl
          have hempty : l.any (·.2.isEmpty) = true := List.any_eq_true.2 ⟨_, List.getElem_mem hlt, by rw [he]; rfl⟩
          repeat
            (first
             | (apply P_assign; (iterate 3 exact rfl)) | (apply P_field; (iterate 6 exact rfl)) | (apply P_loadpd; (iterate 5 exact rfl))
             | (apply P_load; exact rfl; (first | exact I0 | exact I1 | exact I2 | exact I3 | exact I4 | exact I5 | exact I6); (iterate 4 exact rfl))
             | (apply P_cmp (b := true); (iterate 2 exact rfl); (focus (first | (simp [cmpI]; done) | (simp [cmpI]; omega))); (iterate 2 exact rfl)) | (apply P_lenbs; (iterate 4 exact rfl))
             | (apply P_index; (iterate 4 exact rfl); (focus (first | exact ⟨by decide, rfl⟩ | (refine ⟨by omega, ?_⟩; rw [Int.toNat_natCast]; assumption))); (iterate 2 exact rfl))
             | (apply P_alloc; exact rfl; exact rfl; exact rfl; intro _) | (apply P_store; exact rfl; (focus (repeat first | exact .z | apply SetAt.s | apply SetAtF.s)); (iterate 4 exact rfl)) | apply EL.nil
             | ((with_reducible apply EK.then_normal); apply EK.code) | (apply EC.cond_true; exact rfl)
             | (with_reducible first | apply EC.seq | apply EC.region | apply EC.skip | apply EC.label | apply EC.block | apply EC.exit | apply EC.ret | apply EK.in_normal | apply EK.in_same | apply EK.in_ret | apply EK.then_ret | apply EK.then_exit))
          refine EK.ret2 rfl rfl rfl ?_
          rw [if_pos hempty]
        · have he0 : ¬ (l[n].2.length : Int) = 0 := fun h => he (List.eq_nil_of_length_eq_zero (by omega))
          repeat
            (first
             | (apply P_field; (iterate 6 exact rfl)) | (apply P_loadpd; (iterate 5 exact rfl))
             | (apply P_load; exact rfl; (first | exact I0 | exact I1 | exact I2 | exact I3 | exact I4 | exact I5 | exact I6); (iterate 4 exact rfl))
             | (apply P_cmp (b := true); (iterate 2 exact rfl); (focus (first | (simp [cmpI]; done) | (simp [cmpI]; omega))); (iterate 2 exact rfl))
             | (apply P_cmp (b := false); (iterate 2 exact rfl); (focus (first | (simp [cmpI]; done) | (simp [cmpI]; omega))); (iterate 2 exact rfl)) | (apply P_lenbs; (iterate 4 exact rfl))
             | (apply P_index; (iterate 4 exact rfl); (focus (first | exact ⟨by decide, rfl⟩ | (refine ⟨by omega, ?_⟩; rw [Int.toNat_natCast]; assumption))); (iterate 2 exact rfl))
             | (apply P_alloc; exact rfl; exact rfl; exact rfl; intro _) | (apply P_store; exact rfl; (focus (repeat first | exact .z | apply SetAt.s | apply SetAtF.s)); (iterate 4 exact rfl)) | apply EL.nil
             | ((with_reducible apply EK.then_normal); apply EK.code) | (apply EC.cond_true; exact rfl) | (apply EC.cond_false; exact rfl)
             | (with_reducible first | apply EC.seq | apply EC.region | apply EC.skip | apply EC.label | apply EC.block | apply EC.exit | apply EC.ret | apply EK.in_normal | apply EK.in_same | apply EK.in_ret | apply EK.then_ret | apply EK.then_exit))
          have hm : ((l.take n).map fun x => dPr (sp x)).length = n := by rw [List.length_map, List.length_take]; omega
          have hnx : (l.take (n + 1)).map (fun x => dPr (sp x)) = (l.take n).map (fun x => dPr (sp x)) ++ [.tup [.bs (split l[n].1), .bs l[n].2]] := by rw [List.take_succ_eq_append_getElem hlt, List.map_append]; rfl
          have hIx : (l.take (n + 1)).any (·.2.isEmpty) = false := by
            rw [List.take_succ_eq_append_getElem hlt, List.any_append, hI, Bool.false_or, List.any_cons, List.any_nil, Bool.or_false]
            cases hv : l[n].2 with
            | nil => exact absurd hv he
            | cons _ _ => rfl
          refine EC.le (Le.pick [1, 0] [_, _] rfl (by decide) rfl) ?_
          refine EC.drawC 9 [0, 1, 2, 4, 5] [3, 6, 7, 8] [_] _ (by kernel_rfl) (by kernel_rfl) rfl ?_
          simp only [pickL, List.filterMap_cons, List.filterMap_nil, List.getElem?_cons_zero, List.getElem?_cons_succ]
          repeat
            (first
             | (apply H_move; (iterate 3 exact rfl)) | (apply H_field; (iterate 6 exact rfl))
             | (apply H_load; exact rfl; (first | exact I0 | exact I1 | exact I2 | exact I3 | exact I4 | exact I5 | exact I6); (iterate 4 exact rfl)))
          refine EM.nil ?_
          repeat (first | rw [List.cons_append] | rw [List.nil_append])
          refine CH.cut 3 ?_
          simp only [List.take_succ_cons, List.take_zero, List.drop_succ_cons, List.drop_zero]
          repeat
            (first
             | (apply H_call (hs); exact rfl; (focus (repeat first | exact RefineL.refl _ _ | exact RL.nil | exact Rf.same | exact Rf.bs0 | exact Rf.sl0 | (apply Rf.fact; (focus (simp; done)); exact rfl) | apply Rf.tup | apply RL.cons)); (focus (intro _ _; simp [go_sem]; done)); (iterate 2 exact rfl))
             | (apply H_build; (iterate 7 exact rfl)) | (apply H_lit; (iterate 9 exact rfl)))
          refine EM.nil ?_
          repeat (first | rw [List.cons_append] | rw [List.nil_append])
          refine CH.mut (os := [_]) (rest := []) rfl rfl (m_append rfl rfl rfl rfl rfl (by rw [hm]; constructor <;> (simp; omega))) ?_
          rintro _ _ ⟨v', rfl, rfl⟩
          try simp only [St.put]
          repeat (first | rw [List.cons_append] | rw [List.nil_append])
          refine CH.nil ?_
          try simp only [List.drop_succ_cons, List.drop_zero]
          repeat
            (first
             | (apply P_move; (iterate 3 exact rfl)) | (apply P_assign; (iterate 3 exact rfl)) | (apply P_ar; (iterate 3 exact rfl); (focus omega); (focus omega); (iterate 2 exact rfl)) | apply EL.nil
             | ((with_reducible apply EK.then_normal); apply EK.code)
             | (with_reducible first | apply EC.seq | apply EC.region | apply EC.skip | apply EC.label | apply EC.block | apply EC.exit | apply EC.ret | apply EK.in_normal | apply EK.in_same | apply EK.in_ret | apply EK.then_ret | apply EK.then_exit))
          refine EK.again ⟨(v', n + 1), hlt, hIx⟩ (by dsimp only; omega) ?_
          dsimp only
          rw [hnx]
          simp only [Int.natCast_add]
          exact (Le.keep (by repeat first | exact trivial | refine ⟨rfl, ?_⟩) (by repeat first | exact List.nil_sublist _ | apply List.Sublist.cons_cons | apply List.Sublist.cons) (by simp))
      · obtain rfl : n = l.length := by omega
        have hne : l.any (·.2.isEmpty) = false := by rwa [List.take_length] at hI
        have hrow : (l.take l.length).map (fun x => dPr (sp x)) = (l.map sp).map dPr := by rw [List.take_length, List.map_map]; rfl
        rw [hrow]
        have hso := sort_pair rv (l.map sp) (by rw [List.length_map]; omega)
        simp only [hne, Bool.false_eq_true, if_false]
        repeat
          (first
           | (apply P_callM (os := [.row rv 162 2 ((l.map sp).map dPr)]) hso; (iterate 2 exact rfl); exact RefineL.refl _ _; (focus (intro _ _; simp [go_sem]; done)); (iterate 2 exact rfl); rintro _ _ ⟨rfl, qs, hp, hq, rfl⟩; refine EL.le (Le.freeze (pre := []) rfl) ?_; refine EL.le (Le.refine (t := 4) rfl (Rf.fact List.mem_cons_self rfl)) ?_)
           | (apply P_move; (iterate 3 exact rfl)) | (apply P_assign; (iterate 3 exact rfl))
           | (apply P_cmp (b := false); (iterate 2 exact rfl); (focus (first | (simp [cmpI]; done) | (simp [cmpI]; omega))); (iterate 2 exact rfl)) | apply EL.nil
           | ((with_reducible apply EK.then_normal); apply EK.code) | (apply EC.cond_false; exact rfl)
           | (with_reducible first | apply EC.seq | apply EC.region | apply EC.skip | apply EC.label | apply EC.block | apply EC.exit | apply EC.ret | apply EK.in_normal | apply EK.in_same | apply EK.in_ret | apply EK.then_ret | apply EK.then_exit))
        have hql : qs.length = l.length := by rw [hp.length_eq, List.length_map]
        have hqd : (qs.map dPr).length = qs.length := by rw [List.length_map]
        refine EC.loop (ι := {n : Nat // n ≤ qs.length ∧ ∀ j (hj : j + 1 < qs.length), j < n → qs[j].1 ≠ qs[j + 1].1})
          (fun n => ⟨[(7, .val (.v (.int .i64 ((n.1 + 1 : Nat) : Int)))), (4, .val (.sl 2 (qs.map dPr)))], [], []⟩)
          (fun n => qs.length - n.1) ⟨0, by omega, fun j _ h => absurd h (Nat.not_lt_zero _)⟩ ?_ ?_
        · exact (Le.keep (by repeat first | exact trivial | refine ⟨rfl, ?_⟩) (by repeat first | exact List.nil_sublist _ | apply List.Sublist.cons_cons | apply List.Sublist.cons) (by simp))
        rintro ⟨n, hn, hI⟩
        dsimp only
        by_cases hlt : n + 1 < qs.length
        · have hat1 : (qs.map dPr)[n]? = some (.tup [.bs qs[n].1, .bs qs[n].2]) := by rw [List.getElem?_map, List.getElem?_eq_getElem (by omega)]; rfl
          have hat2 : (qs.map dPr)[n + 1]? = some (.tup [.bs qs[n + 1].1, .bs qs[n + 1].2]) := by rw [List.getElem?_map, List.getElem?_eq_getElem hlt]; rfl
          have hE := f_EqualT qs[n].1 qs[n + 1].1
          by_cases heq : qs[n].1 = qs[n + 1].1
          · rw [show (qs[n].1 == qs[n + 1].1) = true by simpa using heq] at hE
            repeat
              (first
               | (apply P_move; (iterate 3 exact rfl)) | (apply P_cmp (b := true); (iterate 2 exact rfl); (focus (first | (simp [cmpI]; done) | (simp [cmpI]; omega))); (iterate 2 exact rfl))
               | (apply P_lensl; (iterate 4 exact rfl)) | apply EL.nil | ((with_reducible apply EK.then_normal); apply EK.code) | (apply EC.cond_true; exact rfl)
               | (with_reducible first | apply EC.seq | apply EC.region | apply EC.skip | apply EC.label | apply EC.block | apply EC.exit | apply EC.ret | apply EK.in_normal | apply EK.in_same | apply EK.in_ret | apply EK.then_ret | apply EK.then_exit))
            refine EC.draw 12 (by kernel_rfl) ?_
            simp only [List.take_succ_cons, List.take_zero, List.drop_succ_cons, List.drop_zero]
            repeat
              (first
               | (apply H_call (hE); exact rfl; (focus (repeat first | exact RefineL.refl _ _ | exact RL.nil | exact Rf.same | exact Rf.bs0 | exact Rf.sl0 | (apply Rf.fact; (focus (simp; done)); exact rfl) | apply Rf.tup | apply RL.cons)); (focus (intro _ _; simp [go_sem]; done)); (iterate 2 exact rfl))
               | (apply H_index; (iterate 4 exact rfl); exact ⟨by omega, by rw [show (((n + 1 : Nat) : Int) - 1).toNat = n by omega]; exact hat1⟩; (iterate 2 exact rfl)) | (apply H_move; (iterate 3 exact rfl))
               | (apply H_fieldpd; (iterate 7 exact rfl)) | (apply H_loadpd; (iterate 5 exact rfl)) | (apply H_ar; (iterate 3 exact rfl); (focus omega); (focus omega); (iterate 2 exact rfl))
               | (apply H_index; (iterate 4 exact rfl); (focus (first | exact ⟨by decide, rfl⟩ | (refine ⟨by omega, ?_⟩; rw [Int.toNat_natCast]; assumption))); (iterate 2 exact rfl))
               | ((with_reducible apply EH.nil); exact rfl))
            repeat
              (first
               | (apply P_assign; (iterate 3 exact rfl)) | apply EL.nil | ((with_reducible apply EK.then_normal); apply EK.code) | (apply EC.cond_true; exact rfl)
               | (with_reducible first | apply EC.seq | apply EC.region | apply EC.skip | apply EC.label | apply EC.block | apply EC.exit | apply EC.ret | apply EK.in_normal | apply EK.in_same | apply EK.in_ret | apply EK.then_ret | apply EK.then_exit))
            refine EK.ret2 rfl rfl rfl ?_
            rw [if_neg]
            intro hnd
            have h3 := (hp.map (·.1)).nodup_iff.2 hnd
            have h4 := (List.getElem_inj (h₀ := by rw [List.length_map]; omega) (h₁ := by rw [List.length_map]; exact hlt) h3 (i := n) (j := n + 1)).1 (by simpa using heq)
            omega
          · rw [show (qs[n].1 == qs[n + 1].1) = false by simpa using heq] at hE
            repeat
              (first
               | (apply P_move; (iterate 3 exact rfl)) | (apply P_cmp (b := true); (iterate 2 exact rfl); (focus (first | (simp [cmpI]; done) | (simp [cmpI]; omega))); (iterate 2 exact rfl))
               | (apply P_lensl; (iterate 4 exact rfl)) | apply EL.nil | ((with_reducible apply EK.then_normal); apply EK.code) | (apply EC.cond_true; exact rfl)
               | (with_reducible first | apply EC.seq | apply EC.region | apply EC.skip | apply EC.label | apply EC.block | apply EC.exit | apply EC.ret | apply EK.in_normal | apply EK.in_same | apply EK.in_ret | apply EK.then_ret | apply EK.then_exit))
            refine EC.draw 12 (by kernel_rfl) ?_
            simp only [List.take_succ_cons, List.take_zero, List.drop_succ_cons, List.drop_zero]
            repeat
              (first
               | (apply H_call (hE); exact rfl; (focus (repeat first | exact RefineL.refl _ _ | exact RL.nil | exact Rf.same | exact Rf.bs0 | exact Rf.sl0 | (apply Rf.fact; (focus (simp; done)); exact rfl) | apply Rf.tup | apply RL.cons)); (focus (intro _ _; simp [go_sem]; done)); (iterate 2 exact rfl))
               | (apply H_index; (iterate 4 exact rfl); exact ⟨by omega, by rw [show (((n + 1 : Nat) : Int) - 1).toNat = n by omega]; exact hat1⟩; (iterate 2 exact rfl)) | (apply H_move; (iterate 3 exact rfl))
               | (apply H_fieldpd; (iterate 7 exact rfl)) | (apply H_loadpd; (iterate 5 exact rfl)) | (apply H_ar; (iterate 3 exact rfl); (focus omega); (focus omega); (iterate 2 exact rfl))
               | (apply H_index; (iterate 4 exact rfl); (focus (first | exact ⟨by decide, rfl⟩ | (refine ⟨by omega, ?_⟩; rw [Int.toNat_natCast]; assumption))); (iterate 2 exact rfl))
               | ((with_reducible apply EH.nil); exact rfl))
            repeat
              (first
               | (apply P_move; (iterate 3 exact rfl)) | (apply P_assign; (iterate 3 exact rfl)) | (apply P_ar; (iterate 3 exact rfl); (focus omega); (focus omega); (iterate 2 exact rfl)) | apply EL.nil
               | ((with_reducible apply EK.then_normal); apply EK.code) | (apply EC.cond_false; exact rfl)
               | (with_reducible first | apply EC.seq | apply EC.region | apply EC.skip | apply EC.label | apply EC.block | apply EC.exit | apply EC.ret | apply EK.in_normal | apply EK.in_same | apply EK.in_ret | apply EK.then_ret | apply EK.then_exit))
            refine EK.again ⟨n + 1, by omega, fun j hj hjn => ?_⟩ (by dsimp only; omega) ?_
            · rcases Nat.lt_or_ge j n with h | h
              · exact hI j hj h
              · obtain rfl : j = n := by omega
                exact heq
            dsimp only
            simp only [Int.natCast_add]
            exact (Le.keep (by repeat first | exact trivial | refine ⟨rfl, ?_⟩) (by repeat first | exact List.nil_sublist _ | apply List.Sublist.cons_cons | apply List.Sublist.cons) (by simp))
        · have hnd := adj_nodup hq fun j hj => hI j hj (by omega)
          have hnd2 : ((l.map sp).map (·.1)).Nodup := (hp.map (·.1)).nodup_iff.1 hnd
          have hqs := srt_eq hp hq hnd2
          repeat
            (first
             | (apply P_move; (iterate 3 exact rfl)) | (apply P_assign; (iterate 3 exact rfl))
             | (apply P_cmp (b := false); (iterate 2 exact rfl); (focus (first | (simp [cmpI]; done) | (simp [cmpI]; omega))); (iterate 2 exact rfl)) | (apply P_lensl; (iterate 4 exact rfl)) | apply EL.nil
             | ((with_reducible apply EK.then_normal); apply EK.code) | (apply EC.cond_false; exact rfl)
             | (with_reducible first | apply EC.seq | apply EC.region | apply EC.skip | apply EC.label | apply EC.block | apply EC.exit | apply EC.ret | apply EK.in_normal | apply EK.in_same | apply EK.in_ret | apply EK.then_ret | apply EK.then_exit))
          refine EK.ret2 rfl rfl rfl ?_
          rw [if_pos hnd2, hqs]
end E
end Go.Proofs.Ytmlajcbabimkjaa
/-
  shape's Item, Bytes, Ref, Sum.
  Conditions: none.
-/
namespace Go.Proofs.Ytmlajcbabimkjaa
set_option linter.unusedVariables false
open Go.RowKit Mono Rlp
namespace E
theorem bin_ifc (T : TypeId) (d : D) : Bin .eql 80 (.ifc T d) (.v .nilIface) (.bool false) := by
  refine ⟨rfl, fun ok w p q hp hq => ?_⟩
  obtain rfl := (readV_v.1 hq).2
  obtain ⟨cs, h1, rfl⟩ := hp
  rw [Reads] at h1
  obtain ⟨cs', rfl, _⟩ := h1
  exact ⟨fun x y => by simp [eqGuard, form, D.agg], run_eql_held_nil _ _ _ _ (by kernel_rfl)⟩
theorem bin_inil : Bin .eql 80 (.v .nilIface) (.v .nilIface) (.bool true) := by
  refine ⟨rfl, fun ok w p q hp hq => ?_⟩
  obtain rfl := (readV_v.1 hp).2
  obtain rfl := (readV_v.1 hq).2
  exact ⟨fun x y => by cases x <;> cases y <;> kernel_rfl, by kernel_rfl⟩
theorem dT_ifc {t : Tn} (h : t.isNil = false) : ∃ T d, dT t = .ifc T d ∧ Nat.beq T 125 = false := by
  cases t with
  | nil => cases h
  | leaf p v => exact ⟨_, _, by rw [dT], rfl⟩
  | ext p k => exact ⟨_, _, by rw [dT], rfl⟩
  | br ks v => exact ⟨_, _, by rw [dT], rfl⟩
set_option maxRecDepth 20000 in
set_option maxHeartbeats 4000000 in
theorem f_Bytes_of (t : Tn) (h : Fn 99 [dT t] (· = .val (dItem (itemT t)))) : Fn 64 [dT t] (· = .val (.bs (pkB (itemT t)))) := by
  have h1 := f_Pack (itemT t)
  unfold pkB
  refine Fn.walk 12 Try.func64 rfl Try.ntmps64 (by simp) fun X => ?_
  cases hp : packed (itemT t) with
  | none =>
    rw [hp] at h1
    repeat
      (first
       | (apply P_call (h); exact rfl; (focus (repeat first | exact RefineL.refl _ _ | exact RL.nil | exact Rf.same | exact Rf.bs0 | exact Rf.sl0 | (apply Rf.fact; (focus (simp; done)); exact rfl) | apply Rf.tup | apply RL.cons)); (focus (intro _ _; simp [go_sem]; done)); (iterate 2 exact rfl))
       | (apply P_call (h1); exact rfl; (focus (repeat first | exact RefineL.refl _ _ | exact RL.nil | exact Rf.same | exact Rf.bs0 | exact Rf.sl0 | (apply Rf.fact; (focus (simp; done)); exact rfl) | apply Rf.tup | apply RL.cons)); (focus (intro _ _; simp [go_sem]; done)); (iterate 2 exact rfl))
       | (apply P_move; (iterate 3 exact rfl)) | (apply P_assign; (iterate 3 exact rfl)) | (apply P_extract; (iterate 4 exact rfl)) | apply EL.nil | ((with_reducible apply EK.then_normal); apply EK.code)
       | (with_reducible first | apply EC.seq | apply EC.region | apply EC.skip | apply EC.label | apply EC.block | apply EC.exit | apply EC.ret | apply EK.in_normal | apply EK.in_same | apply EK.in_ret | apply EK.then_ret | apply EK.then_exit))
    refine EK.ret1r rfl rfl ?_ rfl
    (repeat first | exact RefineL.refl _ _ | exact RL.nil | exact Rf.same | exact Rf.bs0 | exact Rf.sl0 | (apply Rf.fact; (focus (simp; done)); exact rfl) | apply Rf.tup | apply RL.cons)
  | some b =>
    rw [hp] at h1
    repeat
      (first
       | (apply P_call (h); exact rfl; (focus (repeat first | exact RefineL.refl _ _ | exact RL.nil | exact Rf.same | exact Rf.bs0 | exact Rf.sl0 | (apply Rf.fact; (focus (simp; done)); exact rfl) | apply Rf.tup | apply RL.cons)); (focus (intro _ _; simp [go_sem]; done)); (iterate 2 exact rfl))
       | (apply P_call (h1); exact rfl; (focus (repeat first | exact RefineL.refl _ _ | exact RL.nil | exact Rf.same | exact Rf.bs0 | exact Rf.sl0 | (apply Rf.fact; (focus (simp; done)); exact rfl) | apply Rf.tup | apply RL.cons)); (focus (intro _ _; simp [go_sem]; done)); (iterate 2 exact rfl))
       | (apply P_move; (iterate 3 exact rfl)) | (apply P_assign; (iterate 3 exact rfl)) | (apply P_extract; (iterate 4 exact rfl)) | apply EL.nil | ((with_reducible apply EK.then_normal); apply EK.code)
       | (with_reducible first | apply EC.seq | apply EC.region | apply EC.skip | apply EC.label | apply EC.block | apply EC.exit | apply EC.ret | apply EK.in_normal | apply EK.in_same | apply EK.in_ret | apply EK.then_ret | apply EK.then_exit))
    exact EK.ret1 rfl rfl rfl
set_option maxRecDepth 20000 in
set_option maxHeartbeats 4000000 in
theorem f_Ref_of (t : Tn) (h : t.isNil = false → Fn 99 [dT t] (· = .val (dItem (itemT t)))) : Fn 121 [dT t] (· = .val (dItem (refT t))) := by
  unfold refT
  cases hn : t.isNil with
  | true =>
    cases t with
    | nil =>
      rw [if_pos rfl]
      have hb := bin_inil
      have e : dT Tn.nil = .v .nilIface := rfl
      rw [e]
      refine Fn.walk 31 Try.func121 rfl Try.ntmps121 (by simp) fun X => ?_
      repeat
        (first
         | (apply P_bin; (iterate 2 exact rfl); exact hb; (iterate 2 exact rfl)) | (apply P_move; (iterate 3 exact rfl)) | (apply P_build; (iterate 7 exact rfl))
         | (apply P_alloc; exact rfl; exact rfl; exact rfl; intro _) | (apply P_store; exact rfl; (focus (repeat first | exact .z | apply SetAt.s | apply SetAtF.s)); (iterate 4 exact rfl)) | apply EL.nil
         | ((with_reducible apply EK.then_normal); apply EK.code) | (apply EC.cond_true; exact rfl)
         | (with_reducible first | apply EC.seq | apply EC.region | apply EC.skip | apply EC.label | apply EC.block | apply EC.exit | apply EC.ret | apply EK.in_normal | apply EK.in_same | apply EK.in_ret | apply EK.then_ret | apply EK.then_exit))
      refine EK.retc1r 0 rfl rfl rfl rfl ?_ rfl
      (repeat first | exact RefineL.refl _ _ | exact RL.nil | exact Rf.same | exact Rf.bs0 | exact Rf.sl0 | (apply Rf.fact; (focus (simp; done)); exact rfl) | apply Rf.tup | apply RL.cons)
    | leaf p v => cases hn
    | ext p k => cases hn
    | br ks v => cases hn
  | false =>
    rw [if_neg (by decide)]
    have h1 := h hn
    have h2 := f_Bytes_of t h1
    obtain ⟨T, d, e, hne⟩ := dT_ifc hn
    rw [e] at h1 h2 ⊢
    have hb := bin_ifc T d
    unfold refI
    refine Fn.walk 31 Try.func121 rfl Try.ntmps121 (by simp) fun X => ?_
    by_cases hl : (pkB (itemT t)).length < 32
    · rw [if_pos hl]
      have hli : ((pkB (itemT t)).length : Int) < 32 := by omega
      generalize itemT t = x at *
      obtain ⟨xb, xl, xs⟩ := x
      rw [dItem] at h1
      repeat
        (first
         | (apply P_bin; (iterate 2 exact rfl); exact hb; (iterate 2 exact rfl)) | (apply P_asNo; exact rfl; exact rfl; exact hne; (iterate 3 exact rfl))
         | (apply P_call (h2); exact rfl; (focus (repeat first | exact RefineL.refl _ _ | exact RL.nil | exact Rf.same | exact Rf.bs0 | exact Rf.sl0 | (apply Rf.fact; (focus (simp; done)); exact rfl) | apply Rf.tup | apply RL.cons)); (focus (intro _ _; simp [go_sem]; done)); (iterate 2 exact rfl))
         | (apply P_call (h1); exact rfl; (focus (repeat first | exact RefineL.refl _ _ | exact RL.nil | exact Rf.same | exact Rf.bs0 | exact Rf.sl0 | (apply Rf.fact; (focus (simp; done)); exact rfl) | apply Rf.tup | apply RL.cons)); (focus (intro _ _; simp [go_sem]; done)); (iterate 2 exact rfl))
         | (apply P_move; (iterate 3 exact rfl)) | (apply P_assign; (iterate 3 exact rfl)) | (apply P_extract; (iterate 4 exact rfl))
         | (apply P_cmp (b := true); (iterate 2 exact rfl); (focus (first | (simp [cmpI]; done) | (simp [cmpI]; omega))); (iterate 2 exact rfl)) | (apply P_lenbs; (iterate 4 exact rfl))
         | (apply P_alloc; exact rfl; exact rfl; exact rfl; intro _) | (apply P_store; exact rfl; (focus (repeat first | exact .z | apply SetAt.s | apply SetAtF.s)); (iterate 4 exact rfl)) | apply EL.nil
         | ((with_reducible apply EK.then_normal); apply EK.code) | (apply EC.cond_true; exact rfl) | (apply EC.cond_false; exact rfl)
         | (with_reducible first | apply EC.seq | apply EC.region | apply EC.skip | apply EC.label | apply EC.block | apply EC.exit | apply EC.ret | apply EK.in_normal | apply EK.in_same | apply EK.in_ret | apply EK.then_ret | apply EK.then_exit))
      refine EK.retc1r 1 rfl rfl rfl rfl ?_ rfl
      (repeat first | exact RefineL.refl _ _ | exact RL.nil | exact Rf.same | exact Rf.bs0 | exact Rf.sl0 | (apply Rf.fact; (focus (simp; done)); exact rfl) | apply Rf.tup | apply RL.cons)
    · rw [if_neg hl]
      have hli : ¬ ((pkB (itemT t)).length : Int) < 32 := by omega
      have h3 := f_kSum1 (pkB (itemT t))
      repeat
        (first
         | (apply P_bin; (iterate 2 exact rfl); exact hb; (iterate 2 exact rfl)) | (apply P_asNo; exact rfl; exact rfl; exact hne; (iterate 3 exact rfl))
         | (apply P_call (h2); exact rfl; (focus (repeat first | exact RefineL.refl _ _ | exact RL.nil | exact Rf.same | exact Rf.bs0 | exact Rf.sl0 | (apply Rf.fact; (focus (simp; done)); exact rfl) | apply Rf.tup | apply RL.cons)); (focus (intro _ _; simp [go_sem]; done)); (iterate 2 exact rfl))
         | (apply P_call (h3); exact rfl; (focus (repeat first | exact RefineL.refl _ _ | exact RL.nil | exact Rf.same | exact Rf.bs0 | exact Rf.sl0 | (apply Rf.fact; (focus (simp; done)); exact rfl) | apply Rf.tup | apply RL.cons)); (focus (intro _ _; simp [go_sem]; done)); (iterate 2 exact rfl))
         | (apply P_move; (iterate 3 exact rfl)) | (apply P_assign; (iterate 3 exact rfl)) | (apply P_extract; (iterate 4 exact rfl))
         | (apply P_cmp (b := false); (iterate 2 exact rfl); (focus (first | (simp [cmpI]; done) | (simp [cmpI]; omega))); (iterate 2 exact rfl)) | (apply P_lenbs; (iterate 4 exact rfl))
         | (apply P_lit; (iterate 9 exact rfl)) | (apply P_alloc; exact rfl; exact rfl; exact rfl; intro _)
         | (apply P_store; exact rfl; (focus (repeat first | exact .z | apply SetAt.s | apply SetAtF.s)); (iterate 4 exact rfl)) | apply EL.nil | ((with_reducible apply EK.then_normal); apply EK.code)
         | (apply EC.cond_false; exact rfl)
         | (with_reducible first | apply EC.seq | apply EC.region | apply EC.skip | apply EC.label | apply EC.block | apply EC.exit | apply EC.ret | apply EK.in_normal | apply EK.in_same | apply EK.in_ret | apply EK.then_ret | apply EK.then_exit))
      refine EL.le (Le.pin (p := 6) (pre := []) rfl rfl) ?_
      repeat
        (first
         | (apply P_slpd sl_word; (iterate 6 exact rfl)) | (apply P_build; (iterate 7 exact rfl))
         | (apply P_store; exact rfl; (focus (repeat first | exact .z | apply SetAt.s | apply SetAtF.s)); (iterate 4 exact rfl)) | apply EL.nil | ((with_reducible apply EK.then_normal); apply EK.code)
         | (with_reducible first | apply EC.seq | apply EC.region | apply EC.skip | apply EC.label | apply EC.block | apply EC.exit | apply EC.ret | apply EK.in_normal | apply EK.in_same | apply EK.in_ret | apply EK.then_ret | apply EK.then_exit))
      refine EK.retc1r 1 rfl rfl rfl rfl ?_ rfl
      (repeat first | exact RefineL.refl _ _ | exact RL.nil | exact Rf.same | exact Rf.bs0 | exact Rf.sl0 | (apply Rf.fact; (focus (simp; done)); exact rfl) | apply Rf.tup | apply RL.cons)
set_option maxRecDepth 20000 in
set_option maxHeartbeats 4000000 in
theorem f_Sum_of (t : Tn) (h : t.isNil = false → Fn 99 [dT t] (· = .val (dItem (itemT t)))) : Fn 33 [dT t] (· = .val (.arr 32 (sumT t))) := by
  unfold sumT
  cases hn : t.isNil with
  | true =>
    cases t with
    | nil =>
      rw [if_pos rfl]
      have hb := bin_inil
      have h1 := f_shEmpty
      have e : dT Tn.nil = .v .nilIface := rfl
      rw [e]
      refine Fn.walk 19 Try.func33 rfl Try.ntmps33 (by simp) fun X => ?_
      repeat
        (first
         | (apply P_bin; (iterate 2 exact rfl); exact hb; (iterate 2 exact rfl))
         | (apply P_call (h1); exact rfl; (focus (repeat first | exact RefineL.refl _ _ | exact RL.nil | exact Rf.same | exact Rf.bs0 | exact Rf.sl0 | (apply Rf.fact; (focus (simp; done)); exact rfl) | apply Rf.tup | apply RL.cons)); (focus (intro _ _; simp [go_sem]; done)); (iterate 2 exact rfl))
         | (apply P_move; (iterate 3 exact rfl)) | (apply P_alloc; exact rfl; exact rfl; exact rfl; intro _)
         | (apply P_store; exact rfl; (focus (repeat first | exact .z | apply SetAt.s | apply SetAtF.s)); (iterate 4 exact rfl)) | apply EL.nil | ((with_reducible apply EK.then_normal); apply EK.code)
         | (apply EC.cond_true; exact rfl)
         | (with_reducible first | apply EC.seq | apply EC.region | apply EC.skip | apply EC.label | apply EC.block | apply EC.exit | apply EC.ret | apply EK.in_normal | apply EK.in_same | apply EK.in_ret | apply EK.then_ret | apply EK.then_exit))
      refine EK.retc1r 0 rfl rfl rfl rfl ?_ rfl
      (repeat first | exact RefineL.refl _ _ | exact RL.nil | exact Rf.same | exact Rf.bs0 | exact Rf.sl0 | (apply Rf.fact; (focus (simp; done)); exact rfl) | apply Rf.tup | apply RL.cons)
    | leaf p v => cases hn
    | ext p k => cases hn
    | br ks v => cases hn
  | false =>
    rw [if_neg (by decide)]
    have h2 := f_Bytes_of t (h hn)
    obtain ⟨T, d, e, hne⟩ := dT_ifc hn
    rw [e] at h2 ⊢
    have hb := bin_ifc T d
    have h3 := f_kSum1 (pkB (itemT t))
    refine Fn.walk 19 Try.func33 rfl Try.ntmps33 (by simp) fun X => ?_
    repeat
      (first
       | (apply P_bin; (iterate 2 exact rfl); exact hb; (iterate 2 exact rfl)) | (apply P_asNo; exact rfl; exact rfl; exact hne; (iterate 3 exact rfl))
       | (apply P_call (h2); exact rfl; (focus (repeat first | exact RefineL.refl _ _ | exact RL.nil | exact Rf.same | exact Rf.bs0 | exact Rf.sl0 | (apply Rf.fact; (focus (simp; done)); exact rfl) | apply Rf.tup | apply RL.cons)); (focus (intro _ _; simp [go_sem]; done)); (iterate 2 exact rfl))
       | (apply P_call (h3); exact rfl; (focus (repeat first | exact RefineL.refl _ _ | exact RL.nil | exact Rf.same | exact Rf.bs0 | exact Rf.sl0 | (apply Rf.fact; (focus (simp; done)); exact rfl) | apply Rf.tup | apply RL.cons)); (focus (intro _ _; simp [go_sem]; done)); (iterate 2 exact rfl))
       | (apply P_move; (iterate 3 exact rfl)) | (apply P_assign; (iterate 3 exact rfl)) | (apply P_extract; (iterate 4 exact rfl)) | (apply P_lit; (iterate 9 exact rfl))
       | (apply P_alloc; exact rfl; exact rfl; exact rfl; intro _) | (apply P_store; exact rfl; (focus (repeat first | exact .z | apply SetAt.s | apply SetAtF.s)); (iterate 4 exact rfl)) | apply EL.nil
       | ((with_reducible apply EK.then_normal); apply EK.code) | (apply EC.cond_false; exact rfl)
       | (with_reducible first | apply EC.seq | apply EC.region | apply EC.skip | apply EC.label | apply EC.block | apply EC.exit | apply EC.ret | apply EK.in_normal | apply EK.in_same | apply EK.in_ret | apply EK.then_ret | apply EK.then_exit))
    refine EK.retc1r 1 rfl rfl rfl rfl ?_ rfl
    (repeat first | exact RefineL.refl _ _ | exact RL.nil | exact Rf.same | exact Rf.bs0 | exact Rf.sl0 | (apply Rf.fact; (focus (simp; done)); exact rfl) | apply Rf.tup | apply RL.cons)
end E
end Go.Proofs.Ytmlajcbabimkjaa
/-
  shape.Item of every node.
  Conditions: none.
-/
namespace Go.Proofs.Ytmlajcbabimkjaa
set_option linter.unusedVariables false
open Go.RowKit Mono Rlp
namespace E
theorem sizes_T (ks : Nat → Tn) (l : List Nat) : D.sizes (l.map fun i => dT (ks i)) = l.length := by
  induction l with
  | nil => rfl
  | cons i l ih => rw [List.map_cons, D.sizes, (dT_one _).1, ih, List.length_cons, Nat.add_comm]
theorem sub_one {d : D} (h : ∃ k : Tn, d = dT k) : d.sub 0 1 false = some d := by
  obtain ⟨k, rfl⟩ := h
  cases k <;> (rw [dT]; simp [D.sub])
theorem sub_ext0 (p : List UInt8) (k : Tn) : (D.tup [.bs p, dT k]).sub 0 1 false = some (.bs p) := by
  simp [D.sub, D.subL, D.size]
theorem sub_ext1 (p : List UInt8) (k : Tn) : (D.tup [.bs p, dT k]).sub 1 1 false = some (dT k) := by
  have := sub_one ⟨k, rfl⟩
  simp [D.sub, D.subL, D.size, (dT_one k).1, this]
theorem sub_br0 {ds : List D} (v : List UInt8) (h : D.sizes ds = 16) : (D.tup [.tup ds, .bs v]).sub 0 16 true = some (.tup ds) := by
  simp [D.sub, D.subL, D.size, D.sizes, h]
theorem sub_br1 {ds : List D} (v : List UInt8) (h : D.sizes ds = 16) : (D.tup [.tup ds, .bs v]).sub 16 1 false = some (.bs v) := by
  simp [D.sub, D.subL, D.size, D.sizes, h]
theorem sub_ks {ds : List D} (h : D.sizes ds = 16) : (D.tup ds).sub 0 16 true = some (.tup ds) := by
  simp [D.sub, h]
set_option maxRecDepth 20000 in
set_option maxHeartbeats 4000000 in
theorem item_leaf (p v : List UInt8) (hp : p.length ≤ 536870912) : Fn 99 [dT (.leaf p v)] (· = .val (dItem (itemT (.leaf p v)))) := by
  have h1 := f_pPack p true hp
  have h2 := f_texts2 (ppk p true) v
  rw [dT, itemT]
  refine Fn.walk 85 Try.func99 rfl Try.ntmps99 (by simp) fun X => ?_
  repeat
    (first
     | (apply P_call (h1); exact rfl; (focus (repeat first | exact RefineL.refl _ _ | exact RL.nil | exact Rf.same | exact Rf.bs0 | exact Rf.sl0 | (apply Rf.fact; (focus (simp; done)); exact rfl) | apply Rf.tup | apply RL.cons)); (focus (intro _ _; simp [go_sem]; done)); (iterate 2 exact rfl))
     | (apply P_call (h2); exact rfl; (focus (repeat first | exact RefineL.refl _ _ | exact RL.nil | exact Rf.same | exact Rf.bs0 | exact Rf.sl0 | (apply Rf.fact; (focus (simp; done)); exact rfl) | apply Rf.tup | apply RL.cons)); (focus (intro _ _; simp [go_sem]; done)); (iterate 2 exact rfl))
     | (apply P_move; (iterate 3 exact rfl)) | (apply P_assign; (iterate 3 exact rfl)) | (apply P_field; (iterate 6 exact rfl)) | (apply P_fieldpd; (iterate 7 exact rfl))
     | (apply P_extract; (iterate 4 exact rfl)) | (apply P_loadpd; (iterate 5 exact rfl))
     | (apply P_load; exact rfl; (first | exact I0 | exact I1 | exact I2 | exact I3 | exact I4 | exact I5 | exact I6); (iterate 4 exact rfl)) | (apply P_build; (iterate 7 exact rfl))
     | (apply P_lit; (iterate 9 exact rfl)) | (apply P_nilckpd; (iterate 3 exact rfl)) | (apply P_asYes; (iterate 4 exact rfl)) | (apply P_alloc; exact rfl; exact rfl; exact rfl; intro _)
     | (apply P_store; exact rfl; (focus (repeat first | exact .z | apply SetAt.s | apply SetAtF.s)); (iterate 4 exact rfl)) | apply EL.nil | ((with_reducible apply EK.then_normal); apply EK.code)
     | (apply EC.cond_true; exact rfl)
     | (with_reducible first | apply EC.seq | apply EC.region | apply EC.skip | apply EC.label | apply EC.block | apply EC.exit | apply EC.ret | apply EK.in_normal | apply EK.in_same | apply EK.in_ret | apply EK.then_ret | apply EK.then_exit))
  refine EK.retc1r 1 rfl rfl rfl rfl ?_ rfl
  (repeat first | exact RefineL.refl _ _ | exact RL.nil | exact Rf.same | exact Rf.bs0 | exact Rf.sl0 | (apply Rf.fact; (focus (simp; done)); exact rfl) | apply Rf.tup | apply RL.cons)
set_option maxRecDepth 20000 in
set_option maxHeartbeats 4000000 in
theorem item_ext (p : List UInt8) (k : Tn) (hp : p.length ≤ 536870912) (hk : Fn 121 [dT k] (· = .val (dItem (refT k)))) : Fn 99 [dT (.ext p k)] (· = .val (dItem (itemT (.ext p k)))) := by
  have h1 := f_pPack p false hp
  have h2 := texts1 (ppk p false)
  have he : itemT (.ext p k) = .mk true [] [.mk false (ppk p false) [], refT k] := by rw [itemT, refT]
  rw [he, dT]
  clear he
  generalize refT k = x at hk ⊢
  obtain ⟨xb, xl, xs⟩ := x
  rw [dItem] at hk
  rw [show dItem (.mk true [] [.mk false (ppk p false) [], .mk xb xl xs]) = .tup [.v (.bool true), .bs [], .sl 3 [dItem (.mk false (ppk p false) []), .tup [.v (.bool xb), .bs xl, .sl 3 (dItems xs)]]] from rfl]
  refine Fn.walk 85 Try.func99 rfl Try.ntmps99 (by simp) fun X => ?_
  repeat
    (first
     | (apply P_call (h1); exact rfl; (focus (repeat first | exact RefineL.refl _ _ | exact RL.nil | exact Rf.same | exact Rf.bs0 | exact Rf.sl0 | (apply Rf.fact; (focus (simp; done)); exact rfl) | apply Rf.tup | apply RL.cons)); (focus (intro _ _; simp [go_sem]; done)); (iterate 2 exact rfl))
     | (apply P_fieldpd; (iterate 4 exact rfl); exact sub_ext0 _ _; (iterate 2 exact rfl)) | (apply P_move; (iterate 3 exact rfl)) | (apply P_assign; (iterate 3 exact rfl))
     | (apply P_extract; (iterate 4 exact rfl)) | (apply P_loadpd; (iterate 5 exact rfl)) | (apply P_build; (iterate 7 exact rfl)) | (apply P_nilckpd; (iterate 3 exact rfl))
     | (apply P_asYes; (iterate 4 exact rfl)) | (apply P_asNo; (iterate 6 exact rfl)) | (apply P_alloc; exact rfl; exact rfl; exact rfl; intro _)
     | (apply P_store; exact rfl; (focus (repeat first | exact .z | apply SetAt.s | apply SetAtF.s)); (iterate 4 exact rfl)) | apply EL.nil | ((with_reducible apply EK.then_normal); apply EK.code)
     | (apply EC.cond_true; exact rfl) | (apply EC.cond_false; exact rfl)
     | (with_reducible first | apply EC.seq | apply EC.region | apply EC.skip | apply EC.label | apply EC.block | apply EC.exit | apply EC.ret | apply EK.in_normal | apply EK.in_same | apply EK.in_ret | apply EK.then_ret | apply EK.then_exit))
  refine EC.drawC 11 [0, 3, 4, 5, 6, 10] [1, 2, 7, 8, 9] [] _ (by kernel_rfl) (by kernel_rfl) rfl ?_
  simp only [pickL, List.filterMap_cons, List.filterMap_nil, List.getElem?_cons_zero, List.getElem?_cons_succ]
  repeat
    (first
     | (apply H_fieldpd; (iterate 4 exact rfl); exact sub_ext1 _ _; (iterate 2 exact rfl)) | (apply H_loadpd; (iterate 2 exact rfl); exact sub_one ⟨_, rfl⟩; (iterate 2 exact rfl))
     | (apply H_move; (iterate 3 exact rfl)) | (apply H_field; (iterate 6 exact rfl)) | (apply H_nilckpd; (iterate 3 exact rfl)))
  refine EM.nil ?_
  repeat (first | rw [List.cons_append] | rw [List.nil_append])
  refine CH.cut 1 ?_
  simp only [List.take_succ_cons, List.take_zero, List.drop_succ_cons, List.drop_zero]
  repeat
    (first
     | (apply H_lit; (iterate 9 exact rfl)))
  refine EM.nil ?_
  repeat (first | rw [List.cons_append] | rw [List.nil_append])
  refine CH.callM (os := []) (rest := []) h2 rfl rfl (RefineL.refl _ _) (by intro _ _; simp [go_sem]) rfl rfl ?_
  rintro _ _ ⟨v, rfl, rfl⟩
  try simp only [St.put]
  repeat (first | rw [List.cons_append] | rw [List.nil_append])
  refine CH.cut 2 ?_
  simp only [List.take_succ_cons, List.take_zero, List.drop_succ_cons, List.drop_zero]
  repeat
    (first
     | (apply H_call (hk); exact rfl; (focus (repeat first | exact RefineL.refl _ _ | exact RL.nil | exact Rf.same | exact Rf.bs0 | exact Rf.sl0 | (apply Rf.fact; (focus (simp; done)); exact rfl) | apply Rf.tup | apply RL.cons)); (focus (intro _ _; simp [go_sem]; done)); (iterate 2 exact rfl))
     | (apply H_lit; (iterate 9 exact rfl)))
  refine EM.nil ?_
  repeat (first | rw [List.cons_append] | rw [List.nil_append])
  refine CH.mut (os := [_]) (rest := []) rfl rfl (m_append rfl rfl rfl rfl rfl (by constructor <;> simp)) ?_
  rintro _ _ ⟨v', rfl, rfl⟩
  try simp only [St.put]
  repeat (first | rw [List.cons_append] | rw [List.nil_append])
  refine CH.nil ?_
  try simp only [List.drop_succ_cons, List.drop_zero]
  refine EL.le (Le.freeze (pre := []) rfl) ?_
  simp only [List.nil_append]
  repeat
    (first
     | (apply P_load; exact rfl; (first | exact I0 | exact I1 | exact I2 | exact I3 | exact I4 | exact I5 | exact I6); (iterate 4 exact rfl))
     | (apply P_store; exact rfl; (focus (repeat first | exact .z | apply SetAt.s | apply SetAtF.s)); (iterate 4 exact rfl)) | apply EL.nil | ((with_reducible apply EK.then_normal); apply EK.code)
     | (with_reducible first | apply EC.seq | apply EC.region | apply EC.skip | apply EC.label | apply EC.block | apply EC.exit | apply EC.ret | apply EK.in_normal | apply EK.in_same | apply EK.in_ret | apply EK.then_ret | apply EK.then_exit))
  refine EK.retc1r 1 rfl rfl rfl rfl ?_ rfl
  (repeat first | exact RefineL.refl _ _ | exact RL.nil | exact Rf.same | exact Rf.bs0 | exact Rf.sl0 | (apply Rf.fact; (focus (simp; done)); exact rfl) | apply Rf.tup | apply RL.cons)
set_option maxRecDepth 20000 in
set_option maxHeartbeats 8000000 in
theorem item_br (ks : Nat → Tn) (v : List UInt8) (hk : ∀ i, Fn 121 [dT (ks i)] (· = .val (dItem (refT (ks i))))) : Fn 99 [dT (.br ks v)] (· = .val (dItem (itemT (.br ks v)))) := by
  have h2 := f_texts1 v
  have he : itemT (.br ks v) = .mk true [] ((List.range 16).map (fun i => refT (ks i)) ++ [.mk false v []]) := by rw [itemT]; rfl
  have hsz : D.sizes ((List.range 16).map fun i => dT (ks i)) = 16 := by rw [sizes_T, List.length_range]
  have hat : ∀ i, i < 16 → ((List.range 16).map fun i => dT (ks i))[i]? = some (dT (ks i)) := fun i hi => by rw [List.getElem?_map, List.getElem?_range hi]; rfl
  have hall : ∀ d ∈ ((List.range 16).map fun i => dT (ks i)), d.size = 1 ∧ d.agg = false := fun d hd => by
    obtain ⟨i, _, rfl⟩ := List.mem_map.1 hd
    exact dT_one _
  have hlen : ((List.range 16).map fun i => dT (ks i)).length = 16 := by simp
  rw [he, dT, show dItem (.mk true [] ((List.range 16).map (fun i => refT (ks i)) ++ [.mk false v []])) = .tup [.v (.bool true), .bs [], .sl 3 ((List.range 16).map (fun i => dItem (refT (ks i))) ++ [dItem (.mk false v [])])] from by rw [dItem, dItems_map, List.map_append, List.map_map]; rfl]
  clear he
  generalize hE : ((List.range 16).map fun i => dT (ks i)) = K at *
  refine Fn.walk 85 Try.func99 rfl Try.ntmps99 (by simp) fun X => ?_
  repeat
    (first
     | (apply P_fieldpd; (iterate 4 exact rfl); exact sub_br0 _ hsz; (iterate 2 exact rfl)) | (apply P_loadpd; (iterate 2 exact rfl); exact sub_ks hsz; (iterate 2 exact rfl))
     | (apply P_move; (iterate 3 exact rfl)) | (apply P_assign; (iterate 3 exact rfl)) | (apply P_extract; (iterate 4 exact rfl)) | (apply P_build; (iterate 7 exact rfl))
     | (apply P_nilckpd; (iterate 3 exact rfl)) | (apply P_asYes; (iterate 4 exact rfl)) | (apply P_asNo; (iterate 6 exact rfl)) | (apply P_alloc; exact rfl; exact rfl; exact rfl; intro _)
     | (apply P_store; exact rfl; (focus (repeat first | exact .z | apply SetAt.s | apply SetAtF.s)); (iterate 4 exact rfl)) | apply EL.nil | ((with_reducible apply EK.then_normal); apply EK.code)
     | (apply EC.cond_true; exact rfl) | (apply EC.cond_false; exact rfl)
     | (with_reducible first | apply EC.seq | apply EC.region | apply EC.skip | apply EC.label | apply EC.block | apply EC.exit | apply EC.ret | apply EK.in_normal | apply EK.in_same | apply EK.in_ret | apply EK.then_ret | apply EK.then_exit))
  rename_i g1 g
  refine EC.le (Le.row 41 3) ?_
  refine EC.loop (ι := {p : Value × Nat // p.2 ≤ 16})
    (fun p => ⟨[(63, .val (.v (.int .i64 (p.1.2 : Int)))), (62, .val (.tup K)), (10, .val (.pd (.tup [.tup K, .bs v]))), (3, .val (.v (.pointer (some ⟨g, 0, none⟩)))), (2, .val (.v (.pointer (some ⟨g1, 0, none⟩))))],
      [.row p.1.1 41 3 ((List.range p.1.2).map fun i => dItem (refT (ks i))), .var g 41 (.tup [.v (.bool true), .v (.slice none 0 0), .v p.1.1]), .var g1 41 (.tup [.v (.bool false), .v (.slice none 0 0), .v (.slice none 0 0)])], []⟩)
    (fun p => 16 - p.1.2) ⟨(.slice none 0 0, 0), by decide⟩ ?_ ?_
  · exact (Le.keep (by repeat first | exact trivial | refine ⟨rfl, ?_⟩) (by repeat first | exact List.nil_sublist _ | apply List.Sublist.cons_cons | apply List.Sublist.cons) (by simp))
  rintro ⟨⟨rv, n⟩, hn⟩
  dsimp only at hn ⊢
  have hl : ((List.range n).map fun i => dItem (refT (ks i))).length = n := by simp
  by_cases hlt : n < 16
  · have hx := hk n
    have hnx : (List.range (n + 1)).map (fun i => dItem (refT (ks i))) = (List.range n).map (fun i => dItem (refT (ks i))) ++ [dItem (refT (ks n))] := by rw [List.range_succ, List.map_append]; rfl
    cases hr : refT (ks n) with
    | mk xb xl xs =>
      rw [hr, dItem] at hx
      rw [hr, dItem] at hnx
      repeat
        (first
         | (apply P_cmp (b := true); (iterate 2 exact rfl); (focus (first | (simp [cmpI]; done) | (simp [cmpI]; omega))); (iterate 2 exact rfl)) | apply EL.nil
         | ((with_reducible apply EK.then_normal); apply EK.code) | (apply EC.cond_true; exact rfl)
         | (with_reducible first | apply EC.seq | apply EC.region | apply EC.skip | apply EC.label | apply EC.block | apply EC.exit | apply EC.ret | apply EK.in_normal | apply EK.in_same | apply EK.in_ret | apply EK.then_ret | apply EK.then_exit))
      refine ES.still (g_indextup (k := (n : Int)) (d := dT (ks n)) rfl rfl rfl rfl rfl (fun w => by kernel_rfl) hall hlen ⟨by omega, by rw [Int.toNat_natCast]; exact hat n hlt⟩) rfl rfl rfl ?_
      repeat
        (first
         | (apply P_assign; (iterate 3 exact rfl)) | apply EL.nil | ((with_reducible apply EK.then_normal); apply EK.code))
      refine EC.drawC 7 [0, 1, 2, 6] [3, 4, 5] [_] _ (by kernel_rfl) (by kernel_rfl) rfl ?_
      simp only [pickL, List.filterMap_cons, List.filterMap_nil, List.getElem?_cons_zero, List.getElem?_cons_succ]
      repeat
        (first
         | (apply H_move; (iterate 3 exact rfl)) | (apply H_field; (iterate 6 exact rfl))
         | (apply H_load; exact rfl; (first | exact I0 | exact I1 | exact I2 | exact I3 | exact I4 | exact I5 | exact I6); (iterate 4 exact rfl)))
      refine EM.nil ?_
      repeat (first | rw [List.cons_append] | rw [List.nil_append])
      refine CH.cut 2 ?_
      simp only [List.take_succ_cons, List.take_zero, List.drop_succ_cons, List.drop_zero]
      repeat
        (first
         | (apply H_call (hx); exact rfl; (focus (repeat first | exact RefineL.refl _ _ | exact RL.nil | exact Rf.same | exact Rf.bs0 | exact Rf.sl0 | (apply Rf.fact; (focus (simp; done)); exact rfl) | apply Rf.tup | apply RL.cons)); (focus (intro _ _; simp [go_sem]; done)); (iterate 2 exact rfl))
         | (apply H_lit; (iterate 9 exact rfl)))
      refine EM.nil ?_
      repeat (first | rw [List.cons_append] | rw [List.nil_append])
      refine CH.mut (os := [_]) (rest := []) rfl rfl (m_append rfl rfl rfl rfl rfl (by rw [hl]; constructor <;> (simp; omega))) ?_
      rintro _ _ ⟨v', rfl, rfl⟩
      try simp only [St.put]
      repeat (first | rw [List.cons_append] | rw [List.nil_append])
      refine CH.nil ?_
      try simp only [List.drop_succ_cons, List.drop_zero]
      repeat
        (first
         | (apply P_move; (iterate 3 exact rfl)) | (apply P_ar; (iterate 3 exact rfl); (focus omega); (focus omega); (iterate 2 exact rfl))
         | (apply P_store; exact rfl; (focus (repeat first | exact .z | apply SetAt.s | apply SetAtF.s)); (iterate 4 exact rfl)) | apply EL.nil | ((with_reducible apply EK.then_normal); apply EK.code)
         | (with_reducible first | apply EC.seq | apply EC.region | apply EC.skip | apply EC.label | apply EC.block | apply EC.exit | apply EC.ret | apply EK.in_normal | apply EK.in_same | apply EK.in_ret | apply EK.then_ret | apply EK.then_exit))
      refine EK.again ⟨(v', n + 1), hlt⟩ (by dsimp only; omega) ?_
      dsimp only
      rw [hnx]
      simp only [Int.natCast_add]
      exact (Le.keep (by repeat first | exact trivial | refine ⟨rfl, ?_⟩) (by repeat first | exact List.nil_sublist _ | apply List.Sublist.cons_cons | apply List.Sublist.cons) (by simp))
  · obtain rfl : n = 16 := by omega
    repeat
      (first
       | (apply P_cmp (b := false); (iterate 2 exact rfl); (focus (first | (simp [cmpI]; done) | (simp [cmpI]; omega))); (iterate 2 exact rfl)) | apply EL.nil
       | ((with_reducible apply EK.then_normal); apply EK.code) | (apply EC.cond_false; exact rfl)
       | (with_reducible first | apply EC.seq | apply EC.region | apply EC.skip | apply EC.label | apply EC.block | apply EC.exit | apply EC.ret | apply EK.in_normal | apply EK.in_same | apply EK.in_ret | apply EK.then_ret | apply EK.then_exit))
    refine EC.drawC 10 [0, 1, 2, 3, 4, 5, 9] [6, 7, 8] [_] _ (by kernel_rfl) (by kernel_rfl) rfl ?_
    simp only [pickL, List.filterMap_cons, List.filterMap_nil, List.getElem?_cons_zero, List.getElem?_cons_succ]
    repeat
      (first
       | (apply H_fieldpd; (iterate 4 exact rfl); exact sub_br1 _ hsz; (iterate 2 exact rfl)) | (apply H_move; (iterate 3 exact rfl)) | (apply H_field; (iterate 6 exact rfl))
       | (apply H_loadpd; (iterate 5 exact rfl)) | (apply H_load; exact rfl; (first | exact I0 | exact I1 | exact I2 | exact I3 | exact I4 | exact I5 | exact I6); (iterate 4 exact rfl))
       | (apply H_nilckpd; (iterate 3 exact rfl)))
    refine EM.nil ?_
    repeat (first | rw [List.cons_append] | rw [List.nil_append])
    refine CH.cut 2 ?_
    simp only [List.take_succ_cons, List.take_zero, List.drop_succ_cons, List.drop_zero]
    repeat
      (first
       | (apply H_call (h2); exact rfl; (focus (repeat first | exact RefineL.refl _ _ | exact RL.nil | exact Rf.same | exact Rf.bs0 | exact Rf.sl0 | (apply Rf.fact; (focus (simp; done)); exact rfl) | apply Rf.tup | apply RL.cons)); (focus (intro _ _; simp [go_sem]; done)); (iterate 2 exact rfl))
       | (apply H_lit; (iterate 9 exact rfl)))
    refine EM.nil ?_
    repeat (first | rw [List.cons_append] | rw [List.nil_append])
    refine CH.mut (os := [_]) (rest := []) rfl rfl (m_append rfl rfl rfl rfl rfl (by rw [hl]; constructor <;> simp)) ?_
    rintro _ _ ⟨v', rfl, rfl⟩
    try simp only [St.put]
    repeat (first | rw [List.cons_append] | rw [List.nil_append])
    refine CH.nil ?_
    try simp only [List.drop_succ_cons, List.drop_zero]
    refine EL.le (Le.freeze (pre := []) rfl) ?_
    simp only [List.nil_append]
    repeat
      (first
       | (apply P_load; exact rfl; (first | exact I0 | exact I1 | exact I2 | exact I3 | exact I4 | exact I5 | exact I6); (iterate 4 exact rfl))
       | (apply P_store; exact rfl; (focus (repeat first | exact .z | apply SetAt.s | apply SetAtF.s)); (iterate 4 exact rfl)) | apply EL.nil | ((with_reducible apply EK.then_normal); apply EK.code)
       | (with_reducible first | apply EC.seq | apply EC.region | apply EC.skip | apply EC.label | apply EC.block | apply EC.exit | apply EC.ret | apply EK.in_normal | apply EK.in_same | apply EK.in_ret | apply EK.then_ret | apply EK.then_exit))
    refine EK.retc1r 1 rfl rfl rfl rfl ?_ rfl
    (repeat first | exact RefineL.refl _ _ | exact RL.nil | exact Rf.same | exact Rf.bs0 | exact Rf.sl0 | (apply Rf.fact; (focus (simp; done)); exact rfl) | apply Rf.tup | apply RL.cons)
theorem f_Item : ∀ t : Tn, t.ok → t.isNil = false → Fn 99 [dT t] (· = .val (dItem (itemT t)))
  | .leaf p v, h, _ => item_leaf p v h
  | .ext p k, h, _ => item_ext p k h.1 (f_Ref_of k fun hn => f_Item k h.2 hn)
  | .br ks v, h, _ => item_br ks v fun i => f_Ref_of (ks i) fun hn => f_Item (ks i) (h i) hn
theorem f_Sum (t : Tn) (h : t.ok) : Fn 33 [dT t] (· = .val (.arr 32 (sumT t))) := f_Sum_of t (f_Item t h)
end E
end Go.Proofs.Ytmlajcbabimkjaa
