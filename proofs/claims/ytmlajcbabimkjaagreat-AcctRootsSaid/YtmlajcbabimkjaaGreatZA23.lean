/-
  Merged (wip/tools/merge.py): BR5, BR6.
  Conditions: none.
-/
import Derived.Test.YtmlajcbabimkjaaGreatZA22
import Derived.Test.YtmlajcbabimkjaaGreatZA21
/-
  The reference's MayPairs.
  Conditions: none.
-/
namespace Go.Proofs.YtmlajcbabimkjaaGreat
set_option linter.unusedVariables false
open Go.RowKit Mono Rlp
namespace E
def errM : List Pr → List Pr → Nat → Nat
  | _, [], e => e
  | pre, x :: r, e => if lg x = true then 3 else errM (pre ++ [x]) r (if pre.any (fun y => y.1 == x.1) = true then 1 else if x.2.isEmpty = true then 1 else e)
theorem split_injB : ∀ a b : List UInt8, split a = split b → a = b
  | [], [], _ => rfl
  | [], y :: b, h => by simp [split] at h
  | x :: a, [], h => by simp [split] at h
  | x :: a, y :: b, h => by
    have hs : ∀ (z : UInt8) (l : List UInt8), split (z :: l) = (z >>> 4) :: (z &&& 15) :: split l := fun _ _ => rfl
    rw [hs, hs] at h
    simp only [List.cons.injEq] at h
    obtain ⟨h1, h2, h3⟩ := h
    have e1 := congrArg UInt8.toNat h1
    have e2 := congrArg UInt8.toNat h2
    rw [nib_hiT, nib_hiT] at e1
    rw [nib_loT, nib_loT] at e2
    have : x = y := UInt8.toNat_inj.1 (by omega)
    rw [this, split_injB a b h3]
theorem errM_eq : ∀ (l pre : List Pr) (e : Nat), e ≤ 1 → errM pre l e = if l.any lg = true then 3 else if e = 1 ∨ l.any (·.2.isEmpty) = true ∨ ¬ (l.map (·.1)).Nodup ∨ (∃ x ∈ l, ∃ y ∈ pre, y.1 = x.1) then 1 else 0
  | [], pre, e, he => by
    rw [errM]
    simp
    split <;> omega
  | x :: l, pre, e, he => by
    rw [errM, List.any_cons, List.any_cons]
    cases hg : lg x with
    | true => simp
    | false =>
      rw [if_neg (by decide), Bool.false_or, errM_eq l (pre ++ [x]) _ (by split <;> (try split) <;> omega)]
      split
      · rfl
      · congr 1
        apply propext
        have hany : (pre.any (fun y => y.1 == x.1) = true) ↔ ∃ y ∈ pre, y.1 = x.1 := by simp
        constructor
        · rintro (h | h | h | ⟨z, hz, y, hy, h⟩)
          · split at h
            · rename_i h2
              exact .inr (.inr (.inr ⟨x, List.mem_cons_self, hany.1 h2⟩))
            · split at h
              · rename_i h3
                exact .inr (.inl (by simp [h3]))
              · exact .inl h
          · exact .inr (.inl (by simp [h]))
          · exact .inr (.inr (.inl fun hn => h (List.nodup_cons.1 hn).2))
          · rcases List.mem_append.1 hy with hy | hy
            · exact .inr (.inr (.inr ⟨z, List.mem_cons_of_mem _ hz, y, hy, h⟩))
            · obtain rfl := List.mem_singleton.1 hy
              exact .inr (.inr (.inl fun hn => (List.nodup_cons.1 hn).1 (List.mem_map.2 ⟨z, hz, h.symm⟩)))
        · intro h
          by_cases h2 : pre.any (fun y => y.1 == x.1) = true
          · exact .inl (if_pos h2)
          · rw [if_neg h2]
            by_cases h3 : x.2.isEmpty = true
            · exact .inl (if_pos h3)
            · rw [if_neg h3]
              rcases h with h | h | h | ⟨z, hz, y, hy, h⟩
              · exact .inl h
              · rw [Bool.eq_false_iff.2 h3, Bool.false_or] at h
                exact .inr (.inl h)
              · by_cases hm : x.1 ∈ l.map (·.1)
                · obtain ⟨z, hz, hzx⟩ := List.mem_map.1 hm
                  exact .inr (.inr (.inr ⟨z, hz, x, by simp, hzx.symm⟩))
                · exact .inr (.inr (.inl fun hn => h (List.nodup_cons.2 ⟨hm, hn⟩)))
              · rcases List.mem_cons.1 hz with rfl | hz
                · exact absurd (hany.2 ⟨y, hy, h⟩) h2
                · exact .inr (.inr (.inr ⟨z, hz, y, List.mem_append_left _ hy, h⟩))
theorem errM_errP (l : List Pr) (h : ¬ 100000 < l.length) : errM [] l 0 = errP l := by
  rw [errM_eq l [] 0 (by decide)]
  unfold errP
  have hnd : ((l.map sp).map (·.1)).Nodup ↔ (l.map (·.1)).Nodup := by
    have : (l.map sp).map (·.1) = (l.map (·.1)).map split := by rw [List.map_map, List.map_map]; rfl
    rw [this]
    constructor
    · intro hn
      exact List.Pairwise.imp (fun h e => h (by rw [e])) (List.pairwise_map.1 hn)
    · intro hn
      exact List.pairwise_map.2 (hn.imp fun h e => h (split_injB _ _ e))
  by_cases h1 : l.any lg = true
  · rw [if_pos h1, if_pos (.inr h1)]
  · rw [if_neg h1, if_neg (show ¬ (100000 < l.length ∨ l.any lg = true) from fun hh => hh.elim h h1)]
    by_cases h2 : l.any (·.2.isEmpty) = true
    · rw [if_pos (show (0 = 1 ∨ l.any (·.2.isEmpty) = true ∨ ¬ (l.map (·.1)).Nodup ∨ (∃ x ∈ l, ∃ y ∈ ([] : List Pr), y.1 = x.1)) from .inr (.inl h2)), if_pos h2]
    · rw [if_neg (show ¬ (l.any (·.2.isEmpty) = true) from h2)]
      by_cases h3 : (l.map (·.1)).Nodup
      · rw [if_neg (show ¬ (0 = 1 ∨ l.any (·.2.isEmpty) = true ∨ ¬ (l.map (·.1)).Nodup ∨ (∃ x ∈ l, ∃ y ∈ ([] : List Pr), y.1 = x.1)) from fun hh => by
          rcases hh with hh | hh | hh | ⟨x, _, y, hy, _⟩
          · cases hh
          · exact h2 hh
          · exact hh h3
          · cases hy), if_pos (hnd.2 h3)]
      · rw [if_pos (show (0 = 1 ∨ l.any (·.2.isEmpty) = true ∨ ¬ (l.map (·.1)).Nodup ∨ (∃ x ∈ l, ∃ y ∈ ([] : List Pr), y.1 = x.1)) from .inr (.inr (.inl h3))), if_neg (fun hh => h3 (hnd.1 hh))]
set_option maxRecDepth 20000 in
set_option maxHeartbeats 8000000 in
theorem f_MayPairs (l : List Pr) : Fn 24 [.sl 2 (l.map dPr)] (· = .val (.v (.int .i64 (errP l : Int)))) := by
  have hml : (l.map dPr).length = l.length := List.length_map _
  refine Fn.walk 57 Tryz.func24 rfl Tryz.ntmps24 (by simp) fun X => ?_
  by_cases hbig : 100000 < l.length
  · have he : errP l = 3 := by unfold errP; rw [if_pos (.inl hbig)]
    rw [he]
    repeat
      (first
       | (apply P_move; (iterate 3 exact rfl)) | (apply P_assign; (iterate 3 exact rfl))
       | (apply P_cmp (b := true); (iterate 2 exact rfl); (focus (first | (simp [cmpI]; done) | (simp [cmpI]; omega))); (iterate 2 exact rfl)) | (apply P_lensl; (iterate 4 exact rfl)) | apply EL.nil
       | ((with_reducible apply EK.then_normal); apply EK.code) | (apply EC.cond_true; exact rfl)
       | (with_reducible first | apply EC.seq | apply EC.region | apply EC.skip | apply EC.label | apply EC.block | apply EC.exit | apply EC.ret | apply EK.in_normal | apply EK.in_same | apply EK.in_ret | apply EK.then_ret | apply EK.then_exit))
    exact EK.ret1 rfl rfl rfl
  rw [← errM_errP l hbig]
  generalize hres : errM [] l 0 = res
  repeat
    (first
     | (apply P_move; (iterate 3 exact rfl)) | (apply P_assign; (iterate 3 exact rfl))
     | (apply P_cmp (b := false); (iterate 2 exact rfl); (focus (first | (simp [cmpI]; done) | (simp [cmpI]; omega))); (iterate 2 exact rfl)) | (apply P_lensl; (iterate 4 exact rfl)) | apply EL.nil
     | ((with_reducible apply EK.then_normal); apply EK.code) | (apply EC.cond_false; exact rfl)
     | (with_reducible first | apply EC.seq | apply EC.region | apply EC.skip | apply EC.label | apply EC.block | apply EC.exit | apply EC.ret | apply EK.in_normal | apply EK.in_same | apply EK.in_ret | apply EK.then_ret | apply EK.then_exit))
  refine EC.loop (ι := {p : Nat × Nat // p.1 ≤ l.length ∧ res = errM (l.take p.1) (l.drop p.1) p.2})
    (fun p => ⟨[(4, .val (.v (.int .i64 (p.1.1 : Int)))), (3, .val (.v (.int .i64 (p.1.2 : Int)))), (0, .val (.sl 2 (l.map dPr)))], [], []⟩)
    (fun p => l.length - p.1.1) ⟨(0, 0), Nat.zero_le _, hres.symm⟩ ?_ ?_
  · exact (Le.keep (by repeat first | exact trivial | refine ⟨rfl, ?_⟩) (by repeat first | exact List.nil_sublist _ | apply List.Sublist.cons_cons | apply List.Sublist.cons) (by simp))
  rintro ⟨⟨i, e⟩, hi, hI⟩
  dsimp only at hi hI ⊢
  by_cases hlt : i < l.length
  · have hd : (l.map dPr)[i]? = some (.tup [.bs l[i].1, .bs l[i].2]) := by rw [List.getElem?_map, List.getElem?_eq_getElem hlt]; rfl
    have htk : l.take (i + 1) = l.take i ++ [l[i]] := List.take_succ_eq_append_getElem hlt
    rw [List.drop_eq_getElem_cons hlt, errM, ← htk] at hI
    unfold lg at hI
    by_cases hg1 : 64 < l[i].1.length
    · rw [decide_eq_true hg1, Bool.true_or, if_pos rfl] at hI
      subst hI
      repeat
        (first
         | (apply P_skip; (iterate 2 exact rfl)) | (apply P_move; (iterate 3 exact rfl)) | (apply P_assign; (iterate 3 exact rfl)) | (apply P_fieldpd; (iterate 7 exact rfl))
         | (apply P_loadpd; (iterate 5 exact rfl)) | (apply P_pick; (iterate 4 exact rfl))
         | (apply P_cmp (b := true); (iterate 2 exact rfl); (focus (first | (simp [cmpI]; done) | (simp [cmpI]; omega))); (iterate 2 exact rfl)) | (apply P_lenbs; (iterate 4 exact rfl))
         | (apply P_lensl; (iterate 4 exact rfl))
         | (apply P_index; (iterate 4 exact rfl); (focus (first | exact ⟨by decide, rfl⟩ | (refine ⟨by omega, ?_⟩; rw [Int.toNat_natCast]; assumption))); (iterate 2 exact rfl)) | apply EL.nil
         | ((with_reducible apply EK.then_normal); apply EK.code) | (apply EC.cond_true; exact rfl)
         | (with_reducible first | apply EC.seq | apply EC.region | apply EC.skip | apply EC.label | apply EC.block | apply EC.exit | apply EC.ret | apply EK.in_normal | apply EK.in_same | apply EK.in_ret | apply EK.then_ret | apply EK.then_exit))
      exact EK.ret1 rfl rfl rfl
    · by_cases hg2 : 1048576 < l[i].2.length
      · rw [decide_eq_true hg2, Bool.or_true, if_pos rfl] at hI
        subst hI
        repeat
          (first
           | (apply P_move; (iterate 3 exact rfl)) | (apply P_assign; (iterate 3 exact rfl)) | (apply P_fieldpd; (iterate 7 exact rfl)) | (apply P_loadpd; (iterate 5 exact rfl))
           | (apply P_pick; (iterate 4 exact rfl)) | (apply P_cmp (b := true); (iterate 2 exact rfl); (focus (first | (simp [cmpI]; done) | (simp [cmpI]; omega))); (iterate 2 exact rfl))
           | (apply P_cmp (b := false); (iterate 2 exact rfl); (focus (first | (simp [cmpI]; done) | (simp [cmpI]; omega))); (iterate 2 exact rfl)) | (apply P_lenbs; (iterate 4 exact rfl))
           | (apply P_lensl; (iterate 4 exact rfl))
           | (apply P_index; (iterate 4 exact rfl); (focus (first | exact ⟨by decide, rfl⟩ | (refine ⟨by omega, ?_⟩; rw [Int.toNat_natCast]; assumption))); (iterate 2 exact rfl)) | apply EL.nil
           | ((with_reducible apply EK.then_normal); apply EK.code) | (apply EC.cond_true; exact rfl)
           | (with_reducible first | apply EC.seq | apply EC.region | apply EC.skip | apply EC.label | apply EC.block | apply EC.exit | apply EC.ret | apply EK.in_normal | apply EK.in_same | apply EK.in_ret | apply EK.then_ret | apply EK.then_exit))
        exact EK.ret1 rfl rfl rfl
      · rw [decide_eq_false hg1, decide_eq_false hg2, if_neg (by decide)] at hI
        cases hv : l[i].2 with
        | nil =>
          rw [hv] at hd
          rw [hv, if_pos (show ([] : List UInt8).isEmpty = true from rfl)] at hI
          repeat
            (first
             | (apply P_move; (iterate 3 exact rfl)) | (apply P_assign; (iterate 3 exact rfl)) | (apply P_fieldpd; (iterate 7 exact rfl)) | (apply P_loadpd; (iterate 5 exact rfl))
             | (apply P_pick; (iterate 4 exact rfl)) | (apply P_cmp (b := true); (iterate 2 exact rfl); (focus (first | (simp [cmpI]; done) | (simp [cmpI]; omega))); (iterate 2 exact rfl))
             | (apply P_cmp (b := false); (iterate 2 exact rfl); (focus (first | (simp [cmpI]; done) | (simp [cmpI]; omega))); (iterate 2 exact rfl)) | (apply P_lenbs; (iterate 4 exact rfl))
             | (apply P_lensl; (iterate 4 exact rfl))
             | (apply P_index; (iterate 4 exact rfl); (focus (first | exact ⟨by decide, rfl⟩ | (refine ⟨by omega, ?_⟩; rw [Int.toNat_natCast]; assumption))); (iterate 2 exact rfl)) | apply EL.nil
             | ((with_reducible apply EK.then_normal); apply EK.code) | (apply EC.cond_true; exact rfl) | (apply EC.cond_false; exact rfl)
             | (with_reducible first | apply EC.seq | apply EC.region | apply EC.skip | apply EC.label | apply EC.block | apply EC.exit | apply EC.ret | apply EK.in_normal | apply EK.in_same | apply EK.in_ret | apply EK.then_ret | apply EK.then_exit))
          refine EC.loop (ι := {k : Nat // k ≤ i})
            (fun k => ⟨[(5, .val (.v (.int .i64 (k.1 : Int)))), (4, .val (.v (.int .i64 (i : Int)))), (3, .val (.v (.int .i64 ((if (l.take k.1).any (fun y => y.1 == l[i].1) = true then 1 else 1 : Nat) : Int)))), (0, .val (.sl 2 (l.map dPr)))], [], []⟩)
            (fun k => i - k.1) ⟨0, Nat.zero_le _⟩ ?_ ?_
          · exact (Le.keep (by repeat first | exact trivial | refine ⟨rfl, ?_⟩) (by repeat first | exact List.nil_sublist _ | apply List.Sublist.cons_cons | apply List.Sublist.cons) (by simp))
          rintro ⟨k, hk⟩
          dsimp only at hk ⊢
          by_cases hki : k < i
          · have hkl : k < l.length := by omega
            have hdk : (l.map dPr)[k]? = some (.tup [.bs l[k].1, .bs l[k].2]) := by rw [List.getElem?_map, List.getElem?_eq_getElem hkl]; rfl
            have hbs := (bin_string l[k].1 l[i].1).1
            have hany : (l.take (k + 1)).any (fun y => y.1 == l[i].1) = ((l.take k).any (fun y => y.1 == l[i].1) || (l[k].1 == l[i].1)) := by
              rw [List.take_succ_eq_append_getElem hkl, List.any_append]
              simp
            cases hq : (l[k].1 == l[i].1) with
            | true =>
              rw [hq] at hbs
              rw [hq, Bool.or_true] at hany
              repeat
                (first
                 | (apply P_move; (iterate 3 exact rfl)) | (apply P_cmp (b := true); (iterate 2 exact rfl); (focus (first | (simp [cmpI]; done) | (simp [cmpI]; omega))); (iterate 2 exact rfl)) | apply EL.nil
                 | ((with_reducible apply EK.then_normal); apply EK.code) | (apply EC.cond_true; exact rfl)
                 | (with_reducible first | apply EC.seq | apply EC.region | apply EC.skip | apply EC.label | apply EC.block | apply EC.exit | apply EC.ret | apply EK.in_normal | apply EK.in_same | apply EK.in_ret | apply EK.then_ret | apply EK.then_exit))
              refine EC.draw 13 (by kernel_rfl) ?_
              simp only [List.take_succ_cons, List.take_zero, List.drop_succ_cons, List.drop_zero]
              repeat
                (first
                 | (apply H_bin; (iterate 2 exact rfl); exact hbs; (iterate 2 exact rfl)) | (apply H_move; (iterate 3 exact rfl)) | (apply H_fieldpd; (iterate 7 exact rfl)) | (apply H_loadpd; (iterate 5 exact rfl))
                 | (apply H_index; (iterate 4 exact rfl); (focus (first | exact ⟨by decide, rfl⟩ | (refine ⟨by omega, ?_⟩; rw [Int.toNat_natCast]; assumption))); (iterate 2 exact rfl))
                 | (apply H_str; (iterate 3 exact rfl)) | ((with_reducible apply EH.nil); exact rfl))
              repeat
                (first
                 | (apply P_move; (iterate 3 exact rfl)) | (apply P_assign; (iterate 3 exact rfl)) | (apply P_ar; (iterate 3 exact rfl); (focus omega); (focus omega); (iterate 2 exact rfl)) | apply EL.nil
                 | ((with_reducible apply EK.then_normal); apply EK.code) | (apply EC.cond_true; exact rfl)
                 | (with_reducible first | apply EC.seq | apply EC.region | apply EC.skip | apply EC.label | apply EC.block | apply EC.exit | apply EC.ret | apply EK.in_normal | apply EK.in_same | apply EK.in_ret | apply EK.then_ret | apply EK.then_exit))
              refine EK.again ⟨k + 1, hki⟩ (by dsimp only; omega) ?_
              dsimp only
              rw [hany, if_pos rfl]
              simp only [Int.natCast_add]
              exact (Le.keep (by repeat first | exact trivial | refine ⟨rfl, ?_⟩) (by repeat first | exact List.nil_sublist _ | apply List.Sublist.cons_cons | apply List.Sublist.cons) (by simp))
            | false =>
              rw [hq] at hbs
              rw [hq, Bool.or_false] at hany
              repeat
                (first
                 | (apply P_move; (iterate 3 exact rfl)) | (apply P_cmp (b := true); (iterate 2 exact rfl); (focus (first | (simp [cmpI]; done) | (simp [cmpI]; omega))); (iterate 2 exact rfl)) | apply EL.nil
                 | ((with_reducible apply EK.then_normal); apply EK.code) | (apply EC.cond_true; exact rfl)
                 | (with_reducible first | apply EC.seq | apply EC.region | apply EC.skip | apply EC.label | apply EC.block | apply EC.exit | apply EC.ret | apply EK.in_normal | apply EK.in_same | apply EK.in_ret | apply EK.then_ret | apply EK.then_exit))
              refine EC.draw 13 (by kernel_rfl) ?_
              simp only [List.take_succ_cons, List.take_zero, List.drop_succ_cons, List.drop_zero]
              repeat
                (first
                 | (apply H_bin; (iterate 2 exact rfl); exact hbs; (iterate 2 exact rfl)) | (apply H_move; (iterate 3 exact rfl)) | (apply H_fieldpd; (iterate 7 exact rfl)) | (apply H_loadpd; (iterate 5 exact rfl))
                 | (apply H_index; (iterate 4 exact rfl); (focus (first | exact ⟨by decide, rfl⟩ | (refine ⟨by omega, ?_⟩; rw [Int.toNat_natCast]; assumption))); (iterate 2 exact rfl))
                 | (apply H_str; (iterate 3 exact rfl)) | ((with_reducible apply EH.nil); exact rfl))
              repeat
                (first
                 | (apply P_move; (iterate 3 exact rfl)) | (apply P_assign; (iterate 3 exact rfl)) | (apply P_ar; (iterate 3 exact rfl); (focus omega); (focus omega); (iterate 2 exact rfl)) | apply EL.nil
                 | ((with_reducible apply EK.then_normal); apply EK.code) | (apply EC.cond_false; exact rfl)
                 | (with_reducible first | apply EC.seq | apply EC.region | apply EC.skip | apply EC.label | apply EC.block | apply EC.exit | apply EC.ret | apply EK.in_normal | apply EK.in_same | apply EK.in_ret | apply EK.then_ret | apply EK.then_exit))
              refine EK.again ⟨k + 1, hki⟩ (by dsimp only; omega) ?_
              dsimp only
              rw [hany]
              simp only [Int.natCast_add]
              exact (Le.keep (by repeat first | exact trivial | refine ⟨rfl, ?_⟩) (by repeat first | exact List.nil_sublist _ | apply List.Sublist.cons_cons | apply List.Sublist.cons) (by simp))
          · obtain rfl : k = i := by omega
            repeat
              (first
               | (apply P_move; (iterate 3 exact rfl)) | (apply P_assign; (iterate 3 exact rfl))
               | (apply P_cmp (b := false); (iterate 2 exact rfl); (focus (first | (simp [cmpI]; done) | (simp [cmpI]; omega))); (iterate 2 exact rfl))
               | (apply P_ar; (iterate 3 exact rfl); (focus omega); (focus omega); (iterate 2 exact rfl)) | apply EL.nil | ((with_reducible apply EK.then_normal); apply EK.code) | (apply EC.cond_false; exact rfl)
               | (with_reducible first | apply EC.seq | apply EC.region | apply EC.skip | apply EC.label | apply EC.block | apply EC.exit | apply EC.ret | apply EK.in_normal | apply EK.in_same | apply EK.in_ret | apply EK.then_ret | apply EK.then_exit))
            refine EK.again ⟨(k + 1, _), hlt, hI⟩ (by dsimp only; omega) ?_
            dsimp only
            simp only [Int.natCast_add]
            exact (Le.keep (by repeat first | exact trivial | refine ⟨rfl, ?_⟩) (by repeat first | exact List.nil_sublist _ | apply List.Sublist.cons_cons | apply List.Sublist.cons) (by simp))
        | cons c v =>
          rw [hv] at hd hg2
          have hg3 : ¬ 1048576 < v.length + 1 := hg2
          rw [hv, if_neg (show ¬ ((c :: v).isEmpty = true) from Bool.false_ne_true)] at hI
          repeat
            (first
             | (apply P_move; (iterate 3 exact rfl)) | (apply P_assign; (iterate 3 exact rfl)) | (apply P_fieldpd; (iterate 7 exact rfl)) | (apply P_loadpd; (iterate 5 exact rfl))
             | (apply P_pick; (iterate 4 exact rfl)) | (apply P_cmp (b := true); (iterate 2 exact rfl); (focus (first | (simp [cmpI]; done) | (simp [cmpI]; omega))); (iterate 2 exact rfl))
             | (apply P_cmp (b := false); (iterate 2 exact rfl); (focus (first | (simp [cmpI]; done) | (simp [cmpI]; omega))); (iterate 2 exact rfl)) | (apply P_lenbs; (iterate 4 exact rfl))
             | (apply P_lensl; (iterate 4 exact rfl))
             | (apply P_index; (iterate 4 exact rfl); (focus (first | exact ⟨by decide, rfl⟩ | (refine ⟨by omega, ?_⟩; rw [Int.toNat_natCast]; assumption))); (iterate 2 exact rfl)) | apply EL.nil
             | ((with_reducible apply EK.then_normal); apply EK.code) | (apply EC.cond_true; exact rfl) | (apply EC.cond_false; exact rfl)
             | (with_reducible first | apply EC.seq | apply EC.region | apply EC.skip | apply EC.label | apply EC.block | apply EC.exit | apply EC.ret | apply EK.in_normal | apply EK.in_same | apply EK.in_ret | apply EK.then_ret | apply EK.then_exit))
          refine EC.loop (ι := {k : Nat // k ≤ i})
            (fun k => ⟨[(5, .val (.v (.int .i64 (k.1 : Int)))), (4, .val (.v (.int .i64 (i : Int)))), (3, .val (.v (.int .i64 ((if (l.take k.1).any (fun y => y.1 == l[i].1) = true then 1 else e : Nat) : Int)))), (0, .val (.sl 2 (l.map dPr)))], [], []⟩)
            (fun k => i - k.1) ⟨0, Nat.zero_le _⟩ ?_ ?_
          · exact (Le.keep (by repeat first | exact trivial | refine ⟨rfl, ?_⟩) (by repeat first | exact List.nil_sublist _ | apply List.Sublist.cons_cons | apply List.Sublist.cons) (by simp))
          rintro ⟨k, hk⟩
          dsimp only at hk ⊢
          by_cases hki : k < i
          · have hkl : k < l.length := by omega
            have hdk : (l.map dPr)[k]? = some (.tup [.bs l[k].1, .bs l[k].2]) := by rw [List.getElem?_map, List.getElem?_eq_getElem hkl]; rfl
            have hbs := (bin_string l[k].1 l[i].1).1
            have hany : (l.take (k + 1)).any (fun y => y.1 == l[i].1) = ((l.take k).any (fun y => y.1 == l[i].1) || (l[k].1 == l[i].1)) := by
              rw [List.take_succ_eq_append_getElem hkl, List.any_append]
              simp
            cases hq : (l[k].1 == l[i].1) with
            | true =>
              rw [hq] at hbs
              rw [hq, Bool.or_true] at hany
              repeat
                (first
                 | (apply P_move; (iterate 3 exact rfl)) | (apply P_cmp (b := true); (iterate 2 exact rfl); (focus (first | (simp [cmpI]; done) | (simp [cmpI]; omega))); (iterate 2 exact rfl)) | apply EL.nil
                 | ((with_reducible apply EK.then_normal); apply EK.code) | (apply EC.cond_true; exact rfl)
                 | (with_reducible first | apply EC.seq | apply EC.region | apply EC.skip | apply EC.label | apply EC.block | apply EC.exit | apply EC.ret | apply EK.in_normal | apply EK.in_same | apply EK.in_ret | apply EK.then_ret | apply EK.then_exit))
              refine EC.draw 13 (by kernel_rfl) ?_
              simp only [List.take_succ_cons, List.take_zero, List.drop_succ_cons, List.drop_zero]
              repeat
                (first
                 | (apply H_bin; (iterate 2 exact rfl); exact hbs; (iterate 2 exact rfl)) | (apply H_move; (iterate 3 exact rfl)) | (apply H_fieldpd; (iterate 7 exact rfl)) | (apply H_loadpd; (iterate 5 exact rfl))
                 | (apply H_index; (iterate 4 exact rfl); (focus (first | exact ⟨by decide, rfl⟩ | (refine ⟨by omega, ?_⟩; rw [Int.toNat_natCast]; assumption))); (iterate 2 exact rfl))
                 | (apply H_str; (iterate 3 exact rfl)) | ((with_reducible apply EH.nil); exact rfl))
              repeat
                (first
                 | (apply P_move; (iterate 3 exact rfl)) | (apply P_assign; (iterate 3 exact rfl)) | (apply P_ar; (iterate 3 exact rfl); (focus omega); (focus omega); (iterate 2 exact rfl)) | apply EL.nil
                 | ((with_reducible apply EK.then_normal); apply EK.code) | (apply EC.cond_true; exact rfl)
                 | (with_reducible first | apply EC.seq | apply EC.region | apply EC.skip | apply EC.label | apply EC.block | apply EC.exit | apply EC.ret | apply EK.in_normal | apply EK.in_same | apply EK.in_ret | apply EK.then_ret | apply EK.then_exit))
              refine EK.again ⟨k + 1, hki⟩ (by dsimp only; omega) ?_
              dsimp only
              rw [hany, if_pos rfl]
              simp only [Int.natCast_add]
              exact (Le.keep (by repeat first | exact trivial | refine ⟨rfl, ?_⟩) (by repeat first | exact List.nil_sublist _ | apply List.Sublist.cons_cons | apply List.Sublist.cons) (by simp))
            | false =>
              rw [hq] at hbs
              rw [hq, Bool.or_false] at hany
              repeat
                (first
                 | (apply P_move; (iterate 3 exact rfl)) | (apply P_cmp (b := true); (iterate 2 exact rfl); (focus (first | (simp [cmpI]; done) | (simp [cmpI]; omega))); (iterate 2 exact rfl)) | apply EL.nil
                 | ((with_reducible apply EK.then_normal); apply EK.code) | (apply EC.cond_true; exact rfl)
                 | (with_reducible first | apply EC.seq | apply EC.region | apply EC.skip | apply EC.label | apply EC.block | apply EC.exit | apply EC.ret | apply EK.in_normal | apply EK.in_same | apply EK.in_ret | apply EK.then_ret | apply EK.then_exit))
              refine EC.draw 13 (by kernel_rfl) ?_
              simp only [List.take_succ_cons, List.take_zero, List.drop_succ_cons, List.drop_zero]
              repeat
                (first
                 | (apply H_bin; (iterate 2 exact rfl); exact hbs; (iterate 2 exact rfl)) | (apply H_move; (iterate 3 exact rfl)) | (apply H_fieldpd; (iterate 7 exact rfl)) | (apply H_loadpd; (iterate 5 exact rfl))
                 | (apply H_index; (iterate 4 exact rfl); (focus (first | exact ⟨by decide, rfl⟩ | (refine ⟨by omega, ?_⟩; rw [Int.toNat_natCast]; assumption))); (iterate 2 exact rfl))
                 | (apply H_str; (iterate 3 exact rfl)) | ((with_reducible apply EH.nil); exact rfl))
              repeat
                (first
                 | (apply P_move; (iterate 3 exact rfl)) | (apply P_assign; (iterate 3 exact rfl)) | (apply P_ar; (iterate 3 exact rfl); (focus omega); (focus omega); (iterate 2 exact rfl)) | apply EL.nil
                 | ((with_reducible apply EK.then_normal); apply EK.code) | (apply EC.cond_false; exact rfl)
                 | (with_reducible first | apply EC.seq | apply EC.region | apply EC.skip | apply EC.label | apply EC.block | apply EC.exit | apply EC.ret | apply EK.in_normal | apply EK.in_same | apply EK.in_ret | apply EK.then_ret | apply EK.then_exit))
              refine EK.again ⟨k + 1, hki⟩ (by dsimp only; omega) ?_
              dsimp only
              rw [hany]
              simp only [Int.natCast_add]
              exact (Le.keep (by repeat first | exact trivial | refine ⟨rfl, ?_⟩) (by repeat first | exact List.nil_sublist _ | apply List.Sublist.cons_cons | apply List.Sublist.cons) (by simp))
          · obtain rfl : k = i := by omega
            repeat
              (first
               | (apply P_move; (iterate 3 exact rfl)) | (apply P_assign; (iterate 3 exact rfl))
               | (apply P_cmp (b := false); (iterate 2 exact rfl); (focus (first | (simp [cmpI]; done) | (simp [cmpI]; omega))); (iterate 2 exact rfl))
               | (apply P_ar; (iterate 3 exact rfl); (focus omega); (focus omega); (iterate 2 exact rfl)) | apply EL.nil | ((with_reducible apply EK.then_normal); apply EK.code) | (apply EC.cond_false; exact rfl)
               | (with_reducible first | apply EC.seq | apply EC.region | apply EC.skip | apply EC.label | apply EC.block | apply EC.exit | apply EC.ret | apply EK.in_normal | apply EK.in_same | apply EK.in_ret | apply EK.then_ret | apply EK.then_exit))
            refine EK.again ⟨(k + 1, _), hlt, hI⟩ (by dsimp only; omega) ?_
            dsimp only
            simp only [Int.natCast_add]
            exact (Le.keep (by repeat first | exact trivial | refine ⟨rfl, ?_⟩) (by repeat first | exact List.nil_sublist _ | apply List.Sublist.cons_cons | apply List.Sublist.cons) (by simp))
  · have hie : i = l.length := by omega
    rw [List.drop_eq_nil_of_le (by omega), errM] at hI
    subst hI
    repeat
      (first
       | (apply P_move; (iterate 3 exact rfl)) | (apply P_assign; (iterate 3 exact rfl))
       | (apply P_cmp (b := false); (iterate 2 exact rfl); (focus (first | (simp [cmpI]; done) | (simp [cmpI]; omega))); (iterate 2 exact rfl)) | (apply P_lensl; (iterate 4 exact rfl)) | apply EL.nil
       | ((with_reducible apply EK.then_normal); apply EK.code) | (apply EC.cond_false; exact rfl)
       | (with_reducible first | apply EC.seq | apply EC.region | apply EC.skip | apply EC.label | apply EC.block | apply EC.exit | apply EC.ret | apply EK.in_normal | apply EK.in_same | apply EK.in_ret | apply EK.then_ret | apply EK.then_exit))
    exact EK.ret1 rfl rfl rfl
end E
end Go.Proofs.YtmlajcbabimkjaaGreat
/-
  The reference's Trie.
  Conditions: none.
-/
namespace Go.Proofs.YtmlajcbabimkjaaGreat
set_option linter.unusedVariables false
open Go.RowKit Mono Rlp
namespace E
theorem EK.retMc3 {N : Nat} {X : Cx N} {S : St} {fn : Func} {Φ : R → List Obj → Prop} {p u q : Tmp} {g ty : Nat} {t : TypeId} {d d' e e' k k' : D} (i : Nat) (os' : List Obj) (hres : fn.results = #[.cell p ty, .tmp u, .tmp q]) (hl : look S.regs p = some (.val (.v (.pointer (some ⟨g, 0, none⟩))))) (hi : S.objs[i]? = some (.var g t d)) (hT : assoc tyL ty = some (d.size, d.agg)) (hu : look S.regs u = some (.val e)) (hq : look S.regs q = some (.val k)) (hR : RefineL S.facts [d] [d']) (hR2 : RefineL S.facts [e] [e']) (hR3 : RefineL S.facts [k] [k']) (ho : os'.Sublist S.objs) (hΦ : Φ (.tpl [d', e', k']) os') : EK X (bodyPost Tryz.prog fn (OutM X Φ) .ret) S := by
  constructor
  intro a w ha
  obtain ⟨x, h1, h2⟩ := run_cell ha.mem hi (tyI hT)
  have hp := (readV_v.1 (ha.regs p _ hl)).2
  have hp' : a.tmps[p]?.getD undef = .pointer (some ⟨g, 0, none⟩) := by simpa using hp
  have h3 : ReadR (X.ok S.objs w) w (.tpl [d', e', k']) (.tuple #[x, a.tmps.getD u undef, a.tmps.getD q undef]) := ⟨[x, a.tmps.getD u undef, a.tmps.getD q undef], rfl, _, _, rfl, Refine1.readV ha.mem.fact hR h2, _, _, rfl, Refine1.readV ha.mem.fact hR2 (ha.regs u _ hu), _, _, rfl, Refine1.readV ha.mem.fact hR3 (ha.regs q _ hq), rfl⟩
  refine bodyPost_ret (v := .tuple #[x, a.tmps.getD u undef, a.tmps.getD q undef]) ?_ ha.defers ⟨_, _, os', rfl, hΦ, ha.mem.less ho (fun f hf => by cases hf), h3.mono (fun b hb => ok_less ho hb) fun _ _ => rfl⟩
  simp [results, hres, hp', asAddr, h1]
def rootR (l : List Pr) : List UInt8 := if errP l ≠ 0 then zero32 else if l.isEmpty then root0 else hash (pkB (nodeR 200 (l.map sp)))
set_option maxRecDepth 20000 in
set_option maxHeartbeats 16000000 in
theorem f_rTrie (l : List Pr) : Fn 20 [.sl 2 (l.map dPr)] (fun r => ∃ ns : List Pr, r = .tpl [.arr 32 (rootR l), .sl 33 (ns.map dNd), .v (.int .i64 (errP l : Int))]) := by
  have hml : (l.map dPr).length = l.length := List.length_map _
  have hM := f_MayPairs l
  have hE := f_rEmpty
  unfold rootR
  refine FnM.toFn ?_
  refine FnM.walk 60 Tryz.func20 rfl Tryz.ntmps20 (by simp) fun X => ?_
  by_cases he : errP l = 0
  · rw [he] at hM ⊢
    rw [if_neg (by decide)]
    have hlen := (show l.length ≤ 100000 from by
      unfold errP at he
      split at he
      · cases he
      · rename_i h1
        have : ¬ 100000 < l.length := fun e => h1 (.inl e)
        omega)
    have hlg : l.any lg = false := (pairsF_ok he).2.1
    by_cases hnil : l = []
    · subst hnil
      rw [if_pos (show ([] : List Pr).isEmpty = true from rfl)]
      repeat
        (first
         | (apply P_call (hM); exact rfl; (focus (repeat first | exact RefineL.refl _ _ | exact RL.nil | exact Rf.same | exact Rf.bs0 | exact Rf.sl0 | (apply Rf.fact; (focus (simp; done)); exact rfl) | apply Rf.tup | apply RL.cons)); (focus (intro _ _; simp [go_sem]; done)); (iterate 2 exact rfl))
         | (apply P_call (hE); exact rfl; (focus (repeat first | exact RefineL.refl _ _ | exact RL.nil | exact Rf.same | exact Rf.bs0 | exact Rf.sl0 | (apply Rf.fact; (focus (simp; done)); exact rfl) | apply Rf.tup | apply RL.cons)); (focus (intro _ _; simp [go_sem]; done)); (iterate 2 exact rfl))
         | (apply P_move; (iterate 3 exact rfl)) | (apply P_assign; (iterate 3 exact rfl))
         | (apply P_cmp (b := true); (iterate 2 exact rfl); (focus (first | (simp [cmpI]; done) | (simp [cmpI]; omega))); (iterate 2 exact rfl))
         | (apply P_cmp (b := false); (iterate 2 exact rfl); (focus (first | (simp [cmpI]; done) | (simp [cmpI]; omega))); (iterate 2 exact rfl)) | (apply P_lensl; (iterate 4 exact rfl))
         | (apply P_alloc; exact rfl; exact rfl; exact rfl; intro _) | (apply P_store; exact rfl; (focus (repeat first | exact .z | apply SetAt.s | apply SetAtF.s)); (iterate 4 exact rfl)) | apply EL.nil
         | ((with_reducible apply EK.then_normal); apply EK.code) | (apply EC.cond_true; exact rfl) | (apply EC.cond_false; exact rfl)
         | (with_reducible first | apply EC.seq | apply EC.region | apply EC.skip | apply EC.label | apply EC.block | apply EC.exit | apply EC.ret | apply EK.in_normal | apply EK.in_same | apply EK.in_ret | apply EK.then_ret | apply EK.then_exit))
      refine EK.retMc3 0 [] rfl rfl rfl rfl rfl rfl ?_ ?_ ?_ (List.nil_sublist _) ⟨⟨[], rfl⟩, rfl⟩
      · (repeat first | exact RefineL.refl _ _ | exact RL.nil | exact Rf.same | exact Rf.bs0 | exact Rf.sl0 | (apply Rf.fact; (focus (simp; done)); exact rfl) | apply Rf.tup | apply RL.cons)
      · exact RL.cons Rf.sl0 RL.nil
      · (repeat first | exact RefineL.refl _ _ | exact RL.nil | exact Rf.same | exact Rf.bs0 | exact Rf.sl0 | (apply Rf.fact; (focus (simp; done)); exact rfl) | apply Rf.tup | apply RL.cons)
    · obtain ⟨y, l', rfl⟩ : ∃ y l', l = y :: l' := by
        cases l with
        | nil => exact absurd rfl hnil
        | cons y l' => exact ⟨y, l', rfl⟩
      rw [if_neg (show ¬ ((y :: l').isEmpty = true) from Bool.false_ne_true)]
      have hne : ((y :: l').map sp).isEmpty = false := rfl
      have hlen2 : ((y :: l').map dPr).length = l'.length + 1 := by simp
      have hL2 : (y :: l').length = l'.length + 1 := rfl
      repeat
        (first
         | (apply P_call (hM); exact rfl; (focus (repeat first | exact RefineL.refl _ _ | exact RL.nil | exact Rf.same | exact Rf.bs0 | exact Rf.sl0 | (apply Rf.fact; (focus (simp; done)); exact rfl) | apply Rf.tup | apply RL.cons)); (focus (intro _ _; simp [go_sem]; done)); (iterate 2 exact rfl))
         | (apply P_move; (iterate 3 exact rfl)) | (apply P_assign; (iterate 3 exact rfl))
         | (apply P_cmp (b := false); (iterate 2 exact rfl); (focus (first | (simp [cmpI]; done) | (simp [cmpI]; omega))); (iterate 2 exact rfl)) | (apply P_lensl; (iterate 4 exact rfl))
         | (apply P_alloc; exact rfl; exact rfl; exact rfl; intro _) | apply EL.nil | ((with_reducible apply EK.then_normal); apply EK.code) | (apply EC.cond_false; exact rfl)
         | (with_reducible first | apply EC.seq | apply EC.region | apply EC.skip | apply EC.label | apply EC.block | apply EC.exit | apply EC.ret | apply EK.in_normal | apply EK.in_same | apply EK.in_ret | apply EK.then_ret | apply EK.then_exit))
      rename_i g2
      generalize hL : y :: l' = l at *
      clear hnil
      refine EC.le (Le.row 110 2) ?_
      refine EC.loop (ι := {x : Nat × Value // x.1 ≤ l.length})
        (fun x => ⟨[(7, .val (.v (.int .i64 (x.1.1 : Int)))), (6, .val (.v x.1.2)), (0, .val (.sl 2 (l.map dPr))), (2, .val (.v (.pointer (some ⟨g2, 0, none⟩))))], [.row x.1.2 110 2 (((l.take x.1.1).map sp).map dPr), .var g2 29 (.arr 32 zero32)], []⟩)
        (fun x => l.length - x.1.1) ⟨(0, .slice none 0 0), Nat.zero_le _⟩ ?_ ?_
      · exact (Le.keep (by repeat first | exact trivial | refine ⟨rfl, ?_⟩) (by repeat first | exact List.nil_sublist _ | apply List.Sublist.cons_cons | apply List.Sublist.cons) (by simp))
      rintro ⟨⟨i, v⟩, hi⟩
      dsimp only at hi ⊢
      by_cases hlt : i < l.length
      · have hd : (l.map dPr)[i]? = some (.tup [.bs l[i].1, .bs l[i].2]) := by rw [List.getElem?_map, List.getElem?_eq_getElem hlt]; rfl
        have hsz := not_long hlg (List.getElem_mem hlt)
        have hS := f_rSplit l[i].1 (by omega)
        have hl3 : (((l.take i).map sp).map dPr).length = i := by rw [List.length_map, List.length_map, List.length_take]; omega
        have htk : ((l.take (i + 1)).map sp).map dPr = ((l.take i).map sp).map dPr ++ [.tup [.bs (split l[i].1), .bs l[i].2]] := by
          rw [List.take_succ_eq_append_getElem hlt, List.map_append, List.map_append]
          rfl
        repeat
          (first
           | (apply P_move; (iterate 3 exact rfl)) | (apply P_cmp (b := true); (iterate 2 exact rfl); (focus (first | (simp [cmpI]; done) | (simp [cmpI]; omega))); (iterate 2 exact rfl))
           | (apply P_lensl; (iterate 4 exact rfl)) | apply EL.nil | ((with_reducible apply EK.then_normal); apply EK.code) | (apply EC.cond_true; exact rfl)
           | (with_reducible first | apply EC.seq | apply EC.region | apply EC.skip | apply EC.label | apply EC.block | apply EC.exit | apply EC.ret | apply EK.in_normal | apply EK.in_same | apply EK.in_ret | apply EK.then_ret | apply EK.then_exit))
        refine EC.drawC 15 [0, 1, 2, 3, 4, 5, 6, 7, 8, 9, 10, 11, 12, 13] [14] [_] _ (by kernel_rfl) (by kernel_rfl) rfl ?_
        simp only [pickL, List.filterMap_cons, List.filterMap_nil, List.getElem?_cons_zero, List.getElem?_cons_succ]
        repeat
          (first
           | (apply H_call (hS); exact rfl; (focus (repeat first | exact RefineL.refl _ _ | exact RL.nil | exact Rf.same | exact Rf.bs0 | exact Rf.sl0 | (apply Rf.fact; (focus (simp; done)); exact rfl) | apply Rf.tup | apply RL.cons)); (focus (intro _ _; simp [go_sem]; done)); (iterate 2 exact rfl))
           | (apply H_move; (iterate 3 exact rfl)) | (apply H_fieldpd; (iterate 7 exact rfl)) | (apply H_loadpd; (iterate 5 exact rfl))
           | (apply H_index; (iterate 4 exact rfl); (focus (first | exact ⟨by decide, rfl⟩ | (refine ⟨by omega, ?_⟩; rw [Int.toNat_natCast]; assumption))); (iterate 2 exact rfl))
           | (apply H_build; (iterate 7 exact rfl)) | (apply H_lit; (iterate 9 exact rfl)))
        refine EM.nil ?_
        repeat (first | rw [List.cons_append] | rw [List.nil_append])
        refine CH.mut (os := [_]) (rest := []) rfl rfl (m_append rfl rfl rfl rfl rfl ?_) ?_
        · rw [hl3]
          constructor <;> (simp; omega)
        rintro _ _ ⟨v', rfl, rfl⟩
        try simp only [St.put]
        repeat (first | rw [List.cons_append] | rw [List.nil_append])
        refine CH.nil ?_
        try simp only [List.drop_succ_cons, List.drop_zero]
        repeat
          (first
           | (apply P_move; (iterate 3 exact rfl)) | (apply P_assign; (iterate 3 exact rfl)) | (apply P_ar; (iterate 3 exact rfl); (focus omega); (focus omega); (iterate 2 exact rfl)) | apply EL.nil
           | ((with_reducible apply EK.then_normal); apply EK.code)
           | (with_reducible first | apply EC.seq | apply EC.region | apply EC.skip | apply EC.label | apply EC.block | apply EC.exit | apply EC.ret | apply EK.in_normal | apply EK.in_same | apply EK.in_ret | apply EK.then_ret | apply EK.then_exit))
        refine EK.again ⟨(i + 1, v'), hlt⟩ (by dsimp only; omega) ?_
        dsimp only
        rw [htk]
        simp only [Int.natCast_add]
        exact (Le.keep (by repeat first | exact trivial | refine ⟨rfl, ?_⟩) (by repeat first | exact List.nil_sublist _ | apply List.Sublist.cons_cons | apply List.Sublist.cons) (by simp))
      · have hie : i = l.length := by omega
        rw [show l.take i = l by rw [hie, List.take_length]]
        refine EC.le (Le.freeze (pre := []) rfl) ?_
        refine EC.le (Le.refine (t := 6) (d' := .sl 2 ((l.map sp).map dPr)) rfl (Rf.fact List.mem_cons_self rfl)) ?_
        simp only [List.nil_append]
        have hNd := fun gb => b_node gb 200 (l.map sp) [] hne (fun z hz => by
          obtain ⟨w, hw, rfl⟩ := List.mem_map.1 hz
          have := not_long hlg hw
          show (split w.1).length < 200
          rw [split_length]
          omega) (fun z hz => by
          obtain ⟨w, hw, rfl⟩ := List.mem_map.1 hz
          have := not_long hlg hw
          show (split w.1).length ≤ _
          rw [split_length]
          omega) (by rw [List.length_map]; omega) (by rw [List.length_map]; simp; omega)
        have h2 := f_rPack (nodeR 200 (l.map sp))
        repeat
          (first
           | (apply P_box; exact rfl; exact rfl; exact rfl; intro gb; refine EL.le (Le.varT (d' := .tup [.sl 33 (([] : List Pr).map dNd), .v (.pointer none), .v (.bool false)]) (by apply Rf.tup; exact RL.cons Rf.sl0 (RL.cons Rf.same (RL.cons Rf.same RL.nil)))) ?_)
           | (apply P_move; (iterate 3 exact rfl)) | (apply P_assign; (iterate 3 exact rfl))
           | (apply P_cmp (b := false); (iterate 2 exact rfl); (focus (first | (simp [cmpI]; done) | (simp [cmpI]; omega))); (iterate 2 exact rfl)) | (apply P_lensl; (iterate 4 exact rfl))
           | (apply P_build; (iterate 7 exact rfl)) | apply EL.nil | ((with_reducible apply EK.then_normal); apply EK.code) | (apply EC.cond_false; exact rfl)
           | (with_reducible first | apply EC.seq | apply EC.region | apply EC.skip | apply EC.label | apply EC.block | apply EC.exit | apply EC.ret | apply EK.in_normal | apply EK.in_same | apply EK.in_ret | apply EK.then_ret | apply EK.then_exit))
        refine P_callAt (hNd gb) [] [_] rfl rfl (RefineL.refl _ _) (by intro _ _; simp [go_sem]) rfl rfl ?_
        rintro _ _ ⟨ns1, hn1, rfl, rfl⟩
        simp only [List.cons_append, List.nil_append]
        rw [List.length_map, List.length_nil] at hn1
        have hpb : packed (nodeR 200 (l.map sp)) = none ∨ packed (nodeR 200 (l.map sp)) = some (pkB (nodeR 200 (l.map sp))) := by
          unfold pkB
          cases h : packed (nodeR 200 (l.map sp)) with
          | none => exact .inl rfl
          | some b => exact .inr rfl
        rcases hpb with hp | hp
        · have h0 : pkB (nodeR 200 (l.map sp)) = [] := by unfold pkB; rw [hp]; rfl
          rw [hp] at h2
          rw [h0]
          unfold packD at h2
          dsimp only at h2
          repeat
            (first
             | (apply P_call (h2); exact rfl; (focus (repeat first | exact RefineL.refl _ _ | exact RL.nil | exact Rf.same | exact Rf.bs0 | exact Rf.sl0 | (apply Rf.fact; (focus (simp; done)); exact rfl) | apply Rf.tup | apply RL.cons)); (focus (intro _ _; simp [go_sem]; done)); (iterate 2 exact rfl))
             | (apply P_move; (iterate 3 exact rfl)) | (apply P_assign; (iterate 3 exact rfl)) | (apply P_extract; (iterate 4 exact rfl)) | apply EL.nil | ((with_reducible apply EK.then_normal); apply EK.code)
             | (with_reducible first | apply EC.seq | apply EC.region | apply EC.skip | apply EC.label | apply EC.block | apply EC.exit | apply EC.ret | apply EK.in_normal | apply EK.in_same | apply EK.in_ret | apply EK.then_ret | apply EK.then_exit))
          have hle := pkB_leB (nodeR 200 (l.map sp))
          refine P_callAt (b_put gb ns1 [] (by omega) (by simp)) [] [_] rfl rfl (by (repeat first | exact RefineL.refl _ _ | exact RL.nil | exact Rf.same | exact Rf.bs0 | exact Rf.sl0 | (apply Rf.fact; (focus (simp; done)); exact rfl) | apply Rf.tup | apply RL.cons)) (by intro _ _; simp [go_sem]) rfl rfl ?_
          rintro _ _ ⟨rfl, rfl⟩
          simp only [List.cons_append, List.nil_append]
          repeat
            (first
             | (apply P_alloc; exact rfl; exact rfl; exact rfl; intro _) | (apply P_store; exact rfl; (focus (repeat first | exact .z | apply SetAt.s | apply SetAtF.s)); (iterate 4 exact rfl)) | apply EL.nil
             | ((with_reducible apply EK.then_normal); apply EK.code)
             | (with_reducible first | apply EC.seq | apply EC.region | apply EC.skip | apply EC.label | apply EC.block | apply EC.exit | apply EC.ret | apply EK.in_normal | apply EK.in_same | apply EK.in_ret | apply EK.then_ret | apply EK.then_exit))
          refine EC.le (Le.pick [2, 0, 1] [_, _, _] rfl (by decide) rfl) ?_
          refine EC.drawC 8 [0, 1, 2, 3, 4, 6, 7] [5] [_] _ (by kernel_rfl) (by kernel_rfl) rfl ?_
          simp only [pickL, List.filterMap_cons, List.filterMap_nil, List.getElem?_cons_zero, List.getElem?_cons_succ]
          repeat
            (first
             | (apply H_move; (iterate 3 exact rfl)) | (apply H_assign; (iterate 3 exact rfl)) | (apply H_field; (iterate 6 exact rfl))
             | (apply H_load; exact rfl; (first | exact I0 | exact I1 | exact I2 | exact I3 | exact I4 | exact I5 | exact I6); (iterate 4 exact rfl)) | (apply H_nilck; (iterate 3 exact rfl)))
          refine EM.nil ?_
          repeat (first | rw [List.cons_append] | rw [List.nil_append])
          refine CH.mut (os := [_]) (rest := []) rfl rfl (m_put (put_store rfl rfl rfl rfl rfl)) ?_
          rintro _ _ ⟨rfl, rfl⟩
          try simp only [St.put]
          repeat (first | rw [List.cons_append] | rw [List.nil_append])
          refine CH.nil ?_
          try simp only [List.drop_succ_cons, List.drop_zero]
          repeat
            (first
             | apply EL.nil | ((with_reducible apply EK.then_normal); apply EK.code)
             | (with_reducible first | apply EC.seq | apply EC.region | apply EC.skip | apply EC.label | apply EC.block | apply EC.exit | apply EC.ret | apply EK.in_normal | apply EK.in_same | apply EK.in_ret | apply EK.then_ret | apply EK.then_exit))
          refine EK.retMc3 0 [] rfl rfl rfl rfl rfl rfl (RefineL.refl _ _) (RefineL.refl _ _) (RefineL.refl _ _) (List.nil_sublist _) ⟨⟨_, rfl⟩, rfl⟩
        · rw [hp] at h2
          unfold packD at h2
          dsimp only at h2
          repeat
            (first
             | (apply P_call (h2); exact rfl; (focus (repeat first | exact RefineL.refl _ _ | exact RL.nil | exact Rf.same | exact Rf.bs0 | exact Rf.sl0 | (apply Rf.fact; (focus (simp; done)); exact rfl) | apply Rf.tup | apply RL.cons)); (focus (intro _ _; simp [go_sem]; done)); (iterate 2 exact rfl))
             | (apply P_move; (iterate 3 exact rfl)) | (apply P_assign; (iterate 3 exact rfl)) | (apply P_extract; (iterate 4 exact rfl)) | apply EL.nil | ((with_reducible apply EK.then_normal); apply EK.code)
             | (with_reducible first | apply EC.seq | apply EC.region | apply EC.skip | apply EC.label | apply EC.block | apply EC.exit | apply EC.ret | apply EK.in_normal | apply EK.in_same | apply EK.in_ret | apply EK.then_ret | apply EK.then_exit))
          have hle := pkB_leB (nodeR 200 (l.map sp))
          refine P_callAt (b_put gb ns1 (pkB (nodeR 200 (l.map sp))) (by omega) (by exact hle)) [] [_] rfl rfl (by (repeat first | exact RefineL.refl _ _ | exact RL.nil | exact Rf.same | exact Rf.bs0 | exact Rf.sl0 | (apply Rf.fact; (focus (simp; done)); exact rfl) | apply Rf.tup | apply RL.cons)) (by intro _ _; simp [go_sem]) rfl rfl ?_
          rintro _ _ ⟨rfl, rfl⟩
          simp only [List.cons_append, List.nil_append]
          repeat
            (first
             | (apply P_alloc; exact rfl; exact rfl; exact rfl; intro _) | (apply P_store; exact rfl; (focus (repeat first | exact .z | apply SetAt.s | apply SetAtF.s)); (iterate 4 exact rfl)) | apply EL.nil
             | ((with_reducible apply EK.then_normal); apply EK.code)
             | (with_reducible first | apply EC.seq | apply EC.region | apply EC.skip | apply EC.label | apply EC.block | apply EC.exit | apply EC.ret | apply EK.in_normal | apply EK.in_same | apply EK.in_ret | apply EK.then_ret | apply EK.then_exit))
          refine EC.le (Le.pick [2, 0, 1] [_, _, _] rfl (by decide) rfl) ?_
          refine EC.drawC 8 [0, 1, 2, 3, 4, 6, 7] [5] [_] _ (by kernel_rfl) (by kernel_rfl) rfl ?_
          simp only [pickL, List.filterMap_cons, List.filterMap_nil, List.getElem?_cons_zero, List.getElem?_cons_succ]
          repeat
            (first
             | (apply H_move; (iterate 3 exact rfl)) | (apply H_assign; (iterate 3 exact rfl)) | (apply H_field; (iterate 6 exact rfl))
             | (apply H_load; exact rfl; (first | exact I0 | exact I1 | exact I2 | exact I3 | exact I4 | exact I5 | exact I6); (iterate 4 exact rfl)) | (apply H_nilck; (iterate 3 exact rfl)))
          refine EM.nil ?_
          repeat (first | rw [List.cons_append] | rw [List.nil_append])
          refine CH.mut (os := [_]) (rest := []) rfl rfl (m_put (put_store rfl rfl rfl rfl rfl)) ?_
          rintro _ _ ⟨rfl, rfl⟩
          try simp only [St.put]
          repeat (first | rw [List.cons_append] | rw [List.nil_append])
          refine CH.nil ?_
          try simp only [List.drop_succ_cons, List.drop_zero]
          repeat
            (first
             | apply EL.nil | ((with_reducible apply EK.then_normal); apply EK.code)
             | (with_reducible first | apply EC.seq | apply EC.region | apply EC.skip | apply EC.label | apply EC.block | apply EC.exit | apply EC.ret | apply EK.in_normal | apply EK.in_same | apply EK.in_ret | apply EK.then_ret | apply EK.then_exit))
          refine EK.retMc3 0 [] rfl rfl rfl rfl rfl rfl (RefineL.refl _ _) (RefineL.refl _ _) (RefineL.refl _ _) (List.nil_sublist _) ⟨⟨_, rfl⟩, rfl⟩
  · rw [if_pos he]
    have hne : (errP l : Int) ≠ 0 := by omega
    repeat
      (first
       | (apply P_call (hM); exact rfl; (focus (repeat first | exact RefineL.refl _ _ | exact RL.nil | exact Rf.same | exact Rf.bs0 | exact Rf.sl0 | (apply Rf.fact; (focus (simp; done)); exact rfl) | apply Rf.tup | apply RL.cons)); (focus (intro _ _; simp [go_sem]; done)); (iterate 2 exact rfl))
       | (apply P_move; (iterate 3 exact rfl)) | (apply P_assign; (iterate 3 exact rfl))
       | (apply P_cmp (b := true); (iterate 2 exact rfl); (focus (first | (simp [cmpI]; done) | (simp [cmpI]; omega))); (iterate 2 exact rfl)) | (apply P_build0; (iterate 5 exact rfl))
       | (apply P_alloc; exact rfl; exact rfl; exact rfl; intro _) | (apply P_store; exact rfl; (focus (repeat first | exact .z | apply SetAt.s | apply SetAtF.s)); (iterate 4 exact rfl)) | apply EL.nil
       | ((with_reducible apply EK.then_normal); apply EK.code) | (apply EC.cond_true; exact rfl)
       | (with_reducible first | apply EC.seq | apply EC.region | apply EC.skip | apply EC.label | apply EC.block | apply EC.exit | apply EC.ret | apply EK.in_normal | apply EK.in_same | apply EK.in_ret | apply EK.then_ret | apply EK.then_exit))
    refine EK.retMc3 0 [] rfl rfl rfl rfl rfl rfl ?_ ?_ ?_ (List.nil_sublist _) ⟨⟨[], rfl⟩, rfl⟩
    · (repeat first | exact RefineL.refl _ _ | exact RL.nil | exact Rf.same | exact Rf.bs0 | exact Rf.sl0 | (apply Rf.fact; (focus (simp; done)); exact rfl) | apply Rf.tup | apply RL.cons)
    · exact RL.cons Rf.sl0 RL.nil
    · (repeat first | exact RefineL.refl _ _ | exact RL.nil | exact Rf.same | exact Rf.bs0 | exact Rf.sl0 | (apply Rf.fact; (focus (simp; done)); exact rfl) | apply Rf.tup | apply RL.cons)
end E
end Go.Proofs.YtmlajcbabimkjaaGreat
