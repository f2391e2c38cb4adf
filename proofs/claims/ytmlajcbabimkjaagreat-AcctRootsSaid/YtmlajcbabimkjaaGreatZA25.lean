/-
  Merged (wip/tools/merge.py): BS1, BS2.
  Conditions: none.
-/
import Derived.Test.YtmlajcbabimkjaaGreatZA24
/-
  The reference's hash, SlotPairs, Slots.
  Conditions: none.
-/
namespace Go.Proofs.YtmlajcbabimkjaaGreat
set_option linter.unusedVariables false
open Go.RowKit Mono Rlp
namespace E
theorem EK.retM2kS {N : Nat} {X : Cx N} {fn : Func} {Φ : R → List Obj → Prop} {S : St} {t u : Tmp} {d e d' e' : D} (os' : List Obj) (hres : fn.results = #[.tmp t, .tmp u]) (hl : look S.regs t = some (.val d)) (hk : look S.regs u = some (.val e)) (hR : RefineL S.facts [d, e] [d', e']) (ho : os'.Sublist S.objs) (hΦ : Φ (.tpl [d', e']) os') : EK X (bodyPost Tryz.prog fn (OutM X Φ) .ret) S := by
  refine EK.le (S' := ⟨S.regs, os', S.facts⟩) ?_ (EK.retM2r hres hl hk hR hΦ)
  exact fun a w h => ⟨h.mem.less ho (fun f hf => hf), fun t r ht => ReadR.mono (fun b hb => ok_less ho hb) (fun _ _ => rfl) (h.regs t r ht), h.size, h.defers⟩
set_option maxRecDepth 20000 in
theorem f_rHash (l : List UInt8) (hl : l.length ≤ 1099511627776) : Fn 68 [.bs l] (· = .val (.bs (hash l))) := by
  have hK := f_Keccak l hl
  refine Fn.walk 7 Tryz.func68 rfl Tryz.ntmps68 (by simp) fun X => ?_
  repeat
    (first
     | (apply P_call (hK); exact rfl; (focus (repeat first | exact RefineL.refl _ _ | exact RL.nil | exact Rf.same | exact Rf.bs0 | exact Rf.sl0 | (apply Rf.fact; (focus (simp; done)); exact rfl) | apply Rf.tup | apply RL.cons)); (focus (intro _ _; simp [go_sem]; done)); (iterate 2 exact rfl))
     | (apply P_move; (iterate 3 exact rfl)) | (apply P_assign; (iterate 3 exact rfl)) | (apply P_alloc; exact rfl; exact rfl; exact rfl; intro _)
     | (apply P_store; exact rfl; (focus (repeat first | exact .z | apply SetAt.s | apply SetAtF.s)); (iterate 4 exact rfl)) | apply EL.nil | ((with_reducible apply EK.then_normal); apply EK.code)
     | (with_reducible first | apply EC.seq | apply EC.region | apply EC.skip | apply EC.label | apply EC.block | apply EC.exit | apply EC.ret | apply EK.in_normal | apply EK.in_same | apply EK.in_ret | apply EK.then_ret | apply EK.then_exit))
  refine EL.le (Le.pin (p := 3) (pre := []) rfl rfl) ?_
  simp only [List.nil_append]
  repeat
    (first
     | (apply P_slpd sl_word; (iterate 6 exact rfl)) | (apply P_assign; (iterate 3 exact rfl)) | apply EL.nil | ((with_reducible apply EK.then_normal); apply EK.code)
     | (with_reducible first | apply EC.seq | apply EC.region | apply EC.skip | apply EC.label | apply EC.block | apply EC.exit | apply EC.ret | apply EK.in_normal | apply EK.in_same | apply EK.in_ret | apply EK.then_ret | apply EK.then_exit))
  exact EK.ret1 rfl rfl rfl
theorem nodup_snoc {α : Type} {l : List α} {x : α} (h : l.Nodup) (hx : x ∉ l) : (l ++ [x]).Nodup := List.nodup_append.2 ⟨h, List.nodup_cons.2 ⟨fun h => (by cases h), List.nodup_nil⟩, fun a ha b hb => by
  rw [List.mem_singleton.1 hb]
  exact fun e => hx (e ▸ ha)⟩
set_option maxRecDepth 20000 in
set_option maxHeartbeats 16000000 in
theorem f_rSlotPairs (l : List Pr) (hs : ∀ s ∈ l, s.1.length = 32 ∧ s.2.length = 32) (hlen : l.length ≤ 1000000) : Fn 44 [.sl 64 (l.map dSlP)] (· = if (l.map (·.1)).Nodup then .tpl [.sl 2 ((l.filterMap slP).map dPr), .v (.bool true)] else .tpl [.sl 2 [], .v (.bool false)]) := by
  have hml : (l.map dSlP).length = l.length := List.length_map _
  refine FnM.toFn ?_
  refine FnM.walk 60 Tryz.func44 rfl Tryz.ntmps44 (by simp) fun X => ?_
  repeat
    (first
     | (apply P_assign; (iterate 3 exact rfl)) | apply EL.nil | ((with_reducible apply EK.then_normal); apply EK.code)
     | (with_reducible first | apply EC.seq | apply EC.region | apply EC.skip | apply EC.label | apply EC.block | apply EC.exit | apply EC.ret | apply EK.in_normal | apply EK.in_same | apply EK.in_ret | apply EK.then_ret | apply EK.then_exit))
  refine EC.le (Le.row 72 2) ?_
  refine EC.loop (ι := {x : Nat × Value // x.1 ≤ l.length ∧ ((l.take x.1).map (·.1)).Nodup})
    (fun x => ⟨[(5, .val (.v (.int .i64 (x.1.1 : Int)))), (4, .val (.v x.1.2)), (0, .val (.sl 64 (l.map dSlP)))], [.row x.1.2 72 2 (((l.take x.1.1).filterMap slP).map dPr)], []⟩)
    (fun x => l.length - x.1.1) ⟨(0, .slice none 0 0), Nat.zero_le _, List.nodup_nil⟩ ?_ ?_
  · exact (Le.keep (by repeat first | exact trivial | refine ⟨rfl, ?_⟩) (by repeat first | exact List.nil_sublist _ | apply List.Sublist.cons_cons | apply List.Sublist.cons) (by simp))
  rintro ⟨⟨i, v⟩, hi, hnd⟩
  dsimp only at hi hnd ⊢
  by_cases hlt : i < l.length
  · have hd : (l.map dSlP)[i]? = some (.tup [.arr 32 l[i].1, .arr 32 l[i].2]) := by rw [List.getElem?_map, List.getElem?_eq_getElem hlt]; rfl
    have htk : l.take (i + 1) = l.take i ++ [l[i]] := List.take_succ_eq_append_getElem hlt
    have hsi := hs _ (List.getElem_mem hlt)
    have hfl : (((l.take i).filterMap slP).map dPr).length ≤ 1000000 := by
      rw [List.length_map]
      exact Nat.le_trans (List.length_filterMap_le _ _) (by rw [List.length_take]; omega)
    repeat
      (first
       | (apply P_move; (iterate 3 exact rfl)) | (apply P_assign; (iterate 3 exact rfl))
       | (apply P_cmp (b := true); (iterate 2 exact rfl); (focus (first | (simp [cmpI]; done) | (simp [cmpI]; omega))); (iterate 2 exact rfl)) | (apply P_lensl; (iterate 4 exact rfl)) | apply EL.nil
       | ((with_reducible apply EK.then_normal); apply EK.code) | (apply EC.cond_true; exact rfl)
       | (with_reducible first | apply EC.seq | apply EC.region | apply EC.skip | apply EC.label | apply EC.block | apply EC.exit | apply EC.ret | apply EK.in_normal | apply EK.in_same | apply EK.in_ret | apply EK.then_ret | apply EK.then_exit))
    refine EC.loop (ι := {k : Nat // k ≤ i ∧ ∀ j, (hj : j < k) → (h : j < l.length) → l[j].1 ≠ l[i].1})
      (fun k => ⟨[(6, .val (.v (.int .i64 (k.1 : Int)))), (5, .val (.v (.int .i64 (i : Int)))), (4, .val (.v v)), (0, .val (.sl 64 (l.map dSlP)))], [.row v 72 2 (((l.take i).filterMap slP).map dPr)], []⟩)
      (fun k => i - k.1) ⟨0, Nat.zero_le _, fun j hj => absurd hj (Nat.not_lt_zero _)⟩ ?_ ?_
    · exact (Le.keep (by repeat first | exact trivial | refine ⟨rfl, ?_⟩) (by repeat first | exact List.nil_sublist _ | apply List.Sublist.cons_cons | apply List.Sublist.cons) (by simp))
    rintro ⟨k, hk, hun⟩
    dsimp only at hk hun ⊢
    by_cases hki : k < i
    · have hkl : k < l.length := by omega
      have hdk : (l.map dSlP)[k]? = some (.tup [.arr 32 l[k].1, .arr 32 l[k].2]) := by rw [List.getElem?_map, List.getElem?_eq_getElem hkl]; rfl
      have hw := (bin_word l[k].1 l[i].1).1
      cases hq : (l[k].1 == l[i].1) with
      | true =>
        rw [hq] at hw
        have hdup : ¬ (l.map (·.1)).Nodup := fun h => by
          have h2 := List.pairwise_iff_getElem.1 h k i (by simpa using hkl) (by simpa using hlt) hki
          simp only [List.getElem_map] at h2
          exact h2 (by simpa using hq)
        rw [if_neg hdup]
        repeat
          (first
           | (apply P_move; (iterate 3 exact rfl)) | (apply P_cmp (b := true); (iterate 2 exact rfl); (focus (first | (simp [cmpI]; done) | (simp [cmpI]; omega))); (iterate 2 exact rfl)) | apply EL.nil
           | ((with_reducible apply EK.then_normal); apply EK.code) | (apply EC.cond_true; exact rfl)
           | (with_reducible first | apply EC.seq | apply EC.region | apply EC.skip | apply EC.label | apply EC.block | apply EC.exit | apply EC.ret | apply EK.in_normal | apply EK.in_same | apply EK.in_ret | apply EK.then_ret | apply EK.then_exit))
        refine EC.draw 11 (by kernel_rfl) ?_
        simp only [List.take_succ_cons, List.take_zero, List.drop_succ_cons, List.drop_zero]
        repeat
          (first
           | (apply H_bin; (iterate 2 exact rfl); exact hw; (iterate 2 exact rfl)) | (apply H_move; (iterate 3 exact rfl)) | (apply H_fieldpd; (iterate 7 exact rfl)) | (apply H_loadpd; (iterate 5 exact rfl))
           | (apply H_index; (iterate 4 exact rfl); (focus (first | exact ⟨by decide, rfl⟩ | (refine ⟨by omega, ?_⟩; rw [Int.toNat_natCast]; assumption))); (iterate 2 exact rfl))
           | ((with_reducible apply EH.nil); exact rfl))
        repeat
          (first
           | (apply P_assign; (iterate 3 exact rfl)) | apply EL.nil | ((with_reducible apply EK.then_normal); apply EK.code) | (apply EC.cond_true; exact rfl)
           | (with_reducible first | apply EC.seq | apply EC.region | apply EC.skip | apply EC.label | apply EC.block | apply EC.exit | apply EC.ret | apply EK.in_normal | apply EK.in_same | apply EK.in_ret | apply EK.then_ret | apply EK.then_exit))
        exact EK.retM2kS [] rfl rfl rfl (RL.cons Rf.sl0 (RL.cons Rf.same RL.nil)) (List.nil_sublist _) ⟨rfl, rfl⟩
      | false =>
        rw [hq] at hw
        repeat
          (first
           | (apply P_move; (iterate 3 exact rfl)) | (apply P_cmp (b := true); (iterate 2 exact rfl); (focus (first | (simp [cmpI]; done) | (simp [cmpI]; omega))); (iterate 2 exact rfl)) | apply EL.nil
           | ((with_reducible apply EK.then_normal); apply EK.code) | (apply EC.cond_true; exact rfl)
           | (with_reducible first | apply EC.seq | apply EC.region | apply EC.skip | apply EC.label | apply EC.block | apply EC.exit | apply EC.ret | apply EK.in_normal | apply EK.in_same | apply EK.in_ret | apply EK.then_ret | apply EK.then_exit))
        refine EC.draw 11 (by kernel_rfl) ?_
        simp only [List.take_succ_cons, List.take_zero, List.drop_succ_cons, List.drop_zero]
        repeat
          (first
           | (apply H_bin; (iterate 2 exact rfl); exact hw; (iterate 2 exact rfl)) | (apply H_move; (iterate 3 exact rfl)) | (apply H_fieldpd; (iterate 7 exact rfl)) | (apply H_loadpd; (iterate 5 exact rfl))
           | (apply H_index; (iterate 4 exact rfl); (focus (first | exact ⟨by decide, rfl⟩ | (refine ⟨by omega, ?_⟩; rw [Int.toNat_natCast]; assumption))); (iterate 2 exact rfl))
           | ((with_reducible apply EH.nil); exact rfl))
        repeat
          (first
           | (apply P_move; (iterate 3 exact rfl)) | (apply P_assign; (iterate 3 exact rfl)) | (apply P_ar; (iterate 3 exact rfl); (focus omega); (focus omega); (iterate 2 exact rfl)) | apply EL.nil
           | ((with_reducible apply EK.then_normal); apply EK.code) | (apply EC.cond_false; exact rfl)
           | (with_reducible first | apply EC.seq | apply EC.region | apply EC.skip | apply EC.label | apply EC.block | apply EC.exit | apply EC.ret | apply EK.in_normal | apply EK.in_same | apply EK.in_ret | apply EK.then_ret | apply EK.then_exit))
        refine EK.again ⟨k + 1, hki, fun j hj h => ?_⟩ (by dsimp only; omega) ?_
        · rcases Nat.lt_or_ge j k with h1 | h1
          · exact hun j h1 h
          · obtain rfl : j = k := by omega
            simpa using hq
        simp only [Int.natCast_add]
        exact (Le.keep (by repeat first | exact trivial | refine ⟨rfl, ?_⟩) (by repeat first | exact List.nil_sublist _ | apply List.Sublist.cons_cons | apply List.Sublist.cons) (by simp))
    · obtain rfl : k = i := by omega
      have hnd2 : ((l.take (k + 1)).map (·.1)).Nodup := by
        rw [htk, List.map_append]
        refine nodup_snoc hnd fun hm => ?_
        obtain ⟨x, hx, e⟩ := List.mem_map.1 hm
        obtain ⟨j, hj, rfl⟩ := List.getElem_of_mem hx
        rw [List.length_take] at hj
        rw [List.getElem_take] at e
        exact hun j (by omega) (by omega) e
      have hfm : ∀ r, slP l[k] = r → (l.take (k + 1)).filterMap slP = (l.take k).filterMap slP ++ r.toList := fun r hr => by
        rw [htk, List.filterMap_append]
        congr 1
        cases r with
        | none => simp [hr]
        | some y => simp [hr]
      have hz := (bin_word l[k].2 zero32).1
      unfold slP at hfm
      by_cases hv : l[k].2 = zero32
      · rw [show (l[k].2 == zero32) = true by simp [hv]] at hz
        have hf2 := hfm none (if_pos hv)
        rw [Option.toList_none, List.append_nil] at hf2
        repeat
          (first
           | (apply P_bin; (iterate 2 exact rfl); exact hz; (iterate 2 exact rfl)) | (apply P_move; (iterate 3 exact rfl)) | (apply P_assign; (iterate 3 exact rfl)) | (apply P_fieldpd; (iterate 7 exact rfl))
           | (apply P_loadpd; (iterate 5 exact rfl)) | (apply P_cmp (b := false); (iterate 2 exact rfl); (focus (first | (simp [cmpI]; done) | (simp [cmpI]; omega))); (iterate 2 exact rfl))
           | (apply P_ar; (iterate 3 exact rfl); (focus omega); (focus omega); (iterate 2 exact rfl))
           | (apply P_index; (iterate 4 exact rfl); (focus (first | exact ⟨by decide, rfl⟩ | (refine ⟨by omega, ?_⟩; rw [Int.toNat_natCast]; assumption))); (iterate 2 exact rfl))
           | (apply P_build0; (iterate 5 exact rfl)) | apply EL.nil | ((with_reducible apply EK.then_normal); apply EK.code) | (apply EC.cond_true; exact rfl) | (apply EC.cond_false; exact rfl)
           | (with_reducible first | apply EC.seq | apply EC.region | apply EC.skip | apply EC.label | apply EC.block | apply EC.exit | apply EC.ret | apply EK.in_normal | apply EK.in_same | apply EK.in_ret | apply EK.then_ret | apply EK.then_exit))
        refine EK.again ⟨(k + 1, v), hlt, hnd2⟩ (by dsimp only; omega) ?_
        dsimp only
        have hf3 : (l.take (k + 1)).filterMap slP = (l.take k).filterMap slP := hf2
        rw [hf3]
        simp only [Int.natCast_add]
        exact (Le.keep (by repeat first | exact trivial | refine ⟨rfl, ?_⟩) (by repeat first | exact List.nil_sublist _ | apply List.Sublist.cons_cons | apply List.Sublist.cons) (by simp))
      · rw [show (l[k].2 == zero32) = false by simp [hv]] at hz
        have hf2 := hfm _ (if_neg hv)
        have hB := f_rBig l[k].2 hsi.2
        have hP := f_rPack (.mk false (strip l[k].2) [])
        rw [pkB_word hsi.2] at hP
        unfold packD at hP
        dsimp only at hP
        have hH := f_rHash l[k].1 (by omega)
        have hf3 : ((l.take (k + 1)).filterMap slP).map dPr = ((l.take k).filterMap slP).map dPr ++ [.tup [.bs (hash l[k].1), .bs (pkB (.mk false (strip l[k].2) []))]] := by
          have : (l.take (k + 1)).filterMap slP = (l.take k).filterMap slP ++ [(hash l[k].1, pkB (.mk false (strip l[k].2) []))] := hf2
          rw [this, List.map_append]
          rfl
        generalize pkB (.mk false (strip l[k].2) []) = pb at hP hf3
        generalize ((l.take k).filterMap slP).map dPr = fl at hfl hf3 ⊢
        repeat
          (first
           | (apply P_bin; (iterate 2 exact rfl); exact hz; (iterate 2 exact rfl))
           | (apply P_call (hB); exact rfl; (focus (repeat first | exact RefineL.refl _ _ | exact RL.nil | exact Rf.same | exact Rf.bs0 | exact Rf.sl0 | (apply Rf.fact; (focus (simp; done)); exact rfl) | apply Rf.tup | apply RL.cons)); (focus (intro _ _; simp [go_sem]; done)); (iterate 2 exact rfl))
           | (apply P_call (hP); exact rfl; (focus (repeat first | exact RefineL.refl _ _ | exact RL.nil | exact Rf.same | exact Rf.bs0 | exact Rf.sl0 | (apply Rf.fact; (focus (simp; done)); exact rfl) | apply Rf.tup | apply RL.cons)); (focus (intro _ _; simp [go_sem]; done)); (iterate 2 exact rfl))
           | (apply P_call (hH); exact rfl; (focus (repeat first | exact RefineL.refl _ _ | exact RL.nil | exact Rf.same | exact Rf.bs0 | exact Rf.sl0 | (apply Rf.fact; (focus (simp; done)); exact rfl) | apply Rf.tup | apply RL.cons)); (focus (intro _ _; simp [go_sem]; done)); (iterate 2 exact rfl))
           | (apply P_slpd sl_word; (iterate 6 exact rfl)) | (apply P_move; (iterate 3 exact rfl)) | (apply P_assign; (iterate 3 exact rfl)) | (apply P_fieldpd; (iterate 7 exact rfl))
           | (apply P_extract; (iterate 4 exact rfl)) | (apply P_loadpd; (iterate 5 exact rfl))
           | (apply P_cmp (b := false); (iterate 2 exact rfl); (focus (first | (simp [cmpI]; done) | (simp [cmpI]; omega))); (iterate 2 exact rfl))
           | (apply P_ar; (iterate 3 exact rfl); (focus omega); (focus omega); (iterate 2 exact rfl))
           | (apply P_index; (iterate 4 exact rfl); (focus (first | exact ⟨by decide, rfl⟩ | (refine ⟨by omega, ?_⟩; rw [Int.toNat_natCast]; assumption))); (iterate 2 exact rfl))
           | (apply P_build; (iterate 7 exact rfl)) | (apply P_build0; (iterate 5 exact rfl)) | (apply P_lit; (iterate 9 exact rfl))
           | ((apply P_append; exact rfl; (focus (repeat first | exact .z | apply SetAt.s | apply SetAtF.s)); (iterate 5 exact rfl); (focus (constructor <;> (first | (simp; done) | (simp; omega))))); intro _)
           | apply EL.nil | ((with_reducible apply EK.then_normal); apply EK.code) | (apply EC.cond_false; exact rfl)
           | (with_reducible first | apply EC.seq | apply EC.region | apply EC.skip | apply EC.label | apply EC.block | apply EC.exit | apply EC.ret | apply EK.in_normal | apply EK.in_same | apply EK.in_ret | apply EK.then_ret | apply EK.then_exit))
        rename_i v2
        refine EK.again ⟨(k + 1, v2), hlt, hnd2⟩ (by dsimp only; omega) ?_
        dsimp only
        rw [hf3]
        simp only [Int.natCast_add]
        exact (Le.keep (by repeat first | exact trivial | refine ⟨rfl, ?_⟩) (by repeat first | exact List.nil_sublist _ | apply List.Sublist.cons_cons | apply List.Sublist.cons) (by simp))
  · obtain rfl : i = l.length := by omega
    have htl : (l.take l.length).filterMap slP = l.filterMap slP := by rw [List.take_length]
    rw [List.take_length] at hnd
    rw [if_pos hnd, htl]
    refine EC.le (Le.freeze (pre := []) rfl) ?_
    simp only [List.nil_append]
    repeat
      (first
       | (apply P_move; (iterate 3 exact rfl)) | (apply P_assign; (iterate 3 exact rfl))
       | (apply P_cmp (b := false); (iterate 2 exact rfl); (focus (first | (simp [cmpI]; done) | (simp [cmpI]; omega))); (iterate 2 exact rfl)) | (apply P_lensl; (iterate 4 exact rfl)) | apply EL.nil
       | ((with_reducible apply EK.then_normal); apply EK.code) | (apply EC.cond_false; exact rfl)
       | (with_reducible first | apply EC.seq | apply EC.region | apply EC.skip | apply EC.label | apply EC.block | apply EC.exit | apply EC.ret | apply EK.in_normal | apply EK.in_same | apply EK.in_ret | apply EK.then_ret | apply EK.then_exit))
    exact EK.retM2kS [] rfl rfl rfl (RL.cons (Rf.fact List.mem_cons_self rfl) (RL.cons Rf.same RL.nil)) (List.nil_sublist _) ⟨rfl, rfl⟩
set_option maxRecDepth 20000 in
set_option maxHeartbeats 4000000 in
theorem f_rSlots (l : List Pr) (hs : ∀ s ∈ l, s.1.length = 32 ∧ s.2.length = 32) (hlen : l.length ≤ 1000000) : Fn 39 [.sl 64 (l.map dSlP)] (· = .tpl [.arr 32 (slRoot l), .v (.int .i64 (slE2 l : Int))]) := by
  have h1 := f_rSlotPairs l hs hlen
  have h2 := f_rTrie (l.filterMap slP)
  rw [rootR_eq] at h2
  unfold slRoot slE2
  refine Fn.walk 25 Tryz.func39 rfl Tryz.ntmps39 (by simp) fun X => ?_
  by_cases hn : (l.map (·.1)).Nodup
  · rw [if_pos hn] at h1
    rw [if_pos hn, if_pos hn]
    repeat
      (first
       | (apply P_call (h1); exact rfl; (focus (repeat first | exact RefineL.refl _ _ | exact RL.nil | exact Rf.same | exact Rf.bs0 | exact Rf.sl0 | (apply Rf.fact; (focus (simp; done)); exact rfl) | apply Rf.tup | apply RL.cons)); (focus (intro _ _; simp [go_sem]; done)); (iterate 2 exact rfl))
       | (apply P_move; (iterate 3 exact rfl)) | (apply P_assign; (iterate 3 exact rfl)) | (apply P_extract; (iterate 4 exact rfl)) | (apply P_not; (iterate 3 exact rfl))
       | (apply P_alloc; exact rfl; exact rfl; exact rfl; intro _) | apply EL.nil | ((with_reducible apply EK.then_normal); apply EK.code) | (apply EC.cond_false; exact rfl)
       | (with_reducible first | apply EC.seq | apply EC.region | apply EC.skip | apply EC.label | apply EC.block | apply EC.exit | apply EC.ret | apply EK.in_normal | apply EK.in_same | apply EK.in_ret | apply EK.then_ret | apply EK.then_exit))
    refine P_callE h2 rfl (RefineL.refl _ _) (by intro _ _; simp [go_sem]) rfl rfl ?_
    rintro _ ⟨ns, rfl⟩
    repeat
      (first
       | (apply P_move; (iterate 3 exact rfl)) | (apply P_assign; (iterate 3 exact rfl)) | (apply P_extract; (iterate 4 exact rfl))
       | (apply P_load; exact rfl; (first | exact I0 | exact I1 | exact I2 | exact I3 | exact I4 | exact I5 | exact I6); (iterate 4 exact rfl)) | (apply P_alloc; exact rfl; exact rfl; exact rfl; intro _)
       | (apply P_store; exact rfl; (focus (repeat first | exact .z | apply SetAt.s | apply SetAtF.s)); (iterate 4 exact rfl)) | apply EL.nil | ((with_reducible apply EK.then_normal); apply EK.code)
       | (with_reducible first | apply EC.seq | apply EC.region | apply EC.skip | apply EC.label | apply EC.block | apply EC.exit | apply EC.ret | apply EK.in_normal | apply EK.in_same | apply EK.in_ret | apply EK.then_ret | apply EK.then_exit))
    refine EK.retc2r 1 rfl rfl rfl rfl rfl ?_ rfl
    (repeat first | exact RefineL.refl _ _ | exact RL.nil | exact Rf.same | exact Rf.bs0 | exact Rf.sl0 | (apply Rf.fact; (focus (simp; done)); exact rfl) | apply Rf.tup | apply RL.cons)
  · rw [if_neg hn] at h1
    rw [if_neg hn, if_neg hn]
    repeat
      (first
       | (apply P_call (h1); exact rfl; (focus (repeat first | exact RefineL.refl _ _ | exact RL.nil | exact Rf.same | exact Rf.bs0 | exact Rf.sl0 | (apply Rf.fact; (focus (simp; done)); exact rfl) | apply Rf.tup | apply RL.cons)); (focus (intro _ _; simp [go_sem]; done)); (iterate 2 exact rfl))
       | (apply P_move; (iterate 3 exact rfl)) | (apply P_assign; (iterate 3 exact rfl)) | (apply P_extract; (iterate 4 exact rfl)) | (apply P_not; (iterate 3 exact rfl))
       | (apply P_build0; (iterate 5 exact rfl)) | (apply P_alloc; exact rfl; exact rfl; exact rfl; intro _)
       | (apply P_store; exact rfl; (focus (repeat first | exact .z | apply SetAt.s | apply SetAtF.s)); (iterate 4 exact rfl)) | apply EL.nil | ((with_reducible apply EK.then_normal); apply EK.code)
       | (apply EC.cond_true; exact rfl)
       | (with_reducible first | apply EC.seq | apply EC.region | apply EC.skip | apply EC.label | apply EC.block | apply EC.exit | apply EC.ret | apply EK.in_normal | apply EK.in_same | apply EK.in_ret | apply EK.then_ret | apply EK.then_exit))
    refine EK.retc2r 0 rfl rfl rfl rfl rfl ?_ rfl
    (repeat first | exact RefineL.refl _ _ | exact RL.nil | exact Rf.same | exact Rf.bs0 | exact Rf.sl0 | (apply Rf.fact; (focus (simp; done)); exact rfl) | apply Rf.tup | apply RL.cons)
end E
end Go.Proofs.YtmlajcbabimkjaaGreat
/-
  The reference's AccountPairs, Root.
  Conditions: none.
-/
namespace Go.Proofs.YtmlajcbabimkjaaGreat
set_option linter.unusedVariables false
open Go.RowKit Mono Rlp
namespace E
def accG (l : List Acc) : Prop := (l.map (·.a)).Nodup ∧ ∀ x ∈ l, 0 ≤ x.n ∧ slE2 x.sl = 0
instance (l : List Acc) : Decidable (accG l) := by unfold accG; infer_instance
theorem acE_zero (x : Acc) : acE x = 0 ↔ (0 ≤ x.n ∧ slE2 x.sl = 0) := by
  unfold acE
  constructor
  · intro h
    split at h
    · omega
    · split at h
      · cases h
      · omega
  · rintro ⟨h1, h2⟩
    rw [if_neg (by omega), if_neg (by omega)]
theorem prE_zero : ∀ (l : List Acc) (seen : List (List UInt8)), prE l seen = 0 ↔ ((l.map (·.a)).Nodup ∧ (∀ x ∈ l, x.a ∉ seen) ∧ ∀ x ∈ l, 0 ≤ x.n ∧ slE2 x.sl = 0)
  | [], seen => by simp [prE]
  | x :: l, seen => by
    rw [prE]
    by_cases hin : x.a ∈ seen
    · rw [if_pos hin]
      constructor
      · intro h; cases h
      · rintro ⟨_, h, _⟩
        exact absurd hin (h x List.mem_cons_self)
    · rw [if_neg hin]
      by_cases ha : acE x = 0
      · rw [if_neg (by omega), prE_zero l (seen ++ [x.a])]
        have hx := (acE_zero x).1 ha
        constructor
        · rintro ⟨h1, h2, h3⟩
          refine ⟨?_, fun y hy => ?_, fun y hy => ?_⟩
          · rw [List.map_cons]
            refine List.nodup_cons.2 ⟨fun hm => ?_, h1⟩
            obtain ⟨y, hy, e⟩ := List.mem_map.1 hm
            exact h2 y hy (by rw [e]; simp)
          · rcases List.mem_cons.1 hy with rfl | hy
            · exact hin
            · exact fun h => h2 y hy (List.mem_append_left _ h)
          · rcases List.mem_cons.1 hy with rfl | hy
            · exact hx
            · exact h3 y hy
        · rintro ⟨h1, h2, h3⟩
          rw [List.map_cons] at h1
          obtain ⟨h4, h5⟩ := List.nodup_cons.1 h1
          refine ⟨h5, fun y hy hm => ?_, fun y hy => h3 y (List.mem_cons_of_mem _ hy)⟩
          rcases List.mem_append.1 hm with hm | hm
          · exact h2 y (List.mem_cons_of_mem _ hy) hm
          · exact h4 (by rw [← List.mem_singleton.1 hm]; exact List.mem_map.2 ⟨y, hy, rfl⟩)
      · rw [if_pos ha]
        constructor
        · intro h; exact absurd h ha
        · rintro ⟨_, _, h⟩
          exact absurd ((acE_zero x).2 (h x List.mem_cons_self)) ha
theorem prE_accG (l : List Acc) : prE l [] = 0 ↔ accG l := by
  rw [prE_zero]
  unfold accG
  constructor
  · rintro ⟨h1, _, h2⟩
    exact ⟨h1, h2⟩
  · rintro ⟨h1, h2⟩
    exact ⟨h1, (fun x _ h => by cases h), h2⟩
theorem prE_le : ∀ (l : List Acc) (seen : List (List UInt8)), (∀ x ∈ l, slE2 x.sl ≤ 1) → prE l seen ≤ 1
  | [], _, _ => Nat.zero_le _
  | x :: l, seen, h => by
    rw [prE]
    have hx := h x List.mem_cons_self
    split
    · exact Nat.le_refl _
    · split
      · unfold acE
        split
        · exact hx
        · split <;> omega
      · exact prE_le l _ fun y hy => h y (List.mem_cons_of_mem _ hy)
set_option maxRecDepth 20000 in
set_option maxHeartbeats 16000000 in
theorem f_rAccPairs (l : List Acc) (hok : ∀ x ∈ l, x.ok) (hcd : ∀ x ∈ l, x.cd.length ≤ 1099511627776) (hlen : l.length ≤ 1000000) : Fn 46 [.sl 55 (l.map dAcc)] (· = if accG l then .tpl [.sl 2 ((l.map acP).map dPr), .v (.int .i64 0)] else .tpl [.sl 2 [], .v (.int .i64 1)]) := by
  have hml : (l.map dAcc).length = l.length := List.length_map _
  refine FnM.toFn ?_
  refine FnM.walk 84 Tryz.func46 rfl Tryz.ntmps46 (by simp) fun X => ?_
  repeat
    (first
     | (apply P_assign; (iterate 3 exact rfl)) | apply EL.nil | ((with_reducible apply EK.then_normal); apply EK.code)
     | (with_reducible first | apply EC.seq | apply EC.region | apply EC.skip | apply EC.label | apply EC.block | apply EC.exit | apply EC.ret | apply EK.in_normal | apply EK.in_same | apply EK.in_ret | apply EK.then_ret | apply EK.then_exit))
  refine EC.le (Le.row 72 2) ?_
  refine EC.loop (ι := {x : Nat × Value // x.1 ≤ l.length ∧ ((l.take x.1).map (·.a)).Nodup ∧ ∀ y ∈ l.take x.1, 0 ≤ y.n ∧ slE2 y.sl = 0})
    (fun x => ⟨[(5, .val (.v (.int .i64 (x.1.1 : Int)))), (4, .val (.v x.1.2)), (0, .val (.sl 55 (l.map dAcc)))], [.row x.1.2 72 2 (((l.take x.1.1).map acP).map dPr)], []⟩)
    (fun x => l.length - x.1.1) ⟨(0, .slice none 0 0), Nat.zero_le _, List.nodup_nil, fun y hy => by simp at hy⟩ ?_ ?_
  · exact (Le.keep (by repeat first | exact trivial | refine ⟨rfl, ?_⟩) (by repeat first | exact List.nil_sublist _ | apply List.Sublist.cons_cons | apply List.Sublist.cons) (by simp))
  rintro ⟨⟨i, v⟩, hi, hnd, hgd⟩
  dsimp only at hi hnd hgd ⊢
  by_cases hlt : i < l.length
  · have hd : (l.map dAcc)[i]? = some (.tup [.arr 20 l[i].a, .v (.int .i64 l[i].n), .arr 32 l[i].w, .bs l[i].cd, .sl 64 (l[i].sl.map dSlP)]) := by rw [List.getElem?_map, List.getElem?_eq_getElem hlt]; rfl
    have htk : l.take (i + 1) = l.take i ++ [l[i]] := List.take_succ_eq_append_getElem hlt
    have hx := hok _ (List.getElem_mem hlt)
    have hfl : (((l.take i).map acP).map dPr).length = i := by
      rw [List.length_map, List.length_map, List.length_take]
      omega
    repeat
      (first
       | (apply P_move; (iterate 3 exact rfl)) | (apply P_assign; (iterate 3 exact rfl))
       | (apply P_cmp (b := true); (iterate 2 exact rfl); (focus (first | (simp [cmpI]; done) | (simp [cmpI]; omega))); (iterate 2 exact rfl)) | (apply P_lensl; (iterate 4 exact rfl)) | apply EL.nil
       | ((with_reducible apply EK.then_normal); apply EK.code) | (apply EC.cond_true; exact rfl)
       | (with_reducible first | apply EC.seq | apply EC.region | apply EC.skip | apply EC.label | apply EC.block | apply EC.exit | apply EC.ret | apply EK.in_normal | apply EK.in_same | apply EK.in_ret | apply EK.then_ret | apply EK.then_exit))
    refine EC.loop (ι := {k : Nat // k ≤ i ∧ ∀ j, (hj : j < k) → (h : j < l.length) → l[j].a ≠ l[i].a})
      (fun k => ⟨[(6, .val (.v (.int .i64 (k.1 : Int)))), (5, .val (.v (.int .i64 (i : Int)))), (4, .val (.v v)), (0, .val (.sl 55 (l.map dAcc)))], [.row v 72 2 (((l.take i).map acP).map dPr)], []⟩)
      (fun k => i - k.1) ⟨0, Nat.zero_le _, fun j hj => absurd hj (Nat.not_lt_zero _)⟩ ?_ ?_
    · exact (Le.keep (by repeat first | exact trivial | refine ⟨rfl, ?_⟩) (by repeat first | exact List.nil_sublist _ | apply List.Sublist.cons_cons | apply List.Sublist.cons) (by simp))
    rintro ⟨k, hk, hun⟩
    dsimp only at hk hun ⊢
    by_cases hki : k < i
    · have hkl : k < l.length := by omega
      have hdk : (l.map dAcc)[k]? = some (.tup [.arr 20 l[k].a, .v (.int .i64 l[k].n), .arr 32 l[k].w, .bs l[k].cd, .sl 64 (l[k].sl.map dSlP)]) := by rw [List.getElem?_map, List.getElem?_eq_getElem hkl]; rfl
      have hw := (bin_addr l[k].a l[i].a).1
      cases hq : (l[k].a == l[i].a) with
      | true =>
        rw [hq] at hw
        have hdup : ¬ accG l := fun hg => by
          have h2 := List.pairwise_iff_getElem.1 hg.1 k i (by simpa using hkl) (by simpa using hlt) hki
          simp only [List.getElem_map] at h2
          exact h2 (by simpa using hq)
        rw [if_neg hdup]
        repeat
          (first
           | (apply P_move; (iterate 3 exact rfl)) | (apply P_cmp (b := true); (iterate 2 exact rfl); (focus (first | (simp [cmpI]; done) | (simp [cmpI]; omega))); (iterate 2 exact rfl)) | apply EL.nil
           | ((with_reducible apply EK.then_normal); apply EK.code) | (apply EC.cond_true; exact rfl)
           | (with_reducible first | apply EC.seq | apply EC.region | apply EC.skip | apply EC.label | apply EC.block | apply EC.exit | apply EC.ret | apply EK.in_normal | apply EK.in_same | apply EK.in_ret | apply EK.then_ret | apply EK.then_exit))
        refine EC.draw 11 (by kernel_rfl) ?_
        simp only [List.take_succ_cons, List.take_zero, List.drop_succ_cons, List.drop_zero]
        repeat
          (first
           | (apply H_bin; (iterate 2 exact rfl); exact hw; (iterate 2 exact rfl)) | (apply H_move; (iterate 3 exact rfl)) | (apply H_fieldpd; (iterate 7 exact rfl)) | (apply H_loadpd; (iterate 5 exact rfl))
           | (apply H_index; (iterate 4 exact rfl); (focus (first | exact ⟨by decide, rfl⟩ | (refine ⟨by omega, ?_⟩; rw [Int.toNat_natCast]; assumption))); (iterate 2 exact rfl))
           | ((with_reducible apply EH.nil); exact rfl))
        repeat
          (first
           | (apply P_assign; (iterate 3 exact rfl)) | apply EL.nil | ((with_reducible apply EK.then_normal); apply EK.code) | (apply EC.cond_true; exact rfl)
           | (with_reducible first | apply EC.seq | apply EC.region | apply EC.skip | apply EC.label | apply EC.block | apply EC.exit | apply EC.ret | apply EK.in_normal | apply EK.in_same | apply EK.in_ret | apply EK.then_ret | apply EK.then_exit))
        exact EK.retM2kS [] rfl rfl rfl (RL.cons Rf.sl0 (RL.cons Rf.same RL.nil)) (List.nil_sublist _) ⟨rfl, rfl⟩
      | false =>
        rw [hq] at hw
        repeat
          (first
           | (apply P_move; (iterate 3 exact rfl)) | (apply P_cmp (b := true); (iterate 2 exact rfl); (focus (first | (simp [cmpI]; done) | (simp [cmpI]; omega))); (iterate 2 exact rfl)) | apply EL.nil
           | ((with_reducible apply EK.then_normal); apply EK.code) | (apply EC.cond_true; exact rfl)
           | (with_reducible first | apply EC.seq | apply EC.region | apply EC.skip | apply EC.label | apply EC.block | apply EC.exit | apply EC.ret | apply EK.in_normal | apply EK.in_same | apply EK.in_ret | apply EK.then_ret | apply EK.then_exit))
        refine EC.draw 11 (by kernel_rfl) ?_
        simp only [List.take_succ_cons, List.take_zero, List.drop_succ_cons, List.drop_zero]
        repeat
          (first
           | (apply H_bin; (iterate 2 exact rfl); exact hw; (iterate 2 exact rfl)) | (apply H_move; (iterate 3 exact rfl)) | (apply H_fieldpd; (iterate 7 exact rfl)) | (apply H_loadpd; (iterate 5 exact rfl))
           | (apply H_index; (iterate 4 exact rfl); (focus (first | exact ⟨by decide, rfl⟩ | (refine ⟨by omega, ?_⟩; rw [Int.toNat_natCast]; assumption))); (iterate 2 exact rfl))
           | ((with_reducible apply EH.nil); exact rfl))
        repeat
          (first
           | (apply P_move; (iterate 3 exact rfl)) | (apply P_assign; (iterate 3 exact rfl)) | (apply P_ar; (iterate 3 exact rfl); (focus omega); (focus omega); (iterate 2 exact rfl)) | apply EL.nil
           | ((with_reducible apply EK.then_normal); apply EK.code) | (apply EC.cond_false; exact rfl)
           | (with_reducible first | apply EC.seq | apply EC.region | apply EC.skip | apply EC.label | apply EC.block | apply EC.exit | apply EC.ret | apply EK.in_normal | apply EK.in_same | apply EK.in_ret | apply EK.then_ret | apply EK.then_exit))
        refine EK.again ⟨k + 1, hki, fun j hj h => ?_⟩ (by dsimp only; omega) ?_
        · rcases Nat.lt_or_ge j k with h1 | h1
          · exact hun j h1 h
          · obtain rfl : j = k := by omega
            simpa using hq
        simp only [Int.natCast_add]
        exact (Le.keep (by repeat first | exact trivial | refine ⟨rfl, ?_⟩) (by repeat first | exact List.nil_sublist _ | apply List.Sublist.cons_cons | apply List.Sublist.cons) (by simp))
    · obtain rfl : k = i := by omega
      have hnd2 : ((l.take (k + 1)).map (·.a)).Nodup := by
        rw [htk, List.map_append]
        refine nodup_snoc hnd fun hm => ?_
        obtain ⟨x, hx, e⟩ := List.mem_map.1 hm
        obtain ⟨j, hj, rfl⟩ := List.getElem_of_mem hx
        rw [List.length_take] at hj
        rw [List.getElem_take] at e
        exact hun j (by omega) (by omega) e
      by_cases hneg : l[k].n < 0
      · rw [if_neg (show ¬ accG l from fun hg => by have := (hg.2 _ (List.getElem_mem hlt)).1; omega)]
        repeat
          (first
           | (apply P_move; (iterate 3 exact rfl)) | (apply P_assign; (iterate 3 exact rfl)) | (apply P_fieldpd; (iterate 7 exact rfl)) | (apply P_loadpd; (iterate 5 exact rfl))
           | (apply P_cmp (b := true); (iterate 2 exact rfl); (focus (first | (simp [cmpI]; done) | (simp [cmpI]; omega))); (iterate 2 exact rfl))
           | (apply P_cmp (b := false); (iterate 2 exact rfl); (focus (first | (simp [cmpI]; done) | (simp [cmpI]; omega))); (iterate 2 exact rfl))
           | (apply P_index; (iterate 4 exact rfl); (focus (first | exact ⟨by decide, rfl⟩ | (refine ⟨by omega, ?_⟩; rw [Int.toNat_natCast]; assumption))); (iterate 2 exact rfl)) | apply EL.nil
           | ((with_reducible apply EK.then_normal); apply EK.code) | (apply EC.cond_true; exact rfl) | (apply EC.cond_false; exact rfl)
           | (with_reducible first | apply EC.seq | apply EC.region | apply EC.skip | apply EC.label | apply EC.block | apply EC.exit | apply EC.ret | apply EK.in_normal | apply EK.in_same | apply EK.in_ret | apply EK.then_ret | apply EK.then_exit))
        exact EK.retM2kS [] rfl rfl rfl (RL.cons Rf.sl0 (RL.cons Rf.same RL.nil)) (List.nil_sublist _) ⟨rfl, rfl⟩
      · have hS := f_rSlots l[k].sl hx.sl hx.len
        by_cases hse : slE2 l[k].sl = 0
        · have hgd2 : ∀ y ∈ l.take (k + 1), 0 ≤ y.n ∧ slE2 y.sl = 0 := fun y hy => by
            rw [htk] at hy
            rcases List.mem_append.1 hy with hy | hy
            · exact hgd y hy
            · rw [List.mem_singleton.1 hy]
              exact ⟨by omega, hse⟩
          rw [hse] at hS
          have hK := f_Keccak l[k].cd (hcd _ (List.getElem_mem hlt))
          have hP := f_rPackBody l[k].n l[k].w (slRoot l[k].sl) (hash l[k].cd) hx.n0 hx.n1 hx.w (slRoot_length _) (hash_length _)
          unfold dBd bodyR at hP
          rw [if_neg hneg] at hP
          have hH := f_rHash l[k].a (by have := hx.a; omega)
          have hf3 : ((l.take (k + 1)).map acP).map dPr = ((l.take k).map acP).map dPr ++ [.tup [.bs (hash l[k].a), .bs (Rlp.E (bodyI l[k].n l[k].w (slRoot l[k].sl) (hash l[k].cd)))]] := by
            rw [htk, List.map_append, List.map_append]
            rfl
          generalize ((l.take k).map acP).map dPr = fl at hfl hf3 ⊢
          generalize Rlp.E (bodyI l[k].n l[k].w (slRoot l[k].sl) (hash l[k].cd)) = eb at hP hf3
          repeat
            (first
             | (apply P_call (hS); exact rfl; (focus (repeat first | exact RefineL.refl _ _ | exact RL.nil | exact Rf.same | exact Rf.bs0 | exact Rf.sl0 | (apply Rf.fact; (focus (simp; done)); exact rfl) | apply Rf.tup | apply RL.cons)); (focus (intro _ _; simp [go_sem]; done)); (iterate 2 exact rfl))
             | (apply P_move; (iterate 3 exact rfl)) | (apply P_assign; (iterate 3 exact rfl)) | (apply P_fieldpd; (iterate 7 exact rfl)) | (apply P_extract; (iterate 4 exact rfl))
             | (apply P_loadpd; (iterate 5 exact rfl)) | (apply P_cmp (b := false); (iterate 2 exact rfl); (focus (first | (simp [cmpI]; done) | (simp [cmpI]; omega))); (iterate 2 exact rfl))
             | (apply P_index; (iterate 4 exact rfl); (focus (first | exact ⟨by decide, rfl⟩ | (refine ⟨by omega, ?_⟩; rw [Int.toNat_natCast]; assumption))); (iterate 2 exact rfl))
             | (apply P_alloc; exact rfl; exact rfl; exact rfl; intro _) | (apply P_store; exact rfl; (focus (repeat first | exact .z | apply SetAt.s | apply SetAtF.s)); (iterate 4 exact rfl)) | apply EL.nil
             | ((with_reducible apply EK.then_normal); apply EK.code) | (apply EC.cond_false; exact rfl)
             | (with_reducible first | apply EC.seq | apply EC.region | apply EC.skip | apply EC.label | apply EC.block | apply EC.exit | apply EC.ret | apply EK.in_normal | apply EK.in_same | apply EK.in_ret | apply EK.then_ret | apply EK.then_exit))
          refine EC.draw 24 (by kernel_rfl) ?_
          simp only [List.take_succ_cons, List.take_zero, List.drop_succ_cons, List.drop_zero]
          repeat
            (first
             | (apply H_call (hK); exact rfl; (focus (repeat first | exact RefineL.refl _ _ | exact RL.nil | exact Rf.same | exact Rf.bs0 | exact Rf.sl0 | (apply Rf.fact; (focus (simp; done)); exact rfl) | apply Rf.tup | apply RL.cons)); (focus (intro _ _; simp [go_sem]; done)); (iterate 2 exact rfl))
             | (apply H_call (hP); exact rfl; (focus (repeat first | exact RefineL.refl _ _ | exact RL.nil | exact Rf.same | exact Rf.bs0 | exact Rf.sl0 | (apply Rf.fact; (focus (simp; done)); exact rfl) | apply Rf.tup | apply RL.cons)); (focus (intro _ _; simp [go_sem]; done)); (iterate 2 exact rfl))
             | (apply H_move; (iterate 3 exact rfl)) | (apply H_assign; (iterate 3 exact rfl)) | (apply H_fieldpd; (iterate 7 exact rfl)) | (apply H_extract; (iterate 4 exact rfl))
             | (apply H_loadpd; (iterate 5 exact rfl)) | (apply H_load; exact rfl; (first | exact I0 | exact I1 | exact I2 | exact I3 | exact I4 | exact I5 | exact I6); (iterate 4 exact rfl))
             | (apply H_index; (iterate 4 exact rfl); (focus (first | exact ⟨by decide, rfl⟩ | (refine ⟨by omega, ?_⟩; rw [Int.toNat_natCast]; assumption))); (iterate 2 exact rfl))
             | (apply H_build; (iterate 7 exact rfl)) | ((with_reducible apply EH.nil); exact rfl))
          repeat
            (first
             | (apply P_call (hH); exact rfl; (focus (repeat first | exact RefineL.refl _ _ | exact RL.nil | exact Rf.same | exact Rf.bs0 | exact Rf.sl0 | (apply Rf.fact; (focus (simp; done)); exact rfl) | apply Rf.tup | apply RL.cons)); (focus (intro _ _; simp [go_sem]; done)); (iterate 2 exact rfl))
             | (apply P_slpd sl_addrT; (iterate 6 exact rfl)) | (apply P_move; (iterate 3 exact rfl)) | (apply P_assign; (iterate 3 exact rfl)) | (apply P_fieldpd; (iterate 7 exact rfl))
             | (apply P_ar; (iterate 3 exact rfl); (focus omega); (focus omega); (iterate 2 exact rfl))
             | (apply P_index; (iterate 4 exact rfl); (focus (first | exact ⟨by decide, rfl⟩ | (refine ⟨by omega, ?_⟩; rw [Int.toNat_natCast]; assumption))); (iterate 2 exact rfl))
             | (apply P_build; (iterate 7 exact rfl)) | (apply P_lit; (iterate 9 exact rfl))
             | ((apply P_append; exact rfl; (focus (repeat first | exact .z | apply SetAt.s | apply SetAtF.s)); (iterate 5 exact rfl); (focus (constructor <;> (first | (simp; done) | (simp; omega))))); intro _)
             | apply EL.nil | ((with_reducible apply EK.then_normal); apply EK.code)
             | (with_reducible first | apply EC.seq | apply EC.region | apply EC.skip | apply EC.label | apply EC.block | apply EC.exit | apply EC.ret | apply EK.in_normal | apply EK.in_same | apply EK.in_ret | apply EK.then_ret | apply EK.then_exit))
          rename_i v2
          refine EK.again ⟨(k + 1, v2), hlt, hnd2, hgd2⟩ (by dsimp only; omega) ?_
          dsimp only
          rw [hf3]
          simp only [Int.natCast_add]
          exact (Le.keep (by repeat first | exact trivial | refine ⟨rfl, ?_⟩) (by repeat first | exact List.nil_sublist _ | apply List.Sublist.cons_cons | apply List.Sublist.cons) (by simp))
        · rw [if_neg (show ¬ accG l from fun hg => hse (hg.2 _ (List.getElem_mem hlt)).2)]
          have hsi : (slE2 l[k].sl : Int) ≠ 0 := by omega
          repeat
            (first
             | (apply P_call (hS); exact rfl; (focus (repeat first | exact RefineL.refl _ _ | exact RL.nil | exact Rf.same | exact Rf.bs0 | exact Rf.sl0 | (apply Rf.fact; (focus (simp; done)); exact rfl) | apply Rf.tup | apply RL.cons)); (focus (intro _ _; simp [go_sem]; done)); (iterate 2 exact rfl))
             | (apply P_move; (iterate 3 exact rfl)) | (apply P_assign; (iterate 3 exact rfl)) | (apply P_fieldpd; (iterate 7 exact rfl)) | (apply P_extract; (iterate 4 exact rfl))
             | (apply P_loadpd; (iterate 5 exact rfl)) | (apply P_cmp (b := true); (iterate 2 exact rfl); (focus (first | (simp [cmpI]; done) | (simp [cmpI]; omega))); (iterate 2 exact rfl))
             | (apply P_cmp (b := false); (iterate 2 exact rfl); (focus (first | (simp [cmpI]; done) | (simp [cmpI]; omega))); (iterate 2 exact rfl))
             | (apply P_index; (iterate 4 exact rfl); (focus (first | exact ⟨by decide, rfl⟩ | (refine ⟨by omega, ?_⟩; rw [Int.toNat_natCast]; assumption))); (iterate 2 exact rfl))
             | (apply P_alloc; exact rfl; exact rfl; exact rfl; intro _) | (apply P_store; exact rfl; (focus (repeat first | exact .z | apply SetAt.s | apply SetAtF.s)); (iterate 4 exact rfl)) | apply EL.nil
             | ((with_reducible apply EK.then_normal); apply EK.code) | (apply EC.cond_true; exact rfl) | (apply EC.cond_false; exact rfl)
             | (with_reducible first | apply EC.seq | apply EC.region | apply EC.skip | apply EC.label | apply EC.block | apply EC.exit | apply EC.ret | apply EK.in_normal | apply EK.in_same | apply EK.in_ret | apply EK.then_ret | apply EK.then_exit))
          exact EK.retM2kS [] rfl rfl rfl (RL.cons Rf.sl0 (RL.cons Rf.same RL.nil)) (List.nil_sublist _) ⟨rfl, rfl⟩
  · obtain rfl : i = l.length := by omega
    have htl : (l.take l.length).map acP = l.map acP := by rw [List.take_length]
    rw [List.take_length] at hnd hgd
    rw [if_pos (show accG l from ⟨hnd, hgd⟩), htl]
    refine EC.le (Le.freeze (pre := []) rfl) ?_
    simp only [List.nil_append]
    repeat
      (first
       | (apply P_move; (iterate 3 exact rfl)) | (apply P_assign; (iterate 3 exact rfl))
       | (apply P_cmp (b := false); (iterate 2 exact rfl); (focus (first | (simp [cmpI]; done) | (simp [cmpI]; omega))); (iterate 2 exact rfl)) | (apply P_lensl; (iterate 4 exact rfl)) | apply EL.nil
       | ((with_reducible apply EK.then_normal); apply EK.code) | (apply EC.cond_false; exact rfl)
       | (with_reducible first | apply EC.seq | apply EC.region | apply EC.skip | apply EC.label | apply EC.block | apply EC.exit | apply EC.ret | apply EK.in_normal | apply EK.in_same | apply EK.in_ret | apply EK.then_ret | apply EK.then_exit))
    exact EK.retM2kS [] rfl rfl rfl (RL.cons (Rf.fact List.mem_cons_self rfl) (RL.cons Rf.same RL.nil)) (List.nil_sublist _) ⟨rfl, rfl⟩
set_option maxRecDepth 20000 in
set_option maxHeartbeats 4000000 in
theorem f_rRoot (l : List Acc) (hok : ∀ x ∈ l, x.ok) (hcd : ∀ x ∈ l, x.cd.length ≤ 1099511627776) (hlen : l.length ≤ 1000000) (hse : ∀ x ∈ l, slE2 x.sl ≤ 1) : Fn 37 [.sl 55 (l.map dAcc)] (· = .tpl [.arr 32 (rootA l), .v (.int .i64 (errA l : Int))]) := by
  have h1 := f_rAccPairs l hok hcd hlen
  have h2 := f_rTrie (l.map acP)
  rw [rootR_eq] at h2
  have hle := prE_le l [] hse
  unfold rootA errA
  refine Fn.walk 26 Tryz.func37 rfl Tryz.ntmps37 (by simp) fun X => ?_
  by_cases hg : accG l
  · have hz := (prE_accG l).2 hg
    rw [if_pos hg] at h1
    rw [if_pos hz, if_pos hz]
    repeat
      (first
       | (apply P_call (h1); exact rfl; (focus (repeat first | exact RefineL.refl _ _ | exact RL.nil | exact Rf.same | exact Rf.bs0 | exact Rf.sl0 | (apply Rf.fact; (focus (simp; done)); exact rfl) | apply Rf.tup | apply RL.cons)); (focus (intro _ _; simp [go_sem]; done)); (iterate 2 exact rfl))
       | (apply P_move; (iterate 3 exact rfl)) | (apply P_assign; (iterate 3 exact rfl)) | (apply P_extract; (iterate 4 exact rfl))
       | (apply P_cmp (b := false); (iterate 2 exact rfl); (focus (first | (simp [cmpI]; done) | (simp [cmpI]; omega))); (iterate 2 exact rfl)) | (apply P_alloc; exact rfl; exact rfl; exact rfl; intro _)
       | apply EL.nil | ((with_reducible apply EK.then_normal); apply EK.code) | (apply EC.cond_false; exact rfl)
       | (with_reducible first | apply EC.seq | apply EC.region | apply EC.skip | apply EC.label | apply EC.block | apply EC.exit | apply EC.ret | apply EK.in_normal | apply EK.in_same | apply EK.in_ret | apply EK.then_ret | apply EK.then_exit))
    refine P_callE h2 rfl (RefineL.refl _ _) (by intro _ _; simp [go_sem]) rfl rfl ?_
    rintro _ ⟨ns, rfl⟩
    repeat
      (first
       | (apply P_move; (iterate 3 exact rfl)) | (apply P_assign; (iterate 3 exact rfl)) | (apply P_extract; (iterate 4 exact rfl))
       | (apply P_load; exact rfl; (first | exact I0 | exact I1 | exact I2 | exact I3 | exact I4 | exact I5 | exact I6); (iterate 4 exact rfl)) | (apply P_alloc; exact rfl; exact rfl; exact rfl; intro _)
       | (apply P_store; exact rfl; (focus (repeat first | exact .z | apply SetAt.s | apply SetAtF.s)); (iterate 4 exact rfl)) | apply EL.nil | ((with_reducible apply EK.then_normal); apply EK.code)
       | (with_reducible first | apply EC.seq | apply EC.region | apply EC.skip | apply EC.label | apply EC.block | apply EC.exit | apply EC.ret | apply EK.in_normal | apply EK.in_same | apply EK.in_ret | apply EK.then_ret | apply EK.then_exit))
    refine EK.retc2r 1 rfl rfl rfl rfl rfl ?_ rfl
    (repeat first | exact RefineL.refl _ _ | exact RL.nil | exact Rf.same | exact Rf.bs0 | exact Rf.sl0 | (apply Rf.fact; (focus (simp; done)); exact rfl) | apply Rf.tup | apply RL.cons)
  · have hz : prE l [] ≠ 0 := fun h => hg ((prE_accG l).1 h)
    have h1e : prE l [] = 1 := by omega
    rw [if_neg hg] at h1
    rw [if_neg hz, if_neg hz, h1e]
    repeat
      (first
       | (apply P_call (h1); exact rfl; (focus (repeat first | exact RefineL.refl _ _ | exact RL.nil | exact Rf.same | exact Rf.bs0 | exact Rf.sl0 | (apply Rf.fact; (focus (simp; done)); exact rfl) | apply Rf.tup | apply RL.cons)); (focus (intro _ _; simp [go_sem]; done)); (iterate 2 exact rfl))
       | (apply P_move; (iterate 3 exact rfl)) | (apply P_assign; (iterate 3 exact rfl)) | (apply P_extract; (iterate 4 exact rfl))
       | (apply P_cmp (b := true); (iterate 2 exact rfl); (focus (first | (simp [cmpI]; done) | (simp [cmpI]; omega))); (iterate 2 exact rfl)) | (apply P_build0; (iterate 5 exact rfl))
       | (apply P_alloc; exact rfl; exact rfl; exact rfl; intro _) | (apply P_store; exact rfl; (focus (repeat first | exact .z | apply SetAt.s | apply SetAtF.s)); (iterate 4 exact rfl)) | apply EL.nil
       | ((with_reducible apply EK.then_normal); apply EK.code) | (apply EC.cond_true; exact rfl)
       | (with_reducible first | apply EC.seq | apply EC.region | apply EC.skip | apply EC.label | apply EC.block | apply EC.exit | apply EC.ret | apply EK.in_normal | apply EK.in_same | apply EK.in_ret | apply EK.then_ret | apply EK.then_exit))
    refine EK.retc2r 0 rfl rfl rfl rfl rfl ?_ rfl
    (repeat first | exact RefineL.refl _ _ | exact RL.nil | exact Rf.same | exact Rf.bs0 | exact Rf.sl0 | (apply Rf.fact; (focus (simp; done)); exact rfl) | apply Rf.tup | apply RL.cons)
end E
end Go.Proofs.YtmlajcbabimkjaaGreat
