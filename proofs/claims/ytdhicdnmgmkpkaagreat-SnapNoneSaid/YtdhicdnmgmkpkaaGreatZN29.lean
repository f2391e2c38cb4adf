/-
  Merged (wip/tools/merge.py): SN6, RT8, SNB, SP9, Open, OpenAll, OpenWord, OpenW, OpenSh.
  Conditions: none.
-/
import Derived.Test.YtdhicdnmgmkpkaaGreatZN27
import Derived.Test.YtdhicdnmgmkpkaaGreatZN28
import Derived.Test.YtdhicdnmgmkpkaaGreatZN17
import Derived.Test.YtdhicdnmgmkpkaaGreatZN18
import Derived.Test.YtdhicdnmgmkpkaaGreatZN2
import Derived.OpenShut
import Derived.Deep.Slices
import Derived.ChangeSame
import Derived.SizedLaws
/-
  The law's alive (chapter 25).
  Conditions: none.
-/
namespace Go.Proofs.YtdhicdnmgmkpkaaGreat
set_option linter.unusedVariables false
open Go.RowKit Mono Rlp Wd Go.Sort
namespace E
theorem canon_nil {L : List AcL} (h : Canon (newA []) L) : L = [] := by
  refine List.eq_nil_iff_forall_not_mem.2 fun x hx => ?_
  exact (h.mem x hx).2 rfl
theorem of12 : (ofW 1 == ofW 2) = false := by decide
abbrev al1 : List Ent := [(0, ofW 1, dLay zero32 [])]
abbrev al2 : List Ent := [(0, ofW 1, dLay zero32 []), (1, ofW 2, dLay (ofW 1) [])]
theorem put_al1 : putE 0 [] (ofW 1) (dLay zero32 []) = al1 := rfl
theorem tick_al1 : tickE 0 [] (ofW 1) = 1 := rfl
theorem has_al1 : hasE al1 (ofW 2) = false := by simp [hasE, of12]
theorem put_al2 : putE 1 al1 (ofW 2) (dLay (ofW 1) []) = al2 := by unfold putE; rw [has_al1]; rfl
theorem tick_al2 : tickE 1 al1 (ofW 2) = 2 := by unfold tickE; rw [has_al1]; rfl
theorem sort_one (k : List UInt8) : sortL [k] = [k] := by simp [sortL]
set_option maxRecDepth 20000 in
set_option maxHeartbeats 8000000 in
theorem alive25 : FnM 23 [] [] (fun r os' => r = .val (.v (.bool true)) ∧ os' = []) := by
  have o1 : Fn 47 [.v (.int .i64 1)] (· = .val (.arr 32 (ofW 1))) := f_Of 1 (by omega)
  have o2 : Fn 47 [.v (.int .i64 2)] (· = .val (.arr 32 (ofW 2))) := f_Of 2 (by omega)
  have n0 := f_num 0
  have hnew := snew [] (ofW 1) (by simp) (by simp)
  refine FnM.walk 38 Tryz.func23 rfl Tryz.ntmps23 (by simp) fun X => ?_
  repeat
    (first
     | (apply P_call (o1); exact rfl; (focus (repeat first | exact RefineL.refl _ _ | exact RL.nil | exact Rf.same | exact Rf.bs0 | exact Rf.sl0 | (apply Rf.fact; (focus (simp; done)); exact rfl) | apply Rf.tup | apply RL.cons)); (focus (intro _ _; simp [go_sem]; done)); (iterate 2 exact rfl))
     | (apply P_assign; (iterate 3 exact rfl)) | apply EL.nil | ((with_reducible apply EK.then_normal); apply EK.code)
     | (with_reducible first | apply EC.seq | apply EC.region | apply EC.skip | apply EC.label | apply EC.block | apply EC.exit | apply EC.ret | apply EK.in_normal | apply EK.in_same | apply EK.in_ret | apply EK.then_ret | apply EK.then_exit))
  refine P_callM (os := []) hnew rfl rfl (by (repeat first | exact RefineL.refl _ _ | exact RL.nil | exact Rf.same | exact Rf.bs0 | exact Rf.sl0 | (apply Rf.fact; (focus (simp; done)); exact rfl) | apply Rf.tup | apply RL.cons)) (by intro _ _; simp [go_sem]) rfl rfl ?_
  rintro _ _ ⟨g, m, L, hL, _, _, rfl, rfl⟩
  obtain rfl := canon_nil hL
  simp only [List.cons_append, List.nil_append]
  rw [put_al1, tick_al1]
  have hnn := (bin_nil (T := 48) (by kernel_rfl) (some ⟨g, 0, none⟩)).1
  have e1 : getE al1 (ofW 2) = none := by simp [getE, of12]
  have e2 : getE al1 (ofW 1) = some (dLay zero32 []) := by simp [getE]
  have hadd := sadd (g := g) (m := m) (c := 1) (base := ofW 1) [] e1 e2 (by simp) (by simp) (by simp) (by simp)
  have e3 : getE al2 (ofW 2) = some (dLay (ofW 1) []) := by simp [getE, of12]
  have hfl := sflat (g := g) (m := m) (c := 2) (base := ofW 1) (id := ofW 2) (es := al2) (fun k => k == ofW 2) (fun e he => by
    simp only [List.mem_cons, List.not_mem_nil, or_false] at he
    rcases he with rfl | rfl
    · rw [of12]
      exact from_base (by simp [bne, of12])
    · rw [beq_self_eq_true]
      exact from_same) e3 (by simp)
  have hf1 : (al2.filter fun e => !(e.2.1 == ofW 2)) = [(0, ofW 1, dLay zero32 [])] := by simp [of12]
  have hf2 : (al2.filter fun e => e.2.1 == ofW 2) = [(1, ofW 2, dLay (ofW 1) [])] := by simp [of12]
  rw [hf1, hf2, List.map_cons, List.map_nil, sort_one] at hfl
  have hly := slayers (g := g) (m := m) (c := 2) (base := ofW 2) (es := [(1, ofW 2, dLay (ofW 1) [])]) (K1 := []) (K2 := []) (by rw [List.map_cons, List.map_nil, sort_one]; rfl) (by simp) (by simp)
  have hbs := sbase (g := g) (m := m) (c := 2) (base := ofW 2) (es := [(1, ofW 2, dLay (ofW 1) [])])
  have heq := (bin_word (ofW 2) (ofW 2)).1
  rw [beq_self_eq_true] at heq
  repeat
    (first
     | (apply P_call (o1); exact rfl; (focus (repeat first | exact RefineL.refl _ _ | exact RL.nil | exact Rf.same | exact Rf.bs0 | exact Rf.sl0 | (apply Rf.fact; (focus (simp; done)); exact rfl) | apply Rf.tup | apply RL.cons)); (focus (intro _ _; simp [go_sem]; done)); (iterate 2 exact rfl))
     | (apply P_call (o2); exact rfl; (focus (repeat first | exact RefineL.refl _ _ | exact RL.nil | exact Rf.same | exact Rf.bs0 | exact Rf.sl0 | (apply Rf.fact; (focus (simp; done)); exact rfl) | apply Rf.tup | apply RL.cons)); (focus (intro _ _; simp [go_sem]; done)); (iterate 2 exact rfl))
     | (apply P_bin; (iterate 2 exact rfl); exact hnn; (iterate 2 exact rfl)) | (apply P_move; (iterate 3 exact rfl)) | (apply P_assign; (iterate 3 exact rfl)) | (apply P_build; (iterate 7 exact rfl))
     | apply EL.nil | ((with_reducible apply EK.then_normal); apply EK.code) | (apply EC.cond_false; exact rfl)
     | (with_reducible first | apply EC.seq | apply EC.region | apply EC.skip | apply EC.label | apply EC.block | apply EC.exit | apply EC.ret | apply EK.in_normal | apply EK.in_same | apply EK.in_ret | apply EK.then_ret | apply EK.then_exit))
  refine P_callM (os := [tO g m (ofW 1), .map m 32 1 al1]) hadd rfl rfl (by (repeat first | exact RefineL.refl _ _ | exact RL.nil | exact Rf.same | exact Rf.bs0 | exact Rf.sl0 | (apply Rf.fact; (focus (simp; done)); exact rfl) | apply Rf.tup | apply RL.cons)) (by intro _ _; simp [go_sem]) rfl rfl ?_
  rintro _ _ ⟨L', hL', _, _, rfl, rfl⟩
  obtain rfl := canon_nil (show Canon (newA []) L' from hL')
  simp only [List.cons_append, List.nil_append]
  rw [put_al2, tick_al2]
  repeat
    (first
     | (apply P_call (o2); exact rfl; (focus (repeat first | exact RefineL.refl _ _ | exact RL.nil | exact Rf.same | exact Rf.bs0 | exact Rf.sl0 | (apply Rf.fact; (focus (simp; done)); exact rfl) | apply Rf.tup | apply RL.cons)); (focus (intro _ _; simp [go_sem]; done)); (iterate 2 exact rfl))
     | (apply P_move; (iterate 3 exact rfl)) | (apply P_assign; (iterate 3 exact rfl)) | apply EL.nil | ((with_reducible apply EK.then_normal); apply EK.code)
     | (with_reducible first | apply EC.seq | apply EC.region | apply EC.skip | apply EC.label | apply EC.block | apply EC.exit | apply EC.ret | apply EK.in_normal | apply EK.in_same | apply EK.in_ret | apply EK.then_ret | apply EK.then_exit))
  refine P_callM (os := [tO g m (ofW 1), .map m 32 2 al2]) hfl rfl rfl (by (repeat first | exact RefineL.refl _ _ | exact RL.nil | exact Rf.same | exact Rf.bs0 | exact Rf.sl0 | (apply Rf.fact; (focus (simp; done)); exact rfl) | apply Rf.tup | apply RL.cons)) (by intro _ _; simp [go_sem]) rfl rfl ?_
  rintro _ _ ⟨rfl, rfl⟩
  simp only [List.cons_append, List.nil_append]
  repeat
    (first
     | (apply P_call (o2); exact rfl; (focus (repeat first | exact RefineL.refl _ _ | exact RL.nil | exact Rf.same | exact Rf.bs0 | exact Rf.sl0 | (apply Rf.fact; (focus (simp; done)); exact rfl) | apply Rf.tup | apply RL.cons)); (focus (intro _ _; simp [go_sem]; done)); (iterate 2 exact rfl))
     | (apply P_call (n0); exact rfl; (focus (repeat first | exact RefineL.refl _ _ | exact RL.nil | exact Rf.same | exact Rf.bs0 | exact Rf.sl0 | (apply Rf.fact; (focus (simp; done)); exact rfl) | apply Rf.tup | apply RL.cons)); (focus (intro _ _; simp [go_sem]; done)); (iterate 2 exact rfl))
     | (apply P_bin; (iterate 2 exact rfl); exact heq; (iterate 2 exact rfl)) | (apply P_callV hbs [0, 1] [] rfl (by decide) rfl rfl (RefineL.refl _ _) (by intro _ _; simp [go_sem]) rfl rfl)
     | (apply P_callV hly [0, 1] [] rfl (by decide) rfl rfl (RefineL.refl _ _) (by intro _ _; simp [go_sem]) rfl rfl) | (apply P_move; (iterate 3 exact rfl)) | (apply P_assign; (iterate 3 exact rfl))
     | (apply P_extract; (iterate 4 exact rfl)) | (apply P_pick; (iterate 4 exact rfl))
     | (apply P_cmp (b := true); (iterate 2 exact rfl); (focus (first | (simp [cmpI]; done) | (simp [cmpI]; omega))); (iterate 2 exact rfl))
     | (apply P_ar; (iterate 3 exact rfl); (focus omega); (focus omega); (iterate 2 exact rfl)) | (apply P_lensl; (iterate 4 exact rfl)) | apply EL.nil
     | ((with_reducible apply EK.then_normal); apply EK.code)
     | (with_reducible first | apply EC.seq | apply EC.region | apply EC.skip | apply EC.label | apply EC.block | apply EC.exit | apply EC.ret | apply EK.in_normal | apply EK.in_same | apply EK.in_ret | apply EK.then_ret | apply EK.then_exit))
  exact EK.retM1s [] rfl rfl (List.nil_sublist _) ⟨rfl, rfl⟩
end E
end Go.Proofs.YtdhicdnmgmkpkaaGreat
/-
  The reference's SameAccount, SameAccounts: of one account, of one list.
  Conditions: none.
-/
namespace Go.Proofs.YtdhicdnmgmkpkaaGreat
set_option linter.unusedVariables false
open Go.RowKit Mono Rlp Wd
namespace E
def slC1 (p : List UInt8 × List UInt8) : List Value := bvs p.1 ++ bvs p.2
def slOk1 (p : List UInt8 × List UInt8) : Prop := p.1.length = 32 ∧ p.2.length = 32
theorem slot1_of {ok : Nat → Prop} {w : World} {s : List UInt8 × List UInt8} {v : Value} (h : ReadV ok w (dSlL s) v) : v = .agg (slC1 s).toArray ∧ slOk1 s := by
  obtain ⟨cs, h', rfl⟩ := (readV_agg rfl).1 h
  unfold dSlL at h'
  rw [Reads, ReadsL] at h'
  obtain ⟨c1, c2, rfl, h1, h2⟩ := h'
  rw [ReadsL] at h2
  obtain ⟨c3, c4, rfl, h3, h4⟩ := h2
  rw [ReadsL] at h4
  rw [Reads] at h1 h3
  rw [h1.2, h3.2, h4, List.append_nil]
  exact ⟨rfl, h1.1, h3.1⟩
theorem eq_slot1 (w : World) (s : List UInt8 × List UInt8) (hs : slOk1 s) : (Op.equalIn 10000 103 (.agg (slC1 s).toArray) (.agg (slC1 s).toArray)).run Tryz.prog w = .ok true w := by
  rw [show (10000 : Nat) = 9999 + 1 from rfl, run_equalIn_struct w 9999 103 _ _ (by kernel_rfl) (by kernel_rfl)]
  simp only [Program.fieldsOf, Tryz.underlying103]
  have hp : ∀ (x : List UInt8 × List UInt8) (o : Nat) (l : List UInt8), slOk1 x → (o = 0 ∧ l = x.1 ∨ o = 32 ∧ l = x.2) → ∀ w, (part 34 (slC1 x).toArray o).run Tryz.prog w = .ok (arrV l) w := by
    intro x o l hx ho w
    have h1 : (part 34 (slC1 x).toArray o).run Tryz.prog w = .ok (.agg ((slC1 x).toArray.extract o (o + 32))) w := by
      kernel_rfl
    rw [h1]
    have hk : (slC1 x).toArray.extract o (o + 32) = (bvs l).toArray := by
      apply Array.ext'
      rw [Array.toList_extract]
      unfold slC1
      rcases ho with ⟨rfl, rfl⟩ | ⟨rfl, rfl⟩
      · rw [List.extract_eq_take_drop, List.drop_zero, List.take_left' (by rw [bvs_length, hx.1])]
      · rw [List.extract_eq_take_drop, List.drop_left' (by rw [bvs_length, hx.1]), List.take_of_length_le (by rw [bvs_length, hx.2]; decide)]
    rw [hk]
    rfl
  have hW := fun w l hl => eq_arr' (T := 34) (n := 32) 9997 Tryz.underlying34 Tryz.underlying5 (fun w => by kernel_rfl) w l l hl hl
  simp only [Op.eqFields, ne_eq, String.reduceEq, not_false_eq_true, if_true, Sem.run_bind, hp s 0 s.1 hs (.inl ⟨rfl, rfl⟩), Result.andThen_ok, hW _ _ hs.1, beq_self_eq_true]
  simp [hW _ _ hs.2, Sem.run_bind, hp s 32 s.2 hs (.inr ⟨rfl, rfl⟩)]
theorem bin_slot1 (s : List UInt8 × List UInt8) : Bin .neq 103 (dSlL s) (dSlL s) (.bool false) := by
  refine ⟨rfl, fun ok w p q hp hq => ?_⟩
  obtain ⟨rfl, h1⟩ := slot1_of hp
  obtain ⟨rfl, h2⟩ := slot1_of hq
  refine ⟨fun x y => run_eqGuard_agg w _ _ _ _ _ _ (by kernel_rfl), ?_⟩
  rw [run_neq_struct, eq_slot1 w s h1]
  rfl
set_option maxRecDepth 20000 in
set_option maxHeartbeats 8000000 in
theorem f_sameAccount (x : AcL) (hx : x.sl.length ≤ 1099511627776) : Fn 38 [dAcL x, dAcL x] (· = .val (.v (.bool true))) := by
  obtain ⟨a1, a2, a3, a4, a5⟩ := x
  unfold dAcL
  dsimp only at hx ⊢
  have h1 := (bin_addr a1 a1).2
  have h3 := (bin_word a3 a3).2
  have h4 := (bin_string a4 a4).2
  rw [bne_self_eq_false] at h1 h3 h4
  have hl : (a5.map dSlL).length = a5.length := List.length_map _
  refine Fn.walk 61 Tryz.func38 rfl Tryz.ntmps38 (by simp) fun X => ?_
  repeat
    (first
     | (apply P_bin; (iterate 2 exact rfl); exact h1; (iterate 2 exact rfl)) | (apply P_bin; (iterate 2 exact rfl); exact h3; (iterate 2 exact rfl))
     | (apply P_bin; (iterate 2 exact rfl); exact h4; (iterate 2 exact rfl)) | (apply P_move; (iterate 3 exact rfl)) | (apply P_assign; (iterate 3 exact rfl)) | (apply P_field; (iterate 6 exact rfl))
     | (apply P_pick; (iterate 4 exact rfl)) | (apply P_load; exact rfl; (first | exact I0 | exact I1 | exact I2 | exact I3 | exact I4 | exact I5 | exact I6); (iterate 4 exact rfl))
     | (apply P_cmp (b := false); (iterate 2 exact rfl); (focus (first | (simp [cmpI]; done) | (simp [cmpI]; omega))); (iterate 2 exact rfl)) | (apply P_lensl; (iterate 4 exact rfl))
     | (apply P_str; (iterate 3 exact rfl)) | (apply P_box; exact rfl; exact rfl; exact rfl; intro _) | apply EL.nil | ((with_reducible apply EK.then_normal); apply EK.code)
     | (apply EC.cond_false; exact rfl)
     | (with_reducible first | apply EC.seq | apply EC.region | apply EC.skip | apply EC.label | apply EC.block | apply EC.exit | apply EC.ret | apply EK.in_normal | apply EK.in_same | apply EK.in_ret | apply EK.then_ret | apply EK.then_exit))
  rename_i g2 g3
  refine EC.loop (ι := {k : Nat // k ≤ a5.length})
    (fun k => ⟨[(5, .val (.v (.int .i64 (k.1 : Int)))), (2, .val (.v (.pointer (some ⟨g2, 0, none⟩)))), (3, .val (.v (.pointer (some ⟨g3, 0, none⟩))))],
      [.var g3 74 (.tup [.arr 20 a1, .v (.int .i64 a2), .arr 32 a3, .bs a4, .sl 64 (a5.map dSlL)]), .var g2 74 (.tup [.arr 20 a1, .v (.int .i64 a2), .arr 32 a3, .bs a4, .sl 64 (a5.map dSlL)])], []⟩)
    (fun k => a5.length - k.1) ⟨0, by omega⟩ ?_ ?_
  · exact (Le.keep (by repeat first | exact trivial | refine ⟨rfl, ?_⟩) (by repeat first | exact List.nil_sublist _ | apply List.Sublist.cons_cons | apply List.Sublist.cons) (by simp))
  rintro ⟨k, hk⟩
  dsimp only at hk ⊢
  by_cases hlt : k < a5.length
  · have hy : (a5.map dSlL)[k]? = some (dSlL a5[k]) := by rw [List.getElem?_map, List.getElem?_eq_getElem hlt]; rfl
    generalize a5[k] = s at hy
    have hb := bin_slot1 s
    repeat
      (first
       | (apply P_move; (iterate 3 exact rfl)) | (apply P_field; (iterate 6 exact rfl))
       | (apply P_load; exact rfl; (first | exact I0 | exact I1 | exact I2 | exact I3 | exact I4 | exact I5 | exact I6); (iterate 4 exact rfl))
       | (apply P_cmp (b := true); (iterate 2 exact rfl); (focus (first | (simp [cmpI]; done) | (simp [cmpI]; omega))); (iterate 2 exact rfl)) | (apply P_lensl; (iterate 4 exact rfl)) | apply EL.nil
       | ((with_reducible apply EK.then_normal); apply EK.code) | (apply EC.cond_true; exact rfl)
       | (with_reducible first | apply EC.seq | apply EC.region | apply EC.skip | apply EC.label | apply EC.block | apply EC.exit | apply EC.ret | apply EK.in_normal | apply EK.in_same | apply EK.in_ret | apply EK.then_ret | apply EK.then_exit))
    refine EC.draw 11 (by kernel_rfl) ?_
    simp only [List.take_succ_cons, List.take_zero, List.drop_succ_cons, List.drop_zero]
    repeat
      (first
       | (apply H_bin; (iterate 2 exact rfl); exact hb; (iterate 2 exact rfl)) | (apply H_move; (iterate 3 exact rfl)) | (apply H_field; (iterate 6 exact rfl)) | (apply H_loadpd; (iterate 5 exact rfl))
       | (apply H_load; exact rfl; (first | exact I0 | exact I1 | exact I2 | exact I3 | exact I4 | exact I5 | exact I6); (iterate 4 exact rfl))
       | (apply H_index; (iterate 4 exact rfl); (focus (first | exact ⟨by decide, rfl⟩ | (refine ⟨by omega, ?_⟩; rw [Int.toNat_natCast]; assumption))); (iterate 2 exact rfl))
       | ((with_reducible apply EH.nil); exact rfl))
    repeat
      (first
       | (apply P_move; (iterate 3 exact rfl)) | (apply P_assign; (iterate 3 exact rfl)) | (apply P_ar; (iterate 3 exact rfl); (focus omega); (focus omega); (iterate 2 exact rfl)) | apply EL.nil
       | ((with_reducible apply EK.then_normal); apply EK.code) | (apply EC.cond_false; exact rfl)
       | (with_reducible first | apply EC.seq | apply EC.region | apply EC.skip | apply EC.label | apply EC.block | apply EC.exit | apply EC.ret | apply EK.in_normal | apply EK.in_same | apply EK.in_ret | apply EK.then_ret | apply EK.then_exit))
    refine EK.again ⟨k + 1, hlt⟩ (by dsimp only; omega) ?_
    simp only [Int.natCast_add]
    exact (Le.keep (by repeat first | exact trivial | refine ⟨rfl, ?_⟩) (by repeat first | exact List.nil_sublist _ | apply List.Sublist.cons_cons | apply List.Sublist.cons) (by simp))
  · skip
    repeat
      (first
       | (apply P_move; (iterate 3 exact rfl)) | (apply P_assign; (iterate 3 exact rfl)) | (apply P_field; (iterate 6 exact rfl))
       | (apply P_load; exact rfl; (first | exact I0 | exact I1 | exact I2 | exact I3 | exact I4 | exact I5 | exact I6); (iterate 4 exact rfl))
       | (apply P_cmp (b := false); (iterate 2 exact rfl); (focus (first | (simp [cmpI]; done) | (simp [cmpI]; omega))); (iterate 2 exact rfl)) | (apply P_lensl; (iterate 4 exact rfl)) | apply EL.nil
       | ((with_reducible apply EK.then_normal); apply EK.code) | (apply EC.cond_false; exact rfl)
       | (with_reducible first | apply EC.seq | apply EC.region | apply EC.skip | apply EC.label | apply EC.block | apply EC.exit | apply EC.ret | apply EK.in_normal | apply EK.in_same | apply EK.in_ret | apply EK.then_ret | apply EK.then_exit))
    exact EK.ret1 rfl rfl rfl
set_option maxRecDepth 20000 in
set_option maxHeartbeats 8000000 in
theorem f_sameAccounts (l : List AcL) (hl : l.length ≤ 1099511627776) (hx : ∀ x ∈ l, x.sl.length ≤ 1099511627776) : Fn 20 [.sl 55 (l.map dAcL), .sl 55 (l.map dAcL)] (· = .val (.v (.bool true))) := by
  have hml : (l.map dAcL).length = l.length := List.length_map _
  refine Fn.walk 27 Tryz.func20 rfl Tryz.ntmps20 (by simp) fun X => ?_
  repeat
    (first
     | (apply P_move; (iterate 3 exact rfl)) | (apply P_assign; (iterate 3 exact rfl))
     | (apply P_cmp (b := false); (iterate 2 exact rfl); (focus (first | (simp [cmpI]; done) | (simp [cmpI]; omega))); (iterate 2 exact rfl)) | (apply P_lensl; (iterate 4 exact rfl)) | apply EL.nil
     | ((with_reducible apply EK.then_normal); apply EK.code) | (apply EC.cond_false; exact rfl)
     | (with_reducible first | apply EC.seq | apply EC.region | apply EC.skip | apply EC.label | apply EC.block | apply EC.exit | apply EC.ret | apply EK.in_normal | apply EK.in_same | apply EK.in_ret | apply EK.then_ret | apply EK.then_exit))
  refine EC.loop (ι := {k : Nat // k ≤ l.length})
    (fun k => ⟨[(5, .val (.v (.int .i64 (k.1 : Int)))), (0, .val (.sl 55 (l.map dAcL))), (1, .val (.sl 55 (l.map dAcL)))], [], []⟩)
    (fun k => l.length - k.1) ⟨0, by omega⟩ ?_ ?_
  · exact (Le.keep (by repeat first | exact trivial | refine ⟨rfl, ?_⟩) (by repeat first | exact List.nil_sublist _ | apply List.Sublist.cons_cons | apply List.Sublist.cons) (by simp))
  rintro ⟨k, hk⟩
  dsimp only at hk ⊢
  by_cases hlt : k < l.length
  · have hy : (l.map dAcL)[k]? = some (dAcL l[k]) := by rw [List.getElem?_map, List.getElem?_eq_getElem hlt]; rfl
    have hc := f_sameAccount l[k] (hx _ (List.getElem_mem hlt))
    generalize l[k] = s at hy hc
    repeat
      (first
       | (apply P_move; (iterate 3 exact rfl)) | (apply P_cmp (b := true); (iterate 2 exact rfl); (focus (first | (simp [cmpI]; done) | (simp [cmpI]; omega))); (iterate 2 exact rfl))
       | (apply P_lensl; (iterate 4 exact rfl)) | apply EL.nil | ((with_reducible apply EK.then_normal); apply EK.code) | (apply EC.cond_true; exact rfl)
       | (with_reducible first | apply EC.seq | apply EC.region | apply EC.skip | apply EC.label | apply EC.block | apply EC.exit | apply EC.ret | apply EK.in_normal | apply EK.in_same | apply EK.in_ret | apply EK.then_ret | apply EK.then_exit))
    refine EC.draw 10 (by kernel_rfl) ?_
    simp only [List.take_succ_cons, List.take_zero, List.drop_succ_cons, List.drop_zero]
    repeat
      (first
       | (apply H_call (hc); exact rfl; (focus (repeat first | exact RefineL.refl _ _ | exact RL.nil | exact Rf.same | exact Rf.bs0 | exact Rf.sl0 | (apply Rf.fact; (focus (simp; done)); exact rfl) | apply Rf.tup | apply RL.cons)); (focus (intro _ _; simp [go_sem]; done)); (iterate 2 exact rfl))
       | (apply H_move; (iterate 3 exact rfl)) | (apply H_loadpd; (iterate 5 exact rfl)) | (apply H_not; (iterate 3 exact rfl))
       | (apply H_index; (iterate 4 exact rfl); (focus (first | exact ⟨by decide, rfl⟩ | (refine ⟨by omega, ?_⟩; rw [Int.toNat_natCast]; assumption))); (iterate 2 exact rfl))
       | ((with_reducible apply EH.nil); exact rfl))
    repeat
      (first
       | (apply P_move; (iterate 3 exact rfl)) | (apply P_assign; (iterate 3 exact rfl)) | (apply P_ar; (iterate 3 exact rfl); (focus omega); (focus omega); (iterate 2 exact rfl)) | apply EL.nil
       | ((with_reducible apply EK.then_normal); apply EK.code) | (apply EC.cond_false; exact rfl)
       | (with_reducible first | apply EC.seq | apply EC.region | apply EC.skip | apply EC.label | apply EC.block | apply EC.exit | apply EC.ret | apply EK.in_normal | apply EK.in_same | apply EK.in_ret | apply EK.then_ret | apply EK.then_exit))
    refine EK.again ⟨k + 1, hlt⟩ (by dsimp only; omega) ?_
    simp only [Int.natCast_add]
    exact (Le.keep (by repeat first | exact trivial | refine ⟨rfl, ?_⟩) (by repeat first | exact List.nil_sublist _ | apply List.Sublist.cons_cons | apply List.Sublist.cons) (by simp))
  · skip
    repeat
      (first
       | (apply P_move; (iterate 3 exact rfl)) | (apply P_assign; (iterate 3 exact rfl))
       | (apply P_cmp (b := false); (iterate 2 exact rfl); (focus (first | (simp [cmpI]; done) | (simp [cmpI]; omega))); (iterate 2 exact rfl)) | (apply P_lensl; (iterate 4 exact rfl)) | apply EL.nil
       | ((with_reducible apply EK.then_normal); apply EK.code) | (apply EC.cond_false; exact rfl)
       | (with_reducible first | apply EC.seq | apply EC.region | apply EC.skip | apply EC.label | apply EC.block | apply EC.exit | apply EC.ret | apply EK.in_normal | apply EK.in_same | apply EK.in_ret | apply EK.then_ret | apply EK.then_exit))
    exact EK.ret1 rfl rfl rfl
end E
end Go.Proofs.YtdhicdnmgmkpkaaGreat
/-
  The laws' Big.
  Conditions: none.
-/
namespace Go.Proofs.YtdhicdnmgmkpkaaGreat
set_option linter.unusedVariables false
open Go.RowKit Mono Rlp Wd Go.Sort
namespace E
def bigA (l : List AcL) : Bool := decide (20 < l.length) || l.any fun x => decide (300 < x.cd.length) || decide (20 < x.sl.length)
theorem any_at {α : Type} {p : α → Bool} {l : List α} {i : Nat} (h : i < l.length) (hp : p l[i] = true) : l.any p = true := List.any_eq_true.2 ⟨l[i], List.getElem_mem h, hp⟩
set_option maxRecDepth 20000 in
set_option maxHeartbeats 8000000 in
theorem f_bigA (l : List AcL) : Fn 12 [.sl 55 (l.map dAcL)] (· = .val (.v (.bool (bigA l)))) := by
  have hml : (l.map dAcL).length = l.length := List.length_map _
  refine Fn.walk 29 Tryz.func12 rfl Tryz.ntmps12 (by simp) fun X => ?_
  unfold bigA
  by_cases h20 : 20 < l.length
  · rw [show decide (20 < l.length) = true by simp [h20], Bool.true_or]
    repeat
      (first
       | (apply P_move; (iterate 3 exact rfl)) | (apply P_assign; (iterate 3 exact rfl))
       | (apply P_cmp (b := true); (iterate 2 exact rfl); (focus (first | (simp [cmpI]; done) | (simp [cmpI]; omega))); (iterate 2 exact rfl)) | (apply P_lensl; (iterate 4 exact rfl)) | apply EL.nil
       | ((with_reducible apply EK.then_normal); apply EK.code) | (apply EC.cond_true; exact rfl)
       | (with_reducible first | apply EC.seq | apply EC.region | apply EC.skip | apply EC.label | apply EC.block | apply EC.exit | apply EC.ret | apply EK.in_normal | apply EK.in_same | apply EK.in_ret | apply EK.then_ret | apply EK.then_exit))
    exact EK.ret1 rfl rfl rfl
  · rw [show decide (20 < l.length) = false by simp [h20], Bool.false_or]
    repeat
      (first
       | (apply P_move; (iterate 3 exact rfl)) | (apply P_assign; (iterate 3 exact rfl))
       | (apply P_cmp (b := false); (iterate 2 exact rfl); (focus (first | (simp [cmpI]; done) | (simp [cmpI]; omega))); (iterate 2 exact rfl)) | (apply P_lensl; (iterate 4 exact rfl)) | apply EL.nil
       | ((with_reducible apply EK.then_normal); apply EK.code) | (apply EC.cond_false; exact rfl)
       | (with_reducible first | apply EC.seq | apply EC.region | apply EC.skip | apply EC.label | apply EC.block | apply EC.exit | apply EC.ret | apply EK.in_normal | apply EK.in_same | apply EK.in_ret | apply EK.then_ret | apply EK.then_exit))
    refine EC.loop (ι := {i : Nat // i ≤ l.length ∧ (l.take i).any (fun x => decide (300 < x.cd.length) || decide (20 < x.sl.length)) = false})
      (fun i => ⟨[(3, .val (.v (.int .i64 (i.1 : Int)))), (0, .val (.sl 55 (l.map dAcL)))], [], []⟩)
      (fun i => l.length - i.1) ⟨0, Nat.zero_le _, rfl⟩ ?_ ?_
    · exact (Le.keep (by repeat first | exact trivial | refine ⟨rfl, ?_⟩) (by repeat first | exact List.nil_sublist _ | apply List.Sublist.cons_cons | apply List.Sublist.cons) (by simp))
    rintro ⟨i, hi, hno⟩
    dsimp only at hi ⊢
    by_cases hlt : i < l.length
    · have hd : (l.map dAcL)[i]? = some (dAcL l[i]) := by rw [List.getElem?_map, List.getElem?_eq_getElem hlt]; rfl
      have htk : l.take (i + 1) = l.take i ++ [l[i]] := List.take_succ_eq_append_getElem hlt
      have hat := any_at (p := fun x : AcL => decide (300 < x.cd.length) || decide (20 < x.sl.length)) hlt
      generalize l[i] = x at hd htk hat
      have hsl : (x.sl.map dSlL).length = x.sl.length := List.length_map _
      unfold dAcL at hd
      by_cases hc : 300 < x.cd.length
      · rw [hat (by simp [hc])]
        repeat
          (first
           | (apply P_skip; exact rfl) | (apply P_move; (iterate 3 exact rfl)) | (apply P_assign; (iterate 3 exact rfl)) | (apply P_fieldpd; (iterate 7 exact rfl)) | (apply P_loadpd; (iterate 5 exact rfl))
           | (apply P_pick; (iterate 4 exact rfl)) | (apply P_cmp (b := true); (iterate 2 exact rfl); (focus (first | (simp [cmpI]; done) | (simp [cmpI]; omega))); (iterate 2 exact rfl))
           | (apply P_lenbs; (iterate 4 exact rfl)) | (apply P_lensl; (iterate 4 exact rfl))
           | (apply P_index; (iterate 4 exact rfl); (focus (first | exact ⟨by decide, rfl⟩ | (refine ⟨by omega, ?_⟩; rw [Int.toNat_natCast]; assumption))); (iterate 2 exact rfl)) | apply EL.nil
           | ((with_reducible apply EK.then_normal); apply EK.code) | (apply EC.cond_true; exact rfl)
           | (with_reducible first | apply EC.seq | apply EC.region | apply EC.skip | apply EC.label | apply EC.block | apply EC.exit | apply EC.ret | apply EK.in_normal | apply EK.in_same | apply EK.in_ret | apply EK.then_ret | apply EK.then_exit))
        exact EK.ret1 rfl rfl rfl
      · by_cases hs : 20 < x.sl.length
        · rw [hat (by simp [hs])]
          repeat
            (first
             | (apply P_move; (iterate 3 exact rfl)) | (apply P_assign; (iterate 3 exact rfl)) | (apply P_fieldpd; (iterate 7 exact rfl)) | (apply P_loadpd; (iterate 5 exact rfl))
             | (apply P_pick; (iterate 4 exact rfl)) | (apply P_cmp (b := true); (iterate 2 exact rfl); (focus (first | (simp [cmpI]; done) | (simp [cmpI]; omega))); (iterate 2 exact rfl))
             | (apply P_cmp (b := false); (iterate 2 exact rfl); (focus (first | (simp [cmpI]; done) | (simp [cmpI]; omega))); (iterate 2 exact rfl)) | (apply P_lenbs; (iterate 4 exact rfl))
             | (apply P_lensl; (iterate 4 exact rfl))
             | (apply P_index; (iterate 4 exact rfl); (focus (first | exact ⟨by decide, rfl⟩ | (refine ⟨by omega, ?_⟩; rw [Int.toNat_natCast]; assumption))); (iterate 2 exact rfl)) | apply EL.nil
             | ((with_reducible apply EK.then_normal); apply EK.code) | (apply EC.cond_true; exact rfl)
             | (with_reducible first | apply EC.seq | apply EC.region | apply EC.skip | apply EC.label | apply EC.block | apply EC.exit | apply EC.ret | apply EK.in_normal | apply EK.in_same | apply EK.in_ret | apply EK.then_ret | apply EK.then_exit))
          exact EK.ret1 rfl rfl rfl
        · skip
          repeat
            (first
             | (apply P_move; (iterate 3 exact rfl)) | (apply P_assign; (iterate 3 exact rfl)) | (apply P_fieldpd; (iterate 7 exact rfl)) | (apply P_loadpd; (iterate 5 exact rfl))
             | (apply P_pick; (iterate 4 exact rfl)) | (apply P_cmp (b := true); (iterate 2 exact rfl); (focus (first | (simp [cmpI]; done) | (simp [cmpI]; omega))); (iterate 2 exact rfl))
             | (apply P_cmp (b := false); (iterate 2 exact rfl); (focus (first | (simp [cmpI]; done) | (simp [cmpI]; omega))); (iterate 2 exact rfl))
             | (apply P_ar; (iterate 3 exact rfl); (focus omega); (focus omega); (iterate 2 exact rfl)) | (apply P_lenbs; (iterate 4 exact rfl)) | (apply P_lensl; (iterate 4 exact rfl))
             | (apply P_index; (iterate 4 exact rfl); (focus (first | exact ⟨by decide, rfl⟩ | (refine ⟨by omega, ?_⟩; rw [Int.toNat_natCast]; assumption))); (iterate 2 exact rfl)) | apply EL.nil
             | ((with_reducible apply EK.then_normal); apply EK.code) | (apply EC.cond_true; exact rfl) | (apply EC.cond_false; exact rfl)
             | (with_reducible first | apply EC.seq | apply EC.region | apply EC.skip | apply EC.label | apply EC.block | apply EC.exit | apply EC.ret | apply EK.in_normal | apply EK.in_same | apply EK.in_ret | apply EK.then_ret | apply EK.then_exit))
          refine EK.again ⟨i + 1, hlt, ?_⟩ (by dsimp only; omega) ?_
          · rw [htk, List.any_append, hno]
            simp [hc, hs]
          · simp only [Int.natCast_add]
            exact (Le.keep (by repeat first | exact trivial | refine ⟨rfl, ?_⟩) (by repeat first | exact List.nil_sublist _ | apply List.Sublist.cons_cons | apply List.Sublist.cons) (by simp))
    · have hiE : i = l.length := by omega
      subst hiE
      rw [List.take_length] at hno
      rw [hno]
      repeat
        (first
         | (apply P_move; (iterate 3 exact rfl)) | (apply P_assign; (iterate 3 exact rfl))
         | (apply P_cmp (b := false); (iterate 2 exact rfl); (focus (first | (simp [cmpI]; done) | (simp [cmpI]; omega))); (iterate 2 exact rfl)) | (apply P_lensl; (iterate 4 exact rfl)) | apply EL.nil
         | ((with_reducible apply EK.then_normal); apply EK.code) | (apply EC.cond_false; exact rfl)
         | (with_reducible first | apply EC.seq | apply EC.region | apply EC.skip | apply EC.label | apply EC.block | apply EC.exit | apply EC.ret | apply EK.in_normal | apply EK.in_same | apply EK.in_ret | apply EK.then_ret | apply EK.then_exit))
      exact EK.ret1 rfl rfl rfl
theorem small_A {l : List AcL} (h : bigA l = false) : l.length ≤ 20 ∧ ∀ x ∈ l, x.cd.length ≤ 300 ∧ x.sl.length ≤ 20 := by
  unfold bigA at h
  rw [Bool.or_eq_false_iff, decide_eq_false_iff_not, List.any_eq_false] at h
  refine ⟨by omega, fun x hx => ?_⟩
  have := h.2 x hx
  simp only [Bool.or_eq_true, decide_eq_true_eq, not_or] at this
  omega
end E
end Go.Proofs.YtdhicdnmgmkpkaaGreat
/-
  SnapNone.
  Conditions: none.
-/
namespace Go.Proofs.YtdhicdnmgmkpkaaGreat
set_option linter.unusedVariables false
open Go.RowKit Mono Rlp Wd Go.Sort
namespace E
set_option maxRecDepth 20000 in
set_option maxHeartbeats 8000000 in
theorem law_none (l : List AcL) : FnM 6 [.sl 55 (l.map dAcL)] [] (fun r os' => r = .val (.v (.bool true)) ∧ os' = []) := by
  have hA := f_bigA l
  refine FnM.walk 53 Tryz.func6 rfl Tryz.ntmps6 (by simp) fun X => ?_
  cases hba : bigA l with
  | true =>
    rw [hba] at hA
    repeat
      (first
       | ((apply P_callMD (alive25); (iterate 2 exact rfl); (focus (repeat first | exact RefineL.refl _ _ | exact RL.nil | exact Rf.same | exact Rf.bs0 | exact Rf.sl0 | (apply Rf.fact; (focus (simp; done)); exact rfl) | apply Rf.tup | apply RL.cons)); (focus (intro _ _; simp [go_sem]; done)); (iterate 2 exact rfl)))
       | (apply P_call (hA); exact rfl; (focus (repeat first | exact RefineL.refl _ _ | exact RL.nil | exact Rf.same | exact Rf.bs0 | exact Rf.sl0 | (apply Rf.fact; (focus (simp; done)); exact rfl) | apply Rf.tup | apply RL.cons)); (focus (intro _ _; simp [go_sem]; done)); (iterate 2 exact rfl))
       | (apply P_move; (iterate 3 exact rfl)) | (apply P_assign; (iterate 3 exact rfl)) | (apply P_pick; (iterate 4 exact rfl)) | (apply P_not; (iterate 3 exact rfl)) | apply EL.nil
       | ((with_reducible apply EK.then_normal); apply EK.code) | (apply EC.cond_true; exact rfl)
       | (with_reducible first | apply EC.seq | apply EC.region | apply EC.skip | apply EC.label | apply EC.block | apply EC.exit | apply EC.ret | apply EK.in_normal | apply EK.in_same | apply EK.in_ret | apply EK.then_ret | apply EK.then_exit))
    exact EK.retM1s [] rfl rfl (List.nil_sublist _) ⟨rfl, rfl⟩
  | false =>
    rw [hba] at hA
    obtain ⟨hl1, hl2⟩ := small_A hba
    have hl3 : ∀ x ∈ l, x.sl.length ≤ 20 ∧ x.cd.length ≤ 140737488355328 := fun x hx => by have := hl2 x hx; omega
    have hl4 : ∀ x ∈ l, x.sl.length ≤ 1000 ∧ x.cd.length ≤ 140737488355328 := fun x hx => by have := hl2 x hx; omega
    have h1 := rnew l (by omega) hl4
    repeat
      (first
       | ((apply P_callMD (alive25); (iterate 2 exact rfl); (focus (repeat first | exact RefineL.refl _ _ | exact RL.nil | exact Rf.same | exact Rf.bs0 | exact Rf.sl0 | (apply Rf.fact; (focus (simp; done)); exact rfl) | apply Rf.tup | apply RL.cons)); (focus (intro _ _; simp [go_sem]; done)); (iterate 2 exact rfl)))
       | (apply P_call (hA); exact rfl; (focus (repeat first | exact RefineL.refl _ _ | exact RL.nil | exact Rf.same | exact Rf.bs0 | exact Rf.sl0 | (apply Rf.fact; (focus (simp; done)); exact rfl) | apply Rf.tup | apply RL.cons)); (focus (intro _ _; simp [go_sem]; done)); (iterate 2 exact rfl))
       | (apply P_callM (os := []) h1; (iterate 2 exact rfl); exact RefineL.refl _ _; (focus (intro _ _; simp [go_sem]; done)); (iterate 2 exact rfl); rintro _ os1 ⟨g, rfl, hp⟩; simp only [List.append_nil])
       | (apply P_callT (rs_accounts hp (by omega)) [] rfl rfl (RefineL.refl _ _) (by intro _ _; simp [go_sem]) rfl rfl; rintro _ _ ⟨⟨L, hL, _, rfl⟩, rfl⟩; simp only [List.nil_append])
       | (apply P_move; (iterate 3 exact rfl)) | (apply P_assign; (iterate 3 exact rfl)) | (apply P_pick; (iterate 4 exact rfl)) | (apply P_not; (iterate 3 exact rfl)) | apply EL.nil
       | ((with_reducible apply EK.then_normal); apply EK.code) | (apply EC.cond_false; exact rfl)
       | (with_reducible first | apply EC.seq | apply EC.region | apply EC.skip | apply EC.label | apply EC.block | apply EC.exit | apply EC.ret | apply EK.in_normal | apply EK.in_same | apply EK.in_ret | apply EK.then_ret | apply EK.then_exit))
    have hLl := hL.length_le
    have hLs := hL.small hl3
    have hLA := hL.new (newA_nn l)
    have b1 := between_ l l 20 (by omega) (by omega) (by omega) hl3 hl3
    have b2 := between_ l L 20 (by omega) (by omega) (by omega) hl3 hLs
    have b3 := between_ [] l 20 (by decide) (by omega) (by omega) (fun x hx => by simp at hx) hl3
    have b4 := between_ l [] 20 (by omega) (by decide) (by omega) hl3 (fun x hx => by simp at hx)
    rw [hLA] at b2
    have h2 := apply_ l [] zero32 zero32 (by omega) hl4 (by decide) (fun x hx => by simp at hx)
    have h3 := f_sameAccounts L (by omega) fun x hx => by have := (hLs x hx).1; omega
    refine P_callM (os := []) b1 rfl rfl (RefineL.refl _ _) (by intro _ _; simp [go_sem]) rfl rfl ?_
    rintro _ _ ⟨⟨D1, hD1, _, rfl⟩, rfl⟩
    obtain rfl := hD1.self
    simp only [List.nil_append, List.map_nil]
    repeat
      (first
       | (apply P_move; (iterate 3 exact rfl)) | (apply P_cmp (b := true); (iterate 2 exact rfl); (focus (first | (simp [cmpI]; done) | (simp [cmpI]; omega))); (iterate 2 exact rfl))
       | (apply P_lensl; (iterate 4 exact rfl)))
    refine P_callM (os := []) b2 rfl rfl (RefineL.refl _ _) (by intro _ _; simp [go_sem]) rfl rfl ?_
    rintro _ _ ⟨⟨D2, hD2, _, rfl⟩, rfl⟩
    obtain rfl := hD2.self
    simp only [List.nil_append, List.map_nil]
    repeat
      (first
       | (apply P_move; (iterate 3 exact rfl)) | (apply P_pick; (iterate 4 exact rfl))
       | (apply P_cmp (b := true); (iterate 2 exact rfl); (focus (first | (simp [cmpI]; done) | (simp [cmpI]; omega))); (iterate 2 exact rfl)) | (apply P_lensl; (iterate 4 exact rfl))
       | (apply P_build; (iterate 7 exact rfl)))
    refine P_callM (os := []) h2 rfl rfl ?_ (by intro _ _; simp [go_sem]) rfl rfl ?_
    · (repeat first | exact RefineL.refl _ _ | exact RL.nil | exact Rf.same | exact Rf.bs0 | exact Rf.sl0 | (apply Rf.fact; (focus (simp; done)); exact rfl) | apply Rf.tup | apply RL.cons)
    rintro _ _ ⟨⟨L2, hL2, _, _, rfl⟩, rfl⟩
    obtain rfl := hL2.eq hL
    simp only [List.nil_append]
    repeat
      (first
       | (apply P_call (h3); exact rfl; (focus (repeat first | exact RefineL.refl _ _ | exact RL.nil | exact Rf.same | exact Rf.bs0 | exact Rf.sl0 | (apply Rf.fact; (focus (simp; done)); exact rfl) | apply Rf.tup | apply RL.cons)); (focus (intro _ _; simp [go_sem]; done)); (iterate 2 exact rfl))
       | (apply P_move; (iterate 3 exact rfl)) | (apply P_pick; (iterate 4 exact rfl)))
    refine P_callM (os := []) b3 rfl rfl ?_ (by intro _ _; simp [go_sem]) rfl rfl ?_
    · (repeat first | exact RefineL.refl _ _ | exact RL.nil | exact Rf.same | exact Rf.bs0 | exact Rf.sl0 | (apply Rf.fact; (focus (simp; done)); exact rfl) | apply Rf.tup | apply RL.cons)
    rintro _ _ ⟨⟨D3, hD3, _, rfl⟩, rfl⟩
    have e3 := hD3.from_none hL
    have m3 : (D3.map dChL).length = D3.length := List.length_map _
    have m2 : (L2.map dAcL).length = L2.length := List.length_map _
    simp only [List.nil_append]
    repeat
      (first
       | (apply P_move; (iterate 3 exact rfl)) | (apply P_pick; (iterate 4 exact rfl))
       | (apply P_cmp (b := true); (iterate 2 exact rfl); (focus (first | (simp [cmpI]; done) | (simp [cmpI]; omega))); (iterate 2 exact rfl)) | (apply P_lensl; (iterate 4 exact rfl)))
    refine P_callM (os := []) b4 rfl rfl ?_ (by intro _ _; simp [go_sem]) rfl rfl ?_
    · (repeat first | exact RefineL.refl _ _ | exact RL.nil | exact Rf.same | exact Rf.bs0 | exact Rf.sl0 | (apply Rf.fact; (focus (simp; done)); exact rfl) | apply Rf.tup | apply RL.cons)
    rintro _ _ ⟨⟨D4, hD4, _, rfl⟩, rfl⟩
    have e4 := hD4.to_none hL
    have m4 : (D4.map dChL).length = D4.length := List.length_map _
    simp only [List.nil_append]
    repeat
      (first
       | (apply P_move; (iterate 3 exact rfl)) | (apply P_assign; (iterate 3 exact rfl)) | (apply P_pick; (iterate 4 exact rfl))
       | (apply P_cmp (b := true); (iterate 2 exact rfl); (focus (first | (simp [cmpI]; done) | (simp [cmpI]; omega))); (iterate 2 exact rfl)) | (apply P_lensl; (iterate 4 exact rfl)) | apply EL.nil
       | ((with_reducible apply EK.then_normal); apply EK.code)
       | (with_reducible first | apply EC.seq | apply EC.region | apply EC.skip | apply EC.label | apply EC.block | apply EC.exit | apply EC.ret | apply EK.in_normal | apply EK.in_same | apply EK.in_ret | apply EK.then_ret | apply EK.then_exit))
    exact EK.retM1s [] rfl rfl (List.nil_sublist _) ⟨rfl, rfl⟩
end E
end Go.Proofs.YtdhicdnmgmkpkaaGreat
/-
  What a slice of bytes that comes in reads as.
  Conditions: none.
-/
namespace Go.Proofs.YtdhicdnmgmkpkaaGreat
open Go.RowKit Mono
end Go.Proofs.YtdhicdnmgmkpkaaGreat
/-
  What data that come in read as: bytes, lists of bytes, arrays of bytes.
  Conditions: none.
-/
namespace Go.Proofs.YtdhicdnmgmkpkaaGreat
open Go.RowKit Mono Go.ChangeShapes Go.WideShapes Go.Deep
theorem cell_spot {w : World} {p : Addr} {v : Value} (h : w.cell? p = some v) : p.block < w.heap.size ∧ ∃ b o, p = ⟨b, o, none⟩ := by
  obtain ⟨blk, off, spot⟩ := p
  have hspot : spot = none := by
    simp only [World.cell?] at h
    cases spot with
    | none => rfl
    | some s =>
      simp at h
      split at h <;> simp at h
  subst hspot
  refine ⟨?_, blk, off, rfl⟩
  rcases Nat.lt_or_ge blk w.heap.size with hlt | hge
  · exact hlt
  · simp [World.cell?, Array.getElem?_eq_none hge] at h
theorem flat_get {n : Nat} {u : Value} : ∀ (rows : List (List Value)) (j : Nat), (∀ r ∈ rows, r.length = n) → rows.flatten[j]? = some u → ∃ i r row, j = i * n + r ∧ r < n ∧ rows[i]? = some row ∧ row[r]? = some u
  | [], j, _, h => by simp at h
  | row :: rows, j, hn, h => by
    have hr : row.length = n := hn row (by simp)
    rw [List.flatten_cons] at h
    by_cases hj : j < n
    · rw [List.getElem?_append_left (by omega)] at h
      exact ⟨0, j, row, by simp, hj, rfl, h⟩
    · rw [List.getElem?_append_right (by omega), hr] at h
      obtain ⟨i, r, row', h1, h2, h3, h4⟩ := flat_get rows (j - n) (fun r hr => hn r (by simp [hr])) h
      exact ⟨i + 1, r, row', by rw [Nat.add_mul]; omega, h2, by simpa using h3, h4⟩
section
variable {H : Type} {enc : TypeId × Value → H} {w : World} {spare : Nat → Bool} {held : Bool}
theorem int_of_trod {t : TypeId} {k : IntKind} {fuel : Nat} {cs : List Value} {x : DataW H × List MemPlace} (ht : Tryz.prog.underlying t = some (.int k)) (h : DataW.trod enc Tryz.prog w 0 spare held fuel t cs = some x) : ∃ n, cs = [.int k n] ∧ (Lit.int k n).wf = true := by
  obtain ⟨n, h1, _, h2⟩ := DataW.trod_int ht h
  exact ⟨n, h1, h2⟩
theorem u8_of_trod {fuel : Nat} {cs : List Value} {x : DataW H × List MemPlace} (h : DataW.trod enc Tryz.prog w 0 spare held fuel 5 cs = some x) : ∃ b : UInt8, cs = [bv b] := by
  obtain ⟨n, rfl, hw⟩ := int_of_trod Tryz.underlying5 h
  have hb := bounds_u8 hw
  refine ⟨UInt8.ofNat n.toNat, ?_⟩
  unfold bv
  rw [UInt8.toNat_ofNat']
  have : ((n.toNat % 2 ^ 8 : Nat) : Int) = n := by omega
  rw [this]
theorem bytes_of_rows {rows : List (List Value)} (h : ∀ r ∈ rows, ∃ b : UInt8, r = [bv b]) : ∃ l : List UInt8, l.length = rows.length ∧ rows.flatten = bvs l := by
  induction rows with
  | nil => exact ⟨[], rfl, rfl⟩
  | cons r rows ih =>
    obtain ⟨l, h1, h2⟩ := ih fun r hr => h r (by simp [hr])
    obtain ⟨b, rfl⟩ := h r (by simp)
    exact ⟨b :: l, by simp [h1], by simp [h2, bvs]⟩
/-! ### A parameter, by its type -/
set_option maxRecDepth 100000
variable {r : Reach} {b0 : Nat} {v : Value} {d : DataW H} {ps : List MemPlace}
end
end Go.Proofs.YtdhicdnmgmkpkaaGreat
/-
  What data that come in read as: words and addresses.
  Conditions: none.
-/
namespace Go.Proofs.YtdhicdnmgmkpkaaGreat
set_option linter.unusedVariables false
set_option maxRecDepth 100000
open Go.RowKit Mono Go.ChangeShapes Go.WideShapes Go.Deep
section
variable {H : Type} {enc : TypeId × Value → H} {w : World} {spare : Nat → Bool} {held : Bool}
theorem bvs_of (cs : List Value) (h : ∀ u ∈ cs, ∃ b : UInt8, u = bv b) : ∃ l : List UInt8, cs = bvs l := by
  induction cs with
  | nil => exact ⟨[], rfl⟩
  | cons u cs ih =>
    obtain ⟨l, hl⟩ := ih fun u hu => h u (by simp [hu])
    obtain ⟨b, rfl⟩ := h u (by simp)
    exact ⟨b :: l, by rw [hl]; rfl⟩
theorem arr_of_trod {t : TypeId} {n fuel : Nat} {cs : List Value} {x : DataW H × List MemPlace} (ht : Tryz.prog.underlying t = some (.array n 5)) (hc : Tryz.prog.cellsOf t = n) (h : DataW.trod enc Tryz.prog w 0 spare held fuel t cs = some x) :
    ∃ l : List UInt8, l.length = n ∧ cs = bvs l := by
  obtain ⟨xs, m, _, _, hl, hxl, hg⟩ := DataW.trod_array ht h
  rw [hc] at hl
  obtain ⟨l, rfl⟩ := bvs_of cs fun u hu => by
    obtain ⟨i, hi, rfl⟩ := List.getElem_of_mem hu
    have h1 := hg i (by omega)
    rw [(by kernel_rfl : Tryz.prog.cellsOf 5 = 1), Nat.mul_one, List.drop_eq_getElem_cons hi, List.take_succ_cons, List.take_zero, List.getElem?_eq_getElem (by omega)] at h1
    obtain ⟨b, hb⟩ := u8_of_trod h1
    exact ⟨b, by simpa using hb⟩
  exact ⟨l, by rw [← hl, bvs_length], rfl⟩
variable {r : Reach} {b0 : Nat} {v : Value} {d : DataW H} {ps : List MemPlace}
end
end Go.Proofs.YtdhicdnmgmkpkaaGreat
/-
  What data that come in read as: slices, with a bound on what they weigh.
  Conditions: none.
-/
namespace Go.Proofs.YtdhicdnmgmkpkaaGreat
set_option linter.unusedVariables false
open Go.RowKit Mono Go.ChangeShapes Go.WideShapes Go.Deep
section
variable {H : Type} {enc : TypeId × Value → H} {w : World} {spare : Nat → Bool} {held : Bool}
theorem weights_all {P : Program} {e : TypeId} {d : DataW H} {k : Nat} : ∀ {ds : List (DataW H)}, d ∈ ds → k ∈ d.weights P e → k ∈ DataW.weightsAll P e ds
  | [], h, _ => by cases h
  | x :: xs, h, hk => by
    rw [DataW.weightsAll]
    rcases List.mem_cons.1 h with rfl | h
    · exact List.mem_append_left _ hk
    · exact List.mem_append_right _ (weights_all h hk)
theorem slice_rowsW {t e n : TypeId} {fuel : Nat} {v : Value} {x : DataW H × List MemPlace} (ht : Tryz.prog.underlying t = some (.slice e)) (hn : Tryz.prog.cellsOf e = n) (h : DataW.trod enc Tryz.prog w 0 spare held fuel t [v] = some x) :
    ∃ (A : Option Addr) (c f : Nat) (rows : List (List Value)), v = .slice A rows.length c ∧ rows.length ≤ c ∧ c ≤ maxLen ∧ Rd w w.heap.size A rows.flatten ∧ (∀ r ∈ rows, r.length = n) ∧ (A = none → rows = [] ∧ c = 0) ∧ (rows ≠ [] → f < fuel) ∧ (∀ r ∈ rows, ∃ y, DataW.trod enc Tryz.prog w 0 spare held f e r = some y ∧ ∀ k ∈ y.1.weights Tryz.prog e, k ∈ x.1.weights Tryz.prog t) ∧ (rows ≠ [] → ∃ k ∈ x.1.weights Tryz.prog t, rows.length * Tryz.prog.bytesOf e ≤ k) := by
  rcases DataW.trod_slice ht h with ⟨hcs, hx⟩ | ⟨a, len, cap, elems, rest, f, hfu, hcs, hx, _, hl, hm, hel, hi, _⟩
  · simp at hcs
    subst hcs
    exact ⟨none, 0, 0, [], rfl, Nat.le_refl _, by simp [maxLen], Rd.nil, by simp, fun _ => ⟨rfl, rfl⟩, fun hne => absurd rfl hne, by simp, fun hne => absurd rfl hne⟩
  · simp at hcs
    subst hcs
    rw [hn] at hi
    let row : Nat → List Value := fun i => (w.cells? 0 (a.add (i * n)) n).getD []
    have hrow : ∀ i, i < len → w.cells? 0 (a.add (i * n)) n = some (row i) ∧ ∃ y, DataW.trod enc Tryz.prog w 0 spare held f e (row i) = some y ∧ ∀ k ∈ y.1.weights Tryz.prog e, k ∈ x.1.weights Tryz.prog t := fun i hil => by
      have h1 := hi i hil
      rw [List.getElem?_eq_getElem (by omega)] at h1
      cases hc : w.cells? 0 (a.add (i * n)) n with
      | none => rw [hc] at h1; cases h1
      | some cs' =>
        rw [hc] at h1
        have : row i = cs' := by simp only [row]; rw [hc]; rfl
        rw [this]
        refine ⟨rfl, _, h1, fun k hk => ?_⟩
        rw [hx, DataW.weights, ht]
        exact List.mem_cons_of_mem _ (List.mem_append_left _ (weights_all (List.mem_map_of_mem (List.getElem_mem (by omega))) hk))
    have hmem : ∀ r ∈ (List.range len).map row, ∃ i, i < len ∧ r = row i := fun r hr => by
      obtain ⟨i, h1, h2⟩ := List.mem_map.1 hr
      exact ⟨i, List.mem_range.1 h1, h2.symm⟩
    have hlen : ∀ r ∈ (List.range len).map row, r.length = n := fun r hr => by
      obtain ⟨i, h1, rfl⟩ := hmem r hr
      exact (World.cells?_some (hrow i h1).1).2.1
    refine ⟨some a, cap, f, (List.range len).map row, by simp, by simpa using hl, hm, ?_, hlen, (fun e => by cases e), fun _ => by omega, fun r hr => ?_, fun _ => ⟨(elems.length + rest.length) * Tryz.prog.bytesOf e, ?_, ?_⟩⟩
    · have hcell : ∀ j u, ((List.range len).map row).flatten[j]? = some u → w.cell? (a.add j) = some u := fun j u hu => by
        obtain ⟨i, r, row', rfl, h2, h3, h4⟩ := flat_get _ j hlen hu
        have hil : i < len := by
          have := (List.getElem?_eq_some_iff.1 h3).1
          simpa using this
        have h5 : row' = row i := by
          rw [List.getElem?_map, List.getElem?_range hil] at h3
          exact (Option.some.inj h3).symm
        subst h5
        have h6 := (World.cells?_some (hrow i hil).1).2.2 r h2
        rw [h4, Go.Deep.add_add] at h6
        exact h6
      intro hne
      obtain ⟨u0, rest, he⟩ := List.exists_cons_of_ne_nil hne
      have h0 := hcell 0 u0 (by rw [he]; rfl)
      rw [show a.add 0 = a from if_pos rfl] at h0
      obtain ⟨h1, b, o, rfl⟩ := cell_spot h0
      refine ⟨b, o, rfl, h1, fun j u hu => ?_⟩
      have := hcell j u hu
      rw [add_none] at this
      exact this
    · obtain ⟨i, h1, rfl⟩ := hmem r hr
      exact (hrow i h1).2
    · rw [hx, DataW.weights, ht]
      simp
    · rw [List.length_map, List.length_range]
      exact Nat.mul_le_mul_right _ (by omega)
end
end Go.Proofs.YtdhicdnmgmkpkaaGreat
/-
  What data that come in read as, by their shape: numbers, bools, arrays of bytes, bytes, slices and structs of these.
  Conditions: none.
-/
namespace Go.Proofs.YtdhicdnmgmkpkaaGreat
set_option linter.unusedVariables false
set_option maxRecDepth 100000
open Go.RowKit Mono Go.ChangeShapes Go.WideShapes Go.Deep
namespace E
inductive Sh where
  | bool
  | int (k : IntKind)
  | arr (n : Nat)
  | bytes
  | slice (b : Nat) (s : Sh)
  | struct (ss : List Sh)
mutual
def Sh.size : Sh → Nat
  | .arr n => n
  | .struct ss => Sh.sizes ss
  | _ => 1
def Sh.sizes : List Sh → Nat
  | [] => 0
  | s :: ss => s.size + Sh.sizes ss
end
def Sh.agg : Sh → Bool
  | .arr _ => true
  | .struct _ => true
  | _ => false
mutual
def Sh.Is : Sh → TypeId → Prop
  | .bool, t => Tryz.prog.underlying t = some .bool ∧ Tryz.prog.cellsOf t = 1
  | .int k, t => Tryz.prog.underlying t = some (.int k) ∧ Tryz.prog.cellsOf t = 1
  | .arr n, t => Tryz.prog.underlying t = some (.array n 5) ∧ Tryz.prog.cellsOf t = n
  | .bytes, t => Tryz.prog.underlying t = some (.slice 5) ∧ Tryz.prog.cellsOf t = 1
  | .slice b s, t => Tryz.prog.cellsOf t = 1 ∧ ∃ e, Tryz.prog.underlying t = some (.slice e) ∧ Tryz.prog.bytesOf e = b ∧ s.Is e
  | .struct ss, t => ∃ fs : Array Field, Tryz.prog.underlying t = some (.struct fs) ∧ Tryz.prog.cellsOf t = Sh.sizes ss ∧ Sh.IsF ss 0 fs.toList
def Sh.IsF : List Sh → Nat → List Field → Prop
  | [], _, fs => fs = []
  | s :: ss, o, fs => ∃ f rest, fs = f :: rest ∧ f.offset = o ∧ s.Is f.type ∧ Sh.IsF ss (o + s.size) rest
end
mutual
def Sh.Of (N : Nat) : Sh → D → Prop
  | .bool, d => ∃ b, d = .v (.bool b)
  | .int k, d => ∃ n, d = .v (.int k n) ∧ (Lit.int k n).wf = true
  | .arr n, d => ∃ l : List UInt8, l.length = n ∧ d = .arr n l
  | .bytes, d => ∃ l : List UInt8, l.length ≤ N ∧ d = .bs l
  | .slice b s, d => ∃ ds : List D, ds.length * b ≤ N ∧ d = .sl s.size ds ∧ ∀ x ∈ ds, s.Of N x
  | .struct ss, d => ∃ ds, d = .tup ds ∧ Sh.OfL N ss ds
def Sh.OfL (N : Nat) : List Sh → List D → Prop
  | [], ds => ds = []
  | s :: ss, ds => ∃ d rest, ds = d :: rest ∧ s.Of N d ∧ Sh.OfL N ss rest
end
theorem Sh.Is.cells : ∀ {s : Sh} {t : TypeId}, s.Is t → Tryz.prog.cellsOf t = s.size
  | .bool, t, h => by rw [Sh.Is] at h; exact h.2
  | .int k, t, h => by rw [Sh.Is] at h; exact h.2
  | .arr n, t, h => by rw [Sh.Is] at h; exact h.2
  | .bytes, t, h => by rw [Sh.Is] at h; exact h.2
  | .slice b s, t, h => by rw [Sh.Is] at h; exact h.1
  | .struct ss, t, h => by
    rw [Sh.Is] at h
    obtain ⟨fs, _, h2, _⟩ := h
    exact h2
theorem rows_mk {ok : Nat → Prop} {w : World} {z : Nat} {Q : D → Prop} : ∀ {rows : List (List Value)}, (∀ r ∈ rows, r.length = z ∧ ∃ d, Q d ∧ Reads ok w d r) → ∃ ds, ds.length = rows.length ∧ (∀ x ∈ ds, Q x) ∧ ReadsRows ok w z ds rows
  | [], _ => ⟨[], rfl, by simp, by rw [ReadsRows]⟩
  | r :: rows, h => by
    obtain ⟨ds, h1, h2, h3⟩ := rows_mk (rows := rows) fun r hr => h r (by simp [hr])
    obtain ⟨hz, d, hd, hr⟩ := h r (by simp)
    refine ⟨d :: ds, by simp [h1], fun x hx => ?_, by rw [ReadsRows]; exact ⟨r, rows, rfl, hz, hr, h3⟩⟩
    rcases List.mem_cons.1 hx with rfl | hx
    · exact hd
    · exact h2 x hx
section
variable {H : Type} {enc : TypeId × Value → H} {w : World} {spare : Nat → Bool} {held : Bool} {N : Nat}
mutual
theorem sh_trod : ∀ (s : Sh) (t : TypeId) (fuel : Nat) (cs : List Value) (x : DataW H × List MemPlace), s.Is t → DataW.trod enc Tryz.prog w 0 spare held fuel t cs = some x → (∀ k ∈ x.1.weights Tryz.prog t, k ≤ N) → ∃ d, s.Of N d ∧ Reads (fun b => b < w.heap.size) w d cs
  | .bool, t, fuel, cs, x, hs, h, hN => by
    rw [Sh.Is] at hs
    obtain ⟨b, rfl, _⟩ := DataW.trod_bool hs.1 h
    exact ⟨.v (.bool b), by rw [Sh.Of]; exact ⟨b, rfl⟩, by rw [Reads]; exact ⟨rfl, rfl⟩⟩
  | .int k, t, fuel, cs, x, hs, h, hN => by
    rw [Sh.Is] at hs
    obtain ⟨n, rfl, _, hw⟩ := DataW.trod_int hs.1 h
    exact ⟨.v (.int k n), by rw [Sh.Of]; exact ⟨n, rfl, hw⟩, by rw [Reads]; exact ⟨rfl, rfl⟩⟩
  | .arr n, t, fuel, cs, x, hs, h, hN => by
    rw [Sh.Is] at hs
    obtain ⟨l, hl, rfl⟩ := arr_of_trod hs.1 hs.2 h
    exact ⟨.arr n l, by rw [Sh.Of]; exact ⟨l, hl, rfl⟩, by rw [Reads]; exact ⟨hl, rfl⟩⟩
  | .bytes, t, fuel, cs, x, hs, h, hN => by
    rw [Sh.Is] at hs
    have hl : ∃ v, cs = [v] := by
      rcases DataW.trod_slice hs.1 h with ⟨hcs, _⟩ | ⟨a, len, cap, elems, rest, f, hfu, hcs, _⟩
      · exact ⟨_, hcs⟩
      · exact ⟨_, hcs⟩
    obtain ⟨v, rfl⟩ := hl
    obtain ⟨A, c, f, rows, rfl, h1, h2, h3, _, _, _, h5, h8⟩ := slice_rowsW hs.1 (by kernel_rfl : Tryz.prog.cellsOf 5 = 1) h
    obtain ⟨l, h6, h7⟩ := bytes_of_rows fun r hr => by
      obtain ⟨y, hy, _⟩ := h5 r hr
      exact u8_of_trod hy
    rw [h7] at h3
    have hl : l.length ≤ N := by
      rw [h6]
      by_cases hr : rows = []
      · rw [hr]; simp
      · obtain ⟨k, hk, hk2⟩ := h8 hr
        rw [(by kernel_rfl : Tryz.prog.bytesOf 5 = 1), Nat.mul_one] at hk2
        exact Nat.le_trans hk2 (hN k hk)
    exact ⟨.bs l, by rw [Sh.Of]; exact ⟨l, hl, rfl⟩, by rw [Reads]; exact ⟨_, rfl, A, c, by rw [h6], by rw [h6]; exact h1, h2, h3⟩⟩
  | .slice b s, t, fuel, cs, x, hs, h, hN => by
    rw [Sh.Is] at hs
    obtain ⟨_, e, hu, hb, he⟩ := hs
    have hl : ∃ v, cs = [v] := by
      rcases DataW.trod_slice hu h with ⟨hcs, _⟩ | ⟨a, len, cap, elems, rest, f, hfu, hcs, _⟩
      · exact ⟨_, hcs⟩
      · exact ⟨_, hcs⟩
    obtain ⟨v, rfl⟩ := hl
    obtain ⟨A, c, f, rows, rfl, h1, h2, h3, h4, h5, _, h6, h8⟩ := slice_rowsW hu he.cells h
    obtain ⟨ds, g1, g2, g3⟩ := rows_mk (ok := fun b => b < w.heap.size) (w := w) (z := s.size) (Q := s.Of N) fun r hr => by
      obtain ⟨y, hy, hk⟩ := h6 r hr
      exact ⟨h4 r hr, sh_trod s e f r y he hy fun k hk' => hN k (hk k hk')⟩
    have hl : ds.length * b ≤ N := by
      rw [g1, ← hb]
      by_cases hr : rows = []
      · rw [hr]; simp
      · obtain ⟨k, hk, hk2⟩ := h8 hr
        exact Nat.le_trans hk2 (hN k hk)
    refine ⟨.sl s.size ds, by rw [Sh.Of]; exact ⟨ds, hl, rfl, g2⟩, ?_⟩
    rw [Reads]
    exact ⟨A, c, rows, by rw [g1], by rw [g1]; exact h1, h2, fun e => by rw [g1, (h5 e).1]; exact ⟨rfl, (h5 e).2⟩, h3, g3⟩
  | .struct ss, t, fuel, cs, x, hs, h, hN => by
    rw [Sh.Is] at hs
    obtain ⟨fs, hu, hc, hf⟩ := hs
    obtain ⟨xs, n, _, hx, hl, hxl, hg⟩ := DataW.trod_struct hu h
    obtain ⟨ds, h1, h2⟩ := sh_trods ss 0 n cs fs.toList hf (by rw [hl, hc, Nat.zero_add]) fun f hm => by
      obtain ⟨i, hi, rfl⟩ := List.getElem_of_mem hm
      have hi' : i < fs.size := by simpa using hi
      have := hg i fs[i] (by rw [Array.getElem?_eq_getElem hi'])
      rw [List.getElem?_eq_getElem (by omega)] at this
      refine ⟨_, this, fun k hk => hN k ?_⟩
      rw [hx]
      simp only [DataW.weights, hu]
      exact DataW.weights_mem_each (j := i) (t := fs[i].type) (d := xs[i].1) (by simp [Array.getElem?_eq_getElem hi']) (by rw [List.getElem?_map, List.getElem?_eq_getElem (by omega)]; rfl) k hk
    exact ⟨.tup ds, by rw [Sh.Of]; exact ⟨ds, rfl, h1⟩, by rw [Reads]; simpa using h2⟩
theorem sh_trods : ∀ (ss : List Sh) (o n : Nat) (cs : List Value) (fs : List Field), Sh.IsF ss o fs → cs.length = o + Sh.sizes ss → (∀ f ∈ fs, ∃ y, DataW.trod enc Tryz.prog w 0 spare held n f.type ((cs.drop f.offset).take (Tryz.prog.cellsOf f.type)) = some y ∧ ∀ k ∈ y.1.weights Tryz.prog f.type, k ≤ N) →
    ∃ ds, Sh.OfL N ss ds ∧ ReadsL (fun b => b < w.heap.size) w ds (cs.drop o)
  | [], o, n, cs, fs, hf, hl, h => ⟨[], by rw [Sh.OfL], by
    rw [ReadsL]
    rw [Sh.sizes] at hl
    exact List.drop_eq_nil_of_le (by omega)⟩
  | s :: ss, o, n, cs, fs, hf, hl, h => by
    rw [Sh.IsF] at hf
    obtain ⟨f, rest, rfl, rfl, hs, hf⟩ := hf
    rw [Sh.sizes] at hl
    obtain ⟨y, hy, hk⟩ := h f (by simp)
    rw [hs.cells] at hy
    obtain ⟨d, h1, h2⟩ := sh_trod s f.type n _ y hs hy hk
    obtain ⟨ds, h3, h4⟩ := sh_trods ss (f.offset + s.size) n cs rest hf (by omega) fun g hg => h g (by simp [hg])
    refine ⟨d :: ds, by rw [Sh.OfL]; exact ⟨d, ds, rfl, h1, h3⟩, ?_⟩
    rw [ReadsL]
    refine ⟨_, _, ?_, h2, h4⟩
    rw [← List.drop_drop, List.take_append_drop]
end
theorem sh_agg {s : Sh} {d : D} (h : s.Of N d) : d.agg = s.agg := by
  cases s <;> rw [Sh.Of] at h
  · obtain ⟨_, rfl⟩ := h
    rfl
  · obtain ⟨_, rfl, _⟩ := h
    rfl
  · obtain ⟨_, _, rfl⟩ := h
    rfl
  · obtain ⟨_, _, rfl⟩ := h
    rfl
  · obtain ⟨_, _, rfl, _⟩ := h
    rfl
  · obtain ⟨_, rfl, _⟩ := h
    rfl
variable {r : Reach} {b0 : Nat} {v : Value} {d : DataW H} {ps : List MemPlace}
theorem sh_value {s : Sh} {t : TypeId} (hs : s.Is t) (hv : Value.okWide Tryz.prog w r b0 t v) (h : DataW.Trod enc Tryz.prog w 0 spare held t v d ps) : v = if s.agg then .agg v.cells else v.cells.toList.headD undef := by
  cases s <;> rw [Sh.Is] at hs
  · obtain ⟨b, rfl, _⟩ := open_bool hs.1 hv h
    rfl
  · obtain ⟨n, rfl, _⟩ := open_int hs.1 hv h
    rfl
  · simp only [Value.okWide, hs.1] at hv
    obtain ⟨cs, rfl, _⟩ := hv
    rfl
  · obtain ⟨a, n, c, rfl⟩ := okWide_slice hs.1 hv
    rfl
  · obtain ⟨_, e, hu, _, _⟩ := hs
    obtain ⟨a, n, c, rfl⟩ := okWide_slice hu hv
    rfl
  · obtain ⟨fs, hu, _⟩ := hs
    simp only [Value.okWide, hu] at hv
    obtain ⟨cs, rfl, _⟩ := hv
    rfl
theorem o_sh {s : Sh} {t : TypeId} (hs : s.Is t) (hv : Value.okWide Tryz.prog w r b0 t v) (h : DataW.Trod enc Tryz.prog w 0 spare held t v d ps) (hN : ∀ k ∈ d.weights Tryz.prog t, k ≤ N) : ∃ D, s.Of N D ∧ ReadV (fun b => b < w.heap.size) w D v := by
  have h3 := sh_value hs hv h
  obtain ⟨fuel, hf⟩ := h
  obtain ⟨D, h1, h2⟩ := sh_trod s t fuel _ _ hs hf hN
  refine ⟨D, h1, _, h2, ?_⟩
  unfold form
  rw [sh_agg h1]
  simpa using h3
end
end E
end Go.Proofs.YtdhicdnmgmkpkaaGreat
