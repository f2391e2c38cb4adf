/-
  Merged (wip/tools/merge.py): SN5, SN6, SNB, SPA, Open, OpenAll, OpenWord, OpenW.
  Conditions: none.
-/
import Derived.Test.YtdhicdnmgmkpkaaGreatZB28
import Derived.Test.YtdhicdnmgmkpkaaGreatZB29
import Derived.Test.YtdhicdnmgmkpkaaGreatZB24
import Derived.Test.YtdhicdnmgmkpkaaGreatZB21
import Derived.Test.YtdhicdnmgmkpkaaGreatZB17
import Derived.Test.YtdhicdnmgmkpkaaGreatZB19
import Derived.Test.YtdhicdnmgmkpkaaGreatZB30
import Derived.Test.YtdhicdnmgmkpkaaGreatZB2
import Derived.OpenShut
import Derived.Deep.Slices
import Derived.ChangeSame
import Derived.SizedLaws
/-
  The program's snap: Layers (slices.DeleteFunc of one word that stands once).
  Conditions: none.
-/
namespace Go.Proofs.YtdhicdnmgmkpkaaGreat
set_option linter.unusedVariables false
open Go.RowKit Mono Rlp Wd Go.Sort
namespace E
section
variable {g m c g1 : Nat} {base : List UInt8} {v : Value}
abbrev lyO (v : Value) (K : List (List UInt8)) : Obj := .row v 34 32 (K.map (D.arr 32))
abbrev lyF (g1 : Nat) : Value := .func (.func 93) #[] #[ptr g1]
abbrev lvO (g1 g : Nat) : Obj := .var g1 48 (.v (ptr g))
set_option maxRecDepth 20000 in
set_option maxHeartbeats 4000000 in
theorem isbase (x : List UInt8) : FnM 93 ([.arr 32 x] ++ [.v (ptr g1)]) [lvO g1 g, tO g m base] (fun r os' => r = .val (.v (.bool (x == base))) ∧ os' = [lvO g1 g, tO g m base]) := by
  have he := (bin_word x base).1
  refine FnM.walk 10 Tryz.func93 rfl Tryz.ntmps93 (by simp) fun X => ?_
  repeat
    (first
     | (apply P_assign; (iterate 3 exact rfl)) | (apply P_box; exact rfl; exact rfl; exact rfl; intro _) | apply EL.nil | ((with_reducible apply EK.then_normal); apply EK.code)
     | (with_reducible first | apply EC.seq | apply EC.region | apply EC.skip | apply EC.label | apply EC.block | apply EC.exit | apply EC.ret | apply EK.in_normal | apply EK.in_same | apply EK.in_ret | apply EK.then_ret | apply EK.then_exit))
  refine EC.draw 6 (by kernel_rfl) ?_
  simp only [List.take_succ_cons, List.take_zero, List.drop_succ_cons, List.drop_zero]
  repeat
    (first
     | (apply H_bin; (iterate 2 exact rfl); exact he; (iterate 2 exact rfl)) | (apply H_field; (iterate 6 exact rfl))
     | (apply H_load; exact rfl; (first | exact I0 | exact I1 | exact I2 | exact I3 | exact I4 | exact I5 | exact I6); (iterate 4 exact rfl)) | (apply H_nilck; (iterate 3 exact rfl))
     | ((with_reducible apply EH.nil); exact rfl))
  repeat
    (first
     | (apply P_assign; (iterate 3 exact rfl)) | apply EL.nil | ((with_reducible apply EK.then_normal); apply EK.code)
     | (with_reducible first | apply EC.seq | apply EC.region | apply EC.skip | apply EC.label | apply EC.block | apply EC.exit | apply EC.ret | apply EK.in_normal | apply EK.in_same | apply EK.in_ret | apply EK.then_ret | apply EK.then_exit))
  exact EK.retM1s [lvO g1 g, tO g m base] rfl rfl (by (repeat first | exact List.nil_sublist _ | apply List.Sublist.cons_cons | apply List.Sublist.cons)) ⟨rfl, rfl⟩
set_option maxRecDepth 20000 in
set_option maxHeartbeats 4000000 in
theorem index_ly (K1 K2 : List (List UInt8)) (h1 : ∀ k ∈ K1, k ≠ base) (hl : K1.length + K2.length < 1099511627776) : FnM 134 [.v v, .v (lyF g1)] [lvO g1 g, tO g m base, lyO v (K1 ++ base :: K2)] (fun r os' => r = .val (.v (.int .i64 (K1.length : Int))) ∧ os' = [lvO g1 g, tO g m base, lyO v (K1 ++ base :: K2)]) := by
  have hml : ((K1 ++ base :: K2).map (D.arr 32)).length = K1.length + 1 + K2.length := by simp; omega
  refine FnM.walk 19 Tryz.func134 rfl Tryz.ntmps134 (by simp) fun X => ?_
  repeat
    (first
     | (apply P_move; (iterate 3 exact rfl)) | (apply P_assign; (iterate 3 exact rfl))
     | (apply P_lenrow; exact rfl; (first | exact I0 | exact I1 | exact I2 | exact I3 | exact I4 | exact I5 | exact I6); (iterate 3 exact rfl)) | apply EL.nil
     | ((with_reducible apply EK.then_normal); apply EK.code)
     | (with_reducible first | apply EC.seq | apply EC.region | apply EC.skip | apply EC.label | apply EC.block | apply EC.exit | apply EC.ret | apply EK.in_normal | apply EK.in_same | apply EK.in_ret | apply EK.then_ret | apply EK.then_exit))
  refine EC.loop (ι := {i : Nat // i ≤ K1.length})
    (fun i => ⟨[(8, .val (.v (.int .i64 (i.1 : Int)))), (7, .val (.v (.int .i64 ((K1 ++ base :: K2).map (D.arr 32)).length))), (1, .val (.v (lyF g1))), (0, .val (.v v))], [lvO g1 g, tO g m base, lyO v (K1 ++ base :: K2)], []⟩)
    (fun i => K1.length - i.1) ⟨0, Nat.zero_le _⟩ ?_ ?_
  · exact (Le.keep (by repeat first | exact trivial | refine ⟨rfl, ?_⟩) (by repeat first | exact List.nil_sublist _ | apply List.Sublist.cons_cons | apply List.Sublist.cons) (by simp))
  rintro ⟨i, hi⟩
  dsimp only at hi ⊢
  by_cases hlt : i < K1.length
  · have hd : ((K1 ++ base :: K2).map (D.arr 32))[i]? = some (.arr 32 K1[i]) := by rw [List.getElem?_map, List.getElem?_append_left hlt, List.getElem?_eq_getElem hlt]; rfl
    have hb := isbase (g1 := g1) (g := g) (m := m) (base := base) K1[i]
    rw [show (K1[i] == base) = false by simpa using h1 _ (List.getElem_mem hlt)] at hb
    repeat
      (first
       | (apply P_rowload (k := i) (off := 0) (d := .arr 32 K1[i]); exact rfl; exact I2; exact ⟨by simp, hd⟩; (iterate 4 exact rfl))
       | (apply P_callMV (caps := [ptr g1]) hb; (exact fun base ok L a w _ => caps_v (caps := [ptr g1]) (by simp [Value.oneCell'])); (iterate 3 exact rfl); exact RefineL.refl _ _; (focus (intro _ _; simp [go_sem]; done)); (iterate 2 exact rfl); rintro _ _ ⟨rfl, rfl⟩)
       | (apply P_move; (iterate 3 exact rfl)) | (apply P_assign; (iterate 3 exact rfl))
       | (apply P_cmp (b := true); (iterate 2 exact rfl); (focus (first | (simp [cmpI]; done) | (simp [cmpI]; omega))); (iterate 2 exact rfl))
       | (apply P_ar; (iterate 3 exact rfl); (focus omega); (focus omega); (iterate 2 exact rfl))
       | (apply P_rowidx; exact rfl; (first | exact I0 | exact I1 | exact I2 | exact I3 | exact I4 | exact I5 | exact I6); (iterate 2 exact rfl); (focus (first | assumption | omega | (constructor <;> (first | (simp; done) | (simp; omega))))); (iterate 2 exact rfl))
       | apply EL.nil | ((with_reducible apply EK.then_normal); apply EK.code) | (apply EC.cond_true; exact rfl) | (apply EC.cond_false; exact rfl)
       | (with_reducible first | apply EC.seq | apply EC.region | apply EC.skip | apply EC.label | apply EC.block | apply EC.exit | apply EC.ret | apply EK.in_normal | apply EK.in_same | apply EK.in_ret | apply EK.then_ret | apply EK.then_exit))
    refine EK.again ⟨i + 1, hlt⟩ (by dsimp only; omega) ?_
    simp only [Int.natCast_add]
    exact (Le.keep (by repeat first | exact trivial | refine ⟨rfl, ?_⟩) (by repeat first | exact List.nil_sublist _ | apply List.Sublist.cons_cons | apply List.Sublist.cons) (by simp))
  · have hiE : i = K1.length := by omega
    subst hiE
    have hd : ((K1 ++ base :: K2).map (D.arr 32))[K1.length]? = some (.arr 32 base) := by simp
    have hb := isbase (g1 := g1) (g := g) (m := m) (base := base) base
    rw [beq_self_eq_true] at hb
    repeat
      (first
       | (apply P_rowload (k := K1.length) (off := 0) (d := .arr 32 base); exact rfl; exact I2; exact ⟨by simp, hd⟩; (iterate 4 exact rfl))
       | (apply P_callMV (caps := [ptr g1]) hb; (exact fun base ok L a w _ => caps_v (caps := [ptr g1]) (by simp [Value.oneCell'])); (iterate 3 exact rfl); exact RefineL.refl _ _; (focus (intro _ _; simp [go_sem]; done)); (iterate 2 exact rfl); rintro _ _ ⟨rfl, rfl⟩)
       | (apply P_move; (iterate 3 exact rfl)) | (apply P_assign; (iterate 3 exact rfl))
       | (apply P_cmp (b := true); (iterate 2 exact rfl); (focus (first | (simp [cmpI]; done) | (simp [cmpI]; omega))); (iterate 2 exact rfl))
       | (apply P_rowidx; exact rfl; (first | exact I0 | exact I1 | exact I2 | exact I3 | exact I4 | exact I5 | exact I6); (iterate 2 exact rfl); (focus (first | assumption | omega | (constructor <;> (first | (simp; done) | (simp; omega))))); (iterate 2 exact rfl))
       | apply EL.nil | ((with_reducible apply EK.then_normal); apply EK.code) | (apply EC.cond_true; exact rfl)
       | (with_reducible first | apply EC.seq | apply EC.region | apply EC.skip | apply EC.label | apply EC.block | apply EC.exit | apply EC.ret | apply EK.in_normal | apply EK.in_same | apply EK.in_ret | apply EK.then_ret | apply EK.then_exit))
    exact EK.retM1s [lvO g1 g, tO g m base, lyO v (K1 ++ base :: K2)] rfl rfl (by (repeat first | exact List.nil_sublist _ | apply List.Sublist.cons_cons | apply List.Sublist.cons)) ⟨rfl, rfl⟩
set_option maxRecDepth 20000 in
set_option maxHeartbeats 8000000 in
theorem delete_ly (K1 K2 : List (List UInt8)) (h1 : ∀ k ∈ K1, k ≠ base) (h2 : ∀ k ∈ K2, k ≠ base) (hl : K1.length + K2.length < 1099511627776) : FnM 92 [.v v, .v (lyF g1)] [lvO g1 g, tO g m base, lyO v (K1 ++ base :: K2)] (fun r os' => r = .val (.v (cutV v (K1.length + K2.length))) ∧ os' = [lvO g1 g, tO g m base, lyO (cutV v (K1.length + K2.length)) (K1 ++ K2)]) := by
  have hix := index_ly (v := v) (g := g) (m := m) (g1 := g1) K1 K2 h1 hl
  have hml : ((K1 ++ base :: K2).map (D.arr 32)).length = K1.length + 1 + K2.length := by simp; omega
  refine FnM.walk 42 Tryz.func92 rfl Tryz.ntmps92 (by simp) fun X => ?_
  repeat
    (first
     | ((apply P_callMD (hix); (iterate 2 exact rfl); (focus (repeat first | exact RefineL.refl _ _ | exact RL.nil | exact Rf.same | exact Rf.bs0 | exact Rf.sl0 | (apply Rf.fact; (focus (simp; done)); exact rfl) | apply Rf.tup | apply RL.cons)); (focus (intro _ _; simp [go_sem]; done)); (iterate 2 exact rfl)))
     | (apply P_move; (iterate 3 exact rfl)) | (apply P_assign; (iterate 3 exact rfl))
     | (apply P_cmp (b := false); (iterate 2 exact rfl); (focus (first | (simp [cmpI]; done) | (simp [cmpI]; omega))); (iterate 2 exact rfl))
     | (apply P_ar; (iterate 3 exact rfl); (focus omega); (focus omega); (iterate 2 exact rfl)) | apply EL.nil | ((with_reducible apply EK.then_normal); apply EK.code) | (apply EC.cond_false; exact rfl)
     | (with_reducible first | apply EC.seq | apply EC.region | apply EC.skip | apply EC.label | apply EC.block | apply EC.exit | apply EC.ret | apply EK.in_normal | apply EK.in_same | apply EK.in_ret | apply EK.then_ret | apply EK.then_exit))
  have hRl : ∀ i, i ≤ K2.length → ((K1 ++ K2.take i ++ (base :: K2).drop i).map (D.arr 32)).length = K1.length + 1 + K2.length := fun i hi => by
    simp only [List.length_map, List.length_append, List.length_take, List.length_drop, List.length_cons]
    omega
  refine EC.loop (ι := {i : Nat // i ≤ K2.length})
    (fun i => ⟨[(6, .val (.v (.int .i64 ((K1.length + 1 + i.1 : Nat) : Int)))), (5, .val (.v (.int .i64 ((K1.length + i.1 : Nat) : Int)))), (1, .val (.v (lyF g1))), (0, .val (.v v))], [lvO g1 g, tO g m base, lyO v (K1 ++ K2.take i.1 ++ (base :: K2).drop i.1)], []⟩)
    (fun i => K2.length - i.1) ⟨0, Nat.zero_le _⟩ ?_ ?_
  · simp only [Nat.add_zero, List.take_zero, List.append_nil, List.drop_zero, Int.natCast_add]
    exact (Le.keep (by repeat first | exact trivial | refine ⟨rfl, ?_⟩) (by repeat first | exact List.nil_sublist _ | apply List.Sublist.cons_cons | apply List.Sublist.cons) (by simp))
  rintro ⟨i, hi⟩
  dsimp only at hi ⊢
  have hRi := hRl i hi
  by_cases hlt : i < K2.length
  · have hl1 : (K1 ++ K2.take i).length = K1.length + i := by rw [List.length_append, List.length_take]; omega
    have hdr : (base :: K2).drop i = (base :: K2)[i]'(by simp; omega) :: K2.drop i := by rw [List.drop_eq_getElem_cons (by simp; omega), List.drop_succ_cons]
    have hdr2 : K2.drop i = K2[i] :: K2.drop (i + 1) := List.drop_eq_getElem_cons hlt
    have hget : (K1 ++ K2.take i ++ (base :: K2).drop i)[K1.length + 1 + i]? = some K2[i] := by
      rw [List.getElem?_append_right (by omega), hl1, hdr, show K1.length + 1 + i - (K1.length + i) = 1 by omega, hdr2]
      rfl
    have hset : (K1 ++ K2.take i ++ (base :: K2).drop i).set (K1.length + i) K2[i] = K1 ++ K2.take (i + 1) ++ (base :: K2).drop (i + 1) := by
      rw [List.set_append_right _ _ (by omega), hl1, Nat.sub_self, hdr, List.set_cons_zero, List.take_succ_eq_append_getElem hlt, List.drop_succ_cons]
      simp only [List.append_assoc, List.cons_append, List.nil_append]
    have hold : ∃ y, (K1 ++ K2.take i ++ (base :: K2).drop i)[K1.length + i]? = some y := by
      rw [List.getElem?_append_right (by omega), hl1, Nat.sub_self, hdr]
      exact ⟨_, rfl⟩
    obtain ⟨y, hy⟩ := hold
    have hR2 : (K1 ++ K2.take i ++ (base :: K2).drop i).length = K1.length + 1 + K2.length := by rw [← hRi, List.length_map]
    have hb := isbase (g1 := g1) (g := g) (m := m) (base := base) K2[i]
    rw [show (K2[i] == base) = false by simpa using h2 _ (List.getElem_mem hlt)] at hb
    clear hdr hdr2
    generalize K2[i] = x at hget hset hb
    generalize K1 ++ K2.take i ++ (base :: K2).drop i = R at hRi hR2 hget hset hy ⊢
    have hd : (R.map (D.arr 32))[K1.length + 1 + i]? = some (.arr 32 x) := by rw [List.getElem?_map, hget]; rfl
    have hd2 : (R.map (D.arr 32))[K1.length + i]? = some (.arr 32 y) := by rw [List.getElem?_map, hy]; rfl
    repeat
      (first
       | (apply P_rowload (k := K1.length + 1 + i) (off := 0) (d := .arr 32 x); exact rfl; exact I2; exact ⟨by rw [Int.toNat_natCast]; rfl, hd⟩; (iterate 4 exact rfl)) | (apply P_move; (iterate 3 exact rfl))
       | (apply P_load; exact rfl; (first | exact I0 | exact I1 | exact I2 | exact I3 | exact I4 | exact I5 | exact I6); (iterate 4 exact rfl))
       | (apply P_cmp (b := true); (iterate 2 exact rfl); (focus (first | (simp [cmpI]; done) | (simp [cmpI]; omega))); (iterate 2 exact rfl))
       | (apply P_lenrow; exact rfl; (first | exact I0 | exact I1 | exact I2 | exact I3 | exact I4 | exact I5 | exact I6); (iterate 3 exact rfl))
       | (apply P_rowidx; exact rfl; (first | exact I0 | exact I1 | exact I2 | exact I3 | exact I4 | exact I5 | exact I6); (iterate 2 exact rfl); (focus (first | assumption | omega | (constructor <;> (first | (simp; done) | (simp; omega))))); (iterate 2 exact rfl))
       | (apply P_alloc; exact rfl; exact rfl; exact rfl; intro _) | (apply P_store; exact rfl; (focus (repeat first | exact .z | apply SetAt.s | apply SetAtF.s)); (iterate 4 exact rfl)) | apply EL.nil
       | ((with_reducible apply EK.then_normal); apply EK.code) | (apply EC.cond_true; exact rfl)
       | (with_reducible first | apply EC.seq | apply EC.region | apply EC.skip | apply EC.label | apply EC.block | apply EC.exit | apply EC.ret | apply EK.in_normal | apply EK.in_same | apply EK.in_ret | apply EK.then_ret | apply EK.then_exit))
    refine EL.le (Le.pick [1, 2, 0, 3] [_, _, _, _] rfl (by decide) rfl) ?_
    repeat
      (first
       | (apply P_callMV (caps := [ptr g1]) hb; (exact fun base ok L a w _ => caps_v (caps := [ptr g1]) (by simp [Value.oneCell'])); (iterate 3 exact rfl); exact RefineL.refl _ _; (focus (intro _ _; simp [go_sem]; done)); (iterate 2 exact rfl); rintro _ _ ⟨rfl, rfl⟩; simp only [List.cons_append, List.nil_append])
       | (apply P_rowstore (k := K1.length + i) (off := 0) (d := .arr 32 y) (d'' := .arr 32 x); exact rfl; exact .s (.s (.s .z)); exact ⟨by rw [Int.toNat_natCast]; rfl, hd2⟩; (iterate 4 exact rfl))
       | (apply P_move; (iterate 3 exact rfl)) | (apply P_assign; (iterate 3 exact rfl)) | (apply P_not; (iterate 3 exact rfl))
       | (apply P_load; exact rfl; (first | exact I0 | exact I1 | exact I2 | exact I3 | exact I4 | exact I5 | exact I6); (iterate 4 exact rfl))
       | (apply P_ar; (iterate 3 exact rfl); (focus omega); (focus omega); (iterate 2 exact rfl))
       | (apply P_rowidx; exact rfl; (first | exact I0 | exact I1 | exact I2 | exact I3 | exact I4 | exact I5 | exact I6); (iterate 2 exact rfl); (focus (first | assumption | omega | (constructor <;> (first | (simp; done) | (simp; omega))))); (iterate 2 exact rfl))
       | apply EL.nil | ((with_reducible apply EK.then_normal); apply EK.code) | (apply EC.cond_true; exact rfl)
       | (with_reducible first | apply EC.seq | apply EC.region | apply EC.skip | apply EC.label | apply EC.block | apply EC.exit | apply EC.ret | apply EK.in_normal | apply EK.in_same | apply EK.in_ret | apply EK.then_ret | apply EK.then_exit))
    refine EK.again ⟨i + 1, hlt⟩ (by dsimp only; omega) ?_
    dsimp only
    rw [show (R.map (D.arr 32)).set (K1.length + i) (.arr 32 x) = (K1 ++ K2.take (i + 1) ++ (base :: K2).drop (i + 1)).map (D.arr 32) by rw [← hset, List.map_set]]
    rw [show ((K1.length + 1 + i : Nat) : Int) + 1 = ((K1.length + 1 + (i + 1) : Nat) : Int) by omega, show ((K1.length + i : Nat) : Int) + 1 = ((K1.length + (i + 1) : Nat) : Int) by omega]
    exact (Le.keep (by repeat first | exact trivial | refine ⟨rfl, ?_⟩) (by repeat first | exact List.nil_sublist _ | apply List.Sublist.cons_cons | apply List.Sublist.cons) (by simp))
  · have hiE : i = K2.length := by omega
    subst hiE
    rw [List.take_length]
    rw [List.take_length] at hRi
    have hR2 : (K1 ++ K2 ++ (base :: K2).drop K2.length).length = K1.length + 1 + K2.length := by rw [← hRi, List.length_map]
    have hcut : (((K1 ++ K2 ++ (base :: K2).drop K2.length).map (D.arr 32)).set (K1.length + K2.length) (.arr 32 zero32)).take (K1.length + K2.length) = (K1 ++ K2).map (D.arr 32) := by
      rw [List.take_set_of_le (Nat.le_refl _), ← List.map_take, List.take_left' (by rw [List.length_append])]
    generalize (K1 ++ K2 ++ (base :: K2).drop K2.length) = R at hRi hR2 hcut ⊢
    repeat
      (first
       | (apply P_rowsuf; exact rfl; exact I2; (iterate 2 exact rfl); exact ⟨by omega, by rw [Int.toNat_natCast, hRi]; omega⟩; (iterate 2 exact rfl)) | (apply P_move; (iterate 3 exact rfl))
       | (apply P_cmp (b := false); (iterate 2 exact rfl); (focus (first | (simp [cmpI]; done) | (simp [cmpI]; omega))); (iterate 2 exact rfl))
       | (apply P_lenrow; exact rfl; (first | exact I0 | exact I1 | exact I2 | exact I3 | exact I4 | exact I5 | exact I6); (iterate 3 exact rfl)) | apply EL.nil
       | ((with_reducible apply EK.then_normal); apply EK.code) | (apply EC.cond_false; exact rfl)
       | (with_reducible first | apply EC.seq | apply EC.region | apply EC.skip | apply EC.label | apply EC.block | apply EC.exit | apply EC.ret | apply EK.in_normal | apply EK.in_same | apply EK.in_ret | apply EK.then_ret | apply EK.then_exit))
    rw [Int.toNat_natCast]
    repeat
      (first
       | (apply P_clear1 (dz := .arr 32 zero32); exact rfl; exact .s (.s .z); (rw [hRi]; omega); (iterate 6 exact rfl))
       | (apply P_rowcut; exact rfl; exact I2; (iterate 2 exact rfl); exact ⟨by omega, by rw [Int.toNat_natCast, List.length_set, hRi]; omega⟩; (iterate 2 exact rfl)) | (apply P_move; (iterate 3 exact rfl))
       | (apply P_assign; (iterate 3 exact rfl)) | apply EL.nil | ((with_reducible apply EK.then_normal); apply EK.code)
       | (with_reducible first | apply EC.seq | apply EC.region | apply EC.skip | apply EC.label | apply EC.block | apply EC.exit | apply EC.ret | apply EK.in_normal | apply EK.in_same | apply EK.in_ret | apply EK.then_ret | apply EK.then_exit))
    rw [Int.toNat_natCast]
    refine EK.le (Le.cutRow (k := K1.length + K2.length) (v := v) (ds := (R.map (D.arr 32)).set (K1.length + K2.length) (.arr 32 zero32)) (by rw [List.length_set, hRi]; omega) (.s (.s .z))) ?_
    rw [hcut]
    exact EK.retM1s [lvO g1 g, tO g m base, lyO (cutV v (K1.length + K2.length)) (K1 ++ K2)] rfl rfl (by (repeat first | exact List.nil_sublist _ | apply List.Sublist.cons_cons | apply List.Sublist.cons)) ⟨rfl, rfl⟩
set_option maxRecDepth 20000 in
set_option maxHeartbeats 8000000 in
theorem slayers {es : List Ent} {K1 K2 : List (List UInt8)} (hK : sortL (es.map (·.2.1)) = K1 ++ base :: K2) (hn : (es.map (·.2.1)).Nodup) (hl : es.length ≤ 1000000) : FnM 41 [.v (ptr g)] [tO g m base, .map m 32 c es] (fun r os' => r = .val (.sl 32 ((K1 ++ K2).map (D.arr 32))) ∧ os' = [tO g m base, .map m 32 c es]) := by
  have hnd : (K1 ++ base :: K2).Nodup := by rw [← hK]; exact (sortL_perm _).nodup_iff.2 hn
  have hne1 : ∀ k ∈ K1, k ≠ base := fun k hk e => by
    have := (List.nodup_append.1 hnd).2.2 k hk base List.mem_cons_self
    exact this e
  have hne2 : ∀ k ∈ K2, k ≠ base := fun k hk e => by
    have := (List.nodup_cons.1 (List.nodup_append.1 hnd).2.1).1
    rw [← e] at this
    exact this hk
  have hKl : K1.length + 1 + K2.length = es.length := by
    have := (sortL_perm (es.map (·.2.1))).length_eq
    rw [hK, List.length_map] at this
    simp at this
    omega
  have hk := keys_lay m
  have hs := fun gk => sorted_lay 81 cmp_word enters_tc gk m c es (by omega)
  refine FnM.walk 13 Tryz.func41 rfl Tryz.ntmps41 (by simp) fun X => ?_
  repeat
    (first
     | (apply P_callM (os := []) hk; (iterate 2 exact rfl); exact RefineL.refl _ _; (focus (intro _ _; simp [go_sem]; done)); (iterate 2 exact rfl); rintro _ _ ⟨gk, rfl, rfl⟩; simp only [List.cons_append, List.nil_append])
     | (apply P_assign; (iterate 3 exact rfl)) | (apply P_field; (iterate 6 exact rfl))
     | (apply P_load; exact rfl; (first | exact I0 | exact I1 | exact I2 | exact I3 | exact I4 | exact I5 | exact I6); (iterate 4 exact rfl)) | (apply P_nilck; (iterate 3 exact rfl))
     | (apply P_box; exact rfl; exact rfl; exact rfl; intro _) | apply EL.nil | ((with_reducible apply EK.then_normal); apply EK.code)
     | (with_reducible first | apply EC.seq | apply EC.region | apply EC.skip | apply EC.label | apply EC.block | apply EC.exit | apply EC.ret | apply EK.in_normal | apply EK.in_same | apply EK.in_ret | apply EK.then_ret | apply EK.then_exit))
  rename_i g1
  refine EL.le (Le.pick [0, 3, 1, 2] [_, _, _, _] rfl (by decide) rfl) ?_
  repeat
    (first
     | (apply P_callM (os := [.var gk 144 (.v (.map (some m))), .map m 32 c es]) (hs gk); (iterate 2 exact rfl); exact RefineL.refl _ _; (focus (intro _ _; simp [go_sem]; done)); (iterate 2 exact rfl); rintro _ _ ⟨v, rfl, rfl⟩; rw [hK]; simp only [List.cons_append, List.nil_append])
     | (apply P_move; (iterate 3 exact rfl)) | (apply P_assign; (iterate 3 exact rfl)) | (apply P_mkfunc; (iterate 3 exact rfl)) | apply EL.nil | ((with_reducible apply EK.then_normal); apply EK.code)
     | (with_reducible first | apply EC.seq | apply EC.region | apply EC.skip | apply EC.label | apply EC.block | apply EC.exit | apply EC.ret | apply EK.in_normal | apply EK.in_same | apply EK.in_ret | apply EK.then_ret | apply EK.then_exit))
  refine EL.le (Le.pick [3, 4, 0, 1, 2] [_, _, _, _, _] rfl (by decide) rfl) ?_
  have hd := delete_ly (v := v) (g := g) (m := m) (g1 := g1) K1 K2 hne1 hne2 (by omega)
  repeat
    fail
  refine P_callM (os := [lvO g1 g, tO g m base, lyO v (K1 ++ base :: K2)]) hd rfl rfl (RefineL.refl _ _) (by intro _ _; simp [go_sem]) rfl rfl ?_
  rintro _ _ ⟨rfl, rfl⟩
  simp only [List.cons_append, List.nil_append]
  refine EL.le (Le.pick [2, 0, 1, 3, 4] [_, _, _, _, _] rfl (by decide) rfl) ?_
  refine EL.le (Le.freeze (pre := []) rfl) ?_
  refine EL.le (Le.refine (t := 12) (d' := .sl 32 ((K1 ++ K2).map (D.arr 32))) rfl (Rf.fact (by simp) rfl)) ?_
  simp only [List.nil_append]
  repeat
    (first
     | (apply P_assign; (iterate 3 exact rfl)) | apply EL.nil | ((with_reducible apply EK.then_normal); apply EK.code)
     | (with_reducible first | apply EC.seq | apply EC.region | apply EC.skip | apply EC.label | apply EC.block | apply EC.exit | apply EC.ret | apply EK.in_normal | apply EK.in_same | apply EK.in_ret | apply EK.then_ret | apply EK.then_exit))
  exact EK.retM1s [tO g m base, .map m 32 c es] rfl rfl (by (repeat first | exact List.nil_sublist _ | apply List.Sublist.cons_cons | apply List.Sublist.cons)) ⟨rfl, rfl⟩
end
end E
end Go.Proofs.YtdhicdnmgmkpkaaGreat
/-
  The law's alive (chapter 25).
  Conditions: none.
-/
namespace Go.Proofs.YtdhicdnmgmkpkaaGreat
set_option linter.unusedVariables false
open Go.RowKit Mono Rlp Wd Go.Sort
namespace E
theorem canon_nil {L : List AcL} (h : Canon (newA []) L) : L = [] := by
  refine List.eq_nil_iff_forall_not_mem.2 fun x hx => ?_
  exact (h.mem x hx).2 rfl
theorem of12 : (ofW 1 == ofW 2) = false := by decide
abbrev al1 : List Ent := [(0, ofW 1, dLay zero32 [])]
abbrev al2 : List Ent := [(0, ofW 1, dLay zero32 []), (1, ofW 2, dLay (ofW 1) [])]
theorem put_al1 : putE 0 [] (ofW 1) (dLay zero32 []) = al1 := rfl
theorem tick_al1 : tickE 0 [] (ofW 1) = 1 := rfl
theorem has_al1 : hasE al1 (ofW 2) = false := by simp [hasE, of12]
theorem put_al2 : putE 1 al1 (ofW 2) (dLay (ofW 1) []) = al2 := by unfold putE; rw [has_al1]; rfl
theorem tick_al2 : tickE 1 al1 (ofW 2) = 2 := by unfold tickE; rw [has_al1]; rfl
theorem sort_one (k : List UInt8) : sortL [k] = [k] := by simp [sortL]
set_option maxRecDepth 20000 in
set_option maxHeartbeats 8000000 in
theorem alive25 : FnM 23 [] [] (fun r os' => r = .val (.v (.bool true)) ∧ os' = []) := by
  have o1 : Fn 47 [.v (.int .i64 1)] (· = .val (.arr 32 (ofW 1))) := f_Of 1 (by omega)
  have o2 : Fn 47 [.v (.int .i64 2)] (· = .val (.arr 32 (ofW 2))) := f_Of 2 (by omega)
  have n0 := f_num 0
  have hnew := snew [] (ofW 1) (by simp) (by simp)
  refine FnM.walk 38 Tryz.func23 rfl Tryz.ntmps23 (by simp) fun X => ?_
  repeat
    (first
     | (apply P_call (o1); exact rfl; (focus (repeat first | exact RefineL.refl _ _ | exact RL.nil | exact Rf.same | exact Rf.bs0 | exact Rf.sl0 | (apply Rf.fact; (focus (simp; done)); exact rfl) | apply Rf.tup | apply RL.cons)); (focus (intro _ _; simp [go_sem]; done)); (iterate 2 exact rfl))
     | (apply P_assign; (iterate 3 exact rfl)) | apply EL.nil | ((with_reducible apply EK.then_normal); apply EK.code)
     | (with_reducible first | apply EC.seq | apply EC.region | apply EC.skip | apply EC.label | apply EC.block | apply EC.exit | apply EC.ret | apply EK.in_normal | apply EK.in_same | apply EK.in_ret | apply EK.then_ret | apply EK.then_exit))
  refine P_callM (os := []) hnew rfl rfl (by (repeat first | exact RefineL.refl _ _ | exact RL.nil | exact Rf.same | exact Rf.bs0 | exact Rf.sl0 | (apply Rf.fact; (focus (simp; done)); exact rfl) | apply Rf.tup | apply RL.cons)) (by intro _ _; simp [go_sem]) rfl rfl ?_
  rintro _ _ ⟨g, m, L, hL, _, _, rfl, rfl⟩
  obtain rfl := canon_nil hL
  simp only [List.cons_append, List.nil_append]
  rw [put_al1, tick_al1]
  have hnn := (bin_nil (T := 48) (by kernel_rfl) (some ⟨g, 0, none⟩)).1
  have e1 : getE al1 (ofW 2) = none := by simp [getE, of12]
  have e2 : getE al1 (ofW 1) = some (dLay zero32 []) := by simp [getE]
  have hadd := sadd (g := g) (m := m) (c := 1) (base := ofW 1) [] e1 e2 (by simp) (by simp) (by simp) (by simp)
  have e3 : getE al2 (ofW 2) = some (dLay (ofW 1) []) := by simp [getE, of12]
  have hfl := sflat (g := g) (m := m) (c := 2) (base := ofW 1) (id := ofW 2) (es := al2) (fun k => k == ofW 2) (fun e he => by
    simp only [List.mem_cons, List.not_mem_nil, or_false] at he
    rcases he with rfl | rfl
    · rw [of12]
      exact from_base (by simp [bne, of12])
    · rw [beq_self_eq_true]
      exact from_same) e3 (by simp)
  have hf1 : (al2.filter fun e => !(e.2.1 == ofW 2)) = [(0, ofW 1, dLay zero32 [])] := by simp [of12]
  have hf2 : (al2.filter fun e => e.2.1 == ofW 2) = [(1, ofW 2, dLay (ofW 1) [])] := by simp [of12]
  rw [hf1, hf2, List.map_cons, List.map_nil, sort_one] at hfl
  have hly := slayers (g := g) (m := m) (c := 2) (base := ofW 2) (es := [(1, ofW 2, dLay (ofW 1) [])]) (K1 := []) (K2 := []) (by rw [List.map_cons, List.map_nil, sort_one]; rfl) (by simp) (by simp)
  have hbs := sbase (g := g) (m := m) (c := 2) (base := ofW 2) (es := [(1, ofW 2, dLay (ofW 1) [])])
  have heq := (bin_word (ofW 2) (ofW 2)).1
  rw [beq_self_eq_true] at heq
  repeat
    (first
     | (apply P_call (o1); exact rfl; (focus (repeat first | exact RefineL.refl _ _ | exact RL.nil | exact Rf.same | exact Rf.bs0 | exact Rf.sl0 | (apply Rf.fact; (focus (simp; done)); exact rfl) | apply Rf.tup | apply RL.cons)); (focus (intro _ _; simp [go_sem]; done)); (iterate 2 exact rfl))
     | (apply P_call (o2); exact rfl; (focus (repeat first | exact RefineL.refl _ _ | exact RL.nil | exact Rf.same | exact Rf.bs0 | exact Rf.sl0 | (apply Rf.fact; (focus (simp; done)); exact rfl) | apply Rf.tup | apply RL.cons)); (focus (intro _ _; simp [go_sem]; done)); (iterate 2 exact rfl))
     | (apply P_bin; (iterate 2 exact rfl); exact hnn; (iterate 2 exact rfl)) | (apply P_move; (iterate 3 exact rfl)) | (apply P_assign; (iterate 3 exact rfl)) | (apply P_build; (iterate 7 exact rfl))
     | apply EL.nil | ((with_reducible apply EK.then_normal); apply EK.code) | (apply EC.cond_false; exact rfl)
     | (with_reducible first | apply EC.seq | apply EC.region | apply EC.skip | apply EC.label | apply EC.block | apply EC.exit | apply EC.ret | apply EK.in_normal | apply EK.in_same | apply EK.in_ret | apply EK.then_ret | apply EK.then_exit))
  refine P_callM (os := [tO g m (ofW 1), .map m 32 1 al1]) hadd rfl rfl (by (repeat first | exact RefineL.refl _ _ | exact RL.nil | exact Rf.same | exact Rf.bs0 | exact Rf.sl0 | (apply Rf.fact; (focus (simp; done)); exact rfl) | apply Rf.tup | apply RL.cons)) (by intro _ _; simp [go_sem]) rfl rfl ?_
  rintro _ _ ⟨L', hL', _, _, rfl, rfl⟩
  obtain rfl := canon_nil (show Canon (newA []) L' from hL')
  simp only [List.cons_append, List.nil_append]
  rw [put_al2, tick_al2]
  repeat
    (first
     | (apply P_call (o2); exact rfl; (focus (repeat first | exact RefineL.refl _ _ | exact RL.nil | exact Rf.same | exact Rf.bs0 | exact Rf.sl0 | (apply Rf.fact; (focus (simp; done)); exact rfl) | apply Rf.tup | apply RL.cons)); (focus (intro _ _; simp [go_sem]; done)); (iterate 2 exact rfl))
     | (apply P_move; (iterate 3 exact rfl)) | (apply P_assign; (iterate 3 exact rfl)) | apply EL.nil | ((with_reducible apply EK.then_normal); apply EK.code)
     | (with_reducible first | apply EC.seq | apply EC.region | apply EC.skip | apply EC.label | apply EC.block | apply EC.exit | apply EC.ret | apply EK.in_normal | apply EK.in_same | apply EK.in_ret | apply EK.then_ret | apply EK.then_exit))
  refine P_callM (os := [tO g m (ofW 1), .map m 32 2 al2]) hfl rfl rfl (by (repeat first | exact RefineL.refl _ _ | exact RL.nil | exact Rf.same | exact Rf.bs0 | exact Rf.sl0 | (apply Rf.fact; (focus (simp; done)); exact rfl) | apply Rf.tup | apply RL.cons)) (by intro _ _; simp [go_sem]) rfl rfl ?_
  rintro _ _ ⟨rfl, rfl⟩
  simp only [List.cons_append, List.nil_append]
  repeat
    (first
     | (apply P_call (o2); exact rfl; (focus (repeat first | exact RefineL.refl _ _ | exact RL.nil | exact Rf.same | exact Rf.bs0 | exact Rf.sl0 | (apply Rf.fact; (focus (simp; done)); exact rfl) | apply Rf.tup | apply RL.cons)); (focus (intro _ _; simp [go_sem]; done)); (iterate 2 exact rfl))
     | (apply P_call (n0); exact rfl; (focus (repeat first | exact RefineL.refl _ _ | exact RL.nil | exact Rf.same | exact Rf.bs0 | exact Rf.sl0 | (apply Rf.fact; (focus (simp; done)); exact rfl) | apply Rf.tup | apply RL.cons)); (focus (intro _ _; simp [go_sem]; done)); (iterate 2 exact rfl))
     | (apply P_bin; (iterate 2 exact rfl); exact heq; (iterate 2 exact rfl)) | (apply P_callV hbs [0, 1] [] rfl (by decide) rfl rfl (RefineL.refl _ _) (by intro _ _; simp [go_sem]) rfl rfl)
     | (apply P_callV hly [0, 1] [] rfl (by decide) rfl rfl (RefineL.refl _ _) (by intro _ _; simp [go_sem]) rfl rfl) | (apply P_move; (iterate 3 exact rfl)) | (apply P_assign; (iterate 3 exact rfl))
     | (apply P_extract; (iterate 4 exact rfl)) | (apply P_pick; (iterate 4 exact rfl))
     | (apply P_cmp (b := true); (iterate 2 exact rfl); (focus (first | (simp [cmpI]; done) | (simp [cmpI]; omega))); (iterate 2 exact rfl))
     | (apply P_ar; (iterate 3 exact rfl); (focus omega); (focus omega); (iterate 2 exact rfl)) | (apply P_lensl; (iterate 4 exact rfl)) | apply EL.nil
     | ((with_reducible apply EK.then_normal); apply EK.code)
     | (with_reducible first | apply EC.seq | apply EC.region | apply EC.skip | apply EC.label | apply EC.block | apply EC.exit | apply EC.ret | apply EK.in_normal | apply EK.in_same | apply EK.in_ret | apply EK.then_ret | apply EK.then_exit))
  exact EK.retM1s [] rfl rfl (List.nil_sublist _) ⟨rfl, rfl⟩
end E
end Go.Proofs.YtdhicdnmgmkpkaaGreat
/-
  The laws' Big.
  Conditions: none.
-/
namespace Go.Proofs.YtdhicdnmgmkpkaaGreat
set_option linter.unusedVariables false
open Go.RowKit Mono Rlp Wd Go.Sort
namespace E
def bigA (l : List AcL) : Bool := decide (20 < l.length) || l.any fun x => decide (300 < x.cd.length) || decide (20 < x.sl.length)
theorem any_at {α : Type} {p : α → Bool} {l : List α} {i : Nat} (h : i < l.length) (hp : p l[i] = true) : l.any p = true := List.any_eq_true.2 ⟨l[i], List.getElem_mem h, hp⟩
set_option maxRecDepth 20000 in
set_option maxHeartbeats 8000000 in
theorem f_bigA (l : List AcL) : Fn 12 [.sl 55 (l.map dAcL)] (· = .val (.v (.bool (bigA l)))) := by
  have hml : (l.map dAcL).length = l.length := List.length_map _
  refine Fn.walk 29 Tryz.func12 rfl Tryz.ntmps12 (by simp) fun X => ?_
  unfold bigA
  by_cases h20 : 20 < l.length
  · rw [show decide (20 < l.length) = true by simp [h20], Bool.true_or]
    repeat
      (first
       | (apply P_move; (iterate 3 exact rfl)) | (apply P_assign; (iterate 3 exact rfl))
       | (apply P_cmp (b := true); (iterate 2 exact rfl); (focus (first | (simp [cmpI]; done) | (simp [cmpI]; omega))); (iterate 2 exact rfl)) | (apply P_lensl; (iterate 4 exact rfl)) | apply EL.nil
       | ((with_reducible apply EK.then_normal); apply EK.code) | (apply EC.cond_true; exact rfl)
       | (with_reducible first | apply EC.seq | apply EC.region | apply EC.skip | apply EC.label | apply EC.block | apply EC.exit | apply EC.ret | apply EK.in_normal | apply EK.in_same | apply EK.in_ret | apply EK.then_ret | apply EK.then_exit))
    exact EK.ret1 rfl rfl rfl
  · rw [show decide (20 < l.length) = false by simp [h20], Bool.false_or]
    repeat
      (first
       | (apply P_move; (iterate 3 exact rfl)) | (apply P_assign; (iterate 3 exact rfl))
       | (apply P_cmp (b := false); (iterate 2 exact rfl); (focus (first | (simp [cmpI]; done) | (simp [cmpI]; omega))); (iterate 2 exact rfl)) | (apply P_lensl; (iterate 4 exact rfl)) | apply EL.nil
       | ((with_reducible apply EK.then_normal); apply EK.code) | (apply EC.cond_false; exact rfl)
       | (with_reducible first | apply EC.seq | apply EC.region | apply EC.skip | apply EC.label | apply EC.block | apply EC.exit | apply EC.ret | apply EK.in_normal | apply EK.in_same | apply EK.in_ret | apply EK.then_ret | apply EK.then_exit))
    refine EC.loop (ι := {i : Nat // i ≤ l.length ∧ (l.take i).any (fun x => decide (300 < x.cd.length) || decide (20 < x.sl.length)) = false})
      (fun i => ⟨[(3, .val (.v (.int .i64 (i.1 : Int)))), (0, .val (.sl 55 (l.map dAcL)))], [], []⟩)
      (fun i => l.length - i.1) ⟨0, Nat.zero_le _, rfl⟩ ?_ ?_
    · exact (Le.keep (by repeat first | exact trivial | refine ⟨rfl, ?_⟩) (by repeat first | exact List.nil_sublist _ | apply List.Sublist.cons_cons | apply List.Sublist.cons) (by simp))
    rintro ⟨i, hi, hno⟩
    dsimp only at hi ⊢
    by_cases hlt : i < l.length
    · have hd : (l.map dAcL)[i]? = some (dAcL l[i]) := by rw [List.getElem?_map, List.getElem?_eq_getElem hlt]; rfl
      have htk : l.take (i + 1) = l.take i ++ [l[i]] := List.take_succ_eq_append_getElem hlt
      have hat := any_at (p := fun x : AcL => decide (300 < x.cd.length) || decide (20 < x.sl.length)) hlt
      generalize l[i] = x at hd htk hat
      have hsl : (x.sl.map dSlL).length = x.sl.length := List.length_map _
      unfold dAcL at hd
      by_cases hc : 300 < x.cd.length
      · rw [hat (by simp [hc])]
        repeat
          (first
           | (apply P_skip; (iterate 2 exact rfl)) | (apply P_move; (iterate 3 exact rfl)) | (apply P_assign; (iterate 3 exact rfl)) | (apply P_fieldpd; (iterate 7 exact rfl))
           | (apply P_loadpd; (iterate 5 exact rfl)) | (apply P_pick; (iterate 4 exact rfl))
           | (apply P_cmp (b := true); (iterate 2 exact rfl); (focus (first | (simp [cmpI]; done) | (simp [cmpI]; omega))); (iterate 2 exact rfl)) | (apply P_lenbs; (iterate 4 exact rfl))
           | (apply P_lensl; (iterate 4 exact rfl))
           | (apply P_index; (iterate 4 exact rfl); (focus (first | exact ⟨by decide, rfl⟩ | (refine ⟨by omega, ?_⟩; rw [Int.toNat_natCast]; assumption))); (iterate 2 exact rfl)) | apply EL.nil
           | ((with_reducible apply EK.then_normal); apply EK.code) | (apply EC.cond_true; exact rfl)
           | (with_reducible first | apply EC.seq | apply EC.region | apply EC.skip | apply EC.label | apply EC.block | apply EC.exit | apply EC.ret | apply EK.in_normal | apply EK.in_same | apply EK.in_ret | apply EK.then_ret | apply EK.then_exit))
        exact EK.ret1 rfl rfl rfl
      · by_cases hs : 20 < x.sl.length
        · rw [hat (by simp [hs])]
          repeat
            (first
             | (apply P_move; (iterate 3 exact rfl)) | (apply P_assign; (iterate 3 exact rfl)) | (apply P_fieldpd; (iterate 7 exact rfl)) | (apply P_loadpd; (iterate 5 exact rfl))
             | (apply P_pick; (iterate 4 exact rfl)) | (apply P_cmp (b := true); (iterate 2 exact rfl); (focus (first | (simp [cmpI]; done) | (simp [cmpI]; omega))); (iterate 2 exact rfl))
             | (apply P_cmp (b := false); (iterate 2 exact rfl); (focus (first | (simp [cmpI]; done) | (simp [cmpI]; omega))); (iterate 2 exact rfl)) | (apply P_lenbs; (iterate 4 exact rfl))
             | (apply P_lensl; (iterate 4 exact rfl))
             | (apply P_index; (iterate 4 exact rfl); (focus (first | exact ⟨by decide, rfl⟩ | (refine ⟨by omega, ?_⟩; rw [Int.toNat_natCast]; assumption))); (iterate 2 exact rfl)) | apply EL.nil
             | ((with_reducible apply EK.then_normal); apply EK.code) | (apply EC.cond_true; exact rfl)
             | (with_reducible first | apply EC.seq | apply EC.region | apply EC.skip | apply EC.label | apply EC.block | apply EC.exit | apply EC.ret | apply EK.in_normal | apply EK.in_same | apply EK.in_ret | apply EK.then_ret | apply EK.then_exit))
          exact EK.ret1 rfl rfl rfl
        · skip
          repeat
            (first
             | (apply P_move; (iterate 3 exact rfl)) | (apply P_assign; (iterate 3 exact rfl)) | (apply P_fieldpd; (iterate 7 exact rfl)) | (apply P_loadpd; (iterate 5 exact rfl))
             | (apply P_pick; (iterate 4 exact rfl)) | (apply P_cmp (b := true); (iterate 2 exact rfl); (focus (first | (simp [cmpI]; done) | (simp [cmpI]; omega))); (iterate 2 exact rfl))
             | (apply P_cmp (b := false); (iterate 2 exact rfl); (focus (first | (simp [cmpI]; done) | (simp [cmpI]; omega))); (iterate 2 exact rfl))
             | (apply P_ar; (iterate 3 exact rfl); (focus omega); (focus omega); (iterate 2 exact rfl)) | (apply P_lenbs; (iterate 4 exact rfl)) | (apply P_lensl; (iterate 4 exact rfl))
             | (apply P_index; (iterate 4 exact rfl); (focus (first | exact ⟨by decide, rfl⟩ | (refine ⟨by omega, ?_⟩; rw [Int.toNat_natCast]; assumption))); (iterate 2 exact rfl)) | apply EL.nil
             | ((with_reducible apply EK.then_normal); apply EK.code) | (apply EC.cond_true; exact rfl) | (apply EC.cond_false; exact rfl)
             | (with_reducible first | apply EC.seq | apply EC.region | apply EC.skip | apply EC.label | apply EC.block | apply EC.exit | apply EC.ret | apply EK.in_normal | apply EK.in_same | apply EK.in_ret | apply EK.then_ret | apply EK.then_exit))
          refine EK.again ⟨i + 1, hlt, ?_⟩ (by dsimp only; omega) ?_
          · rw [htk, List.any_append, hno]
            simp [hc, hs]
          · simp only [Int.natCast_add]
            exact (Le.keep (by repeat first | exact trivial | refine ⟨rfl, ?_⟩) (by repeat first | exact List.nil_sublist _ | apply List.Sublist.cons_cons | apply List.Sublist.cons) (by simp))
    · have hiE : i = l.length := by omega
      subst hiE
      rw [List.take_length] at hno
      rw [hno]
      repeat
        (first
         | (apply P_move; (iterate 3 exact rfl)) | (apply P_assign; (iterate 3 exact rfl))
         | (apply P_cmp (b := false); (iterate 2 exact rfl); (focus (first | (simp [cmpI]; done) | (simp [cmpI]; omega))); (iterate 2 exact rfl)) | (apply P_lensl; (iterate 4 exact rfl)) | apply EL.nil
         | ((with_reducible apply EK.then_normal); apply EK.code) | (apply EC.cond_false; exact rfl)
         | (with_reducible first | apply EC.seq | apply EC.region | apply EC.skip | apply EC.label | apply EC.block | apply EC.exit | apply EC.ret | apply EK.in_normal | apply EK.in_same | apply EK.in_ret | apply EK.then_ret | apply EK.then_exit))
      exact EK.ret1 rfl rfl rfl
theorem small_A {l : List AcL} (h : bigA l = false) : l.length ≤ 20 ∧ ∀ x ∈ l, x.cd.length ≤ 300 ∧ x.sl.length ≤ 20 := by
  unfold bigA at h
  rw [Bool.or_eq_false_iff, decide_eq_false_iff_not, List.any_eq_false] at h
  refine ⟨by omega, fun x hx => ?_⟩
  have := h.2 x hx
  simp only [Bool.or_eq_true, decide_eq_true_eq, not_or] at this
  omega
end E
end Go.Proofs.YtdhicdnmgmkpkaaGreat
/-
  SnapBetween.
  Conditions: none.
-/
namespace Go.Proofs.YtdhicdnmgmkpkaaGreat
set_option linter.unusedVariables false
open Go.RowKit Mono Rlp Wd Go.Sort
namespace E
set_option maxRecDepth 20000 in
set_option maxHeartbeats 8000000 in
theorem law_between (l m : List AcL) : FnM 5 [.sl 55 (l.map dAcL), .sl 55 (m.map dAcL)] [] (fun r os' => r = .val (.v (.bool true)) ∧ os' = []) := by
  have hA := f_bigA l
  have hB := f_bigA m
  refine FnM.walk 41 Tryz.func5 rfl Tryz.ntmps5 (by simp) fun X => ?_
  cases hba : bigA l with
  | true =>
    rw [hba] at hA
    repeat
      (first
       | (apply P_skip; (iterate 2 exact rfl))
       | ((apply P_callMD (alive25); (iterate 2 exact rfl); (focus (repeat first | exact RefineL.refl _ _ | exact RL.nil | exact Rf.same | exact Rf.bs0 | exact Rf.sl0 | (apply Rf.fact; (focus (simp; done)); exact rfl) | apply Rf.tup | apply RL.cons)); (focus (intro _ _; simp [go_sem]; done)); (iterate 2 exact rfl)))
       | (apply P_call (hA); exact rfl; (focus (repeat first | exact RefineL.refl _ _ | exact RL.nil | exact Rf.same | exact Rf.bs0 | exact Rf.sl0 | (apply Rf.fact; (focus (simp; done)); exact rfl) | apply Rf.tup | apply RL.cons)); (focus (intro _ _; simp [go_sem]; done)); (iterate 2 exact rfl))
       | (apply P_move; (iterate 3 exact rfl)) | (apply P_assign; (iterate 3 exact rfl)) | (apply P_pick; (iterate 4 exact rfl)) | (apply P_not; (iterate 3 exact rfl)) | apply EL.nil
       | ((with_reducible apply EK.then_normal); apply EK.code) | (apply EC.cond_true; exact rfl)
       | (with_reducible first | apply EC.seq | apply EC.region | apply EC.skip | apply EC.label | apply EC.block | apply EC.exit | apply EC.ret | apply EK.in_normal | apply EK.in_same | apply EK.in_ret | apply EK.then_ret | apply EK.then_exit))
    exact EK.retM1s [] rfl rfl (List.nil_sublist _) ⟨rfl, rfl⟩
  | false =>
    rw [hba] at hA
    cases hbb : bigA m with
    | true =>
      rw [hbb] at hB
      repeat
        (first
         | ((apply P_callMD (alive25); (iterate 2 exact rfl); (focus (repeat first | exact RefineL.refl _ _ | exact RL.nil | exact Rf.same | exact Rf.bs0 | exact Rf.sl0 | (apply Rf.fact; (focus (simp; done)); exact rfl) | apply Rf.tup | apply RL.cons)); (focus (intro _ _; simp [go_sem]; done)); (iterate 2 exact rfl)))
         | (apply P_call (hA); exact rfl; (focus (repeat first | exact RefineL.refl _ _ | exact RL.nil | exact Rf.same | exact Rf.bs0 | exact Rf.sl0 | (apply Rf.fact; (focus (simp; done)); exact rfl) | apply Rf.tup | apply RL.cons)); (focus (intro _ _; simp [go_sem]; done)); (iterate 2 exact rfl))
         | (apply P_call (hB); exact rfl; (focus (repeat first | exact RefineL.refl _ _ | exact RL.nil | exact Rf.same | exact Rf.bs0 | exact Rf.sl0 | (apply Rf.fact; (focus (simp; done)); exact rfl) | apply Rf.tup | apply RL.cons)); (focus (intro _ _; simp [go_sem]; done)); (iterate 2 exact rfl))
         | (apply P_move; (iterate 3 exact rfl)) | (apply P_assign; (iterate 3 exact rfl)) | (apply P_pick; (iterate 4 exact rfl)) | (apply P_not; (iterate 3 exact rfl)) | apply EL.nil
         | ((with_reducible apply EK.then_normal); apply EK.code) | (apply EC.cond_true; exact rfl)
         | (with_reducible first | apply EC.seq | apply EC.region | apply EC.skip | apply EC.label | apply EC.block | apply EC.exit | apply EC.ret | apply EK.in_normal | apply EK.in_same | apply EK.in_ret | apply EK.then_ret | apply EK.then_exit))
      exact EK.retM1s [] rfl rfl (List.nil_sublist _) ⟨rfl, rfl⟩
    | false =>
      rw [hbb] at hB
      obtain ⟨hl1, hl2⟩ := small_A hba
      obtain ⟨hm1, hm2⟩ := small_A hbb
      have hl3 : ∀ x ∈ l, x.sl.length ≤ 20 ∧ x.cd.length ≤ 140737488355328 := fun x hx => by have := hl2 x hx; omega
      have hl4 : ∀ x ∈ l, x.sl.length ≤ 1000 ∧ x.cd.length ≤ 140737488355328 := fun x hx => by have := hl2 x hx; omega
      have hm3 : ∀ x ∈ m, x.sl.length ≤ 20 ∧ x.cd.length ≤ 140737488355328 := fun x hx => by have := hm2 x hx; omega
      have hm4 : ∀ x ∈ m, x.sl.length ≤ 1000 ∧ x.cd.length ≤ 140737488355328 := fun x hx => by have := hm2 x hx; omega
      have b1 := between_ l m 20 (by omega) (by omega) (by omega) hl3 hm3
      have b2 := rbetween_ l m 20 (by omega) (by omega) (by omega) hl3 hm3
      have h1 := rnew m (by omega) hm4
      repeat
        (first
         | ((apply P_callMD (alive25); (iterate 2 exact rfl); (focus (repeat first | exact RefineL.refl _ _ | exact RL.nil | exact Rf.same | exact Rf.bs0 | exact Rf.sl0 | (apply Rf.fact; (focus (simp; done)); exact rfl) | apply Rf.tup | apply RL.cons)); (focus (intro _ _; simp [go_sem]; done)); (iterate 2 exact rfl)))
         | (apply P_call (hA); exact rfl; (focus (repeat first | exact RefineL.refl _ _ | exact RL.nil | exact Rf.same | exact Rf.bs0 | exact Rf.sl0 | (apply Rf.fact; (focus (simp; done)); exact rfl) | apply Rf.tup | apply RL.cons)); (focus (intro _ _; simp [go_sem]; done)); (iterate 2 exact rfl))
         | (apply P_call (hB); exact rfl; (focus (repeat first | exact RefineL.refl _ _ | exact RL.nil | exact Rf.same | exact Rf.bs0 | exact Rf.sl0 | (apply Rf.fact; (focus (simp; done)); exact rfl) | apply Rf.tup | apply RL.cons)); (focus (intro _ _; simp [go_sem]; done)); (iterate 2 exact rfl))
         | (apply P_callM (os := []) b1; (iterate 2 exact rfl); exact RefineL.refl _ _; (focus (intro _ _; simp [go_sem]; done)); (iterate 2 exact rfl); rintro _ _ ⟨⟨D, hD, hDs, rfl⟩, rfl⟩; simp only [List.nil_append])
         | (apply P_move; (iterate 3 exact rfl)) | (apply P_assign; (iterate 3 exact rfl)) | (apply P_pick; (iterate 4 exact rfl)) | (apply P_not; (iterate 3 exact rfl)) | (apply P_build; (iterate 7 exact rfl))
         | apply EL.nil | ((with_reducible apply EK.then_normal); apply EK.code) | (apply EC.cond_false; exact rfl)
         | (with_reducible first | apply EC.seq | apply EC.region | apply EC.skip | apply EC.label | apply EC.block | apply EC.exit | apply EC.ret | apply EK.in_normal | apply EK.in_same | apply EK.in_ret | apply EK.then_ret | apply EK.then_exit))
      have h2 := apply_ l D zero32 zero32 (by omega) hl4 (by have := hDs.len; omega) (fun c hc => ⟨by have := (hDs.sl c hc).1; omega, (hDs.sl c hc).2⟩)
      rw [hD.apply (newA_nn m)] at h2
      have h3 := f_sameChanges D (by have := hDs.len; omega) (fun c hc => by have := (hDs.sl c hc).1; omega)
      refine P_callM (os := []) h2 rfl rfl (RefineL.refl _ _) (by intro _ _; simp [go_sem]) rfl rfl ?_
      rintro _ _ ⟨⟨L, hL, _, _, rfl⟩, rfl⟩
      simp only [List.nil_append]
      repeat
        (first
         | (apply P_callM (os := []) b2; (iterate 2 exact rfl); exact RefineL.refl _ _; (focus (intro _ _; simp [go_sem]; done)); (iterate 2 exact rfl); rintro _ _ ⟨⟨D2, hD2, rfl⟩, rfl⟩; obtain rfl := hD2.eq hD; simp only [List.nil_append])
         | (apply P_call (h3); exact rfl; (focus (repeat first | exact RefineL.refl _ _ | exact RL.nil | exact Rf.same | exact Rf.bs0 | exact Rf.sl0 | (apply Rf.fact; (focus (simp; done)); exact rfl) | apply Rf.tup | apply RL.cons)); (focus (intro _ _; simp [go_sem]; done)); (iterate 2 exact rfl))
         | (apply P_callM (os := []) h1; (iterate 2 exact rfl); exact RefineL.refl _ _; (focus (intro _ _; simp [go_sem]; done)); (iterate 2 exact rfl); rintro _ os1 ⟨g, rfl, hp⟩; simp only [List.append_nil])
         | (apply P_callT (rs_accounts hp (by omega)) [] rfl rfl (RefineL.refl _ _) (by intro _ _; simp [go_sem]) rfl rfl; rintro _ _ ⟨⟨L2, hL2, _, rfl⟩, rfl⟩; obtain rfl := hL2.eq hL; simp only [List.nil_append])
         | (apply P_move; (iterate 3 exact rfl)) | (apply P_assign; (iterate 3 exact rfl)) | apply EL.nil | ((with_reducible apply EK.then_normal); apply EK.code)
         | (with_reducible first | apply EC.seq | apply EC.region | apply EC.skip | apply EC.label | apply EC.block | apply EC.exit | apply EC.ret | apply EK.in_normal | apply EK.in_same | apply EK.in_ret | apply EK.then_ret | apply EK.then_exit))
      have h4 := f_sameAccounts L2 (by have := hL2.length_le; omega) fun x hx => by have := (hL2.small hm3 x hx).1; omega
      repeat
        (first
         | (apply P_call (h4); exact rfl; (focus (repeat first | exact RefineL.refl _ _ | exact RL.nil | exact Rf.same | exact Rf.bs0 | exact Rf.sl0 | (apply Rf.fact; (focus (simp; done)); exact rfl) | apply Rf.tup | apply RL.cons)); (focus (intro _ _; simp [go_sem]; done)); (iterate 2 exact rfl))
         | (apply P_assign; (iterate 3 exact rfl)) | (apply P_pick; (iterate 4 exact rfl)) | apply EL.nil | ((with_reducible apply EK.then_normal); apply EK.code)
         | (with_reducible first | apply EC.seq | apply EC.region | apply EC.skip | apply EC.label | apply EC.block | apply EC.exit | apply EC.ret | apply EK.in_normal | apply EK.in_same | apply EK.in_ret | apply EK.then_ret | apply EK.then_exit))
      exact EK.retM1s [] rfl rfl (List.nil_sublist _) ⟨rfl, rfl⟩
end E
end Go.Proofs.YtdhicdnmgmkpkaaGreat
/-
  What a slice of bytes that comes in reads as.
  Conditions: none.
-/
namespace Go.Proofs.YtdhicdnmgmkpkaaGreat
open Go.RowKit Mono
end Go.Proofs.YtdhicdnmgmkpkaaGreat
/-
  What data that come in read as: bytes, lists of bytes, arrays of bytes.
  Conditions: none.
-/
namespace Go.Proofs.YtdhicdnmgmkpkaaGreat
open Go.RowKit Mono Go.ChangeShapes Go.WideShapes Go.Deep
theorem cell_spot {w : World} {p : Addr} {v : Value} (h : w.cell? p = some v) : p.block < w.heap.size ∧ ∃ b o, p = ⟨b, o, none⟩ := by
  obtain ⟨blk, off, spot⟩ := p
  have hspot : spot = none := by
    simp only [World.cell?] at h
    cases spot with
    | none => rfl
    | some s =>
      simp at h
      split at h <;> simp at h
  subst hspot
  refine ⟨?_, blk, off, rfl⟩
  rcases Nat.lt_or_ge blk w.heap.size with hlt | hge
  · exact hlt
  · simp [World.cell?, Array.getElem?_eq_none hge] at h
theorem flat_get {n : Nat} {u : Value} : ∀ (rows : List (List Value)) (j : Nat), (∀ r ∈ rows, r.length = n) → rows.flatten[j]? = some u → ∃ i r row, j = i * n + r ∧ r < n ∧ rows[i]? = some row ∧ row[r]? = some u
  | [], j, _, h => by simp at h
  | row :: rows, j, hn, h => by
    have hr : row.length = n := hn row (by simp)
    rw [List.flatten_cons] at h
    by_cases hj : j < n
    · rw [List.getElem?_append_left (by omega)] at h
      exact ⟨0, j, row, by simp, hj, rfl, h⟩
    · rw [List.getElem?_append_right (by omega), hr] at h
      obtain ⟨i, r, row', h1, h2, h3, h4⟩ := flat_get rows (j - n) (fun r hr => hn r (by simp [hr])) h
      exact ⟨i + 1, r, row', by rw [Nat.add_mul]; omega, h2, by simpa using h3, h4⟩
section
variable {H : Type} {enc : TypeId × Value → H} {w : World} {spare : Nat → Bool} {held : Bool}
theorem int_of_trod {t : TypeId} {k : IntKind} {fuel : Nat} {cs : List Value} {x : DataW H × List MemPlace} (ht : Tryz.prog.underlying t = some (.int k)) (h : DataW.trod enc Tryz.prog w 0 spare held fuel t cs = some x) : ∃ n, cs = [.int k n] ∧ (Lit.int k n).wf = true := by
  obtain ⟨n, h1, _, h2⟩ := DataW.trod_int ht h
  exact ⟨n, h1, h2⟩
theorem u8_of_trod {fuel : Nat} {cs : List Value} {x : DataW H × List MemPlace} (h : DataW.trod enc Tryz.prog w 0 spare held fuel 5 cs = some x) : ∃ b : UInt8, cs = [bv b] := by
  obtain ⟨n, rfl, hw⟩ := int_of_trod Tryz.underlying5 h
  have hb := bounds_u8 hw
  refine ⟨UInt8.ofNat n.toNat, ?_⟩
  unfold bv
  rw [UInt8.toNat_ofNat']
  have : ((n.toNat % 2 ^ 8 : Nat) : Int) = n := by omega
  rw [this]
theorem bytes_of_rows {rows : List (List Value)} (h : ∀ r ∈ rows, ∃ b : UInt8, r = [bv b]) : ∃ l : List UInt8, l.length = rows.length ∧ rows.flatten = bvs l := by
  induction rows with
  | nil => exact ⟨[], rfl, rfl⟩
  | cons r rows ih =>
    obtain ⟨l, h1, h2⟩ := ih fun r hr => h r (by simp [hr])
    obtain ⟨b, rfl⟩ := h r (by simp)
    exact ⟨b :: l, by simp [h1], by simp [h2, bvs]⟩
/-! ### A parameter, by its type -/
set_option maxRecDepth 100000
variable {r : Reach} {b0 : Nat} {v : Value} {d : DataW H} {ps : List MemPlace}
end
end Go.Proofs.YtdhicdnmgmkpkaaGreat
/-
  What data that come in read as: words and addresses.
  Conditions: none.
-/
namespace Go.Proofs.YtdhicdnmgmkpkaaGreat
set_option linter.unusedVariables false
set_option maxRecDepth 100000
open Go.RowKit Mono Go.ChangeShapes Go.WideShapes Go.Deep
section
variable {H : Type} {enc : TypeId × Value → H} {w : World} {spare : Nat → Bool} {held : Bool}
theorem bvs_of (cs : List Value) (h : ∀ u ∈ cs, ∃ b : UInt8, u = bv b) : ∃ l : List UInt8, cs = bvs l := by
  induction cs with
  | nil => exact ⟨[], rfl⟩
  | cons u cs ih =>
    obtain ⟨l, hl⟩ := ih fun u hu => h u (by simp [hu])
    obtain ⟨b, rfl⟩ := h u (by simp)
    exact ⟨b :: l, by rw [hl]; rfl⟩
theorem arr_of_trod {t : TypeId} {n fuel : Nat} {cs : List Value} {x : DataW H × List MemPlace} (ht : Tryz.prog.underlying t = some (.array n 5)) (hc : Tryz.prog.cellsOf t = n) (h : DataW.trod enc Tryz.prog w 0 spare held fuel t cs = some x) :
    ∃ l : List UInt8, l.length = n ∧ cs = bvs l := by
  obtain ⟨xs, m, _, _, hl, hxl, hg⟩ := DataW.trod_array ht h
  rw [hc] at hl
  obtain ⟨l, rfl⟩ := bvs_of cs fun u hu => by
    obtain ⟨i, hi, rfl⟩ := List.getElem_of_mem hu
    have h1 := hg i (by omega)
    rw [(by kernel_rfl : Tryz.prog.cellsOf 5 = 1), Nat.mul_one, List.drop_eq_getElem_cons hi, List.take_succ_cons, List.take_zero, List.getElem?_eq_getElem (by omega)] at h1
    obtain ⟨b, hb⟩ := u8_of_trod h1
    exact ⟨b, by simpa using hb⟩
  exact ⟨l, by rw [← hl, bvs_length], rfl⟩
variable {r : Reach} {b0 : Nat} {v : Value} {d : DataW H} {ps : List MemPlace}
end
end Go.Proofs.YtdhicdnmgmkpkaaGreat
/-
  What data that come in read as: slices, with a bound on what they weigh.
  Conditions: none.
-/
namespace Go.Proofs.YtdhicdnmgmkpkaaGreat
set_option linter.unusedVariables false
open Go.RowKit Mono Go.ChangeShapes Go.WideShapes Go.Deep
section
variable {H : Type} {enc : TypeId × Value → H} {w : World} {spare : Nat → Bool} {held : Bool}
theorem weights_all {P : Program} {e : TypeId} {d : DataW H} {k : Nat} : ∀ {ds : List (DataW H)}, d ∈ ds → k ∈ d.weights P e → k ∈ DataW.weightsAll P e ds
  | [], h, _ => by cases h
  | x :: xs, h, hk => by
    rw [DataW.weightsAll]
    rcases List.mem_cons.1 h with rfl | h
    · exact List.mem_append_left _ hk
    · exact List.mem_append_right _ (weights_all h hk)
theorem slice_rowsW {t e n : TypeId} {fuel : Nat} {v : Value} {x : DataW H × List MemPlace} (ht : Tryz.prog.underlying t = some (.slice e)) (hn : Tryz.prog.cellsOf e = n) (h : DataW.trod enc Tryz.prog w 0 spare held fuel t [v] = some x) :
    ∃ (A : Option Addr) (c f : Nat) (rows : List (List Value)), v = .slice A rows.length c ∧ rows.length ≤ c ∧ c ≤ maxLen ∧ Rd w w.heap.size A rows.flatten ∧ (∀ r ∈ rows, r.length = n) ∧ (A = none → rows = [] ∧ c = 0) ∧ (rows ≠ [] → f < fuel) ∧ (∀ r ∈ rows, ∃ y, DataW.trod enc Tryz.prog w 0 spare held f e r = some y ∧ ∀ k ∈ y.1.weights Tryz.prog e, k ∈ x.1.weights Tryz.prog t) ∧ (rows ≠ [] → ∃ k ∈ x.1.weights Tryz.prog t, rows.length * Tryz.prog.bytesOf e ≤ k) := by
  rcases DataW.trod_slice ht h with ⟨hcs, hx⟩ | ⟨a, len, cap, elems, rest, f, hfu, hcs, hx, _, hl, hm, hel, hi, _⟩
  · simp at hcs
    subst hcs
    exact ⟨none, 0, 0, [], rfl, Nat.le_refl _, by simp [maxLen], Rd.nil, by simp, fun _ => ⟨rfl, rfl⟩, fun hne => absurd rfl hne, by simp, fun hne => absurd rfl hne⟩
  · simp at hcs
    subst hcs
    rw [hn] at hi
    let row : Nat → List Value := fun i => (w.cells? 0 (a.add (i * n)) n).getD []
    have hrow : ∀ i, i < len → w.cells? 0 (a.add (i * n)) n = some (row i) ∧ ∃ y, DataW.trod enc Tryz.prog w 0 spare held f e (row i) = some y ∧ ∀ k ∈ y.1.weights Tryz.prog e, k ∈ x.1.weights Tryz.prog t := fun i hil => by
      have h1 := hi i hil
      rw [List.getElem?_eq_getElem (by omega)] at h1
      cases hc : w.cells? 0 (a.add (i * n)) n with
      | none => rw [hc] at h1; cases h1
      | some cs' =>
        rw [hc] at h1
        have : row i = cs' := by simp only [row]; rw [hc]; rfl
        rw [this]
        refine ⟨rfl, _, h1, fun k hk => ?_⟩
        rw [hx, DataW.weights, ht]
        exact List.mem_cons_of_mem _ (List.mem_append_left _ (weights_all (List.mem_map_of_mem (List.getElem_mem (by omega))) hk))
    have hmem : ∀ r ∈ (List.range len).map row, ∃ i, i < len ∧ r = row i := fun r hr => by
      obtain ⟨i, h1, h2⟩ := List.mem_map.1 hr
      exact ⟨i, List.mem_range.1 h1, h2.symm⟩
    have hlen : ∀ r ∈ (List.range len).map row, r.length = n := fun r hr => by
      obtain ⟨i, h1, rfl⟩ := hmem r hr
      exact (World.cells?_some (hrow i h1).1).2.1
    refine ⟨some a, cap, f, (List.range len).map row, by simp, by simpa using hl, hm, ?_, hlen, (fun e => by cases e), fun _ => by omega, fun r hr => ?_, fun _ => ⟨(elems.length + rest.length) * Tryz.prog.bytesOf e, ?_, ?_⟩⟩
    · have hcell : ∀ j u, ((List.range len).map row).flatten[j]? = some u → w.cell? (a.add j) = some u := fun j u hu => by
        obtain ⟨i, r, row', rfl, h2, h3, h4⟩ := flat_get _ j hlen hu
        have hil : i < len := by
          have := (List.getElem?_eq_some_iff.1 h3).1
          simpa using this
        have h5 : row' = row i := by
          rw [List.getElem?_map, List.getElem?_range hil] at h3
          exact (Option.some.inj h3).symm
        subst h5
        have h6 := (World.cells?_some (hrow i hil).1).2.2 r h2
        rw [h4, Go.Deep.add_add] at h6
        exact h6
      intro hne
      obtain ⟨u0, rest, he⟩ := List.exists_cons_of_ne_nil hne
      have h0 := hcell 0 u0 (by rw [he]; rfl)
      rw [show a.add 0 = a from if_pos rfl] at h0
      obtain ⟨h1, b, o, rfl⟩ := cell_spot h0
      refine ⟨b, o, rfl, h1, fun j u hu => ?_⟩
      have := hcell j u hu
      rw [add_none] at this
      exact this
    · obtain ⟨i, h1, rfl⟩ := hmem r hr
      exact (hrow i h1).2
    · rw [hx, DataW.weights, ht]
      simp
    · rw [List.length_map, List.length_range]
      exact Nat.mul_le_mul_right _ (by omega)
end
end Go.Proofs.YtdhicdnmgmkpkaaGreat
