/-
  Merged (wip/tools/merge.py): TA2, EO, EP, EQ0, SB0.
  Conditions: none.
-/
import Derived.Test.YtmlajcbabimkjaaZW20
import Derived.Test.YtmlajcbabimkjaaZW13
import Derived.Lib.SliceRun
import Derived.Lib.AppendZeros
import Derived.Test.YtmlajcbabimkjaaZW16
import Derived.Test.YtmlajcbabimkjaaZW7
import Derived.Test.YtmlajcbabimkjaaZW11
/-
  acct.Slots, acct.Pairs, acct.Root.
  Conditions: none.
-/
namespace Go.Proofs.Ytmlajcbabimkjaa
set_option linter.unusedVariables false
open Go.RowKit Mono Rlp
namespace E
def slE2 (l : List Pr) : Nat := if (l.map (·.1)).Nodup then errP (l.filterMap slP) else 1
def slRoot (l : List Pr) : List UInt8 := if (l.map (·.1)).Nodup then rootP (l.filterMap slP) else zero32
theorem sum_length (t : Tn) : (sumT t).length = 32 := by
  unfold sumT
  split
  · exact hash_length _
  · exact hash_length _
theorem rootP_length (l : List Pr) : (rootP l).length = 32 := by
  unfold rootP
  split
  · exact sum_length _
  · exact zero32_length
theorem slRoot_length (l : List Pr) : (slRoot l).length = 32 := by
  unfold slRoot
  split
  · exact rootP_length _
  · exact zero32_length
set_option maxRecDepth 20000 in
set_option maxHeartbeats 4000000 in
theorem f_Slots (l : List Pr) (hs : ∀ s ∈ l, s.1.length = 32 ∧ s.2.length = 32) (hlen : l.length ≤ 1000000) : Fn 72 [.sl 64 (l.map dSlP)] (· = .tpl [.arr 32 (slRoot l), .v (.int .i64 (slE2 l : Int))]) := by
  have h1 := f_slotPairs l hs hlen
  have h2 := f_Root (l.filterMap slP)
  unfold spR at h1
  unfold slRoot slE2
  refine Fn.walk 19 Try.func72 rfl Try.ntmps72 (by simp) fun X => ?_
  by_cases hn : (l.map (·.1)).Nodup
  · rw [if_pos hn] at h1
    rw [if_pos hn, if_pos hn]
    repeat
      (first
       | (apply P_call (h1); exact rfl; (focus (repeat first | exact RefineL.refl _ _ | exact RL.nil | exact Rf.same | exact Rf.bs0 | exact Rf.sl0 | (apply Rf.fact; (focus (simp; done)); exact rfl) | apply Rf.tup | apply RL.cons)); (focus (intro _ _; simp [go_sem]; done)); (iterate 2 exact rfl))
       | (apply P_call (h2); exact rfl; (focus (repeat first | exact RefineL.refl _ _ | exact RL.nil | exact Rf.same | exact Rf.bs0 | exact Rf.sl0 | (apply Rf.fact; (focus (simp; done)); exact rfl) | apply Rf.tup | apply RL.cons)); (focus (intro _ _; simp [go_sem]; done)); (iterate 2 exact rfl))
       | (apply P_move; (iterate 3 exact rfl)) | (apply P_assign; (iterate 3 exact rfl)) | (apply P_extract; (iterate 4 exact rfl))
       | (apply P_cmp (b := false); (iterate 2 exact rfl); (focus (first | (simp [cmpI]; done) | (simp [cmpI]; omega))); (iterate 2 exact rfl)) | (apply P_alloc; exact rfl; exact rfl; exact rfl; intro _)
       | (apply P_store; exact rfl; (focus (repeat first | exact .z | apply SetAt.s | apply SetAtF.s)); (iterate 4 exact rfl)) | apply EL.nil | ((with_reducible apply EK.then_normal); apply EK.code)
       | (apply EC.cond_false; exact rfl)
       | (with_reducible first | apply EC.seq | apply EC.region | apply EC.skip | apply EC.label | apply EC.block | apply EC.exit | apply EC.ret | apply EK.in_normal | apply EK.in_same | apply EK.in_ret | apply EK.then_ret | apply EK.then_exit))
    refine EK.retc2r 0 rfl rfl rfl rfl rfl ?_ rfl
    (repeat first | exact RefineL.refl _ _ | exact RL.nil | exact Rf.same | exact Rf.bs0 | exact Rf.sl0 | (apply Rf.fact; (focus (simp; done)); exact rfl) | apply Rf.tup | apply RL.cons)
  · rw [if_neg hn] at h1
    rw [if_neg hn, if_neg hn]
    repeat
      (first
       | (apply P_call (h1); exact rfl; (focus (repeat first | exact RefineL.refl _ _ | exact RL.nil | exact Rf.same | exact Rf.bs0 | exact Rf.sl0 | (apply Rf.fact; (focus (simp; done)); exact rfl) | apply Rf.tup | apply RL.cons)); (focus (intro _ _; simp [go_sem]; done)); (iterate 2 exact rfl))
       | (apply P_move; (iterate 3 exact rfl)) | (apply P_assign; (iterate 3 exact rfl)) | (apply P_extract; (iterate 4 exact rfl))
       | (apply P_cmp (b := true); (iterate 2 exact rfl); (focus (first | (simp [cmpI]; done) | (simp [cmpI]; omega))); (iterate 2 exact rfl)) | (apply P_build0; (iterate 5 exact rfl))
       | (apply P_alloc; exact rfl; exact rfl; exact rfl; intro _) | (apply P_store; exact rfl; (focus (repeat first | exact .z | apply SetAt.s | apply SetAtF.s)); (iterate 4 exact rfl)) | apply EL.nil
       | ((with_reducible apply EK.then_normal); apply EK.code) | (apply EC.cond_true; exact rfl)
       | (with_reducible first | apply EC.seq | apply EC.region | apply EC.skip | apply EC.label | apply EC.block | apply EC.exit | apply EC.ret | apply EK.in_normal | apply EK.in_same | apply EK.in_ret | apply EK.then_ret | apply EK.then_exit))
    refine EK.retc2r 0 rfl rfl rfl rfl rfl ?_ rfl
    (repeat first | exact RefineL.refl _ _ | exact RL.nil | exact Rf.same | exact Rf.bs0 | exact Rf.sl0 | (apply Rf.fact; (focus (simp; done)); exact rfl) | apply Rf.tup | apply RL.cons)
theorem sl_addrT : SliceA 57 20 := ⟨fun w g o => by
  have hn : Try.prog.arrayLen 57 = 20 := by kernel_rfl
  have hs : (sizeOf (Try.prog.elem 57)).run Try.prog w = .ok 1 w := by kernel_rfl
  rw [run_sliceAt_array_all (P := Try.prog) w 57 ⟨g, o, none⟩ (by kernel_rfl), hs]
  simp [slicedAt, hn, add_none, Result.andThen]⟩
structure Acc where
  a : List UInt8
  n : Int
  w : List UInt8
  cd : List UInt8
  sl : List Pr
structure Acc.ok (x : Acc) : Prop where
  a : x.a.length = 20
  n0 : -9223372036854775808 ≤ x.n
  n1 : x.n ≤ 9223372036854775807
  w : x.w.length = 32
  sl : ∀ s ∈ x.sl, s.1.length = 32 ∧ s.2.length = 32
  len : x.sl.length ≤ 1000000
def dAcc (x : Acc) : D := .tup [.arr 20 x.a, .v (.int .i64 x.n), .arr 32 x.w, .bs x.cd, .sl 64 (x.sl.map dSlP)]
def acP (x : Acc) : Pr := (hash x.a, Rlp.E (bodyI x.n x.w (slRoot x.sl) (hash x.cd)))
def acE (x : Acc) : Nat := if slE2 x.sl ≠ 0 then slE2 x.sl else if x.n < 0 then 1 else 0
def prE : List Acc → List (List UInt8) → Nat
  | [], _ => 0
  | x :: l, seen => if x.a ∈ seen then 1 else if acE x ≠ 0 then acE x else prE l (seen ++ [x.a])
def prR (l : List Acc) : R := if prE l [] = 0 then .tpl [.sl 2 ((l.map acP).map dPr), .v (.int .i64 0)] else .tpl [.v (.slice none 0 0), .v (.int .i64 (prE l [] : Int))]
set_option maxRecDepth 20000 in
set_option maxHeartbeats 8000000 in
theorem f_acctPairs (l : List Acc) (hok : ∀ x ∈ l, x.ok) (hlen : l.length ≤ 1000000) : Fn 41 [.sl 55 (l.map dAcc)] (· = prR l) := by
  unfold prR
  have hl : (l.map dAcc).length = l.length := by rw [List.length_map]
  refine Fn.walk 64 Try.func41 rfl Try.ntmps41 (by simp) fun X => ?_
  repeat
    (first
     | (apply P_move; (iterate 3 exact rfl)) | (apply P_assign; (iterate 3 exact rfl)) | (apply P_lensl; (iterate 4 exact rfl)) | (apply P_makeMap; exact rfl; exact rfl; exact rfl; intro _) | apply EL.nil
     | ((with_reducible apply EK.then_normal); apply EK.code)
     | (with_reducible first | apply EC.seq | apply EC.region | apply EC.skip | apply EC.label | apply EC.block | apply EC.exit | apply EC.ret | apply EK.in_normal | apply EK.in_same | apply EK.in_ret | apply EK.then_ret | apply EK.then_exit))
  rename_i gm
  refine EC.le (Le.row 28 2) ?_
  refine EC.loop (ι := {p : Value × Nat × Nat × List Ent // p.2.1 ≤ l.length ∧ prE l [] = prE (l.drop p.2.1) ((l.take p.2.1).map (·.a)) ∧ ∀ k, getE p.2.2.2 k = if k ∈ (l.take p.2.1).map (·.a) then some (.v (.bool true)) else none})
    (fun p => ⟨[(15, .val (.v (.int .i64 (p.1.2.1 : Int)))), (14, .val (.v (.int .i64 ((l.map dAcc).length : Int)))), (13, .val (.sl 55 (l.map dAcc))), (5, .val (.v p.1.1)), (4, .val (.v (.map (some gm))))],
      [.row p.1.1 28 2 (((l.take p.1.2.1).map acP).map dPr), .map gm 20 p.1.2.2.1 p.1.2.2.2], []⟩)
    (fun p => l.length - p.1.2.1) ⟨(.slice none 0 0, 0, 0, []), Nat.zero_le _, by simp, fun k => by simp [getE]⟩ ?_ ?_
  · exact (Le.keep (by repeat first | exact trivial | refine ⟨rfl, ?_⟩) (by repeat first | exact List.nil_sublist _ | apply List.Sublist.cons_cons | apply List.Sublist.cons) (by simp))
  rintro ⟨⟨rv, n, c, es⟩, hn, hI, hes⟩
  dsimp only at hn hI hes ⊢
  by_cases hlt : n < l.length
  · have hat : (l.map dAcc)[n]? = some (.tup [.arr 20 l[n].a, .v (.int .i64 l[n].n), .arr 32 l[n].w, .bs l[n].cd, .sl 64 (l[n].sl.map dSlP)]) := by rw [List.getElem?_map, List.getElem?_eq_getElem hlt]; rfl
    have hx := hok _ (List.getElem_mem hlt)
    have hget := hes l[n].a
    rw [List.drop_eq_getElem_cons hlt, prE] at hI
    by_cases hin : l[n].a ∈ (l.take n).map (·.a)
    · rw [if_pos hin] at hget hI
      have hg2 : (getE es l[n].a).getD (.v (.bool false)) = .v (.bool true) := by rw [hget]; rfl
      repeat
        (first
         | (apply P_lookup; exact hg2; exact rfl; (first | exact I0 | exact I1 | exact I2 | exact I3); (iterate 5 exact rfl)) | (apply P_move; (iterate 3 exact rfl)) | (apply P_assign; (iterate 3 exact rfl))
         | (apply P_field; (iterate 6 exact rfl)) | (apply P_loadpd; (iterate 5 exact rfl))
         | (apply P_load; exact rfl; (first | exact I0 | exact I1 | exact I2 | exact I3 | exact I4 | exact I5 | exact I6); (iterate 4 exact rfl))
         | (apply P_cmp (b := true); (iterate 2 exact rfl); (focus (first | (simp [cmpI]; done) | (simp [cmpI]; omega))); (iterate 2 exact rfl))
         | (apply P_index; (iterate 4 exact rfl); (focus (first | exact ⟨by decide, rfl⟩ | (refine ⟨by omega, ?_⟩; rw [Int.toNat_natCast]; assumption))); (iterate 2 exact rfl))
         | (apply P_alloc; exact rfl; exact rfl; exact rfl; intro _) | (apply P_store; exact rfl; (focus (repeat first | exact .z | apply SetAt.s | apply SetAtF.s)); (iterate 4 exact rfl)) | apply EL.nil
         | ((with_reducible apply EK.then_normal); apply EK.code) | (apply EC.cond_true; exact rfl)
         | (with_reducible first | apply EC.seq | apply EC.region | apply EC.skip | apply EC.label | apply EC.block | apply EC.exit | apply EC.ret | apply EK.in_normal | apply EK.in_same | apply EK.in_ret | apply EK.then_ret | apply EK.then_exit))
      refine EK.ret2 rfl rfl rfl ?_
      rw [hI]
      rfl
    · rw [if_neg hin] at hget hI
      have hg2 : (getE es l[n].a).getD (.v (.bool false)) = .v (.bool false) := by rw [hget]; rfl
      have hS := f_Slots l[n].sl hx.sl hx.len
      by_cases hse : slE2 l[n].sl = 0
      · rw [hse] at hS
        have hK := f_kSum1 l[n].cd
        have hP := f_acctPack l[n].n l[n].w (slRoot l[n].sl) (hash l[n].cd) hx.n0 hx.n1 hx.w (slRoot_length _) (hash_length _)
        unfold dBd bodyR at hP
        by_cases hneg : l[n].n < 0
        · have hae : acE l[n] = 1 := by unfold acE; rw [if_neg (by simp [hse]), if_pos hneg]
          rw [hae, if_pos (by decide)] at hI
          rw [if_pos hneg] at hP
          repeat
            (first
             | (apply P_lookup; exact hg2; exact rfl; (first | exact I0 | exact I1 | exact I2 | exact I3); (iterate 5 exact rfl); refine EL.le (Le.pin (p := 7) (pre := []) rfl rfl) ?_; simp only [List.nil_append])
             | (apply P_call (hS); exact rfl; (focus (repeat first | exact RefineL.refl _ _ | exact RL.nil | exact Rf.same | exact Rf.bs0 | exact Rf.sl0 | (apply Rf.fact; (focus (simp; done)); exact rfl) | apply Rf.tup | apply RL.cons)); (focus (intro _ _; simp [go_sem]; done)); (iterate 2 exact rfl))
             | (apply P_move; (iterate 3 exact rfl)) | (apply P_assign; (iterate 3 exact rfl)) | (apply P_field; (iterate 6 exact rfl)) | (apply P_fieldpd; (iterate 7 exact rfl))
             | (apply P_extract; (iterate 4 exact rfl)) | (apply P_loadpd; (iterate 5 exact rfl))
             | (apply P_load; exact rfl; (first | exact I0 | exact I1 | exact I2 | exact I3 | exact I4 | exact I5 | exact I6); (iterate 4 exact rfl))
             | (apply P_cmp (b := true); (iterate 2 exact rfl); (focus (first | (simp [cmpI]; done) | (simp [cmpI]; omega))); (iterate 2 exact rfl))
             | (apply P_cmp (b := false); (iterate 2 exact rfl); (focus (first | (simp [cmpI]; done) | (simp [cmpI]; omega))); (iterate 2 exact rfl))
             | (apply P_index; (iterate 4 exact rfl); (focus (first | exact ⟨by decide, rfl⟩ | (refine ⟨by omega, ?_⟩; rw [Int.toNat_natCast]; assumption))); (iterate 2 exact rfl))
             | (apply P_mapUpd; exact rfl; (focus (repeat first | exact .z | apply SetAt.s | apply SetAtF.s)); (iterate 4 exact rfl)) | (apply P_alloc; exact rfl; exact rfl; exact rfl; intro _)
             | (apply P_store; exact rfl; (focus (repeat first | exact .z | apply SetAt.s | apply SetAtF.s)); (iterate 4 exact rfl)) | apply EL.nil | ((with_reducible apply EK.then_normal); apply EK.code)
             | (apply EC.cond_true; exact rfl) | (apply EC.cond_false; exact rfl)
             | (with_reducible first | apply EC.seq | apply EC.region | apply EC.skip | apply EC.label | apply EC.block | apply EC.exit | apply EC.ret | apply EK.in_normal | apply EK.in_same | apply EK.in_ret | apply EK.then_ret | apply EK.then_exit))
          refine EC.draw 15 (by kernel_rfl) ?_
          simp only [List.take_succ_cons, List.take_zero, List.drop_succ_cons, List.drop_zero]
          repeat
            (first
             | (apply H_call (hK); exact rfl; (focus (repeat first | exact RefineL.refl _ _ | exact RL.nil | exact Rf.same | exact Rf.bs0 | exact Rf.sl0 | (apply Rf.fact; (focus (simp; done)); exact rfl) | apply Rf.tup | apply RL.cons)); (focus (intro _ _; simp [go_sem]; done)); (iterate 2 exact rfl))
             | (apply H_call (hP); exact rfl; (focus (repeat first | exact RefineL.refl _ _ | exact RL.nil | exact Rf.same | exact Rf.bs0 | exact Rf.sl0 | (apply Rf.fact; (focus (simp; done)); exact rfl) | apply Rf.tup | apply RL.cons)); (focus (intro _ _; simp [go_sem]; done)); (iterate 2 exact rfl))
             | (apply H_move; (iterate 3 exact rfl)) | (apply H_assign; (iterate 3 exact rfl)) | (apply H_fieldpd; (iterate 7 exact rfl)) | (apply H_extract; (iterate 4 exact rfl))
             | (apply H_loadpd; (iterate 5 exact rfl)) | (apply H_load; exact rfl; (first | exact I0 | exact I1 | exact I2 | exact I3 | exact I4 | exact I5 | exact I6); (iterate 4 exact rfl))
             | (apply H_build; (iterate 7 exact rfl)) | (apply H_lit; (iterate 9 exact rfl)) | ((with_reducible apply EH.nil); exact rfl))
          repeat
            (first
             | (apply P_move; (iterate 3 exact rfl)) | (apply P_assign; (iterate 3 exact rfl))
             | (apply P_cmp (b := true); (iterate 2 exact rfl); (focus (first | (simp [cmpI]; done) | (simp [cmpI]; omega))); (iterate 2 exact rfl)) | apply EL.nil
             | ((with_reducible apply EK.then_normal); apply EK.code) | (apply EC.cond_true; exact rfl)
             | (with_reducible first | apply EC.seq | apply EC.region | apply EC.skip | apply EC.label | apply EC.block | apply EC.exit | apply EC.ret | apply EK.in_normal | apply EK.in_same | apply EK.in_ret | apply EK.then_ret | apply EK.then_exit))
          refine EK.ret2 rfl rfl rfl ?_
          rw [hI]
          rfl
        · have hae : acE l[n] = 0 := by unfold acE; rw [if_neg (by simp [hse]), if_neg hneg]
          rw [hae, if_neg (by simp)] at hI
          rw [if_neg hneg] at hP
          have hA := f_kSum1 l[n].a
          repeat
            (first
             | (apply P_lookup; exact hg2; exact rfl; (first | exact I0 | exact I1 | exact I2 | exact I3); (iterate 5 exact rfl); refine EL.le (Le.pin (p := 7) (pre := []) rfl rfl) ?_; simp only [List.nil_append])
             | (apply P_call (hS); exact rfl; (focus (repeat first | exact RefineL.refl _ _ | exact RL.nil | exact Rf.same | exact Rf.bs0 | exact Rf.sl0 | (apply Rf.fact; (focus (simp; done)); exact rfl) | apply Rf.tup | apply RL.cons)); (focus (intro _ _; simp [go_sem]; done)); (iterate 2 exact rfl))
             | (apply P_move; (iterate 3 exact rfl)) | (apply P_assign; (iterate 3 exact rfl)) | (apply P_field; (iterate 6 exact rfl)) | (apply P_fieldpd; (iterate 7 exact rfl))
             | (apply P_extract; (iterate 4 exact rfl)) | (apply P_loadpd; (iterate 5 exact rfl))
             | (apply P_load; exact rfl; (first | exact I0 | exact I1 | exact I2 | exact I3 | exact I4 | exact I5 | exact I6); (iterate 4 exact rfl))
             | (apply P_cmp (b := true); (iterate 2 exact rfl); (focus (first | (simp [cmpI]; done) | (simp [cmpI]; omega))); (iterate 2 exact rfl))
             | (apply P_cmp (b := false); (iterate 2 exact rfl); (focus (first | (simp [cmpI]; done) | (simp [cmpI]; omega))); (iterate 2 exact rfl))
             | (apply P_index; (iterate 4 exact rfl); (focus (first | exact ⟨by decide, rfl⟩ | (refine ⟨by omega, ?_⟩; rw [Int.toNat_natCast]; assumption))); (iterate 2 exact rfl))
             | (apply P_mapUpd; exact rfl; (focus (repeat first | exact .z | apply SetAt.s | apply SetAtF.s)); (iterate 4 exact rfl)) | (apply P_alloc; exact rfl; exact rfl; exact rfl; intro _)
             | (apply P_store; exact rfl; (focus (repeat first | exact .z | apply SetAt.s | apply SetAtF.s)); (iterate 4 exact rfl)) | apply EL.nil | ((with_reducible apply EK.then_normal); apply EK.code)
             | (apply EC.cond_true; exact rfl) | (apply EC.cond_false; exact rfl)
             | (with_reducible first | apply EC.seq | apply EC.region | apply EC.skip | apply EC.label | apply EC.block | apply EC.exit | apply EC.ret | apply EK.in_normal | apply EK.in_same | apply EK.in_ret | apply EK.then_ret | apply EK.then_exit))
          refine EC.draw 15 (by kernel_rfl) ?_
          simp only [List.take_succ_cons, List.take_zero, List.drop_succ_cons, List.drop_zero]
          repeat
            (first
             | (apply H_call (hK); exact rfl; (focus (repeat first | exact RefineL.refl _ _ | exact RL.nil | exact Rf.same | exact Rf.bs0 | exact Rf.sl0 | (apply Rf.fact; (focus (simp; done)); exact rfl) | apply Rf.tup | apply RL.cons)); (focus (intro _ _; simp [go_sem]; done)); (iterate 2 exact rfl))
             | (apply H_call (hP); exact rfl; (focus (repeat first | exact RefineL.refl _ _ | exact RL.nil | exact Rf.same | exact Rf.bs0 | exact Rf.sl0 | (apply Rf.fact; (focus (simp; done)); exact rfl) | apply Rf.tup | apply RL.cons)); (focus (intro _ _; simp [go_sem]; done)); (iterate 2 exact rfl))
             | (apply H_move; (iterate 3 exact rfl)) | (apply H_assign; (iterate 3 exact rfl)) | (apply H_fieldpd; (iterate 7 exact rfl)) | (apply H_extract; (iterate 4 exact rfl))
             | (apply H_loadpd; (iterate 5 exact rfl)) | (apply H_load; exact rfl; (first | exact I0 | exact I1 | exact I2 | exact I3 | exact I4 | exact I5 | exact I6); (iterate 4 exact rfl))
             | (apply H_build; (iterate 7 exact rfl)) | (apply H_lit; (iterate 9 exact rfl)) | ((with_reducible apply EH.nil); exact rfl))
          have hfl : ((l.take n).map acP).length ≤ 1000000 := by rw [List.length_map, List.length_take]; omega
          have hes2 : ∀ k, getE (putE c es l[n].a (.v (.bool true))) k = if k ∈ (l.take (n + 1)).map (·.a) then some (.v (.bool true)) else none := fun k => by
            rw [getE_putE, hes k, List.take_succ_eq_append_getElem hlt, List.map_append]
            by_cases hk2 : l[n].a = k
            · rw [if_pos hk2, if_pos (by rw [← hk2]; simp)]
            · rw [if_neg hk2]
              by_cases hm : k ∈ (l.take n).map (·.a)
              · rw [if_pos hm, if_pos (List.mem_append_left _ hm)]
              · rw [if_neg hm, if_neg fun h => ?_]
                rcases List.mem_append.1 h with h | h
                · exact hm h
                · exact hk2 (by simpa using h : k = l[n].a).symm
          have hI2 : prE l [] = prE (l.drop (n + 1)) ((l.take (n + 1)).map (·.a)) := by
            rw [hI, List.take_succ_eq_append_getElem hlt, List.map_append]
            rfl
          repeat
            (first
             | (apply P_call (hA); exact rfl; (focus (repeat first | exact RefineL.refl _ _ | exact RL.nil | exact Rf.same | exact Rf.bs0 | exact Rf.sl0 | (apply Rf.fact; (focus (simp; done)); exact rfl) | apply Rf.tup | apply RL.cons)); (focus (intro _ _; simp [go_sem]; done)); (iterate 2 exact rfl))
             | (apply P_slpd sl_addrT; (iterate 6 exact rfl)) | (apply P_move; (iterate 3 exact rfl)) | (apply P_assign; (iterate 3 exact rfl)) | (apply P_fieldpd; (iterate 7 exact rfl))
             | (apply P_cmp (b := false); (iterate 2 exact rfl); (focus (first | (simp [cmpI]; done) | (simp [cmpI]; omega))); (iterate 2 exact rfl)) | (apply P_lit; (iterate 9 exact rfl))
             | (apply P_alloc; exact rfl; exact rfl; exact rfl; intro _) | (apply P_store; exact rfl; (focus (repeat first | exact .z | apply SetAt.s | apply SetAtF.s)); (iterate 4 exact rfl)) | apply EL.nil
             | ((with_reducible apply EK.then_normal); apply EK.code) | (apply EC.cond_false; exact rfl)
             | (with_reducible first | apply EC.seq | apply EC.region | apply EC.skip | apply EC.label | apply EC.block | apply EC.exit | apply EC.ret | apply EK.in_normal | apply EK.in_same | apply EK.in_ret | apply EK.then_ret | apply EK.then_exit))
          refine EL.le (Le.pin (p := 11) (pre := []) rfl rfl) ?_
          simp only [List.nil_append]
          repeat
            (first
             | (apply P_slpd sl_word; (iterate 6 exact rfl)) | (apply P_move; (iterate 3 exact rfl)) | (apply P_assign; (iterate 3 exact rfl))
             | (apply P_ar; (iterate 3 exact rfl); (focus omega); (focus omega); (iterate 2 exact rfl)) | (apply P_build; (iterate 7 exact rfl)) | (apply P_lit; (iterate 9 exact rfl))
             | ((apply P_append; exact rfl; (focus (repeat first | exact .z | apply SetAt.s | apply SetAtF.s)); (iterate 5 exact rfl); (focus (constructor <;> (first | (simp; done) | (simp; omega))))); intro _)
             | apply EL.nil | ((with_reducible apply EK.then_normal); apply EK.code)
             | (with_reducible first | apply EC.seq | apply EC.region | apply EC.skip | apply EC.label | apply EC.block | apply EC.exit | apply EC.ret | apply EK.in_normal | apply EK.in_same | apply EK.in_ret | apply EK.then_ret | apply EK.then_exit))
          rename_i v'
          refine EK.again ⟨(v', n + 1, tickE c es l[n].a, putE c es l[n].a (.v (.bool true))), hlt, hI2, hes2⟩ (by dsimp only; omega) ?_
          dsimp only
          rw [List.take_succ_eq_append_getElem hlt, List.map_append, List.map_append]
          simp only [Int.natCast_add]
          exact (Le.keep (by repeat first | exact trivial | refine ⟨rfl, ?_⟩) (by repeat first | exact List.nil_sublist _ | apply List.Sublist.cons_cons | apply List.Sublist.cons) (by simp))
      · have hsi : (slE2 l[n].sl : Int) ≠ 0 := by omega
        have hae : acE l[n] = slE2 l[n].sl := by unfold acE; rw [if_pos hse]
        rw [hae, if_pos hse] at hI
        repeat
          (first
           | (apply P_lookup; exact hg2; exact rfl; (first | exact I0 | exact I1 | exact I2 | exact I3); (iterate 5 exact rfl); refine EL.le (Le.pin (p := 7) (pre := []) rfl rfl) ?_; simp only [List.nil_append])
           | (apply P_call (hS); exact rfl; (focus (repeat first | exact RefineL.refl _ _ | exact RL.nil | exact Rf.same | exact Rf.bs0 | exact Rf.sl0 | (apply Rf.fact; (focus (simp; done)); exact rfl) | apply Rf.tup | apply RL.cons)); (focus (intro _ _; simp [go_sem]; done)); (iterate 2 exact rfl))
           | (apply P_move; (iterate 3 exact rfl)) | (apply P_assign; (iterate 3 exact rfl)) | (apply P_field; (iterate 6 exact rfl)) | (apply P_fieldpd; (iterate 7 exact rfl))
           | (apply P_extract; (iterate 4 exact rfl)) | (apply P_loadpd; (iterate 5 exact rfl))
           | (apply P_load; exact rfl; (first | exact I0 | exact I1 | exact I2 | exact I3 | exact I4 | exact I5 | exact I6); (iterate 4 exact rfl))
           | (apply P_cmp (b := true); (iterate 2 exact rfl); (focus (first | (simp [cmpI]; done) | (simp [cmpI]; omega))); (iterate 2 exact rfl))
           | (apply P_index; (iterate 4 exact rfl); (focus (first | exact ⟨by decide, rfl⟩ | (refine ⟨by omega, ?_⟩; rw [Int.toNat_natCast]; assumption))); (iterate 2 exact rfl))
           | (apply P_mapUpd; exact rfl; (focus (repeat first | exact .z | apply SetAt.s | apply SetAtF.s)); (iterate 4 exact rfl)) | (apply P_alloc; exact rfl; exact rfl; exact rfl; intro _)
           | (apply P_store; exact rfl; (focus (repeat first | exact .z | apply SetAt.s | apply SetAtF.s)); (iterate 4 exact rfl)) | apply EL.nil | ((with_reducible apply EK.then_normal); apply EK.code)
           | (apply EC.cond_true; exact rfl) | (apply EC.cond_false; exact rfl)
           | (with_reducible first | apply EC.seq | apply EC.region | apply EC.skip | apply EC.label | apply EC.block | apply EC.exit | apply EC.ret | apply EK.in_normal | apply EK.in_same | apply EK.in_ret | apply EK.then_ret | apply EK.then_exit))
        refine EK.ret2 rfl rfl rfl ?_
        rw [hI, if_neg hse]
  · obtain rfl : n = l.length := by omega
    rw [List.drop_eq_nil_of_le (Nat.le_refl _), prE] at hI
    have htl : (l.take l.length).map acP = l.map acP := by rw [List.take_length]
    rw [htl]
    refine EC.le (Le.freeze (pre := []) rfl) ?_
    simp only [List.nil_append]
    repeat
      (first
       | (apply P_move; (iterate 3 exact rfl)) | (apply P_assign; (iterate 3 exact rfl))
       | (apply P_cmp (b := false); (iterate 2 exact rfl); (focus (first | (simp [cmpI]; done) | (simp [cmpI]; omega))); (iterate 2 exact rfl)) | apply EL.nil
       | ((with_reducible apply EK.then_normal); apply EK.code) | (apply EC.cond_false; exact rfl)
       | (with_reducible first | apply EC.seq | apply EC.region | apply EC.skip | apply EC.label | apply EC.block | apply EC.exit | apply EC.ret | apply EK.in_normal | apply EK.in_same | apply EK.in_ret | apply EK.then_ret | apply EK.then_exit))
    refine EK.ret2r rfl rfl rfl ?_ (by rw [if_pos hI])
    (repeat first | exact RefineL.refl _ _ | exact RL.nil | exact Rf.same | exact Rf.bs0 | exact Rf.sl0 | (apply Rf.fact; (focus (simp; done)); exact rfl) | apply Rf.tup | apply RL.cons)
def rootA (l : List Acc) : List UInt8 := if prE l [] = 0 then rootP (l.map acP) else zero32
def errA (l : List Acc) : Nat := if prE l [] = 0 then errP (l.map acP) else prE l []
set_option maxRecDepth 20000 in
set_option maxHeartbeats 4000000 in
theorem f_acctRoot (l : List Acc) (hok : ∀ x ∈ l, x.ok) (hlen : l.length ≤ 1000000) : Fn 23 [.sl 55 (l.map dAcc)] (· = .tpl [.arr 32 (rootA l), .v (.int .i64 (errA l : Int))]) := by
  have h1 := f_acctPairs l hok hlen
  have h2 := f_Root (l.map acP)
  unfold prR at h1
  unfold rootA errA
  refine Fn.walk 19 Try.func23 rfl Try.ntmps23 (by simp) fun X => ?_
  by_cases hn : prE l [] = 0
  · rw [if_pos hn] at h1
    rw [if_pos hn, if_pos hn]
    repeat
      (first
       | (apply P_call (h1); exact rfl; (focus (repeat first | exact RefineL.refl _ _ | exact RL.nil | exact Rf.same | exact Rf.bs0 | exact Rf.sl0 | (apply Rf.fact; (focus (simp; done)); exact rfl) | apply Rf.tup | apply RL.cons)); (focus (intro _ _; simp [go_sem]; done)); (iterate 2 exact rfl))
       | (apply P_call (h2); exact rfl; (focus (repeat first | exact RefineL.refl _ _ | exact RL.nil | exact Rf.same | exact Rf.bs0 | exact Rf.sl0 | (apply Rf.fact; (focus (simp; done)); exact rfl) | apply Rf.tup | apply RL.cons)); (focus (intro _ _; simp [go_sem]; done)); (iterate 2 exact rfl))
       | (apply P_move; (iterate 3 exact rfl)) | (apply P_assign; (iterate 3 exact rfl)) | (apply P_extract; (iterate 4 exact rfl))
       | (apply P_cmp (b := false); (iterate 2 exact rfl); (focus (first | (simp [cmpI]; done) | (simp [cmpI]; omega))); (iterate 2 exact rfl)) | (apply P_alloc; exact rfl; exact rfl; exact rfl; intro _)
       | (apply P_store; exact rfl; (focus (repeat first | exact .z | apply SetAt.s | apply SetAtF.s)); (iterate 4 exact rfl)) | apply EL.nil | ((with_reducible apply EK.then_normal); apply EK.code)
       | (apply EC.cond_false; exact rfl)
       | (with_reducible first | apply EC.seq | apply EC.region | apply EC.skip | apply EC.label | apply EC.block | apply EC.exit | apply EC.ret | apply EK.in_normal | apply EK.in_same | apply EK.in_ret | apply EK.then_ret | apply EK.then_exit))
    refine EK.retc2r 0 rfl rfl rfl rfl rfl ?_ rfl
    (repeat first | exact RefineL.refl _ _ | exact RL.nil | exact Rf.same | exact Rf.bs0 | exact Rf.sl0 | (apply Rf.fact; (focus (simp; done)); exact rfl) | apply Rf.tup | apply RL.cons)
  · rw [if_neg hn] at h1
    rw [if_neg hn, if_neg hn]
    have hni : (prE l [] : Int) ≠ 0 := by omega
    repeat
      (first
       | (apply P_call (h1); exact rfl; (focus (repeat first | exact RefineL.refl _ _ | exact RL.nil | exact Rf.same | exact Rf.bs0 | exact Rf.sl0 | (apply Rf.fact; (focus (simp; done)); exact rfl) | apply Rf.tup | apply RL.cons)); (focus (intro _ _; simp [go_sem]; done)); (iterate 2 exact rfl))
       | (apply P_move; (iterate 3 exact rfl)) | (apply P_assign; (iterate 3 exact rfl)) | (apply P_extract; (iterate 4 exact rfl))
       | (apply P_cmp (b := true); (iterate 2 exact rfl); (focus (first | (simp [cmpI]; done) | (simp [cmpI]; omega))); (iterate 2 exact rfl)) | (apply P_build0; (iterate 5 exact rfl))
       | (apply P_alloc; exact rfl; exact rfl; exact rfl; intro _) | (apply P_store; exact rfl; (focus (repeat first | exact .z | apply SetAt.s | apply SetAtF.s)); (iterate 4 exact rfl)) | apply EL.nil
       | ((with_reducible apply EK.then_normal); apply EK.code) | (apply EC.cond_true; exact rfl)
       | (with_reducible first | apply EC.seq | apply EC.region | apply EC.skip | apply EC.label | apply EC.block | apply EC.exit | apply EC.ret | apply EK.in_normal | apply EK.in_same | apply EK.in_ret | apply EK.then_ret | apply EK.then_exit))
    refine EK.retc2r 0 rfl rfl rfl rfl rfl ?_ rfl
    (repeat first | exact RefineL.refl _ _ | exact RL.nil | exact Rf.same | exact Rf.bs0 | exact Rf.sl0 | (apply Rf.fact; (focus (simp; done)); exact rfl) | apply Rf.tup | apply RL.cons)
end E
end Go.Proofs.Ytmlajcbabimkjaa
/-
  The abstract machine: what is behind the first of a row, and 'clear' of the last one.
  Conditions: none.
-/
namespace Go.Proofs.Ytmlajcbabimkjaa
set_option linter.unusedVariables false
open Go.RowKit Mono Rlp
namespace E
end E
end Go.Proofs.Ytmlajcbabimkjaa
/-
  The abstract machine: 'append(nil, make(..)...)', 'clear' of a row's end.
  Conditions: none.
-/
namespace Go.Proofs.Ytmlajcbabimkjaa
set_option linter.unusedVariables false
open Go.RowKit Mono Rlp
namespace E
end E
end Go.Proofs.Ytmlajcbabimkjaa
/-
  bytes.Compare of arrays in variables of the call's own; bytes.Equal.
  Conditions: none.
-/
namespace Go.Proofs.Ytmlajcbabimkjaa
set_option linter.unusedVariables false
open Go.RowKit Mono Rlp
namespace E
section
variable {N : Nat} {X : Cx N} {S : St} {ops : Array Oper} {o : Oper} {Q : Exit → Act → World → Prop} {l' : List Oper} {rs : List (Tmp × R)} {os : List Obj} {fs : List (Value × D)}
theorem isB_var {base ok : Nat → Prop} {L : Tmp → Prop} {a : Act} {w : World} (ha : Kn base ok L S a w) {x : Operand} {g n m i : Nat} {t : TypeId} {d : D} {l : List UInt8} (hL : ∀ u, x = .tmp u → L u) (hx : ev S x = some (.val (.v (.slice (some ⟨g, n, none⟩) m m)))) (hi : S.objs[i]? = some (.var g t d)) (hs : d.sub n m true = some (.arr m l)) (hm : Nat.ble m 4096 = true) : IsB w (a.eval x) l := by
  have hx' := ev_v ha hx hL
  obtain ⟨_, cs, hh, hr⟩ := ha.objs _ (List.mem_of_getElem? hi)
  obtain ⟨e1, e2, pre, mid, post, rfl, e3, e4⟩ := sub_spec d n m true _ cs hs hr
  have hr := range_part (range_of_row hh)
  rw [Nat.zero_add, e3] at hr
  rw [hx']
  exact isB_range hm (Array.getElem?_eq_some_iff.1 hh).1 hr e4
theorem g_cmpvar {x y : Operand} {tys : Array TypeId} {g1 n1 m1 i1 g2 n2 m2 i2 : Nat} {t1 t2 : TypeId} {d1 d2 : D} {l1 l2 : List UInt8} (ho : o.op = .call { callee := .value (.func 43), args := #[x, y], argTypes := tys })
    (hx : ev S x = some (.val (.v (.slice (some ⟨g1, n1, none⟩) m1 m1)))) (hi1 : S.objs[i1]? = some (.var g1 t1 d1)) (hs1 : d1.sub n1 m1 true = some (.arr m1 l1)) (hm1 : Nat.ble m1 4096 = true)
    (hy : ev S y = some (.val (.v (.slice (some ⟨g2, n2, none⟩) m2 m2)))) (hi2 : S.objs[i2]? = some (.var g2 t2 d2)) (hs2 : d2.sub n2 m2 true = some (.arr m2 l2)) (hm2 : Nat.ble m2 4096 = true) : Grows ops S o (· = .val (.v (.int .i64 (cmpB l1 l2)))) := fun base ok a w ha => by
  have h1 := isB_var ha (looks_op (by rw [ho]; simp [Op.operands, Call.operands])) hx hi1 hs1 hm1
  have h2 := isB_var ha (looks_op (by rw [ho]; simp [Op.operands, Call.operands])) hy hi2 hs2 hm2
  have hrun : (execOp a.eval o).run Try.prog w = .ok (.enter 43 #[a.eval x, a.eval y]) w := by
    unfold execOp
    simp [ho, resolve, Act.eval, Deferred.ofValue, invoke]
  rw [hrun]
  refine ⟨Gr.refl w, (bytes_CompareW _ _ l1 l2 w h1 h2).mono ?_⟩
  rintro e w' ⟨rfl, rfl⟩
  exact ⟨_, rfl, Gr.refl _, _, rfl, readV_v.2 ⟨rfl, rfl⟩⟩
end
end E
end Go.Proofs.Ytmlajcbabimkjaa
/-
  Small things of many walks: tests of addresses and strings, nil, numbers' last bytes.
  Conditions: none.
-/
namespace Go.Proofs.Ytmlajcbabimkjaa
set_option linter.unusedVariables false
open Go.RowKit Mono Rlp
namespace E
theorem sl_addr : SliceA 57 20 := ⟨fun w g o => by
  have hn : Try.prog.arrayLen 57 = 20 := by kernel_rfl
  have hs : (sizeOf (Try.prog.elem 57)).run Try.prog w = .ok 1 w := by kernel_rfl
  rw [run_sliceAt_array_all (P := Try.prog) w 57 ⟨g, o, none⟩ (by kernel_rfl), hs]
  simp [slicedAt, hn, add_none, Result.andThen]⟩
theorem bv8 (n : Nat) : bv (UInt8.ofNat n) = .int .u8 ((n % 256 : Nat) : Int) := by
  unfold bv
  rw [show (UInt8.ofNat n).toNat = n % 256 from rfl]
abbrev n64 (n : Nat) : Value := .int .i64 (n : Int)
theorem n64_wrap (n : Nat) (h : n < 9223372036854775808) : IntKind.i64.wrap (n : Int) = (n : Int) := IntWalk.i64_in _ ⟨by omega, by omega⟩
theorem ofInt_n64 (a : Nat) (h : a < 18446744073709551616) : (BitVec.ofInt 64 (a : Int)).toNat = a := by
  rw [BitVec.toNat_ofInt]
  omega
theorem n64_and (a b : Nat) (ha : a < 9223372036854775808) (hb : b < 9223372036854775808) : bits .and .i64 (a : Int) (b : Int) = ((a &&& b : Nat) : Int) := by
  have h : a &&& b ≤ a := Nat.and_le_left
  show IntKind.i64.wrap (((BitVec.ofInt 64 (a : Int) &&& BitVec.ofInt 64 (b : Int)).toNat : Nat) : Int) = _
  rw [BitVec.toNat_and, ofInt_n64 a (by omega), ofInt_n64 b (by omega)]
  exact n64_wrap _ (by omega)
theorem binMask (T : TypeId) (x k : Nat) (hx : x < 9223372036854775808) (hk : k < 63) (m : Int) (hm : m = ((2 ^ k - 1 : Nat) : Int)) : Bin .and T (.v (n64 x)) (.v (.int .i64 m)) (n64 (x % 2 ^ k)) := bin_of rfl fun w => by
  subst hm
  have hp : 2 ^ k - 1 < 9223372036854775808 := by
    have : 2 ^ k < 2 ^ 63 := Nat.pow_lt_pow_right (by decide) hk
    omega
  show Result.ok (Value.int .i64 (bits .and .i64 (x : Int) ((2 ^ k - 1 : Nat) : Int))) w = _
  rw [n64_and x _ hx hp, Nat.and_two_pow_sub_one_eq_mod]
theorem binShr (T : TypeId) (x k : Nat) (hk : k < 64) : Bin .shr T (.v (n64 x)) (.v (.int .u64 (k : Int))) (n64 (x / 2 ^ k)) := bin_of rfl fun w => by
  have h1 : ¬ ((k : Int) < 0) := by omega
  have h2 : min ((k : Int)).toNat IntKind.i64.bits = k := by
    rw [Int.toNat_natCast]
    exact Nat.min_eq_left (Nat.le_of_lt hk)
  have h3 : (x : Int).fdiv (2 ^ k) = ((x / 2 ^ k : Nat) : Int) := by
    rw [Int.fdiv_eq_ediv_of_nonneg _ (Int.le_of_lt (Int.pow_pos (by decide)))]
    simp
  show (Op.shift .shr .i64 (x : Int) .u64 (k : Int)).run Try.prog w = _
  unfold Op.shift
  rw [if_neg h1]
  simp only [h2, h3, Sem.run_pure]
end E
end Go.Proofs.Ytmlajcbabimkjaa
