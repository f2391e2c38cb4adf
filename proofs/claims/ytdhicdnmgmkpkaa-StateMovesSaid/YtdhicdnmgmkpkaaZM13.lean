/-
  Merged (wip/tools/merge.py): EW1, EW2.
  Conditions: none.
-/
import Derived.Test.YtdhicdnmgmkpkaaZM12
import Derived.Laws.BitsAllLaws
/-
  The program's words: numbers of four limbs; Cmp, Add, Sub.
  Conditions: none.
-/
namespace Go.Proofs.Ytdhicdnmgmkpkaa
set_option linter.unusedVariables false
open Go.RowKit Mono Rlp Wd
namespace E
abbrev u64 (n : Nat) : Value := .int .u64 (n : Int)
def dLs (ls : List Nat) : D := .tup ((ls.map u64).map .v)
theorem run_Add64 (x y c : Nat) (hc : c ≤ 1) : ∀ w, (callFunc 90 [u64 x, u64 y, u64 c].toArray).run Try.prog w = .ok (.value (.tuple [u64 ((x + y + c) % 18446744073709551616), u64 ((x + y + c) / 18446744073709551616)].toArray)) w := fun w => by
  rw [run_callFunc_extern Try.func90 (by kernel_rfl) (by kernel_rfl) (by kernel_rfl) (e := add64Entry) (by kernel_rfl)]
  have := run_add64 (P := Try.prog) (x : Int) (y : Int) (c : Int) (by omega) (by omega) (by omega) (by omega) w
  rw [show ([u64 x, u64 y, u64 c].toArray : Array Value) = #[.int .u64 (x : Int), .int .u64 (y : Int), .int .u64 (c : Int)] from rfl, this]
  simp only [Result.andThen, u64]
  congr 5 <;> simp
def sub64Entry : Array Value → Sem Value := fun args => do
  let (x, y, b) ← Extern.MathBitsCarry.three "Sub64" args
  pure (Extern.MathBitsCarry.pair ((x + Extern.MathBitsCarry.m64 - y - b) % Extern.MathBitsCarry.m64) (if x < y + b then 1 else 0))
theorem run_Sub64 (x y c : Nat) (hc : c ≤ 1) : ∀ w, (callFunc 91 [u64 x, u64 y, u64 c].toArray).run Try.prog w = .ok (.value (.tuple [u64 ((x + 18446744073709551616 - y - c) % 18446744073709551616), u64 (if x < y + c then 1 else 0)].toArray)) w := fun w => by
  rw [run_callFunc_extern Try.func91 (by kernel_rfl) (by kernel_rfl) (by kernel_rfl) (e := sub64Entry) (by kernel_rfl)]
  have key : c = 0 ∨ c = 1 := by omega
  rcases key with rfl | rfl <;> rfl
set_option maxRecDepth 20000 in
set_option maxHeartbeats 4000000 in
theorem f_number_add (ls ms : List Nat) (hl : ls.length = 4) (hm : ms.length = 4) (h1 : ∀ x ∈ ls, x < 18446744073709551616) (h2 : ∀ x ∈ ms, x < 18446744073709551616) :
    ∃ os c, Fn 68 [dLs ls, dLs ms] (· = .tpl [dLs os, .v (u64 c)]) ∧ os.length = 4 ∧ (∀ x ∈ os, x < 18446744073709551616) ∧ Wd.le 18446744073709551616 os + 18446744073709551616 ^ 4 * c = Wd.le 18446744073709551616 ls + Wd.le 18446744073709551616 ms := by
  obtain ⟨a0, a1, a2, a3, rfl⟩ : ∃ a0 a1 a2 a3, ls = [a0, a1, a2, a3] := by
    match ls, hl with
    | [a, b, c, d], _ => exact ⟨a, b, c, d, rfl⟩
  obtain ⟨b0, b1, b2, b3, rfl⟩ : ∃ a0 a1 a2 a3, ms = [a0, a1, a2, a3] := by
    match ms, hm with
    | [a, b, c, d], _ => exact ⟨a, b, c, d, rfl⟩
  simp only [List.mem_cons, List.not_mem_nil, or_false, forall_eq_or_imp, forall_eq] at h1 h2
  have e0 := run_Add64 a0 b0 0 (by omega)
  have e1 := run_Add64 a1 b1 ((a0 + b0 + 0) / 18446744073709551616) (by omega)
  generalize hc1 : (a0 + b0 + 0) / 18446744073709551616 = c1 at e0 e1
  generalize hs0 : (a0 + b0 + 0) % 18446744073709551616 = s0 at e0
  have e2 := run_Add64 a2 b2 ((a1 + b1 + c1) / 18446744073709551616) (by omega)
  generalize hc2 : (a1 + b1 + c1) / 18446744073709551616 = c2 at e1 e2
  generalize hs1 : (a1 + b1 + c1) % 18446744073709551616 = s1 at e1
  have e3 := run_Add64 a3 b3 ((a2 + b2 + c2) / 18446744073709551616) (by omega)
  generalize hc3 : (a2 + b2 + c2) / 18446744073709551616 = c3 at e2 e3
  generalize hs2 : (a2 + b2 + c2) % 18446744073709551616 = s2 at e2
  generalize hc4 : (a3 + b3 + c3) / 18446744073709551616 = c4 at e3
  generalize hs3 : (a3 + b3 + c3) % 18446744073709551616 = s3 at e3
  have hv : ∀ x y : Nat, ∀ z ∈ [u64 x, u64 y], z.oneCell' = true := fun x y z hz => by
    simp only [List.mem_cons, List.not_mem_nil, or_false] at hz
    rcases hz with rfl | rfl <;> rfl
  refine ⟨[s0, s1, s2, s3], c4, ?_, rfl, ?_, ?_⟩
  · refine Fn.walk 28 Try.func68 rfl Try.ntmps68 (by simp) fun X => ?_
    simp only [dLs, List.map_cons, List.map_nil]
    repeat
      (first
       | (apply P_move; (iterate 3 exact rfl)) | (apply P_assign; (iterate 3 exact rfl)) | (apply P_alloc; exact rfl; exact rfl; exact rfl; intro _) | (apply P_box; exact rfl; exact rfl; exact rfl; intro _)
       | apply EL.nil | ((with_reducible apply EK.then_normal); apply EK.code)
       | (with_reducible first | apply EC.seq | apply EC.region | apply EC.skip | apply EC.label | apply EC.block | apply EC.exit | apply EC.ret | apply EK.in_normal | apply EK.in_same | apply EK.in_ret | apply EK.then_ret | apply EK.then_exit))
    refine EC.loopN 5 ?_
    apply EK.round
    repeat
      (first
       | (apply P_move; (iterate 3 exact rfl)) | (apply P_assign; (iterate 3 exact rfl))
       | (apply P_cmp (b := true); (iterate 2 exact rfl); (focus (first | (simp [cmpI]; done) | (simp [cmpI]; omega))); (iterate 2 exact rfl)) | apply EL.nil
       | ((with_reducible apply EK.then_normal); apply EK.code) | (apply EC.cond_true; exact rfl)
       | (with_reducible first | apply EC.seq | apply EC.region | apply EC.skip | apply EC.label | apply EC.block | apply EC.exit | apply EC.ret | apply EK.in_normal | apply EK.in_same | apply EK.in_ret | apply EK.then_ret | apply EK.then_exit))
    refine EC.drawC 14 [0, 1, 2, 3, 4, 5, 6, 7, 8, 9, 10, 11] [12, 13] [_] _ (by kernel_rfl) (by kernel_rfl) rfl ?_
    simp only [pickL, List.filterMap_cons, List.filterMap_nil, List.getElem?_cons_zero, List.getElem?_cons_succ]
    repeat
      (first
       | (apply H_ext e0 (hv _ _); (iterate 3 exact rfl)) | (apply H_indexptr; (iterate 3 exact rfl); exact ⟨by decide, by decide⟩; (iterate 2 exact rfl)) | (apply H_move; (iterate 3 exact rfl))
       | (apply H_extract; (iterate 4 exact rfl)) | (apply H_load; exact rfl; (first | exact I0 | exact I1 | exact I2 | exact I3 | exact I4 | exact I5 | exact I6); (iterate 4 exact rfl)))
    refine EM.nil ?_
    repeat (first | rw [List.cons_append] | rw [List.nil_append])
    refine CH.cut 1 ?_
    simp only [List.take_succ_cons, List.take_zero, List.drop_succ_cons, List.drop_zero]
    repeat
      (first
       | (apply H_indexptr; (iterate 3 exact rfl); exact ⟨by decide, by decide⟩; (iterate 2 exact rfl)))
    refine EM.nil ?_
    repeat (first | rw [List.cons_append] | rw [List.nil_append])
    refine CH.mut (os := [_]) (rest := []) rfl rfl (m_put (put_store rfl rfl rfl rfl rfl)) ?_
    rintro _ _ ⟨rfl, rfl⟩
    try simp only [St.put]
    repeat (first | rw [List.cons_append] | rw [List.nil_append])
    refine CH.nil ?_
    try simp only [List.drop_succ_cons, List.drop_zero]
    repeat
      (first
       | (apply P_move; (iterate 3 exact rfl)) | (apply P_assign; (iterate 3 exact rfl))
       | (apply P_cmp (b := true); (iterate 2 exact rfl); (focus (first | (simp [cmpI]; done) | (simp [cmpI]; omega))); (iterate 2 exact rfl))
       | (apply P_ar; (iterate 3 exact rfl); (focus omega); (focus omega); (iterate 2 exact rfl)) | ((with_reducible apply EK.then_normal); apply EK.round) | apply EL.nil
       | ((with_reducible apply EK.then_normal); apply EK.code) | (apply EC.cond_true; exact rfl)
       | (with_reducible first | apply EC.seq | apply EC.region | apply EC.skip | apply EC.label | apply EC.block | apply EC.exit | apply EC.ret | apply EK.in_normal | apply EK.in_same | apply EK.in_ret | apply EK.then_ret | apply EK.then_exit))
    refine EC.drawC 14 [0, 1, 2, 3, 4, 5, 6, 7, 8, 9, 10, 11] [12, 13] [_] _ (by kernel_rfl) (by kernel_rfl) rfl ?_
    simp only [pickL, List.filterMap_cons, List.filterMap_nil, List.getElem?_cons_zero, List.getElem?_cons_succ]
    repeat
      (first
       | (apply H_ext e1 (hv _ _); (iterate 3 exact rfl)) | (apply H_indexptr; (iterate 3 exact rfl); exact ⟨by decide, by decide⟩; (iterate 2 exact rfl)) | (apply H_move; (iterate 3 exact rfl))
       | (apply H_extract; (iterate 4 exact rfl)) | (apply H_load; exact rfl; (first | exact I0 | exact I1 | exact I2 | exact I3 | exact I4 | exact I5 | exact I6); (iterate 4 exact rfl)))
    refine EM.nil ?_
    repeat (first | rw [List.cons_append] | rw [List.nil_append])
    refine CH.cut 1 ?_
    simp only [List.take_succ_cons, List.take_zero, List.drop_succ_cons, List.drop_zero]
    repeat
      (first
       | (apply H_indexptr; (iterate 3 exact rfl); exact ⟨by decide, by decide⟩; (iterate 2 exact rfl)))
    refine EM.nil ?_
    repeat (first | rw [List.cons_append] | rw [List.nil_append])
    refine CH.mut (os := [_]) (rest := []) rfl rfl (m_put (put_store rfl rfl rfl rfl rfl)) ?_
    rintro _ _ ⟨rfl, rfl⟩
    try simp only [St.put]
    repeat (first | rw [List.cons_append] | rw [List.nil_append])
    refine CH.nil ?_
    try simp only [List.drop_succ_cons, List.drop_zero]
    repeat
      (first
       | (apply P_move; (iterate 3 exact rfl)) | (apply P_assign; (iterate 3 exact rfl))
       | (apply P_cmp (b := true); (iterate 2 exact rfl); (focus (first | (simp [cmpI]; done) | (simp [cmpI]; omega))); (iterate 2 exact rfl))
       | (apply P_ar; (iterate 3 exact rfl); (focus omega); (focus omega); (iterate 2 exact rfl)) | ((with_reducible apply EK.then_normal); apply EK.round) | apply EL.nil
       | ((with_reducible apply EK.then_normal); apply EK.code) | (apply EC.cond_true; exact rfl)
       | (with_reducible first | apply EC.seq | apply EC.region | apply EC.skip | apply EC.label | apply EC.block | apply EC.exit | apply EC.ret | apply EK.in_normal | apply EK.in_same | apply EK.in_ret | apply EK.then_ret | apply EK.then_exit))
    refine EC.drawC 14 [0, 1, 2, 3, 4, 5, 6, 7, 8, 9, 10, 11] [12, 13] [_] _ (by kernel_rfl) (by kernel_rfl) rfl ?_
    simp only [pickL, List.filterMap_cons, List.filterMap_nil, List.getElem?_cons_zero, List.getElem?_cons_succ]
    repeat
      (first
       | (apply H_ext e2 (hv _ _); (iterate 3 exact rfl)) | (apply H_indexptr; (iterate 3 exact rfl); exact ⟨by decide, by decide⟩; (iterate 2 exact rfl)) | (apply H_move; (iterate 3 exact rfl))
       | (apply H_extract; (iterate 4 exact rfl)) | (apply H_load; exact rfl; (first | exact I0 | exact I1 | exact I2 | exact I3 | exact I4 | exact I5 | exact I6); (iterate 4 exact rfl)))
    refine EM.nil ?_
    repeat (first | rw [List.cons_append] | rw [List.nil_append])
    refine CH.cut 1 ?_
    simp only [List.take_succ_cons, List.take_zero, List.drop_succ_cons, List.drop_zero]
    repeat
      (first
       | (apply H_indexptr; (iterate 3 exact rfl); exact ⟨by decide, by decide⟩; (iterate 2 exact rfl)))
    refine EM.nil ?_
    repeat (first | rw [List.cons_append] | rw [List.nil_append])
    refine CH.mut (os := [_]) (rest := []) rfl rfl (m_put (put_store rfl rfl rfl rfl rfl)) ?_
    rintro _ _ ⟨rfl, rfl⟩
    try simp only [St.put]
    repeat (first | rw [List.cons_append] | rw [List.nil_append])
    refine CH.nil ?_
    try simp only [List.drop_succ_cons, List.drop_zero]
    repeat
      (first
       | (apply P_move; (iterate 3 exact rfl)) | (apply P_assign; (iterate 3 exact rfl))
       | (apply P_cmp (b := true); (iterate 2 exact rfl); (focus (first | (simp [cmpI]; done) | (simp [cmpI]; omega))); (iterate 2 exact rfl))
       | (apply P_ar; (iterate 3 exact rfl); (focus omega); (focus omega); (iterate 2 exact rfl)) | ((with_reducible apply EK.then_normal); apply EK.round) | apply EL.nil
       | ((with_reducible apply EK.then_normal); apply EK.code) | (apply EC.cond_true; exact rfl)
       | (with_reducible first | apply EC.seq | apply EC.region | apply EC.skip | apply EC.label | apply EC.block | apply EC.exit | apply EC.ret | apply EK.in_normal | apply EK.in_same | apply EK.in_ret | apply EK.then_ret | apply EK.then_exit))
    refine EC.drawC 14 [0, 1, 2, 3, 4, 5, 6, 7, 8, 9, 10, 11] [12, 13] [_] _ (by kernel_rfl) (by kernel_rfl) rfl ?_
    simp only [pickL, List.filterMap_cons, List.filterMap_nil, List.getElem?_cons_zero, List.getElem?_cons_succ]
    repeat
      (first
       | (apply H_ext e3 (hv _ _); (iterate 3 exact rfl)) | (apply H_indexptr; (iterate 3 exact rfl); exact ⟨by decide, by decide⟩; (iterate 2 exact rfl)) | (apply H_move; (iterate 3 exact rfl))
       | (apply H_extract; (iterate 4 exact rfl)) | (apply H_load; exact rfl; (first | exact I0 | exact I1 | exact I2 | exact I3 | exact I4 | exact I5 | exact I6); (iterate 4 exact rfl)))
    refine EM.nil ?_
    repeat (first | rw [List.cons_append] | rw [List.nil_append])
    refine CH.cut 1 ?_
    simp only [List.take_succ_cons, List.take_zero, List.drop_succ_cons, List.drop_zero]
    repeat
      (first
       | (apply H_indexptr; (iterate 3 exact rfl); exact ⟨by decide, by decide⟩; (iterate 2 exact rfl)))
    refine EM.nil ?_
    repeat (first | rw [List.cons_append] | rw [List.nil_append])
    refine CH.mut (os := [_]) (rest := []) rfl rfl (m_put (put_store rfl rfl rfl rfl rfl)) ?_
    rintro _ _ ⟨rfl, rfl⟩
    try simp only [St.put]
    repeat (first | rw [List.cons_append] | rw [List.nil_append])
    refine CH.nil ?_
    try simp only [List.drop_succ_cons, List.drop_zero]
    repeat
      (first
       | (apply P_move; (iterate 3 exact rfl)) | (apply P_assign; (iterate 3 exact rfl))
       | (apply P_load; exact rfl; (first | exact I0 | exact I1 | exact I2 | exact I3 | exact I4 | exact I5 | exact I6); (iterate 4 exact rfl))
       | (apply P_cmp (b := false); (iterate 2 exact rfl); (focus (first | (simp [cmpI]; done) | (simp [cmpI]; omega))); (iterate 2 exact rfl))
       | (apply P_ar; (iterate 3 exact rfl); (focus omega); (focus omega); (iterate 2 exact rfl))
       | (apply P_store; exact rfl; (focus (repeat first | exact .z | apply SetAt.s | apply SetAtF.s)); (iterate 4 exact rfl)) | ((with_reducible apply EK.then_normal); apply EK.round) | apply EL.nil
       | ((with_reducible apply EK.then_normal); apply EK.code) | (apply EC.cond_false; exact rfl)
       | (with_reducible first | apply EC.seq | apply EC.region | apply EC.skip | apply EC.label | apply EC.block | apply EC.exit | apply EC.ret | apply EK.in_normal | apply EK.in_same | apply EK.in_ret | apply EK.then_ret | apply EK.then_exit))
    refine EK.retc2r 1 rfl rfl rfl rfl rfl ?_ rfl
    (repeat first | exact RefineL.refl _ _ | exact RL.nil | exact Rf.same | exact Rf.bs0 | exact Rf.sl0 | (apply Rf.fact; (focus (simp; done)); exact rfl) | apply Rf.tup | apply RL.cons)
  · intro x hx
    simp only [List.mem_cons, List.not_mem_nil, or_false] at hx
    omega
  · simp only [Wd.le]
    omega
set_option maxRecDepth 20000 in
set_option maxHeartbeats 4000000 in
theorem f_number_sub (ls ms : List Nat) (hl : ls.length = 4) (hm : ms.length = 4) (h1 : ∀ x ∈ ls, x < 18446744073709551616) (h2 : ∀ x ∈ ms, x < 18446744073709551616) :
    ∃ os c, Fn 70 [dLs ls, dLs ms] (· = .val (dLs os)) ∧ os.length = 4 ∧ (∀ x ∈ os, x < 18446744073709551616) ∧ c ≤ 1 ∧ Wd.le 18446744073709551616 os + Wd.le 18446744073709551616 ms = Wd.le 18446744073709551616 ls + 18446744073709551616 ^ 4 * c := by
  obtain ⟨a0, a1, a2, a3, rfl⟩ : ∃ a0 a1 a2 a3, ls = [a0, a1, a2, a3] := by
    match ls, hl with
    | [a, b, c, d], _ => exact ⟨a, b, c, d, rfl⟩
  obtain ⟨b0, b1, b2, b3, rfl⟩ : ∃ a0 a1 a2 a3, ms = [a0, a1, a2, a3] := by
    match ms, hm with
    | [a, b, c, d], _ => exact ⟨a, b, c, d, rfl⟩
  simp only [List.mem_cons, List.not_mem_nil, or_false, forall_eq_or_imp, forall_eq] at h1 h2
  have one : ∀ a b c : Nat, a < 18446744073709551616 → b < 18446744073709551616 → c ≤ 1 → ∃ s d, s < 18446744073709551616 ∧ d ≤ 1 ∧ s + b + c = a + 18446744073709551616 * d ∧ ∀ w, (callFunc 91 [u64 a, u64 b, u64 c].toArray).run Try.prog w = .ok (.value (.tuple [u64 s, u64 d].toArray)) w := fun a b c ha hb hc => by
    refine ⟨(a + 18446744073709551616 - b - c) % 18446744073709551616, if a < b + c then 1 else 0, by omega, by split <;> omega, by split <;> omega, fun w => ?_⟩
    rw [run_Sub64 a b c hc w]
  obtain ⟨s0, c1, hs0, hc1, q0, e0⟩ := one a0 b0 0 h1.1 h2.1 (by omega)
  obtain ⟨s1, c2, hs1, hc2, q1, e1⟩ := one a1 b1 c1 h1.2.1 h2.2.1 hc1
  obtain ⟨s2, c3, hs2, hc3, q2, e2⟩ := one a2 b2 c2 h1.2.2.1 h2.2.2.1 hc2
  obtain ⟨s3, c4, hs3, hc4, q3, e3⟩ := one a3 b3 c3 h1.2.2.2 h2.2.2.2 hc3
  have hv : ∀ x y : Nat, ∀ z ∈ [u64 x, u64 y], z.oneCell' = true := fun x y z hz => by
    simp only [List.mem_cons, List.not_mem_nil, or_false] at hz
    rcases hz with rfl | rfl <;> rfl
  refine ⟨[s0, s1, s2, s3], c4, ?_, rfl, ?_, hc4, ?_⟩
  · refine Fn.walk 26 Try.func70 rfl Try.ntmps70 (by simp) fun X => ?_
    simp only [dLs, List.map_cons, List.map_nil]
    repeat
      (first
       | (apply P_move; (iterate 3 exact rfl)) | (apply P_assign; (iterate 3 exact rfl)) | (apply P_alloc; exact rfl; exact rfl; exact rfl; intro _) | (apply P_box; exact rfl; exact rfl; exact rfl; intro _)
       | apply EL.nil | ((with_reducible apply EK.then_normal); apply EK.code)
       | (with_reducible first | apply EC.seq | apply EC.region | apply EC.skip | apply EC.label | apply EC.block | apply EC.exit | apply EC.ret | apply EK.in_normal | apply EK.in_same | apply EK.in_ret | apply EK.then_ret | apply EK.then_exit))
    refine EC.loopN 5 ?_
    apply EK.round
    repeat
      (first
       | (apply P_move; (iterate 3 exact rfl)) | (apply P_assign; (iterate 3 exact rfl))
       | (apply P_cmp (b := true); (iterate 2 exact rfl); (focus (first | (simp [cmpI]; done) | (simp [cmpI]; omega))); (iterate 2 exact rfl)) | apply EL.nil
       | ((with_reducible apply EK.then_normal); apply EK.code) | (apply EC.cond_true; exact rfl)
       | (with_reducible first | apply EC.seq | apply EC.region | apply EC.skip | apply EC.label | apply EC.block | apply EC.exit | apply EC.ret | apply EK.in_normal | apply EK.in_same | apply EK.in_ret | apply EK.then_ret | apply EK.then_exit))
    refine EC.drawC 14 [0, 1, 2, 3, 4, 5, 6, 7, 8, 9, 10, 11] [12, 13] [_] _ (by kernel_rfl) (by kernel_rfl) rfl ?_
    simp only [pickL, List.filterMap_cons, List.filterMap_nil, List.getElem?_cons_zero, List.getElem?_cons_succ]
    repeat
      (first
       | (apply H_ext e0 (hv _ _); (iterate 3 exact rfl)) | (apply H_indexptr; (iterate 3 exact rfl); exact ⟨by decide, by decide⟩; (iterate 2 exact rfl)) | (apply H_move; (iterate 3 exact rfl))
       | (apply H_extract; (iterate 4 exact rfl)) | (apply H_load; exact rfl; (first | exact I0 | exact I1 | exact I2 | exact I3 | exact I4 | exact I5 | exact I6); (iterate 4 exact rfl)))
    refine EM.nil ?_
    repeat (first | rw [List.cons_append] | rw [List.nil_append])
    refine CH.cut 1 ?_
    simp only [List.take_succ_cons, List.take_zero, List.drop_succ_cons, List.drop_zero]
    repeat
      (first
       | (apply H_indexptr; (iterate 3 exact rfl); exact ⟨by decide, by decide⟩; (iterate 2 exact rfl)))
    refine EM.nil ?_
    repeat (first | rw [List.cons_append] | rw [List.nil_append])
    refine CH.mut (os := [_]) (rest := []) rfl rfl (m_put (put_store rfl rfl rfl rfl rfl)) ?_
    rintro _ _ ⟨rfl, rfl⟩
    try simp only [St.put]
    repeat (first | rw [List.cons_append] | rw [List.nil_append])
    refine CH.nil ?_
    try simp only [List.drop_succ_cons, List.drop_zero]
    repeat
      (first
       | (apply P_move; (iterate 3 exact rfl)) | (apply P_assign; (iterate 3 exact rfl))
       | (apply P_cmp (b := true); (iterate 2 exact rfl); (focus (first | (simp [cmpI]; done) | (simp [cmpI]; omega))); (iterate 2 exact rfl))
       | (apply P_ar; (iterate 3 exact rfl); (focus omega); (focus omega); (iterate 2 exact rfl)) | ((with_reducible apply EK.then_normal); apply EK.round) | apply EL.nil
       | ((with_reducible apply EK.then_normal); apply EK.code) | (apply EC.cond_true; exact rfl)
       | (with_reducible first | apply EC.seq | apply EC.region | apply EC.skip | apply EC.label | apply EC.block | apply EC.exit | apply EC.ret | apply EK.in_normal | apply EK.in_same | apply EK.in_ret | apply EK.then_ret | apply EK.then_exit))
    refine EC.drawC 14 [0, 1, 2, 3, 4, 5, 6, 7, 8, 9, 10, 11] [12, 13] [_] _ (by kernel_rfl) (by kernel_rfl) rfl ?_
    simp only [pickL, List.filterMap_cons, List.filterMap_nil, List.getElem?_cons_zero, List.getElem?_cons_succ]
    repeat
      (first
       | (apply H_ext e1 (hv _ _); (iterate 3 exact rfl)) | (apply H_indexptr; (iterate 3 exact rfl); exact ⟨by decide, by decide⟩; (iterate 2 exact rfl)) | (apply H_move; (iterate 3 exact rfl))
       | (apply H_extract; (iterate 4 exact rfl)) | (apply H_load; exact rfl; (first | exact I0 | exact I1 | exact I2 | exact I3 | exact I4 | exact I5 | exact I6); (iterate 4 exact rfl)))
    refine EM.nil ?_
    repeat (first | rw [List.cons_append] | rw [List.nil_append])
    refine CH.cut 1 ?_
    simp only [List.take_succ_cons, List.take_zero, List.drop_succ_cons, List.drop_zero]
    repeat
      (first
       | (apply H_indexptr; (iterate 3 exact rfl); exact ⟨by decide, by decide⟩; (iterate 2 exact rfl)))
    refine EM.nil ?_
    repeat (first | rw [List.cons_append] | rw [List.nil_append])
    refine CH.mut (os := [_]) (rest := []) rfl rfl (m_put (put_store rfl rfl rfl rfl rfl)) ?_
    rintro _ _ ⟨rfl, rfl⟩
    try simp only [St.put]
    repeat (first | rw [List.cons_append] | rw [List.nil_append])
    refine CH.nil ?_
    try simp only [List.drop_succ_cons, List.drop_zero]
    repeat
      (first
       | (apply P_move; (iterate 3 exact rfl)) | (apply P_assign; (iterate 3 exact rfl))
       | (apply P_cmp (b := true); (iterate 2 exact rfl); (focus (first | (simp [cmpI]; done) | (simp [cmpI]; omega))); (iterate 2 exact rfl))
       | (apply P_ar; (iterate 3 exact rfl); (focus omega); (focus omega); (iterate 2 exact rfl)) | ((with_reducible apply EK.then_normal); apply EK.round) | apply EL.nil
       | ((with_reducible apply EK.then_normal); apply EK.code) | (apply EC.cond_true; exact rfl)
       | (with_reducible first | apply EC.seq | apply EC.region | apply EC.skip | apply EC.label | apply EC.block | apply EC.exit | apply EC.ret | apply EK.in_normal | apply EK.in_same | apply EK.in_ret | apply EK.then_ret | apply EK.then_exit))
    refine EC.drawC 14 [0, 1, 2, 3, 4, 5, 6, 7, 8, 9, 10, 11] [12, 13] [_] _ (by kernel_rfl) (by kernel_rfl) rfl ?_
    simp only [pickL, List.filterMap_cons, List.filterMap_nil, List.getElem?_cons_zero, List.getElem?_cons_succ]
    repeat
      (first
       | (apply H_ext e2 (hv _ _); (iterate 3 exact rfl)) | (apply H_indexptr; (iterate 3 exact rfl); exact ⟨by decide, by decide⟩; (iterate 2 exact rfl)) | (apply H_move; (iterate 3 exact rfl))
       | (apply H_extract; (iterate 4 exact rfl)) | (apply H_load; exact rfl; (first | exact I0 | exact I1 | exact I2 | exact I3 | exact I4 | exact I5 | exact I6); (iterate 4 exact rfl)))
    refine EM.nil ?_
    repeat (first | rw [List.cons_append] | rw [List.nil_append])
    refine CH.cut 1 ?_
    simp only [List.take_succ_cons, List.take_zero, List.drop_succ_cons, List.drop_zero]
    repeat
      (first
       | (apply H_indexptr; (iterate 3 exact rfl); exact ⟨by decide, by decide⟩; (iterate 2 exact rfl)))
    refine EM.nil ?_
    repeat (first | rw [List.cons_append] | rw [List.nil_append])
    refine CH.mut (os := [_]) (rest := []) rfl rfl (m_put (put_store rfl rfl rfl rfl rfl)) ?_
    rintro _ _ ⟨rfl, rfl⟩
    try simp only [St.put]
    repeat (first | rw [List.cons_append] | rw [List.nil_append])
    refine CH.nil ?_
    try simp only [List.drop_succ_cons, List.drop_zero]
    repeat
      (first
       | (apply P_move; (iterate 3 exact rfl)) | (apply P_assign; (iterate 3 exact rfl))
       | (apply P_cmp (b := true); (iterate 2 exact rfl); (focus (first | (simp [cmpI]; done) | (simp [cmpI]; omega))); (iterate 2 exact rfl))
       | (apply P_ar; (iterate 3 exact rfl); (focus omega); (focus omega); (iterate 2 exact rfl)) | ((with_reducible apply EK.then_normal); apply EK.round) | apply EL.nil
       | ((with_reducible apply EK.then_normal); apply EK.code) | (apply EC.cond_true; exact rfl)
       | (with_reducible first | apply EC.seq | apply EC.region | apply EC.skip | apply EC.label | apply EC.block | apply EC.exit | apply EC.ret | apply EK.in_normal | apply EK.in_same | apply EK.in_ret | apply EK.then_ret | apply EK.then_exit))
    refine EC.drawC 14 [0, 1, 2, 3, 4, 5, 6, 7, 8, 9, 10, 11] [12, 13] [_] _ (by kernel_rfl) (by kernel_rfl) rfl ?_
    simp only [pickL, List.filterMap_cons, List.filterMap_nil, List.getElem?_cons_zero, List.getElem?_cons_succ]
    repeat
      (first
       | (apply H_ext e3 (hv _ _); (iterate 3 exact rfl)) | (apply H_indexptr; (iterate 3 exact rfl); exact ⟨by decide, by decide⟩; (iterate 2 exact rfl)) | (apply H_move; (iterate 3 exact rfl))
       | (apply H_extract; (iterate 4 exact rfl)) | (apply H_load; exact rfl; (first | exact I0 | exact I1 | exact I2 | exact I3 | exact I4 | exact I5 | exact I6); (iterate 4 exact rfl)))
    refine EM.nil ?_
    repeat (first | rw [List.cons_append] | rw [List.nil_append])
    refine CH.cut 1 ?_
    simp only [List.take_succ_cons, List.take_zero, List.drop_succ_cons, List.drop_zero]
    repeat
      (first
       | (apply H_indexptr; (iterate 3 exact rfl); exact ⟨by decide, by decide⟩; (iterate 2 exact rfl)))
    refine EM.nil ?_
    repeat (first | rw [List.cons_append] | rw [List.nil_append])
    refine CH.mut (os := [_]) (rest := []) rfl rfl (m_put (put_store rfl rfl rfl rfl rfl)) ?_
    rintro _ _ ⟨rfl, rfl⟩
    try simp only [St.put]
    repeat (first | rw [List.cons_append] | rw [List.nil_append])
    refine CH.nil ?_
    try simp only [List.drop_succ_cons, List.drop_zero]
    repeat
      (first
       | (apply P_move; (iterate 3 exact rfl)) | (apply P_assign; (iterate 3 exact rfl))
       | (apply P_load; exact rfl; (first | exact I0 | exact I1 | exact I2 | exact I3 | exact I4 | exact I5 | exact I6); (iterate 4 exact rfl))
       | (apply P_cmp (b := false); (iterate 2 exact rfl); (focus (first | (simp [cmpI]; done) | (simp [cmpI]; omega))); (iterate 2 exact rfl))
       | (apply P_ar; (iterate 3 exact rfl); (focus omega); (focus omega); (iterate 2 exact rfl))
       | (apply P_store; exact rfl; (focus (repeat first | exact .z | apply SetAt.s | apply SetAtF.s)); (iterate 4 exact rfl)) | ((with_reducible apply EK.then_normal); apply EK.round) | apply EL.nil
       | ((with_reducible apply EK.then_normal); apply EK.code) | (apply EC.cond_false; exact rfl)
       | (with_reducible first | apply EC.seq | apply EC.region | apply EC.skip | apply EC.label | apply EC.block | apply EC.exit | apply EC.ret | apply EK.in_normal | apply EK.in_same | apply EK.in_ret | apply EK.then_ret | apply EK.then_exit))
    refine EK.retc1r 1 rfl rfl rfl rfl ?_ rfl
    (repeat first | exact RefineL.refl _ _ | exact RL.nil | exact Rf.same | exact Rf.bs0 | exact Rf.sl0 | (apply Rf.fact; (focus (simp; done)); exact rfl) | apply Rf.tup | apply RL.cons)
  · intro x hx
    simp only [List.mem_cons, List.not_mem_nil, or_false] at hx
    omega
  · simp only [Wd.le]
    omega
theorem u64_get {ls : List Nat} {k : Nat} (hk : k < ls.length) : (ls.map u64)[k]? = some (u64 ls[k]) := by rw [List.getElem?_map, List.getElem?_eq_getElem hk]; rfl
set_option maxRecDepth 20000 in
set_option maxHeartbeats 4000000 in
theorem f_number_cmp (ls ms : List Nat) (hl : ls.length = 4) (hm : ms.length = 4) (h1 : ∀ x ∈ ls, x < 18446744073709551616) (h2 : ∀ x ∈ ms, x < 18446744073709551616) :
    Fn 67 [dLs ls, dLs ms] (· = .val (.v (.int .i64 (cmpN (Wd.le 18446744073709551616 ls) (Wd.le 18446744073709551616 ms))))) := by
  refine Fn.walk 26 Try.func67 rfl Try.ntmps67 (by simp) fun X => ?_
  repeat
    (first
     | (apply P_assign; (iterate 3 exact rfl)) | (apply P_box; exact rfl; exact rfl; exact rfl; intro _) | apply EL.nil | ((with_reducible apply EK.then_normal); apply EK.code)
     | (with_reducible first | apply EC.seq | apply EC.region | apply EC.skip | apply EC.label | apply EC.block | apply EC.exit | apply EC.ret | apply EK.in_normal | apply EK.in_same | apply EK.in_ret | apply EK.then_ret | apply EK.then_exit))
  rename_i g2 g3
  refine EC.loop (ι := {p : Nat // p ≤ 4 ∧ ls.drop p = ms.drop p})
    (fun p => ⟨[(5, .val (.v (.int .i64 ((p.1 : Int) - 1)))), (2, .val (.v (.pointer (some ⟨g2, 0, none⟩)))), (3, .val (.v (.pointer (some ⟨g3, 0, none⟩))))], [.var g3 128 (dLs ms), .var g2 128 (dLs ls)], []⟩)
    (fun p => p.1) ⟨4, by omega, by rw [List.drop_eq_nil_of_le (by omega), List.drop_eq_nil_of_le (by omega)]⟩ ?_ ?_
  · exact (Le.keep (by repeat first | exact trivial | refine ⟨rfl, ?_⟩) (by repeat first | exact List.nil_sublist _ | apply List.Sublist.cons_cons | apply List.Sublist.cons) (by simp))
  rintro ⟨p, hp, hd⟩
  dsimp only at hp hd ⊢
  cases p with
  | zero =>
    have e : ls = ms := by simpa using hd
    subst e
    repeat
      (first
       | (apply P_move; (iterate 3 exact rfl)) | (apply P_assign; (iterate 3 exact rfl))
       | (apply P_cmp (b := false); (iterate 2 exact rfl); (focus (first | (simp [cmpI]; done) | (simp [cmpI]; omega))); (iterate 2 exact rfl)) | apply EL.nil
       | ((with_reducible apply EK.then_normal); apply EK.code) | (apply EC.cond_false; exact rfl)
       | (with_reducible first | apply EC.seq | apply EC.region | apply EC.skip | apply EC.label | apply EC.block | apply EC.exit | apply EC.ret | apply EK.in_normal | apply EK.in_same | apply EK.in_ret | apply EK.then_ret | apply EK.then_exit))
    refine EK.ret1 rfl rfl ?_
    unfold cmpN
    simp
  | succ p =>
    have hpl : p < ls.length := by omega
    have hpm : p < ms.length := by omega
    have g1 := sub_vs (u64_get hpl)
    have g4 := sub_vs (u64_get hpm)
    have ek : (((p + 1 : Nat) : Int) - 1) = (p : Int) := by omega
    rw [ek]
    have hk : (0 : Int) ≤ (p : Int) ∧ ((p : Int)).toNat < 4 := ⟨by omega, by omega⟩
    have hoff : 0 + ((p : Int)).toNat * 1 = p := by omega
    rcases Nat.lt_trichotomy ls[p] ms[p] with hc | hc | hc
    · have hlt := le_lt_at ls ms (by omega) h1 h2 p hpl (by simpa using hd) hc
      have hcmp : cmpI .lss (ls[p] : Int) (ms[p] : Int) = some true := by simp [cmpI]; omega
      repeat
        (first
         | (apply P_move; (iterate 3 exact rfl)) | (apply P_cmp (b := true); (iterate 2 exact rfl); (focus (first | (simp [cmpI]; done) | (simp [cmpI]; omega))); (iterate 2 exact rfl)) | apply EL.nil
         | ((with_reducible apply EK.then_normal); apply EK.code) | (apply EC.cond_true; exact rfl)
         | (with_reducible first | apply EC.seq | apply EC.region | apply EC.skip | apply EC.label | apply EC.block | apply EC.exit | apply EC.ret | apply EK.in_normal | apply EK.in_same | apply EK.in_ret | apply EK.then_ret | apply EK.then_exit))
      refine EC.draw 8 (by kernel_rfl) ?_
      simp only [List.take_succ_cons, List.take_zero, List.drop_succ_cons, List.drop_zero]
      repeat
        (first
         | (apply H_indexptr; (iterate 3 exact rfl); exact hk; (iterate 2 exact rfl))
         | (apply H_load; exact rfl; (first | exact I0 | exact I1); exact rfl; (rw [hoff]; first | exact g1 | exact g4); (iterate 2 exact rfl))
         | (apply H_cmp; (iterate 2 exact rfl); exact hcmp; (iterate 2 exact rfl)) | (apply H_move; (iterate 3 exact rfl)) | (apply H_assign; (iterate 3 exact rfl)) | ((with_reducible apply EH.nil); exact rfl))
      repeat
        (first
         | (apply P_assign; (iterate 3 exact rfl)) | apply EL.nil | ((with_reducible apply EK.then_normal); apply EK.code) | (apply EC.cond_true; exact rfl)
         | (with_reducible first | apply EC.seq | apply EC.region | apply EC.skip | apply EC.label | apply EC.block | apply EC.exit | apply EC.ret | apply EK.in_normal | apply EK.in_same | apply EK.in_ret | apply EK.then_ret | apply EK.then_exit))
      refine EK.ret1 rfl rfl ?_
      unfold cmpN
      simp [hlt]
    · have hcmp : cmpI .lss (ls[p] : Int) (ms[p] : Int) = some false := by simp [cmpI]; omega
      have hcmp2 : cmpI .gtr (ls[p] : Int) (ms[p] : Int) = some false := by simp [cmpI]; omega
      repeat
        (first
         | (apply P_move; (iterate 3 exact rfl)) | (apply P_cmp (b := true); (iterate 2 exact rfl); (focus (first | (simp [cmpI]; done) | (simp [cmpI]; omega))); (iterate 2 exact rfl)) | apply EL.nil
         | ((with_reducible apply EK.then_normal); apply EK.code) | (apply EC.cond_true; exact rfl)
         | (with_reducible first | apply EC.seq | apply EC.region | apply EC.skip | apply EC.label | apply EC.block | apply EC.exit | apply EC.ret | apply EK.in_normal | apply EK.in_same | apply EK.in_ret | apply EK.then_ret | apply EK.then_exit))
      refine EC.draw 8 (by kernel_rfl) ?_
      simp only [List.take_succ_cons, List.take_zero, List.drop_succ_cons, List.drop_zero]
      repeat
        (first
         | (apply H_indexptr; (iterate 3 exact rfl); exact hk; (iterate 2 exact rfl))
         | (apply H_load; exact rfl; (first | exact I0 | exact I1); exact rfl; (rw [hoff]; first | exact g1 | exact g4); (iterate 2 exact rfl))
         | (apply H_cmp; (iterate 2 exact rfl); exact hcmp; (iterate 2 exact rfl)) | (apply H_move; (iterate 3 exact rfl)) | (apply H_assign; (iterate 3 exact rfl)) | ((with_reducible apply EH.nil); exact rfl))
      repeat
        (first
         | apply EL.nil | ((with_reducible apply EK.then_normal); apply EK.code) | (apply EC.cond_false; exact rfl)
         | (with_reducible first | apply EC.seq | apply EC.region | apply EC.skip | apply EC.label | apply EC.block | apply EC.exit | apply EC.ret | apply EK.in_normal | apply EK.in_same | apply EK.in_ret | apply EK.then_ret | apply EK.then_exit))
      refine EC.draw 8 (by kernel_rfl) ?_
      simp only [List.take_succ_cons, List.take_zero, List.drop_succ_cons, List.drop_zero]
      repeat
        (first
         | (apply H_indexptr; (iterate 3 exact rfl); exact hk; (iterate 2 exact rfl))
         | (apply H_load; exact rfl; (first | exact I0 | exact I1); exact rfl; (rw [hoff]; first | exact g1 | exact g4); (iterate 2 exact rfl))
         | (apply H_cmp; (iterate 2 exact rfl); exact hcmp2; (iterate 2 exact rfl)) | (apply H_move; (iterate 3 exact rfl)) | (apply H_assign; (iterate 3 exact rfl)) | ((with_reducible apply EH.nil); exact rfl))
      repeat
        (first
         | (apply P_move; (iterate 3 exact rfl)) | (apply P_assign; (iterate 3 exact rfl)) | (apply P_ar; (iterate 3 exact rfl); (focus omega); (focus omega); (iterate 2 exact rfl)) | apply EL.nil
         | ((with_reducible apply EK.then_normal); apply EK.code) | (apply EC.cond_false; exact rfl)
         | (with_reducible first | apply EC.seq | apply EC.region | apply EC.skip | apply EC.label | apply EC.block | apply EC.exit | apply EC.ret | apply EK.in_normal | apply EK.in_same | apply EK.in_ret | apply EK.then_ret | apply EK.then_exit))
      refine EK.again ⟨p, by omega, ?_⟩ (by dsimp only; omega) ?_
      · rw [List.drop_eq_getElem_cons hpl, List.drop_eq_getElem_cons hpm, hc, hd]
      exact (Le.keep (by repeat first | exact trivial | refine ⟨rfl, ?_⟩) (by repeat first | exact List.nil_sublist _ | apply List.Sublist.cons_cons | apply List.Sublist.cons) (by simp))
    · have hlt := le_lt_at ms ls (by omega) h2 h1 p hpm (by simpa using hd.symm) hc
      have hcmp : cmpI .lss (ls[p] : Int) (ms[p] : Int) = some false := by simp [cmpI]; omega
      have hcmp2 : cmpI .gtr (ls[p] : Int) (ms[p] : Int) = some true := by simp [cmpI]; omega
      repeat
        (first
         | (apply P_move; (iterate 3 exact rfl)) | (apply P_cmp (b := true); (iterate 2 exact rfl); (focus (first | (simp [cmpI]; done) | (simp [cmpI]; omega))); (iterate 2 exact rfl)) | apply EL.nil
         | ((with_reducible apply EK.then_normal); apply EK.code) | (apply EC.cond_true; exact rfl)
         | (with_reducible first | apply EC.seq | apply EC.region | apply EC.skip | apply EC.label | apply EC.block | apply EC.exit | apply EC.ret | apply EK.in_normal | apply EK.in_same | apply EK.in_ret | apply EK.then_ret | apply EK.then_exit))
      refine EC.draw 8 (by kernel_rfl) ?_
      simp only [List.take_succ_cons, List.take_zero, List.drop_succ_cons, List.drop_zero]
      repeat
        (first
         | (apply H_indexptr; (iterate 3 exact rfl); exact hk; (iterate 2 exact rfl))
         | (apply H_load; exact rfl; (first | exact I0 | exact I1); exact rfl; (rw [hoff]; first | exact g1 | exact g4); (iterate 2 exact rfl))
         | (apply H_cmp; (iterate 2 exact rfl); exact hcmp; (iterate 2 exact rfl)) | (apply H_move; (iterate 3 exact rfl)) | (apply H_assign; (iterate 3 exact rfl)) | ((with_reducible apply EH.nil); exact rfl))
      repeat
        (first
         | apply EL.nil | ((with_reducible apply EK.then_normal); apply EK.code) | (apply EC.cond_false; exact rfl)
         | (with_reducible first | apply EC.seq | apply EC.region | apply EC.skip | apply EC.label | apply EC.block | apply EC.exit | apply EC.ret | apply EK.in_normal | apply EK.in_same | apply EK.in_ret | apply EK.then_ret | apply EK.then_exit))
      refine EC.draw 8 (by kernel_rfl) ?_
      simp only [List.take_succ_cons, List.take_zero, List.drop_succ_cons, List.drop_zero]
      repeat
        (first
         | (apply H_indexptr; (iterate 3 exact rfl); exact hk; (iterate 2 exact rfl))
         | (apply H_load; exact rfl; (first | exact I0 | exact I1); exact rfl; (rw [hoff]; first | exact g1 | exact g4); (iterate 2 exact rfl))
         | (apply H_cmp; (iterate 2 exact rfl); exact hcmp2; (iterate 2 exact rfl)) | (apply H_move; (iterate 3 exact rfl)) | (apply H_assign; (iterate 3 exact rfl)) | ((with_reducible apply EH.nil); exact rfl))
      repeat
        (first
         | (apply P_assign; (iterate 3 exact rfl)) | apply EL.nil | ((with_reducible apply EK.then_normal); apply EK.code) | (apply EC.cond_true; exact rfl)
         | (with_reducible first | apply EC.seq | apply EC.region | apply EC.skip | apply EC.label | apply EC.block | apply EC.exit | apply EC.ret | apply EK.in_normal | apply EK.in_same | apply EK.in_ret | apply EK.then_ret | apply EK.then_exit))
      refine EK.ret1 rfl rfl ?_
      unfold cmpN
      rw [if_neg (by omega), if_pos hlt]
end E
end Go.Proofs.Ytdhicdnmgmkpkaa
/-
  The program's words: from, word; Cmp, Add, Sub as numbers.
  Conditions: none.
-/
namespace Go.Proofs.Ytdhicdnmgmkpkaa
set_option linter.unusedVariables false
open Go.RowKit Mono Rlp Wd
namespace E
theorem u64_wrap (n : Nat) (h : n < 18446744073709551616) : IntKind.u64.wrap (n : Int) = (n : Int) := by
  rw [IntKind.wrap_u64]
  exact Int.emod_eq_of_lt (by omega) (by omega)
theorem run_shl (T : TypeId) (b s : Nat) (hs : s < 64) (hb : b * 2 ^ s < 18446744073709551616) : ∀ w, (binOp .shl T (u64 b) (.int .i64 (s : Int))).run Try.prog w = .ok (u64 (b * 2 ^ s)) w := fun w => by
  have h1 : ¬ ((s : Int) < 0) := by omega
  have h2 : min ((s : Int)).toNat IntKind.u64.bits = s := by
    rw [Int.toNat_natCast]
    exact Nat.min_eq_left (Nat.le_of_lt hs)
  have h3 : IntKind.u64.wrap ((b : Int) * 2 ^ s) = ((b * 2 ^ s : Nat) : Int) := by
    have : ((b : Int) * 2 ^ s) = ((b * 2 ^ s : Nat) : Int) := by simp
    rw [this]
    exact u64_wrap _ hb
  show (Op.shift .shl .u64 (b : Int) .i64 (s : Int)).run Try.prog w = _
  unfold Op.shift
  rw [if_neg h1]
  simp only [h2, h3, Sem.run_pure]
theorem run_shr (T : TypeId) (b s : Nat) (hs : s < 64) : ∀ w, (binOp .shr T (u64 b) (.int .i64 (s : Int))).run Try.prog w = .ok (u64 (b / 2 ^ s)) w := fun w => by
  have h1 : ¬ ((s : Int) < 0) := by omega
  have h2 : min ((s : Int)).toNat IntKind.u64.bits = s := by
    rw [Int.toNat_natCast]
    exact Nat.min_eq_left (Nat.le_of_lt hs)
  have h3 : (b : Int).fdiv (2 ^ s) = ((b / 2 ^ s : Nat) : Int) := by
    rw [Int.fdiv_eq_ediv_of_nonneg _ (Int.le_of_lt (Int.pow_pos (by decide)))]
    simp
  show (Op.shift .shr .u64 (b : Int) .i64 (s : Int)).run Try.prog w = _
  unfold Op.shift
  rw [if_neg h1]
  simp only [h2, h3, Sem.run_pure]
theorem run_or (T : TypeId) (x y : Nat) (hx : x < 18446744073709551616) (hy : y < 18446744073709551616) : ∀ w, (binOp .or T (u64 x) (u64 y)).run Try.prog w = .ok (u64 (x ||| y)) w := fun w => by
  show Result.ok (Value.int .u64 (bits .or .u64 (x : Int) (y : Int))) w = _
  rw [u64_or_nat x y hx hy]
theorem run_quo8 (T : TypeId) (k : Nat) (hk : k < 256) : ∀ w, (binOp .quo T (.int .i64 (k : Int)) (.int .i64 8)).run Try.prog w = .ok (.int .i64 ((k / 8 : Nat) : Int)) w := fun w => by
  show (Op.intDiv .quo .i64 (k : Int) 8).run Try.prog w = _
  unfold Op.intDiv
  rw [if_neg (by decide)]
  have : IntKind.i64.wrap ((k : Int).tdiv 8) = ((k / 8 : Nat) : Int) := by
    have e : (k : Int).tdiv 8 = ((k / 8 : Nat) : Int) := by
      rw [Int.tdiv_eq_ediv_of_nonneg (by omega)]
      simp
    rw [e]
    exact IntWalk.i64_in _ ⟨by omega, by omega⟩
  simp only [this, Sem.run_pure]
theorem run_rem8 (T : TypeId) (k : Nat) : ∀ w, (binOp .rem T (.int .i64 (k : Int)) (.int .i64 8)).run Try.prog w = .ok (.int .i64 ((k % 8 : Nat) : Int)) w := fun w => by
  show (Op.intDiv .rem .i64 (k : Int) 8).run Try.prog w = _
  unfold Op.intDiv
  rw [if_neg (by decide)]
  have e : (k : Int).tmod 8 = ((k % 8 : Nat) : Int) := by
    rw [Int.tmod_eq_emod_of_nonneg (by omega)]
    simp
  simp only [e, Sem.run_pure]
theorem bv_u8 (n : Nat) : bv (UInt8.ofNat n) = .int .u8 ((n % 256 : Nat) : Int) := by
  unfold bv
  rw [show (UInt8.ofNat n).toNat = n % 256 from rfl]
set_option maxRecDepth 20000 in
set_option maxHeartbeats 8000000 in
theorem f_from (v : List UInt8) (hv : v.length = 32) : Fn 66 [.arr 32 v] (· = .val (dLs (limbsW 8 4 v))) := by
  refine Fn.walk 28 Try.func66 rfl Try.ntmps66 (by simp) fun X => ?_
  repeat
    (first
     | (apply P_move; (iterate 3 exact rfl)) | (apply P_load; exact rfl; (first | exact I0 | exact I1 | exact I2 | exact I3 | exact I4 | exact I5 | exact I6); (iterate 4 exact rfl))
     | (apply P_alloc; exact rfl; exact rfl; exact rfl; intro _) | (apply P_box; exact rfl; exact rfl; exact rfl; intro _) | apply EL.nil | ((with_reducible apply EK.then_normal); apply EK.code)
     | (with_reducible first | apply EC.seq | apply EC.region | apply EC.skip | apply EC.label | apply EC.block | apply EC.exit | apply EC.ret | apply EK.in_normal | apply EK.in_same | apply EK.in_ret | apply EK.then_ret | apply EK.then_exit))
  rename_i g1 g2 g3
  refine EC.loop (ι := {i : Nat // i ≤ 32})
    (fun i => ⟨[(8, .val (.v (.int .i64 (i.1 : Int)))), (7, .val (.arr 32 v)), (3, .val (.v (.pointer (some ⟨g3, 0, none⟩)))), (2, .val (.v (.pointer (some ⟨g2, 0, none⟩))))], [.var g3 128 (dLs (chunks 8 (msk v i.1) 4)), .var g2 128 (dLs [0, 0, 0, 0]), .var g1 25 (.arr 32 v)], []⟩)
    (fun i => 32 - i.1) ⟨0, by omega⟩ ?_ ?_
  · rw [msk_0 v hv]
    exact (Le.keep (by repeat first | exact trivial | refine ⟨rfl, ?_⟩) (by repeat first | exact List.nil_sublist _ | apply List.Sublist.cons_cons | apply List.Sublist.cons) (by simp))
  rintro ⟨i, hi⟩
  dsimp only at hi ⊢
  by_cases hlt : i < 32
  · have hb : v[((i : Int)).toNat]? = some (v[i]'(by omega)) := by rw [Int.toNat_natCast]; exact List.getElem?_eq_getElem _
    have hs := msk_succ v hv i hlt
    have hz := msk_zero v i hlt
    have hcs := chunks_set 8 4 (by decide) (msk v i) (31 - i) (v[i]'(by omega)).toNat hz (by omega)
    rw [← hs] at hcs
    obtain ⟨q, hq⟩ := limb_low v i hlt
    have hlim : ∀ x ∈ chunks 8 (msk v i) 4, x < 256 ^ 8 := chunks_lt 8 _ 4 fun d hd => by
      unfold msk at hd
      rcases List.mem_append.1 hd with hd | hd
      · rw [(List.mem_replicate.1 hd).2]; decide
      · exact nb_lt _ d (List.mem_of_mem_drop hd)
    have hlen := chunks_length 8 (msk v i) 4
    have hlim' : ∀ x ∈ chunks 8 (msk v (i + 1)) 4, x < 256 ^ 8 := chunks_lt 8 _ 4 fun d hd => by
      unfold msk at hd
      rcases List.mem_append.1 hd with hd | hd
      · rw [(List.mem_replicate.1 hd).2]; decide
      · exact nb_lt _ d (List.mem_of_mem_drop hd)
    generalize hM : chunks 8 (msk v (i + 1)) 4 = M' at hcs hlim'
    generalize chunks 8 (msk v i) 4 = M at hcs hq hlim hlen
    have hk8 : (31 - i) / 8 < M.length := by omega
    have hbb : (v[i]'(by omega)).toNat < 256 := (v[i]'(by omega)).toNat_lt
    generalize (v[i]'(by omega)) = b at hb hcs hbb
    have hgd : M.getD ((31 - i) / 8) 0 = M[(31 - i) / 8] := by simp [List.getD, hk8]
    have hget := sub_vs (u64_get hk8)
    have hpow : 256 ^ ((31 - i) % 8) = 2 ^ (8 * ((31 - i) % 8)) := by rw [Nat.pow_mul]
    have hpow' : 256 ^ ((31 - i) % 8 + 1) = 2 ^ (8 * ((31 - i) % 8) + 8) := by rw [show 8 * ((31 - i) % 8) + 8 = 8 * ((31 - i) % 8 + 1) by omega, Nat.pow_mul]
    have hbs : b.toNat * 2 ^ (8 * ((31 - i) % 8)) < 2 ^ (8 * ((31 - i) % 8) + 8) := by
      rw [Nat.pow_add, Nat.mul_comm]
      exact Nat.mul_lt_mul_of_pos_left hbb (Nat.two_pow_pos _)
    have hle : 2 ^ (8 * ((31 - i) % 8) + 8) ≤ 18446744073709551616 := by
      rw [show (18446744073709551616 : Nat) = 2 ^ 64 from rfl]
      exact Nat.pow_le_pow_right (by decide) (by omega)
    have hMk := hlim _ (List.getElem_mem hk8)
    have hor := or_add (8 * ((31 - i) % 8) + 8) (M[(31 - i) / 8]) (b.toNat * 2 ^ (8 * ((31 - i) % 8))) q (by rw [← hgd, hq, hpow']) hbs
    have ek : ((31 : Int) - (i : Int)) = ((31 - i : Nat) : Int) := by omega
    have hm8 : (31 - i) % 8 < 8 := Nat.mod_lt _ (by decide)
    have hoff : 0 + ((((31 - i) / 8 : Nat) : Int)).toNat * 1 = (31 - i) / 8 := by omega
    have hk : (0 : Int) ≤ (((31 - i) / 8 : Nat) : Int) ∧ ((((31 - i) / 8 : Nat) : Int)).toNat < 4 := ⟨by omega, by omega⟩
    have r1 := bin_of rfl (run_quo8 3 (31 - i) (by omega))
    have r2 := bin_of rfl (run_rem8 3 (31 - i))
    have r3 := bin_of rfl (run_shl 126 b.toNat (8 * ((31 - i) % 8)) (by omega) (by omega))
    have r4 := bin_of rfl (run_or 126 (M[(31 - i) / 8]) (b.toNat * 2 ^ (8 * ((31 - i) % 8))) (by exact hMk) (by omega))
    have c1 := conv_int (T := 5) (U := 126) (k := .u8) (k' := .u64) Try.underlying5 Try.underlying126 (b.toNat : Int) (b.toNat : Int) (u64_wrap _ (by omega))
    have e8 : ((8 * ((31 - i) % 8) : Nat) : Int) = 8 * (((31 - i) % 8 : Nat) : Int) := by omega
    rw [e8] at r3
    repeat
      (first
       | (apply P_indexarr; exact ⟨Try.underlying5, rfl⟩; exact ⟨by omega, hb⟩; (iterate 5 exact rfl)) | (apply P_move; (iterate 3 exact rfl)) | (apply P_assign; (iterate 3 exact rfl))
       | (apply P_cmp (b := true); (iterate 2 exact rfl); (focus (first | (simp [cmpI]; done) | (simp [cmpI]; omega))); (iterate 2 exact rfl))
       | (apply P_ar; (iterate 3 exact rfl); (focus omega); (focus omega); (iterate 2 exact rfl)) | apply EL.nil | ((with_reducible apply EK.then_normal); apply EK.code) | (apply EC.cond_true; exact rfl)
       | (with_reducible first | apply EC.seq | apply EC.region | apply EC.skip | apply EC.label | apply EC.block | apply EC.exit | apply EC.ret | apply EK.in_normal | apply EK.in_same | apply EK.in_ret | apply EK.then_ret | apply EK.then_exit))
    rw [ek]
    have hset := upd_vs (u64 (M[(31 - i) / 8] ||| b.toNat * 2 ^ (8 * ((31 - i) % 8)))) (xs := M.map u64) (k := (31 - i) / 8) (by rw [List.length_map]; exact hk8)
    have hM' : (M.map u64).set ((31 - i) / 8) (u64 (M[(31 - i) / 8] ||| b.toNat * 2 ^ (8 * ((31 - i) % 8)))) = M'.map u64 := by
      rw [hcs, hor, ← hgd, hpow, Nat.mul_comm (2 ^ _), List.map_set]
    rw [hM'] at hset
    refine EC.draw 11 (by kernel_rfl) ?_
    simp only [List.take_succ_cons, List.take_zero, List.drop_succ_cons, List.drop_zero]
    repeat
      (first
       | (apply H_bin; (iterate 2 exact rfl); exact r1; (iterate 2 exact rfl)) | (apply H_bin; (iterate 2 exact rfl); exact r2; (iterate 2 exact rfl))
       | (apply H_bin; (iterate 2 exact rfl); exact r3; (iterate 2 exact rfl)) | (apply H_bin; (iterate 2 exact rfl); exact r4; (iterate 2 exact rfl))
       | (apply H_indexptr; (iterate 3 exact rfl); exact hk; (iterate 2 exact rfl)) | (apply H_load; exact rfl; exact I0; exact rfl; (rw [hoff]; exact hget); (iterate 2 exact rfl))
       | (apply H_conv; exact rfl; exact c1; (iterate 3 exact rfl)) | (apply H_move; (iterate 3 exact rfl)) | (apply H_ar; (iterate 3 exact rfl); (focus omega); (focus omega); (iterate 2 exact rfl))
       | ((with_reducible apply EH.nil); exact rfl))
    repeat
      (first
       | (apply P_indexptr; (iterate 3 exact rfl); exact hk; (iterate 2 exact rfl)) | (apply P_store; exact rfl; exact .z; exact rfl; exact rfl; (rw [hoff]; exact hset); exact rfl)
       | (apply P_move; (iterate 3 exact rfl)) | (apply P_ar; (iterate 3 exact rfl); (focus omega); (focus omega); (iterate 2 exact rfl)) | apply EL.nil | ((with_reducible apply EK.then_normal); apply EK.code)
       | (with_reducible first | apply EC.seq | apply EC.region | apply EC.skip | apply EC.label | apply EC.block | apply EC.exit | apply EC.ret | apply EK.in_normal | apply EK.in_same | apply EK.in_ret | apply EK.then_ret | apply EK.then_exit))
    refine EK.again ⟨i + 1, by omega⟩ (by dsimp only; omega) ?_
    rw [hM]
    simp only [Int.natCast_add]
    exact (Le.keep (by repeat first | exact trivial | refine ⟨rfl, ?_⟩) (by repeat first | exact List.nil_sublist _ | apply List.Sublist.cons_cons | apply List.Sublist.cons) (by simp))
  · have : i = 32 := by omega
    subst this
    rw [msk_32]
    repeat
      (first
       | (apply P_load; exact rfl; (first | exact I0 | exact I1 | exact I2 | exact I3 | exact I4 | exact I5 | exact I6); (iterate 4 exact rfl))
       | (apply P_cmp (b := false); (iterate 2 exact rfl); (focus (first | (simp [cmpI]; done) | (simp [cmpI]; omega))); (iterate 2 exact rfl))
       | (apply P_store; exact rfl; (focus (repeat first | exact .z | apply SetAt.s | apply SetAtF.s)); (iterate 4 exact rfl)) | apply EL.nil | ((with_reducible apply EK.then_normal); apply EK.code)
       | (apply EC.cond_false; exact rfl)
       | (with_reducible first | apply EC.seq | apply EC.region | apply EC.skip | apply EC.label | apply EC.block | apply EC.exit | apply EC.ret | apply EK.in_normal | apply EK.in_same | apply EK.in_ret | apply EK.then_ret | apply EK.then_exit))
    refine EK.retc1r 1 rfl rfl rfl rfl ?_ rfl
    (repeat first | exact RefineL.refl _ _ | exact RL.nil | exact Rf.same | exact Rf.bs0 | exact Rf.sl0 | (apply Rf.fact; (focus (simp; done)); exact rfl) | apply Rf.tup | apply RL.cons)
theorem wordB_get (ls : List Nat) (hl : ls.length = 4) (i : Nat) (hi : i < 32) : ((unchunk 8 ls).map UInt8.ofNat).reverse[i]? = some (UInt8.ofNat (ls.getD ((31 - i) / 8) 0 / 256 ^ ((31 - i) % 8))) := by
  have hlen : (unchunk 8 ls).length = 32 := by rw [unchunk_length, hl]
  rw [List.getElem?_reverse (by rw [List.length_map]; omega), List.length_map, hlen, List.getElem?_map, unchunk_get 8 (by decide) ls _ (by omega), show 32 - 1 - i = 31 - i by omega]
  simp only [Option.map_some]
  congr 1
  apply UInt8.toNat_inj.1
  show _ % 256 % 256 = _ % 256
  rw [Nat.mod_mod]
theorem take_set_step {α : Type} (l : List α) (z : α) (i n : Nat) (hl : l.length = n) (hi : i < n) : (l.take i ++ List.replicate (n - i) z).set i l[i] = l.take (i + 1) ++ List.replicate (n - (i + 1)) z := by
  rw [List.set_append_right _ _ (by rw [List.length_take]; omega), List.length_take, Nat.min_eq_left (by omega), Nat.sub_self, show n - i = (n - (i + 1)) + 1 by omega, List.replicate_succ, List.set_cons_zero, List.take_succ_eq_append_getElem (by omega), List.append_assoc]
  rfl
set_option maxRecDepth 20000 in
set_option maxHeartbeats 8000000 in
theorem f_number_word (ls : List Nat) (hl : ls.length = 4) (h1 : ∀ x ∈ ls, x < 18446744073709551616) : Fn 69 [dLs ls] (· = .val (.arr 32 (wordOf (Wd.le 18446744073709551616 ls)))) := by
  have hW := word_unchunk 8 ls (by rw [hl]) h1
  rw [show (18446744073709551616 : Nat) = 256 ^ 8 from rfl, ← hW]
  have hWl : (((unchunk 8 ls).map UInt8.ofNat).reverse).length = 32 := by rw [List.length_reverse, List.length_map, unchunk_length, hl]
  have hget := wordB_get ls hl
  generalize ((unchunk 8 ls).map UInt8.ofNat).reverse = W at hWl hget
  clear hW
  refine Fn.walk 24 Try.func69 rfl Try.ntmps69 (by simp) fun X => ?_
  repeat
    (first
     | (apply P_move; (iterate 3 exact rfl)) | (apply P_alloc; exact rfl; exact rfl; exact rfl; intro _) | (apply P_box; exact rfl; exact rfl; exact rfl; intro _) | apply EL.nil
     | ((with_reducible apply EK.then_normal); apply EK.code)
     | (with_reducible first | apply EC.seq | apply EC.region | apply EC.skip | apply EC.label | apply EC.block | apply EC.exit | apply EC.ret | apply EK.in_normal | apply EK.in_same | apply EK.in_ret | apply EK.then_ret | apply EK.then_exit))
  rename_i g1 g2 g3
  refine EC.loop (ι := {i : Nat // i ≤ 32})
    (fun i => ⟨[(6, .val (.v (.int .i64 (i.1 : Int)))), (3, .val (.v (.pointer (some ⟨g3, 0, none⟩)))), (2, .val (.v (.pointer (some ⟨g2, 0, none⟩)))), (1, .val (.v (.pointer (some ⟨g1, 0, none⟩))))], [.var g3 25 (.arr 32 (W.take i.1 ++ List.replicate (32 - i.1) 0)), .var g2 25 (.arr 32 zero32), .var g1 128 (dLs ls)], []⟩)
    (fun i => 32 - i.1) ⟨0, by omega⟩ ?_ ?_
  · exact (Le.keep (by repeat first | exact trivial | refine ⟨rfl, ?_⟩) (by repeat first | exact List.nil_sublist _ | apply List.Sublist.cons_cons | apply List.Sublist.cons) (by simp))
  rintro ⟨i, hi⟩
  dsimp only at hi ⊢
  by_cases hlt : i < 32
  · have hk8 : (31 - i) / 8 < ls.length := by omega
    have hgd : ls.getD ((31 - i) / 8) 0 = ls[(31 - i) / 8] := by simp [List.getD, hk8]
    have hWi := hget i hlt
    rw [hgd] at hWi
    obtain ⟨hWlt, hWi⟩ := List.getElem?_eq_some_iff.1 hWi
    have hlv := sub_vs (u64_get hk8)
    have hx := h1 _ (List.getElem_mem hk8)
    have hpow : 256 ^ ((31 - i) % 8) = 2 ^ (8 * ((31 - i) % 8)) := by rw [Nat.pow_mul]
    have hm8 : (31 - i) % 8 < 8 := Nat.mod_lt _ (by decide)
    have ek : ((31 : Int) - (i : Int)) = ((31 - i : Nat) : Int) := by omega
    have hoff : 0 + ((((31 - i) / 8 : Nat) : Int)).toNat * 1 = (31 - i) / 8 := by omega
    have hoffi : 0 + ((i : Int)).toNat * 1 = i := by omega
    have hk : (0 : Int) ≤ (((31 - i) / 8 : Nat) : Int) ∧ ((((31 - i) / 8 : Nat) : Int)).toNat < 4 := ⟨by omega, by omega⟩
    have hki : (0 : Int) ≤ (i : Int) ∧ ((i : Int)).toNat < 32 := ⟨by omega, by omega⟩
    have r1 := bin_of rfl (run_quo8 3 (31 - i) (by omega))
    have r2 := bin_of rfl (run_rem8 3 (31 - i))
    have r3 := bin_of rfl (run_shr 126 (ls[(31 - i) / 8]) (8 * ((31 - i) % 8)) (by omega))
    have c1 : ∀ w, (Go.convert 126 5 (u64 (ls[(31 - i) / 8] / 2 ^ (8 * ((31 - i) % 8))))).run Try.prog w = .ok (bv W[i]) w := by
      have := conv_int (T := 126) (U := 5) (k := .u64) (k' := .u8) Try.underlying126 Try.underlying5 ((ls[(31 - i) / 8] / 2 ^ (8 * ((31 - i) % 8)) : Nat) : Int) (((ls[(31 - i) / 8] / 2 ^ (8 * ((31 - i) % 8)) : Nat) % 256 : Nat) : Int) (by rw [IntKind.wrap_u8]; simp)
      rw [hWi, bv_u8, hpow]
      exact this
    have e8 : ((8 * ((31 - i) % 8) : Nat) : Int) = 8 * (((31 - i) % 8 : Nat) : Int) := by omega
    rw [e8] at r3
    have hst := take_set_step W 0 i 32 hWl hlt
    repeat
      (first
       | (apply P_move; (iterate 3 exact rfl)) | (apply P_assign; (iterate 3 exact rfl))
       | (apply P_cmp (b := true); (iterate 2 exact rfl); (focus (first | (simp [cmpI]; done) | (simp [cmpI]; omega))); (iterate 2 exact rfl))
       | (apply P_ar; (iterate 3 exact rfl); (focus omega); (focus omega); (iterate 2 exact rfl)) | apply EL.nil | ((with_reducible apply EK.then_normal); apply EK.code) | (apply EC.cond_true; exact rfl)
       | (with_reducible first | apply EC.seq | apply EC.region | apply EC.skip | apply EC.label | apply EC.block | apply EC.exit | apply EC.ret | apply EK.in_normal | apply EK.in_same | apply EK.in_ret | apply EK.then_ret | apply EK.then_exit))
    rw [ek]
    repeat
      (first
       | (apply P_bin; (iterate 2 exact rfl); exact r1; (iterate 2 exact rfl)) | (apply P_bin; (iterate 2 exact rfl); exact r2; (iterate 2 exact rfl))
       | (apply P_bin; (iterate 2 exact rfl); exact r3; (iterate 2 exact rfl)) | (apply P_indexptr; (iterate 3 exact rfl); (first | exact hk | exact hki); (iterate 2 exact rfl))
       | (apply P_load; exact rfl; (first | exact I0 | exact I1 | exact I2); exact rfl; (rw [hoff]; exact hlv); (iterate 2 exact rfl)) | (apply P_conv; exact rfl; exact c1; (iterate 3 exact rfl))
       | (apply P_store8; exact rfl; exact .z; exact rfl; exact rfl; (omega); exact rfl) | (apply P_move; (iterate 3 exact rfl))
       | (apply P_ar; (iterate 3 exact rfl); (focus omega); (focus omega); (iterate 2 exact rfl)) | apply EL.nil | ((with_reducible apply EK.then_normal); apply EK.code)
       | (with_reducible first | apply EC.seq | apply EC.region | apply EC.skip | apply EC.label | apply EC.block | apply EC.exit | apply EC.ret | apply EK.in_normal | apply EK.in_same | apply EK.in_ret | apply EK.then_ret | apply EK.then_exit))
    refine EK.again ⟨i + 1, by omega⟩ (by dsimp only; omega) ?_
    rw [hoffi, hst]
    simp only [Int.natCast_add]
    exact (Le.keep (by repeat first | exact trivial | refine ⟨rfl, ?_⟩) (by repeat first | exact List.nil_sublist _ | apply List.Sublist.cons_cons | apply List.Sublist.cons) (by simp))
  · have : i = 32 := by omega
    subst this
    rw [List.take_of_length_le (by omega), Nat.sub_self, List.replicate_zero, List.append_nil]
    repeat
      (first
       | (apply P_load; exact rfl; (first | exact I0 | exact I1 | exact I2 | exact I3 | exact I4 | exact I5 | exact I6); (iterate 4 exact rfl))
       | (apply P_cmp (b := false); (iterate 2 exact rfl); (focus (first | (simp [cmpI]; done) | (simp [cmpI]; omega))); (iterate 2 exact rfl))
       | (apply P_store; exact rfl; (focus (repeat first | exact .z | apply SetAt.s | apply SetAtF.s)); (iterate 4 exact rfl)) | apply EL.nil | ((with_reducible apply EK.then_normal); apply EK.code)
       | (apply EC.cond_false; exact rfl)
       | (with_reducible first | apply EC.seq | apply EC.region | apply EC.skip | apply EC.label | apply EC.block | apply EC.exit | apply EC.ret | apply EK.in_normal | apply EK.in_same | apply EK.in_ret | apply EK.then_ret | apply EK.then_exit))
    refine EK.retc1r 1 rfl rfl rfl rfl ?_ rfl
    (repeat first | exact RefineL.refl _ _ | exact RL.nil | exact Rf.same | exact Rf.bs0 | exact Rf.sl0 | (apply Rf.fact; (focus (simp; done)); exact rfl) | apply Rf.tup | apply RL.cons)
theorem limbs4 (v : List UInt8) (hv : v.length = 32) : (limbsW 8 4 v).length = 4 ∧ (∀ x ∈ limbsW 8 4 v, x < 18446744073709551616) ∧ Wd.le 18446744073709551616 (limbsW 8 4 v) = val v := ⟨limbsW_length 8 4 v, limbsW_lt 8 4 v, le_limbsW (c := 8) (k := 4) (by rw [hv])⟩
set_option maxRecDepth 20000 in
set_option maxHeartbeats 4000000 in
theorem f_Cmp (u v : List UInt8) (hu : u.length = 32) (hv : v.length = 32) : Fn 37 [.arr 32 u, .arr 32 v] (· = .val (.v (.int .i64 (cmpN (val u) (val v))))) := by
  have h1 := f_from u hu
  have h2 := f_from v hv
  obtain ⟨a1, a2, a3⟩ := limbs4 u hu
  obtain ⟨b1, b2, b3⟩ := limbs4 v hv
  have h3 := f_number_cmp _ _ a1 b1 a2 b2
  rw [a3, b3] at h3
  refine Fn.walk 10 Try.func37 rfl Try.ntmps37 (by simp) fun X => ?_
  repeat
    (first
     | (apply P_assign; (iterate 3 exact rfl)) | (apply P_box; exact rfl; exact rfl; exact rfl; intro _) | apply EL.nil | ((with_reducible apply EK.then_normal); apply EK.code)
     | (with_reducible first | apply EC.seq | apply EC.region | apply EC.skip | apply EC.label | apply EC.block | apply EC.exit | apply EC.ret | apply EK.in_normal | apply EK.in_same | apply EK.in_ret | apply EK.then_ret | apply EK.then_exit))
  refine EC.draw 5 (by kernel_rfl) ?_
  simp only [List.take_succ_cons, List.take_zero, List.drop_succ_cons, List.drop_zero]
  repeat
    (first
     | (apply H_call (h1); exact rfl; (focus (repeat first | exact RefineL.refl _ _ | exact RL.nil | exact Rf.same | exact Rf.bs0 | exact Rf.sl0 | (apply Rf.fact; (focus (simp; done)); exact rfl) | apply Rf.tup | apply RL.cons)); (focus (intro _ _; simp [go_sem]; done)); (iterate 2 exact rfl))
     | (apply H_call (h2); exact rfl; (focus (repeat first | exact RefineL.refl _ _ | exact RL.nil | exact Rf.same | exact Rf.bs0 | exact Rf.sl0 | (apply Rf.fact; (focus (simp; done)); exact rfl) | apply Rf.tup | apply RL.cons)); (focus (intro _ _; simp [go_sem]; done)); (iterate 2 exact rfl))
     | (apply H_call (h3); exact rfl; (focus (repeat first | exact RefineL.refl _ _ | exact RL.nil | exact Rf.same | exact Rf.bs0 | exact Rf.sl0 | (apply Rf.fact; (focus (simp; done)); exact rfl) | apply Rf.tup | apply RL.cons)); (focus (intro _ _; simp [go_sem]; done)); (iterate 2 exact rfl))
     | (apply H_load; exact rfl; (first | exact I0 | exact I1 | exact I2 | exact I3 | exact I4 | exact I5 | exact I6); (iterate 4 exact rfl)) | ((with_reducible apply EH.nil); exact rfl))
  repeat
    (first
     | (apply P_assign; (iterate 3 exact rfl)) | apply EL.nil | ((with_reducible apply EK.then_normal); apply EK.code)
     | (with_reducible first | apply EC.seq | apply EC.region | apply EC.skip | apply EC.label | apply EC.block | apply EC.exit | apply EC.ret | apply EK.in_normal | apply EK.in_same | apply EK.in_ret | apply EK.then_ret | apply EK.then_exit))
  exact EK.ret1 rfl rfl rfl
set_option maxRecDepth 20000 in
set_option maxHeartbeats 4000000 in
theorem f_Sub (u v : List UInt8) (hu : u.length = 32) (hv : v.length = 32) : Fn 39 [.arr 32 u, .arr 32 v] (· = .val (.arr 32 (wordOf (val u + 256 ^ 32 - val v)))) := by
  have h1 := f_from u hu
  have h2 := f_from v hv
  obtain ⟨a1, a2, a3⟩ := limbs4 u hu
  obtain ⟨b1, b2, b3⟩ := limbs4 v hv
  obtain ⟨os, c, h3, o1, o2, o3, o4⟩ := f_number_sub _ _ a1 b1 a2 b2
  have h4 := f_number_word os o1 o2
  have hb := val_lt v
  rw [hv] at hb
  have e : wordOf (Wd.le 18446744073709551616 os) = wordOf (val u + 256 ^ 32 - val v) := by
    refine val_inj _ _ (by rw [wordOf_length, wordOf_length]) ?_
    rw [val_wordOf, val_wordOf]
    rw [a3, b3] at o4
    have : c = 0 ∨ c = 1 := by omega
    rcases this with rfl | rfl <;> omega
  rw [e] at h4
  refine Fn.walk 11 Try.func39 rfl Try.ntmps39 (by simp) fun X => ?_
  repeat
    (first
     | (apply P_alloc; exact rfl; exact rfl; exact rfl; intro _) | (apply P_box; exact rfl; exact rfl; exact rfl; intro _) | apply EL.nil | ((with_reducible apply EK.then_normal); apply EK.code)
     | (with_reducible first | apply EC.seq | apply EC.region | apply EC.skip | apply EC.label | apply EC.block | apply EC.exit | apply EC.ret | apply EK.in_normal | apply EK.in_same | apply EK.in_ret | apply EK.then_ret | apply EK.then_exit))
  refine EC.draw 6 (by kernel_rfl) ?_
  simp only [List.take_succ_cons, List.take_zero, List.drop_succ_cons, List.drop_zero]
  repeat
    (first
     | (apply H_call (h1); exact rfl; (focus (repeat first | exact RefineL.refl _ _ | exact RL.nil | exact Rf.same | exact Rf.bs0 | exact Rf.sl0 | (apply Rf.fact; (focus (simp; done)); exact rfl) | apply Rf.tup | apply RL.cons)); (focus (intro _ _; simp [go_sem]; done)); (iterate 2 exact rfl))
     | (apply H_call (h2); exact rfl; (focus (repeat first | exact RefineL.refl _ _ | exact RL.nil | exact Rf.same | exact Rf.bs0 | exact Rf.sl0 | (apply Rf.fact; (focus (simp; done)); exact rfl) | apply Rf.tup | apply RL.cons)); (focus (intro _ _; simp [go_sem]; done)); (iterate 2 exact rfl))
     | (apply H_call (h3); exact rfl; (focus (repeat first | exact RefineL.refl _ _ | exact RL.nil | exact Rf.same | exact Rf.bs0 | exact Rf.sl0 | (apply Rf.fact; (focus (simp; done)); exact rfl) | apply Rf.tup | apply RL.cons)); (focus (intro _ _; simp [go_sem]; done)); (iterate 2 exact rfl))
     | (apply H_call (h4); exact rfl; (focus (repeat first | exact RefineL.refl _ _ | exact RL.nil | exact Rf.same | exact Rf.bs0 | exact Rf.sl0 | (apply Rf.fact; (focus (simp; done)); exact rfl) | apply Rf.tup | apply RL.cons)); (focus (intro _ _; simp [go_sem]; done)); (iterate 2 exact rfl))
     | (apply H_load; exact rfl; (first | exact I0 | exact I1 | exact I2 | exact I3 | exact I4 | exact I5 | exact I6); (iterate 4 exact rfl)) | ((with_reducible apply EH.nil); exact rfl))
  repeat
    (first
     | (apply P_store; exact rfl; (focus (repeat first | exact .z | apply SetAt.s | apply SetAtF.s)); (iterate 4 exact rfl)) | apply EL.nil | ((with_reducible apply EK.then_normal); apply EK.code)
     | (with_reducible first | apply EC.seq | apply EC.region | apply EC.skip | apply EC.label | apply EC.block | apply EC.exit | apply EC.ret | apply EK.in_normal | apply EK.in_same | apply EK.in_ret | apply EK.then_ret | apply EK.then_exit))
  refine EK.retc1r 0 rfl rfl rfl rfl ?_ rfl
  (repeat first | exact RefineL.refl _ _ | exact RL.nil | exact Rf.same | exact Rf.bs0 | exact Rf.sl0 | (apply Rf.fact; (focus (simp; done)); exact rfl) | apply Rf.tup | apply RL.cons)
set_option maxRecDepth 20000 in
set_option maxHeartbeats 4000000 in
theorem f_Add (u v : List UInt8) (hu : u.length = 32) (hv : v.length = 32) : Fn 38 [.arr 32 u, .arr 32 v] (· = .val (.arr 32 (wordOf (val u + val v)))) := by
  have h1 := f_from u hu
  have h2 := f_from v hv
  obtain ⟨a1, a2, a3⟩ := limbs4 u hu
  obtain ⟨b1, b2, b3⟩ := limbs4 v hv
  obtain ⟨os, c, h3, o1, o2, o4⟩ := f_number_add _ _ a1 b1 a2 b2
  have h4 := f_number_word os o1 o2
  have e : wordOf (Wd.le 18446744073709551616 os) = wordOf (val u + val v) := by
    refine val_inj _ _ (by rw [wordOf_length, wordOf_length]) ?_
    rw [val_wordOf, val_wordOf]
    rw [a3, b3] at o4
    rw [← o4, show (18446744073709551616 : Nat) ^ 4 = 256 ^ 32 from rfl, Nat.add_mul_mod_self_left]
  rw [e] at h4
  clear e o4 o2
  obtain ⟨s0, s1, s2, s3, rfl⟩ : ∃ a0 a1 a2 a3, os = [a0, a1, a2, a3] := by
    match os, o1 with
    | [a, b, c, d], _ => exact ⟨a, b, c, d, rfl⟩
  refine Fn.walk 17 Try.func38 rfl Try.ntmps38 (by simp) fun X => ?_
  repeat
    (first
     | (apply P_alloc; exact rfl; exact rfl; exact rfl; intro _) | (apply P_box; exact rfl; exact rfl; exact rfl; intro _) | apply EL.nil | ((with_reducible apply EK.then_normal); apply EK.code)
     | (with_reducible first | apply EC.seq | apply EC.region | apply EC.skip | apply EC.label | apply EC.block | apply EC.exit | apply EC.ret | apply EK.in_normal | apply EK.in_same | apply EK.in_ret | apply EK.then_ret | apply EK.then_exit))
  refine EC.drawC 10 [0, 1, 2, 3, 4, 5, 6, 7] [8, 9] [] _ (by kernel_rfl) (by kernel_rfl) rfl ?_
  simp only [pickL, List.filterMap_cons, List.filterMap_nil, List.getElem?_cons_zero, List.getElem?_cons_succ]
  repeat
    (first
     | (apply H_call (h1); exact rfl; (focus (repeat first | exact RefineL.refl _ _ | exact RL.nil | exact Rf.same | exact Rf.bs0 | exact Rf.sl0 | (apply Rf.fact; (focus (simp; done)); exact rfl) | apply Rf.tup | apply RL.cons)); (focus (intro _ _; simp [go_sem]; done)); (iterate 2 exact rfl))
     | (apply H_call (h2); exact rfl; (focus (repeat first | exact RefineL.refl _ _ | exact RL.nil | exact Rf.same | exact Rf.bs0 | exact Rf.sl0 | (apply Rf.fact; (focus (simp; done)); exact rfl) | apply Rf.tup | apply RL.cons)); (focus (intro _ _; simp [go_sem]; done)); (iterate 2 exact rfl))
     | (apply H_call (h3); exact rfl; (focus (repeat first | exact RefineL.refl _ _ | exact RL.nil | exact Rf.same | exact Rf.bs0 | exact Rf.sl0 | (apply Rf.fact; (focus (simp; done)); exact rfl) | apply Rf.tup | apply RL.cons)); (focus (intro _ _; simp [go_sem]; done)); (iterate 2 exact rfl))
     | (apply H_move; (iterate 3 exact rfl)) | (apply H_extract; (iterate 4 exact rfl))
     | (apply H_load; exact rfl; (first | exact I0 | exact I1 | exact I2 | exact I3 | exact I4 | exact I5 | exact I6); (iterate 4 exact rfl)))
  refine EM.nil ?_
  repeat (first | rw [List.cons_append] | rw [List.nil_append])
  refine CH.mut (os := []) (rest := []) rfl rfl (m_alloc rfl rfl) ?_
  rintro _ _ ⟨_, rfl, rfl⟩
  try simp only [St.put]
  repeat (first | rw [List.cons_append] | rw [List.nil_append])
  refine CH.mut (os := [_]) (rest := []) rfl rfl (m_put (put_store rfl rfl rfl rfl rfl)) ?_
  rintro _ _ ⟨rfl, rfl⟩
  try simp only [St.put]
  repeat (first | rw [List.cons_append] | rw [List.nil_append])
  refine CH.nil ?_
  try simp only [List.drop_succ_cons, List.drop_zero]
  repeat
    (first
     | (apply P_call (h4); exact rfl; (focus (repeat first | exact RefineL.refl _ _ | exact RL.nil | exact Rf.same | exact Rf.bs0 | exact Rf.sl0 | (apply Rf.fact; (focus (simp; done)); exact rfl) | apply Rf.tup | apply RL.cons)); (focus (intro _ _; simp [go_sem]; done)); (iterate 2 exact rfl))
     | (apply P_assign; (iterate 3 exact rfl)) | (apply P_load; exact rfl; (first | exact I0 | exact I1 | exact I2 | exact I3 | exact I4 | exact I5 | exact I6); (iterate 4 exact rfl))
     | (apply P_store; exact rfl; (focus (repeat first | exact .z | apply SetAt.s | apply SetAtF.s)); (iterate 4 exact rfl)) | apply EL.nil | ((with_reducible apply EK.then_normal); apply EK.code)
     | (with_reducible first | apply EC.seq | apply EC.region | apply EC.skip | apply EC.label | apply EC.block | apply EC.exit | apply EC.ret | apply EK.in_normal | apply EK.in_same | apply EK.in_ret | apply EK.then_ret | apply EK.then_exit))
  refine EK.retc1r 1 rfl rfl rfl rfl ?_ rfl
  (repeat first | exact RefineL.refl _ _ | exact RL.nil | exact Rf.same | exact Rf.bs0 | exact Rf.sl0 | (apply Rf.fact; (focus (simp; done)); exact rfl) | apply Rf.tup | apply RL.cons)
end E
end Go.Proofs.Ytdhicdnmgmkpkaa
