/-
  Merged (wip/tools/merge.py): EW5, STB, STD, STC.
  Conditions: none.
-/
import Derived.Test.YtdhicdnmgmkpkaaZM17
/-
  The reference's words: cmp by digits; Cmp, Add, Sub as numbers.
  Conditions: none.
-/
namespace Go.Proofs.Ytdhicdnmgmkpkaa
set_option linter.unusedVariables false
open Go.RowKit Mono Rlp Wd
namespace E
set_option maxRecDepth 20000 in
set_option maxHeartbeats 8000000 in
theorem f_rcmp (ls ms : List Nat) (hl : ls.length = 16) (hm : ms.length = 16) (h1 : ∀ x ∈ ls, x < 65536) (h2 : ∀ x ∈ ms, x < 65536) :
    Fn 71 [.sl 1 (dIs ls), .sl 1 (dIs ms)] (· = .val (.v (.int .i64 (cmpN (Wd.le 65536 ls) (Wd.le 65536 ms))))) := by
  have hla : (dIs ls).length = 16 := (dIs_length ls).trans hl
  have hlb : (dIs ms).length = 16 := (dIs_length ms).trans hm
  refine Fn.walk 45 Try.func71 rfl Try.ntmps71 (by simp) fun X => ?_
  repeat
    (first
     | (apply P_move; (iterate 3 exact rfl)) | (apply P_assign; (iterate 3 exact rfl))
     | (apply P_cmp (b := false); (iterate 2 exact rfl); (focus (first | (simp [cmpI]; done) | (simp [cmpI]; omega))); (iterate 2 exact rfl))
     | (apply P_ar; (iterate 3 exact rfl); (focus omega); (focus omega); (iterate 2 exact rfl)) | (apply P_lensl; (iterate 4 exact rfl)) | apply EL.nil
     | ((with_reducible apply EK.then_normal); apply EK.code) | (apply EC.cond_false; exact rfl)
     | (with_reducible first | apply EC.seq | apply EC.region | apply EC.skip | apply EC.label | apply EC.block | apply EC.exit | apply EC.ret | apply EK.in_normal | apply EK.in_same | apply EK.in_ret | apply EK.then_ret | apply EK.then_exit))
  refine EC.loop (ι := {p : Nat // p ≤ 16 ∧ ls.drop p = ms.drop p})
    (fun p => ⟨[(6, .val (.v (.int .i64 ((p.1 : Int) - 1)))), (1, .val (.sl 1 (dIs ms))), (0, .val (.sl 1 (dIs ls)))], [], []⟩)
    (fun p => p.1) ⟨16, by omega, by rw [List.drop_eq_nil_of_le (by omega), List.drop_eq_nil_of_le (by omega)]⟩ ?_ ?_
  · rw [hla]
    exact (Le.keep (by repeat first | exact trivial | refine ⟨rfl, ?_⟩) (by repeat first | exact List.nil_sublist _ | apply List.Sublist.cons_cons | apply List.Sublist.cons) (by simp))
  rintro ⟨p, hp, hd⟩
  dsimp only at hp ⊢
  rcases Nat.eq_zero_or_pos p with h0 | hpos
  · subst h0
    have : ls = ms := by simpa using hd
    subst this
    repeat
      (first
       | (apply P_move; (iterate 3 exact rfl)) | (apply P_assign; (iterate 3 exact rfl))
       | (apply P_cmp (b := false); (iterate 2 exact rfl); (focus (first | (simp [cmpI]; done) | (simp [cmpI]; omega))); (iterate 2 exact rfl)) | apply EL.nil
       | ((with_reducible apply EK.then_normal); apply EK.code) | (apply EC.cond_false; exact rfl)
       | (with_reducible first | apply EC.seq | apply EC.region | apply EC.skip | apply EC.label | apply EC.block | apply EC.exit | apply EC.ret | apply EK.in_normal | apply EK.in_same | apply EK.in_ret | apply EK.then_ret | apply EK.then_exit))
    refine EK.ret1 rfl rfl ?_
    unfold cmpN
    rw [if_neg (by omega), if_neg (by omega)]
  · obtain ⟨q, rfl⟩ : ∃ q, p = q + 1 := ⟨p - 1, by omega⟩
    have hpl : q < ls.length := by omega
    have hpm : q < ms.length := by omega
    have hx : (dIs ls)[q]? = some (.v (i64 ls[q])) := dIs_get hpl
    have hy : (dIs ms)[q]? = some (.v (i64 ms[q])) := dIs_get hpm
    have eq1 : (((q + 1 : Nat) : Int) - 1) = (q : Int) := by omega
    rw [eq1]
    rcases Nat.lt_trichotomy ls[q] ms[q] with hc | hc | hc
    · have hlt := le_lt_at ls ms (by omega) h1 h2 q hpl hd hc
      generalize ls[q] = x at hx hc
      generalize ms[q] = y at hy hc
      repeat
        (first
         | (apply P_move; (iterate 3 exact rfl)) | (apply P_assign; (iterate 3 exact rfl)) | (apply P_loadpd; (iterate 5 exact rfl))
         | (apply P_cmp (b := true); (iterate 2 exact rfl); (focus (first | (simp [cmpI]; done) | (simp [cmpI]; omega))); (iterate 2 exact rfl)) | (apply P_lensl; (iterate 4 exact rfl))
         | (apply P_index; (iterate 4 exact rfl); (focus (first | exact ⟨by decide, rfl⟩ | (refine ⟨by omega, ?_⟩; rw [Int.toNat_natCast]; assumption))); (iterate 2 exact rfl)) | apply EL.nil
         | ((with_reducible apply EK.then_normal); apply EK.code) | (apply EC.cond_true; exact rfl)
         | (with_reducible first | apply EC.seq | apply EC.region | apply EC.skip | apply EC.label | apply EC.block | apply EC.exit | apply EC.ret | apply EK.in_normal | apply EK.in_same | apply EK.in_ret | apply EK.then_ret | apply EK.then_exit))
      refine EK.ret1 rfl rfl ?_
      unfold cmpN
      rw [if_pos hlt]
    · have hd' : ls.drop q = ms.drop q := by rw [List.drop_eq_getElem_cons hpl, List.drop_eq_getElem_cons hpm, hc, hd]
      generalize ls[q] = x at hx hc
      generalize ms[q] = y at hy hc
      repeat
        (first
         | (apply P_move; (iterate 3 exact rfl)) | (apply P_assign; (iterate 3 exact rfl)) | (apply P_loadpd; (iterate 5 exact rfl))
         | (apply P_cmp (b := true); (iterate 2 exact rfl); (focus (first | (simp [cmpI]; done) | (simp [cmpI]; omega))); (iterate 2 exact rfl))
         | (apply P_cmp (b := false); (iterate 2 exact rfl); (focus (first | (simp [cmpI]; done) | (simp [cmpI]; omega))); (iterate 2 exact rfl))
         | (apply P_ar; (iterate 3 exact rfl); (focus omega); (focus omega); (iterate 2 exact rfl)) | (apply P_lensl; (iterate 4 exact rfl))
         | (apply P_index; (iterate 4 exact rfl); (focus (first | exact ⟨by decide, rfl⟩ | (refine ⟨by omega, ?_⟩; rw [Int.toNat_natCast]; assumption))); (iterate 2 exact rfl)) | apply EL.nil
         | ((with_reducible apply EK.then_normal); apply EK.code) | (apply EC.cond_true; exact rfl) | (apply EC.cond_false; exact rfl)
         | (with_reducible first | apply EC.seq | apply EC.region | apply EC.skip | apply EC.label | apply EC.block | apply EC.exit | apply EC.ret | apply EK.in_normal | apply EK.in_same | apply EK.in_ret | apply EK.then_ret | apply EK.then_exit))
      refine EK.again ⟨q, by omega, hd'⟩ (by dsimp only; omega) ?_
      exact (Le.keep (by repeat first | exact trivial | refine ⟨rfl, ?_⟩) (by repeat first | exact List.nil_sublist _ | apply List.Sublist.cons_cons | apply List.Sublist.cons) (by simp))
    · have hlt := le_lt_at ms ls (by omega) h2 h1 q hpm (by simpa using hd.symm) hc
      generalize ls[q] = x at hx hc
      generalize ms[q] = y at hy hc
      repeat
        (first
         | (apply P_move; (iterate 3 exact rfl)) | (apply P_assign; (iterate 3 exact rfl)) | (apply P_loadpd; (iterate 5 exact rfl))
         | (apply P_cmp (b := true); (iterate 2 exact rfl); (focus (first | (simp [cmpI]; done) | (simp [cmpI]; omega))); (iterate 2 exact rfl))
         | (apply P_cmp (b := false); (iterate 2 exact rfl); (focus (first | (simp [cmpI]; done) | (simp [cmpI]; omega))); (iterate 2 exact rfl)) | (apply P_lensl; (iterate 4 exact rfl))
         | (apply P_index; (iterate 4 exact rfl); (focus (first | exact ⟨by decide, rfl⟩ | (refine ⟨by omega, ?_⟩; rw [Int.toNat_natCast]; assumption))); (iterate 2 exact rfl)) | apply EL.nil
         | ((with_reducible apply EK.then_normal); apply EK.code) | (apply EC.cond_true; exact rfl) | (apply EC.cond_false; exact rfl)
         | (with_reducible first | apply EC.seq | apply EC.region | apply EC.skip | apply EC.label | apply EC.block | apply EC.exit | apply EC.ret | apply EK.in_normal | apply EK.in_same | apply EK.in_ret | apply EK.then_ret | apply EK.then_exit))
      refine EK.ret1 rfl rfl ?_
      unfold cmpN
      rw [if_neg (by omega), if_pos hlt]
theorem limbs16 (v : List UInt8) (hv : v.length = 32) : (limbsW 2 16 v).length = 16 ∧ (∀ x ∈ limbsW 2 16 v, x < 65536) ∧ Wd.le 65536 (limbsW 2 16 v) = val v := ⟨limbsW_length 2 16 v, limbsW_lt 2 16 v, le_limbsW (c := 2) (k := 16) (by rw [hv])⟩
theorem sub_mod (B o v u c : Nat) (hv : v < B) (hs : o + v = u + B * c) (hc : c ≤ 1) : o % B = (u + B - v) % B := by
  have : c = 0 ∨ c = 1 := by omega
  rcases this with rfl | rfl
  · rw [show u + B - v = o + B by omega, Nat.add_mod_right]
  · rw [show u + B - v = o by omega]
theorem getD_lt (ls : List Nat) (h : ∀ x ∈ ls, x < 65536) (j : Nat) : ls.getD j 0 < 65536 := by
  rw [List.getD_eq_getElem?_getD]
  cases e : ls[j]? with
  | none => decide
  | some x => exact h x (List.mem_of_getElem? e)
set_option maxRecDepth 20000 in
set_option maxHeartbeats 4000000 in
theorem f_rCmp (u v : List UInt8) (hu : u.length = 32) (hv : v.length = 32) : Fn 40 [.arr 32 u, .arr 32 v] (· = .val (.v (.int .i64 (cmpN (val u) (val v))))) := by
  have h1 := f_limbs u hu
  have h2 := f_limbs v hv
  obtain ⟨a1, a2, a3⟩ := limbs16 u hu
  obtain ⟨b1, b2, b3⟩ := limbs16 v hv
  have h3 := f_rcmp _ _ a1 b1 a2 b2
  rw [a3, b3] at h3
  refine Fn.walk 10 Try.func40 rfl Try.ntmps40 (by simp) fun X => ?_
  repeat
    (first
     | (apply P_assign; (iterate 3 exact rfl)) | (apply P_box; exact rfl; exact rfl; exact rfl; intro _) | apply EL.nil | ((with_reducible apply EK.then_normal); apply EK.code)
     | (with_reducible first | apply EC.seq | apply EC.region | apply EC.skip | apply EC.label | apply EC.block | apply EC.exit | apply EC.ret | apply EK.in_normal | apply EK.in_same | apply EK.in_ret | apply EK.then_ret | apply EK.then_exit))
  refine EC.draw 5 (by kernel_rfl) ?_
  simp only [List.take_succ_cons, List.take_zero, List.drop_succ_cons, List.drop_zero]
  repeat
    (first
     | (apply H_call (h1); exact rfl; (focus (repeat first | exact RefineL.refl _ _ | exact RL.nil | exact Rf.same | exact Rf.bs0 | exact Rf.sl0 | (apply Rf.fact; (focus (simp; done)); exact rfl) | apply Rf.tup | apply RL.cons)); (focus (intro _ _; simp [go_sem]; done)); (iterate 2 exact rfl))
     | (apply H_call (h2); exact rfl; (focus (repeat first | exact RefineL.refl _ _ | exact RL.nil | exact Rf.same | exact Rf.bs0 | exact Rf.sl0 | (apply Rf.fact; (focus (simp; done)); exact rfl) | apply Rf.tup | apply RL.cons)); (focus (intro _ _; simp [go_sem]; done)); (iterate 2 exact rfl))
     | (apply H_call (h3); exact rfl; (focus (repeat first | exact RefineL.refl _ _ | exact RL.nil | exact Rf.same | exact Rf.bs0 | exact Rf.sl0 | (apply Rf.fact; (focus (simp; done)); exact rfl) | apply Rf.tup | apply RL.cons)); (focus (intro _ _; simp [go_sem]; done)); (iterate 2 exact rfl))
     | (apply H_load; exact rfl; (first | exact I0 | exact I1 | exact I2 | exact I3 | exact I4 | exact I5 | exact I6); (iterate 4 exact rfl)) | ((with_reducible apply EH.nil); exact rfl))
  repeat
    (first
     | (apply P_assign; (iterate 3 exact rfl)) | apply EL.nil | ((with_reducible apply EK.then_normal); apply EK.code)
     | (with_reducible first | apply EC.seq | apply EC.region | apply EC.skip | apply EC.label | apply EC.block | apply EC.exit | apply EC.ret | apply EK.in_normal | apply EK.in_same | apply EK.in_ret | apply EK.then_ret | apply EK.then_exit))
  refine EK.ret1 rfl rfl rfl
set_option maxRecDepth 20000 in
set_option maxHeartbeats 4000000 in
theorem f_rAdd (u v : List UInt8) (hu : u.length = 32) (hv : v.length = 32) : Fn 41 [.arr 32 u, .arr 32 v] (· = .val (.arr 32 (wordOf (val u + val v)))) := by
  have h1 := f_limbs u hu
  have h2 := f_limbs v hv
  obtain ⟨a1, a2, a3⟩ := limbs16 u hu
  obtain ⟨b1, b2, b3⟩ := limbs16 v hv
  have h3 := f_radd _ _ a1 b1 a2 b2
  have hs := add_sum _ _ a1 b1 16 (by omega)
  rw [List.take_of_length_le (by omega), List.take_of_length_le (by omega), a3, b3] at hs
  have hc := addC_le _ _ a2 b2 a1 b1 16 (by omega)
  have h4 := f_rword (addO (limbsW 2 16 u) (limbsW 2 16 v) 16 ++ [addC (limbsW 2 16 u) (limbsW 2 16 v) 16]) (by rw [List.length_append, addO_length]; simp) (fun x hx => by
    rcases List.mem_append.1 hx with hx | hx
    · exact addO_lt _ _ _ x hx
    · rw [List.mem_singleton.1 hx]; omega)
  rw [le_append, addO_length] at h4
  simp only [Wd.le, Nat.mul_zero, Nat.add_zero] at h4
  rw [hs] at h4
  clear hs hc
  generalize addO (limbsW 2 16 u) (limbsW 2 16 v) 16 ++ [addC (limbsW 2 16 u) (limbsW 2 16 v) 16] = os at h3 h4
  refine Fn.walk 11 Try.func41 rfl Try.ntmps41 (by simp) fun X => ?_
  repeat
    (first
     | (apply P_alloc; exact rfl; exact rfl; exact rfl; intro _) | (apply P_box; exact rfl; exact rfl; exact rfl; intro _) | apply EL.nil | ((with_reducible apply EK.then_normal); apply EK.code)
     | (with_reducible first | apply EC.seq | apply EC.region | apply EC.skip | apply EC.label | apply EC.block | apply EC.exit | apply EC.ret | apply EK.in_normal | apply EK.in_same | apply EK.in_ret | apply EK.then_ret | apply EK.then_exit))
  refine EC.draw 6 (by kernel_rfl) ?_
  simp only [List.take_succ_cons, List.take_zero, List.drop_succ_cons, List.drop_zero]
  repeat
    (first
     | (apply H_call (h1); exact rfl; (focus (repeat first | exact RefineL.refl _ _ | exact RL.nil | exact Rf.same | exact Rf.bs0 | exact Rf.sl0 | (apply Rf.fact; (focus (simp; done)); exact rfl) | apply Rf.tup | apply RL.cons)); (focus (intro _ _; simp [go_sem]; done)); (iterate 2 exact rfl))
     | (apply H_call (h2); exact rfl; (focus (repeat first | exact RefineL.refl _ _ | exact RL.nil | exact Rf.same | exact Rf.bs0 | exact Rf.sl0 | (apply Rf.fact; (focus (simp; done)); exact rfl) | apply Rf.tup | apply RL.cons)); (focus (intro _ _; simp [go_sem]; done)); (iterate 2 exact rfl))
     | (apply H_call (h3); exact rfl; (focus (repeat first | exact RefineL.refl _ _ | exact RL.nil | exact Rf.same | exact Rf.bs0 | exact Rf.sl0 | (apply Rf.fact; (focus (simp; done)); exact rfl) | apply Rf.tup | apply RL.cons)); (focus (intro _ _; simp [go_sem]; done)); (iterate 2 exact rfl))
     | (apply H_call (h4); exact rfl; (focus (repeat first | exact RefineL.refl _ _ | exact RL.nil | exact Rf.same | exact Rf.bs0 | exact Rf.sl0 | (apply Rf.fact; (focus (simp; done)); exact rfl) | apply Rf.tup | apply RL.cons)); (focus (intro _ _; simp [go_sem]; done)); (iterate 2 exact rfl))
     | (apply H_load; exact rfl; (first | exact I0 | exact I1 | exact I2 | exact I3 | exact I4 | exact I5 | exact I6); (iterate 4 exact rfl)) | ((with_reducible apply EH.nil); exact rfl))
  repeat
    (first
     | (apply P_store; exact rfl; (focus (repeat first | exact .z | apply SetAt.s | apply SetAtF.s)); (iterate 4 exact rfl)) | apply EL.nil | ((with_reducible apply EK.then_normal); apply EK.code)
     | (with_reducible first | apply EC.seq | apply EC.region | apply EC.skip | apply EC.label | apply EC.block | apply EC.exit | apply EC.ret | apply EK.in_normal | apply EK.in_same | apply EK.in_ret | apply EK.then_ret | apply EK.then_exit))
  refine EK.retc1r 0 rfl rfl rfl rfl ?_ rfl
  (repeat first | exact RefineL.refl _ _ | exact RL.nil | exact Rf.same | exact Rf.bs0 | exact Rf.sl0 | (apply Rf.fact; (focus (simp; done)); exact rfl) | apply Rf.tup | apply RL.cons)
set_option maxRecDepth 20000 in
set_option maxHeartbeats 4000000 in
theorem f_rSub (u v : List UInt8) (hu : u.length = 32) (hv : v.length = 32) : Fn 42 [.arr 32 u, .arr 32 v] (· = .val (.arr 32 (wordOf (val u + 256 ^ 32 - val v)))) := by
  have h1 := f_limbs u hu
  have h2 := f_limbs v hv
  obtain ⟨a1, a2, a3⟩ := limbs16 u hu
  obtain ⟨b1, b2, b3⟩ := limbs16 v hv
  have h3 := f_rsub _ _ a1 b1 (getD_lt _ a2) (getD_lt _ b2)
  have hs := sub_sum _ _ (getD_lt _ a2) (getD_lt _ b2) a1 b1 16 (by omega)
  rw [List.take_of_length_le (by omega), List.take_of_length_le (by omega), a3, b3, show (65536 : Nat) ^ 16 = 256 ^ 32 from rfl] at hs
  have hc := subC_le (limbsW 2 16 u) (limbsW 2 16 v) 16
  have hlt := subO_lt _ _ (getD_lt _ a2) (getD_lt _ b2) 16
  have h4 := f_rword (subO (limbsW 2 16 u) (limbsW 2 16 v) 16) (by rw [subO_length]; omega) hlt
  have e : wordOf (Wd.le 65536 (subO (limbsW 2 16 u) (limbsW 2 16 v) 16)) = wordOf (val u + 256 ^ 32 - val v) := by
    have hvl := val_lt v
    rw [hv] at hvl
    exact wordOf_mod _ _ (sub_mod _ _ _ _ _ hvl hs hc)
  rw [e] at h4
  clear e hs hc hlt
  generalize subO (limbsW 2 16 u) (limbsW 2 16 v) 16 = os at h3 h4
  refine Fn.walk 11 Try.func42 rfl Try.ntmps42 (by simp) fun X => ?_
  repeat
    (first
     | (apply P_alloc; exact rfl; exact rfl; exact rfl; intro _) | (apply P_box; exact rfl; exact rfl; exact rfl; intro _) | apply EL.nil | ((with_reducible apply EK.then_normal); apply EK.code)
     | (with_reducible first | apply EC.seq | apply EC.region | apply EC.skip | apply EC.label | apply EC.block | apply EC.exit | apply EC.ret | apply EK.in_normal | apply EK.in_same | apply EK.in_ret | apply EK.then_ret | apply EK.then_exit))
  refine EC.draw 6 (by kernel_rfl) ?_
  simp only [List.take_succ_cons, List.take_zero, List.drop_succ_cons, List.drop_zero]
  repeat
    (first
     | (apply H_call (h1); exact rfl; (focus (repeat first | exact RefineL.refl _ _ | exact RL.nil | exact Rf.same | exact Rf.bs0 | exact Rf.sl0 | (apply Rf.fact; (focus (simp; done)); exact rfl) | apply Rf.tup | apply RL.cons)); (focus (intro _ _; simp [go_sem]; done)); (iterate 2 exact rfl))
     | (apply H_call (h2); exact rfl; (focus (repeat first | exact RefineL.refl _ _ | exact RL.nil | exact Rf.same | exact Rf.bs0 | exact Rf.sl0 | (apply Rf.fact; (focus (simp; done)); exact rfl) | apply Rf.tup | apply RL.cons)); (focus (intro _ _; simp [go_sem]; done)); (iterate 2 exact rfl))
     | (apply H_call (h3); exact rfl; (focus (repeat first | exact RefineL.refl _ _ | exact RL.nil | exact Rf.same | exact Rf.bs0 | exact Rf.sl0 | (apply Rf.fact; (focus (simp; done)); exact rfl) | apply Rf.tup | apply RL.cons)); (focus (intro _ _; simp [go_sem]; done)); (iterate 2 exact rfl))
     | (apply H_call (h4); exact rfl; (focus (repeat first | exact RefineL.refl _ _ | exact RL.nil | exact Rf.same | exact Rf.bs0 | exact Rf.sl0 | (apply Rf.fact; (focus (simp; done)); exact rfl) | apply Rf.tup | apply RL.cons)); (focus (intro _ _; simp [go_sem]; done)); (iterate 2 exact rfl))
     | (apply H_load; exact rfl; (first | exact I0 | exact I1 | exact I2 | exact I3 | exact I4 | exact I5 | exact I6); (iterate 4 exact rfl)) | ((with_reducible apply EH.nil); exact rfl))
  repeat
    (first
     | (apply P_store; exact rfl; (focus (repeat first | exact .z | apply SetAt.s | apply SetAtF.s)); (iterate 4 exact rfl)) | apply EL.nil | ((with_reducible apply EK.then_normal); apply EK.code)
     | (with_reducible first | apply EC.seq | apply EC.region | apply EC.skip | apply EC.label | apply EC.block | apply EC.exit | apply EC.ret | apply EK.in_normal | apply EK.in_same | apply EK.in_ret | apply EK.then_ret | apply EK.then_exit))
  refine EK.retc1r 0 rfl rfl rfl rfl ?_ rfl
  (repeat first | exact RefineL.refl _ _ | exact RL.nil | exact Rf.same | exact Rf.bs0 | exact Rf.sl0 | (apply Rf.fact; (focus (simp; done)); exact rfl) | apply Rf.tup | apply RL.cons)
end E
end Go.Proofs.Ytdhicdnmgmkpkaa
/-
  The reference's state: Move.
  Conditions: none.
-/
namespace Go.Proofs.Ytdhicdnmgmkpkaa
set_option linter.unusedVariables false
open Go.RowKit Mono Rlp Wd
namespace E
set_option maxRecDepth 20000 in
set_option maxHeartbeats 8000000 in
theorem rmove_lt {g : Nat} {L k : Value} {n : Int} (l : List (List UInt8 × List UInt8)) (a a2 w : List UInt8) (hll : l.length < 1099511627776) (hx : (getR l a).length = 32) (hw : w.length = 32) (hlt : val (getR l a) < val w) : FnM 12 [.v (ptr g), .arr 20 a, .arr 20 a2, .arr 32 w] [rsO g L k n, raO L l] (fun r os' => r = .val (.v (.bool false)) ∧ os' = [rsO g L k n, raO L l]) := by
  have h1 := rget (g := g) (L := L) (k := k) (n := n) l a hll
  have h1b := rget (g := g) (L := L) (k := k) (n := n) l a2 hll
  have h2 := f_rCmp (getR l a) w hx hw
  rw [cmpN_lt hlt] at h2
  refine FnM.walk 44 Try.func12 rfl Try.ntmps12 (by simp) fun X => ?_
  repeat
    (first
     | (apply P_move; (iterate 3 exact rfl)) | (apply P_assign; (iterate 3 exact rfl))
     | (apply P_load; exact rfl; (first | exact I0 | exact I1 | exact I2 | exact I3 | exact I4 | exact I5 | exact I6); (iterate 4 exact rfl)) | (apply P_box; exact rfl; exact rfl; exact rfl; intro _)
     | apply EL.nil | ((with_reducible apply EK.then_normal); apply EK.code)
     | (with_reducible first | apply EC.seq | apply EC.region | apply EC.skip | apply EC.label | apply EC.block | apply EC.exit | apply EC.ret | apply EK.in_normal | apply EK.in_same | apply EK.in_ret | apply EK.then_ret | apply EK.then_exit))
  repeat
    (first
     | (apply P_callV h1 [3, 4, 0, 1, 2] [_, _, _] rfl (by decide) rfl rfl (RefineL.refl _ _) (by intro _ _; simp [go_sem]) rfl rfl) | (apply P_fieldv; (iterate 8 exact rfl))
     | (apply P_move; (iterate 3 exact rfl)) | (apply P_load; exact rfl; (first | exact I0 | exact I1 | exact I2 | exact I3 | exact I4 | exact I5 | exact I6); (iterate 4 exact rfl))
     | (apply P_alloc; exact rfl; exact rfl; exact rfl; intro _) | (apply P_store; exact rfl; (focus (repeat first | exact .z | apply SetAt.s | apply SetAtF.s)); (iterate 4 exact rfl)) | apply EL.nil
     | ((with_reducible apply EK.then_normal); apply EK.code)
     | (with_reducible first | apply EC.seq | apply EC.region | apply EC.skip | apply EC.label | apply EC.block | apply EC.exit | apply EC.ret | apply EK.in_normal | apply EK.in_same | apply EK.in_ret | apply EK.then_ret | apply EK.then_exit))
  repeat
    (first
     | (apply P_callV h1b [4, 5, 0, 1, 2, 3] [_, _, _, _] rfl (by decide) rfl rfl (RefineL.refl _ _) (by intro _ _; simp [go_sem]) rfl rfl) | (apply P_fieldv; (iterate 8 exact rfl))
     | (apply P_call (h2); exact rfl; (focus (repeat first | exact RefineL.refl _ _ | exact RL.nil | exact Rf.same | exact Rf.bs0 | exact Rf.sl0 | (apply Rf.fact; (focus (simp; done)); exact rfl) | apply Rf.tup | apply RL.cons)); (focus (intro _ _; simp [go_sem]; done)); (iterate 2 exact rfl))
     | (apply P_assign; (iterate 3 exact rfl)) | (apply P_load; exact rfl; (first | exact I0 | exact I1 | exact I2 | exact I3 | exact I4 | exact I5 | exact I6); (iterate 4 exact rfl))
     | (apply P_cmp (b := true); (iterate 2 exact rfl); (focus (first | (simp [cmpI]; done) | (simp [cmpI]; omega))); (iterate 2 exact rfl)) | (apply P_alloc; exact rfl; exact rfl; exact rfl; intro _)
     | (apply P_store; exact rfl; (focus (repeat first | exact .z | apply SetAt.s | apply SetAtF.s)); (iterate 4 exact rfl)) | apply EL.nil | ((with_reducible apply EK.then_normal); apply EK.code)
     | (apply EC.cond_true; exact rfl)
     | (with_reducible first | apply EC.seq | apply EC.region | apply EC.skip | apply EC.label | apply EC.block | apply EC.exit | apply EC.ret | apply EK.in_normal | apply EK.in_same | apply EK.in_ret | apply EK.then_ret | apply EK.then_exit))
  exact EK.retM1s [rsO g L k n, raO L l] rfl rfl (by (repeat first | exact List.nil_sublist _ | apply List.Sublist.cons_cons | apply List.Sublist.cons)) ⟨rfl, rfl⟩
set_option maxRecDepth 20000 in
set_option maxHeartbeats 8000000 in
theorem rmove_same {g : Nat} {L k : Value} {n : Int} (l : List (List UInt8 × List UInt8)) (a w : List UInt8) (hll : l.length < 1099511627776) (hx : (getR l a).length = 32) (hw : w.length = 32) (hlt : ¬ val (getR l a) < val w) : FnM 12 [.v (ptr g), .arr 20 a, .arr 20 a, .arr 32 w] [rsO g L k n, raO L l] (fun r os' => r = .val (.v (.bool true)) ∧ os' = [rsO g L k n, raO L l]) := by
  have h1 := rget (g := g) (L := L) (k := k) (n := n) l a hll
  have h2 := f_rCmp (getR l a) w hx hw
  have hz := cmpN_ge hlt
  generalize cmpN (val (getR l a)) (val w) = z at h2 hz
  have h4 := (bin_addr a a).1
  rw [show (a == a) = true by simp] at h4
  refine FnM.walk 44 Try.func12 rfl Try.ntmps12 (by simp) fun X => ?_
  repeat
    (first
     | (apply P_move; (iterate 3 exact rfl)) | (apply P_assign; (iterate 3 exact rfl))
     | (apply P_load; exact rfl; (first | exact I0 | exact I1 | exact I2 | exact I3 | exact I4 | exact I5 | exact I6); (iterate 4 exact rfl)) | (apply P_box; exact rfl; exact rfl; exact rfl; intro _)
     | apply EL.nil | ((with_reducible apply EK.then_normal); apply EK.code)
     | (with_reducible first | apply EC.seq | apply EC.region | apply EC.skip | apply EC.label | apply EC.block | apply EC.exit | apply EC.ret | apply EK.in_normal | apply EK.in_same | apply EK.in_ret | apply EK.then_ret | apply EK.then_exit))
  repeat
    (first
     | (apply P_callV h1 [3, 4, 0, 1, 2] [_, _, _] rfl (by decide) rfl rfl (RefineL.refl _ _) (by intro _ _; simp [go_sem]) rfl rfl) | (apply P_fieldv; (iterate 8 exact rfl))
     | (apply P_move; (iterate 3 exact rfl)) | (apply P_load; exact rfl; (first | exact I0 | exact I1 | exact I2 | exact I3 | exact I4 | exact I5 | exact I6); (iterate 4 exact rfl))
     | (apply P_alloc; exact rfl; exact rfl; exact rfl; intro _) | (apply P_store; exact rfl; (focus (repeat first | exact .z | apply SetAt.s | apply SetAtF.s)); (iterate 4 exact rfl)) | apply EL.nil
     | ((with_reducible apply EK.then_normal); apply EK.code)
     | (with_reducible first | apply EC.seq | apply EC.region | apply EC.skip | apply EC.label | apply EC.block | apply EC.exit | apply EC.ret | apply EK.in_normal | apply EK.in_same | apply EK.in_ret | apply EK.then_ret | apply EK.then_exit))
  repeat
    (first
     | (apply P_callV h1 [4, 5, 0, 1, 2, 3] [_, _, _, _] rfl (by decide) rfl rfl (RefineL.refl _ _) (by intro _ _; simp [go_sem]) rfl rfl) | (apply P_fieldv; (iterate 8 exact rfl))
     | (apply P_call (h2); exact rfl; (focus (repeat first | exact RefineL.refl _ _ | exact RL.nil | exact Rf.same | exact Rf.bs0 | exact Rf.sl0 | (apply Rf.fact; (focus (simp; done)); exact rfl) | apply Rf.tup | apply RL.cons)); (focus (intro _ _; simp [go_sem]; done)); (iterate 2 exact rfl))
     | (apply P_bin; (iterate 2 exact rfl); exact h4; (iterate 2 exact rfl)) | (apply P_assign; (iterate 3 exact rfl))
     | (apply P_load; exact rfl; (first | exact I0 | exact I1 | exact I2 | exact I3 | exact I4 | exact I5 | exact I6); (iterate 4 exact rfl))
     | (apply P_cmp (b := false); (iterate 2 exact rfl); (focus (first | (simp [cmpI]; done) | (simp [cmpI]; omega))); (iterate 2 exact rfl)) | (apply P_alloc; exact rfl; exact rfl; exact rfl; intro _)
     | (apply P_store; exact rfl; (focus (repeat first | exact .z | apply SetAt.s | apply SetAtF.s)); (iterate 4 exact rfl)) | apply EL.nil | ((with_reducible apply EK.then_normal); apply EK.code)
     | (apply EC.cond_true; exact rfl) | (apply EC.cond_false; exact rfl)
     | (with_reducible first | apply EC.seq | apply EC.region | apply EC.skip | apply EC.label | apply EC.block | apply EC.exit | apply EC.ret | apply EK.in_normal | apply EK.in_same | apply EK.in_ret | apply EK.then_ret | apply EK.then_exit))
  exact EK.retM1s [rsO g L k n, raO L l] rfl rfl (by (repeat first | exact List.nil_sublist _ | apply List.Sublist.cons_cons | apply List.Sublist.cons)) ⟨rfl, rfl⟩
set_option maxRecDepth 20000 in
set_option maxHeartbeats 8000000 in
theorem rmove_over {g : Nat} {L k : Value} {n : Int} (l : List (List UInt8 × List UInt8)) (a a2 w : List UInt8) (hne : (a == a2) = false) (hll : l.length < 1099511627776) (hx : (getR l a).length = 32) (hy : (getR l a2).length = 32) (hw : w.length = 32) (hlt : ¬ val (getR l a) < val w) (hov : val (wordOf (val (getR l a2) + val w)) < val (getR l a2)) : FnM 12 [.v (ptr g), .arr 20 a, .arr 20 a2, .arr 32 w] [rsO g L k n, raO L l] (fun r os' => r = .val (.v (.bool false)) ∧ os' = [rsO g L k n, raO L l]) := by
  have h1 := rget (g := g) (L := L) (k := k) (n := n) l a hll
  have h1b := rget (g := g) (L := L) (k := k) (n := n) l a2 hll
  have h2 := f_rCmp (getR l a) w hx hw
  have hz := cmpN_ge hlt
  generalize cmpN (val (getR l a)) (val w) = z at h2 hz
  have h4 := (bin_addr a a2).1
  rw [hne] at h4
  have h3 := f_rAdd (getR l a2) w hy hw
  have h5 := f_rCmp (wordOf (val (getR l a2) + val w)) (getR l a2) (wordOf_length _) hy
  rw [cmpN_lt hov] at h5
  generalize wordOf (val (getR l a2) + val w) = s at h3 h5
  refine FnM.walk 44 Try.func12 rfl Try.ntmps12 (by simp) fun X => ?_
  repeat
    (first
     | (apply P_move; (iterate 3 exact rfl)) | (apply P_assign; (iterate 3 exact rfl))
     | (apply P_load; exact rfl; (first | exact I0 | exact I1 | exact I2 | exact I3 | exact I4 | exact I5 | exact I6); (iterate 4 exact rfl)) | (apply P_box; exact rfl; exact rfl; exact rfl; intro _)
     | apply EL.nil | ((with_reducible apply EK.then_normal); apply EK.code)
     | (with_reducible first | apply EC.seq | apply EC.region | apply EC.skip | apply EC.label | apply EC.block | apply EC.exit | apply EC.ret | apply EK.in_normal | apply EK.in_same | apply EK.in_ret | apply EK.then_ret | apply EK.then_exit))
  repeat
    (first
     | (apply P_callV h1 [3, 4, 0, 1, 2] [_, _, _] rfl (by decide) rfl rfl (RefineL.refl _ _) (by intro _ _; simp [go_sem]) rfl rfl) | (apply P_fieldv; (iterate 8 exact rfl))
     | (apply P_move; (iterate 3 exact rfl)) | (apply P_load; exact rfl; (first | exact I0 | exact I1 | exact I2 | exact I3 | exact I4 | exact I5 | exact I6); (iterate 4 exact rfl))
     | (apply P_alloc; exact rfl; exact rfl; exact rfl; intro _) | (apply P_store; exact rfl; (focus (repeat first | exact .z | apply SetAt.s | apply SetAtF.s)); (iterate 4 exact rfl)) | apply EL.nil
     | ((with_reducible apply EK.then_normal); apply EK.code)
     | (with_reducible first | apply EC.seq | apply EC.region | apply EC.skip | apply EC.label | apply EC.block | apply EC.exit | apply EC.ret | apply EK.in_normal | apply EK.in_same | apply EK.in_ret | apply EK.then_ret | apply EK.then_exit))
  repeat
    (first
     | (apply P_callV h1b [4, 5, 0, 1, 2, 3] [_, _, _, _] rfl (by decide) rfl rfl (RefineL.refl _ _) (by intro _ _; simp [go_sem]) rfl rfl) | (apply P_fieldv; (iterate 8 exact rfl))
     | (apply P_call (h2); exact rfl; (focus (repeat first | exact RefineL.refl _ _ | exact RL.nil | exact Rf.same | exact Rf.bs0 | exact Rf.sl0 | (apply Rf.fact; (focus (simp; done)); exact rfl) | apply Rf.tup | apply RL.cons)); (focus (intro _ _; simp [go_sem]; done)); (iterate 2 exact rfl))
     | (apply P_bin; (iterate 2 exact rfl); exact h4; (iterate 2 exact rfl))
     | (apply P_call (h3); exact rfl; (focus (repeat first | exact RefineL.refl _ _ | exact RL.nil | exact Rf.same | exact Rf.bs0 | exact Rf.sl0 | (apply Rf.fact; (focus (simp; done)); exact rfl) | apply Rf.tup | apply RL.cons)); (focus (intro _ _; simp [go_sem]; done)); (iterate 2 exact rfl))
     | (apply P_call (h5); exact rfl; (focus (repeat first | exact RefineL.refl _ _ | exact RL.nil | exact Rf.same | exact Rf.bs0 | exact Rf.sl0 | (apply Rf.fact; (focus (simp; done)); exact rfl) | apply Rf.tup | apply RL.cons)); (focus (intro _ _; simp [go_sem]; done)); (iterate 2 exact rfl))
     | (apply P_assign; (iterate 3 exact rfl)) | (apply P_load; exact rfl; (first | exact I0 | exact I1 | exact I2 | exact I3 | exact I4 | exact I5 | exact I6); (iterate 4 exact rfl))
     | (apply P_cmp (b := true); (iterate 2 exact rfl); (focus (first | (simp [cmpI]; done) | (simp [cmpI]; omega))); (iterate 2 exact rfl))
     | (apply P_cmp (b := false); (iterate 2 exact rfl); (focus (first | (simp [cmpI]; done) | (simp [cmpI]; omega))); (iterate 2 exact rfl)) | (apply P_alloc; exact rfl; exact rfl; exact rfl; intro _)
     | (apply P_store; exact rfl; (focus (repeat first | exact .z | apply SetAt.s | apply SetAtF.s)); (iterate 4 exact rfl)) | apply EL.nil | ((with_reducible apply EK.then_normal); apply EK.code)
     | (apply EC.cond_true; exact rfl) | (apply EC.cond_false; exact rfl)
     | (with_reducible first | apply EC.seq | apply EC.region | apply EC.skip | apply EC.label | apply EC.block | apply EC.exit | apply EC.ret | apply EK.in_normal | apply EK.in_same | apply EK.in_ret | apply EK.then_ret | apply EK.then_exit))
  exact EK.retM1s [rsO g L k n, raO L l] rfl rfl (by (repeat first | exact List.nil_sublist _ | apply List.Sublist.cons_cons | apply List.Sublist.cons)) ⟨rfl, rfl⟩
set_option maxRecDepth 20000 in
set_option maxHeartbeats 8000000 in
theorem rmove_do {g : Nat} {L k : Value} {n : Int} (l l1 l2 : List (List UInt8 × List UInt8)) (a a2 w : List UInt8) (hne : (a == a2) = false) (hll : l.length < 1099511627776) (hx : (getR l a).length = 32) (hy : (getR l a2).length = 32) (hw : w.length = 32) (hlt : ¬ val (getR l a) < val w) (hov : ¬ val (wordOf (val (getR l a2) + val w)) < val (getR l a2))
    (h7 : FnM 10 [.v (ptr g), .arr 20 a, .arr 32 (wordOf (val (getR l a) + 256 ^ 32 - val w))] [rsO g L k n, raO L l] (fun r os' => r = .tpl [] ∧ os' = [rsO g L k n, raO L l1]))
    (h8 : FnM 10 [.v (ptr g), .arr 20 a2, .arr 32 (wordOf (val (getR l a2) + val w))] [rsO g L k n, raO L l1] (fun r os' => r = .tpl [] ∧ os' = [rsO g L k n, raO L l2])) : FnM 12 [.v (ptr g), .arr 20 a, .arr 20 a2, .arr 32 w] [rsO g L k n, raO L l] (fun r os' => r = .val (.v (.bool true)) ∧ os' = [rsO g L k n, raO L l2]) := by
  have h1 := rget (g := g) (L := L) (k := k) (n := n) l a hll
  have h1b := rget (g := g) (L := L) (k := k) (n := n) l a2 hll
  have h2 := f_rCmp (getR l a) w hx hw
  have hz := cmpN_ge hlt
  generalize cmpN (val (getR l a)) (val w) = z at h2 hz
  have h4 := (bin_addr a a2).1
  rw [hne] at h4
  have h3 := f_rAdd (getR l a2) w hy hw
  have h5 := f_rCmp (wordOf (val (getR l a2) + val w)) (getR l a2) (wordOf_length _) hy
  have hz2 := cmpN_ge hov
  generalize cmpN (val (wordOf (val (getR l a2) + val w))) (val (getR l a2)) = z2 at h5 hz2
  have h6 := f_rSub (getR l a) w hx hw
  generalize wordOf (val (getR l a) + 256 ^ 32 - val w) = df at h6 h7
  generalize wordOf (val (getR l a2) + val w) = s at h3 h5 h8
  refine FnM.walk 44 Try.func12 rfl Try.ntmps12 (by simp) fun X => ?_
  repeat
    (first
     | (apply P_move; (iterate 3 exact rfl)) | (apply P_assign; (iterate 3 exact rfl))
     | (apply P_load; exact rfl; (first | exact I0 | exact I1 | exact I2 | exact I3 | exact I4 | exact I5 | exact I6); (iterate 4 exact rfl)) | (apply P_box; exact rfl; exact rfl; exact rfl; intro _)
     | apply EL.nil | ((with_reducible apply EK.then_normal); apply EK.code)
     | (with_reducible first | apply EC.seq | apply EC.region | apply EC.skip | apply EC.label | apply EC.block | apply EC.exit | apply EC.ret | apply EK.in_normal | apply EK.in_same | apply EK.in_ret | apply EK.then_ret | apply EK.then_exit))
  repeat
    (first
     | (apply P_callV h1 [3, 4, 0, 1, 2] [_, _, _] rfl (by decide) rfl rfl (RefineL.refl _ _) (by intro _ _; simp [go_sem]) rfl rfl) | (apply P_fieldv; (iterate 8 exact rfl))
     | (apply P_move; (iterate 3 exact rfl)) | (apply P_load; exact rfl; (first | exact I0 | exact I1 | exact I2 | exact I3 | exact I4 | exact I5 | exact I6); (iterate 4 exact rfl))
     | (apply P_alloc; exact rfl; exact rfl; exact rfl; intro _) | (apply P_store; exact rfl; (focus (repeat first | exact .z | apply SetAt.s | apply SetAtF.s)); (iterate 4 exact rfl)) | apply EL.nil
     | ((with_reducible apply EK.then_normal); apply EK.code)
     | (with_reducible first | apply EC.seq | apply EC.region | apply EC.skip | apply EC.label | apply EC.block | apply EC.exit | apply EC.ret | apply EK.in_normal | apply EK.in_same | apply EK.in_ret | apply EK.then_ret | apply EK.then_exit))
  repeat
    (first
     | (apply P_callV h1b [4, 5, 0, 1, 2, 3] [_, _, _, _] rfl (by decide) rfl rfl (RefineL.refl _ _) (by intro _ _; simp [go_sem]) rfl rfl) | (apply P_fieldv; (iterate 8 exact rfl))
     | (apply P_call (h2); exact rfl; (focus (repeat first | exact RefineL.refl _ _ | exact RL.nil | exact Rf.same | exact Rf.bs0 | exact Rf.sl0 | (apply Rf.fact; (focus (simp; done)); exact rfl) | apply Rf.tup | apply RL.cons)); (focus (intro _ _; simp [go_sem]; done)); (iterate 2 exact rfl))
     | (apply P_bin; (iterate 2 exact rfl); exact h4; (iterate 2 exact rfl))
     | (apply P_call (h3); exact rfl; (focus (repeat first | exact RefineL.refl _ _ | exact RL.nil | exact Rf.same | exact Rf.bs0 | exact Rf.sl0 | (apply Rf.fact; (focus (simp; done)); exact rfl) | apply Rf.tup | apply RL.cons)); (focus (intro _ _; simp [go_sem]; done)); (iterate 2 exact rfl))
     | (apply P_call (h5); exact rfl; (focus (repeat first | exact RefineL.refl _ _ | exact RL.nil | exact Rf.same | exact Rf.bs0 | exact Rf.sl0 | (apply Rf.fact; (focus (simp; done)); exact rfl) | apply Rf.tup | apply RL.cons)); (focus (intro _ _; simp [go_sem]; done)); (iterate 2 exact rfl))
     | (apply P_load; exact rfl; (first | exact I0 | exact I1 | exact I2 | exact I3 | exact I4 | exact I5 | exact I6); (iterate 4 exact rfl))
     | (apply P_cmp (b := false); (iterate 2 exact rfl); (focus (first | (simp [cmpI]; done) | (simp [cmpI]; omega))); (iterate 2 exact rfl)) | (apply P_alloc; exact rfl; exact rfl; exact rfl; intro _)
     | (apply P_store; exact rfl; (focus (repeat first | exact .z | apply SetAt.s | apply SetAtF.s)); (iterate 4 exact rfl)) | apply EL.nil | ((with_reducible apply EK.then_normal); apply EK.code)
     | (apply EC.cond_false; exact rfl)
     | (with_reducible first | apply EC.seq | apply EC.region | apply EC.skip | apply EC.label | apply EC.block | apply EC.exit | apply EC.ret | apply EK.in_normal | apply EK.in_same | apply EK.in_ret | apply EK.then_ret | apply EK.then_exit))
  refine EC.le (Le.pick [6, 7, 0, 1, 2, 3, 4, 5] [_, _, _, _, _, _, _, _] rfl (by decide) rfl) ?_
  refine EC.drawC 6 [0, 1, 2, 3, 4] [5] [_, _] _ (by kernel_rfl) (by kernel_rfl) rfl ?_
  simp only [pickL, List.filterMap_cons, List.filterMap_nil, List.getElem?_cons_zero, List.getElem?_cons_succ]
  repeat
    (first
     | (apply H_call (h6); exact rfl; (focus (repeat first | exact RefineL.refl _ _ | exact RL.nil | exact Rf.same | exact Rf.bs0 | exact Rf.sl0 | (apply Rf.fact; (focus (simp; done)); exact rfl) | apply Rf.tup | apply RL.cons)); (focus (intro _ _; simp [go_sem]; done)); (iterate 2 exact rfl))
     | (apply H_move; (iterate 3 exact rfl)) | (apply H_load; exact rfl; (first | exact I0 | exact I1 | exact I2 | exact I3 | exact I4 | exact I5 | exact I6); (iterate 4 exact rfl)))
  refine EM.nil ?_
  repeat (first | rw [List.cons_append] | rw [List.nil_append])
  refine CH.callM (rest := []) h7 rfl rfl (RefineL.refl _ _) (by intro _ _; simp [go_sem]) rfl rfl ?_
  rintro _ _ ⟨rfl, rfl⟩
  try simp only [St.put]
  repeat (first | rw [List.cons_append] | rw [List.nil_append])
  refine CH.nil ?_
  try simp only [List.drop_succ_cons, List.drop_zero]
  repeat
    (first
     | ((apply P_callMD (h8); (iterate 2 exact rfl); (focus (repeat first | exact RefineL.refl _ _ | exact RL.nil | exact Rf.same | exact Rf.bs0 | exact Rf.sl0 | (apply Rf.fact; (focus (simp; done)); exact rfl) | apply Rf.tup | apply RL.cons)); (focus (intro _ _; simp [go_sem]; done)); (iterate 2 exact rfl)))
     | (apply P_move; (iterate 3 exact rfl)) | (apply P_assign; (iterate 3 exact rfl))
     | (apply P_load; exact rfl; (first | exact I0 | exact I1 | exact I2 | exact I3 | exact I4 | exact I5 | exact I6); (iterate 4 exact rfl)) | apply EL.nil
     | ((with_reducible apply EK.then_normal); apply EK.code)
     | (with_reducible first | apply EC.seq | apply EC.region | apply EC.skip | apply EC.label | apply EC.block | apply EC.exit | apply EC.ret | apply EK.in_normal | apply EK.in_same | apply EK.in_ret | apply EK.then_ret | apply EK.then_exit))
  exact EK.retM1s [rsO g L k n, raO L l2] rfl rfl (by (repeat first | exact List.nil_sublist _ | apply List.Sublist.cons_cons | apply List.Sublist.cons)) ⟨rfl, rfl⟩
end E
end Go.Proofs.Ytdhicdnmgmkpkaa
/-
  The reference's state of two accounts: SetBalance and Move.
  Conditions: none.
-/
namespace Go.Proofs.Ytdhicdnmgmkpkaa
set_option linter.unusedVariables false
open Go.RowKit Mono Rlp Wd
namespace E
def two (a b x y : List UInt8) : List (List UInt8 × List UInt8) := if Op.bytesLess a b = true then [(a, x), (b, y)] else [(b, y), (a, x)]
section
variable {a b : List UInt8} (hab : a ≠ b) (hl : a.length = b.length) (x y : List UInt8)
include hab hl
theorem two_cases : (two a b x y = [(a, x), (b, y)] ∧ Op.bytesLess a b = true) ∨ (two a b x y = [(b, y), (a, x)] ∧ Op.bytesLess a b = false ∧ Op.bytesLess b a = true) := by
  unfold two
  cases h : Op.bytesLess a b with
  | true => exact .inl ⟨if_pos rfl, rfl⟩
  | false => exact .inr ⟨if_neg (by simp), rfl, bl_total a b hl hab h⟩
theorem two_length : (two a b x y).length = 2 := by
  rcases two_cases hab hl x y with ⟨h, _⟩ | ⟨h, _⟩ <;> rw [h] <;> rfl
theorem getR_two1 : getR (two a b x y) a = x := by
  have h1 : (b == a) = false := by simpa using fun e => hab e.symm
  rcases two_cases hab hl x y with ⟨h, _⟩ | ⟨h, _⟩ <;> rw [h]
  · exact getR_at (i := 0) (fun j _ hj => by omega) (by simp) (by simp)
  · exact getR_at (i := 1) (fun j hj h0 => by obtain rfl : j = 0 := (by omega); simpa using h1) (by simp) (by simp)
theorem getR_two2 : getR (two a b x y) b = y := by
  have h1 : (a == b) = false := by simpa using hab
  rcases two_cases hab hl x y with ⟨h, _⟩ | ⟨h, _⟩ <;> rw [h]
  · exact getR_at (i := 1) (fun j hj h0 => by obtain rfl : j = 0 := (by omega); simpa using h1) (by simp) (by simp)
  · exact getR_at (i := 0) (fun j _ hj => by omega) (by simp) (by simp)
theorem rset_new {g : Nat} {L k : Value} {n : Int} : FnM 10 [.v (ptr g), .arr 20 b, .arr 32 y] [rsO g L k n, raO L [(a, x)]] (fun r os' => r = .tpl [] ∧ ∃ L', os' = [rsO g L' k n, raO L' (two a b x y)]) := by
  rcases two_cases hab hl x y with ⟨h, h1⟩ | ⟨h, h1, h2⟩ <;> rw [h]
  · exact rsetBalance_out [(a, x)] b y (by simp) 1 (by simp) (fun j hj h0 => by obtain rfl : j = 0 := (by omega); exact h1) (fun hj => absurd hj (by simp))
  · exact rsetBalance_out [(a, x)] b y (by simp) 0 (by simp) (fun j hj h0 => by omega) (fun hj => ⟨h1, by simpa using hab⟩)
theorem rset_two1 {g : Nat} {L k : Value} {n : Int} (x' : List UInt8) : FnM 10 [.v (ptr g), .arr 20 a, .arr 32 x'] [rsO g L k n, raO L (two a b x y)] (fun r os' => r = .tpl [] ∧ os' = [rsO g L k n, raO L (two a b x' y)]) := by
  rcases two_cases hab hl x y with ⟨h, h1⟩ | ⟨h, h1, h2⟩ <;> rcases two_cases hab hl x' y with ⟨h', h1'⟩ | ⟨h', h1', h2'⟩ <;> rw [h, h']
  · exact rsetBalance_in [(a, x), (b, y)] a x' (by simp) 0 (by simp) (fun j hj h0 => by omega) rfl
  · rw [h1] at h1'; cases h1'
  · rw [h1] at h1'; cases h1'
  · exact rsetBalance_in [(b, y), (a, x)] a x' (by simp) 1 (by simp) (fun j hj h0 => by obtain rfl : j = 0 := (by omega); exact h2) rfl
theorem rset_two2 {g : Nat} {L k : Value} {n : Int} (y' : List UInt8) : FnM 10 [.v (ptr g), .arr 20 b, .arr 32 y'] [rsO g L k n, raO L (two a b x y)] (fun r os' => r = .tpl [] ∧ os' = [rsO g L k n, raO L (two a b x y')]) := by
  rcases two_cases hab hl x y with ⟨h, h1⟩ | ⟨h, h1, h2⟩ <;> rcases two_cases hab hl x y' with ⟨h', h1'⟩ | ⟨h', h1', h2'⟩ <;> rw [h, h']
  · exact rsetBalance_in [(a, x), (b, y)] b y' (by simp) 1 (by simp) (fun j hj h0 => by obtain rfl : j = 0 := (by omega); exact h1) rfl
  · rw [h1] at h1'; cases h1'
  · rw [h1] at h1'; cases h1'
  · exact rsetBalance_in [(b, y), (a, x)] b y' (by simp) 0 (by simp) (fun j hj h0 => by omega) rfl
theorem rtwo_lt {g : Nat} {L k : Value} {n : Int} {w : List UInt8} (hx : x.length = 32) (hw : w.length = 32) (hlt : val x < val w) : FnM 12 [.v (ptr g), .arr 20 a, .arr 20 b, .arr 32 w] [rsO g L k n, raO L (two a b x y)] (fun r os' => r = .val (.v (.bool false)) ∧ os' = [rsO g L k n, raO L (two a b x y)]) :=
  rmove_lt _ a b w (by rw [two_length hab hl]; omega) (by rw [getR_two1 hab hl]; exact hx) hw (by rw [getR_two1 hab hl]; exact hlt)
theorem rtwo_over {g : Nat} {L k : Value} {n : Int} {w : List UInt8} (hx : x.length = 32) (hy : y.length = 32) (hw : w.length = 32) (hlt : ¬ val x < val w) (hov : val (wordOf (val y + val w)) < val y) : FnM 12 [.v (ptr g), .arr 20 a, .arr 20 b, .arr 32 w] [rsO g L k n, raO L (two a b x y)] (fun r os' => r = .val (.v (.bool false)) ∧ os' = [rsO g L k n, raO L (two a b x y)]) :=
  rmove_over _ a b w (by simpa using hab) (by rw [two_length hab hl]; omega) (by rw [getR_two1 hab hl]; exact hx) (by rw [getR_two2 hab hl]; exact hy) hw (by rw [getR_two1 hab hl]; exact hlt) (by rw [getR_two2 hab hl]; exact hov)
theorem rtwo_do {g : Nat} {L k : Value} {n : Int} {w : List UInt8} (hx : x.length = 32) (hy : y.length = 32) (hw : w.length = 32) (hlt : ¬ val x < val w) (hov : ¬ val (wordOf (val y + val w)) < val y) : FnM 12 [.v (ptr g), .arr 20 a, .arr 20 b, .arr 32 w] [rsO g L k n, raO L (two a b x y)] (fun r os' => r = .val (.v (.bool true)) ∧ os' = [rsO g L k n, raO L (two a b (wordOf (val x + 256 ^ 32 - val w)) (wordOf (val y + val w)))]) := by
  have h1 := getR_two1 hab hl x y
  have h2 := getR_two2 hab hl x y
  have h := rmove_do (g := g) (L := L) (k := k) (n := n) (two a b x y) (two a b (wordOf (val x + 256 ^ 32 - val w)) y) (two a b (wordOf (val x + 256 ^ 32 - val w)) (wordOf (val y + val w))) a b w (by simpa using hab) (by rw [two_length hab hl]; omega)
  rw [h1, h2] at h
  exact h hx hy hw hlt hov (rset_two1 hab hl x y _) (rset_two2 hab hl _ y _)
end
theorem over_iff (B u v : Nat) (hu : u < B) (hv : v < B) : (u + v) % B < v ↔ (u + v) % B < u := by
  by_cases h : u + v < B
  · rw [Nat.mod_eq_of_lt h]
    omega
  · rw [Nat.mod_eq_sub_mod (by omega), Nat.mod_eq_of_lt (by omega)]
    omega
theorem over_word (y w : List UInt8) (hy : y.length = 32) (hw : w.length = 32) : val (wordOf (val y + val w)) < val w ↔ val (wordOf (val y + val w)) < val y := by
  rw [val_wordOf]
  exact over_iff _ _ _ (by have := val_lt y; rw [hy] at this; exact this) (by have := val_lt w; rw [hw] at this; exact this)
end E
end Go.Proofs.Ytdhicdnmgmkpkaa
/-
  StateMoves' own function: a Move from an account to itself.
  Conditions: none.
-/
namespace Go.Proofs.Ytdhicdnmgmkpkaa
set_option linter.unusedVariables false
open Go.RowKit Mono Rlp Wd
namespace E
section
variable {N : Nat} {X : Cx N} {ops : Array Oper} {Q : Exit → Act → World → Prop}
theorem P_callX {l' : List Oper} {t ty f : Nat} {pos : String} {af : Array Edge} {gd : Option (Nat × Bool)} {args : Array Operand} {tys : Array TypeId} {ds ds' : List D} {Φ : R → List Obj → Prop} {rs : List (Tmp × R)} {os os0 : List Obj} {fs : List (Value × D)} (hF : FnM f ds' os Φ) (ix : List Nat) (rest : List Obj) (hn : os0.length = ix.length) (hp : ix.Perm (List.range ix.length)) (hq : (ix.filterMap fun i => os0[i]?) = os ++ rest)
    (hx : evs (⟨rs, rest, fs⟩ : St) args.toList = some ds) (hR : RefineL fs ds ds') (hf : Enters f) (hg : guardOf ops ⟨rs, os ++ rest, fs⟩ ⟨some t, .call { callee := .value (.func f), args := args, argTypes := tys }, ty, pos, af, gd⟩ = some true) (hN : Nat.blt t N = true) (k : ∀ r os', Φ r os' → EL X ops Q l' ⟨(t, r) :: rs, os' ++ rest, fs⟩) : EL X ops Q (⟨some t, .call { callee := .value (.func f), args := args, argTypes := tys }, ty, pos, af, gd⟩ :: l') ⟨rs, os0, fs⟩ := by
  have hpp : os0.Perm (os ++ rest) := hq ▸ pick_perm ix hn hp
  exact EL.le (Le.perm hpp) (P_callM hF rfl hx hR hf hg hN k)
end
set_option maxRecDepth 20000 in
set_option maxHeartbeats 16000000 in
theorem law_same (a x y w : List UInt8) (hx : x.length = 32) (hy : y.length = 32) (hw : w.length = 32) : FnM 3 [.arr 20 a, .arr 20 a, .arr 32 x, .arr 32 y, .arr 32 w] [] (fun r os' => r = .val (.v (.bool true)) ∧ os' = []) := by
  have h1 := alive_
  have h2 := new_nil
  have h3 := rnew_nil
  refine FnM.walk 74 Try.func3 rfl Try.ntmps3 (by simp) fun X => ?_
  repeat
    (first
     | ((apply P_callMD (h1); (iterate 2 exact rfl); (focus (repeat first | exact RefineL.refl _ _ | exact RL.nil | exact Rf.same | exact Rf.bs0 | exact Rf.sl0 | (apply Rf.fact; (focus (simp; done)); exact rfl) | apply Rf.tup | apply RL.cons)); (focus (intro _ _; simp [go_sem]; done)); (iterate 2 exact rfl)))
     | (apply P_assign; (iterate 3 exact rfl)) | (apply P_box; exact rfl; exact rfl; exact rfl; intro _) | apply EL.nil | ((with_reducible apply EK.then_normal); apply EK.code)
     | (with_reducible first | apply EC.seq | apply EC.region | apply EC.skip | apply EC.label | apply EC.block | apply EC.exit | apply EC.ret | apply EK.in_normal | apply EK.in_same | apply EK.in_ret | apply EK.then_ret | apply EK.then_exit))
  repeat
    (first
     | (apply P_callM (os := []) h2; (iterate 2 exact rfl); exact RefineL.refl _ _; (focus (intro _ _; simp [go_sem]; done)); (iterate 2 exact rfl); rintro _ _ ⟨g, m, rfl, rfl⟩)
     | (apply P_assign; (iterate 3 exact rfl)) | apply EL.nil | ((with_reducible apply EK.then_normal); apply EK.code)
     | (with_reducible first | apply EC.seq | apply EC.region | apply EC.skip | apply EC.label | apply EC.block | apply EC.exit | apply EC.ret | apply EK.in_normal | apply EK.in_same | apply EK.in_ret | apply EK.then_ret | apply EK.then_exit))
  repeat
    (first
     | (apply P_callM (os := []) h3; (iterate 2 exact rfl); exact RefineL.refl _ _; (focus (intro _ _; simp [go_sem]; done)); (iterate 2 exact rfl); rintro _ _ ⟨g', rfl, rfl⟩)
     | (apply P_move; (iterate 3 exact rfl)) | (apply P_assign; (iterate 3 exact rfl)) | apply EL.nil | ((with_reducible apply EK.then_normal); apply EK.code)
     | (with_reducible first | apply EC.seq | apply EC.region | apply EC.skip | apply EC.label | apply EC.block | apply EC.exit | apply EC.ret | apply EK.in_normal | apply EK.in_same | apply EK.in_ret | apply EK.then_ret | apply EK.then_exit))
  refine EL.le (Le.pick [6, 7, 8, 9, 10, 0, 1, 2, 3, 4, 5] [_, _, _, _, _, _, _, _, _, _, _] rfl (by decide) rfl) ?_
  repeat
    (first
     | (apply P_callX (setBalance_out (g := g) (m := m) (c := 0) (u := nilS) (k := nilS) (n := 0) (es := []) (a := a) (us := []) (ks := []) (w' := x) rfl (by decide)) [7, 8, 9, 10, 0, 1, 2, 3, 4, 5, 6] [_, _, _, _, _, _, _] rfl (by decide) rfl rfl (RefineL.refl _ _) (by intro _ _; simp [go_sem]) rfl rfl; rintro _ _ ⟨rfl, u1, ga, gs, rfl⟩)
     | (apply P_move; (iterate 3 exact rfl)) | (apply P_load; exact rfl; (first | exact I0 | exact I1 | exact I2 | exact I3 | exact I4 | exact I5 | exact I6); (iterate 4 exact rfl)) | apply EL.nil
     | ((with_reducible apply EK.then_normal); apply EK.code)
     | (with_reducible first | apply EC.seq | apply EC.region | apply EC.skip | apply EC.label | apply EC.block | apply EC.exit | apply EC.ret | apply EK.in_normal | apply EK.in_same | apply EK.in_ret | apply EK.then_ret | apply EK.then_exit))
  refine EL.le (Le.pick [6, 7, 8, 9, 10, 11, 12, 0, 1, 2, 3, 4, 5] [_, _, _, _, _, _, _, _, _, _, _, _, _] rfl (by decide) rfl) ?_
  repeat
    (first
     | (apply P_callX (rsetBalance_out (g := g') (L := nilS) (k := nilS) (n := 0) [] a x (by decide) 0 (by decide) (fun j hj => absurd hj (by simp)) (fun hj => absurd hj (by simp))) [5, 6, 0, 1, 2, 3, 4, 7, 8, 9, 10, 11, 12] [_, _, _, _, _, _, _, _, _, _, _] rfl (by decide) rfl rfl (RefineL.refl _ _) (by intro _ _; simp [go_sem]) rfl rfl; rintro _ _ ⟨rfl, L1, rfl⟩)
     | (apply P_load; exact rfl; (first | exact I0 | exact I1 | exact I2 | exact I3 | exact I4 | exact I5 | exact I6); (iterate 4 exact rfl)) | apply EL.nil
     | ((with_reducible apply EK.then_normal); apply EK.code)
     | (with_reducible first | apply EC.seq | apply EC.region | apply EC.skip | apply EC.label | apply EC.block | apply EC.exit | apply EC.ret | apply EK.in_normal | apply EK.in_same | apply EK.in_ret | apply EK.then_ret | apply EK.then_exit))
  have hin : getE (putE 0 [] a (.v (ptr ga))) a = some (.v (ptr ga)) := by rw [getE_putE, if_pos rfl]
  have hgr : getR [(a, x)] a = x := by simp [getR]
  have hne := (bin_addr a a).2
  rw [show (a != a) = false by simp] at hne
  have hww := (bin_word x x).1
  rw [show (x == x) = true by simp] at hww
  have h5 := balance_in (g := g) (m := m) (c := tickE 0 [] a) (u := u1) (k := nilS) (n := 0) (b := 0) (w := x) (cd := []) (sv := .map (some gs)) hin
  have h6 := rget (g := g') (L := L1) (k := nilS) (n := 0) [(a, x)] a (by simp)
  rw [hgr] at h6
  by_cases hlt : val x < val w
  · have h7 := move_lt (g := g) (m := m) (c := tickE 0 [] a) (u := u1) (k := nilS) (n := 0) (b := 0) (x := x) (a2 := a) (cd := []) (sv := .map (some gs)) hin hx hw hlt
    have h8 := rmove_lt (g := g') (L := L1) (k := nilS) (n := 0) [(a, x)] a a w (by simp) (by rw [hgr]; exact hx) hw (by rw [hgr]; exact hlt)
    repeat
      (first
       | (apply P_callV (h7) [7, 8, 11, 0, 1, 2, 3, 4, 5, 6, 9, 10, 12] [_, _, _, _, _, _, _, _, _, _] rfl (by decide) rfl rfl (RefineL.refl _ _) (by intro _ _; simp [go_sem]) rfl rfl)
       | (apply P_bin; (iterate 2 exact rfl); exact hne; (iterate 2 exact rfl)) | (apply P_move; (iterate 3 exact rfl)) | (apply P_assign; (iterate 3 exact rfl))
       | (apply P_load; exact rfl; (first | exact I0 | exact I1 | exact I2 | exact I3 | exact I4 | exact I5 | exact I6); (iterate 4 exact rfl)) | apply EL.nil
       | ((with_reducible apply EK.then_normal); apply EK.code) | (apply EC.cond_false; exact rfl)
       | (with_reducible first | apply EC.seq | apply EC.region | apply EC.skip | apply EC.label | apply EC.block | apply EC.exit | apply EC.ret | apply EK.in_normal | apply EK.in_same | apply EK.in_ret | apply EK.then_ret | apply EK.then_exit))
    repeat
      (first
       | (apply P_callV (h8) [0, 1, 2, 3, 4, 5, 6, 7, 8, 9, 10, 11, 12] [_, _, _, _, _, _, _, _, _, _, _] rfl (by decide) rfl rfl (RefineL.refl _ _) (by intro _ _; simp [go_sem]) rfl rfl)
       | (apply P_assign; (iterate 3 exact rfl)) | apply EL.nil | ((with_reducible apply EK.then_normal); apply EK.code)
       | (with_reducible first | apply EC.seq | apply EC.region | apply EC.skip | apply EC.label | apply EC.block | apply EC.exit | apply EC.ret | apply EK.in_normal | apply EK.in_same | apply EK.in_ret | apply EK.then_ret | apply EK.then_exit))
    refine EC.drawV 26 (by kernel_rfl) ?_
    simp only [List.take_succ_cons, List.take_zero, List.drop_succ_cons, List.drop_zero]
    refine EV.cut 9 ?_
    simp only [List.take_succ_cons, List.take_zero, List.drop_succ_cons, List.drop_zero]
    repeat
      (first
       | (apply H_bin; (iterate 2 exact rfl); exact (bin_bool false false).1; (iterate 2 exact rfl)) | (apply H_move; (iterate 3 exact rfl)) | (apply H_pick; (iterate 4 exact rfl))
       | (apply H_load; exact rfl; (first | exact I0 | exact I1 | exact I2 | exact I3 | exact I4 | exact I5 | exact I6); (iterate 4 exact rfl)))
    refine EM.nil ?_
    refine EV.callV (h5) [7, 8, 11, 0, 1, 2, 3, 4, 5, 6, 9, 10, 12] [_, _, _, _, _, _, _, _, _, _] rfl (by decide) rfl rfl (RefineL.refl _ _) (by intro _ _; simp [go_sem]) rfl rfl ?_
    refine EV.cut 2 ?_
    simp only [List.take_succ_cons, List.take_zero, List.drop_succ_cons, List.drop_zero]
    repeat
      (first
       | (apply H_move; (iterate 3 exact rfl)) | (apply H_load; exact rfl; (first | exact I0 | exact I1 | exact I2 | exact I3 | exact I4 | exact I5 | exact I6); (iterate 4 exact rfl)))
    refine EM.nil ?_
    refine EV.callV (h6) [0, 1, 2, 3, 4, 5, 6, 7, 8, 9, 10, 11, 12] [_, _, _, _, _, _, _, _, _, _, _] rfl (by decide) rfl rfl (RefineL.refl _ _) (by intro _ _; simp [go_sem]) rfl rfl ?_
    refine EV.cut 6 ?_
    simp only [List.take_succ_cons, List.take_zero, List.drop_succ_cons, List.drop_zero]
    repeat
      (first
       | (apply H_bin; (iterate 2 exact rfl); exact hww; (iterate 2 exact rfl)) | (apply H_fieldv; (iterate 8 exact rfl)) | (apply H_move; (iterate 3 exact rfl)) | (apply H_pick; (iterate 4 exact rfl))
       | (apply H_load; exact rfl; (first | exact I0 | exact I1 | exact I2 | exact I3 | exact I4 | exact I5 | exact I6); (iterate 4 exact rfl)))
    refine EM.nil ?_
    refine EV.callV (h5) [7, 8, 11, 0, 1, 2, 3, 4, 5, 6, 9, 10, 12] [_, _, _, _, _, _, _, _, _, _] rfl (by decide) rfl rfl (RefineL.refl _ _) (by intro _ _; simp [go_sem]) rfl rfl ?_
    refine EV.cut 2 ?_
    simp only [List.take_succ_cons, List.take_zero, List.drop_succ_cons, List.drop_zero]
    repeat
      (first
       | (apply H_move; (iterate 3 exact rfl)) | (apply H_load; exact rfl; (first | exact I0 | exact I1 | exact I2 | exact I3 | exact I4 | exact I5 | exact I6); (iterate 4 exact rfl)))
    refine EM.nil ?_
    refine EV.callV (h6) [0, 1, 2, 3, 4, 5, 6, 7, 8, 9, 10, 11, 12] [_, _, _, _, _, _, _, _, _, _, _] rfl (by decide) rfl rfl (RefineL.refl _ _) (by intro _ _; simp [go_sem]) rfl rfl ?_
    refine EV.cut 3 ?_
    simp only [List.take_succ_cons, List.take_zero, List.drop_succ_cons, List.drop_zero]
    repeat
      (first
       | (apply H_bin; (iterate 2 exact rfl); exact hww; (iterate 2 exact rfl)) | (apply H_fieldv; (iterate 8 exact rfl)) | (apply H_pick; (iterate 4 exact rfl)))
    refine EM.nil ?_
    refine EV.nil0 ?_
    repeat
      (first
       | (apply P_assign; (iterate 3 exact rfl)) | apply EL.nil | ((with_reducible apply EK.then_normal); apply EK.code)
       | (with_reducible first | apply EC.seq | apply EC.region | apply EC.skip | apply EC.label | apply EC.block | apply EC.exit | apply EC.ret | apply EK.in_normal | apply EK.in_same | apply EK.in_ret | apply EK.then_ret | apply EK.then_exit))
    exact EK.retM1s [] rfl rfl (List.nil_sublist _) ⟨rfl, rfl⟩
  · have h7 := move_same (g := g) (m := m) (c := tickE 0 [] a) (u := u1) (k := nilS) (n := 0) (b := 0) (x := x) (cd := []) (sv := .map (some gs)) hin hx hw hlt
    have h8 := rmove_same (g := g') (L := L1) (k := nilS) (n := 0) [(a, x)] a w (by simp) (by rw [hgr]; exact hx) hw (by rw [hgr]; exact hlt)
    repeat
      (first
       | (apply P_callV (h7) [7, 8, 11, 0, 1, 2, 3, 4, 5, 6, 9, 10, 12] [_, _, _, _, _, _, _, _, _, _] rfl (by decide) rfl rfl (RefineL.refl _ _) (by intro _ _; simp [go_sem]) rfl rfl)
       | (apply P_bin; (iterate 2 exact rfl); exact hne; (iterate 2 exact rfl)) | (apply P_move; (iterate 3 exact rfl)) | (apply P_assign; (iterate 3 exact rfl))
       | (apply P_load; exact rfl; (first | exact I0 | exact I1 | exact I2 | exact I3 | exact I4 | exact I5 | exact I6); (iterate 4 exact rfl)) | apply EL.nil
       | ((with_reducible apply EK.then_normal); apply EK.code) | (apply EC.cond_false; exact rfl)
       | (with_reducible first | apply EC.seq | apply EC.region | apply EC.skip | apply EC.label | apply EC.block | apply EC.exit | apply EC.ret | apply EK.in_normal | apply EK.in_same | apply EK.in_ret | apply EK.then_ret | apply EK.then_exit))
    repeat
      (first
       | (apply P_callV (h8) [0, 1, 2, 3, 4, 5, 6, 7, 8, 9, 10, 11, 12] [_, _, _, _, _, _, _, _, _, _, _] rfl (by decide) rfl rfl (RefineL.refl _ _) (by intro _ _; simp [go_sem]) rfl rfl)
       | (apply P_assign; (iterate 3 exact rfl)) | apply EL.nil | ((with_reducible apply EK.then_normal); apply EK.code)
       | (with_reducible first | apply EC.seq | apply EC.region | apply EC.skip | apply EC.label | apply EC.block | apply EC.exit | apply EC.ret | apply EK.in_normal | apply EK.in_same | apply EK.in_ret | apply EK.then_ret | apply EK.then_exit))
    refine EC.drawV 26 (by kernel_rfl) ?_
    simp only [List.take_succ_cons, List.take_zero, List.drop_succ_cons, List.drop_zero]
    refine EV.cut 9 ?_
    simp only [List.take_succ_cons, List.take_zero, List.drop_succ_cons, List.drop_zero]
    repeat
      (first
       | (apply H_bin; (iterate 2 exact rfl); exact (bin_bool true true).1; (iterate 2 exact rfl)) | (apply H_move; (iterate 3 exact rfl)) | (apply H_pick; (iterate 4 exact rfl))
       | (apply H_load; exact rfl; (first | exact I0 | exact I1 | exact I2 | exact I3 | exact I4 | exact I5 | exact I6); (iterate 4 exact rfl)))
    refine EM.nil ?_
    refine EV.callV (h5) [7, 8, 11, 0, 1, 2, 3, 4, 5, 6, 9, 10, 12] [_, _, _, _, _, _, _, _, _, _] rfl (by decide) rfl rfl (RefineL.refl _ _) (by intro _ _; simp [go_sem]) rfl rfl ?_
    refine EV.cut 2 ?_
    simp only [List.take_succ_cons, List.take_zero, List.drop_succ_cons, List.drop_zero]
    repeat
      (first
       | (apply H_move; (iterate 3 exact rfl)) | (apply H_load; exact rfl; (first | exact I0 | exact I1 | exact I2 | exact I3 | exact I4 | exact I5 | exact I6); (iterate 4 exact rfl)))
    refine EM.nil ?_
    refine EV.callV (h6) [0, 1, 2, 3, 4, 5, 6, 7, 8, 9, 10, 11, 12] [_, _, _, _, _, _, _, _, _, _, _] rfl (by decide) rfl rfl (RefineL.refl _ _) (by intro _ _; simp [go_sem]) rfl rfl ?_
    refine EV.cut 6 ?_
    simp only [List.take_succ_cons, List.take_zero, List.drop_succ_cons, List.drop_zero]
    repeat
      (first
       | (apply H_bin; (iterate 2 exact rfl); exact hww; (iterate 2 exact rfl)) | (apply H_fieldv; (iterate 8 exact rfl)) | (apply H_move; (iterate 3 exact rfl)) | (apply H_pick; (iterate 4 exact rfl))
       | (apply H_load; exact rfl; (first | exact I0 | exact I1 | exact I2 | exact I3 | exact I4 | exact I5 | exact I6); (iterate 4 exact rfl)))
    refine EM.nil ?_
    refine EV.callV (h5) [7, 8, 11, 0, 1, 2, 3, 4, 5, 6, 9, 10, 12] [_, _, _, _, _, _, _, _, _, _] rfl (by decide) rfl rfl (RefineL.refl _ _) (by intro _ _; simp [go_sem]) rfl rfl ?_
    refine EV.cut 2 ?_
    simp only [List.take_succ_cons, List.take_zero, List.drop_succ_cons, List.drop_zero]
    repeat
      (first
       | (apply H_move; (iterate 3 exact rfl)) | (apply H_load; exact rfl; (first | exact I0 | exact I1 | exact I2 | exact I3 | exact I4 | exact I5 | exact I6); (iterate 4 exact rfl)))
    refine EM.nil ?_
    refine EV.callV (h6) [0, 1, 2, 3, 4, 5, 6, 7, 8, 9, 10, 11, 12] [_, _, _, _, _, _, _, _, _, _, _] rfl (by decide) rfl rfl (RefineL.refl _ _) (by intro _ _; simp [go_sem]) rfl rfl ?_
    refine EV.cut 3 ?_
    simp only [List.take_succ_cons, List.take_zero, List.drop_succ_cons, List.drop_zero]
    repeat
      (first
       | (apply H_bin; (iterate 2 exact rfl); exact hww; (iterate 2 exact rfl)) | (apply H_fieldv; (iterate 8 exact rfl)) | (apply H_pick; (iterate 4 exact rfl)))
    refine EM.nil ?_
    refine EV.nil0 ?_
    repeat
      (first
       | (apply P_assign; (iterate 3 exact rfl)) | apply EL.nil | ((with_reducible apply EK.then_normal); apply EK.code)
       | (with_reducible first | apply EC.seq | apply EC.region | apply EC.skip | apply EC.label | apply EC.block | apply EC.exit | apply EC.ret | apply EK.in_normal | apply EK.in_same | apply EK.in_ret | apply EK.then_ret | apply EK.then_exit))
    exact EK.retM1s [] rfl rfl (List.nil_sublist _) ⟨rfl, rfl⟩
end E
end Go.Proofs.Ytdhicdnmgmkpkaa
