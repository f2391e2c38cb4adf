/-
  Merged (wip/tools/merge.py): SD2, SD3, PathPl0, Ppk, SD4.
  Conditions: none.
-/
import Derived.Test.YtmlajcbabimkjaaZO24
import Derived.Test.YtmlajcbabimkjaaZO23
import Derived.Test.YtmlajcbabimkjaaZO12
import Derived.Test.YtmlajcbabimkjaaZO21
/-
  A builder with a Seen: put.
  Conditions: none.
-/
namespace Go.Proofs.Ytmlajcbabimkjaa
set_option linter.unusedVariables false
open Go.RowKit Mono Rlp
namespace E
abbrev oB (g gs : Nat) (ns : List Pr) (c : Bool) : Obj := .var g 119 (.tup [.sl 33 (ns.map dNd), .v (ptr gs), .v (.bool c)])
set_option maxRecDepth 20000 in
set_option maxHeartbeats 8000000 in
theorem b_putS (g gs : Nat) (ns : List Pr) (c : Bool) (v : Value) (S : List Pr) (x : List UInt8) (hs : Srt S) (hl : ns.length ≤ 1000000000) (hS : S.length ≤ 1000000000) (hx : x.length ≤ 1099511627776) :
    FnM 59 [.v (ptr g), .bs x] [oB g gs ns c, sdO gs v, sdR v S] (fun r os' => ∃ v', r = .val (.arr 32 (hash x)) ∧ os' = [oB g gs (putN (hash x, x) ns) (c || !okN (hash x, x) S), sdO gs v', sdR v' (putN (hash x, x) S)]) := by
  have hK := f_Keccak x hx
  have hP := f_PutNode ns (hash x, x) hl
  have hA := sd_add gs v S (hash x) x hs hS (by omega)
  have hnl := (bin_nil (T := 77) (by kernel_rfl) (some ⟨gs, 0, none⟩)).2
  refine FnM.walk 38 Try.func59 rfl Try.ntmps59 (by simp) fun X => ?_
  repeat
    (first
     | (apply P_call (hK); exact rfl; (focus (repeat first | exact RefineL.refl _ _ | exact RL.nil | exact Rf.same | exact Rf.bs0 | exact Rf.sl0 | (apply Rf.fact; (focus (simp; done)); exact rfl) | apply Rf.tup | apply RL.cons)); (focus (intro _ _; simp [go_sem]; done)); (iterate 2 exact rfl))
     | (apply P_move; (iterate 3 exact rfl)) | (apply P_alloc; exact rfl; exact rfl; exact rfl; intro _)
     | (apply P_store; exact rfl; (focus (repeat first | exact .z | apply SetAt.s | apply SetAtF.s)); (iterate 4 exact rfl)) | apply EL.nil | ((with_reducible apply EK.then_normal); apply EK.code)
     | (with_reducible first | apply EC.seq | apply EC.region | apply EC.skip | apply EC.label | apply EC.block | apply EC.exit | apply EC.ret | apply EK.in_normal | apply EK.in_same | apply EK.in_ret | apply EK.then_ret | apply EK.then_exit))
  refine EC.le (Le.pick [3, 4, 0, 1, 2] [_, _, _, _, _] rfl (by decide) rfl) ?_
  refine EC.drawC 15 [0, 1, 2, 3, 4, 5, 6, 7, 8, 9, 10, 11] [12, 13, 14] [_, _] _ (by kernel_rfl) (by kernel_rfl) rfl ?_
  simp only [pickL, List.filterMap_cons, List.filterMap_nil, List.getElem?_cons_zero, List.getElem?_cons_succ]
  repeat
    (first
     | (apply H_bin; (iterate 2 exact rfl); exact hnl; (iterate 2 exact rfl)) | (apply H_move; (iterate 3 exact rfl)) | (apply H_field; (iterate 6 exact rfl))
     | (apply H_load; exact rfl; (first | exact I0 | exact I1 | exact I2 | exact I3 | exact I4 | exact I5 | exact I6); (iterate 4 exact rfl)) | (apply H_nilck; (iterate 3 exact rfl)))
  refine EM.nil ?_
  repeat (first | rw [List.cons_append] | rw [List.nil_append])
  refine CH.mut (os := [_, _]) (rest := []) rfl rfl (m_call hA rfl rfl (RefineL.refl _ _) (by intro _ _; simp [go_sem])) ?_
  rintro _ _ ⟨v', rfl, rfl⟩
  try simp only [St.put]
  repeat (first | rw [List.cons_append] | rw [List.nil_append])
  cases hok : okN (hash x, x) S with
  | true =>
    rw [show (c || !true) = c by cases c <;> rfl]
    refine CH.cut 2 ?_
    simp only [List.take_succ_cons, List.take_zero, List.drop_succ_cons, List.drop_zero]
    repeat
      (first
       | (apply H_pick; (iterate 4 exact rfl)) | (apply H_not; (iterate 3 exact rfl)))
    refine EM.nil ?_
    repeat (first | rw [List.cons_append] | rw [List.nil_append])
    refine CH.nil ?_
    try simp only [List.drop_succ_cons, List.drop_zero]
    repeat
      (first
       | apply EL.nil | ((with_reducible apply EK.then_normal); apply EK.code) | (apply EC.cond_false; exact rfl)
       | (with_reducible first | apply EC.seq | apply EC.region | apply EC.skip | apply EC.label | apply EC.block | apply EC.exit | apply EC.ret | apply EK.in_normal | apply EK.in_same | apply EK.in_ret | apply EK.then_ret | apply EK.then_exit))
    refine EC.le (Le.pick [4, 0, 1, 2, 3] [_, _, _, _, _] rfl (by decide) rfl) ?_
    refine EC.drawC 12 [0, 1, 2, 3, 5, 6, 7, 9, 10] [4, 8, 11] [_] _ (by kernel_rfl) (by kernel_rfl) rfl ?_
    simp only [pickL, List.filterMap_cons, List.filterMap_nil, List.getElem?_cons_zero, List.getElem?_cons_succ]
    repeat
      (first
       | (apply H_move; (iterate 3 exact rfl)) | (apply H_field; (iterate 6 exact rfl))
       | (apply H_load; exact rfl; (first | exact I0 | exact I1 | exact I2 | exact I3 | exact I4 | exact I5 | exact I6); (iterate 4 exact rfl)) | (apply H_build; (iterate 7 exact rfl))
       | (apply H_nilck; (iterate 3 exact rfl)))
    refine EM.nil ?_
    repeat (first | rw [List.cons_append] | rw [List.nil_append])
    refine CH.cut 2 ?_
    simp only [List.take_succ_cons, List.take_zero, List.drop_succ_cons, List.drop_zero]
    repeat
      (first
       | (apply H_call (hP); exact rfl; (focus (repeat first | exact RefineL.refl _ _ | exact RL.nil | exact Rf.same | exact Rf.bs0 | exact Rf.sl0 | (apply Rf.fact; (focus (simp; done)); exact rfl) | apply Rf.tup | apply RL.cons)); (focus (intro _ _; simp [go_sem]; done)); (iterate 2 exact rfl))
       | (apply H_load; exact rfl; (first | exact I0 | exact I1 | exact I2 | exact I3 | exact I4 | exact I5 | exact I6); (iterate 4 exact rfl)))
    refine EM.nil ?_
    repeat (first | rw [List.cons_append] | rw [List.nil_append])
    refine CH.mut (os := [_]) (rest := []) rfl rfl (m_put (put_store rfl rfl rfl rfl rfl)) ?_
    rintro _ _ ⟨rfl, rfl⟩
    try simp only [St.put]
    repeat (first | rw [List.cons_append] | rw [List.nil_append])
    refine CH.nil ?_
    try simp only [List.drop_succ_cons, List.drop_zero]
    repeat
      (first
       | (apply P_load; exact rfl; (first | exact I0 | exact I1 | exact I2 | exact I3 | exact I4 | exact I5 | exact I6); (iterate 4 exact rfl))
       | (apply P_store; exact rfl; (focus (repeat first | exact .z | apply SetAt.s | apply SetAtF.s)); (iterate 4 exact rfl)) | apply EL.nil | ((with_reducible apply EK.then_normal); apply EK.code)
       | (with_reducible first | apply EC.seq | apply EC.region | apply EC.skip | apply EC.label | apply EC.block | apply EC.exit | apply EC.ret | apply EK.in_normal | apply EK.in_same | apply EK.in_ret | apply EK.then_ret | apply EK.then_exit))
    refine EK.retMc1s 4 [oB g gs (putN (hash x, x) ns) c, sdO gs v', sdR v' (putN (hash x, x) S)] rfl rfl rfl rfl ?_ (by (repeat first | exact List.nil_sublist _ | apply List.Sublist.cons_cons | apply List.Sublist.cons)) ⟨v', rfl, rfl⟩
    (repeat first | exact RefineL.refl _ _ | exact RL.nil | exact Rf.same | exact Rf.bs0 | exact Rf.sl0 | (apply Rf.fact; (focus (simp; done)); exact rfl) | apply Rf.tup | apply RL.cons)
  | false =>
    rw [show (c || !false) = true by cases c <;> rfl]
    refine CH.cut 2 ?_
    simp only [List.take_succ_cons, List.take_zero, List.drop_succ_cons, List.drop_zero]
    repeat
      (first
       | (apply H_pick; (iterate 4 exact rfl)) | (apply H_not; (iterate 3 exact rfl)))
    refine EM.nil ?_
    repeat (first | rw [List.cons_append] | rw [List.nil_append])
    refine CH.nil ?_
    try simp only [List.drop_succ_cons, List.drop_zero]
    repeat
      (first
       | (apply P_move; (iterate 3 exact rfl)) | (apply P_field; (iterate 6 exact rfl)) | (apply P_nilck; (iterate 3 exact rfl))
       | (apply P_store; exact rfl; (focus (repeat first | exact .z | apply SetAt.s | apply SetAtF.s)); (iterate 4 exact rfl)) | apply EL.nil | ((with_reducible apply EK.then_normal); apply EK.code)
       | (apply EC.cond_true; exact rfl)
       | (with_reducible first | apply EC.seq | apply EC.region | apply EC.skip | apply EC.label | apply EC.block | apply EC.exit | apply EC.ret | apply EK.in_normal | apply EK.in_same | apply EK.in_ret | apply EK.then_ret | apply EK.then_exit))
    refine EC.le (Le.pick [4, 0, 1, 2, 3] [_, _, _, _, _] rfl (by decide) rfl) ?_
    refine EC.drawC 12 [0, 1, 2, 3, 5, 6, 7, 9, 10] [4, 8, 11] [_] _ (by kernel_rfl) (by kernel_rfl) rfl ?_
    simp only [pickL, List.filterMap_cons, List.filterMap_nil, List.getElem?_cons_zero, List.getElem?_cons_succ]
    repeat
      (first
       | (apply H_move; (iterate 3 exact rfl)) | (apply H_field; (iterate 6 exact rfl))
       | (apply H_load; exact rfl; (first | exact I0 | exact I1 | exact I2 | exact I3 | exact I4 | exact I5 | exact I6); (iterate 4 exact rfl)) | (apply H_build; (iterate 7 exact rfl))
       | (apply H_nilck; (iterate 3 exact rfl)))
    refine EM.nil ?_
    repeat (first | rw [List.cons_append] | rw [List.nil_append])
    refine CH.cut 2 ?_
    simp only [List.take_succ_cons, List.take_zero, List.drop_succ_cons, List.drop_zero]
    repeat
      (first
       | (apply H_call (hP); exact rfl; (focus (repeat first | exact RefineL.refl _ _ | exact RL.nil | exact Rf.same | exact Rf.bs0 | exact Rf.sl0 | (apply Rf.fact; (focus (simp; done)); exact rfl) | apply Rf.tup | apply RL.cons)); (focus (intro _ _; simp [go_sem]; done)); (iterate 2 exact rfl))
       | (apply H_load; exact rfl; (first | exact I0 | exact I1 | exact I2 | exact I3 | exact I4 | exact I5 | exact I6); (iterate 4 exact rfl)))
    refine EM.nil ?_
    repeat (first | rw [List.cons_append] | rw [List.nil_append])
    refine CH.mut (os := [_]) (rest := []) rfl rfl (m_put (put_store rfl rfl rfl rfl rfl)) ?_
    rintro _ _ ⟨rfl, rfl⟩
    try simp only [St.put]
    repeat (first | rw [List.cons_append] | rw [List.nil_append])
    refine CH.nil ?_
    try simp only [List.drop_succ_cons, List.drop_zero]
    repeat
      (first
       | (apply P_load; exact rfl; (first | exact I0 | exact I1 | exact I2 | exact I3 | exact I4 | exact I5 | exact I6); (iterate 4 exact rfl))
       | (apply P_store; exact rfl; (focus (repeat first | exact .z | apply SetAt.s | apply SetAtF.s)); (iterate 4 exact rfl)) | apply EL.nil | ((with_reducible apply EK.then_normal); apply EK.code)
       | (with_reducible first | apply EC.seq | apply EC.region | apply EC.skip | apply EC.label | apply EC.block | apply EC.exit | apply EC.ret | apply EK.in_normal | apply EK.in_same | apply EK.in_ret | apply EK.then_ret | apply EK.then_exit))
    refine EK.retMc1s 4 [oB g gs (putN (hash x, x) ns) true, sdO gs v', sdR v' (putN (hash x, x) S)] rfl rfl rfl rfl ?_ (by (repeat first | exact List.nil_sublist _ | apply List.Sublist.cons_cons | apply List.Sublist.cons)) ⟨v', rfl, rfl⟩
    (repeat first | exact RefineL.refl _ _ | exact RL.nil | exact Rf.same | exact Rf.bs0 | exact Rf.sl0 | (apply Rf.fact; (focus (simp; done)); exact rfl) | apply Rf.tup | apply RL.cons)
structure SS where
  ns : List Pr
  c : Bool
  v : Value
  S : List Pr
  srt : Srt S
def SSR (U : List (List UInt8)) (C : Nat) (s t : SS) : Prop := t.ns.length ≤ s.ns.length + C ∧ t.S.length ≤ s.S.length + C ∧ (∀ y ∈ s.S, y ∈ t.S) ∧ (t.c = false → s.c = false ∧ ∀ x ∈ U, (hash x, x) ∈ t.S)
def bldS (g gs : Nat) : Bld g where
  σ := SS
  os s := [oB g gs s.ns s.c, sdO gs s.v, sdR s.v s.S]
  sz s := max s.ns.length s.S.length
  Rl U C s t := SSR U C s t
  none s := ⟨Nat.le_refl _, Nat.le_refl _, fun _ h => h, fun h => ⟨h, fun x hx => by cases hx⟩⟩
  app h1 h2 := ⟨by have := h1.1; have := h2.1; omega, by have := h1.2.1; have := h2.2.1; omega, fun y hy => h2.2.2.1 y (h1.2.2.1 y hy), fun h => by
    obtain ⟨a1, a2⟩ := h2.2.2.2 h
    obtain ⟨b1, b2⟩ := h1.2.2.2 a1
    refine ⟨b1, fun x hx => ?_⟩
    rcases List.mem_append.1 hx with hx | hx
    · exact h2.2.2.1 _ (b2 x hx)
    · exact a2 x hx⟩
  more h1 h2 := ⟨by have := h1.1; omega, by have := h1.2.1; omega, h1.2.2.1, h1.2.2.2⟩
  size h := by have := h.1; have := h.2.1; omega
  put s x h1 h2 := (b_putS g gs s.ns s.c s.v s.S x s.srt (by omega) (by omega) h2).mono fun r os' ⟨v', hr, ho⟩ => ⟨⟨putN (hash x, x) s.ns, s.c || !okN (hash x, x) s.S, v', putN (hash x, x) s.S, putN_srt _ _ s.srt⟩, ⟨putN_len _ _, putN_len _ _, fun y hy => putN_sub _ _ _ hy, fun h => by
    have h1 : s.c = false ∧ okN (hash x, x) s.S = true := by simpa using h
    refine ⟨h1.1, fun y hy => ?_⟩
    obtain rfl : y = x := by simpa using hy
    exact okN_in _ _ h1.2⟩, hr, ho⟩
end E
end Go.Proofs.Ytmlajcbabimkjaa
/-
  The Seen: Add, Trie.
  Conditions: none.
-/
namespace Go.Proofs.Ytmlajcbabimkjaa
set_option linter.unusedVariables false
open Go.RowKit Mono Rlp
namespace E
set_option maxRecDepth 20000 in
set_option maxHeartbeats 8000000 in
theorem sd_Add (g : Nat) (v : Value) (S : List Pr) (b : List UInt8) (hs : Srt S) (hl : S.length ≤ 1000000000) (hb : b.length ≤ 1099511627776) : FnM 56 [.v (ptr g), .bs b] [sdO g v, sdR v S] (fun r os' => ∃ v', r = .val (.v (.bool (okN (hash b, b) S))) ∧ os' = [sdO g v', sdR v' (putN (hash b, b) S)]) := by
  have hK := f_Keccak b hb
  have hA := sd_add g v S (hash b) b hs hl (by omega)
  refine FnM.walk 10 Try.func56 rfl Try.ntmps56 (by simp) fun X => ?_
  repeat
    (first
     | (apply P_call (hK); exact rfl; (focus (repeat first | exact RefineL.refl _ _ | exact RL.nil | exact Rf.same | exact Rf.bs0 | exact Rf.sl0 | (apply Rf.fact; (focus (simp; done)); exact rfl) | apply Rf.tup | apply RL.cons)); (focus (intro _ _; simp [go_sem]; done)); (iterate 2 exact rfl))
     | (apply P_move; (iterate 3 exact rfl)) | (apply P_assign; (iterate 3 exact rfl)) | apply EL.nil | ((with_reducible apply EK.then_normal); apply EK.code)
     | (with_reducible first | apply EC.seq | apply EC.region | apply EC.skip | apply EC.label | apply EC.block | apply EC.exit | apply EC.ret | apply EK.in_normal | apply EK.in_same | apply EK.in_ret | apply EK.then_ret | apply EK.then_exit))
  refine P_callAt hA [] [] rfl rfl (RefineL.refl _ _) (by intro _ _; simp [go_sem]) rfl rfl ?_
  rintro _ _ ⟨v', rfl, rfl⟩
  simp only [List.cons_append, List.nil_append]
  repeat
    (first
     | (apply P_assign; (iterate 3 exact rfl)) | apply EL.nil | ((with_reducible apply EK.then_normal); apply EK.code)
     | (with_reducible first | apply EC.seq | apply EC.region | apply EC.skip | apply EC.label | apply EC.block | apply EC.exit | apply EC.ret | apply EK.in_normal | apply EK.in_same | apply EK.in_ret | apply EK.then_ret | apply EK.then_exit))
  exact EK.retM1s [sdO g v', sdR v' (putN (hash b, b) S)] rfl rfl (by (repeat first | exact List.nil_sublist _ | apply List.Sublist.cons_cons | apply List.Sublist.cons)) ⟨v', rfl, rfl⟩
def trieU (l : List Pr) : List (List UInt8) := [128] :: (if l.isEmpty then [] else strsR 200 (l.map sp) ++ [pkB (nodeR 200 (l.map sp))])
def SeenTo (U : List (List UInt8)) (C : Nat) (S S' : List Pr) (b : Bool) : Prop := Srt S' ∧ S'.length ≤ S.length + C ∧ (∀ y ∈ S, y ∈ S') ∧ (b = true → ∀ x ∈ U, (hash x, x) ∈ S')
set_option maxRecDepth 20000 in
set_option maxHeartbeats 16000000 in
theorem sd_Trie (gs : Nat) (v : Value) (S : List Pr) (l : List Pr) (hs : Srt S) (hS : S.length ≤ 900000000) (he : errP l = 0) : FnM 31 [.v (ptr gs), .sl 2 (l.map dPr)] [sdO gs v, sdR v S] (fun r os' => ∃ b v' S', SeenTo (trieU l) (2 + 200 * l.length) S S' b ∧ r = .val (.v (.bool b)) ∧ os' = [sdO gs v', sdR v' S']) := by
  have hml : (l.map dPr).length = l.length := List.length_map _
  have hA := sd_Add gs v S [128] hs (by omega) (by decide)
  have hs1 := putN_srt (hash [128], [128]) S hs
  have hl1 := putN_len (hash [128], [128]) S
  have hi1 := putN_sub (hash [128], [128]) S
  have hm1 := okN_in (hash [128], [128]) S
  generalize putN (hash [128], [128]) S = S1 at hA hs1 hl1 hi1 hm1
  have hlen := (show l.length ≤ 100000 from by
    unfold errP at he
    split at he
    · cases he
    · rename_i h1
      have : ¬ 100000 < l.length := fun e => h1 (.inl e)
      omega)
  have hlg : l.any lg = false := (pairsF_ok he).2.1
  refine FnM.walk 56 Try.func31 rfl Try.ntmps31 (by simp) fun X => ?_
  repeat
    (first
     | (apply P_lit; (iterate 9 exact rfl); refine EL.le (Le.slB (t := 11) (l := [128]) rfl) ?_) | (apply P_move; (iterate 3 exact rfl)) | (apply P_assign; (iterate 3 exact rfl)) | apply EL.nil
     | ((with_reducible apply EK.then_normal); apply EK.code)
     | (with_reducible first | apply EC.seq | apply EC.region | apply EC.skip | apply EC.label | apply EC.block | apply EC.exit | apply EC.ret | apply EK.in_normal | apply EK.in_same | apply EK.in_ret | apply EK.then_ret | apply EK.then_exit))
  refine P_callAt hA [] [] rfl rfl (RefineL.refl _ _) (by intro _ _; simp [go_sem]) rfl rfl ?_
  rintro _ _ ⟨v1, rfl, rfl⟩
  simp only [List.cons_append, List.nil_append]
  cases hok : okN (hash [128], [128]) S with
  | false =>
    repeat
      (first
       | (apply P_assign; (iterate 3 exact rfl)) | (apply P_not; (iterate 3 exact rfl)) | apply EL.nil | ((with_reducible apply EK.then_normal); apply EK.code) | (apply EC.cond_true; exact rfl)
       | (with_reducible first | apply EC.seq | apply EC.region | apply EC.skip | apply EC.label | apply EC.block | apply EC.exit | apply EC.ret | apply EK.in_normal | apply EK.in_same | apply EK.in_ret | apply EK.then_ret | apply EK.then_exit))
    exact EK.retM1s [sdO gs v1, sdR v1 S1] rfl rfl (by (repeat first | exact List.nil_sublist _ | apply List.Sublist.cons_cons | apply List.Sublist.cons)) ⟨false, v1, S1, ⟨hs1, by omega, hi1, fun h => by cases h⟩, rfl, rfl⟩
  | true =>
    have hm1 := hm1 hok
    by_cases hnil : l = []
    · subst hnil
      repeat
        (first
         | (apply P_move; (iterate 3 exact rfl)) | (apply P_assign; (iterate 3 exact rfl)) | (apply P_not; (iterate 3 exact rfl))
         | (apply P_cmp (b := true); (iterate 2 exact rfl); (focus (first | (simp [cmpI]; done) | (simp [cmpI]; omega))); (iterate 2 exact rfl)) | (apply P_lensl; (iterate 4 exact rfl)) | apply EL.nil
         | ((with_reducible apply EK.then_normal); apply EK.code) | (apply EC.cond_true; exact rfl) | (apply EC.cond_false; exact rfl)
         | (with_reducible first | apply EC.seq | apply EC.region | apply EC.skip | apply EC.label | apply EC.block | apply EC.exit | apply EC.ret | apply EK.in_normal | apply EK.in_same | apply EK.in_ret | apply EK.then_ret | apply EK.then_exit))
      exact EK.retM1s [sdO gs v1, sdR v1 S1] rfl rfl (by (repeat first | exact List.nil_sublist _ | apply List.Sublist.cons_cons | apply List.Sublist.cons)) ⟨true, v1, S1, ⟨hs1, by omega, hi1, fun _ x hx => by
        obtain rfl : x = [128] := by simpa [trieU] using hx
        exact hm1⟩, rfl, rfl⟩
    · obtain ⟨y, l', rfl⟩ : ∃ y l', l = y :: l' := by
        cases l with
        | nil => exact absurd rfl hnil
        | cons y l' => exact ⟨y, l', rfl⟩
      have hne : ((y :: l').map sp).isEmpty = false := rfl
      have htU : trieU (y :: l') = [128] :: (strsR 200 ((y :: l').map sp) ++ [pkB (nodeR 200 ((y :: l').map sp))]) := rfl
      have hlen2 : ((y :: l').map dPr).length = l'.length + 1 := by simp
      have hL2 : (y :: l').length = l'.length + 1 := rfl
      repeat
        (first
         | (apply P_move; (iterate 3 exact rfl)) | (apply P_assign; (iterate 3 exact rfl)) | (apply P_not; (iterate 3 exact rfl))
         | (apply P_cmp (b := false); (iterate 2 exact rfl); (focus (first | (simp [cmpI]; done) | (simp [cmpI]; omega))); (iterate 2 exact rfl)) | (apply P_lensl; (iterate 4 exact rfl)) | apply EL.nil
         | ((with_reducible apply EK.then_normal); apply EK.code) | (apply EC.cond_false; exact rfl)
         | (with_reducible first | apply EC.seq | apply EC.region | apply EC.skip | apply EC.label | apply EC.block | apply EC.exit | apply EC.ret | apply EK.in_normal | apply EK.in_same | apply EK.in_ret | apply EK.then_ret | apply EK.then_exit))
      generalize hL : y :: l' = l at *
      clear hnil
      refine EC.le (Le.row 116 2) ?_
      refine EC.loop (ι := {x : Nat × Value // x.1 ≤ l.length})
        (fun x => ⟨[(6, .val (.v (.int .i64 (x.1.1 : Int)))), (5, .val (.v x.1.2)), (0, .val (.v (ptr gs))), (1, .val (.sl 2 (l.map dPr)))], [.row x.1.2 116 2 (((l.take x.1.1).map sp).map dPr), sdO gs v1, sdR v1 S1], []⟩)
        (fun x => l.length - x.1.1) ⟨(0, .slice none 0 0), Nat.zero_le _⟩ ?_ ?_
      · exact (Le.keep (by repeat first | exact trivial | refine ⟨rfl, ?_⟩) (by repeat first | exact List.nil_sublist _ | apply List.Sublist.cons_cons | apply List.Sublist.cons) (by simp))
      rintro ⟨⟨i, u⟩, hi⟩
      dsimp only at hi ⊢
      by_cases hlt : i < l.length
      · have hd : (l.map dPr)[i]? = some (.tup [.bs l[i].1, .bs l[i].2]) := by rw [List.getElem?_map, List.getElem?_eq_getElem hlt]; rfl
        have hsz := not_long hlg (List.getElem_mem hlt)
        have hSp := f_rSplit l[i].1 (by omega)
        have hl3 : (((l.take i).map sp).map dPr).length = i := by rw [List.length_map, List.length_map, List.length_take]; omega
        have htk : ((l.take (i + 1)).map sp).map dPr = ((l.take i).map sp).map dPr ++ [.tup [.bs (split l[i].1), .bs l[i].2]] := by
          rw [List.take_succ_eq_append_getElem hlt, List.map_append, List.map_append]
          rfl
        repeat
          (first
           | (apply P_move; (iterate 3 exact rfl)) | (apply P_cmp (b := true); (iterate 2 exact rfl); (focus (first | (simp [cmpI]; done) | (simp [cmpI]; omega))); (iterate 2 exact rfl))
           | (apply P_lensl; (iterate 4 exact rfl)) | apply EL.nil | ((with_reducible apply EK.then_normal); apply EK.code) | (apply EC.cond_true; exact rfl)
           | (with_reducible first | apply EC.seq | apply EC.region | apply EC.skip | apply EC.label | apply EC.block | apply EC.exit | apply EC.ret | apply EK.in_normal | apply EK.in_same | apply EK.in_ret | apply EK.then_ret | apply EK.then_exit))
        refine EC.drawC 15 [0, 1, 2, 3, 4, 5, 6, 7, 8, 9, 10, 11, 12, 13] [14] [_] _ (by kernel_rfl) (by kernel_rfl) rfl ?_
        simp only [pickL, List.filterMap_cons, List.filterMap_nil, List.getElem?_cons_zero, List.getElem?_cons_succ]
        repeat
          (first
           | (apply H_call (hSp); exact rfl; (focus (repeat first | exact RefineL.refl _ _ | exact RL.nil | exact Rf.same | exact Rf.bs0 | exact Rf.sl0 | (apply Rf.fact; (focus (simp; done)); exact rfl) | apply Rf.tup | apply RL.cons)); (focus (intro _ _; simp [go_sem]; done)); (iterate 2 exact rfl))
           | (apply H_move; (iterate 3 exact rfl)) | (apply H_fieldpd; (iterate 7 exact rfl)) | (apply H_loadpd; (iterate 5 exact rfl))
           | (apply H_index; (iterate 4 exact rfl); (focus (first | exact ⟨by decide, rfl⟩ | (refine ⟨by omega, ?_⟩; rw [Int.toNat_natCast]; assumption))); (iterate 2 exact rfl))
           | (apply H_build; (iterate 7 exact rfl)) | (apply H_lit; (iterate 9 exact rfl)))
        refine EM.nil ?_
        repeat (first | rw [List.cons_append] | rw [List.nil_append])
        refine CH.mut (os := [_]) (rest := []) rfl rfl (m_append rfl rfl rfl rfl rfl ?_) ?_
        · rw [hl3]
          constructor <;> (simp; omega)
        rintro _ _ ⟨u', rfl, rfl⟩
        try simp only [St.put]
        repeat (first | rw [List.cons_append] | rw [List.nil_append])
        refine CH.nil ?_
        try simp only [List.drop_succ_cons, List.drop_zero]
        repeat
          (first
           | (apply P_move; (iterate 3 exact rfl)) | (apply P_assign; (iterate 3 exact rfl)) | (apply P_ar; (iterate 3 exact rfl); (focus omega); (focus omega); (iterate 2 exact rfl)) | apply EL.nil
           | ((with_reducible apply EK.then_normal); apply EK.code)
           | (with_reducible first | apply EC.seq | apply EC.region | apply EC.skip | apply EC.label | apply EC.block | apply EC.exit | apply EC.ret | apply EK.in_normal | apply EK.in_same | apply EK.in_ret | apply EK.then_ret | apply EK.then_exit))
        refine EK.again ⟨(i + 1, u'), hlt⟩ (by dsimp only; omega) ?_
        dsimp only
        rw [htk]
        simp only [Int.natCast_add]
        exact (Le.keep (by repeat first | exact trivial | refine ⟨rfl, ?_⟩) (by repeat first | exact List.nil_sublist _ | apply List.Sublist.cons_cons | apply List.Sublist.cons) (by simp))
      · have hie : i = l.length := by omega
        rw [show l.take i = l by rw [hie, List.take_length]]
        refine EC.le (Le.freeze (pre := []) rfl) ?_
        refine EC.le (Le.refine (t := 5) (d' := .sl 2 ((l.map sp).map dPr)) rfl (Rf.fact List.mem_cons_self rfl)) ?_
        simp only [List.nil_append]
        have hNd : ∀ gb, FnM 58 [.v (ptr gb), .sl 2 ((l.map sp).map dPr)] [oB gb gs [] false, sdO gs v1, sdR v1 S1] (fun r os' => ∃ t : SS, SSR (strsR 200 (l.map sp)) (200 * (l.map sp).length) ⟨[], false, v1, S1, hs1⟩ t ∧ r = .val (dItem (nodeR 200 (l.map sp))) ∧ os' = [oB gb gs t.ns t.c, sdO gs t.v, sdR t.v t.S]) := fun gb => b_node (bldS gb gs) 200 (l.map sp) (⟨[], false, v1, S1, hs1⟩ : SS) hne (fun z hz => by
          obtain ⟨w, hw, rfl⟩ := List.mem_map.1 hz
          have := not_long hlg hw
          show (split w.1).length < 200
          rw [split_length]
          omega) (fun z hz => by
          obtain ⟨w, hw, rfl⟩ := List.mem_map.1 hz
          have := not_long hlg hw
          show (split w.1).length ≤ _
          rw [split_length]
          omega) (by rw [List.length_map]; omega) (by rw [List.length_map]; show max 0 S1.length + _ ≤ _; omega)
        have h2 := f_rPack (nodeR 200 (l.map sp))
        repeat
          (first
           | (apply P_box; exact rfl; exact rfl; exact rfl; intro gb; refine EL.le (Le.varT (d' := .tup [.sl 33 (([] : List Pr).map dNd), .v (ptr gs), .v (.bool false)]) (by apply Rf.tup; exact RL.cons Rf.sl0 (RL.cons Rf.same (RL.cons Rf.same RL.nil)))) ?_)
           | (apply P_move; (iterate 3 exact rfl)) | (apply P_assign; (iterate 3 exact rfl))
           | (apply P_cmp (b := false); (iterate 2 exact rfl); (focus (first | (simp [cmpI]; done) | (simp [cmpI]; omega))); (iterate 2 exact rfl)) | (apply P_lensl; (iterate 4 exact rfl))
           | (apply P_build; (iterate 7 exact rfl)) | apply EL.nil | ((with_reducible apply EK.then_normal); apply EK.code) | (apply EC.cond_false; exact rfl)
           | (with_reducible first | apply EC.seq | apply EC.region | apply EC.skip | apply EC.label | apply EC.block | apply EC.exit | apply EC.ret | apply EK.in_normal | apply EK.in_same | apply EK.in_ret | apply EK.then_ret | apply EK.then_exit))
        refine P_callAt (hNd gb) [] [] rfl rfl (RefineL.refl _ _) (by intro _ _; simp [go_sem]) rfl rfl ?_
        rintro _ _ ⟨t, hn1, rfl, rfl⟩
        simp only [List.cons_append, List.nil_append]
        rw [List.length_map] at hn1
        have hle := pkB_leB (nodeR 200 (l.map sp))
        have hpt : FnM 59 [.v (ptr gb), .bs (pkB (nodeR 200 (l.map sp)))] [oB gb gs t.ns t.c, sdO gs t.v, sdR t.v t.S] (fun r os' => ∃ t' : SS, SSR [pkB (nodeR 200 (l.map sp))] 1 t t' ∧ r = .val (.arr 32 (hash (pkB (nodeR 200 (l.map sp))))) ∧ os' = [oB gb gs t'.ns t'.c, sdO gs t'.v, sdR t'.v t'.S]) := (bldS gb gs).put t _ (by
          have h1 := hn1.1
          have h2 := hn1.2.1
          dsimp only [List.length_nil] at h1 h2
          show max t.ns.length t.S.length ≤ _
          omega) hle
        have hfin : ∀ t' : SS, SSR [pkB (nodeR 200 (l.map sp))] 1 t t' → SeenTo (trieU l) (2 + 200 * l.length) S t'.S (!t'.c) := fun t' ht => by
          refine ⟨t'.srt, ?_, fun z hz => ht.2.2.1 _ (hn1.2.2.1 _ (hi1 z hz)), fun hc => ?_⟩
          · have h1 := ht.2.1
            have h2 := hn1.2.1
            dsimp only at h2
            omega
          · obtain ⟨a1, a2⟩ := ht.2.2.2 (by simpa using hc)
            obtain ⟨b1, b2⟩ := hn1.2.2.2 a1
            intro z hz
            rw [htU] at hz
            rcases List.mem_cons.1 hz with rfl | hz
            · exact ht.2.2.1 _ (hn1.2.2.1 _ hm1)
            · rcases List.mem_append.1 hz with hz | hz
              · exact ht.2.2.1 _ (b2 z hz)
              · exact a2 z hz
        have hpb : packed (nodeR 200 (l.map sp)) = none ∨ packed (nodeR 200 (l.map sp)) = some (pkB (nodeR 200 (l.map sp))) := by
          unfold pkB
          cases h : packed (nodeR 200 (l.map sp)) with
          | none => exact .inl rfl
          | some b => exact .inr rfl
        clear hn1 hNd
        rcases hpb with hp | hp
        · have h0 : pkB (nodeR 200 (l.map sp)) = [] := by unfold pkB; rw [hp]; rfl
          rw [hp] at h2
          rw [h0] at hpt hfin
          unfold packD at h2
          dsimp only at h2
          repeat
            (first
             | (apply P_call (h2); exact rfl; (focus (repeat first | exact RefineL.refl _ _ | exact RL.nil | exact Rf.same | exact Rf.bs0 | exact Rf.sl0 | (apply Rf.fact; (focus (simp; done)); exact rfl) | apply Rf.tup | apply RL.cons)); (focus (intro _ _; simp [go_sem]; done)); (iterate 2 exact rfl))
             | (apply P_move; (iterate 3 exact rfl)) | (apply P_assign; (iterate 3 exact rfl)) | (apply P_extract; (iterate 4 exact rfl)) | apply EL.nil | ((with_reducible apply EK.then_normal); apply EK.code)
             | (with_reducible first | apply EC.seq | apply EC.region | apply EC.skip | apply EC.label | apply EC.block | apply EC.exit | apply EC.ret | apply EK.in_normal | apply EK.in_same | apply EK.in_ret | apply EK.then_ret | apply EK.then_exit))
          refine P_callAt hpt [] [] rfl rfl (by (repeat first | exact RefineL.refl _ _ | exact RL.nil | exact Rf.same | exact Rf.bs0 | exact Rf.sl0 | (apply Rf.fact; (focus (simp; done)); exact rfl) | apply Rf.tup | apply RL.cons)) (by intro _ _; simp [go_sem]) rfl rfl ?_
          rintro _ _ ⟨t', ht, rfl, rfl⟩
          simp only [List.cons_append, List.nil_append]
          repeat
            (first
             | (apply P_move; (iterate 3 exact rfl)) | (apply P_assign; (iterate 3 exact rfl)) | (apply P_field; (iterate 6 exact rfl)) | (apply P_not; (iterate 3 exact rfl))
             | (apply P_load; exact rfl; (first | exact I0 | exact I1 | exact I2 | exact I3 | exact I4 | exact I5 | exact I6); (iterate 4 exact rfl)) | (apply P_nilck; (iterate 3 exact rfl)) | apply EL.nil
             | ((with_reducible apply EK.then_normal); apply EK.code)
             | (with_reducible first | apply EC.seq | apply EC.region | apply EC.skip | apply EC.label | apply EC.block | apply EC.exit | apply EC.ret | apply EK.in_normal | apply EK.in_same | apply EK.in_ret | apply EK.then_ret | apply EK.then_exit))
          exact EK.retM1s [sdO gs t'.v, sdR t'.v t'.S] rfl rfl (by (repeat first | exact List.nil_sublist _ | apply List.Sublist.cons_cons | apply List.Sublist.cons)) ⟨_, _, _, hfin t' ht, rfl, rfl⟩
        · rw [hp] at h2
          unfold packD at h2
          dsimp only at h2
          repeat
            (first
             | (apply P_call (h2); exact rfl; (focus (repeat first | exact RefineL.refl _ _ | exact RL.nil | exact Rf.same | exact Rf.bs0 | exact Rf.sl0 | (apply Rf.fact; (focus (simp; done)); exact rfl) | apply Rf.tup | apply RL.cons)); (focus (intro _ _; simp [go_sem]; done)); (iterate 2 exact rfl))
             | (apply P_move; (iterate 3 exact rfl)) | (apply P_assign; (iterate 3 exact rfl)) | (apply P_extract; (iterate 4 exact rfl)) | apply EL.nil | ((with_reducible apply EK.then_normal); apply EK.code)
             | (with_reducible first | apply EC.seq | apply EC.region | apply EC.skip | apply EC.label | apply EC.block | apply EC.exit | apply EC.ret | apply EK.in_normal | apply EK.in_same | apply EK.in_ret | apply EK.then_ret | apply EK.then_exit))
          refine P_callAt hpt [] [] rfl rfl (by (repeat first | exact RefineL.refl _ _ | exact RL.nil | exact Rf.same | exact Rf.bs0 | exact Rf.sl0 | (apply Rf.fact; (focus (simp; done)); exact rfl) | apply Rf.tup | apply RL.cons)) (by intro _ _; simp [go_sem]) rfl rfl ?_
          rintro _ _ ⟨t', ht, rfl, rfl⟩
          simp only [List.cons_append, List.nil_append]
          repeat
            (first
             | (apply P_move; (iterate 3 exact rfl)) | (apply P_assign; (iterate 3 exact rfl)) | (apply P_field; (iterate 6 exact rfl)) | (apply P_not; (iterate 3 exact rfl))
             | (apply P_load; exact rfl; (first | exact I0 | exact I1 | exact I2 | exact I3 | exact I4 | exact I5 | exact I6); (iterate 4 exact rfl)) | (apply P_nilck; (iterate 3 exact rfl)) | apply EL.nil
             | ((with_reducible apply EK.then_normal); apply EK.code)
             | (with_reducible first | apply EC.seq | apply EC.region | apply EC.skip | apply EC.label | apply EC.block | apply EC.exit | apply EC.ret | apply EK.in_normal | apply EK.in_same | apply EK.in_ret | apply EK.then_ret | apply EK.then_exit))
          exact EK.retM1s [sdO gs t'.v, sdR t'.v t'.S] rfl rfl (by (repeat first | exact List.nil_sublist _ | apply List.Sublist.cons_cons | apply List.Sublist.cons)) ⟨_, _, _, hfin t' ht, rfl, rfl⟩
end E
end Go.Proofs.Ytmlajcbabimkjaa
/-
  Half bytes: what is split is joined again, what is packed is read again.
  Conditions: none. No program is named here.
-/
namespace Go.Proofs.Ytmlajcbabimkjaa
theorem nib_hi (x : UInt8) : (x >>> 4).toNat = x.toNat / 16 := by rw [UInt8.toNat_shiftRight]; simp [Nat.shiftRight_eq_div_pow]
theorem nib_lo (x : UInt8) : (x &&& 15).toNat = x.toNat % 16 := by rw [UInt8.toNat_and]; exact Nat.and_two_pow_sub_one_eq_mod _ 4
theorem nib_apart (x y : UInt8) (hx : x.toNat ≤ 15) (hy : y.toNat ≤ 15) : (x <<< 4 ||| y) >>> 4 = x ∧ (x <<< 4 ||| y) &&& 15 = y := by
  have h := orNib x.toNat y.toNat hx hy x y rfl rfl
  constructor
  · apply UInt8.toNat_inj.1
    rw [nib_hi, h]
    omega
  · apply UInt8.toNat_inj.1
    rw [nib_lo, h]
    omega
theorem split_join : ∀ (p m : List UInt8), joinL p = some m → split m = p
  | [], m, h => by simp [joinL] at h; subst h; rfl
  | [_], m, h => by simp [joinL] at h
  | x :: y :: r, m, h => by
    rw [joinL] at h
    split at h
    · rename_i hc
      cases hj : joinL r with
      | none => rw [hj] at h; simp at h
      | some t =>
        rw [hj] at h
        simp only [Option.map_some, Option.some.injEq] at h
        subst h
        have hs : split ((x <<< 4 ||| y) :: t) = ((x <<< 4 ||| y) >>> 4) :: ((x <<< 4 ||| y) &&& 15) :: split t := rfl
        rw [hs, (nib_apart x y hc.1 hc.2).1, (nib_apart x y hc.1 hc.2).2, split_join r t hj]
    · simp at h
theorem join_some : ∀ (p : List UInt8), p.length % 2 = 0 → (∀ x ∈ p, x.toNat ≤ 15) → ∃ m, joinL p = some m
  | [], _, _ => ⟨[], rfl⟩
  | [_], h, _ => by simp at h
  | x :: y :: r, h, hs => by
    obtain ⟨m, hm⟩ := join_some r (by simp at h; omega) fun z hz => hs z (by simp [hz])
    exact ⟨_, by rw [joinL, if_pos ⟨hs x (by simp), hs y (by simp)⟩, hm]; rfl⟩
theorem hdr_small (p : List UInt8) (leaf : Bool) : ∀ x ∈ hdr p leaf, x.toNat ≤ 15 := by
  unfold hdr
  split <;> cases leaf <;> decide
theorem hdr_even (p : List UInt8) (leaf : Bool) : (hdr p leaf ++ p).length % 2 = 0 := by
  unfold hdr
  split <;> simp <;> omega
end Go.Proofs.Ytmlajcbabimkjaa
/-
  Packed paths (plain).
  Conditions: none.
-/
namespace Go.Proofs.Ytmlajcbabimkjaa
set_option linter.unusedVariables false
open Go.RowKit Mono Rlp
namespace E
theorem join_len : ∀ p : List UInt8, ((joinL p).getD []).length ≤ p.length / 2
  | [] => Nat.le_refl _
  | [_] => Nat.zero_le _
  | x :: y :: r => by
    have ih := join_len r
    rw [joinL]
    split
    · cases h : joinL r with
      | none => simp
      | some m =>
        rw [h] at ih
        simp at ih ⊢
        omega
    · simp
theorem ppk_len (p : List UInt8) (b : Bool) : (ppk p b).length ≤ p.length / 2 + 1 := by
  have h := join_len (hdr p b ++ p)
  have h2 : (hdr p b).length ≤ 2 := by
    unfold hdr
    split <;> simp
  unfold ppk
  rw [List.length_append] at h
  omega
theorem ppk_inj {p q : List UInt8} {a b : Bool} (hp : ∀ x ∈ p, x.toNat ≤ 15) (hq : ∀ x ∈ q, x.toNat ≤ 15) (h : ppk p a = ppk q b) : p = q ∧ a = b := by
  have hs : ∀ (p : List UInt8) (a : Bool), (∀ x ∈ p, x.toNat ≤ 15) → split (ppk p a) = Go.Proofs.Ytmlajcbabimkjaa.hdr p a ++ p := fun p a hp => by
    obtain ⟨m, hm⟩ := join_some (Go.Proofs.Ytmlajcbabimkjaa.hdr p a ++ p) (hdr_even p a) fun x hx => by
      rcases List.mem_append.1 hx with h | h
      · exact hdr_small p a x h
      · exact hp x h
    unfold ppk
    rw [hm]
    exact split_join _ _ hm
  have h1 := hs p a hp
  rw [h, hs q b hq] at h1
  unfold Go.Proofs.Ytmlajcbabimkjaa.hdr at h1
  by_cases e1 : p.length % 2 = 1 <;> by_cases e2 : q.length % 2 = 1 <;> cases a <;> cases b <;> simp [e1, e2] at h1 <;> simp [h1]
end E
end Go.Proofs.Ytmlajcbabimkjaa
/-
  No two hashes alike: a root tells its pairs (plain).
  Conditions: none.
-/
namespace Go.Proofs.Ytmlajcbabimkjaa
set_option linter.unusedVariables false
open Go.RowKit Mono Rlp
namespace E
theorem head_pos (n b : Nat) : 1 ≤ (head n b).length := by
  unfold head
  split <;> simp
mutual
theorem deep_le : ∀ (x : Raw) (m : Nat), deepR x m ≤ (Rlp.E x).length
  | .mk false _ _, m => by rw [deepR]; omega
  | .mk true _ xs, 0 => by
    rw [deepR, Rlp.E, List.length_append]
    have := head_pos (Rlp.EL xs).length 192
    omega
  | .mk true _ xs, m + 1 => by
    rw [deepR, Rlp.E, List.length_append]
    have h1 := head_pos (Rlp.EL xs).length 192
    have h2 := (maxD_le xs m 0 (Rlp.EL xs).length).2 ⟨Nat.zero_le _, deepL_le xs m⟩
    omega
theorem deepL_le : ∀ (xs : List Raw) (m : Nat), ∀ x ∈ xs, deepR x m ≤ (Rlp.EL xs).length
  | [], _, x, h => by cases h
  | y :: xs, m, x, h => by
    rw [Rlp.EL, List.length_append]
    rcases List.mem_cons.1 h with e | h
    · have := deep_le y m
      rw [e]
      omega
    · have := deepL_le xs m x h
      omega
end
def NFld (x : Raw) (n : Nat) : Prop := deepR x 31 ≤ 31 ∧ (Rlp.E x).length ≤ n ∧ norm x = x
def NdOk (x : Raw) : Prop := packed x = some (Rlp.E x) ∧ norm x = x
theorem EB_lenG (l : List UInt8) (h : l.length ≤ 1048576) : (EB l).length ≤ l.length + 4 := by
  rw [EB_length]
  unfold szE szB
  have := be_length 3 l.length (by omega)
  split
  · omega
  · split <;> omega
theorem fld_bytes (b : List UInt8) (h : b.length ≤ 1048576) : NFld (.mk false b []) (b.length + 4) := ⟨by rw [deepR]; omega, by rw [Rlp.E]; exact EB_lenG b h, by rw [norm]⟩
theorem pkB_ok {x : Raw} (h : NdOk x) : pkB x = Rlp.E x := by
  unfold pkB
  rw [h.1]
  rfl
theorem fld_ref {x : Raw} (h : NdOk x) : NFld (refI x) 36 := by
  unfold refI
  rw [pkB_ok h]
  split
  · rename_i hlt
    exact ⟨Nat.le_trans (deep_le x 31) (by omega), by omega, h.2⟩
  · have := fld_bytes (hash (Rlp.E x)) (by rw [hash_length]; decide)
    rw [hash_length] at this
    exact this
theorem normL_id : ∀ xs : List Raw, (∀ x ∈ xs, norm x = x) → normL xs = xs
  | [], _ => by rw [normL]
  | x :: xs, h => by rw [normL, h x List.mem_cons_self, normL_id xs fun y hy => h y (List.mem_cons_of_mem _ hy)]
theorem nd_list (xs : List Raw) (h1 : ∀ x ∈ xs, deepR x 31 ≤ 31 ∧ norm x = x) (h2 : (Rlp.EL xs).length ≤ 2097152) : NdOk (.mk true [] xs) := by
  refine ⟨packed_ok ?_ ?_, by rw [norm, normL_id xs fun x hx => (h1 x hx).2]⟩
  · exact Jn.deep_list xs [] 31 31 fun x hx => (h1 x hx).1
  · rw [Rlp.E, List.length_append, head_length]
    unfold szB
    have := be_length 4 (Rlp.EL xs).length (by omega)
    simp only [most]
    split <;> omega
theorem EL_leN (n : Nat) : ∀ xs : List Raw, (∀ x ∈ xs, (Rlp.E x).length ≤ n) → (Rlp.EL xs).length ≤ n * xs.length
  | [], _ => by simp [Rlp.EL]
  | x :: xs, h => by
    rw [Rlp.EL, List.length_append, List.length_cons, Nat.mul_succ]
    have h1 := h x List.mem_cons_self
    have h2 := EL_leN n xs fun y hy => h y (List.mem_cons_of_mem _ hy)
    omega
theorem fld_refE {l : List Pr} {x : Raw} (h : NdOk x) : NFld (refE l x) 36 := by
  unfold refE
  split
  · have := fld_bytes [] (by decide)
    exact ⟨this.1, Nat.le_trans this.2.1 (by decide), this.2.2⟩
  · exact fld_ref h
structure GoodL (l : List Pr) : Prop where
  nib : ∀ x ∈ l, ∀ c ∈ x.1, c.toNat ≤ 15
  len : ∀ x ∈ l, x.1.length ≤ 130
  val : ∀ x ∈ l, x.2.length ≤ 1048576
  some : ∀ x ∈ l, x.2 ≠ []
  fn : ∀ x ∈ l, ∀ y ∈ l, x.1 = y.1 → x = y
theorem valE_from : ∀ (l : List Pr) (v : List UInt8), (l.foldl (fun v x => if x.1.isEmpty then x.2 else v) v = v ∧ ∀ x ∈ l, x.1 ≠ []) ∨ ∃ x ∈ l, x.1 = [] ∧ l.foldl (fun v x => if x.1.isEmpty then x.2 else v) v = x.2
  | [], v => .inl ⟨rfl, fun x hx => by cases hx⟩
  | y :: l, v => by
    rw [List.foldl_cons]
    rcases valE_from l (if y.1.isEmpty then y.2 else v) with ⟨h1, h2⟩ | ⟨x, hx, h1, h2⟩
    · rw [h1]
      by_cases hy : y.1 = []
      · refine .inr ⟨y, List.mem_cons_self, hy, ?_⟩
        rw [hy]
        rfl
      · refine .inl ⟨?_, fun x hx => ?_⟩
        · rw [if_neg]
          simpa using hy
        · rcases List.mem_cons.1 hx with rfl | hx
          · exact hy
          · exact h2 x hx
    · exact .inr ⟨x, List.mem_cons_of_mem _ hx, h1, h2⟩
theorem valE_len {l : List Pr} (h : GoodL l) : (valE l).length ≤ 1048576 := by
  rcases valE_from l [] with ⟨h1, _⟩ | ⟨x, hx, _, h2⟩
  · unfold valE
    rw [h1]
    exact Nat.zero_le _
  · unfold valE
    rw [h2]
    exact h.val x hx
theorem good_rest {l : List Pr} (h : GoodL l) (n : Nat) (p : List UInt8) (hp : ∀ z ∈ l, z.1 = p ++ z.1.drop n) : GoodL (restP n l) where
  nib x hx c hc := by
    obtain ⟨z, hz, rfl⟩ := List.mem_map.1 hx
    exact h.nib z hz c (List.mem_of_mem_drop hc)
  len x hx := by
    obtain ⟨z, hz, rfl⟩ := List.mem_map.1 hx
    have := h.len z hz
    show (z.1.drop n).length ≤ _
    rw [List.length_drop]
    omega
  val x hx := by
    obtain ⟨z, hz, rfl⟩ := List.mem_map.1 hx
    exact h.val z hz
  some x hx := by
    obtain ⟨z, hz, rfl⟩ := List.mem_map.1 hx
    exact h.some z hz
  fn x hx y hy e := by
    obtain ⟨z, hz, rfl⟩ := List.mem_map.1 hx
    obtain ⟨w, hw, rfl⟩ := List.mem_map.1 hy
    have : z = w := h.fn z hz w hw (by rw [hp z hz, hp w hw]; exact congrArg _ e)
    rw [this]
theorem headD_cons {d : Nat} {z : Pr} (h : headD d z = true) : ∃ c t, z.1 = c :: t ∧ c.toNat = d := by
  unfold headD at h
  split at h
  · cases h
  · rename_i c t e
    exact ⟨c, t, e, by simpa using h⟩
theorem good_filter {l : List Pr} (h : GoodL l) (q : Pr → Bool) : GoodL (l.filter q) where
  nib x hx := h.nib x (List.mem_filter.1 hx).1
  len x hx := h.len x (List.mem_filter.1 hx).1
  val x hx := h.val x (List.mem_filter.1 hx).1
  some x hx := h.some x (List.mem_filter.1 hx).1
  fn x hx y hy := h.fn x (List.mem_filter.1 hx).1 y (List.mem_filter.1 hy).1
theorem good_kid {l : List Pr} (h : GoodL l) (d : Nat) : GoodL (kidE d l) := by
  refine good_rest (good_filter h (headD d)) 1 [UInt8.ofNat d] fun z hz => ?_
  obtain ⟨c, t, e, hc⟩ := headD_cons (List.mem_filter.1 hz).2
  rw [e, ← hc, UInt8.ofNat_toNat]
  rfl
theorem cm_pre (x y : Pr) (r : List Pr) : ∀ z ∈ x :: y :: r, z.1 = x.1.take (cmAll x.1 (y :: r)) ++ z.1.drop (cmAll x.1 (y :: r)) := fun z hz => by
  have hcm := cmAll_le x.1 (y :: r) x.1.length (Nat.le_refl _)
  have : z.1.take (cmAll x.1 (y :: r)) = x.1.take (cmAll x.1 (y :: r)) := by
    rcases List.mem_cons.1 hz with rfl | hz
    · rfl
    · have h1 : cmAll x.1 (y :: r) ≤ common x.1 z.1 := hcm.2 z hz
      have h2 := (common_take x.1 z.1).1
      have := congrArg (List.take (cmAll x.1 (y :: r))) h2
      rw [List.take_take, List.take_take, Nat.min_eq_left h1] at this
      exact this.symm
  rw [← this, List.take_append_drop]
theorem node_ok : ∀ (f : Nat) (l : List Pr), GoodL l → NdOk (nodeR f l)
  | 0, _, _ => by
    rw [nodeR]
    exact ⟨packed_ok (by rw [deepR]; omega) (by rw [Rlp.E]; decide), by rw [norm]⟩
  | f + 1, [], _ => by rw [nodeR]; exact nd_list [] (fun x hx => by cases hx) (by simp [Rlp.EL])
  | f + 1, [x], h => by
    rw [nodeR]
    have h1 := fld_bytes (ppk x.1 true) (by have := ppk_len x.1 true; have := h.len x List.mem_cons_self; omega)
    have h2 := fld_bytes x.2 (h.val x List.mem_cons_self)
    have h3 := ppk_len x.1 true
    have h4 := h.len x List.mem_cons_self
    have h5 := h.val x List.mem_cons_self
    refine nd_list _ (fun y hy => ?_) ?_
    · simp at hy
      rcases hy with rfl | rfl
      · exact ⟨h1.1, h1.2.2⟩
      · exact ⟨h2.1, h2.2.2⟩
    · have a := h1.2.1
      have b := h2.2.1
      simp only [Rlp.EL, List.length_append, List.length_nil]
      omega
  | f + 1, x :: y :: r, h => by
    rw [nodeR]
    have hcm := cmAll_le x.1 (y :: r) x.1.length (Nat.le_refl _)
    change cmAll x.1 (y :: r) ≤ x.1.length ∧ _ at hcm
    have h4 := h.len x List.mem_cons_self
    have hpre := cm_pre x y r
    split
    · have ih := node_ok f _ (good_rest h _ _ hpre)
      have h1 := fld_bytes (ppk (x.1.take (cmAll x.1 (y :: r))) false) (by have := ppk_len (x.1.take (cmAll x.1 (y :: r))) false; rw [List.length_take] at this; omega)
      have h2 := fld_refE (l := restP (cmAll x.1 (y :: r)) (x :: y :: r)) ih
      have h3 := ppk_len (x.1.take (cmAll x.1 (y :: r))) false
      rw [List.length_take] at h3
      refine nd_list _ (fun u hu => ?_) ?_
      · simp at hu
        rcases hu with rfl | rfl
        · exact ⟨h1.1, h1.2.2⟩
        · exact ⟨h2.1, h2.2.2⟩
      · have a := h1.2.1
        have b := h2.2.1
        simp only [Rlp.EL, List.length_append, List.length_nil]
        omega
    · have ih : ∀ d, NdOk (nodeR f (kidE d (x :: y :: r))) := fun d => node_ok f _ (good_kid h d)
      have hv := fld_bytes (valE (x :: y :: r)) (valE_len h)
      have hvl := valE_len h
      refine nd_list _ (fun u hu => ?_) ?_
      · rcases List.mem_append.1 hu with hu | hu
        · obtain ⟨d, _, rfl⟩ := List.mem_map.1 hu
          have := fld_refE (l := kidE d (x :: y :: r)) (ih d)
          exact ⟨this.1, this.2.2⟩
        · obtain rfl : u = _ := by simpa using hu
          exact ⟨hv.1, hv.2.2⟩
      · have h1 := EL_leN 36 ((List.range 16).map fun d => refE (kidE d (x :: y :: r)) (nodeR f (kidE d (x :: y :: r)))) (fun u hu => by
          obtain ⟨d, _, rfl⟩ := List.mem_map.1 hu
          exact (fld_refE (ih d)).2.1)
        rw [List.length_map, List.length_range] at h1
        rw [EL_append, List.length_append]
        have b := hv.2.1
        simp only [Rlp.EL, List.length_append, List.length_nil]
        omega
def Clash0 (U V : List (List UInt8)) : Prop := ∀ u ∈ U, ∀ v ∈ V, hash u = hash v → u = v
theorem pk_inj {x y : Raw} (hx : NdOk x) (hy : NdOk y) (h : pkB x = pkB y) : x = y := by
  rw [pkB_ok hx, pkB_ok hy] at h
  have h1 := readR_of hx.1
  have h2 := readR_of hy.1
  rw [h, h2, hx.2, hy.2] at h1
  injection h1 with h1
  exact h1.symm
theorem refE_inj {l m : List Pr} {U V : List (List UInt8)} {x y : Raw} {xs ys : List Raw} (hx : NdOk x) (hy : NdOk y) (hxl : l.isEmpty = false → x = .mk true [] xs) (hyl : m.isEmpty = false → y = .mk true [] ys) (H : Clash0 (refU l U x) (refU m V y)) (h : refE l x = refE m y) :
    (l.isEmpty = true ∧ m.isEmpty = true) ∨ (l.isEmpty = false ∧ m.isEmpty = false ∧ x = y) := by
  have hl32 : ∀ b : List UInt8, hash b ≠ [] := fun b e => by
    have := hash_length b
    rw [e] at this
    cases this
  unfold Clash0 refU at H
  unfold refE at h
  cases hl : l.isEmpty with
  | true =>
    rw [hl, if_pos rfl] at h
    cases hm : m.isEmpty with
    | true => exact .inl ⟨rfl, rfl⟩
    | false =>
      rw [hm, if_neg Bool.false_ne_true] at h
      unfold refI at h
      split at h
      · rw [hyl hm] at h
        injection h with h
        cases h
      · injection h with _ h
        exact absurd h.symm (hl32 _)
  | false =>
    rw [hl, if_neg Bool.false_ne_true] at h
    cases hm : m.isEmpty with
    | true =>
      rw [hm, if_pos rfl] at h
      unfold refI at h
      split at h
      · rw [hxl hl] at h
        injection h with h
        cases h
      · injection h with _ h
        exact absurd h (hl32 _)
    | false =>
      rw [hm, if_neg Bool.false_ne_true] at h
      rw [hl, hm, if_neg Bool.false_ne_true, if_neg Bool.false_ne_true] at H
      refine .inr ⟨rfl, rfl, ?_⟩
      unfold refI at h
      split at h
      · split at h
        · exact h
        · rw [hxl hl] at h
          injection h with h
          cases h
      · rename_i h1
        split at h
        · rw [hyl hm] at h
          injection h with h
          cases h
        · rename_i h2
          injection h with _ h
          exact pk_inj hx hy (H _ (List.mem_append.2 (.inr (by rw [if_neg h1]; exact List.mem_singleton.2 rfl))) _ (List.mem_append.2 (.inr (by rw [if_neg h2]; exact List.mem_singleton.2 rfl))) h)
theorem refU_sub {l m : List Pr} {U V : List (List UInt8)} {x y : Raw} (hl : l.isEmpty = false) (hm : m.isEmpty = false) (H : Clash0 (refU l U x) (refU m V y)) : Clash0 U V := fun u hu v hv e => by
  unfold Clash0 refU at H
  rw [hl, hm, if_neg Bool.false_ne_true, if_neg Bool.false_ne_true] at H
  exact H u (List.mem_append.2 (.inl hu)) v (List.mem_append.2 (.inl hv)) e
inductive NdIs (f : Nat) (l : List Pr) : Prop where
  | leaf (x : Pr) (h : l = [x]) (hn : nodeR (f + 1) l = .mk true [] [.mk false (ppk x.1 true) [], .mk false x.2 []])
  | ext (p : List UInt8) (h0 : 0 < p.length) (hp : ∀ z ∈ l, z.1 = p ++ z.1.drop p.length) (hs : ∀ c ∈ p, ∃ z ∈ l, c ∈ z.1) (hn : nodeR (f + 1) l = .mk true [] [.mk false (ppk p false) [], refE (restP p.length l) (nodeR f (restP p.length l))]) (hU : strsR (f + 1) l = refU (restP p.length l) (strsR f (restP p.length l)) (nodeR f (restP p.length l)))
  | br (hn : nodeR (f + 1) l = .mk true [] ((List.range 16).map (fun d => refE (kidE d l) (nodeR f (kidE d l))) ++ [.mk false (valE l) []])) (hU : strsR (f + 1) l = ((List.range 16).map fun d => refU (kidE d l) (strsR f (kidE d l)) (nodeR f (kidE d l))).flatten)
theorem ndIs (f : Nat) : ∀ l : List Pr, l.isEmpty = false → NdIs f l
  | [x], _ => .leaf x rfl (by rw [nodeR])
  | x :: y :: r, _ => by
    by_cases hp : 0 < cmAll x.1 (y :: r)
    · have hle : cmAll x.1 (y :: r) ≤ x.1.length := (cmAll_le x.1 (y :: r) x.1.length (Nat.le_refl _)).1
      have hln : (x.1.take (cmAll x.1 (y :: r))).length = cmAll x.1 (y :: r) := by rw [List.length_take]; omega
      refine .ext (x.1.take (cmAll x.1 (y :: r))) (by omega) ?_ (fun c hc => ⟨x, List.mem_cons_self, List.mem_of_mem_take hc⟩) ?_ ?_
      · rw [hln]
        exact cm_pre x y r
      · rw [hln, nodeR, if_pos hp]
      · rw [hln, strsR, if_pos hp]
    · refine .br ?_ ?_
      · rw [nodeR, if_neg hp]
      · rw [strsR, if_neg hp]
theorem nodeR_list (f : Nat) (l : List Pr) : ∃ xs, nodeR (f + 1) l = .mk true [] xs := by
  cases hl : l.isEmpty with
  | true =>
    obtain rfl : l = [] := by simpa using hl
    exact ⟨_, by rw [nodeR]⟩
  | false =>
    rcases ndIs f l hl with ⟨x, _, h⟩ | ⟨p, _, _, _, h, _⟩ | ⟨h, _⟩ <;> exact ⟨_, h⟩
theorem valE_at {l : List Pr} (h : GoodL l) {z : Pr} (hz : z ∈ l) (h0 : z.1 = []) : valE l = z.2 := by
  rcases valE_from l [] with ⟨_, h2⟩ | ⟨x, hx, h1, h2⟩
  · exact absurd h0 (h2 z hz)
  · unfold valE
    rw [h2, h.fn x hx z hz (by rw [h1, h0])]
theorem valE_of {l : List Pr} (h : valE l ≠ []) : ∃ z ∈ l, z.1 = [] ∧ z.2 = valE l := by
  rcases valE_from l [] with ⟨h1, _⟩ | ⟨x, hx, h1, h2⟩
  · exact absurd h1 h
  · exact ⟨x, hx, h1, h2.symm⟩
theorem kid_empty_false {d : Nat} {l : List Pr} {z : Pr} (h : z ∈ kidE d l) : (kidE d l).isEmpty = false := by
  cases hk : kidE d l with
  | nil => rw [hk] at h; cases h
  | cons _ _ => rfl
theorem mem_kid {d : Nat} {l : List Pr} {t : List UInt8} {v : List UInt8} (hd : d < 256) : (t, v) ∈ kidE d l ↔ (UInt8.ofNat d :: t, v) ∈ l := by
  constructor
  · intro h
    obtain ⟨w, hw, hh, e⟩ := kidE_mem h
    obtain ⟨c, s, e1, e2⟩ := headD_cons hh
    injection e with e3 e4
    rw [e1, List.drop_succ_cons, List.drop_zero] at e3
    have : w = (UInt8.ofNat d :: t, v) := Prod.ext (by rw [e1, ← e2, UInt8.ofNat_toNat, e3]) e4.symm
    rw [← this]
    exact hw
  · intro h
    refine List.mem_map.2 ⟨_, List.mem_filter.2 ⟨h, ?_⟩, rfl⟩
    simp only [headD, UInt8.toNat_ofNat']
    rw [Nat.mod_eq_of_lt hd]
    simp
theorem node_inj : ∀ (f : Nat) (l m : List Pr), l.isEmpty = false → m.isEmpty = false → (∀ x ∈ l, x.1.length < f) → (∀ x ∈ m, x.1.length < f) → GoodL l → GoodL m → Clash0 (strsR f l) (strsR f m) → nodeR f l = nodeR f m → ∀ z ∈ l, z ∈ m
  | 0, l, m, hl, _, hf, _, _, _, _, _ => by
    cases l with
    | nil => cases hl
    | cons x r => exact absurd (hf x List.mem_cons_self) (Nat.not_lt_zero _)
  | f + 1, l, m, hl, hm, hfl, hfm, gl, gm, H, h => by
    intro z hz
    rcases ndIs f l hl with ⟨x, h1, n1⟩ | ⟨p, p0, hp, ps, n1, u1⟩ | ⟨n1, u1⟩ <;> rcases ndIs f m hm with ⟨y, h2, n2⟩ | ⟨q, q0, hq, qs, n2, u2⟩ | ⟨n2, u2⟩ <;> rw [n1, n2] at h <;> injection h with _ _ h
    · injection h with e1 e2
      injection e1 with _ e1
      injection e2 with e2
      injection e2 with _ e2
      subst h1 h2
      obtain ⟨e, _⟩ := ppk_inj (gl.nib x List.mem_cons_self) (gm.nib y List.mem_cons_self) e1
      obtain rfl : z = x := by simpa using hz
      rw [show z = y from Prod.ext e e2]
      exact List.mem_cons_self
    · injection h with e1 e2
      injection e1 with _ e1
      subst h1
      obtain ⟨_, e⟩ := ppk_inj (gl.nib x List.mem_cons_self) (fun c hc => by obtain ⟨w, hw, h3⟩ := qs c hc; exact gm.nib w hw c h3) e1
      cases e
    · have := congrArg List.length h
      simp at this
    · injection h with e1 e2
      injection e1 with _ e1
      subst h2
      obtain ⟨_, e⟩ := ppk_inj (fun c hc => by obtain ⟨w, hw, h3⟩ := ps c hc; exact gl.nib w hw c h3) (gm.nib y List.mem_cons_self) e1
      cases e
    · injection h with e1 e2
      injection e1 with _ e1
      injection e2 with e2
      obtain ⟨e, _⟩ := ppk_inj (fun c hc => by obtain ⟨w, hw, h3⟩ := ps c hc; exact gl.nib w hw c h3) (fun c hc => by obtain ⟨w, hw, h3⟩ := qs c hc; exact gm.nib w hw c h3) e1
      subst e
      rw [u1, u2] at H
      have gl' := good_rest gl _ _ hp
      have gm' := good_rest gm _ _ hq
      have hl' : (restP p.length l).isEmpty = false := by
        cases l with
        | nil => cases hl
        | cons _ _ => rfl
      have hm' : (restP p.length m).isEmpty = false := by
        cases m with
        | nil => cases hm
        | cons _ _ => rfl
      have hshort : ∀ (l : List Pr), (∀ x ∈ l, x.1.length < f + 1) → (∀ z ∈ l, z.1 = p ++ z.1.drop p.length) → ∀ x ∈ restP p.length l, x.1.length < f := fun l hfl hp x hx => by
        obtain ⟨w, hw, rfl⟩ := List.mem_map.1 hx
        have h1 := hfl w hw
        have h2 := congrArg List.length (hp w hw)
        rw [List.length_append] at h2
        show (w.1.drop p.length).length < f
        omega
      have hfl' := hshort l hfl hp
      have hfm' := hshort m hfm hq
      obtain ⟨f', rfl⟩ : ∃ f', f = f' + 1 := by
        cases hr : restP p.length l with
        | nil => rw [hr] at hl'; cases hl'
        | cons w _ =>
          have := hfl' w (by rw [hr]; exact List.mem_cons_self)
          exact ⟨f - 1, by omega⟩
      obtain ⟨xs, hxs⟩ := nodeR_list f' (restP p.length l)
      obtain ⟨ys, hys⟩ := nodeR_list f' (restP p.length m)
      rcases refE_inj (node_ok _ _ gl') (node_ok _ _ gm') (fun _ => hxs) (fun _ => hys) H e2 with ⟨e, _⟩ | ⟨_, _, e⟩
      · rw [hl'] at e
        cases e
      · have ih := node_inj (f' + 1) _ _ hl' hm' hfl' hfm' gl' gm' (refU_sub hl' hm' H) e (z.1.drop p.length, z.2) (List.mem_map.2 ⟨z, hz, rfl⟩)
        obtain ⟨w, hw, e⟩ := List.mem_map.1 ih
        injection e with e3 e4
        rw [show z = w from Prod.ext (by rw [hp z hz, hq w hw, e3]) e4.symm]
        exact hw
    · have := congrArg List.length h
      simp at this
    · have := congrArg List.length h
      simp at this
    · have := congrArg List.length h
      simp at this
    · obtain ⟨hk, hv⟩ := List.append_inj h (by simp)
      injection hv with hv
      injection hv with _ hv
      obtain ⟨zp, zv⟩ := z
      cases zp with
      | nil =>
        have h1 := valE_at gl hz rfl
        have h2 := gl.some _ hz
        obtain ⟨w, hw, e1, e2⟩ := valE_of (l := m) (by rw [← hv, h1]; exact h2)
        rw [show (([] : List UInt8), zv) = w from Prod.ext e1.symm (by rw [e2, ← hv, h1])]
        exact hw
      | cons c t =>
        have hc := gl.nib _ hz c List.mem_cons_self
        have hd : c.toNat ∈ List.range 16 := List.mem_range.2 (by omega)
        have hkz : (t, zv) ∈ kidE c.toNat l := (mem_kid (by omega)).2 (by rw [UInt8.ofNat_toNat]; exact hz)
        have hl' := kid_empty_false hkz
        have e2 := List.map_inj_left.1 hk c.toNat hd
        have H' : Clash0 (refU (kidE c.toNat l) (strsR f (kidE c.toNat l)) (nodeR f (kidE c.toNat l))) (refU (kidE c.toNat m) (strsR f (kidE c.toNat m)) (nodeR f (kidE c.toNat m))) := fun u hu v hv e => H u (by rw [u1]; exact List.mem_flatten.2 ⟨_, List.mem_map.2 ⟨_, hd, rfl⟩, hu⟩) v (by rw [u2]; exact List.mem_flatten.2 ⟨_, List.mem_map.2 ⟨_, hd, rfl⟩, hv⟩) e
        have hshort : ∀ (l : List Pr), (∀ x ∈ l, x.1.length < f + 1) → ∀ x ∈ kidE c.toNat l, x.1.length < f := fun l hfl x hx => by
          obtain ⟨w, hw, hh, rfl⟩ := kidE_mem hx
          have h1 := hfl w hw
          have h2 := headD_pos hh
          show (w.1.drop 1).length < f
          rw [List.length_drop]
          omega
        obtain ⟨f', rfl⟩ : ∃ f', f = f' + 1 := by
          have := hshort l hfl _ hkz
          exact ⟨f - 1, by omega⟩
        obtain ⟨xs, hxs⟩ := nodeR_list f' (kidE c.toNat l)
        obtain ⟨ys, hys⟩ := nodeR_list f' (kidE c.toNat m)
        rcases refE_inj (node_ok _ _ (good_kid gl _)) (node_ok _ _ (good_kid gm _)) (fun _ => hxs) (fun _ => hys) H' e2 with ⟨e, _⟩ | ⟨_, hm', e⟩
        · rw [hl'] at e
          cases e
        · have ih := node_inj (f' + 1) _ _ hl' hm' (hshort l hfl) (hshort m hfm) (good_kid gl _) (good_kid gm _) (refU_sub hl' hm' H') e _ hkz
          have := (mem_kid (by omega)).1 ih
          rw [UInt8.ofNat_toNat] at this
          exact this
end E
end Go.Proofs.Ytmlajcbabimkjaa
