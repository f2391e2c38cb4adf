/-
  Merged (wip/tools/merge.py): RT4.
  Conditions: none.
-/
import Derived.Test.YtdhicdnmgmkpkaaGreatZN26
/-
  The reference's state at accounts with code and slots: SetSlot.
  Conditions: none.
-/
namespace Go.Proofs.YtdhicdnmgmkpkaaGreat
set_option linter.unusedVariables false
open Go.RowKit Mono Rlp Wd
namespace E
set_option maxRecDepth 20000 in
set_option maxHeartbeats 8000000 in
theorem f_rLess (l m : List UInt8) : Fn 114 [.arr 32 l, .arr 32 m] (· = .val (.v (.bool (Op.bytesLess l m)))) := by
  have hb := bin_strlt l m
  refine Fn.walk 10 Tryz.func114 rfl Tryz.ntmps114 (by simp) fun X => ?_
  repeat
    (first
     | (apply P_assign; (iterate 3 exact rfl)) | (apply P_box; exact rfl; exact rfl; exact rfl; intro _) | apply EL.nil | ((with_reducible apply EK.then_normal); apply EK.code)
     | (with_reducible first | apply EC.seq | apply EC.region | apply EC.skip | apply EC.label | apply EC.block | apply EC.exit | apply EC.ret | apply EK.in_normal | apply EK.in_same | apply EK.in_ret | apply EK.then_ret | apply EK.then_exit))
  refine EC.draw 5 (by kernel_rfl) ?_
  simp only [List.take_succ_cons, List.take_zero, List.drop_succ_cons, List.drop_zero]
  repeat
    (first
     | (apply H_slarr; exact sl_word; (iterate 3 exact rfl)) | (apply H_strvar; exact rfl; exact I0; (iterate 4 exact rfl)) | (apply H_strvar; exact rfl; exact I1; (iterate 4 exact rfl))
     | (apply H_bin; (iterate 2 exact rfl); exact hb; (iterate 2 exact rfl)) | ((with_reducible apply EH.nil); exact rfl))
  repeat
    (first
     | (apply P_assign; (iterate 3 exact rfl)) | apply EL.nil | ((with_reducible apply EK.then_normal); apply EK.code)
     | (with_reducible first | apply EC.seq | apply EC.region | apply EC.skip | apply EC.label | apply EC.block | apply EC.exit | apply EC.ret | apply EK.in_normal | apply EK.in_same | apply EK.in_ret | apply EK.then_ret | apply EK.then_exit))
  exact EK.ret1 rfl rfl rfl
theorem placeS (q : List UInt8) : ∀ (l : List (List UInt8 × List UInt8)), l.Pairwise (fun x y => x.1 < y.1) → ∃ l1 l2, (∀ x ∈ l1, x.1 < q) ∧ (∀ y ∈ l2, q < y.1) ∧ ((∃ v, l = l1 ++ (q, v) :: l2) ∨ l = l1 ++ l2)
  | [], _ => ⟨[], [], fun x hx => by simp at hx, fun y hy => by simp at hy, .inr rfl⟩
  | x :: l, h => by
    obtain ⟨h1, h2⟩ := List.pairwise_cons.1 h
    by_cases hlt : x.1 < q
    · obtain ⟨l1, l2, h3, h4, h5⟩ := placeS q l h2
      refine ⟨x :: l1, l2, fun y hy => ?_, h4, ?_⟩
      · rcases List.mem_cons.1 hy with rfl | hy
        · exact hlt
        · exact h3 y hy
      · rcases h5 with ⟨y, rfl⟩ | rfl
        · exact .inl ⟨y, rfl⟩
        · exact .inr rfl
    · by_cases he : x.1 = q
      · exact ⟨[], l, fun y hy => by simp at hy, fun y hy => he ▸ h1 y hy, .inl ⟨x.2, by rw [← he]; rfl⟩⟩
      · have hxa : q < x.1 := Classical.byContradiction fun hn => he (List.le_antisymm (List.not_lt.1 hn) (List.not_lt.1 hlt))
        refine ⟨[], x :: l, fun y hy => by simp at hy, fun y hy => ?_, .inr rfl⟩
        rcases List.mem_cons.1 hy with rfl | hy
        · exact hxa
        · exact List.lt_trans hxa (h1 y hy)
def put1 (q v : List UInt8) : List (List UInt8 × List UInt8) := if v = zero32 then [] else [(q, v)]
theorem AcL.Is.put {x : AcL} {y : Ac} (h : x.Is y) {q v : List UInt8} {l1 l2 : List (List UInt8 × List UInt8)} (h1 : ∀ x ∈ l1, x.1 < q) (h2 : ∀ y ∈ l2, q < y.1) (h3 : (∃ v, x.sl = l1 ++ (q, v) :: l2) ∨ x.sl = l1 ++ l2) : ({x with sl := l1 ++ put1 q v ++ l2} : AcL).Is (y.slot q v) := by
  have hm : ∀ p, p ∈ l1 ∨ p ∈ l2 → p ∈ x.sl := fun p hp => by
    rcases h3 with ⟨u, e⟩ | e <;> rw [e] <;> simp only [List.mem_append, List.mem_cons]
    · exact hp.imp id .inr
    · exact hp
  have ho : l1.Pairwise (fun x y => x.1 < y.1) ∧ l2.Pairwise (fun x y => x.1 < y.1) := by
    have := h.ord
    rcases h3 with ⟨u, e⟩ | e <;> rw [e] at this
    · exact ⟨(List.pairwise_append.1 this).1, (List.pairwise_cons.1 (List.pairwise_append.1 this).2.1).2⟩
    · exact ⟨(List.pairwise_append.1 this).1, (List.pairwise_append.1 this).2.1⟩
  have hp1 : ∀ p ∈ put1 q v, p = (q, v) ∧ v ≠ zero32 := fun p hp => by
    unfold put1 at hp
    split at hp
    · simp at hp
    · rename_i hv
      exact ⟨by simpa using hp, hv⟩
  have hne : ∀ p, p ∈ l1 ∨ p ∈ l2 → ¬ q = p.1 := fun p hp e => by
    rcases hp with hp | hp
    · have := h1 p hp
      rw [e] at this
      exact List.lt_irrefl _ this
    · have := h2 p hp
      rw [e] at this
      exact List.lt_irrefl _ this
  refine ⟨h.n, h.w, h.cd, ?_, fun p hp => ?_, fun k hk => ?_⟩
  · refine List.pairwise_append.2 ⟨List.pairwise_append.2 ⟨ho.1, ?_, fun u hu z hz => ?_⟩, ho.2, fun u hu z hz => ?_⟩
    · unfold put1
      split
      · exact .nil
      · exact List.pairwise_singleton _ _
    · rw [(hp1 z hz).1]
      exact h1 u hu
    · rcases List.mem_append.1 hu with hu | hu
      · exact List.lt_trans (h1 u hu) (h2 z hz)
      · rw [(hp1 u hu).1]
        exact h2 z hz
  · dsimp only at hp
    unfold Ac.slot
    dsimp only
    by_cases hq : p ∈ l1 ∨ p ∈ l2
    · rw [if_neg (hne p hq)]
      exact h.val p (hm p hq)
    · have : p ∈ put1 q v := by
        simp only [List.mem_append] at hp
        rcases hp with (hp | hp) | hp
        · exact absurd (.inl hp) hq
        · exact hp
        · exact absurd (.inr hp) hq
      obtain ⟨rfl, hv⟩ := hp1 p this
      rw [if_pos rfl]
      exact ⟨rfl, hv⟩
  · unfold Ac.slot at hk
    dsimp only at hk ⊢
    by_cases hqk : q = k
    · rw [if_pos hqk] at hk
      exact ⟨(q, v), by unfold put1; rw [if_neg hk]; simp, hqk⟩
    · rw [if_neg hqk] at hk
      obtain ⟨p, hp, e⟩ := h.all k hk
      refine ⟨p, ?_, e⟩
      rcases h3 with ⟨u, e2⟩ | e2 <;> rw [e2] at hp <;> simp only [List.mem_append, List.mem_cons] at hp ⊢
      · rcases hp with hp | rfl | hp
        · exact .inl (.inl hp)
        · exact absurd e hqk
        · exact .inr hp
      · exact hp.imp .inl id
variable {g N : Nat} {A : As} {os : List Obj} {a : List UInt8}
set_option maxRecDepth 20000 in
set_option maxHeartbeats 16000000 in
theorem rs_setSlot (h : RSt g A N os) (hN : N ≤ 1000000) (q v : List UInt8) : FnM 65 [.v (ptr g), .arr 20 a, .arr 32 q, .arr 32 v] os (fun r os' => r = .tpl [] ∧ RSt g (A.upd a ((A a).slot q v)) (N + 1) os') := by
  obtain ⟨L, k, n, l, rfl, hR, hlN⟩ := h
  have h1 := rat (g := g) (L := L) (k := k) (n := n) hR a (by omega)
  refine FnM.walk 85 Tryz.func65 rfl Tryz.ntmps65 (by simp) fun X => ?_
  repeat
    (first
     | (apply P_callT h1 [_, _, _] rfl rfl (RefineL.refl _ _) (by intro _ _; simp [go_sem]) rfl rfl; rintro _ _ ⟨L', l1, x, l2, ha, hll, rfl, rfl⟩; simp only [List.cons_append, List.nil_append])
     | (apply P_move; (iterate 3 exact rfl)) | (apply P_assign; (iterate 3 exact rfl))
     | (apply P_load; exact rfl; (first | exact I0 | exact I1 | exact I2 | exact I3 | exact I4 | exact I5 | exact I6); (iterate 4 exact rfl)) | (apply P_box; exact rfl; exact rfl; exact rfl; intro _)
     | apply EL.nil | ((with_reducible apply EK.then_normal); apply EK.code)
     | (with_reducible first | apply EC.seq | apply EC.region | apply EC.skip | apply EC.label | apply EC.block | apply EC.exit | apply EC.ret | apply EK.in_normal | apply EK.in_same | apply EK.in_ret | apply EK.then_ret | apply EK.then_exit))
  rename_i g5 g6 g7
  obtain ⟨s1, s2, hs1, hs2, h3⟩ := placeS q x.sl ha.is.ord
  have hd0 := get_amid l1 l2 x
  have hxl : s1.length + s2.length ≤ x.sl.length := by rcases h3 with ⟨u, e⟩ | e <;> rw [e] <;> simp <;> omega
  have hxN := ha.bx.1
  have hml : (x.sl.map dSlL).length = x.sl.length := List.length_map _
  have hg1 : ∀ i (hi : i < s1.length), x.sl[i]? = some s1[i] := fun i hi => by rcases h3 with ⟨u, e⟩ | e <;> rw [e, List.getElem?_append_left hi, List.getElem?_eq_getElem hi]
  have hput := ha.is.put (v := v) hs1 hs2 h3
  obtain ⟨xa, xn, xw, xc, xs⟩ := x
  dsimp only at hxl hxN hml hg1 h3 hput
  unfold dAcL at hd0
  dsimp only at hd0
  refine EC.loop (ι := {i : Nat // i ≤ s1.length})
    (fun i => ⟨[(9, .val (.v (.int .i64 (i.1 : Int)))), (8, .val (.v (elemPtr L' ((l1.length : Int).toNat * 55)))), (7, .val (.v (.pointer (some ⟨g7, 0, none⟩)))), (6, .val (.v (.pointer (some ⟨g6, 0, none⟩))))], [.var g7 34 (.arr 32 v), .var g6 34 (.arr 32 q), .var g5 32 (.arr 20 a), rsO g L' k n, raA L' (l1 ++ ⟨xa, xn, xw, xc, xs⟩ :: l2)], []⟩)
    (fun i => s1.length - i.1) ⟨0, Nat.zero_le _⟩ ?_ ?_
  · exact (Le.keep (by repeat first | exact trivial | refine ⟨rfl, ?_⟩) (by repeat first | exact List.nil_sublist _ | apply List.Sublist.cons_cons | apply List.Sublist.cons) (by simp))
  rintro ⟨i, hi⟩
  dsimp only at hi ⊢
  by_cases hlt : i < s1.length
  · have hil : i < xs.length := by omega
    have hd : (xs.map dSlL)[i]? = some (.tup [.arr 32 s1[i].1, .arr 32 s1[i].2]) := by rw [List.getElem?_map, hg1 i hlt]; rfl
    have hb := f_rLess s1[i].1 q
    rw [lt_bl (hs1 _ (List.getElem_mem hlt))] at hb
    repeat
      (first
       | (with_reducible first | apply EC.seq | apply EC.region | apply EC.skip | apply EC.label | apply EC.block | apply EC.exit | apply EC.ret | apply EK.in_normal | apply EK.in_same | apply EK.in_ret | apply EK.then_ret | apply EK.then_exit))
    refine EC.draw 19 (by kernel_rfl) ?_
    simp only [List.take_succ_cons, List.take_zero, List.drop_succ_cons, List.drop_zero]
    repeat
      (first
       | (apply H_rowload (k := l1.length) (off := 54) (d := .tup [.arr 20 xa, .v (.int .i64 xn), .arr 32 xw, .bs xc, .sl 64 (xs.map dSlL)]); exact rfl; exact I4; exact ⟨by simp, hd0⟩; (iterate 4 exact rfl))
       | (apply H_call (hb); exact rfl; (focus (repeat first | exact RefineL.refl _ _ | exact RL.nil | exact Rf.same | exact Rf.bs0 | exact Rf.sl0 | (apply Rf.fact; (focus (simp; done)); exact rfl) | apply Rf.tup | apply RL.cons)); (focus (intro _ _; simp [go_sem]; done)); (iterate 2 exact rfl))
       | (apply H_move; (iterate 3 exact rfl)) | (apply H_fieldpd; (iterate 7 exact rfl)) | (apply H_loadpd; (iterate 5 exact rfl)) | (apply H_pick; (iterate 4 exact rfl))
       | (apply H_load; exact rfl; (first | exact I0 | exact I1 | exact I2 | exact I3 | exact I4 | exact I5 | exact I6); (iterate 4 exact rfl))
       | (apply H_cmp (b := true); (iterate 2 exact rfl); (focus (first | (simp [cmpI]; done) | (simp [cmpI]; omega))); (iterate 2 exact rfl)) | (apply H_lensl; (iterate 4 exact rfl))
       | (apply H_index; (iterate 4 exact rfl); (focus (first | exact ⟨by decide, rfl⟩ | (refine ⟨by omega, ?_⟩; rw [Int.toNat_natCast]; assumption))); (iterate 2 exact rfl))
       | (apply H_rownil; exact rfl; (first | exact I0 | exact I1 | exact I2 | exact I3 | exact I4 | exact I5 | exact I6); (focus (first | omega | (simp; done) | (simp; omega))); (iterate 2 exact rfl))
       | (apply H_rowfield; exact rfl; (first | exact I0 | exact I1 | exact I2 | exact I3 | exact I4 | exact I5 | exact I6); (focus (first | omega | (simp; done) | (simp; omega))); (iterate 5 exact rfl))
       | ((with_reducible apply EH.nil); exact rfl))
    repeat
      (first
       | (apply P_move; (iterate 3 exact rfl)) | (apply P_assign; (iterate 3 exact rfl)) | (apply P_ar; (iterate 3 exact rfl); (focus omega); (focus omega); (iterate 2 exact rfl)) | apply EL.nil
       | ((with_reducible apply EK.then_normal); apply EK.code) | (apply EC.cond_true; exact rfl)
       | (with_reducible first | apply EC.seq | apply EC.region | apply EC.skip | apply EC.label | apply EC.block | apply EC.exit | apply EC.ret | apply EK.in_normal | apply EK.in_same | apply EK.in_ret | apply EK.then_ret | apply EK.then_exit))
    refine EK.again ⟨i + 1, hlt⟩ (by dsimp only; omega) ?_
    simp only [Int.natCast_add]
    exact (Le.keep (by repeat first | exact trivial | refine ⟨rfl, ?_⟩) (by repeat first | exact List.nil_sublist _ | apply List.Sublist.cons_cons | apply List.Sublist.cons) (by simp))
  · have hiE : i = s1.length := by omega
    subst hiE
    have hpv : put1 q v = if v = zero32 then [] else [(q, v)] := rfl
    have hcase : (∃ u, xs = s1 ++ (q, u) :: s2) ∨ (∃ p s3, s2 = p :: s3 ∧ xs = s1 ++ p :: s3 ∧ q < p.1) ∨ (s2 = [] ∧ s1 = xs) := by
      rcases h3 with h3 | h3
      · exact .inl h3
      · cases s2 with
        | nil => exact .inr (.inr ⟨rfl, by simpa using h3.symm⟩)
        | cons p s3 => exact .inr (.inl ⟨p, s3, rfl, h3, hs2 p List.mem_cons_self⟩)
    rcases hcase with ⟨u, rfl⟩ | ⟨p, s3, rfl, rfl, hqp⟩ | ⟨rfl, rfl⟩
    · have hd : ((s1 ++ (q, u) :: s2).map dSlL)[s1.length]? = some (.tup [.arr 32 q, .arr 32 u]) := by simp [dSlL]
      have hb := f_rLess q q
      rw [bl_irr] at hb
      have he := (bin_word q q).1
      rw [beq_self_eq_true] at he
      have hxl2 : (s1 ++ (q, u) :: s2).length = s1.length + 1 + s2.length := by simp; omega
      have hT : List.take (↑s1.length : Int).toNat (List.map dSlL (s1 ++ (q, u) :: s2)) = s1.map dSlL := by rw [Int.toNat_natCast, ← List.map_take]; simp
      have hDr : List.drop (↑s1.length + 1 : Int).toNat (List.map dSlL (s1 ++ (q, u) :: s2)) = (s2).map dSlL := by rw [show (↑s1.length + 1 : Int).toNat = s1.length + 1 by omega, ← List.map_drop]; simp [List.drop_append]
      repeat
        (first
         | (with_reducible first | apply EC.seq | apply EC.region | apply EC.skip | apply EC.label | apply EC.block | apply EC.exit | apply EC.ret | apply EK.in_normal | apply EK.in_same | apply EK.in_ret | apply EK.then_ret | apply EK.then_exit))
      refine EC.draw 19 (by kernel_rfl) ?_
      simp only [List.take_succ_cons, List.take_zero, List.drop_succ_cons, List.drop_zero]
      repeat
        (first
         | (apply H_rowload (k := l1.length) (off := 54) (d := .tup [.arr 20 xa, .v (.int .i64 xn), .arr 32 xw, .bs xc, .sl 64 ((s1 ++ (q, u) :: s2).map dSlL)]); exact rfl; exact I4; exact ⟨by simp, hd0⟩; (iterate 4 exact rfl))
         | (apply H_call (hb); exact rfl; (focus (repeat first | exact RefineL.refl _ _ | exact RL.nil | exact Rf.same | exact Rf.bs0 | exact Rf.sl0 | (apply Rf.fact; (focus (simp; done)); exact rfl) | apply Rf.tup | apply RL.cons)); (focus (intro _ _; simp [go_sem]; done)); (iterate 2 exact rfl))
         | (apply H_move; (iterate 3 exact rfl)) | (apply H_fieldpd; (iterate 7 exact rfl)) | (apply H_loadpd; (iterate 5 exact rfl)) | (apply H_pick; (iterate 4 exact rfl))
         | (apply H_load; exact rfl; (first | exact I0 | exact I1 | exact I2 | exact I3 | exact I4 | exact I5 | exact I6); (iterate 4 exact rfl))
         | (apply H_cmp (b := true); (iterate 2 exact rfl); (focus (first | (simp [cmpI]; done) | (simp [cmpI]; omega))); (iterate 2 exact rfl)) | (apply H_lensl; (iterate 4 exact rfl))
         | (apply H_index; (iterate 4 exact rfl); (focus (first | exact ⟨by decide, rfl⟩ | (refine ⟨by omega, ?_⟩; rw [Int.toNat_natCast]; assumption))); (iterate 2 exact rfl))
         | (apply H_rownil; exact rfl; (first | exact I0 | exact I1 | exact I2 | exact I3 | exact I4 | exact I5 | exact I6); (focus (first | omega | (simp; done) | (simp; omega))); (iterate 2 exact rfl))
         | (apply H_rowfield; exact rfl; (first | exact I0 | exact I1 | exact I2 | exact I3 | exact I4 | exact I5 | exact I6); (focus (first | omega | (simp; done) | (simp; omega))); (iterate 5 exact rfl))
         | ((with_reducible apply EH.nil); exact rfl))
      repeat
        (first
         | (apply P_move; (iterate 3 exact rfl)) | (apply P_assign; (iterate 3 exact rfl)) | apply EL.nil | ((with_reducible apply EK.then_normal); apply EK.code) | (apply EC.cond_false; exact rfl)
         | (with_reducible first | apply EC.seq | apply EC.region | apply EC.skip | apply EC.label | apply EC.block | apply EC.exit | apply EC.ret | apply EK.in_normal | apply EK.in_same | apply EK.in_ret | apply EK.then_ret | apply EK.then_exit))
      refine EC.draw 19 (by kernel_rfl) ?_
      simp only [List.take_succ_cons, List.take_zero, List.drop_succ_cons, List.drop_zero]
      repeat
        (first
         | (apply H_rowload (k := l1.length) (off := 54) (d := .tup [.arr 20 xa, .v (.int .i64 xn), .arr 32 xw, .bs xc, .sl 64 ((s1 ++ (q, u) :: s2).map dSlL)]); exact rfl; exact I4; exact ⟨by simp, hd0⟩; (iterate 4 exact rfl))
         | (apply H_bin; (iterate 2 exact rfl); exact he; (iterate 2 exact rfl)) | (apply H_move; (iterate 3 exact rfl)) | (apply H_fieldpd; (iterate 7 exact rfl)) | (apply H_loadpd; (iterate 5 exact rfl))
         | (apply H_pick; (iterate 4 exact rfl)) | (apply H_load; exact rfl; (first | exact I0 | exact I1 | exact I2 | exact I3 | exact I4 | exact I5 | exact I6); (iterate 4 exact rfl))
         | (apply H_cmp (b := true); (iterate 2 exact rfl); (focus (first | (simp [cmpI]; done) | (simp [cmpI]; omega))); (iterate 2 exact rfl)) | (apply H_lensl; (iterate 4 exact rfl))
         | (apply H_index; (iterate 4 exact rfl); (focus (first | exact ⟨by decide, rfl⟩ | (refine ⟨by omega, ?_⟩; rw [Int.toNat_natCast]; assumption))); (iterate 2 exact rfl))
         | (apply H_rownil; exact rfl; (first | exact I0 | exact I1 | exact I2 | exact I3 | exact I4 | exact I5 | exact I6); (focus (first | omega | (simp; done) | (simp; omega))); (iterate 2 exact rfl))
         | (apply H_rowfield; exact rfl; (first | exact I0 | exact I1 | exact I2 | exact I3 | exact I4 | exact I5 | exact I6); (focus (first | omega | (simp; done) | (simp; omega))); (iterate 5 exact rfl))
         | ((with_reducible apply EH.nil); exact rfl))
      repeat
        (first
         | (apply P_rowload (k := l1.length) (off := 54) (d := .tup [.arr 20 xa, .v (.int .i64 xn), .arr 32 xw, .bs xc, .sl 64 ((s1 ++ (q, u) :: s2).map dSlL)]); exact rfl; exact I4; exact ⟨by simp, hd0⟩; (iterate 4 exact rfl))
         | (apply P_move; (iterate 3 exact rfl)) | (apply P_assign; (iterate 3 exact rfl)) | (apply P_ar; (iterate 3 exact rfl); (focus omega); (focus omega); (iterate 2 exact rfl))
         | (apply P_rownil; exact rfl; (first | exact I0 | exact I1 | exact I2 | exact I3 | exact I4 | exact I5 | exact I6); (focus (first | omega | (simp; done) | (simp; omega))); (iterate 2 exact rfl))
         | (apply P_rowfield; exact rfl; (first | exact I0 | exact I1 | exact I2 | exact I3 | exact I4 | exact I5 | exact I6); (focus (first | omega | (simp; done) | (simp; omega))); (iterate 5 exact rfl))
         | apply EL.nil | ((with_reducible apply EK.then_normal); apply EK.code) | (apply EC.cond_true; exact rfl)
         | (with_reducible first | apply EC.seq | apply EC.region | apply EC.skip | apply EC.label | apply EC.block | apply EC.exit | apply EC.ret | apply EK.in_normal | apply EK.in_same | apply EK.in_ret | apply EK.then_ret | apply EK.then_exit))
      refine EL.le (Le.row 103 64) ?_
      dsimp only
      by_cases hv : v = zero32
      · have hz := (bin_word v zero32).2
        rw [show (v != zero32) = false by simp [hv]] at hz
        repeat
          (first
           | (apply P_slto; (iterate 3 exact rfl); exact ⟨by omega, by rw [hml, hxl2, Int.toNat_natCast]; omega⟩; (iterate 2 exact rfl))
           | (apply P_slfrom; (iterate 3 exact rfl); exact ⟨by omega, by rw [hml, hxl2]; omega⟩; (iterate 2 exact rfl))
           | (apply P_rowload (k := l1.length) (off := 54) (d := .tup [.arr 20 xa, .v (.int .i64 xn), .arr 32 xw, .bs xc, .sl 64 ((s1 ++ (q, u) :: s2).map dSlL)]); exact rfl; exact I5; exact ⟨by simp, hd0⟩; (iterate 4 exact rfl))
           | (apply P_bin; (iterate 2 exact rfl); exact hz; (iterate 2 exact rfl)) | (apply P_move; (iterate 3 exact rfl)) | (apply P_assign; (iterate 3 exact rfl))
           | (apply P_load; exact rfl; (first | exact I0 | exact I1 | exact I2 | exact I3 | exact I4 | exact I5 | exact I6); (iterate 4 exact rfl)) | (apply P_build0; (iterate 5 exact rfl))
           | (apply P_rownil; exact rfl; (first | exact I0 | exact I1 | exact I2 | exact I3 | exact I4 | exact I5 | exact I6); (focus (first | omega | (simp; done) | (simp; omega))); (iterate 2 exact rfl))
           | (apply P_rowfield; exact rfl; (first | exact I0 | exact I1 | exact I2 | exact I3 | exact I4 | exact I5 | exact I6); (focus (first | omega | (simp; done) | (simp; omega))); (iterate 5 exact rfl))
           | ((apply P_append; exact rfl; (focus (repeat first | exact .z | apply SetAt.s | apply SetAtF.s)); (iterate 5 exact rfl); (focus (constructor <;> (first | (simp; done) | (simp; omega))))); intro _)
           | apply EL.nil | ((with_reducible apply EK.then_normal); apply EK.code) | (apply EC.cond_false; exact rfl)
           | (with_reducible first | apply EC.seq | apply EC.region | apply EC.skip | apply EC.label | apply EC.block | apply EC.exit | apply EC.ret | apply EK.in_normal | apply EK.in_same | apply EK.in_ret | apply EK.then_ret | apply EK.then_exit))
        refine EL.le (Le.freeze (pre := []) rfl) ?_
        refine EL.le (Le.refine (t := 82) rfl (Rf.fact List.mem_cons_self rfl)) ?_
        have hp : put1 q v = [] := by rw [hpv, if_pos hv]
        rw [hT, hDr, show [] ++ s1.map dSlL ++ (s2).map dSlL = (s1 ++ put1 q v ++ s2).map dSlL by rw [hp]; simp]
        repeat
          (first
           | (apply P_rowstore (k := l1.length) (off := 54) (d := .tup [.arr 20 xa, .v (.int .i64 xn), .arr 32 xw, .bs xc, .sl 64 ((s1 ++ (q, u) :: s2).map dSlL)]) (d'' := .tup [.arr 20 xa, .v (.int .i64 xn), .arr 32 xw, .bs xc, .sl 64 ((s1 ++ put1 q v ++ s2).map dSlL)]); exact rfl; exact .s (.s (.s (.s .z))); exact ⟨by simp, hd0⟩; (iterate 4 exact rfl))
           | apply EL.nil)
        exact EK.retM0n [rsO g L' k n, .row L' 74 55 (((l1 ++ ⟨xa, xn, xw, xc, (s1 ++ (q, u) :: s2)⟩ :: l2).map dAcL).set l1.length (dAcL ⟨xa, xn, xw, xc, s1 ++ put1 q v ++ s2⟩))] rfl (by (repeat first | exact List.nil_sublist _ | apply List.Sublist.cons_cons | apply List.Sublist.cons)) ⟨rfl, by rw [set_amid]; exact RSt.of ha (by omega) ha.ad ⟨by dsimp only; rw [hp]; simp; omega, ha.bx.2⟩ hput⟩
      · have hz := (bin_word v zero32).2
        rw [show (v != zero32) = true by simp [hv]] at hz
        repeat
          (first
           | (apply P_slto; (iterate 3 exact rfl); exact ⟨by omega, by rw [hml, hxl2, Int.toNat_natCast]; omega⟩; (iterate 2 exact rfl))
           | (apply P_slfrom; (iterate 3 exact rfl); exact ⟨by omega, by rw [hml, hxl2]; omega⟩; (iterate 2 exact rfl))
           | (apply P_rowload (k := l1.length) (off := 54) (d := .tup [.arr 20 xa, .v (.int .i64 xn), .arr 32 xw, .bs xc, .sl 64 ((s1 ++ (q, u) :: s2).map dSlL)]); exact rfl; exact I5; exact ⟨by simp, hd0⟩; (iterate 4 exact rfl))
           | (apply P_bin; (iterate 2 exact rfl); exact hz; (iterate 2 exact rfl)) | (apply P_move; (iterate 3 exact rfl)) | (apply P_assign; (iterate 3 exact rfl))
           | (apply P_load; exact rfl; (first | exact I0 | exact I1 | exact I2 | exact I3 | exact I4 | exact I5 | exact I6); (iterate 4 exact rfl)) | (apply P_build; (iterate 7 exact rfl))
           | (apply P_build0; (iterate 5 exact rfl)) | (apply P_lit; (iterate 9 exact rfl))
           | (apply P_rownil; exact rfl; (first | exact I0 | exact I1 | exact I2 | exact I3 | exact I4 | exact I5 | exact I6); (focus (first | omega | (simp; done) | (simp; omega))); (iterate 2 exact rfl))
           | (apply P_rowfield; exact rfl; (first | exact I0 | exact I1 | exact I2 | exact I3 | exact I4 | exact I5 | exact I6); (focus (first | omega | (simp; done) | (simp; omega))); (iterate 5 exact rfl))
           | ((apply P_append; exact rfl; (focus (repeat first | exact .z | apply SetAt.s | apply SetAtF.s)); (iterate 5 exact rfl); (focus (constructor <;> (first | (simp; done) | (simp; omega))))); intro _)
           | apply EL.nil | ((with_reducible apply EK.then_normal); apply EK.code) | (apply EC.cond_true; exact rfl)
           | (with_reducible first | apply EC.seq | apply EC.region | apply EC.skip | apply EC.label | apply EC.block | apply EC.exit | apply EC.ret | apply EK.in_normal | apply EK.in_same | apply EK.in_ret | apply EK.then_ret | apply EK.then_exit))
        refine EL.le (Le.freeze (pre := []) rfl) ?_
        refine EL.le (Le.refine (t := 82) rfl (Rf.fact List.mem_cons_self rfl)) ?_
        have hp : put1 q v = [(q, v)] := by rw [hpv, if_neg hv]
        rw [hT, hDr, show [] ++ s1.map dSlL ++ [D.tup [.arr 32 q, .arr 32 v]] ++ (s2).map dSlL = (s1 ++ put1 q v ++ s2).map dSlL by rw [hp]; simp [dSlL]]
        repeat
          (first
           | (apply P_rowstore (k := l1.length) (off := 54) (d := .tup [.arr 20 xa, .v (.int .i64 xn), .arr 32 xw, .bs xc, .sl 64 ((s1 ++ (q, u) :: s2).map dSlL)]) (d'' := .tup [.arr 20 xa, .v (.int .i64 xn), .arr 32 xw, .bs xc, .sl 64 ((s1 ++ put1 q v ++ s2).map dSlL)]); exact rfl; exact .s (.s (.s (.s .z))); exact ⟨by simp, hd0⟩; (iterate 4 exact rfl))
           | apply EL.nil)
        exact EK.retM0n [rsO g L' k n, .row L' 74 55 (((l1 ++ ⟨xa, xn, xw, xc, (s1 ++ (q, u) :: s2)⟩ :: l2).map dAcL).set l1.length (dAcL ⟨xa, xn, xw, xc, s1 ++ put1 q v ++ s2⟩))] rfl (by (repeat first | exact List.nil_sublist _ | apply List.Sublist.cons_cons | apply List.Sublist.cons)) ⟨rfl, by rw [set_amid]; exact RSt.of ha (by omega) ha.ad ⟨by dsimp only; rw [hp]; simp; omega, ha.bx.2⟩ hput⟩
    · have hd : ((s1 ++ p :: s3).map dSlL)[s1.length]? = some (.tup [.arr 32 p.1, .arr 32 p.2]) := by simp [dSlL]
      have hb := f_rLess p.1 q
      rw [ge_bl (fun h => List.lt_irrefl _ (List.lt_trans h hqp))] at hb
      have he := (bin_word p.1 q).1
      rw [show (p.1 == q) = false by simp only [beq_eq_false_iff_ne, ne_eq]; exact fun e => List.lt_irrefl q (by rwa [e] at hqp)] at he
      have hxl2 : (s1 ++ p :: s3).length = s1.length + 1 + s3.length := by simp; omega
      have hT : List.take (↑s1.length : Int).toNat (List.map dSlL (s1 ++ p :: s3)) = s1.map dSlL := by rw [Int.toNat_natCast, ← List.map_take]; simp
      have hDr : List.drop (↑s1.length : Int).toNat (List.map dSlL (s1 ++ p :: s3)) = ((p :: s3)).map dSlL := by rw [show (↑s1.length : Int).toNat = s1.length by omega, ← List.map_drop]; simp
      repeat
        (first
         | (with_reducible first | apply EC.seq | apply EC.region | apply EC.skip | apply EC.label | apply EC.block | apply EC.exit | apply EC.ret | apply EK.in_normal | apply EK.in_same | apply EK.in_ret | apply EK.then_ret | apply EK.then_exit))
      refine EC.draw 19 (by kernel_rfl) ?_
      simp only [List.take_succ_cons, List.take_zero, List.drop_succ_cons, List.drop_zero]
      repeat
        (first
         | (apply H_rowload (k := l1.length) (off := 54) (d := .tup [.arr 20 xa, .v (.int .i64 xn), .arr 32 xw, .bs xc, .sl 64 ((s1 ++ p :: s3).map dSlL)]); exact rfl; exact I4; exact ⟨by simp, hd0⟩; (iterate 4 exact rfl))
         | (apply H_call (hb); exact rfl; (focus (repeat first | exact RefineL.refl _ _ | exact RL.nil | exact Rf.same | exact Rf.bs0 | exact Rf.sl0 | (apply Rf.fact; (focus (simp; done)); exact rfl) | apply Rf.tup | apply RL.cons)); (focus (intro _ _; simp [go_sem]; done)); (iterate 2 exact rfl))
         | (apply H_move; (iterate 3 exact rfl)) | (apply H_fieldpd; (iterate 7 exact rfl)) | (apply H_loadpd; (iterate 5 exact rfl)) | (apply H_pick; (iterate 4 exact rfl))
         | (apply H_load; exact rfl; (first | exact I0 | exact I1 | exact I2 | exact I3 | exact I4 | exact I5 | exact I6); (iterate 4 exact rfl))
         | (apply H_cmp (b := true); (iterate 2 exact rfl); (focus (first | (simp [cmpI]; done) | (simp [cmpI]; omega))); (iterate 2 exact rfl)) | (apply H_lensl; (iterate 4 exact rfl))
         | (apply H_index; (iterate 4 exact rfl); (focus (first | exact ⟨by decide, rfl⟩ | (refine ⟨by omega, ?_⟩; rw [Int.toNat_natCast]; assumption))); (iterate 2 exact rfl))
         | (apply H_rownil; exact rfl; (first | exact I0 | exact I1 | exact I2 | exact I3 | exact I4 | exact I5 | exact I6); (focus (first | omega | (simp; done) | (simp; omega))); (iterate 2 exact rfl))
         | (apply H_rowfield; exact rfl; (first | exact I0 | exact I1 | exact I2 | exact I3 | exact I4 | exact I5 | exact I6); (focus (first | omega | (simp; done) | (simp; omega))); (iterate 5 exact rfl))
         | ((with_reducible apply EH.nil); exact rfl))
      repeat
        (first
         | (apply P_move; (iterate 3 exact rfl)) | (apply P_assign; (iterate 3 exact rfl)) | apply EL.nil | ((with_reducible apply EK.then_normal); apply EK.code) | (apply EC.cond_false; exact rfl)
         | (with_reducible first | apply EC.seq | apply EC.region | apply EC.skip | apply EC.label | apply EC.block | apply EC.exit | apply EC.ret | apply EK.in_normal | apply EK.in_same | apply EK.in_ret | apply EK.then_ret | apply EK.then_exit))
      refine EC.draw 19 (by kernel_rfl) ?_
      simp only [List.take_succ_cons, List.take_zero, List.drop_succ_cons, List.drop_zero]
      repeat
        (first
         | (apply H_rowload (k := l1.length) (off := 54) (d := .tup [.arr 20 xa, .v (.int .i64 xn), .arr 32 xw, .bs xc, .sl 64 ((s1 ++ p :: s3).map dSlL)]); exact rfl; exact I4; exact ⟨by simp, hd0⟩; (iterate 4 exact rfl))
         | (apply H_bin; (iterate 2 exact rfl); exact he; (iterate 2 exact rfl)) | (apply H_move; (iterate 3 exact rfl)) | (apply H_fieldpd; (iterate 7 exact rfl)) | (apply H_loadpd; (iterate 5 exact rfl))
         | (apply H_pick; (iterate 4 exact rfl)) | (apply H_load; exact rfl; (first | exact I0 | exact I1 | exact I2 | exact I3 | exact I4 | exact I5 | exact I6); (iterate 4 exact rfl))
         | (apply H_cmp (b := true); (iterate 2 exact rfl); (focus (first | (simp [cmpI]; done) | (simp [cmpI]; omega))); (iterate 2 exact rfl)) | (apply H_lensl; (iterate 4 exact rfl))
         | (apply H_index; (iterate 4 exact rfl); (focus (first | exact ⟨by decide, rfl⟩ | (refine ⟨by omega, ?_⟩; rw [Int.toNat_natCast]; assumption))); (iterate 2 exact rfl))
         | (apply H_rownil; exact rfl; (first | exact I0 | exact I1 | exact I2 | exact I3 | exact I4 | exact I5 | exact I6); (focus (first | omega | (simp; done) | (simp; omega))); (iterate 2 exact rfl))
         | (apply H_rowfield; exact rfl; (first | exact I0 | exact I1 | exact I2 | exact I3 | exact I4 | exact I5 | exact I6); (focus (first | omega | (simp; done) | (simp; omega))); (iterate 5 exact rfl))
         | ((with_reducible apply EH.nil); exact rfl))
      repeat
        (first
         | (apply P_rowload (k := l1.length) (off := 54) (d := .tup [.arr 20 xa, .v (.int .i64 xn), .arr 32 xw, .bs xc, .sl 64 ((s1 ++ p :: s3).map dSlL)]); exact rfl; exact I4; exact ⟨by simp, hd0⟩; (iterate 4 exact rfl))
         | (apply P_move; (iterate 3 exact rfl))
         | (apply P_rownil; exact rfl; (first | exact I0 | exact I1 | exact I2 | exact I3 | exact I4 | exact I5 | exact I6); (focus (first | omega | (simp; done) | (simp; omega))); (iterate 2 exact rfl))
         | (apply P_rowfield; exact rfl; (first | exact I0 | exact I1 | exact I2 | exact I3 | exact I4 | exact I5 | exact I6); (focus (first | omega | (simp; done) | (simp; omega))); (iterate 5 exact rfl))
         | apply EL.nil | ((with_reducible apply EK.then_normal); apply EK.code) | (apply EC.cond_false; exact rfl)
         | (with_reducible first | apply EC.seq | apply EC.region | apply EC.skip | apply EC.label | apply EC.block | apply EC.exit | apply EC.ret | apply EK.in_normal | apply EK.in_same | apply EK.in_ret | apply EK.then_ret | apply EK.then_exit))
      refine EL.le (Le.row 103 64) ?_
      dsimp only
      by_cases hv : v = zero32
      · have hz := (bin_word v zero32).2
        rw [show (v != zero32) = false by simp [hv]] at hz
        repeat
          (first
           | (apply P_slto; (iterate 3 exact rfl); exact ⟨by omega, by rw [hml, hxl2, Int.toNat_natCast]; omega⟩; (iterate 2 exact rfl))
           | (apply P_slfrom; (iterate 3 exact rfl); exact ⟨by omega, by rw [hml, hxl2]; omega⟩; (iterate 2 exact rfl))
           | (apply P_rowload (k := l1.length) (off := 54) (d := .tup [.arr 20 xa, .v (.int .i64 xn), .arr 32 xw, .bs xc, .sl 64 ((s1 ++ p :: s3).map dSlL)]); exact rfl; exact I5; exact ⟨by simp, hd0⟩; (iterate 4 exact rfl))
           | (apply P_bin; (iterate 2 exact rfl); exact hz; (iterate 2 exact rfl)) | (apply P_move; (iterate 3 exact rfl)) | (apply P_assign; (iterate 3 exact rfl))
           | (apply P_load; exact rfl; (first | exact I0 | exact I1 | exact I2 | exact I3 | exact I4 | exact I5 | exact I6); (iterate 4 exact rfl)) | (apply P_build0; (iterate 5 exact rfl))
           | (apply P_rownil; exact rfl; (first | exact I0 | exact I1 | exact I2 | exact I3 | exact I4 | exact I5 | exact I6); (focus (first | omega | (simp; done) | (simp; omega))); (iterate 2 exact rfl))
           | (apply P_rowfield; exact rfl; (first | exact I0 | exact I1 | exact I2 | exact I3 | exact I4 | exact I5 | exact I6); (focus (first | omega | (simp; done) | (simp; omega))); (iterate 5 exact rfl))
           | ((apply P_append; exact rfl; (focus (repeat first | exact .z | apply SetAt.s | apply SetAtF.s)); (iterate 5 exact rfl); (focus (constructor <;> (first | (simp; done) | (simp; omega))))); intro _)
           | apply EL.nil | ((with_reducible apply EK.then_normal); apply EK.code) | (apply EC.cond_false; exact rfl)
           | (with_reducible first | apply EC.seq | apply EC.region | apply EC.skip | apply EC.label | apply EC.block | apply EC.exit | apply EC.ret | apply EK.in_normal | apply EK.in_same | apply EK.in_ret | apply EK.then_ret | apply EK.then_exit))
        refine EL.le (Le.freeze (pre := []) rfl) ?_
        refine EL.le (Le.refine (t := 82) rfl (Rf.fact List.mem_cons_self rfl)) ?_
        have hp : put1 q v = [] := by rw [hpv, if_pos hv]
        rw [hT, hDr, show [] ++ s1.map dSlL ++ ((p :: s3)).map dSlL = (s1 ++ put1 q v ++ (p :: s3)).map dSlL by rw [hp]; simp]
        repeat
          (first
           | (apply P_rowstore (k := l1.length) (off := 54) (d := .tup [.arr 20 xa, .v (.int .i64 xn), .arr 32 xw, .bs xc, .sl 64 ((s1 ++ p :: s3).map dSlL)]) (d'' := .tup [.arr 20 xa, .v (.int .i64 xn), .arr 32 xw, .bs xc, .sl 64 ((s1 ++ put1 q v ++ (p :: s3)).map dSlL)]); exact rfl; exact .s (.s (.s (.s .z))); exact ⟨by simp, hd0⟩; (iterate 4 exact rfl))
           | apply EL.nil)
        exact EK.retM0n [rsO g L' k n, .row L' 74 55 (((l1 ++ ⟨xa, xn, xw, xc, (s1 ++ p :: s3)⟩ :: l2).map dAcL).set l1.length (dAcL ⟨xa, xn, xw, xc, s1 ++ put1 q v ++ (p :: s3)⟩))] rfl (by (repeat first | exact List.nil_sublist _ | apply List.Sublist.cons_cons | apply List.Sublist.cons)) ⟨rfl, by rw [set_amid]; exact RSt.of ha (by omega) ha.ad ⟨by dsimp only; rw [hp]; simp; omega, ha.bx.2⟩ hput⟩
      · have hz := (bin_word v zero32).2
        rw [show (v != zero32) = true by simp [hv]] at hz
        repeat
          (first
           | (apply P_slto; (iterate 3 exact rfl); exact ⟨by omega, by rw [hml, hxl2, Int.toNat_natCast]; omega⟩; (iterate 2 exact rfl))
           | (apply P_slfrom; (iterate 3 exact rfl); exact ⟨by omega, by rw [hml, hxl2]; omega⟩; (iterate 2 exact rfl))
           | (apply P_rowload (k := l1.length) (off := 54) (d := .tup [.arr 20 xa, .v (.int .i64 xn), .arr 32 xw, .bs xc, .sl 64 ((s1 ++ p :: s3).map dSlL)]); exact rfl; exact I5; exact ⟨by simp, hd0⟩; (iterate 4 exact rfl))
           | (apply P_bin; (iterate 2 exact rfl); exact hz; (iterate 2 exact rfl)) | (apply P_move; (iterate 3 exact rfl)) | (apply P_assign; (iterate 3 exact rfl))
           | (apply P_load; exact rfl; (first | exact I0 | exact I1 | exact I2 | exact I3 | exact I4 | exact I5 | exact I6); (iterate 4 exact rfl)) | (apply P_build; (iterate 7 exact rfl))
           | (apply P_build0; (iterate 5 exact rfl)) | (apply P_lit; (iterate 9 exact rfl))
           | (apply P_rownil; exact rfl; (first | exact I0 | exact I1 | exact I2 | exact I3 | exact I4 | exact I5 | exact I6); (focus (first | omega | (simp; done) | (simp; omega))); (iterate 2 exact rfl))
           | (apply P_rowfield; exact rfl; (first | exact I0 | exact I1 | exact I2 | exact I3 | exact I4 | exact I5 | exact I6); (focus (first | omega | (simp; done) | (simp; omega))); (iterate 5 exact rfl))
           | ((apply P_append; exact rfl; (focus (repeat first | exact .z | apply SetAt.s | apply SetAtF.s)); (iterate 5 exact rfl); (focus (constructor <;> (first | (simp; done) | (simp; omega))))); intro _)
           | apply EL.nil | ((with_reducible apply EK.then_normal); apply EK.code) | (apply EC.cond_true; exact rfl)
           | (with_reducible first | apply EC.seq | apply EC.region | apply EC.skip | apply EC.label | apply EC.block | apply EC.exit | apply EC.ret | apply EK.in_normal | apply EK.in_same | apply EK.in_ret | apply EK.then_ret | apply EK.then_exit))
        refine EL.le (Le.freeze (pre := []) rfl) ?_
        refine EL.le (Le.refine (t := 82) rfl (Rf.fact List.mem_cons_self rfl)) ?_
        have hp : put1 q v = [(q, v)] := by rw [hpv, if_neg hv]
        rw [hT, hDr, show [] ++ s1.map dSlL ++ [D.tup [.arr 32 q, .arr 32 v]] ++ ((p :: s3)).map dSlL = (s1 ++ put1 q v ++ (p :: s3)).map dSlL by rw [hp]; simp [dSlL]]
        repeat
          (first
           | (apply P_rowstore (k := l1.length) (off := 54) (d := .tup [.arr 20 xa, .v (.int .i64 xn), .arr 32 xw, .bs xc, .sl 64 ((s1 ++ p :: s3).map dSlL)]) (d'' := .tup [.arr 20 xa, .v (.int .i64 xn), .arr 32 xw, .bs xc, .sl 64 ((s1 ++ put1 q v ++ (p :: s3)).map dSlL)]); exact rfl; exact .s (.s (.s (.s .z))); exact ⟨by simp, hd0⟩; (iterate 4 exact rfl))
           | apply EL.nil)
        exact EK.retM0n [rsO g L' k n, .row L' 74 55 (((l1 ++ ⟨xa, xn, xw, xc, (s1 ++ p :: s3)⟩ :: l2).map dAcL).set l1.length (dAcL ⟨xa, xn, xw, xc, s1 ++ put1 q v ++ (p :: s3)⟩))] rfl (by (repeat first | exact List.nil_sublist _ | apply List.Sublist.cons_cons | apply List.Sublist.cons)) ⟨rfl, by rw [set_amid]; exact RSt.of ha (by omega) ha.ad ⟨by dsimp only; rw [hp]; simp; omega, ha.bx.2⟩ hput⟩
    · have hge : ¬ s1.length < s1.length := Nat.lt_irrefl _
      have hxl2 : s1.length = s1.length := rfl
      have hT : List.take (↑s1.length : Int).toNat (List.map dSlL s1) = s1.map dSlL := by rw [Int.toNat_natCast, ← List.map_take]; simp
      have hDr : List.drop (↑s1.length : Int).toNat (List.map dSlL s1) = ([]).map dSlL := by rw [show (↑s1.length : Int).toNat = s1.length by omega, ← List.map_drop]; simp
      repeat
        (first
         | (with_reducible first | apply EC.seq | apply EC.region | apply EC.skip | apply EC.label | apply EC.block | apply EC.exit | apply EC.ret | apply EK.in_normal | apply EK.in_same | apply EK.in_ret | apply EK.then_ret | apply EK.then_exit))
      refine EC.draw 19 (by kernel_rfl) ?_
      simp only [List.take_succ_cons, List.take_zero, List.drop_succ_cons, List.drop_zero]
      repeat
        (first
         | (apply H_skip; (iterate 2 exact rfl))
         | (apply H_rowload (k := l1.length) (off := 54) (d := .tup [.arr 20 xa, .v (.int .i64 xn), .arr 32 xw, .bs xc, .sl 64 (s1.map dSlL)]); exact rfl; exact I4; exact ⟨by simp, hd0⟩; (iterate 4 exact rfl))
         | (apply H_move; (iterate 3 exact rfl)) | (apply H_pick; (iterate 4 exact rfl))
         | (apply H_cmp (b := false); (iterate 2 exact rfl); (focus (first | (simp [cmpI]; done) | (simp [cmpI]; omega))); (iterate 2 exact rfl)) | (apply H_lensl; (iterate 4 exact rfl))
         | (apply H_rownil; exact rfl; (first | exact I0 | exact I1 | exact I2 | exact I3 | exact I4 | exact I5 | exact I6); (focus (first | omega | (simp; done) | (simp; omega))); (iterate 2 exact rfl))
         | (apply H_rowfield; exact rfl; (first | exact I0 | exact I1 | exact I2 | exact I3 | exact I4 | exact I5 | exact I6); (focus (first | omega | (simp; done) | (simp; omega))); (iterate 5 exact rfl))
         | ((with_reducible apply EH.nil); exact rfl))
      repeat
        (first
         | (apply P_move; (iterate 3 exact rfl)) | (apply P_assign; (iterate 3 exact rfl)) | apply EL.nil | ((with_reducible apply EK.then_normal); apply EK.code) | (apply EC.cond_false; exact rfl)
         | (with_reducible first | apply EC.seq | apply EC.region | apply EC.skip | apply EC.label | apply EC.block | apply EC.exit | apply EC.ret | apply EK.in_normal | apply EK.in_same | apply EK.in_ret | apply EK.then_ret | apply EK.then_exit))
      refine EC.draw 19 (by kernel_rfl) ?_
      simp only [List.take_succ_cons, List.take_zero, List.drop_succ_cons, List.drop_zero]
      repeat
        (first
         | (apply H_skip; (iterate 2 exact rfl))
         | (apply H_rowload (k := l1.length) (off := 54) (d := .tup [.arr 20 xa, .v (.int .i64 xn), .arr 32 xw, .bs xc, .sl 64 (s1.map dSlL)]); exact rfl; exact I4; exact ⟨by simp, hd0⟩; (iterate 4 exact rfl))
         | (apply H_move; (iterate 3 exact rfl)) | (apply H_pick; (iterate 4 exact rfl))
         | (apply H_cmp (b := false); (iterate 2 exact rfl); (focus (first | (simp [cmpI]; done) | (simp [cmpI]; omega))); (iterate 2 exact rfl)) | (apply H_lensl; (iterate 4 exact rfl))
         | (apply H_rownil; exact rfl; (first | exact I0 | exact I1 | exact I2 | exact I3 | exact I4 | exact I5 | exact I6); (focus (first | omega | (simp; done) | (simp; omega))); (iterate 2 exact rfl))
         | (apply H_rowfield; exact rfl; (first | exact I0 | exact I1 | exact I2 | exact I3 | exact I4 | exact I5 | exact I6); (focus (first | omega | (simp; done) | (simp; omega))); (iterate 5 exact rfl))
         | ((with_reducible apply EH.nil); exact rfl))
      repeat
        (first
         | (apply P_rowload (k := l1.length) (off := 54) (d := .tup [.arr 20 xa, .v (.int .i64 xn), .arr 32 xw, .bs xc, .sl 64 (s1.map dSlL)]); exact rfl; exact I4; exact ⟨by simp, hd0⟩; (iterate 4 exact rfl))
         | (apply P_move; (iterate 3 exact rfl))
         | (apply P_rownil; exact rfl; (first | exact I0 | exact I1 | exact I2 | exact I3 | exact I4 | exact I5 | exact I6); (focus (first | omega | (simp; done) | (simp; omega))); (iterate 2 exact rfl))
         | (apply P_rowfield; exact rfl; (first | exact I0 | exact I1 | exact I2 | exact I3 | exact I4 | exact I5 | exact I6); (focus (first | omega | (simp; done) | (simp; omega))); (iterate 5 exact rfl))
         | apply EL.nil | ((with_reducible apply EK.then_normal); apply EK.code) | (apply EC.cond_false; exact rfl)
         | (with_reducible first | apply EC.seq | apply EC.region | apply EC.skip | apply EC.label | apply EC.block | apply EC.exit | apply EC.ret | apply EK.in_normal | apply EK.in_same | apply EK.in_ret | apply EK.then_ret | apply EK.then_exit))
      refine EL.le (Le.row 103 64) ?_
      dsimp only
      by_cases hv : v = zero32
      · have hz := (bin_word v zero32).2
        rw [show (v != zero32) = false by simp [hv]] at hz
        repeat
          (first
           | (apply P_slto; (iterate 3 exact rfl); exact ⟨by omega, by rw [hml, hxl2, Int.toNat_natCast]; omega⟩; (iterate 2 exact rfl))
           | (apply P_slfrom; (iterate 3 exact rfl); exact ⟨by omega, by rw [hml, hxl2]; omega⟩; (iterate 2 exact rfl))
           | (apply P_rowload (k := l1.length) (off := 54) (d := .tup [.arr 20 xa, .v (.int .i64 xn), .arr 32 xw, .bs xc, .sl 64 (s1.map dSlL)]); exact rfl; exact I5; exact ⟨by simp, hd0⟩; (iterate 4 exact rfl))
           | (apply P_bin; (iterate 2 exact rfl); exact hz; (iterate 2 exact rfl)) | (apply P_move; (iterate 3 exact rfl)) | (apply P_assign; (iterate 3 exact rfl))
           | (apply P_load; exact rfl; (first | exact I0 | exact I1 | exact I2 | exact I3 | exact I4 | exact I5 | exact I6); (iterate 4 exact rfl)) | (apply P_build0; (iterate 5 exact rfl))
           | (apply P_rownil; exact rfl; (first | exact I0 | exact I1 | exact I2 | exact I3 | exact I4 | exact I5 | exact I6); (focus (first | omega | (simp; done) | (simp; omega))); (iterate 2 exact rfl))
           | (apply P_rowfield; exact rfl; (first | exact I0 | exact I1 | exact I2 | exact I3 | exact I4 | exact I5 | exact I6); (focus (first | omega | (simp; done) | (simp; omega))); (iterate 5 exact rfl))
           | ((apply P_append; exact rfl; (focus (repeat first | exact .z | apply SetAt.s | apply SetAtF.s)); (iterate 5 exact rfl); (focus (constructor <;> (first | (simp; done) | (simp; omega))))); intro _)
           | apply EL.nil | ((with_reducible apply EK.then_normal); apply EK.code) | (apply EC.cond_false; exact rfl)
           | (with_reducible first | apply EC.seq | apply EC.region | apply EC.skip | apply EC.label | apply EC.block | apply EC.exit | apply EC.ret | apply EK.in_normal | apply EK.in_same | apply EK.in_ret | apply EK.then_ret | apply EK.then_exit))
        refine EL.le (Le.freeze (pre := []) rfl) ?_
        refine EL.le (Le.refine (t := 82) rfl (Rf.fact List.mem_cons_self rfl)) ?_
        have hp : put1 q v = [] := by rw [hpv, if_pos hv]
        rw [hT, hDr, show [] ++ s1.map dSlL ++ ([]).map dSlL = (s1 ++ put1 q v ++ []).map dSlL by rw [hp]; simp]
        repeat
          (first
           | (apply P_rowstore (k := l1.length) (off := 54) (d := .tup [.arr 20 xa, .v (.int .i64 xn), .arr 32 xw, .bs xc, .sl 64 (s1.map dSlL)]) (d'' := .tup [.arr 20 xa, .v (.int .i64 xn), .arr 32 xw, .bs xc, .sl 64 ((s1 ++ put1 q v ++ []).map dSlL)]); exact rfl; exact .s (.s (.s (.s .z))); exact ⟨by simp, hd0⟩; (iterate 4 exact rfl))
           | apply EL.nil)
        exact EK.retM0n [rsO g L' k n, .row L' 74 55 (((l1 ++ ⟨xa, xn, xw, xc, s1⟩ :: l2).map dAcL).set l1.length (dAcL ⟨xa, xn, xw, xc, s1 ++ put1 q v ++ []⟩))] rfl (by (repeat first | exact List.nil_sublist _ | apply List.Sublist.cons_cons | apply List.Sublist.cons)) ⟨rfl, by rw [set_amid]; exact RSt.of ha (by omega) ha.ad ⟨by dsimp only; rw [hp]; simp; omega, ha.bx.2⟩ hput⟩
      · have hz := (bin_word v zero32).2
        rw [show (v != zero32) = true by simp [hv]] at hz
        repeat
          (first
           | (apply P_slto; (iterate 3 exact rfl); exact ⟨by omega, by rw [hml, hxl2, Int.toNat_natCast]; omega⟩; (iterate 2 exact rfl))
           | (apply P_slfrom; (iterate 3 exact rfl); exact ⟨by omega, by rw [hml, hxl2]; omega⟩; (iterate 2 exact rfl))
           | (apply P_rowload (k := l1.length) (off := 54) (d := .tup [.arr 20 xa, .v (.int .i64 xn), .arr 32 xw, .bs xc, .sl 64 (s1.map dSlL)]); exact rfl; exact I5; exact ⟨by simp, hd0⟩; (iterate 4 exact rfl))
           | (apply P_bin; (iterate 2 exact rfl); exact hz; (iterate 2 exact rfl)) | (apply P_move; (iterate 3 exact rfl)) | (apply P_assign; (iterate 3 exact rfl))
           | (apply P_load; exact rfl; (first | exact I0 | exact I1 | exact I2 | exact I3 | exact I4 | exact I5 | exact I6); (iterate 4 exact rfl)) | (apply P_build; (iterate 7 exact rfl))
           | (apply P_build0; (iterate 5 exact rfl)) | (apply P_lit; (iterate 9 exact rfl))
           | (apply P_rownil; exact rfl; (first | exact I0 | exact I1 | exact I2 | exact I3 | exact I4 | exact I5 | exact I6); (focus (first | omega | (simp; done) | (simp; omega))); (iterate 2 exact rfl))
           | (apply P_rowfield; exact rfl; (first | exact I0 | exact I1 | exact I2 | exact I3 | exact I4 | exact I5 | exact I6); (focus (first | omega | (simp; done) | (simp; omega))); (iterate 5 exact rfl))
           | ((apply P_append; exact rfl; (focus (repeat first | exact .z | apply SetAt.s | apply SetAtF.s)); (iterate 5 exact rfl); (focus (constructor <;> (first | (simp; done) | (simp; omega))))); intro _)
           | apply EL.nil | ((with_reducible apply EK.then_normal); apply EK.code) | (apply EC.cond_true; exact rfl)
           | (with_reducible first | apply EC.seq | apply EC.region | apply EC.skip | apply EC.label | apply EC.block | apply EC.exit | apply EC.ret | apply EK.in_normal | apply EK.in_same | apply EK.in_ret | apply EK.then_ret | apply EK.then_exit))
        refine EL.le (Le.freeze (pre := []) rfl) ?_
        refine EL.le (Le.refine (t := 82) rfl (Rf.fact List.mem_cons_self rfl)) ?_
        have hp : put1 q v = [(q, v)] := by rw [hpv, if_neg hv]
        rw [hT, hDr, show [] ++ s1.map dSlL ++ [D.tup [.arr 32 q, .arr 32 v]] ++ ([]).map dSlL = (s1 ++ put1 q v ++ []).map dSlL by rw [hp]; simp [dSlL]]
        repeat
          (first
           | (apply P_rowstore (k := l1.length) (off := 54) (d := .tup [.arr 20 xa, .v (.int .i64 xn), .arr 32 xw, .bs xc, .sl 64 (s1.map dSlL)]) (d'' := .tup [.arr 20 xa, .v (.int .i64 xn), .arr 32 xw, .bs xc, .sl 64 ((s1 ++ put1 q v ++ []).map dSlL)]); exact rfl; exact .s (.s (.s (.s .z))); exact ⟨by simp, hd0⟩; (iterate 4 exact rfl))
           | apply EL.nil)
        exact EK.retM0n [rsO g L' k n, .row L' 74 55 (((l1 ++ ⟨xa, xn, xw, xc, s1⟩ :: l2).map dAcL).set l1.length (dAcL ⟨xa, xn, xw, xc, s1 ++ put1 q v ++ []⟩))] rfl (by (repeat first | exact List.nil_sublist _ | apply List.Sublist.cons_cons | apply List.Sublist.cons)) ⟨rfl, by rw [set_amid]; exact RSt.of ha (by omega) ha.ad ⟨by dsimp only; rw [hp]; simp; omega, ha.bx.2⟩ hput⟩
end E
end Go.Proofs.YtdhicdnmgmkpkaaGreat
