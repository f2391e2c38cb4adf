/-
  Merged (wip/tools/merge.py): EJ8.
  Conditions: none.
-/
import Derived.Test.YtnaaonogihaahaaZJ20
/-
  journal's reference: changeOf.
  Conditions: none.
-/
namespace Go.Proofs.Ytnaaonogihaahaa
set_option linter.unusedVariables false
open Go.RowKit Mono Rlp Jn
namespace E
theorem chR_six {f0 f4 : Bool} {bx b0 b4 : List UInt8} {x0 x4 : List Raw} {i1 i2 i3 i5 : Raw} : chR (.mk true bx [.mk f0 b0 x0, i1, i2, i3, .mk f4 b4 x4, i5]) =
    if !f0 && decide (b0.length = 20) && !f4 then (match intR i1, intR i2, wordR i3, slR i5 with
      | some n, some m, some w, some ss => if n ≤ 1 then some ⟨b0, n == 1, (m : Int), w, b4, ss⟩ else none
      | _, _, _, _ => none) else none := by
  obtain ⟨f5, b5, x5⟩ := i5
  unfold chR slR
  cases f0 <;> cases f4 <;> cases f5 <;> simp only [isL, isB]
  all_goals
    generalize intR i1 = o1
    generalize intR i2 = o2
    generalize wordR i3 = o3
    cases o1 <;> cases o2 <;> cases o3 <;> try (simp; done)
  rename_i n m w
  by_cases h : b0.length = 20 <;> by_cases hn : n ≤ 1 <;> cases hq : allR slotR x5 <;> simp [hn, h, hq]
theorem E_bytes_len (l : List UInt8) (x : List Raw) : l.length ≤ (E (.mk false l x)).length := by
  rw [E]
  unfold EB
  split <;> simp
theorem sl_addr : SliceA 44 20 := ⟨fun w g o => by
  have hn : Try.prog.arrayLen 44 = 20 := by kernel_rfl
  have hs : (sizeOf (Try.prog.elem 44)).run Try.prog w = .ok 1 w := by kernel_rfl
  rw [run_sliceAt_array_all (P := Try.prog) w 44 ⟨g, o, none⟩ (by kernel_rfl), hs]
  simp [slicedAt, hn, add_none, Result.andThen]⟩
theorem oneD_some {x : Raw} {c : Ch} (h : chR x = some c) : oneD x = .tpl [dCh c, .v (.bool true)] := by
  unfold oneD
  rw [h]
  rfl
set_option maxRecDepth 20000 in
set_option maxHeartbeats 8000000 in
theorem f_changeOf (x : Raw) (hE : (E x).length ≤ 16777216) : Fn 32 [dItem x] (· = oneD x) := by
  obtain ⟨lx, bx, xs⟩ := x
  have hlen := dItems_length xs
  by_cases hl : lx = true ∧ xs.length = 6
  · obtain ⟨rfl, hl⟩ := hl
    obtain ⟨⟨f0, b0, x0⟩, ⟨f1, b1, x1⟩, ⟨f2, b2, x2⟩, ⟨f3, b3, x3⟩, ⟨f4, b4, x4⟩, ⟨f5, b5, x5⟩, rfl⟩ : ∃ i0 i1 i2 i3 i4 i5, xs = [i0, i1, i2, i3, i4, i5] := by
      match xs, hl with
      | [a, b, c, d, e, f], _ => exact ⟨a, b, c, d, e, f, rfl⟩
    have hE5 : (E (.mk f5 b5 x5)).length ≤ 16777216 := by
      have := E_list_len bx [.mk f0 b0 x0, .mk f1 b1 x1, .mk f2 b2 x2, .mk f3 b3 x3, .mk f4 b4 x4, .mk f5 b5 x5]
      have := EL_mem [.mk f0 b0 x0, .mk f1 b1 x1, .mk f2 b2 x2, .mk f3 b3 x3, .mk f4 b4 x4, .mk f5 b5 x5] (.mk f5 b5 x5) (by simp)
      omega
    have hb4 : f4 = false → b4.length ≤ 140737488355328 := fun e => by
      subst e
      have h1 := E_list_len bx [.mk f0 b0 x0, .mk f1 b1 x1, .mk f2 b2 x2, .mk f3 b3 x3, .mk false b4 x4, .mk f5 b5 x5]
      have h2 := EL_mem [.mk f0 b0 x0, .mk f1 b1 x1, .mk f2 b2 x2, .mk f3 b3 x3, .mk false b4 x4, .mk f5 b5 x5] (.mk false b4 x4) (by simp)
      have h3 := E_bytes_len b4 x4
      omega
    have h1 := f_IntOf (.mk f1 b1 x1)
    have h2 := f_IntOf (.mk f2 b2 x2)
    have h3 := f_WordOf (.mk f3 b3 x3)
    have h5 := f_slotsOf (.mk f5 b5 x5) hE5
    have hwl := word_lenD (.mk f3 b3 x3)
    have hi := intR_bound (.mk f1 b1 x1)
    have hi2 := intR_bound (.mk f2 b2 x2)
    have hs := chR_six (bx := bx) (f0 := f0) (b0 := b0) (x0 := x0) (f4 := f4) (b4 := b4) (x4 := x4) (i1 := .mk f1 b1 x1) (i2 := .mk f2 b2 x2) (i3 := .mk f3 b3 x3) (i5 := .mk f5 b5 x5)
    clear hE hE5 hl
    refine Fn.walk 122 Try.func32 rfl Try.ntmps32 (by simp) fun X => ?_
    simp only [dItem, dItems]
    unfold intD at h1 h2
    unfold wordD at h3
    have step : ∀ P : Prop, (f0 = true → P) → (f0 = false → b0.length ≠ 20 → P) → (f0 = false → b0.length = 20 → f4 = true → P) → (f0 = false → b0.length = 20 → f4 = false → intR (.mk f1 b1 x1) = none → P) →
      (∀ n, f0 = false → b0.length = 20 → f4 = false → intR (.mk f1 b1 x1) = some n → intR (.mk f2 b2 x2) = none → P) →
      (∀ n m, f0 = false → b0.length = 20 → f4 = false → intR (.mk f1 b1 x1) = some n → intR (.mk f2 b2 x2) = some m → wordR (.mk f3 b3 x3) = none → P) →
      (∀ n m l, f0 = false → b0.length = 20 → f4 = false → intR (.mk f1 b1 x1) = some n → intR (.mk f2 b2 x2) = some m → wordR (.mk f3 b3 x3) = some l → slR (.mk f5 b5 x5) = none → P) →
      (∀ n m l ss, f0 = false → b0.length = 20 → f4 = false → intR (.mk f1 b1 x1) = some n → intR (.mk f2 b2 x2) = some m → wordR (.mk f3 b3 x3) = some l → slR (.mk f5 b5 x5) = some ss → 1 < n → P) →
      (∀ n m l ss, f0 = false → b0.length = 20 → f4 = false → intR (.mk f1 b1 x1) = some n → intR (.mk f2 b2 x2) = some m → wordR (.mk f3 b3 x3) = some l → slR (.mk f5 b5 x5) = some ss → n ≤ 1 → P) → P := by
      intro P p1 p2 p3 p4 p5 p6 p7 p8 p9
      cases h0 : f0 with
      | true => exact p1 h0
      | false =>
        by_cases hb : b0.length = 20
        · cases h4 : f4 with
          | true => exact p3 h0 hb h4
          | false =>
            cases e1 : intR (.mk f1 b1 x1) with
            | none => exact p4 h0 hb h4 e1
            | some n =>
              cases e2 : intR (.mk f2 b2 x2) with
              | none => exact p5 n h0 hb h4 e1 e2
              | some m =>
                cases e3 : wordR (.mk f3 b3 x3) with
                | none => exact p6 n m h0 hb h4 e1 e2 e3
                | some l =>
                  cases e5 : slR (.mk f5 b5 x5) with
                  | none => exact p7 n m l h0 hb h4 e1 e2 e3 e5
                  | some ss =>
                    by_cases hn : n ≤ 1
                    · exact p9 n m l ss h0 hb h4 e1 e2 e3 e5 hn
                    · exact p8 n m l ss h0 hb h4 e1 e2 e3 e5 (by omega)
        · exact p2 h0 hb
    refine step _ ?_ ?_ ?_ ?_ ?_ ?_ ?_ ?_ ?_
    case refine_1 =>
      intro q0
      subst q0
      have hz : chR (.mk true bx [.mk true b0 x0, .mk f1 b1 x1, .mk f2 b2 x2, .mk f3 b3 x3, .mk f4 b4 x4, .mk f5 b5 x5]) = none := by rw [hs]; simp
      rw [oneD_none hz]
      clear step hs hz
      repeat
        (first
         | (apply P_skip; exact rfl)
         | (apply P_call (h1); exact rfl; (focus (repeat first | exact RefineL.refl _ _ | exact RL.nil | exact Rf.same | exact Rf.bs0 | exact Rf.sl0 | (apply Rf.fact; (focus (simp; done)); exact rfl) | apply Rf.tup | apply RL.cons)); (focus (intro _ _; simp [go_sem]; done)); (iterate 2 exact rfl))
         | (apply P_call (h2); exact rfl; (focus (repeat first | exact RefineL.refl _ _ | exact RL.nil | exact Rf.same | exact Rf.bs0 | exact Rf.sl0 | (apply Rf.fact; (focus (simp; done)); exact rfl) | apply Rf.tup | apply RL.cons)); (focus (intro _ _; simp [go_sem]; done)); (iterate 2 exact rfl))
         | (apply P_call (h3); exact rfl; (focus (repeat first | exact RefineL.refl _ _ | exact RL.nil | exact Rf.same | exact Rf.bs0 | exact Rf.sl0 | (apply Rf.fact; (focus (simp; done)); exact rfl) | apply Rf.tup | apply RL.cons)); (focus (intro _ _; simp [go_sem]; done)); (iterate 2 exact rfl))
         | (apply P_call (h5); exact rfl; (focus (repeat first | exact RefineL.refl _ _ | exact RL.nil | exact Rf.same | exact Rf.bs0 | exact Rf.sl0 | (apply Rf.fact; (focus (simp; done)); exact rfl) | apply Rf.tup | apply RL.cons)); (focus (intro _ _; simp [go_sem]; done)); (iterate 2 exact rfl))
         | (apply P_move; (iterate 3 exact rfl)) | (apply P_assign; (iterate 3 exact rfl)) | (apply P_field; (iterate 6 exact rfl)) | (apply P_fieldpd; (iterate 7 exact rfl))
         | (apply P_extract; (iterate 4 exact rfl)) | (apply P_loadpd; (iterate 5 exact rfl)) | (apply P_pick; (iterate 4 exact rfl)) | (apply P_not; (iterate 3 exact rfl))
         | (apply P_load; exact rfl; (first | exact I0 | exact I1 | exact I2 | exact I3 | exact I4 | exact I5 | exact I6); (iterate 4 exact rfl))
         | (apply P_cmp (b := true); (iterate 2 exact rfl); (focus (first | (simp [cmpI]; done) | (simp [cmpI]; omega))); (iterate 2 exact rfl))
         | (apply P_cmp (b := false); (iterate 2 exact rfl); (focus (first | (simp [cmpI]; done) | (simp [cmpI]; omega))); (iterate 2 exact rfl)) | (apply P_cmp; (iterate 5 exact rfl))
         | (apply P_ar; (iterate 3 exact rfl); (focus omega); (focus omega); (iterate 2 exact rfl)) | (apply P_lenbs; (iterate 4 exact rfl)) | (apply P_lensl; (iterate 4 exact rfl))
         | (apply P_lenrow; exact rfl; (first | exact I0 | exact I1 | exact I2 | exact I3 | exact I4 | exact I5 | exact I6); (iterate 3 exact rfl)) | (apply P_lenv; (iterate 4 exact rfl))
         | (apply P_index; (iterate 4 exact rfl); (focus (first | exact ⟨by decide, rfl⟩ | (refine ⟨by omega, ?_⟩; rw [Int.toNat_natCast]; assumption))); (iterate 2 exact rfl))
         | (apply P_indexbs; (iterate 3 exact rfl); (focus (first | exact ⟨by decide, rfl⟩ | (refine ⟨by omega, ?_⟩; rw [Int.toNat_natCast]; assumption))); (iterate 2 exact rfl))
         | (apply P_str; (iterate 3 exact rfl)) | (apply P_build; (iterate 7 exact rfl)) | (apply P_build0; (iterate 5 exact rfl)) | (apply P_lit; (iterate 9 exact rfl))
         | (apply P_s2a; (iterate 2 exact rfl); (focus (first | assumption | omega)); (iterate 3 exact rfl)) | (apply P_alloc; exact rfl; exact rfl; exact rfl; intro _)
         | (apply P_box; exact rfl; exact rfl; exact rfl; intro _) | (apply P_store; exact rfl; (focus (repeat first | exact .z | apply SetAt.s | apply SetAtF.s)); (iterate 4 exact rfl))
         | ((apply P_append; exact rfl; (focus (repeat first | exact .z | apply SetAt.s | apply SetAtF.s)); (iterate 5 exact rfl); (focus (constructor <;> (first | (simp; done) | (simp; omega))))); intro _)
         | apply EL.nil | ((with_reducible apply EK.then_normal); apply EK.code) | with_reducible apply EC.seq | with_reducible apply EC.region | (apply EC.cond_true; exact rfl)
         | (apply EC.cond_false; exact rfl) | with_reducible apply EC.skip | with_reducible apply EC.label | with_reducible apply EC.block | with_reducible apply EC.exit | with_reducible apply EC.ret
         | with_reducible apply EK.in_normal | with_reducible apply EK.in_same | ((with_reducible apply EK.in_other); exact rfl) | with_reducible apply EK.in_ret | with_reducible apply EK.then_ret
         | with_reducible apply EK.then_exit)
      refine EK.retc2r 1 rfl rfl rfl rfl rfl ?_ rfl
      (repeat first | exact RefineL.refl _ _ | exact RL.nil | exact Rf.same | exact Rf.bs0 | exact Rf.sl0 | (apply Rf.fact; (focus (simp; done)); exact rfl) | apply Rf.tup | apply RL.cons)
    case refine_2 =>
      intro q0 qb
      subst q0
      have hz : chR (.mk true bx [.mk false b0 x0, .mk f1 b1 x1, .mk f2 b2 x2, .mk f3 b3 x3, .mk f4 b4 x4, .mk f5 b5 x5]) = none := by rw [hs]; simp [qb]
      rw [oneD_none hz]
      clear step hs hz
      repeat
        (first
         | (apply P_skip; exact rfl)
         | (apply P_call (h1); exact rfl; (focus (repeat first | exact RefineL.refl _ _ | exact RL.nil | exact Rf.same | exact Rf.bs0 | exact Rf.sl0 | (apply Rf.fact; (focus (simp; done)); exact rfl) | apply Rf.tup | apply RL.cons)); (focus (intro _ _; simp [go_sem]; done)); (iterate 2 exact rfl))
         | (apply P_call (h2); exact rfl; (focus (repeat first | exact RefineL.refl _ _ | exact RL.nil | exact Rf.same | exact Rf.bs0 | exact Rf.sl0 | (apply Rf.fact; (focus (simp; done)); exact rfl) | apply Rf.tup | apply RL.cons)); (focus (intro _ _; simp [go_sem]; done)); (iterate 2 exact rfl))
         | (apply P_call (h3); exact rfl; (focus (repeat first | exact RefineL.refl _ _ | exact RL.nil | exact Rf.same | exact Rf.bs0 | exact Rf.sl0 | (apply Rf.fact; (focus (simp; done)); exact rfl) | apply Rf.tup | apply RL.cons)); (focus (intro _ _; simp [go_sem]; done)); (iterate 2 exact rfl))
         | (apply P_call (h5); exact rfl; (focus (repeat first | exact RefineL.refl _ _ | exact RL.nil | exact Rf.same | exact Rf.bs0 | exact Rf.sl0 | (apply Rf.fact; (focus (simp; done)); exact rfl) | apply Rf.tup | apply RL.cons)); (focus (intro _ _; simp [go_sem]; done)); (iterate 2 exact rfl))
         | (apply P_move; (iterate 3 exact rfl)) | (apply P_assign; (iterate 3 exact rfl)) | (apply P_field; (iterate 6 exact rfl)) | (apply P_fieldpd; (iterate 7 exact rfl))
         | (apply P_extract; (iterate 4 exact rfl)) | (apply P_loadpd; (iterate 5 exact rfl)) | (apply P_pick; (iterate 4 exact rfl)) | (apply P_not; (iterate 3 exact rfl))
         | (apply P_load; exact rfl; (first | exact I0 | exact I1 | exact I2 | exact I3 | exact I4 | exact I5 | exact I6); (iterate 4 exact rfl))
         | (apply P_cmp (b := true); (iterate 2 exact rfl); (focus (first | (simp [cmpI]; done) | (simp [cmpI]; omega))); (iterate 2 exact rfl))
         | (apply P_cmp (b := false); (iterate 2 exact rfl); (focus (first | (simp [cmpI]; done) | (simp [cmpI]; omega))); (iterate 2 exact rfl)) | (apply P_cmp; (iterate 5 exact rfl))
         | (apply P_ar; (iterate 3 exact rfl); (focus omega); (focus omega); (iterate 2 exact rfl)) | (apply P_lenbs; (iterate 4 exact rfl)) | (apply P_lensl; (iterate 4 exact rfl))
         | (apply P_lenrow; exact rfl; (first | exact I0 | exact I1 | exact I2 | exact I3 | exact I4 | exact I5 | exact I6); (iterate 3 exact rfl)) | (apply P_lenv; (iterate 4 exact rfl))
         | (apply P_index; (iterate 4 exact rfl); (focus (first | exact ⟨by decide, rfl⟩ | (refine ⟨by omega, ?_⟩; rw [Int.toNat_natCast]; assumption))); (iterate 2 exact rfl))
         | (apply P_indexbs; (iterate 3 exact rfl); (focus (first | exact ⟨by decide, rfl⟩ | (refine ⟨by omega, ?_⟩; rw [Int.toNat_natCast]; assumption))); (iterate 2 exact rfl))
         | (apply P_str; (iterate 3 exact rfl)) | (apply P_build; (iterate 7 exact rfl)) | (apply P_build0; (iterate 5 exact rfl)) | (apply P_lit; (iterate 9 exact rfl))
         | (apply P_s2a; (iterate 2 exact rfl); (focus (first | assumption | omega)); (iterate 3 exact rfl)) | (apply P_alloc; exact rfl; exact rfl; exact rfl; intro _)
         | (apply P_box; exact rfl; exact rfl; exact rfl; intro _) | (apply P_store; exact rfl; (focus (repeat first | exact .z | apply SetAt.s | apply SetAtF.s)); (iterate 4 exact rfl))
         | ((apply P_append; exact rfl; (focus (repeat first | exact .z | apply SetAt.s | apply SetAtF.s)); (iterate 5 exact rfl); (focus (constructor <;> (first | (simp; done) | (simp; omega))))); intro _)
         | apply EL.nil | ((with_reducible apply EK.then_normal); apply EK.code) | with_reducible apply EC.seq | with_reducible apply EC.region | (apply EC.cond_true; exact rfl)
         | (apply EC.cond_false; exact rfl) | with_reducible apply EC.skip | with_reducible apply EC.label | with_reducible apply EC.block | with_reducible apply EC.exit | with_reducible apply EC.ret
         | with_reducible apply EK.in_normal | with_reducible apply EK.in_same | ((with_reducible apply EK.in_other); exact rfl) | with_reducible apply EK.in_ret | with_reducible apply EK.then_ret
         | with_reducible apply EK.then_exit)
      refine EK.retc2r 1 rfl rfl rfl rfl rfl ?_ rfl
      (repeat first | exact RefineL.refl _ _ | exact RL.nil | exact Rf.same | exact Rf.bs0 | exact Rf.sl0 | (apply Rf.fact; (focus (simp; done)); exact rfl) | apply Rf.tup | apply RL.cons)
    case refine_3 =>
      intro q0 qb q4
      subst q0 q4
      have hz : chR (.mk true bx [.mk false b0 x0, .mk f1 b1 x1, .mk f2 b2 x2, .mk f3 b3 x3, .mk true b4 x4, .mk f5 b5 x5]) = none := by rw [hs]; simp
      rw [oneD_none hz]
      clear step hs hz
      repeat
        (first
         | (apply P_skip; exact rfl)
         | (apply P_call (h1); exact rfl; (focus (repeat first | exact RefineL.refl _ _ | exact RL.nil | exact Rf.same | exact Rf.bs0 | exact Rf.sl0 | (apply Rf.fact; (focus (simp; done)); exact rfl) | apply Rf.tup | apply RL.cons)); (focus (intro _ _; simp [go_sem]; done)); (iterate 2 exact rfl))
         | (apply P_call (h2); exact rfl; (focus (repeat first | exact RefineL.refl _ _ | exact RL.nil | exact Rf.same | exact Rf.bs0 | exact Rf.sl0 | (apply Rf.fact; (focus (simp; done)); exact rfl) | apply Rf.tup | apply RL.cons)); (focus (intro _ _; simp [go_sem]; done)); (iterate 2 exact rfl))
         | (apply P_call (h3); exact rfl; (focus (repeat first | exact RefineL.refl _ _ | exact RL.nil | exact Rf.same | exact Rf.bs0 | exact Rf.sl0 | (apply Rf.fact; (focus (simp; done)); exact rfl) | apply Rf.tup | apply RL.cons)); (focus (intro _ _; simp [go_sem]; done)); (iterate 2 exact rfl))
         | (apply P_call (h5); exact rfl; (focus (repeat first | exact RefineL.refl _ _ | exact RL.nil | exact Rf.same | exact Rf.bs0 | exact Rf.sl0 | (apply Rf.fact; (focus (simp; done)); exact rfl) | apply Rf.tup | apply RL.cons)); (focus (intro _ _; simp [go_sem]; done)); (iterate 2 exact rfl))
         | (apply P_move; (iterate 3 exact rfl)) | (apply P_assign; (iterate 3 exact rfl)) | (apply P_field; (iterate 6 exact rfl)) | (apply P_fieldpd; (iterate 7 exact rfl))
         | (apply P_extract; (iterate 4 exact rfl)) | (apply P_loadpd; (iterate 5 exact rfl)) | (apply P_pick; (iterate 4 exact rfl)) | (apply P_not; (iterate 3 exact rfl))
         | (apply P_load; exact rfl; (first | exact I0 | exact I1 | exact I2 | exact I3 | exact I4 | exact I5 | exact I6); (iterate 4 exact rfl))
         | (apply P_cmp (b := true); (iterate 2 exact rfl); (focus (first | (simp [cmpI]; done) | (simp [cmpI]; omega))); (iterate 2 exact rfl))
         | (apply P_cmp (b := false); (iterate 2 exact rfl); (focus (first | (simp [cmpI]; done) | (simp [cmpI]; omega))); (iterate 2 exact rfl)) | (apply P_cmp; (iterate 5 exact rfl))
         | (apply P_ar; (iterate 3 exact rfl); (focus omega); (focus omega); (iterate 2 exact rfl)) | (apply P_lenbs; (iterate 4 exact rfl)) | (apply P_lensl; (iterate 4 exact rfl))
         | (apply P_lenrow; exact rfl; (first | exact I0 | exact I1 | exact I2 | exact I3 | exact I4 | exact I5 | exact I6); (iterate 3 exact rfl)) | (apply P_lenv; (iterate 4 exact rfl))
         | (apply P_index; (iterate 4 exact rfl); (focus (first | exact ⟨by decide, rfl⟩ | (refine ⟨by omega, ?_⟩; rw [Int.toNat_natCast]; assumption))); (iterate 2 exact rfl))
         | (apply P_indexbs; (iterate 3 exact rfl); (focus (first | exact ⟨by decide, rfl⟩ | (refine ⟨by omega, ?_⟩; rw [Int.toNat_natCast]; assumption))); (iterate 2 exact rfl))
         | (apply P_str; (iterate 3 exact rfl)) | (apply P_build; (iterate 7 exact rfl)) | (apply P_build0; (iterate 5 exact rfl)) | (apply P_lit; (iterate 9 exact rfl))
         | (apply P_s2a; (iterate 2 exact rfl); (focus (first | assumption | omega)); (iterate 3 exact rfl)) | (apply P_alloc; exact rfl; exact rfl; exact rfl; intro _)
         | (apply P_box; exact rfl; exact rfl; exact rfl; intro _) | (apply P_store; exact rfl; (focus (repeat first | exact .z | apply SetAt.s | apply SetAtF.s)); (iterate 4 exact rfl))
         | ((apply P_append; exact rfl; (focus (repeat first | exact .z | apply SetAt.s | apply SetAtF.s)); (iterate 5 exact rfl); (focus (constructor <;> (first | (simp; done) | (simp; omega))))); intro _)
         | apply EL.nil | ((with_reducible apply EK.then_normal); apply EK.code) | with_reducible apply EC.seq | with_reducible apply EC.region | (apply EC.cond_true; exact rfl)
         | (apply EC.cond_false; exact rfl) | with_reducible apply EC.skip | with_reducible apply EC.label | with_reducible apply EC.block | with_reducible apply EC.exit | with_reducible apply EC.ret
         | with_reducible apply EK.in_normal | with_reducible apply EK.in_same | ((with_reducible apply EK.in_other); exact rfl) | with_reducible apply EK.in_ret | with_reducible apply EK.then_ret
         | with_reducible apply EK.then_exit)
      refine EK.retc2r 1 rfl rfl rfl rfl rfl ?_ rfl
      (repeat first | exact RefineL.refl _ _ | exact RL.nil | exact Rf.same | exact Rf.bs0 | exact Rf.sl0 | (apply Rf.fact; (focus (simp; done)); exact rfl) | apply Rf.tup | apply RL.cons)
    case refine_4 =>
      intro q0 qb q4 e1
      subst q0 q4
      have hz : chR (.mk true bx [.mk false b0 x0, .mk f1 b1 x1, .mk f2 b2 x2, .mk f3 b3 x3, .mk false b4 x4, .mk f5 b5 x5]) = none := by rw [hs]; simp [e1]
      rw [oneD_none hz]
      clear step hs hz
      simp only [e1, Option.getD, Option.isSome] at h1
      simp only [e1, Option.getD] at hi
      obtain ⟨sd, sb, hsd⟩ : ∃ d b, slotsD (.mk f5 b5 x5) = .tpl [d, .v (.bool b)] := by
        unfold slotsD
        split <;> exact ⟨_, _, rfl⟩
      rw [hsd] at h5
      clear hsd
      repeat
        (first
         | (apply P_skip; exact rfl)
         | (apply P_call (h1); exact rfl; (focus (repeat first | exact RefineL.refl _ _ | exact RL.nil | exact Rf.same | exact Rf.bs0 | exact Rf.sl0 | (apply Rf.fact; (focus (simp; done)); exact rfl) | apply Rf.tup | apply RL.cons)); (focus (intro _ _; simp [go_sem]; done)); (iterate 2 exact rfl))
         | (apply P_call (h2); exact rfl; (focus (repeat first | exact RefineL.refl _ _ | exact RL.nil | exact Rf.same | exact Rf.bs0 | exact Rf.sl0 | (apply Rf.fact; (focus (simp; done)); exact rfl) | apply Rf.tup | apply RL.cons)); (focus (intro _ _; simp [go_sem]; done)); (iterate 2 exact rfl))
         | (apply P_call (h3); exact rfl; (focus (repeat first | exact RefineL.refl _ _ | exact RL.nil | exact Rf.same | exact Rf.bs0 | exact Rf.sl0 | (apply Rf.fact; (focus (simp; done)); exact rfl) | apply Rf.tup | apply RL.cons)); (focus (intro _ _; simp [go_sem]; done)); (iterate 2 exact rfl))
         | (apply P_call (h5); exact rfl; (focus (repeat first | exact RefineL.refl _ _ | exact RL.nil | exact Rf.same | exact Rf.bs0 | exact Rf.sl0 | (apply Rf.fact; (focus (simp; done)); exact rfl) | apply Rf.tup | apply RL.cons)); (focus (intro _ _; simp [go_sem]; done)); (iterate 2 exact rfl))
         | (apply P_move; (iterate 3 exact rfl)) | (apply P_assign; (iterate 3 exact rfl)) | (apply P_field; (iterate 6 exact rfl)) | (apply P_fieldpd; (iterate 7 exact rfl))
         | (apply P_extract; (iterate 4 exact rfl)) | (apply P_loadpd; (iterate 5 exact rfl)) | (apply P_pick; (iterate 4 exact rfl)) | (apply P_not; (iterate 3 exact rfl))
         | (apply P_load; exact rfl; (first | exact I0 | exact I1 | exact I2 | exact I3 | exact I4 | exact I5 | exact I6); (iterate 4 exact rfl))
         | (apply P_cmp (b := true); (iterate 2 exact rfl); (focus (first | (simp [cmpI]; done) | (simp [cmpI]; omega))); (iterate 2 exact rfl))
         | (apply P_cmp (b := false); (iterate 2 exact rfl); (focus (first | (simp [cmpI]; done) | (simp [cmpI]; omega))); (iterate 2 exact rfl)) | (apply P_cmp; (iterate 5 exact rfl))
         | (apply P_ar; (iterate 3 exact rfl); (focus omega); (focus omega); (iterate 2 exact rfl)) | (apply P_lenbs; (iterate 4 exact rfl)) | (apply P_lensl; (iterate 4 exact rfl))
         | (apply P_lenrow; exact rfl; (first | exact I0 | exact I1 | exact I2 | exact I3 | exact I4 | exact I5 | exact I6); (iterate 3 exact rfl)) | (apply P_lenv; (iterate 4 exact rfl))
         | (apply P_index; (iterate 4 exact rfl); (focus (first | exact ⟨by decide, rfl⟩ | (refine ⟨by omega, ?_⟩; rw [Int.toNat_natCast]; assumption))); (iterate 2 exact rfl))
         | (apply P_indexbs; (iterate 3 exact rfl); (focus (first | exact ⟨by decide, rfl⟩ | (refine ⟨by omega, ?_⟩; rw [Int.toNat_natCast]; assumption))); (iterate 2 exact rfl))
         | (apply P_str; (iterate 3 exact rfl)) | (apply P_build; (iterate 7 exact rfl)) | (apply P_build0; (iterate 5 exact rfl)) | (apply P_lit; (iterate 9 exact rfl))
         | (apply P_s2a; (iterate 2 exact rfl); (focus (first | assumption | omega)); (iterate 3 exact rfl)) | (apply P_alloc; exact rfl; exact rfl; exact rfl; intro _)
         | (apply P_box; exact rfl; exact rfl; exact rfl; intro _) | (apply P_store; exact rfl; (focus (repeat first | exact .z | apply SetAt.s | apply SetAtF.s)); (iterate 4 exact rfl))
         | ((apply P_append; exact rfl; (focus (repeat first | exact .z | apply SetAt.s | apply SetAtF.s)); (iterate 5 exact rfl); (focus (constructor <;> (first | (simp; done) | (simp; omega))))); intro _)
         | apply EL.nil | ((with_reducible apply EK.then_normal); apply EK.code) | with_reducible apply EC.seq | with_reducible apply EC.region | (apply EC.cond_true; exact rfl)
         | (apply EC.cond_false; exact rfl) | with_reducible apply EC.skip | with_reducible apply EC.label | with_reducible apply EC.block | with_reducible apply EC.exit | with_reducible apply EC.ret
         | with_reducible apply EK.in_normal | with_reducible apply EK.in_same | ((with_reducible apply EK.in_other); exact rfl) | with_reducible apply EK.in_ret | with_reducible apply EK.then_ret
         | with_reducible apply EK.then_exit)
      refine EK.retc2r 2 rfl rfl rfl rfl rfl ?_ rfl
      (repeat first | exact RefineL.refl _ _ | exact RL.nil | exact Rf.same | exact Rf.bs0 | exact Rf.sl0 | (apply Rf.fact; (focus (simp; done)); exact rfl) | apply Rf.tup | apply RL.cons)
    case refine_5 =>
      intro n q0 qb q4 e1 e2
      subst q0 q4
      have hz : chR (.mk true bx [.mk false b0 x0, .mk f1 b1 x1, .mk f2 b2 x2, .mk f3 b3 x3, .mk false b4 x4, .mk f5 b5 x5]) = none := by rw [hs]; simp [e1, e2]
      rw [oneD_none hz]
      clear step hs hz
      simp only [e1, Option.getD, Option.isSome] at h1
      simp only [e2, Option.getD, Option.isSome] at h2
      simp only [e1, Option.getD] at hi
      obtain ⟨sd, sb, hsd⟩ : ∃ d b, slotsD (.mk f5 b5 x5) = .tpl [d, .v (.bool b)] := by
        unfold slotsD
        split <;> exact ⟨_, _, rfl⟩
      rw [hsd] at h5
      clear hsd
      repeat
        (first
         | (apply P_skip; exact rfl)
         | (apply P_call (h1); exact rfl; (focus (repeat first | exact RefineL.refl _ _ | exact RL.nil | exact Rf.same | exact Rf.bs0 | exact Rf.sl0 | (apply Rf.fact; (focus (simp; done)); exact rfl) | apply Rf.tup | apply RL.cons)); (focus (intro _ _; simp [go_sem]; done)); (iterate 2 exact rfl))
         | (apply P_call (h2); exact rfl; (focus (repeat first | exact RefineL.refl _ _ | exact RL.nil | exact Rf.same | exact Rf.bs0 | exact Rf.sl0 | (apply Rf.fact; (focus (simp; done)); exact rfl) | apply Rf.tup | apply RL.cons)); (focus (intro _ _; simp [go_sem]; done)); (iterate 2 exact rfl))
         | (apply P_call (h3); exact rfl; (focus (repeat first | exact RefineL.refl _ _ | exact RL.nil | exact Rf.same | exact Rf.bs0 | exact Rf.sl0 | (apply Rf.fact; (focus (simp; done)); exact rfl) | apply Rf.tup | apply RL.cons)); (focus (intro _ _; simp [go_sem]; done)); (iterate 2 exact rfl))
         | (apply P_call (h5); exact rfl; (focus (repeat first | exact RefineL.refl _ _ | exact RL.nil | exact Rf.same | exact Rf.bs0 | exact Rf.sl0 | (apply Rf.fact; (focus (simp; done)); exact rfl) | apply Rf.tup | apply RL.cons)); (focus (intro _ _; simp [go_sem]; done)); (iterate 2 exact rfl))
         | (apply P_move; (iterate 3 exact rfl)) | (apply P_assign; (iterate 3 exact rfl)) | (apply P_field; (iterate 6 exact rfl)) | (apply P_fieldpd; (iterate 7 exact rfl))
         | (apply P_extract; (iterate 4 exact rfl)) | (apply P_loadpd; (iterate 5 exact rfl)) | (apply P_pick; (iterate 4 exact rfl)) | (apply P_not; (iterate 3 exact rfl))
         | (apply P_load; exact rfl; (first | exact I0 | exact I1 | exact I2 | exact I3 | exact I4 | exact I5 | exact I6); (iterate 4 exact rfl))
         | (apply P_cmp (b := true); (iterate 2 exact rfl); (focus (first | (simp [cmpI]; done) | (simp [cmpI]; omega))); (iterate 2 exact rfl))
         | (apply P_cmp (b := false); (iterate 2 exact rfl); (focus (first | (simp [cmpI]; done) | (simp [cmpI]; omega))); (iterate 2 exact rfl)) | (apply P_cmp; (iterate 5 exact rfl))
         | (apply P_ar; (iterate 3 exact rfl); (focus omega); (focus omega); (iterate 2 exact rfl)) | (apply P_lenbs; (iterate 4 exact rfl)) | (apply P_lensl; (iterate 4 exact rfl))
         | (apply P_lenrow; exact rfl; (first | exact I0 | exact I1 | exact I2 | exact I3 | exact I4 | exact I5 | exact I6); (iterate 3 exact rfl)) | (apply P_lenv; (iterate 4 exact rfl))
         | (apply P_index; (iterate 4 exact rfl); (focus (first | exact ⟨by decide, rfl⟩ | (refine ⟨by omega, ?_⟩; rw [Int.toNat_natCast]; assumption))); (iterate 2 exact rfl))
         | (apply P_indexbs; (iterate 3 exact rfl); (focus (first | exact ⟨by decide, rfl⟩ | (refine ⟨by omega, ?_⟩; rw [Int.toNat_natCast]; assumption))); (iterate 2 exact rfl))
         | (apply P_str; (iterate 3 exact rfl)) | (apply P_build; (iterate 7 exact rfl)) | (apply P_build0; (iterate 5 exact rfl)) | (apply P_lit; (iterate 9 exact rfl))
         | (apply P_s2a; (iterate 2 exact rfl); (focus (first | assumption | omega)); (iterate 3 exact rfl)) | (apply P_alloc; exact rfl; exact rfl; exact rfl; intro _)
         | (apply P_box; exact rfl; exact rfl; exact rfl; intro _) | (apply P_store; exact rfl; (focus (repeat first | exact .z | apply SetAt.s | apply SetAtF.s)); (iterate 4 exact rfl))
         | ((apply P_append; exact rfl; (focus (repeat first | exact .z | apply SetAt.s | apply SetAtF.s)); (iterate 5 exact rfl); (focus (constructor <;> (first | (simp; done) | (simp; omega))))); intro _)
         | apply EL.nil | ((with_reducible apply EK.then_normal); apply EK.code) | with_reducible apply EC.seq | with_reducible apply EC.region | (apply EC.cond_true; exact rfl)
         | (apply EC.cond_false; exact rfl) | with_reducible apply EC.skip | with_reducible apply EC.label | with_reducible apply EC.block | with_reducible apply EC.exit | with_reducible apply EC.ret
         | with_reducible apply EK.in_normal | with_reducible apply EK.in_same | ((with_reducible apply EK.in_other); exact rfl) | with_reducible apply EK.in_ret | with_reducible apply EK.then_ret
         | with_reducible apply EK.then_exit)
      refine EK.retc2r 2 rfl rfl rfl rfl rfl ?_ rfl
      (repeat first | exact RefineL.refl _ _ | exact RL.nil | exact Rf.same | exact Rf.bs0 | exact Rf.sl0 | (apply Rf.fact; (focus (simp; done)); exact rfl) | apply Rf.tup | apply RL.cons)
    case refine_6 =>
      intro n m q0 qb q4 e1 e2 e3
      subst q0 q4
      have hz : chR (.mk true bx [.mk false b0 x0, .mk f1 b1 x1, .mk f2 b2 x2, .mk f3 b3 x3, .mk false b4 x4, .mk f5 b5 x5]) = none := by rw [hs]; simp [e1, e2, e3]
      rw [oneD_none hz]
      clear step hs hz
      simp only [e1, Option.getD, Option.isSome] at h1
      simp only [e2, Option.getD, Option.isSome] at h2
      simp only [e3, Option.getD, Option.isSome] at h3
      simp only [e1, Option.getD] at hi
      obtain ⟨sd, sb, hsd⟩ : ∃ d b, slotsD (.mk f5 b5 x5) = .tpl [d, .v (.bool b)] := by
        unfold slotsD
        split <;> exact ⟨_, _, rfl⟩
      rw [hsd] at h5
      clear hsd
      repeat
        (first
         | (apply P_skip; exact rfl)
         | (apply P_call (h1); exact rfl; (focus (repeat first | exact RefineL.refl _ _ | exact RL.nil | exact Rf.same | exact Rf.bs0 | exact Rf.sl0 | (apply Rf.fact; (focus (simp; done)); exact rfl) | apply Rf.tup | apply RL.cons)); (focus (intro _ _; simp [go_sem]; done)); (iterate 2 exact rfl))
         | (apply P_call (h2); exact rfl; (focus (repeat first | exact RefineL.refl _ _ | exact RL.nil | exact Rf.same | exact Rf.bs0 | exact Rf.sl0 | (apply Rf.fact; (focus (simp; done)); exact rfl) | apply Rf.tup | apply RL.cons)); (focus (intro _ _; simp [go_sem]; done)); (iterate 2 exact rfl))
         | (apply P_call (h3); exact rfl; (focus (repeat first | exact RefineL.refl _ _ | exact RL.nil | exact Rf.same | exact Rf.bs0 | exact Rf.sl0 | (apply Rf.fact; (focus (simp; done)); exact rfl) | apply Rf.tup | apply RL.cons)); (focus (intro _ _; simp [go_sem]; done)); (iterate 2 exact rfl))
         | (apply P_call (h5); exact rfl; (focus (repeat first | exact RefineL.refl _ _ | exact RL.nil | exact Rf.same | exact Rf.bs0 | exact Rf.sl0 | (apply Rf.fact; (focus (simp; done)); exact rfl) | apply Rf.tup | apply RL.cons)); (focus (intro _ _; simp [go_sem]; done)); (iterate 2 exact rfl))
         | (apply P_move; (iterate 3 exact rfl)) | (apply P_assign; (iterate 3 exact rfl)) | (apply P_field; (iterate 6 exact rfl)) | (apply P_fieldpd; (iterate 7 exact rfl))
         | (apply P_extract; (iterate 4 exact rfl)) | (apply P_loadpd; (iterate 5 exact rfl)) | (apply P_pick; (iterate 4 exact rfl)) | (apply P_not; (iterate 3 exact rfl))
         | (apply P_load; exact rfl; (first | exact I0 | exact I1 | exact I2 | exact I3 | exact I4 | exact I5 | exact I6); (iterate 4 exact rfl))
         | (apply P_cmp (b := true); (iterate 2 exact rfl); (focus (first | (simp [cmpI]; done) | (simp [cmpI]; omega))); (iterate 2 exact rfl))
         | (apply P_cmp (b := false); (iterate 2 exact rfl); (focus (first | (simp [cmpI]; done) | (simp [cmpI]; omega))); (iterate 2 exact rfl)) | (apply P_cmp; (iterate 5 exact rfl))
         | (apply P_ar; (iterate 3 exact rfl); (focus omega); (focus omega); (iterate 2 exact rfl)) | (apply P_lenbs; (iterate 4 exact rfl)) | (apply P_lensl; (iterate 4 exact rfl))
         | (apply P_lenrow; exact rfl; (first | exact I0 | exact I1 | exact I2 | exact I3 | exact I4 | exact I5 | exact I6); (iterate 3 exact rfl)) | (apply P_lenv; (iterate 4 exact rfl))
         | (apply P_index; (iterate 4 exact rfl); (focus (first | exact ⟨by decide, rfl⟩ | (refine ⟨by omega, ?_⟩; rw [Int.toNat_natCast]; assumption))); (iterate 2 exact rfl))
         | (apply P_indexbs; (iterate 3 exact rfl); (focus (first | exact ⟨by decide, rfl⟩ | (refine ⟨by omega, ?_⟩; rw [Int.toNat_natCast]; assumption))); (iterate 2 exact rfl))
         | (apply P_str; (iterate 3 exact rfl)) | (apply P_build; (iterate 7 exact rfl)) | (apply P_build0; (iterate 5 exact rfl)) | (apply P_lit; (iterate 9 exact rfl))
         | (apply P_s2a; (iterate 2 exact rfl); (focus (first | assumption | omega)); (iterate 3 exact rfl)) | (apply P_alloc; exact rfl; exact rfl; exact rfl; intro _)
         | (apply P_box; exact rfl; exact rfl; exact rfl; intro _) | (apply P_store; exact rfl; (focus (repeat first | exact .z | apply SetAt.s | apply SetAtF.s)); (iterate 4 exact rfl))
         | ((apply P_append; exact rfl; (focus (repeat first | exact .z | apply SetAt.s | apply SetAtF.s)); (iterate 5 exact rfl); (focus (constructor <;> (first | (simp; done) | (simp; omega))))); intro _)
         | apply EL.nil | ((with_reducible apply EK.then_normal); apply EK.code) | with_reducible apply EC.seq | with_reducible apply EC.region | (apply EC.cond_true; exact rfl)
         | (apply EC.cond_false; exact rfl) | with_reducible apply EC.skip | with_reducible apply EC.label | with_reducible apply EC.block | with_reducible apply EC.exit | with_reducible apply EC.ret
         | with_reducible apply EK.in_normal | with_reducible apply EK.in_same | ((with_reducible apply EK.in_other); exact rfl) | with_reducible apply EK.in_ret | with_reducible apply EK.then_ret
         | with_reducible apply EK.then_exit)
      refine EK.retc2r 2 rfl rfl rfl rfl rfl ?_ rfl
      (repeat first | exact RefineL.refl _ _ | exact RL.nil | exact Rf.same | exact Rf.bs0 | exact Rf.sl0 | (apply Rf.fact; (focus (simp; done)); exact rfl) | apply Rf.tup | apply RL.cons)
    case refine_7 =>
      intro n m l q0 qb q4 e1 e2 e3 e5
      subst q0 q4
      have hz : chR (.mk true bx [.mk false b0 x0, .mk f1 b1 x1, .mk f2 b2 x2, .mk f3 b3 x3, .mk false b4 x4, .mk f5 b5 x5]) = none := by rw [hs]; simp [e1, e2, e3, e5]
      rw [oneD_none hz]
      clear step hs hz
      simp only [e1, Option.getD, Option.isSome] at h1
      simp only [e2, Option.getD, Option.isSome] at h2
      simp only [e3, Option.getD, Option.isSome] at h3
      simp only [e3, Option.getD] at hwl
      simp only [e1, Option.getD] at hi
      rw [slotsD_none e5] at h5
      repeat
        (first
         | (apply P_skip; exact rfl)
         | (apply P_call (h1); exact rfl; (focus (repeat first | exact RefineL.refl _ _ | exact RL.nil | exact Rf.same | exact Rf.bs0 | exact Rf.sl0 | (apply Rf.fact; (focus (simp; done)); exact rfl) | apply Rf.tup | apply RL.cons)); (focus (intro _ _; simp [go_sem]; done)); (iterate 2 exact rfl))
         | (apply P_call (h2); exact rfl; (focus (repeat first | exact RefineL.refl _ _ | exact RL.nil | exact Rf.same | exact Rf.bs0 | exact Rf.sl0 | (apply Rf.fact; (focus (simp; done)); exact rfl) | apply Rf.tup | apply RL.cons)); (focus (intro _ _; simp [go_sem]; done)); (iterate 2 exact rfl))
         | (apply P_call (h3); exact rfl; (focus (repeat first | exact RefineL.refl _ _ | exact RL.nil | exact Rf.same | exact Rf.bs0 | exact Rf.sl0 | (apply Rf.fact; (focus (simp; done)); exact rfl) | apply Rf.tup | apply RL.cons)); (focus (intro _ _; simp [go_sem]; done)); (iterate 2 exact rfl))
         | (apply P_call (h5); exact rfl; (focus (repeat first | exact RefineL.refl _ _ | exact RL.nil | exact Rf.same | exact Rf.bs0 | exact Rf.sl0 | (apply Rf.fact; (focus (simp; done)); exact rfl) | apply Rf.tup | apply RL.cons)); (focus (intro _ _; simp [go_sem]; done)); (iterate 2 exact rfl))
         | (apply P_move; (iterate 3 exact rfl)) | (apply P_assign; (iterate 3 exact rfl)) | (apply P_field; (iterate 6 exact rfl)) | (apply P_fieldpd; (iterate 7 exact rfl))
         | (apply P_extract; (iterate 4 exact rfl)) | (apply P_loadpd; (iterate 5 exact rfl)) | (apply P_pick; (iterate 4 exact rfl)) | (apply P_not; (iterate 3 exact rfl))
         | (apply P_load; exact rfl; (first | exact I0 | exact I1 | exact I2 | exact I3 | exact I4 | exact I5 | exact I6); (iterate 4 exact rfl))
         | (apply P_cmp (b := true); (iterate 2 exact rfl); (focus (first | (simp [cmpI]; done) | (simp [cmpI]; omega))); (iterate 2 exact rfl))
         | (apply P_cmp (b := false); (iterate 2 exact rfl); (focus (first | (simp [cmpI]; done) | (simp [cmpI]; omega))); (iterate 2 exact rfl)) | (apply P_cmp; (iterate 5 exact rfl))
         | (apply P_ar; (iterate 3 exact rfl); (focus omega); (focus omega); (iterate 2 exact rfl)) | (apply P_lenbs; (iterate 4 exact rfl)) | (apply P_lensl; (iterate 4 exact rfl))
         | (apply P_lenrow; exact rfl; (first | exact I0 | exact I1 | exact I2 | exact I3 | exact I4 | exact I5 | exact I6); (iterate 3 exact rfl)) | (apply P_lenv; (iterate 4 exact rfl))
         | (apply P_index; (iterate 4 exact rfl); (focus (first | exact ⟨by decide, rfl⟩ | (refine ⟨by omega, ?_⟩; rw [Int.toNat_natCast]; assumption))); (iterate 2 exact rfl))
         | (apply P_indexbs; (iterate 3 exact rfl); (focus (first | exact ⟨by decide, rfl⟩ | (refine ⟨by omega, ?_⟩; rw [Int.toNat_natCast]; assumption))); (iterate 2 exact rfl))
         | (apply P_str; (iterate 3 exact rfl)) | (apply P_build; (iterate 7 exact rfl)) | (apply P_build0; (iterate 5 exact rfl)) | (apply P_lit; (iterate 9 exact rfl))
         | (apply P_s2a; (iterate 2 exact rfl); (focus (first | assumption | omega)); (iterate 3 exact rfl)) | (apply P_alloc; exact rfl; exact rfl; exact rfl; intro _)
         | (apply P_box; exact rfl; exact rfl; exact rfl; intro _) | (apply P_store; exact rfl; (focus (repeat first | exact .z | apply SetAt.s | apply SetAtF.s)); (iterate 4 exact rfl))
         | ((apply P_append; exact rfl; (focus (repeat first | exact .z | apply SetAt.s | apply SetAtF.s)); (iterate 5 exact rfl); (focus (constructor <;> (first | (simp; done) | (simp; omega))))); intro _)
         | apply EL.nil | ((with_reducible apply EK.then_normal); apply EK.code) | with_reducible apply EC.seq | with_reducible apply EC.region | (apply EC.cond_true; exact rfl)
         | (apply EC.cond_false; exact rfl) | with_reducible apply EC.skip | with_reducible apply EC.label | with_reducible apply EC.block | with_reducible apply EC.exit | with_reducible apply EC.ret
         | with_reducible apply EK.in_normal | with_reducible apply EK.in_same | ((with_reducible apply EK.in_other); exact rfl) | with_reducible apply EK.in_ret | with_reducible apply EK.then_ret
         | with_reducible apply EK.then_exit)
      refine EK.retc2r 2 rfl rfl rfl rfl rfl ?_ rfl
      (repeat first | exact RefineL.refl _ _ | exact RL.nil | exact Rf.same | exact Rf.bs0 | exact Rf.sl0 | (apply Rf.fact; (focus (simp; done)); exact rfl) | apply Rf.tup | apply RL.cons)
    case refine_8 =>
      intro n m l ss q0 qb q4 e1 e2 e3 e5 hn
      subst q0 q4
      have hz : chR (.mk true bx [.mk false b0 x0, .mk f1 b1 x1, .mk f2 b2 x2, .mk f3 b3 x3, .mk false b4 x4, .mk f5 b5 x5]) = none := by rw [hs]; simp [e1, e2, e3, e5, show ¬ n ≤ 1 by omega]
      rw [oneD_none hz]
      clear step hs hz
      simp only [e1, Option.getD, Option.isSome] at h1
      simp only [e2, Option.getD, Option.isSome] at h2
      simp only [e3, Option.getD, Option.isSome] at h3
      simp only [e3, Option.getD] at hwl
      simp only [e1, Option.getD] at hi
      rw [slotsD_some e5] at h5
      repeat
        (first
         | (apply P_skip; exact rfl)
         | (apply P_call (h1); exact rfl; (focus (repeat first | exact RefineL.refl _ _ | exact RL.nil | exact Rf.same | exact Rf.bs0 | exact Rf.sl0 | (apply Rf.fact; (focus (simp; done)); exact rfl) | apply Rf.tup | apply RL.cons)); (focus (intro _ _; simp [go_sem]; done)); (iterate 2 exact rfl))
         | (apply P_call (h2); exact rfl; (focus (repeat first | exact RefineL.refl _ _ | exact RL.nil | exact Rf.same | exact Rf.bs0 | exact Rf.sl0 | (apply Rf.fact; (focus (simp; done)); exact rfl) | apply Rf.tup | apply RL.cons)); (focus (intro _ _; simp [go_sem]; done)); (iterate 2 exact rfl))
         | (apply P_call (h3); exact rfl; (focus (repeat first | exact RefineL.refl _ _ | exact RL.nil | exact Rf.same | exact Rf.bs0 | exact Rf.sl0 | (apply Rf.fact; (focus (simp; done)); exact rfl) | apply Rf.tup | apply RL.cons)); (focus (intro _ _; simp [go_sem]; done)); (iterate 2 exact rfl))
         | (apply P_call (h5); exact rfl; (focus (repeat first | exact RefineL.refl _ _ | exact RL.nil | exact Rf.same | exact Rf.bs0 | exact Rf.sl0 | (apply Rf.fact; (focus (simp; done)); exact rfl) | apply Rf.tup | apply RL.cons)); (focus (intro _ _; simp [go_sem]; done)); (iterate 2 exact rfl))
         | (apply P_move; (iterate 3 exact rfl)) | (apply P_assign; (iterate 3 exact rfl)) | (apply P_field; (iterate 6 exact rfl)) | (apply P_fieldpd; (iterate 7 exact rfl))
         | (apply P_extract; (iterate 4 exact rfl)) | (apply P_loadpd; (iterate 5 exact rfl)) | (apply P_pick; (iterate 4 exact rfl)) | (apply P_not; (iterate 3 exact rfl))
         | (apply P_load; exact rfl; (first | exact I0 | exact I1 | exact I2 | exact I3 | exact I4 | exact I5 | exact I6); (iterate 4 exact rfl))
         | (apply P_cmp (b := true); (iterate 2 exact rfl); (focus (first | (simp [cmpI]; done) | (simp [cmpI]; omega))); (iterate 2 exact rfl))
         | (apply P_cmp (b := false); (iterate 2 exact rfl); (focus (first | (simp [cmpI]; done) | (simp [cmpI]; omega))); (iterate 2 exact rfl)) | (apply P_cmp; (iterate 5 exact rfl))
         | (apply P_ar; (iterate 3 exact rfl); (focus omega); (focus omega); (iterate 2 exact rfl)) | (apply P_lenbs; (iterate 4 exact rfl)) | (apply P_lensl; (iterate 4 exact rfl))
         | (apply P_lenrow; exact rfl; (first | exact I0 | exact I1 | exact I2 | exact I3 | exact I4 | exact I5 | exact I6); (iterate 3 exact rfl)) | (apply P_lenv; (iterate 4 exact rfl))
         | (apply P_index; (iterate 4 exact rfl); (focus (first | exact ⟨by decide, rfl⟩ | (refine ⟨by omega, ?_⟩; rw [Int.toNat_natCast]; assumption))); (iterate 2 exact rfl))
         | (apply P_indexbs; (iterate 3 exact rfl); (focus (first | exact ⟨by decide, rfl⟩ | (refine ⟨by omega, ?_⟩; rw [Int.toNat_natCast]; assumption))); (iterate 2 exact rfl))
         | (apply P_str; (iterate 3 exact rfl)) | (apply P_build; (iterate 7 exact rfl)) | (apply P_build0; (iterate 5 exact rfl)) | (apply P_lit; (iterate 9 exact rfl))
         | (apply P_s2a; (iterate 2 exact rfl); (focus (first | assumption | omega)); (iterate 3 exact rfl)) | (apply P_alloc; exact rfl; exact rfl; exact rfl; intro _)
         | (apply P_box; exact rfl; exact rfl; exact rfl; intro _) | (apply P_store; exact rfl; (focus (repeat first | exact .z | apply SetAt.s | apply SetAtF.s)); (iterate 4 exact rfl))
         | ((apply P_append; exact rfl; (focus (repeat first | exact .z | apply SetAt.s | apply SetAtF.s)); (iterate 5 exact rfl); (focus (constructor <;> (first | (simp; done) | (simp; omega))))); intro _)
         | apply EL.nil | ((with_reducible apply EK.then_normal); apply EK.code) | with_reducible apply EC.seq | with_reducible apply EC.region | (apply EC.cond_true; exact rfl)
         | (apply EC.cond_false; exact rfl) | with_reducible apply EC.skip | with_reducible apply EC.label | with_reducible apply EC.block | with_reducible apply EC.exit | with_reducible apply EC.ret
         | with_reducible apply EK.in_normal | with_reducible apply EK.in_same | ((with_reducible apply EK.in_other); exact rfl) | with_reducible apply EK.in_ret | with_reducible apply EK.then_ret
         | with_reducible apply EK.then_exit)
      refine EK.retc2r 2 rfl rfl rfl rfl rfl ?_ rfl
      (repeat first | exact RefineL.refl _ _ | exact RL.nil | exact Rf.same | exact Rf.bs0 | exact Rf.sl0 | (apply Rf.fact; (focus (simp; done)); exact rfl) | apply Rf.tup | apply RL.cons)
    case refine_9 =>
      intro n m l ss q0 qb q4 e1 e2 e3 e5 hn
      subst q0 q4
      have hb4 := hb4 rfl
      have hz : chR (.mk true bx [.mk false b0 x0, .mk f1 b1 x1, .mk f2 b2 x2, .mk f3 b3 x3, .mk false b4 x4, .mk f5 b5 x5]) = some ⟨b0, n == 1, m, l, b4, ss⟩ := by rw [hs]; simp [e1, e2, e3, e5, hn, qb]
      have hgv : ((n : Int) == 1) = (n == 1) := by
        have : n = 0 ∨ n = 1 := by omega
        rcases this with rfl | rfl <;> rfl
      rw [oneD_some hz, ← hgv]
      clear step hs hz hgv
      simp only [e1, Option.getD, Option.isSome] at h1
      simp only [e2, Option.getD, Option.isSome] at h2
      simp only [e3, Option.getD, Option.isSome] at h3
      simp only [e3, Option.getD] at hwl
      simp only [e1, Option.getD] at hi
      rw [slotsD_some e5] at h5
      repeat
        (first
         | (apply P_skip; exact rfl)
         | (apply P_call (h1); exact rfl; (focus (repeat first | exact RefineL.refl _ _ | exact RL.nil | exact Rf.same | exact Rf.bs0 | exact Rf.sl0 | (apply Rf.fact; (focus (simp; done)); exact rfl) | apply Rf.tup | apply RL.cons)); (focus (intro _ _; simp [go_sem]; done)); (iterate 2 exact rfl))
         | (apply P_call (h2); exact rfl; (focus (repeat first | exact RefineL.refl _ _ | exact RL.nil | exact Rf.same | exact Rf.bs0 | exact Rf.sl0 | (apply Rf.fact; (focus (simp; done)); exact rfl) | apply Rf.tup | apply RL.cons)); (focus (intro _ _; simp [go_sem]; done)); (iterate 2 exact rfl))
         | (apply P_call (h3); exact rfl; (focus (repeat first | exact RefineL.refl _ _ | exact RL.nil | exact Rf.same | exact Rf.bs0 | exact Rf.sl0 | (apply Rf.fact; (focus (simp; done)); exact rfl) | apply Rf.tup | apply RL.cons)); (focus (intro _ _; simp [go_sem]; done)); (iterate 2 exact rfl))
         | (apply P_call (h5); exact rfl; (focus (repeat first | exact RefineL.refl _ _ | exact RL.nil | exact Rf.same | exact Rf.bs0 | exact Rf.sl0 | (apply Rf.fact; (focus (simp; done)); exact rfl) | apply Rf.tup | apply RL.cons)); (focus (intro _ _; simp [go_sem]; done)); (iterate 2 exact rfl))
         | (apply P_move; (iterate 3 exact rfl)) | (apply P_assign; (iterate 3 exact rfl)) | (apply P_field; (iterate 6 exact rfl)) | (apply P_fieldpd; (iterate 7 exact rfl))
         | (apply P_extract; (iterate 4 exact rfl)) | (apply P_loadpd; (iterate 5 exact rfl)) | (apply P_pick; (iterate 4 exact rfl)) | (apply P_not; (iterate 3 exact rfl))
         | (apply P_load; exact rfl; (first | exact I0 | exact I1 | exact I2 | exact I3 | exact I4 | exact I5 | exact I6); (iterate 4 exact rfl))
         | (apply P_cmp (b := true); (iterate 2 exact rfl); (focus (first | (simp [cmpI]; done) | (simp [cmpI]; omega))); (iterate 2 exact rfl))
         | (apply P_cmp (b := false); (iterate 2 exact rfl); (focus (first | (simp [cmpI]; done) | (simp [cmpI]; omega))); (iterate 2 exact rfl)) | (apply P_cmp; (iterate 5 exact rfl))
         | (apply P_ar; (iterate 3 exact rfl); (focus omega); (focus omega); (iterate 2 exact rfl)) | (apply P_lenbs; (iterate 4 exact rfl)) | (apply P_lensl; (iterate 4 exact rfl))
         | (apply P_lenrow; exact rfl; (first | exact I0 | exact I1 | exact I2 | exact I3 | exact I4 | exact I5 | exact I6); (iterate 3 exact rfl)) | (apply P_lenv; (iterate 4 exact rfl))
         | (apply P_index; (iterate 4 exact rfl); (focus (first | exact ⟨by decide, rfl⟩ | (refine ⟨by omega, ?_⟩; rw [Int.toNat_natCast]; assumption))); (iterate 2 exact rfl))
         | (apply P_indexbs; (iterate 3 exact rfl); (focus (first | exact ⟨by decide, rfl⟩ | (refine ⟨by omega, ?_⟩; rw [Int.toNat_natCast]; assumption))); (iterate 2 exact rfl))
         | (apply P_str; (iterate 3 exact rfl)) | (apply P_build; (iterate 7 exact rfl)) | (apply P_build0; (iterate 5 exact rfl)) | (apply P_lit; (iterate 9 exact rfl))
         | (apply P_s2a; (iterate 2 exact rfl); (focus (first | assumption | omega)); (iterate 3 exact rfl)) | (apply P_alloc; exact rfl; exact rfl; exact rfl; intro _)
         | (apply P_box; exact rfl; exact rfl; exact rfl; intro _) | (apply P_store; exact rfl; (focus (repeat first | exact .z | apply SetAt.s | apply SetAtF.s)); (iterate 4 exact rfl))
         | ((apply P_append; exact rfl; (focus (repeat first | exact .z | apply SetAt.s | apply SetAtF.s)); (iterate 5 exact rfl); (focus (constructor <;> (first | (simp; done) | (simp; omega))))); intro _)
         | apply EL.nil | ((with_reducible apply EK.then_normal); apply EK.code) | with_reducible apply EC.seq | with_reducible apply EC.region | (apply EC.cond_true; exact rfl)
         | (apply EC.cond_false; exact rfl) | with_reducible apply EC.skip | with_reducible apply EC.label | with_reducible apply EC.block | with_reducible apply EC.exit | with_reducible apply EC.ret
         | with_reducible apply EK.in_normal | with_reducible apply EK.in_same | ((with_reducible apply EK.in_other); exact rfl) | with_reducible apply EK.in_ret | with_reducible apply EK.then_ret
         | with_reducible apply EK.then_exit)
      refine EC.draw 7 (by kernel_rfl) ?_
      simp only [List.take_succ_cons, List.take_zero, List.drop_succ_cons, List.drop_zero]
      repeat
        (first
         | (apply H_skip; (iterate 2 exact rfl)) | (apply H_slarr sl_addr; (iterate 3 exact rfl)) | (apply H_move; (iterate 3 exact rfl)) | (apply H_assign; (iterate 3 exact rfl))
         | (apply H_field; (iterate 6 exact rfl)) | (apply H_fieldpd; (iterate 7 exact rfl)) | (apply H_extract; (iterate 4 exact rfl)) | (apply H_loadpd; (iterate 5 exact rfl))
         | (apply H_pick; (iterate 4 exact rfl)) | (apply H_not; (iterate 3 exact rfl))
         | (apply H_load; exact rfl; (first | exact I0 | exact I1 | exact I2 | exact I3 | exact I4 | exact I5 | exact I6); (iterate 4 exact rfl))
         | (apply H_cmp (b := true); (iterate 2 exact rfl); (focus (first | (simp [cmpI]; done) | (simp [cmpI]; omega))); (iterate 2 exact rfl))
         | (apply H_cmp (b := false); (iterate 2 exact rfl); (focus (first | (simp [cmpI]; done) | (simp [cmpI]; omega))); (iterate 2 exact rfl)) | (apply H_cmp; (iterate 5 exact rfl))
         | (apply H_ar; (iterate 3 exact rfl); (focus omega); (focus omega); (iterate 2 exact rfl)) | (apply H_lenbs; (iterate 4 exact rfl)) | (apply H_lensl; (iterate 4 exact rfl))
         | (apply H_lenrow; exact rfl; (first | exact I0 | exact I1 | exact I2 | exact I3 | exact I4 | exact I5 | exact I6); (iterate 3 exact rfl)) | (apply H_lenv; (iterate 4 exact rfl))
         | (apply H_index; (iterate 4 exact rfl); (focus (first | exact ⟨by decide, rfl⟩ | (refine ⟨by omega, ?_⟩; rw [Int.toNat_natCast]; assumption))); (iterate 2 exact rfl))
         | (apply H_indexbs; (iterate 3 exact rfl); (focus (first | exact ⟨by decide, rfl⟩ | (refine ⟨by omega, ?_⟩; rw [Int.toNat_natCast]; assumption))); (iterate 2 exact rfl))
         | (apply H_str; (iterate 3 exact rfl)) | (apply H_build; (iterate 7 exact rfl)) | (apply H_build0; (iterate 5 exact rfl)) | (apply H_lit; (iterate 9 exact rfl))
         | (apply H_s2a; (iterate 2 exact rfl); (focus (first | assumption | omega)); (iterate 3 exact rfl)) | (apply H_alloc; (iterate 3 exact rfl)) | (apply H_box; (iterate 3 exact rfl))
         | ((with_reducible apply EH.nil); exact rfl) | ((with_reducible apply EH.nil1); exact rfl; intro _) | ((with_reducible apply EH.nil2); exact rfl; intro _ _))
      repeat
        (first
         | (apply P_skip; exact rfl) | (apply P_copy 1 qb; (iterate 8 exact rfl)) | (apply P_apnew hb4; (iterate 3 exact rfl)) | (apply P_move; (iterate 3 exact rfl)) | (apply P_assign; (iterate 3 exact rfl))
         | (apply P_field; (iterate 6 exact rfl)) | (apply P_fieldpd; (iterate 7 exact rfl)) | (apply P_extract; (iterate 4 exact rfl)) | (apply P_loadpd; (iterate 5 exact rfl))
         | (apply P_pick; (iterate 4 exact rfl)) | (apply P_not; (iterate 3 exact rfl))
         | (apply P_load; exact rfl; (first | exact I0 | exact I1 | exact I2 | exact I3 | exact I4 | exact I5 | exact I6); (iterate 4 exact rfl))
         | (apply P_cmp (b := true); (iterate 2 exact rfl); (focus (first | (simp [cmpI]; done) | (simp [cmpI]; omega))); (iterate 2 exact rfl))
         | (apply P_cmp (b := false); (iterate 2 exact rfl); (focus (first | (simp [cmpI]; done) | (simp [cmpI]; omega))); (iterate 2 exact rfl)) | (apply P_cmp; (iterate 5 exact rfl))
         | (apply P_ar; (iterate 3 exact rfl); (focus omega); (focus omega); (iterate 2 exact rfl)) | (apply P_lenbs; (iterate 4 exact rfl)) | (apply P_lensl; (iterate 4 exact rfl))
         | (apply P_lenrow; exact rfl; (first | exact I0 | exact I1 | exact I2 | exact I3 | exact I4 | exact I5 | exact I6); (iterate 3 exact rfl)) | (apply P_lenv; (iterate 4 exact rfl))
         | (apply P_index; (iterate 4 exact rfl); (focus (first | exact ⟨by decide, rfl⟩ | (refine ⟨by omega, ?_⟩; rw [Int.toNat_natCast]; assumption))); (iterate 2 exact rfl))
         | (apply P_indexbs; (iterate 3 exact rfl); (focus (first | exact ⟨by decide, rfl⟩ | (refine ⟨by omega, ?_⟩; rw [Int.toNat_natCast]; assumption))); (iterate 2 exact rfl))
         | (apply P_str; (iterate 3 exact rfl)) | (apply P_build; (iterate 7 exact rfl)) | (apply P_build0; (iterate 5 exact rfl)) | (apply P_lit; (iterate 9 exact rfl))
         | (apply P_s2a; (iterate 2 exact rfl); (focus (first | assumption | omega)); (iterate 3 exact rfl)) | (apply P_alloc; exact rfl; exact rfl; exact rfl; intro _)
         | (apply P_box; exact rfl; exact rfl; exact rfl; intro _) | (apply P_store; exact rfl; (focus (repeat first | exact .z | apply SetAt.s | apply SetAtF.s)); (iterate 4 exact rfl))
         | ((apply P_append; exact rfl; (focus (repeat first | exact .z | apply SetAt.s | apply SetAtF.s)); (iterate 5 exact rfl); (focus (constructor <;> (first | (simp; done) | (simp; omega))))); intro _)
         | apply EL.nil | ((with_reducible apply EK.then_normal); apply EK.code) | with_reducible apply EC.seq | with_reducible apply EC.region | (apply EC.cond_true; exact rfl)
         | (apply EC.cond_false; exact rfl) | with_reducible apply EC.skip | with_reducible apply EC.label | with_reducible apply EC.block | with_reducible apply EC.exit | with_reducible apply EC.ret
         | with_reducible apply EK.in_normal | with_reducible apply EK.in_same | ((with_reducible apply EK.in_other); exact rfl) | with_reducible apply EK.in_ret | with_reducible apply EK.then_ret
         | with_reducible apply EK.then_exit)
      refine EK.retc2r 2 rfl rfl rfl rfl rfl ?_ rfl
      (repeat first | exact RefineL.refl _ _ | exact RL.nil | exact Rf.same | exact Rf.bs0 | exact Rf.sl0 | (apply Rf.fact; (focus (simp; done)); exact rfl) | apply Rf.tup | apply RL.cons)
  · have hn : chR (.mk lx bx xs) = none := chR_list (x := .mk lx bx xs) (fun a g n w c s e => hl (by
      obtain ⟨c, e⟩ := isL_E e
      injection e with e1 e2 e3
      subst e1 e3
      exact ⟨rfl, rfl⟩))
    rw [oneD_none hn]
    refine Fn.walk 122 Try.func32 rfl Try.ntmps32 (by simp) fun X => ?_
    rw [dItem]
    cases lx with
    | false =>
      repeat
        (first
         | (apply P_skip; exact rfl) | (apply P_move; (iterate 3 exact rfl)) | (apply P_assign; (iterate 3 exact rfl)) | (apply P_field; (iterate 6 exact rfl)) | (apply P_fieldpd; (iterate 7 exact rfl))
         | (apply P_extract; (iterate 4 exact rfl)) | (apply P_loadpd; (iterate 5 exact rfl)) | (apply P_pick; (iterate 4 exact rfl)) | (apply P_not; (iterate 3 exact rfl))
         | (apply P_load; exact rfl; (first | exact I0 | exact I1 | exact I2 | exact I3 | exact I4 | exact I5 | exact I6); (iterate 4 exact rfl))
         | (apply P_cmp (b := true); (iterate 2 exact rfl); (focus (first | (simp [cmpI]; done) | (simp [cmpI]; omega))); (iterate 2 exact rfl))
         | (apply P_cmp (b := false); (iterate 2 exact rfl); (focus (first | (simp [cmpI]; done) | (simp [cmpI]; omega))); (iterate 2 exact rfl)) | (apply P_cmp; (iterate 5 exact rfl))
         | (apply P_ar; (iterate 3 exact rfl); (focus omega); (focus omega); (iterate 2 exact rfl)) | (apply P_lenbs; (iterate 4 exact rfl)) | (apply P_lensl; (iterate 4 exact rfl))
         | (apply P_lenrow; exact rfl; (first | exact I0 | exact I1 | exact I2 | exact I3 | exact I4 | exact I5 | exact I6); (iterate 3 exact rfl)) | (apply P_lenv; (iterate 4 exact rfl))
         | (apply P_index; (iterate 4 exact rfl); (focus (first | exact ⟨by decide, rfl⟩ | (refine ⟨by omega, ?_⟩; rw [Int.toNat_natCast]; assumption))); (iterate 2 exact rfl))
         | (apply P_indexbs; (iterate 3 exact rfl); (focus (first | exact ⟨by decide, rfl⟩ | (refine ⟨by omega, ?_⟩; rw [Int.toNat_natCast]; assumption))); (iterate 2 exact rfl))
         | (apply P_str; (iterate 3 exact rfl)) | (apply P_build; (iterate 7 exact rfl)) | (apply P_build0; (iterate 5 exact rfl)) | (apply P_lit; (iterate 9 exact rfl))
         | (apply P_s2a; (iterate 2 exact rfl); (focus (first | assumption | omega)); (iterate 3 exact rfl)) | (apply P_alloc; exact rfl; exact rfl; exact rfl; intro _)
         | (apply P_box; exact rfl; exact rfl; exact rfl; intro _) | (apply P_store; exact rfl; (focus (repeat first | exact .z | apply SetAt.s | apply SetAtF.s)); (iterate 4 exact rfl))
         | ((apply P_append; exact rfl; (focus (repeat first | exact .z | apply SetAt.s | apply SetAtF.s)); (iterate 5 exact rfl); (focus (constructor <;> (first | (simp; done) | (simp; omega))))); intro _)
         | apply EL.nil | ((with_reducible apply EK.then_normal); apply EK.code) | with_reducible apply EC.seq | with_reducible apply EC.region | (apply EC.cond_true; exact rfl)
         | (apply EC.cond_false; exact rfl) | with_reducible apply EC.skip | with_reducible apply EC.label | with_reducible apply EC.block | with_reducible apply EC.exit | with_reducible apply EC.ret
         | with_reducible apply EK.in_normal | with_reducible apply EK.in_same | ((with_reducible apply EK.in_other); exact rfl) | with_reducible apply EK.in_ret | with_reducible apply EK.then_ret
         | with_reducible apply EK.then_exit)
      refine EK.retc2r 1 rfl rfl rfl rfl rfl ?_ rfl
      (repeat first | exact RefineL.refl _ _ | exact RL.nil | exact Rf.same | exact Rf.bs0 | exact Rf.sl0 | (apply Rf.fact; (focus (simp; done)); exact rfl) | apply Rf.tup | apply RL.cons)
    | true =>
      have h6 : ¬ xs.length = 6 := fun e => hl ⟨rfl, e⟩
      repeat
        (first
         | (apply P_skip; exact rfl) | (apply P_move; (iterate 3 exact rfl)) | (apply P_assign; (iterate 3 exact rfl)) | (apply P_field; (iterate 6 exact rfl)) | (apply P_fieldpd; (iterate 7 exact rfl))
         | (apply P_extract; (iterate 4 exact rfl)) | (apply P_loadpd; (iterate 5 exact rfl)) | (apply P_pick; (iterate 4 exact rfl)) | (apply P_not; (iterate 3 exact rfl))
         | (apply P_load; exact rfl; (first | exact I0 | exact I1 | exact I2 | exact I3 | exact I4 | exact I5 | exact I6); (iterate 4 exact rfl))
         | (apply P_cmp (b := true); (iterate 2 exact rfl); (focus (first | (simp [cmpI]; done) | (simp [cmpI]; omega))); (iterate 2 exact rfl))
         | (apply P_cmp (b := false); (iterate 2 exact rfl); (focus (first | (simp [cmpI]; done) | (simp [cmpI]; omega))); (iterate 2 exact rfl)) | (apply P_cmp; (iterate 5 exact rfl))
         | (apply P_ar; (iterate 3 exact rfl); (focus omega); (focus omega); (iterate 2 exact rfl)) | (apply P_lenbs; (iterate 4 exact rfl)) | (apply P_lensl; (iterate 4 exact rfl))
         | (apply P_lenrow; exact rfl; (first | exact I0 | exact I1 | exact I2 | exact I3 | exact I4 | exact I5 | exact I6); (iterate 3 exact rfl)) | (apply P_lenv; (iterate 4 exact rfl))
         | (apply P_index; (iterate 4 exact rfl); (focus (first | exact ⟨by decide, rfl⟩ | (refine ⟨by omega, ?_⟩; rw [Int.toNat_natCast]; assumption))); (iterate 2 exact rfl))
         | (apply P_indexbs; (iterate 3 exact rfl); (focus (first | exact ⟨by decide, rfl⟩ | (refine ⟨by omega, ?_⟩; rw [Int.toNat_natCast]; assumption))); (iterate 2 exact rfl))
         | (apply P_str; (iterate 3 exact rfl)) | (apply P_build; (iterate 7 exact rfl)) | (apply P_build0; (iterate 5 exact rfl)) | (apply P_lit; (iterate 9 exact rfl))
         | (apply P_s2a; (iterate 2 exact rfl); (focus (first | assumption | omega)); (iterate 3 exact rfl)) | (apply P_alloc; exact rfl; exact rfl; exact rfl; intro _)
         | (apply P_box; exact rfl; exact rfl; exact rfl; intro _) | (apply P_store; exact rfl; (focus (repeat first | exact .z | apply SetAt.s | apply SetAtF.s)); (iterate 4 exact rfl))
         | ((apply P_append; exact rfl; (focus (repeat first | exact .z | apply SetAt.s | apply SetAtF.s)); (iterate 5 exact rfl); (focus (constructor <;> (first | (simp; done) | (simp; omega))))); intro _)
         | apply EL.nil | ((with_reducible apply EK.then_normal); apply EK.code) | with_reducible apply EC.seq | with_reducible apply EC.region | (apply EC.cond_true; exact rfl)
         | (apply EC.cond_false; exact rfl) | with_reducible apply EC.skip | with_reducible apply EC.label | with_reducible apply EC.block | with_reducible apply EC.exit | with_reducible apply EC.ret
         | with_reducible apply EK.in_normal | with_reducible apply EK.in_same | ((with_reducible apply EK.in_other); exact rfl) | with_reducible apply EK.in_ret | with_reducible apply EK.then_ret
         | with_reducible apply EK.then_exit)
      refine EK.retc2r 1 rfl rfl rfl rfl rfl ?_ rfl
      (repeat first | exact RefineL.refl _ _ | exact RL.nil | exact Rf.same | exact Rf.bs0 | exact Rf.sl0 | (apply Rf.fact; (focus (simp; done)); exact rfl) | apply Rf.tup | apply RL.cons)
end E
end Go.Proofs.Ytnaaonogihaahaa
