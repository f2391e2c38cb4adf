/-
  Merged (wip/tools/merge.py): EJ1, EJ2, JOfP.
  Conditions: none.
-/
import Derived.Test.YtekacgocjplfjaaZJ17
import Derived.Test.YtekacgocjplfjaaZJ7
import Derived.Test.YtekacgocjplfjaaZJ13
import Derived.Test.YtekacgocjplfjaaZJ15
/-
  journal: one.
  Conditions: none.
-/
namespace Go.Proofs.Ytekacgocjplfjaa
set_option linter.unusedVariables false
open Go.RowKit Mono Rlp Jn
namespace E
set_option maxRecDepth 20000 in
set_option maxHeartbeats 8000000 in
theorem f_one (x : Raw) (hE : (E x).length ≤ 16777216) : Fn 45 [dItem x] (· = oneD x) := by
  obtain ⟨lx, bx, xs⟩ := x
  by_cases hl : lx = true ∧ xs.length = 6
  · obtain ⟨rfl, hl⟩ := hl
    obtain ⟨⟨f0, b0, x0⟩, ⟨f1, b1, x1⟩, ⟨f2, b2, x2⟩, ⟨f3, b3, x3⟩, ⟨f4, b4, x4⟩, ⟨f5, b5, x5⟩, rfl⟩ : ∃ i0 i1 i2 i3 i4 i5, xs = [i0, i1, i2, i3, i4, i5] := by
      match xs, hl with
      | [a, b, c, d, e, f], _ => exact ⟨a, b, c, d, e, f, rfl⟩
    have hlen := dItems_length x5
    have h1 := f_Int (.mk f1 b1 x1)
    have h2 := f_Int (.mk f2 b2 x2)
    have h3 := f_Word (.mk f3 b3 x3)
    by_cases hg : goodC f0 b0 (.mk f1 b1 x1) (.mk f2 b2 x2) (.mk f3 b3 x3) f4 f5 = true
    · have hgood := chR_good (x0 := x0) (b4 := b4) (x4 := x4) (b5 := b5) (x5 := x5) (bx := bx) hg
      have hi := intR_bound (.mk f1 b1 x1)
      have hi2 := intR_bound (.mk f2 b2 x2)
      have hwl := word_lenD (.mk f3 b3 x3)
      unfold goodC at hg
      simp only [Bool.and_eq_true, Bool.not_eq_true', beq_iff_eq, decide_eq_true_eq] at hg
      obtain ⟨⟨⟨⟨⟨⟨⟨rfl, hb⟩, k1⟩, hn⟩, k2⟩, k3⟩, rfl⟩, rfl⟩ := hg
      obtain ⟨n, e1⟩ := Option.isSome_iff_exists.1 k1
      obtain ⟨m, e2⟩ := Option.isSome_iff_exists.1 k2
      obtain ⟨wl, e3⟩ := Option.isSome_iff_exists.1 k3
      have hx5 : x5.length ≤ 16777216 := by
        have := E_list_len bx [.mk false b0 x0, .mk f1 b1 x1, .mk f2 b2 x2, .mk f3 b3 x3, .mk false b4 x4, .mk true b5 x5]
        have := EL_mem [.mk false b0 x0, .mk f1 b1 x1, .mk f2 b2 x2, .mk f3 b3 x3, .mk false b4 x4, .mk true b5 x5] (.mk true b5 x5) (by simp)
        have := E_list_len b5 x5
        have := EL_len x5
        omega
      clear hE hl k1 k2 k3
      simp only [e1, e2, e3, Option.getD] at hgood hn hi hi2 hwl
      simp only [intD, wordD, e1, e2, e3, Option.getD, Option.isSome] at h1 h2 h3
      have hgv : ((n : Int) == 1) = (n == 1) := by
        have : n = 0 ∨ n = 1 := by omega
        rcases this with rfl | rfl <;> rfl
      simp only [← hgv] at hgood
      unfold oneD
      rw [hgood]
      clear hgood hgv
      refine Fn.walk 131 Try.func45 rfl Try.ntmps45 (by simp) fun X => ?_
      simp only [dItem, dItems]
      repeat
        (first
         | (apply P_skip; exact rfl)
         | (apply P_call (h1); exact rfl; (focus (repeat first | exact RefineL.refl _ _ | exact RL.nil | exact Rf.same | exact Rf.bs0 | exact Rf.sl0 | (apply Rf.fact; (focus (simp; done)); exact rfl) | apply Rf.tup | apply RL.cons)); (focus (intro _ _; simp [go_sem]; done)); (iterate 2 exact rfl))
         | (apply P_call (h2); exact rfl; (focus (repeat first | exact RefineL.refl _ _ | exact RL.nil | exact Rf.same | exact Rf.bs0 | exact Rf.sl0 | (apply Rf.fact; (focus (simp; done)); exact rfl) | apply Rf.tup | apply RL.cons)); (focus (intro _ _; simp [go_sem]; done)); (iterate 2 exact rfl))
         | (apply P_call (h3); exact rfl; (focus (repeat first | exact RefineL.refl _ _ | exact RL.nil | exact Rf.same | exact Rf.bs0 | exact Rf.sl0 | (apply Rf.fact; (focus (simp; done)); exact rfl) | apply Rf.tup | apply RL.cons)); (focus (intro _ _; simp [go_sem]; done)); (iterate 2 exact rfl))
         | (apply P_move; (iterate 3 exact rfl)) | (apply P_assign; (iterate 3 exact rfl)) | (apply P_field; (iterate 6 exact rfl)) | (apply P_fieldpd; (iterate 7 exact rfl))
         | (apply P_extract; (iterate 4 exact rfl)) | (apply P_loadpd; (iterate 5 exact rfl)) | (apply P_pick; (iterate 4 exact rfl)) | (apply P_not; (iterate 3 exact rfl))
         | (apply P_load; exact rfl; (first | exact I0 | exact I1 | exact I2 | exact I3 | exact I4 | exact I5 | exact I6); (iterate 4 exact rfl))
         | (apply P_cmp (b := true); (iterate 2 exact rfl); (focus (first | (simp [cmpI]; done) | (simp [cmpI]; omega))); (iterate 2 exact rfl))
         | (apply P_cmp (b := false); (iterate 2 exact rfl); (focus (first | (simp [cmpI]; done) | (simp [cmpI]; omega))); (iterate 2 exact rfl)) | (apply P_cmp; (iterate 5 exact rfl))
         | (apply P_ar; (iterate 3 exact rfl); (focus omega); (focus omega); (iterate 2 exact rfl)) | (apply P_lenbs; (iterate 4 exact rfl)) | (apply P_lensl; (iterate 4 exact rfl))
         | (apply P_lenrow; exact rfl; (first | exact I0 | exact I1 | exact I2 | exact I3 | exact I4 | exact I5 | exact I6); (iterate 3 exact rfl)) | (apply P_lenv; (iterate 4 exact rfl))
         | (apply P_index; (iterate 4 exact rfl); (focus (first | exact ⟨by decide, rfl⟩ | (refine ⟨by omega, ?_⟩; rw [Int.toNat_natCast]; assumption))); (iterate 2 exact rfl))
         | (apply P_indexbs; (iterate 3 exact rfl); (focus (first | exact ⟨by decide, rfl⟩ | (refine ⟨by omega, ?_⟩; rw [Int.toNat_natCast]; assumption))); (iterate 2 exact rfl))
         | (apply P_str; (iterate 3 exact rfl)) | (apply P_build; (iterate 7 exact rfl)) | (apply P_build0; (iterate 5 exact rfl)) | (apply P_lit; (iterate 9 exact rfl))
         | (apply P_s2a; (iterate 2 exact rfl); (focus (first | assumption | omega)); (iterate 3 exact rfl)) | (apply P_alloc; exact rfl; exact rfl; exact rfl; intro _)
         | (apply P_box; exact rfl; exact rfl; exact rfl; intro _) | (apply P_store; exact rfl; (focus (repeat first | exact .z | apply SetAt.s | apply SetAtF.s)); (iterate 4 exact rfl))
         | ((apply P_append; exact rfl; (focus (repeat first | exact .z | apply SetAt.s | apply SetAtF.s)); (iterate 5 exact rfl); (focus (constructor <;> (first | (simp; done) | (simp; omega))))); intro _)
         | apply EL.nil | ((with_reducible apply EK.then_normal); apply EK.code) | with_reducible apply EC.seq | with_reducible apply EC.region | (apply EC.cond_true; exact rfl)
         | (apply EC.cond_false; exact rfl) | with_reducible apply EC.skip | with_reducible apply EC.label | with_reducible apply EC.block | with_reducible apply EC.exit | with_reducible apply EC.ret
         | with_reducible apply EK.in_normal | with_reducible apply EK.in_same | ((with_reducible apply EK.in_other); exact rfl) | with_reducible apply EK.in_ret | with_reducible apply EK.then_ret
         | with_reducible apply EK.then_exit)
      refine EC.draw 16 (by kernel_rfl) ?_
      simp only [List.take_succ_cons, List.take_zero, List.drop_succ_cons, List.drop_zero]
      repeat
        (first
         | (apply H_skip; (iterate 2 exact rfl)) | (apply H_move; (iterate 3 exact rfl)) | (apply H_assign; (iterate 3 exact rfl)) | (apply H_field; (iterate 6 exact rfl))
         | (apply H_fieldpd; (iterate 7 exact rfl)) | (apply H_extract; (iterate 4 exact rfl)) | (apply H_loadpd; (iterate 5 exact rfl)) | (apply H_pick; (iterate 4 exact rfl))
         | (apply H_not; (iterate 3 exact rfl)) | (apply H_load; exact rfl; (first | exact I0 | exact I1 | exact I2 | exact I3 | exact I4 | exact I5 | exact I6); (iterate 4 exact rfl))
         | (apply H_cmp (b := true); (iterate 2 exact rfl); (focus (first | (simp [cmpI]; done) | (simp [cmpI]; omega))); (iterate 2 exact rfl))
         | (apply H_cmp (b := false); (iterate 2 exact rfl); (focus (first | (simp [cmpI]; done) | (simp [cmpI]; omega))); (iterate 2 exact rfl)) | (apply H_cmp; (iterate 5 exact rfl))
         | (apply H_ar; (iterate 3 exact rfl); (focus omega); (focus omega); (iterate 2 exact rfl)) | (apply H_lenbs; (iterate 4 exact rfl)) | (apply H_lensl; (iterate 4 exact rfl))
         | (apply H_lenrow; exact rfl; (first | exact I0 | exact I1 | exact I2 | exact I3 | exact I4 | exact I5 | exact I6); (iterate 3 exact rfl)) | (apply H_lenv; (iterate 4 exact rfl))
         | (apply H_index; (iterate 4 exact rfl); (focus (first | exact ⟨by decide, rfl⟩ | (refine ⟨by omega, ?_⟩; rw [Int.toNat_natCast]; assumption))); (iterate 2 exact rfl))
         | (apply H_indexbs; (iterate 3 exact rfl); (focus (first | exact ⟨by decide, rfl⟩ | (refine ⟨by omega, ?_⟩; rw [Int.toNat_natCast]; assumption))); (iterate 2 exact rfl))
         | (apply H_str; (iterate 3 exact rfl)) | (apply H_build; (iterate 7 exact rfl)) | (apply H_build0; (iterate 5 exact rfl)) | (apply H_lit; (iterate 9 exact rfl))
         | (apply H_s2a; (iterate 2 exact rfl); (focus (first | assumption | omega)); (iterate 3 exact rfl)) | (apply H_alloc; (iterate 3 exact rfl)) | (apply H_box; (iterate 3 exact rfl))
         | ((with_reducible apply EH.nil); exact rfl) | ((with_reducible apply EH.nil1); exact rfl; intro _) | ((with_reducible apply EH.nil2); exact rfl; intro _ _))
      repeat
        (first
         | (apply P_skip; exact rfl) | (apply P_move; (iterate 3 exact rfl)) | (apply P_assign; (iterate 3 exact rfl)) | (apply P_field; (iterate 6 exact rfl)) | (apply P_fieldpd; (iterate 7 exact rfl))
         | (apply P_extract; (iterate 4 exact rfl)) | (apply P_loadpd; (iterate 5 exact rfl)) | (apply P_pick; (iterate 4 exact rfl)) | (apply P_not; (iterate 3 exact rfl))
         | (apply P_load; exact rfl; (first | exact I0 | exact I1 | exact I2 | exact I3 | exact I4 | exact I5 | exact I6); (iterate 4 exact rfl))
         | (apply P_cmp (b := true); (iterate 2 exact rfl); (focus (first | (simp [cmpI]; done) | (simp [cmpI]; omega))); (iterate 2 exact rfl))
         | (apply P_cmp (b := false); (iterate 2 exact rfl); (focus (first | (simp [cmpI]; done) | (simp [cmpI]; omega))); (iterate 2 exact rfl)) | (apply P_cmp; (iterate 5 exact rfl))
         | (apply P_ar; (iterate 3 exact rfl); (focus omega); (focus omega); (iterate 2 exact rfl)) | (apply P_lenbs; (iterate 4 exact rfl)) | (apply P_lensl; (iterate 4 exact rfl))
         | (apply P_lenrow; exact rfl; (first | exact I0 | exact I1 | exact I2 | exact I3 | exact I4 | exact I5 | exact I6); (iterate 3 exact rfl)) | (apply P_lenv; (iterate 4 exact rfl))
         | (apply P_index; (iterate 4 exact rfl); (focus (first | exact ⟨by decide, rfl⟩ | (refine ⟨by omega, ?_⟩; rw [Int.toNat_natCast]; assumption))); (iterate 2 exact rfl))
         | (apply P_indexbs; (iterate 3 exact rfl); (focus (first | exact ⟨by decide, rfl⟩ | (refine ⟨by omega, ?_⟩; rw [Int.toNat_natCast]; assumption))); (iterate 2 exact rfl))
         | (apply P_str; (iterate 3 exact rfl)) | (apply P_build; (iterate 7 exact rfl)) | (apply P_build0; (iterate 5 exact rfl)) | (apply P_lit; (iterate 9 exact rfl))
         | (apply P_s2a; (iterate 2 exact rfl); (focus (first | assumption | omega)); (iterate 3 exact rfl)) | (apply P_alloc; exact rfl; exact rfl; exact rfl; intro _)
         | (apply P_box; exact rfl; exact rfl; exact rfl; intro _) | (apply P_store; exact rfl; (focus (repeat first | exact .z | apply SetAt.s | apply SetAtF.s)); (iterate 4 exact rfl))
         | ((apply P_append; exact rfl; (focus (repeat first | exact .z | apply SetAt.s | apply SetAtF.s)); (iterate 5 exact rfl); (focus (constructor <;> (first | (simp; done) | (simp; omega))))); intro _)
         | apply EL.nil | ((with_reducible apply EK.then_normal); apply EK.code) | with_reducible apply EC.seq | with_reducible apply EC.region | (apply EC.cond_true; exact rfl)
         | (apply EC.cond_false; exact rfl) | with_reducible apply EC.skip | with_reducible apply EC.label | with_reducible apply EC.block | with_reducible apply EC.exit | with_reducible apply EC.ret
         | with_reducible apply EK.in_normal | with_reducible apply EK.in_same | ((with_reducible apply EK.in_other); exact rfl) | with_reducible apply EK.in_ret | with_reducible apply EK.then_ret
         | with_reducible apply EK.then_exit)
      rename_i gx g2 g9 g11
      refine EC.le (Le.row 48 64) ?_
      refine EC.loop (ι := {p : Value × List Sl // p.2.length ≤ x5.length ∧ allR slotR (x5.take p.2.length) = some p.2})
        (fun p => ⟨[(111, .val (.v (.int .i64 (p.1.2.length : Int)))), (110, .val (.v (.int .i64 ((dItems x5).length : Int)))), (109, .val (.sl 3 (dItems x5))), (11, .val (.v (.pointer (some ⟨g11, 0, none⟩)))), (2, .val (.v (.pointer (some ⟨g2, 0, none⟩))))],
          [.row p.1.1 48 64 (p.1.2.map dSl), .var g11 51 (.tup [.arr 20 b0, .v (.bool ((n : Int) == 1)), .v (.int .i64 (m : Int)), .arr 32 wl, .bs b4, .v p.1.1]),
           .var g2 51 (.tup [.arr 20 (List.replicate 20 0), .v (.bool false), .v (.int .i64 0), .arr 32 zero32, .v (.slice none 0 0), .v (.slice none 0 0)])], []⟩)
        (fun p => x5.length - p.1.2.length) ⟨(.slice none 0 0, []), by simp, by simp [allR]⟩ ?_ ?_
      · exact (Le.keep (by repeat first | exact trivial | refine ⟨rfl, ?_⟩) (by repeat first | exact List.nil_sublist _ | apply List.Sublist.cons_cons | apply List.Sublist.cons) (by simp))
      rintro ⟨⟨sv, done⟩, hdl, hd⟩
      dsimp only at hdl hd ⊢
      by_cases hlt : done.length < x5.length
      · have hy : (dItems x5)[done.length]? = some (dItem x5[done.length]) := by rw [dItems_get, List.getElem?_eq_getElem hlt]; rfl
        have ht : ∀ s, slotR x5[done.length] = some s → allR slotR (x5.take (done.length + 1)) = some (done ++ [s]) := fun s h => allR_take hd hlt h
        have hno : slotR x5[done.length] = none → allR slotR x5 = none := fun h => allR_none h x5 (List.getElem_mem hlt)
        have hs := f_slot x5[done.length]
        generalize x5[done.length] = y at hy ht hno hs
        obtain ⟨yf, yb, yx⟩ := y
        simp only [dItem] at hy
        cases e : slotR (.mk yf yb yx) with
        | some s =>
          have := ht s e
          simp only [slotD, slotP_some e, dSl] at hs
          clear ht hno
          repeat
            (first
             | (apply P_skip; exact rfl)
             | (apply P_call (hs); exact rfl; (focus (repeat first | exact RefineL.refl _ _ | exact RL.nil | exact Rf.same | exact Rf.bs0 | exact Rf.sl0 | (apply Rf.fact; (focus (simp; done)); exact rfl) | apply Rf.tup | apply RL.cons)); (focus (intro _ _; simp [go_sem]; done)); (iterate 2 exact rfl))
             | (apply P_move; (iterate 3 exact rfl)) | (apply P_assign; (iterate 3 exact rfl)) | (apply P_field; (iterate 6 exact rfl)) | (apply P_fieldpd; (iterate 7 exact rfl))
             | (apply P_extract; (iterate 4 exact rfl)) | (apply P_loadpd; (iterate 5 exact rfl)) | (apply P_pick; (iterate 4 exact rfl)) | (apply P_not; (iterate 3 exact rfl))
             | (apply P_load; exact rfl; (first | exact I0 | exact I1 | exact I2 | exact I3 | exact I4 | exact I5 | exact I6); (iterate 4 exact rfl))
             | (apply P_cmp (b := true); (iterate 2 exact rfl); (focus (first | (simp [cmpI]; done) | (simp [cmpI]; omega))); (iterate 2 exact rfl))
             | (apply P_cmp (b := false); (iterate 2 exact rfl); (focus (first | (simp [cmpI]; done) | (simp [cmpI]; omega))); (iterate 2 exact rfl)) | (apply P_cmp; (iterate 5 exact rfl))
             | (apply P_ar; (iterate 3 exact rfl); (focus omega); (focus omega); (iterate 2 exact rfl)) | (apply P_lenbs; (iterate 4 exact rfl)) | (apply P_lensl; (iterate 4 exact rfl))
             | (apply P_lenrow; exact rfl; (first | exact I0 | exact I1 | exact I2 | exact I3 | exact I4 | exact I5 | exact I6); (iterate 3 exact rfl)) | (apply P_lenv; (iterate 4 exact rfl))
             | (apply P_index; (iterate 4 exact rfl); (focus (first | exact ⟨by decide, rfl⟩ | (refine ⟨by omega, ?_⟩; rw [Int.toNat_natCast]; assumption))); (iterate 2 exact rfl))
             | (apply P_indexbs; (iterate 3 exact rfl); (focus (first | exact ⟨by decide, rfl⟩ | (refine ⟨by omega, ?_⟩; rw [Int.toNat_natCast]; assumption))); (iterate 2 exact rfl))
             | (apply P_str; (iterate 3 exact rfl)) | (apply P_build; (iterate 7 exact rfl)) | (apply P_build0; (iterate 5 exact rfl)) | (apply P_lit; (iterate 9 exact rfl))
             | (apply P_s2a; (iterate 2 exact rfl); (focus (first | assumption | omega)); (iterate 3 exact rfl)) | (apply P_alloc; exact rfl; exact rfl; exact rfl; intro _)
             | (apply P_box; exact rfl; exact rfl; exact rfl; intro _) | (apply P_store; exact rfl; (focus (repeat first | exact .z | apply SetAt.s | apply SetAtF.s)); (iterate 4 exact rfl))
             | ((apply P_append; exact rfl; (focus (repeat first | exact .z | apply SetAt.s | apply SetAtF.s)); (iterate 5 exact rfl); (focus (constructor <;> (first | (simp; done) | (simp; omega))))); intro _)
             | apply EL.nil | ((with_reducible apply EK.then_normal); apply EK.code) | with_reducible apply EC.seq | with_reducible apply EC.region | (apply EC.cond_true; exact rfl)
             | (apply EC.cond_false; exact rfl) | with_reducible apply EC.skip | with_reducible apply EC.label | with_reducible apply EC.block | with_reducible apply EC.exit | with_reducible apply EC.ret
             | with_reducible apply EK.in_normal | with_reducible apply EK.in_same | ((with_reducible apply EK.in_other); exact rfl) | with_reducible apply EK.in_ret | with_reducible apply EK.then_ret
             | with_reducible apply EK.then_exit)
          rename_i sv'
          refine EK.again ⟨(sv', done ++ [s]), by simp; omega, by simpa using this⟩ (by simp; omega) ?_
          simp only [List.length_append, List.length_cons, List.length_nil, List.map_append, List.map_cons, List.map_nil, Int.natCast_add]
          exact (Le.keep (by repeat first | exact trivial | refine ⟨rfl, ?_⟩) (by repeat first | exact List.nil_sublist _ | apply List.Sublist.cons_cons | apply List.Sublist.cons) (by simp))
        | none =>
          have hno := hno e
          have := slotP_none e
          unfold slotD at hs
          rw [this] at hs
          rw [hno]
          clear ht this
          generalize (slotP (.mk yf yb yx)).1 = z at hs
          unfold dSl at hs
          repeat
            (first
             | (apply P_skip; exact rfl)
             | (apply P_call (hs); exact rfl; (focus (repeat first | exact RefineL.refl _ _ | exact RL.nil | exact Rf.same | exact Rf.bs0 | exact Rf.sl0 | (apply Rf.fact; (focus (simp; done)); exact rfl) | apply Rf.tup | apply RL.cons)); (focus (intro _ _; simp [go_sem]; done)); (iterate 2 exact rfl))
             | (apply P_move; (iterate 3 exact rfl)) | (apply P_assign; (iterate 3 exact rfl)) | (apply P_field; (iterate 6 exact rfl)) | (apply P_fieldpd; (iterate 7 exact rfl))
             | (apply P_extract; (iterate 4 exact rfl)) | (apply P_loadpd; (iterate 5 exact rfl)) | (apply P_pick; (iterate 4 exact rfl)) | (apply P_not; (iterate 3 exact rfl))
             | (apply P_load; exact rfl; (first | exact I0 | exact I1 | exact I2 | exact I3 | exact I4 | exact I5 | exact I6); (iterate 4 exact rfl))
             | (apply P_cmp (b := true); (iterate 2 exact rfl); (focus (first | (simp [cmpI]; done) | (simp [cmpI]; omega))); (iterate 2 exact rfl))
             | (apply P_cmp (b := false); (iterate 2 exact rfl); (focus (first | (simp [cmpI]; done) | (simp [cmpI]; omega))); (iterate 2 exact rfl)) | (apply P_cmp; (iterate 5 exact rfl))
             | (apply P_ar; (iterate 3 exact rfl); (focus omega); (focus omega); (iterate 2 exact rfl)) | (apply P_lenbs; (iterate 4 exact rfl)) | (apply P_lensl; (iterate 4 exact rfl))
             | (apply P_lenrow; exact rfl; (first | exact I0 | exact I1 | exact I2 | exact I3 | exact I4 | exact I5 | exact I6); (iterate 3 exact rfl)) | (apply P_lenv; (iterate 4 exact rfl))
             | (apply P_index; (iterate 4 exact rfl); (focus (first | exact ⟨by decide, rfl⟩ | (refine ⟨by omega, ?_⟩; rw [Int.toNat_natCast]; assumption))); (iterate 2 exact rfl))
             | (apply P_indexbs; (iterate 3 exact rfl); (focus (first | exact ⟨by decide, rfl⟩ | (refine ⟨by omega, ?_⟩; rw [Int.toNat_natCast]; assumption))); (iterate 2 exact rfl))
             | (apply P_str; (iterate 3 exact rfl)) | (apply P_build; (iterate 7 exact rfl)) | (apply P_build0; (iterate 5 exact rfl)) | (apply P_lit; (iterate 9 exact rfl))
             | (apply P_s2a; (iterate 2 exact rfl); (focus (first | assumption | omega)); (iterate 3 exact rfl)) | (apply P_alloc; exact rfl; exact rfl; exact rfl; intro _)
             | (apply P_box; exact rfl; exact rfl; exact rfl; intro _) | (apply P_store; exact rfl; (focus (repeat first | exact .z | apply SetAt.s | apply SetAtF.s)); (iterate 4 exact rfl))
             | ((apply P_append; exact rfl; (focus (repeat first | exact .z | apply SetAt.s | apply SetAtF.s)); (iterate 5 exact rfl); (focus (constructor <;> (first | (simp; done) | (simp; omega))))); intro _)
             | apply EL.nil | ((with_reducible apply EK.then_normal); apply EK.code) | with_reducible apply EC.seq | with_reducible apply EC.region | (apply EC.cond_true; exact rfl)
             | (apply EC.cond_false; exact rfl) | with_reducible apply EC.skip | with_reducible apply EC.label | with_reducible apply EC.block | with_reducible apply EC.exit | with_reducible apply EC.ret
             | with_reducible apply EK.in_normal | with_reducible apply EK.in_same | ((with_reducible apply EK.in_other); exact rfl) | with_reducible apply EK.in_ret | with_reducible apply EK.then_ret
             | with_reducible apply EK.then_exit)
          refine EK.retc2r 4 rfl rfl rfl rfl rfl ?_ rfl
          (repeat first | exact RefineL.refl _ _ | exact RL.nil | exact Rf.same | exact Rf.bs0 | exact Rf.sl0 | (apply Rf.fact; (focus (simp; done)); exact rfl) | apply Rf.tup | apply RL.cons)
      · have e : allR slotR x5 = some done := by rw [← hd, List.take_of_length_le (by omega)]
        rw [e]
        repeat
          (first
           | (apply P_skip; exact rfl) | (apply P_move; (iterate 3 exact rfl)) | (apply P_assign; (iterate 3 exact rfl)) | (apply P_field; (iterate 6 exact rfl)) | (apply P_fieldpd; (iterate 7 exact rfl))
           | (apply P_extract; (iterate 4 exact rfl)) | (apply P_loadpd; (iterate 5 exact rfl)) | (apply P_pick; (iterate 4 exact rfl)) | (apply P_not; (iterate 3 exact rfl))
           | (apply P_load; exact rfl; (first | exact I0 | exact I1 | exact I2 | exact I3 | exact I4 | exact I5 | exact I6); (iterate 4 exact rfl))
           | (apply P_cmp (b := true); (iterate 2 exact rfl); (focus (first | (simp [cmpI]; done) | (simp [cmpI]; omega))); (iterate 2 exact rfl))
           | (apply P_cmp (b := false); (iterate 2 exact rfl); (focus (first | (simp [cmpI]; done) | (simp [cmpI]; omega))); (iterate 2 exact rfl)) | (apply P_cmp; (iterate 5 exact rfl))
           | (apply P_ar; (iterate 3 exact rfl); (focus omega); (focus omega); (iterate 2 exact rfl)) | (apply P_lenbs; (iterate 4 exact rfl)) | (apply P_lensl; (iterate 4 exact rfl))
           | (apply P_lenrow; exact rfl; (first | exact I0 | exact I1 | exact I2 | exact I3 | exact I4 | exact I5 | exact I6); (iterate 3 exact rfl)) | (apply P_lenv; (iterate 4 exact rfl))
           | (apply P_index; (iterate 4 exact rfl); (focus (first | exact ⟨by decide, rfl⟩ | (refine ⟨by omega, ?_⟩; rw [Int.toNat_natCast]; assumption))); (iterate 2 exact rfl))
           | (apply P_indexbs; (iterate 3 exact rfl); (focus (first | exact ⟨by decide, rfl⟩ | (refine ⟨by omega, ?_⟩; rw [Int.toNat_natCast]; assumption))); (iterate 2 exact rfl))
           | (apply P_str; (iterate 3 exact rfl)) | (apply P_build; (iterate 7 exact rfl)) | (apply P_build0; (iterate 5 exact rfl)) | (apply P_lit; (iterate 9 exact rfl))
           | (apply P_s2a; (iterate 2 exact rfl); (focus (first | assumption | omega)); (iterate 3 exact rfl)) | (apply P_alloc; exact rfl; exact rfl; exact rfl; intro _)
           | (apply P_box; exact rfl; exact rfl; exact rfl; intro _) | (apply P_store; exact rfl; (focus (repeat first | exact .z | apply SetAt.s | apply SetAtF.s)); (iterate 4 exact rfl))
           | ((apply P_append; exact rfl; (focus (repeat first | exact .z | apply SetAt.s | apply SetAtF.s)); (iterate 5 exact rfl); (focus (constructor <;> (first | (simp; done) | (simp; omega))))); intro _)
           | apply EL.nil | ((with_reducible apply EK.then_normal); apply EK.code) | with_reducible apply EC.seq | with_reducible apply EC.region | (apply EC.cond_true; exact rfl)
           | (apply EC.cond_false; exact rfl) | with_reducible apply EC.skip | with_reducible apply EC.label | with_reducible apply EC.block | with_reducible apply EC.exit | with_reducible apply EC.ret
           | with_reducible apply EK.in_normal | with_reducible apply EK.in_same | ((with_reducible apply EK.in_other); exact rfl) | with_reducible apply EK.in_ret | with_reducible apply EK.then_ret
           | with_reducible apply EK.then_exit)
        refine EK.le (Le.freeze (pre := []) rfl) ?_
        refine EK.retc2r 1 rfl rfl rfl rfl rfl ?_ rfl
        (repeat first | exact RefineL.refl _ _ | exact RL.nil | exact Rf.same | exact Rf.bs0 | exact Rf.sl0 | (apply Rf.fact; (focus (simp; done)); exact rfl) | apply Rf.tup | apply RL.cons)
        trace_state
    · have hn := chR_bad (x0 := x0) (b4 := b4) (x4 := x4) (b5 := b5) (x5 := x5) (bx := bx) (Bool.eq_false_iff.2 hg)
      rw [oneD_none hn]
      clear hn
      have hi := intR_bound (.mk f1 b1 x1)
      refine Fn.walk 131 Try.func45 rfl Try.ntmps45 (by simp) fun X => ?_
      simp only [dItem, dItems]
      have step : ∀ (P : Prop), (f0 = true → P) → (f0 = false → b0.length ≠ 20 → P) → (f0 = false → b0.length = 20 → intR (.mk f1 b1 x1) = none → P) → (∀ n, f0 = false → b0.length = 20 → intR (.mk f1 b1 x1) = some n → 1 < n → n ≤ 9223372036854775807 → P) →
        (∀ n, f0 = false → b0.length = 20 → intR (.mk f1 b1 x1) = some n → n ≤ 1 → intR (.mk f2 b2 x2) = none → P) → (∀ n m, f0 = false → b0.length = 20 → intR (.mk f1 b1 x1) = some n → n ≤ 1 → intR (.mk f2 b2 x2) = some m → wordR (.mk f3 b3 x3) = none → P) →
        (∀ n m l, f0 = false → b0.length = 20 → intR (.mk f1 b1 x1) = some n → n ≤ 1 → intR (.mk f2 b2 x2) = some m → wordR (.mk f3 b3 x3) = some l → f4 = true → P) → (∀ n m l, f0 = false → b0.length = 20 → intR (.mk f1 b1 x1) = some n → n ≤ 1 → intR (.mk f2 b2 x2) = some m → wordR (.mk f3 b3 x3) = some l → f4 = false → f5 = false → P) → P := by
        intro P p1 p2 p3 p4 p5 p6 p7 p8
        cases h0 : f0 with
        | true => exact p1 h0
        | false =>
          by_cases hb : b0.length = 20
          · cases e1 : intR (.mk f1 b1 x1) with
            | none => exact p3 h0 hb e1
            | some n =>
              by_cases hn : n ≤ 1
              · cases e2 : intR (.mk f2 b2 x2) with
                | none => exact p5 n h0 hb e1 hn e2
                | some m =>
                  cases e3 : wordR (.mk f3 b3 x3) with
                  | none => exact p6 n m h0 hb e1 hn e2 e3
                  | some l =>
                    cases h4 : f4 with
                    | true => exact p7 n m l h0 hb e1 hn e2 e3 h4
                    | false =>
                      cases h5 : f5 with
                      | true =>
                        exfalso
                        apply hg
                        unfold goodC
                        rw [h0, h4, h5, e1, e2, e3]
                        simp [hb, hn]
                      | false => exact p8 n m l h0 hb e1 hn e2 e3 h4 h5
              · exact p4 n h0 hb e1 (by omega) (by rw [e1] at hi; exact hi)
          · exact p2 h0 hb
      refine step _ ?_ ?_ ?_ ?_ ?_ ?_ ?_ ?_
      all_goals
        intros
        subst_vars
        simp only [intD, wordD, *, Option.getD, Option.isSome] at h1 h2 h3
        clear step hg
        repeat
          (first
           | (apply P_skip; exact rfl)
           | (apply P_call (h1); exact rfl; (focus (repeat first | exact RefineL.refl _ _ | exact RL.nil | exact Rf.same | exact Rf.bs0 | exact Rf.sl0 | (apply Rf.fact; (focus (simp; done)); exact rfl) | apply Rf.tup | apply RL.cons)); (focus (intro _ _; simp [go_sem]; done)); (iterate 2 exact rfl))
           | (apply P_call (h2); exact rfl; (focus (repeat first | exact RefineL.refl _ _ | exact RL.nil | exact Rf.same | exact Rf.bs0 | exact Rf.sl0 | (apply Rf.fact; (focus (simp; done)); exact rfl) | apply Rf.tup | apply RL.cons)); (focus (intro _ _; simp [go_sem]; done)); (iterate 2 exact rfl))
           | (apply P_call (h3); exact rfl; (focus (repeat first | exact RefineL.refl _ _ | exact RL.nil | exact Rf.same | exact Rf.bs0 | exact Rf.sl0 | (apply Rf.fact; (focus (simp; done)); exact rfl) | apply Rf.tup | apply RL.cons)); (focus (intro _ _; simp [go_sem]; done)); (iterate 2 exact rfl))
           | (apply P_move; (iterate 3 exact rfl)) | (apply P_assign; (iterate 3 exact rfl)) | (apply P_field; (iterate 6 exact rfl)) | (apply P_fieldpd; (iterate 7 exact rfl))
           | (apply P_extract; (iterate 4 exact rfl)) | (apply P_loadpd; (iterate 5 exact rfl)) | (apply P_pick; (iterate 4 exact rfl)) | (apply P_not; (iterate 3 exact rfl))
           | (apply P_load; exact rfl; (first | exact I0 | exact I1 | exact I2 | exact I3 | exact I4 | exact I5 | exact I6); (iterate 4 exact rfl))
           | (apply P_cmp (b := true); (iterate 2 exact rfl); (focus (first | (simp [cmpI]; done) | (simp [cmpI]; omega))); (iterate 2 exact rfl))
           | (apply P_cmp (b := false); (iterate 2 exact rfl); (focus (first | (simp [cmpI]; done) | (simp [cmpI]; omega))); (iterate 2 exact rfl)) | (apply P_cmp; (iterate 5 exact rfl))
           | (apply P_ar; (iterate 3 exact rfl); (focus omega); (focus omega); (iterate 2 exact rfl)) | (apply P_lenbs; (iterate 4 exact rfl)) | (apply P_lensl; (iterate 4 exact rfl))
           | (apply P_lenrow; exact rfl; (first | exact I0 | exact I1 | exact I2 | exact I3 | exact I4 | exact I5 | exact I6); (iterate 3 exact rfl)) | (apply P_lenv; (iterate 4 exact rfl))
           | (apply P_index; (iterate 4 exact rfl); (focus (first | exact ⟨by decide, rfl⟩ | (refine ⟨by omega, ?_⟩; rw [Int.toNat_natCast]; assumption))); (iterate 2 exact rfl))
           | (apply P_indexbs; (iterate 3 exact rfl); (focus (first | exact ⟨by decide, rfl⟩ | (refine ⟨by omega, ?_⟩; rw [Int.toNat_natCast]; assumption))); (iterate 2 exact rfl))
           | (apply P_str; (iterate 3 exact rfl)) | (apply P_build; (iterate 7 exact rfl)) | (apply P_build0; (iterate 5 exact rfl)) | (apply P_lit; (iterate 9 exact rfl))
           | (apply P_s2a; (iterate 2 exact rfl); (focus (first | assumption | omega)); (iterate 3 exact rfl)) | (apply P_alloc; exact rfl; exact rfl; exact rfl; intro _)
           | (apply P_box; exact rfl; exact rfl; exact rfl; intro _) | (apply P_store; exact rfl; (focus (repeat first | exact .z | apply SetAt.s | apply SetAtF.s)); (iterate 4 exact rfl))
           | ((apply P_append; exact rfl; (focus (repeat first | exact .z | apply SetAt.s | apply SetAtF.s)); (iterate 5 exact rfl); (focus (constructor <;> (first | (simp; done) | (simp; omega))))); intro _)
           | apply EL.nil | ((with_reducible apply EK.then_normal); apply EK.code) | with_reducible apply EC.seq | with_reducible apply EC.region | (apply EC.cond_true; exact rfl)
           | (apply EC.cond_false; exact rfl) | with_reducible apply EC.skip | with_reducible apply EC.label | with_reducible apply EC.block | with_reducible apply EC.exit | with_reducible apply EC.ret
           | with_reducible apply EK.in_normal | with_reducible apply EK.in_same | ((with_reducible apply EK.in_other); exact rfl) | with_reducible apply EK.in_ret | with_reducible apply EK.then_ret
           | with_reducible apply EK.then_exit)
        refine EK.retc2r 1 rfl rfl rfl rfl rfl ?_ rfl
        (repeat first | exact RefineL.refl _ _ | exact RL.nil | exact Rf.same | exact Rf.bs0 | exact Rf.sl0 | (apply Rf.fact; (focus (simp; done)); exact rfl) | apply Rf.tup | apply RL.cons)
  · have hn : chR (.mk lx bx xs) = none := chR_list (x := .mk lx bx xs) (fun a g n w c s e => hl (by
      obtain ⟨c, e⟩ := isL_E e
      injection e with e1 e2 e3
      subst e1 e3
      exact ⟨rfl, rfl⟩))
    rw [oneD_none hn]
    refine Fn.walk 131 Try.func45 rfl Try.ntmps45 (by simp) fun X => ?_
    rw [dItem]
    have hlen := dItems_length xs
    cases lx with
    | false =>
      repeat
        (first
         | (apply P_skip; exact rfl) | (apply P_move; (iterate 3 exact rfl)) | (apply P_assign; (iterate 3 exact rfl)) | (apply P_field; (iterate 6 exact rfl)) | (apply P_fieldpd; (iterate 7 exact rfl))
         | (apply P_extract; (iterate 4 exact rfl)) | (apply P_loadpd; (iterate 5 exact rfl)) | (apply P_pick; (iterate 4 exact rfl)) | (apply P_not; (iterate 3 exact rfl))
         | (apply P_load; exact rfl; (first | exact I0 | exact I1 | exact I2 | exact I3 | exact I4 | exact I5 | exact I6); (iterate 4 exact rfl))
         | (apply P_cmp (b := true); (iterate 2 exact rfl); (focus (first | (simp [cmpI]; done) | (simp [cmpI]; omega))); (iterate 2 exact rfl))
         | (apply P_cmp (b := false); (iterate 2 exact rfl); (focus (first | (simp [cmpI]; done) | (simp [cmpI]; omega))); (iterate 2 exact rfl)) | (apply P_cmp; (iterate 5 exact rfl))
         | (apply P_ar; (iterate 3 exact rfl); (focus omega); (focus omega); (iterate 2 exact rfl)) | (apply P_lenbs; (iterate 4 exact rfl)) | (apply P_lensl; (iterate 4 exact rfl))
         | (apply P_lenrow; exact rfl; (first | exact I0 | exact I1 | exact I2 | exact I3 | exact I4 | exact I5 | exact I6); (iterate 3 exact rfl)) | (apply P_lenv; (iterate 4 exact rfl))
         | (apply P_index; (iterate 4 exact rfl); (focus (first | exact ⟨by decide, rfl⟩ | (refine ⟨by omega, ?_⟩; rw [Int.toNat_natCast]; assumption))); (iterate 2 exact rfl))
         | (apply P_indexbs; (iterate 3 exact rfl); (focus (first | exact ⟨by decide, rfl⟩ | (refine ⟨by omega, ?_⟩; rw [Int.toNat_natCast]; assumption))); (iterate 2 exact rfl))
         | (apply P_str; (iterate 3 exact rfl)) | (apply P_build; (iterate 7 exact rfl)) | (apply P_build0; (iterate 5 exact rfl)) | (apply P_lit; (iterate 9 exact rfl))
         | (apply P_s2a; (iterate 2 exact rfl); (focus (first | assumption | omega)); (iterate 3 exact rfl)) | (apply P_alloc; exact rfl; exact rfl; exact rfl; intro _)
         | (apply P_box; exact rfl; exact rfl; exact rfl; intro _) | (apply P_store; exact rfl; (focus (repeat first | exact .z | apply SetAt.s | apply SetAtF.s)); (iterate 4 exact rfl))
         | ((apply P_append; exact rfl; (focus (repeat first | exact .z | apply SetAt.s | apply SetAtF.s)); (iterate 5 exact rfl); (focus (constructor <;> (first | (simp; done) | (simp; omega))))); intro _)
         | apply EL.nil | ((with_reducible apply EK.then_normal); apply EK.code) | with_reducible apply EC.seq | with_reducible apply EC.region | (apply EC.cond_true; exact rfl)
         | (apply EC.cond_false; exact rfl) | with_reducible apply EC.skip | with_reducible apply EC.label | with_reducible apply EC.block | with_reducible apply EC.exit | with_reducible apply EC.ret
         | with_reducible apply EK.in_normal | with_reducible apply EK.in_same | ((with_reducible apply EK.in_other); exact rfl) | with_reducible apply EK.in_ret | with_reducible apply EK.then_ret
         | with_reducible apply EK.then_exit)
      refine EK.retc2r 0 rfl rfl rfl rfl rfl ?_ rfl
      (repeat first | exact RefineL.refl _ _ | exact RL.nil | exact Rf.same | exact Rf.bs0 | exact Rf.sl0 | (apply Rf.fact; (focus (simp; done)); exact rfl) | apply Rf.tup | apply RL.cons)
    | true =>
      have h6 : ¬ xs.length = 6 := fun e => hl ⟨rfl, e⟩
      repeat
        (first
         | (apply P_skip; exact rfl) | (apply P_move; (iterate 3 exact rfl)) | (apply P_assign; (iterate 3 exact rfl)) | (apply P_field; (iterate 6 exact rfl)) | (apply P_fieldpd; (iterate 7 exact rfl))
         | (apply P_extract; (iterate 4 exact rfl)) | (apply P_loadpd; (iterate 5 exact rfl)) | (apply P_pick; (iterate 4 exact rfl)) | (apply P_not; (iterate 3 exact rfl))
         | (apply P_load; exact rfl; (first | exact I0 | exact I1 | exact I2 | exact I3 | exact I4 | exact I5 | exact I6); (iterate 4 exact rfl))
         | (apply P_cmp (b := true); (iterate 2 exact rfl); (focus (first | (simp [cmpI]; done) | (simp [cmpI]; omega))); (iterate 2 exact rfl))
         | (apply P_cmp (b := false); (iterate 2 exact rfl); (focus (first | (simp [cmpI]; done) | (simp [cmpI]; omega))); (iterate 2 exact rfl)) | (apply P_cmp; (iterate 5 exact rfl))
         | (apply P_ar; (iterate 3 exact rfl); (focus omega); (focus omega); (iterate 2 exact rfl)) | (apply P_lenbs; (iterate 4 exact rfl)) | (apply P_lensl; (iterate 4 exact rfl))
         | (apply P_lenrow; exact rfl; (first | exact I0 | exact I1 | exact I2 | exact I3 | exact I4 | exact I5 | exact I6); (iterate 3 exact rfl)) | (apply P_lenv; (iterate 4 exact rfl))
         | (apply P_index; (iterate 4 exact rfl); (focus (first | exact ⟨by decide, rfl⟩ | (refine ⟨by omega, ?_⟩; rw [Int.toNat_natCast]; assumption))); (iterate 2 exact rfl))
         | (apply P_indexbs; (iterate 3 exact rfl); (focus (first | exact ⟨by decide, rfl⟩ | (refine ⟨by omega, ?_⟩; rw [Int.toNat_natCast]; assumption))); (iterate 2 exact rfl))
         | (apply P_str; (iterate 3 exact rfl)) | (apply P_build; (iterate 7 exact rfl)) | (apply P_build0; (iterate 5 exact rfl)) | (apply P_lit; (iterate 9 exact rfl))
         | (apply P_s2a; (iterate 2 exact rfl); (focus (first | assumption | omega)); (iterate 3 exact rfl)) | (apply P_alloc; exact rfl; exact rfl; exact rfl; intro _)
         | (apply P_box; exact rfl; exact rfl; exact rfl; intro _) | (apply P_store; exact rfl; (focus (repeat first | exact .z | apply SetAt.s | apply SetAtF.s)); (iterate 4 exact rfl))
         | ((apply P_append; exact rfl; (focus (repeat first | exact .z | apply SetAt.s | apply SetAtF.s)); (iterate 5 exact rfl); (focus (constructor <;> (first | (simp; done) | (simp; omega))))); intro _)
         | apply EL.nil | ((with_reducible apply EK.then_normal); apply EK.code) | with_reducible apply EC.seq | with_reducible apply EC.region | (apply EC.cond_true; exact rfl)
         | (apply EC.cond_false; exact rfl) | with_reducible apply EC.skip | with_reducible apply EC.label | with_reducible apply EC.block | with_reducible apply EC.exit | with_reducible apply EC.ret
         | with_reducible apply EK.in_normal | with_reducible apply EK.in_same | ((with_reducible apply EK.in_other); exact rfl) | with_reducible apply EK.in_ret | with_reducible apply EK.then_ret
         | with_reducible apply EK.then_exit)
      refine EK.retc2r 0 rfl rfl rfl rfl rfl ?_ rfl
      (repeat first | exact RefineL.refl _ _ | exact RL.nil | exact Rf.same | exact Rf.bs0 | exact Rf.sl0 | (apply Rf.fact; (focus (simp; done)); exact rfl) | apply Rf.tup | apply RL.cons)
end E
end Go.Proofs.Ytekacgocjplfjaa
/-
  journal: changes and diffs as the abstract machine reads them; whole, may, Pack and the reference's packDiff.
  Conditions: none.
-/
namespace Go.Proofs.Ytekacgocjplfjaa
set_option linter.unusedVariables false
open Go.RowKit Mono Rlp Jn
namespace E
section
variable {ok : Nat → Prop} {w : World}
theorem reads_slot {s : Sl} {cs : List Value} : Reads ok w (dSl s) cs ↔ cs = slC s ∧ s.ok := by
  unfold dSl slC Sl.ok
  rw [Reads, ReadsL]
  constructor
  · rintro ⟨c1, c2, rfl, h1, h2⟩
    rw [ReadsL] at h2
    obtain ⟨c3, c4, rfl, h3, h4⟩ := h2
    rw [ReadsL] at h4
    rw [Reads] at h1 h3
    rw [h1.2, h3.2, h4, List.append_nil]
    exact ⟨rfl, h1.1, h3.1⟩
  · rintro ⟨rfl, h1, h2⟩
    refine ⟨_, _, rfl, by rw [Reads]; exact ⟨h1, rfl⟩, ?_⟩
    rw [ReadsL]
    exact ⟨bvs s.val, [], by simp, by rw [Reads]; exact ⟨h2, rfl⟩, by rw [ReadsL]⟩
theorem reads_slots : ∀ (ss : List Sl) (rows : List (List Value)), ReadsRows ok w 64 (ss.map dSl) rows ↔ rows = ss.map slC ∧ ∀ s ∈ ss, s.ok
  | [], rows => by rw [List.map_nil, List.map_nil, ReadsRows]; simp
  | s :: ss, rows => by
    rw [List.map_cons, List.map_cons, ReadsRows]
    constructor
    · rintro ⟨r, rest, rfl, h1, h2, h3⟩
      obtain ⟨rfl, h4⟩ := reads_slot.1 h2
      obtain ⟨rfl, h5⟩ := (reads_slots ss rest).1 h3
      exact ⟨rfl, fun x hx => by
        rcases List.mem_cons.1 hx with rfl | hx
        · exact h4
        · exact h5 x hx⟩
    · rintro ⟨rfl, h⟩
      exact ⟨_, _, rfl, slC_length (h s (by simp)), reads_slot.2 ⟨rfl, h s (by simp)⟩, (reads_slots ss _).2 ⟨rfl, fun x hx => h x (by simp [hx])⟩⟩
theorem readsL_cons {d : D} {ds : List D} {cs : List Value} : ReadsL ok w (d :: ds) cs ↔ ∃ c1 c2, cs = c1 ++ c2 ∧ Reads ok w d c1 ∧ ReadsL ok w ds c2 := by rw [ReadsL]
theorem readsL_nil {cs : List Value} : ReadsL ok w [] cs ↔ cs = [] := by rw [ReadsL]
theorem reads_vv {x : Value} {cs : List Value} : Reads ok w (.v x) cs ↔ x.oneCell' = true ∧ cs = [x] := by rw [Reads]
theorem reads_arr {n : Nat} {l : List UInt8} {cs : List Value} : Reads ok w (.arr n l) cs ↔ l.length = n ∧ cs = bvs l := by rw [Reads]
theorem reads_bs {l : List UInt8} {cs : List Value} : Reads ok w (.bs l) cs ↔ ∃ u, cs = [u] ∧ IsBP ok w u l := by rw [Reads]
theorem reads_tup {ds : List D} {cs : List Value} : Reads ok w (.tup ds) cs ↔ ReadsL ok w ds cs := by rw [Reads]
theorem reads_sll {z : Nat} {ds : List D} {cs : List Value} : Reads ok w (.sl z ds) cs ↔ ∃ A c rows, cs = [.slice A ds.length c] ∧ ds.length ≤ c ∧ c ≤ maxLen ∧ (A = none → ds.length = 0 ∧ c = 0) ∧ RdP ok w A rows.flatten ∧ ReadsRows ok w z ds rows := by rw [Reads]
def rngC (c : Ch) : Prop := -9223372036854775808 ≤ c.nonce ∧ c.nonce ≤ 9223372036854775807
theorem reads_ch {c : Ch} {cs : List Value} (hn : rngC c) (h : Reads ok w (dCh c) cs) : ChAtP ok w c cs := by
  unfold dCh at h
  simp only [reads_tup, readsL_cons, readsL_nil, reads_vv, reads_arr, reads_bs, reads_sll, reads_slots] at h
  obtain ⟨_, _, rfl, ⟨h1, rfl⟩, _, _, rfl, ⟨_, rfl⟩, _, _, rfl, ⟨_, rfl⟩, _, _, rfl, ⟨h2, rfl⟩, _, _, rfl, ⟨vc, rfl, h3⟩, _, _, rfl, ⟨A, c', rows, rfl, g1, g2, _, g4, rfl, g5⟩, rfl⟩ := h
  refine ⟨vc, _, ?_, h3, ⟨A, c', rfl, by simpa using g1, g2, g4, g5⟩, h1, h2, hn.1, hn.2, g5⟩
  simp [chC]
theorem reads_chs : ∀ (l : List Ch) (rows : List (List Value)), (∀ c ∈ l, rngC c) → ReadsRows ok w 56 (l.map dCh) rows → ChsAtP ok w l rows
  | [], rows, _, h => by rw [List.map_nil, ReadsRows] at h; rw [ChsAtP]; exact h
  | c :: l, rows, hn, h => by
    rw [List.map_cons, ReadsRows] at h
    rw [ChsAtP]
    obtain ⟨r, rest, rfl, h1, h2, h3⟩ := h
    exact ⟨r, rest, rfl, reads_ch (hn c (by simp)) h2, reads_chs l rest (fun c hc => hn c (by simp [hc])) h3⟩
theorem isChsP_of {l : List Ch} {v : Value} (hn : ∀ c ∈ l, rngC c) (h : Reads ok w (.sl 56 (l.map dCh)) [v]) : IsChsP ok w v l := by
  rw [reads_sll] at h
  obtain ⟨A, c, rows, e, g1, g2, g3, g4, g5⟩ := h
  cases e
  simp only [List.length_map] at g1 ⊢
  exact ⟨A, c, rows, rfl, g1, g2, g4, reads_chs l rows hn g5⟩
theorem isChs_of (hok : ∀ b, ok b → b < w.heap.size) {l : List Ch} {v : Value} (hn : ∀ c ∈ l, rngC c) (h : ReadV ok w (.sl 56 (l.map dCh)) v) : IsChs w v l := by
  have := isChsP_of hn ((readV_one rfl).1 h)
  exact IsChsP.mono this hok (fun _ _ => rfl)
theorem isDf_of (hok : ∀ b, ok b → b < w.heap.size) {d : Df} {v : Value} (hn : ∀ c ∈ d.chs, rngC c) (h : ReadV ok w (dDf d) v) : IsDf w v d := by
  obtain ⟨cs, h', rfl⟩ := (readV_agg rfl).1 h
  clear h
  have h := h'
  clear h'
  unfold dDf at h
  simp only [reads_tup, readsL_cons, readsL_nil, reads_arr] at h
  obtain ⟨_, _, rfl, ⟨h1, rfl⟩, _, _, rfl, ⟨h2, rfl⟩, c1, _, rfl, h3, rfl⟩ := h
  have hl := Reads.len _ _ h3
  obtain ⟨v, rfl⟩ : ∃ v, c1 = [v] := List.length_eq_one_iff.1 hl
  have h4 := isChsP_of hn h3
  have h5 := IsChsP.mono h4 hok (fun _ _ => rfl)
  obtain ⟨A, c, rows, e, _, _, _, h6⟩ := h5
  exact ⟨v, by simp [dfC], IsChsP.mono h4 hok (fun _ _ => rfl), h1, h2, fun c hc => ChsAtP.oks _ _ h6 c hc⟩
end
def packO (d : Df) : R := match Jn.packD d with
  | .ok b => .tpl [.bs b, .v (.int .i64 0)]
  | .error e => .tpl [.bs [], .v (.int .i64 (e : Int))]
def wholeD (x : Raw) : R := .tpl [.arr 32 ((wholeR x).getD zero32), .v (.bool (wholeR x).isSome)]
theorem f_whole (x : Raw) : Fn 44 [dItem x] (· = wholeD x) := ⟨fun ok w xs hok hr => by
  obtain ⟨v, rfl, h⟩ := one_arg hr
  refine (j_whole v x w (isItem_of hok h)).mono ?_
  rintro e w' ⟨_, rfl, hg, rfl⟩
  exact ⟨hg, _, _, rfl, rfl, tpl2 (arrV_mk whole_length) (v_mk rfl)⟩⟩
theorem f_may (l : List Ch) (hn : ∀ c ∈ l, rngC c) : Fn 17 [.sl 56 (l.map dCh)] (· = .val (.v (.bool (may l)))) := ⟨fun ok w xs hok hr => by
  obtain ⟨v, rfl, h⟩ := one_arg hr
  refine (j_may v l w (isChs_of hok hn h)).mono ?_
  rintro e w' ⟨_, rfl, hg, rfl⟩
  exact ⟨hg, _, _, rfl, rfl, v_mk rfl⟩⟩
theorem packO_of {d : Df} {v : Value} {w : World} (h : PackDV d v w) : ReadR (fun b => b < w.heap.size) w (packO d) v := by
  unfold packO
  unfold PackDV at h
  cases e : Jn.packD d with
  | ok b =>
    rw [e] at h
    obtain ⟨vb, rfl, hb⟩ := h
    exact tpl2 ((readV_one rfl).2 (reads_bs.2 ⟨vb, rfl, hb⟩)) (v_mk rfl)
  | error k =>
    rw [e] at h
    subst h
    exact tpl2 ((readV_one rfl).2 (reads_bs.2 ⟨_, rfl, none, 0, rfl, Nat.le_refl _, by simp [maxLen], fun hn => absurd rfl hn⟩)) (v_mk rfl)
theorem f_JPack (d : Df) (hn : ∀ c ∈ d.chs, rngC c) (hs : d.small) : FnA 9 [dDf d] (· = packO d) := ⟨fun w xs hr => by
  obtain ⟨v, rfl, h⟩ := one_arg hr
  refine (j_Pack v d w (isDf_of (fun _ hb => hb) hn h) hs).mono ?_
  rintro e w' ⟨v', rfl, hg, h'⟩
  exact ⟨hg, _, _, rfl, rfl, packO_of h'⟩⟩
theorem f_PackDiff (d : Df) (hn : ∀ c ∈ d.chs, rngC c) (hs : d.small) : FnA 10 [dDf d] (· = packO d) := ⟨fun w xs hr => by
  obtain ⟨v, rfl, h⟩ := one_arg hr
  refine (r_PackDiff v d w (isDf_of (fun _ hb => hb) hn h) hs).mono ?_
  rintro e w' ⟨v', rfl, hg, h'⟩
  exact ⟨hg, _, _, rfl, rfl, packO_of h'⟩⟩
end E
end Go.Proofs.Ytekacgocjplfjaa
/-
  journal: of, in plain.
  Conditions: none.
-/
namespace Go.Proofs.Ytekacgocjplfjaa
set_option linter.unusedVariables false
open Go.RowKit Mono Rlp Jn

namespace Jn
/-- The diff of an item, if it may be one. -/
def ofR (x : Raw) : Option Df := match dfR x with
  | some d => if may d.chs then some d else none
  | none => none
theorem dfR_list {x : Raw} (h : ∀ a b c, isL x ≠ some [a, b, c]) : dfR x = none := by
  unfold dfR
  split
  · rename_i a b c hl
    exact absurd hl (h a b c)
  · rfl
theorem dfR_three {bx b2 : List UInt8} {x2 : List Raw} {i0 i1 : Raw} {f2 : Bool} : dfR (.mk true bx [i0, i1, .mk f2 b2 x2]) = if f2 then (match wholeR i0, wholeR i1, allR chR x2 with | some i, some p, some cs => some ⟨i, p, cs⟩ | _, _, _ => none) else none := by
  unfold dfR wholeR
  simp only [isL]
  cases f2
  · cases isB i0 <;> cases isB i1 <;> rfl
  · cases h0 : isB i0 with
    | none => rfl
    | some a =>
      cases h1 : isB i1 with
      | none =>
        by_cases ha : a.length = 32 <;> simp [ha]
      | some b =>
        by_cases ha : a.length = 32 <;> by_cases hb : b.length = 32 <;> simp [ha, hb]
        cases allR chR x2 <;> rfl
theorem chR_rng {x : Raw} {c : Ch} (h : chR x = some c) : -9223372036854775808 ≤ c.nonce ∧ c.nonce ≤ 9223372036854775807 := by
  unfold chR at h
  split at h <;> try (cases h; done)
  split at h <;> try (cases h; done)
  rename_i h1 h2 h3 h4 h5 h6
  split at h <;> try (cases h; done)
  split at h <;> try (cases h; done)
  cases h
  have := (intR_E h3).2.1
  dsimp only
  omega
theorem allR_rng : ∀ (xs : List Raw) (cs : List Ch), allR chR xs = some cs → ∀ c ∈ cs, -9223372036854775808 ≤ c.nonce ∧ c.nonce ≤ 9223372036854775807
  | [], cs, h, c, hc => by
    cases h
    simp at hc
  | x :: xs, cs, h, c, hc => by
    rw [allR] at h
    cases hx : chR x with
    | none => rw [hx] at h; cases h
    | some y =>
      rw [hx] at h
      dsimp only at h
      cases ht : allR chR xs with
      | none => rw [ht] at h; cases h
      | some zs =>
        rw [ht] at h
        cases h
        rcases List.mem_cons.1 hc with rfl | hc
        · exact chR_rng hx
        · exact allR_rng xs zs ht c hc
end Jn
end Go.Proofs.Ytekacgocjplfjaa
