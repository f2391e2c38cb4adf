/-
  Merged (wip/tools/merge.py): SP5, EPA, SP6.
  Conditions: none.
-/
import Derived.Test.YtdhicdnmgmkpkaaGreatZC23
import Derived.Test.YtdhicdnmgmkpkaaGreatZC20
import Derived.Test.YtdhicdnmgmkpkaaGreatZC15
/-
  The program's acct.Find.
  Conditions: none.
-/
namespace Go.Proofs.YtdhicdnmgmkpkaaGreat
set_option linter.unusedVariables false
open Go.RowKit Mono Rlp Wd Go.Sort
namespace E
theorem cmpB_zero : ∀ a b : List UInt8, cmpB a b = 0 ↔ a = b
  | [], [] => by simp [cmpB, Lib.compareBytes]
  | _ :: _, [] => by simp [cmpB, Lib.compareBytes]
  | [], _ :: _ => by simp [cmpB, Lib.compareBytes]
  | a :: x, b :: y => by
    rw [cmpB, Lib.compareBytes]
    by_cases h1 : a = b
    · subst h1
      have := cmpB_zero x y
      unfold cmpB at this
      simp [this, UInt8.lt_irrefl]
    · by_cases h2 : a < b
      · simp [h1, h2]
      · have h3 : b < a := by
          rcases UInt8.lt_or_lt_of_ne h1 with h | h
          · exact absurd h h2
          · exact h
        simp [h1, h2, h3]
theorem cmpB_neg (a b : List UInt8) : cmpB a b < 0 ↔ a < b := by
  have := cmpB_lt a b
  simpa using this
theorem conv_iu (n : Nat) (hn : n ≤ 9223372036854775807) (m : Int) (hm : m = (n : Int)) : ∀ w, (Go.convert 3 166 (.int .i64 m)).run Tryz.prog w = .ok (.int .u64 (n : Int)) w :=
  conv_int (T := 3) (U := 166) (k := .i64) (k' := .u64) Tryz.underlying3 Tryz.underlying166 m (n : Int) (by rw [IntKind.wrap_u64]; omega)
theorem conv_ui (n : Nat) (hn : n ≤ 9223372036854775807) : ∀ w, (Go.convert 166 3 (.int .u64 (n : Int))).run Tryz.prog w = .ok (.int .i64 (n : Int)) w :=
  conv_int (T := 166) (U := 3) (k := .u64) (k' := .i64) Tryz.underlying166 Tryz.underlying3 (n : Int) (n : Int) (by rw [IntKind.wrap_i64]; omega)
theorem EK.retM2k {N : Nat} {X : Cx N} {fn : Func} {Φ : R → List Obj → Prop} {S : St} {t u : Tmp} {d e d' e' : D} (os' : List Obj) (hres : fn.results = #[.tmp t, .tmp u]) (hl : look S.regs t = some (.val d)) (hk : look S.regs u = some (.val e)) (hR : RefineL S.facts [d, e] [d', e']) (ho : os'.Sublist S.objs) (hΦ : Φ (.tpl [d', e']) os') : EK X (bodyPost Tryz.prog fn (OutM X Φ) .ret) S := by
  refine EK.le (S' := ⟨S.regs, os', S.facts⟩) ?_ (EK.retM2r hres hl hk hR hΦ)
  exact fun a w h => ⟨h.mem.less ho (fun f hf => hf), fun t r ht => ReadR.mono (fun b hb => ok_less ho hb) (fun _ _ => rfl) (h.regs t r ht), h.size, h.defers⟩
structure Srch {α : Type} (key : α → List UInt8) (L : List α) (a : List UInt8) (k : Nat) (b : Bool) : Prop where
  le : k ≤ L.length
  yes : b = true → ∃ h : k < L.length, key L[k] = a
  no : b = false → ∀ x ∈ L, key x ≠ a
structure Srk {α : Type} (key : α → List UInt8) (L : List α) (a : List UInt8) (i j : Nat) : Prop where
  ij : i ≤ j
  le : j ≤ L.length
  lo : ∀ q (h : q < L.length), q < i → key L[q] < a
  hi : ∀ q (h : q < L.length), j ≤ q → ¬ key L[q] < a
theorem Srk.up {α : Type} {key : α → List UInt8} {L : List α} {a : List UInt8} {i j h : Nat} (hs : Srk key L a i j) (ho : L.Pairwise fun x y => key x < key y) (hl : h < L.length) (hj : h < j) (hc : key L[h] < a) : Srk key L a (h + 1) j :=
  ⟨hj, hs.le, fun q hq hqh => by
    by_cases e : q = h
    · subst e
      exact hc
    · exact List.lt_trans (List.pairwise_iff_getElem.1 ho q h hq hl (by omega)) hc, hs.hi⟩
theorem Srk.down {α : Type} {key : α → List UInt8} {L : List α} {a : List UInt8} {i j h : Nat} (hs : Srk key L a i j) (ho : L.Pairwise fun x y => key x < key y) (hl : h < L.length) (hi : i ≤ h) (hc : ¬ key L[h] < a) : Srk key L a i h :=
  ⟨hi, Nat.le_of_lt hl, hs.lo, fun q hq hqh hlt => by
    by_cases e : q = h
    · subst e
      exact hc hlt
    · exact hc (List.lt_trans (List.pairwise_iff_getElem.1 ho h q hl hq (by omega)) hlt)⟩
theorem Srk.none {α : Type} {key : α → List UInt8} {L : List α} {a : List UInt8} {k : Nat} (hs : Srk key L a k k) (ho : L.Pairwise fun x y => key x < key y) (h : ∀ hk : k < L.length, key L[k] ≠ a) : ∀ x ∈ L, key x ≠ a := fun x hx e => by
  obtain ⟨q, hq, rfl⟩ := List.getElem_of_mem hx
  rcases Nat.lt_trichotomy q k with hqk | rfl | hqk
  · have := hs.lo q hq hqk
    rw [e] at this
    exact List.lt_irrefl _ this
  · exact h hq e
  · have h1 := List.pairwise_iff_getElem.1 ho k q (by omega) hq hqk
    rw [e] at h1
    exact hs.hi k (by omega) (Nat.le_refl _) h1
set_option maxRecDepth 20000 in
set_option maxHeartbeats 8000000 in
theorem bsearch_ {L : List AcL} (ho : L.Pairwise fun x y => x.a < y.a) (hl : L.length ≤ 1000000) (a : List UInt8) : FnM 129 [.sl 55 (L.map dAcL), .arr 20 a, .v (.func (.func 130) #[] #[])] [] (fun r os' => (∃ k b, Srch AcL.a L a k b ∧ r = .tpl [.v (.int .i64 (k : Nat)), .v (.bool b)]) ∧ os' = []) := by
  have hml : (L.map dAcL).length = L.length := List.length_map _
  refine FnM.walk 49 Tryz.func129 rfl Tryz.ntmps129 (by simp) fun X => ?_
  repeat
    (first
     | (apply P_move; (iterate 3 exact rfl)) | (apply P_assign; (iterate 3 exact rfl)) | (apply P_lensl; (iterate 4 exact rfl)) | (apply P_box; exact rfl; exact rfl; exact rfl; intro _) | apply EL.nil
     | ((with_reducible apply EK.then_normal); apply EK.code)
     | (with_reducible first | apply EC.seq | apply EC.region | apply EC.skip | apply EC.label | apply EC.block | apply EC.exit | apply EC.ret | apply EK.in_normal | apply EK.in_same | apply EK.in_ret | apply EK.then_ret | apply EK.then_exit))
  rename_i g4
  refine EC.loop (ι := {x : Nat × Nat // Srk AcL.a L a x.1 x.2})
    (fun x => ⟨[(9, .val (.v (.int .i64 (x.1.1 : Int)))), (10, .val (.v (.int .i64 (x.1.2 : Int)))), (8, .val (.v (.int .i64 (L.map dAcL).length))), (4, .val (.v (ptr g4))), (2, .val (.v (.func (.func 130) #[] #[]))), (0, .val (.sl 55 (L.map dAcL)))], [.var g4 32 (.arr 20 a)], []⟩)
    (fun x => x.1.2 - x.1.1) ⟨(0, L.length), Nat.zero_le _, Nat.le_refl _, fun q _ h => absurd h (Nat.not_lt_zero _), fun q h h2 => absurd h (by dsimp only at h2; omega)⟩ ?_ ?_
  · dsimp only
    rw [hml]
    exact (Le.keep (by repeat first | exact trivial | refine ⟨rfl, ?_⟩) (by repeat first | exact List.nil_sublist _ | apply List.Sublist.cons_cons | apply List.Sublist.cons) (by simp))
  rintro ⟨⟨i, j⟩, hs⟩
  dsimp only at hs ⊢
  have hij := hs.ij
  have hjl := hs.le
  by_cases hlt : i < j
  · have hhl : (i + j) / 2 < L.length := by omega
    have hd : (L.map dAcL)[(i + j) / 2]? = some (dAcL L[(i + j) / 2]) := by rw [List.getElem?_map, List.getElem?_eq_getElem hhl]; rfl
    have hup := hs.up ho hhl (by omega)
    have hdn := hs.down ho hhl (by omega)
    have c1 := conv_iu (i + j) (by omega) ((i : Int) + (j : Int)) (by omega)
    have c2 := conv_ui ((i + j) / 2) (by omega)
    have hh := bin_half (i + j) (by omega)
    have hlo : i ≤ (i + j) / 2 := by omega
    have hhi : (i + j) / 2 < j := by omega
    generalize (i + j) / 2 = h at hhl hd hup hdn c2 hh hlo hhi
    generalize L[h] = x at hd hup hdn
    have hc := f_findcmp x a
    rw [← cmpB_neg] at hup hdn
    obtain ⟨xa, xn, xw, xc, xs⟩ := x
    unfold dAcL at hd hc
    dsimp only at hd hc hup hdn
    by_cases hcm : cmpB xa a < 0
    · skip
      repeat
        (first
         | (apply P_conv; exact rfl; exact c1; (iterate 3 exact rfl)) | (apply P_conv; exact rfl; exact c2; (iterate 3 exact rfl)) | (apply P_bin; (iterate 2 exact rfl); exact hh; (iterate 2 exact rfl))
         | (apply P_move; (iterate 3 exact rfl)) | (apply P_assign; (iterate 3 exact rfl))
         | (apply P_cmp (b := true); (iterate 2 exact rfl); (focus (first | (simp [cmpI]; done) | (simp [cmpI]; omega))); (iterate 2 exact rfl))
         | (apply P_ar; (iterate 3 exact rfl); (focus omega); (focus omega); (iterate 2 exact rfl)) | apply EL.nil | ((with_reducible apply EK.then_normal); apply EK.code) | (apply EC.cond_true; exact rfl)
         | (with_reducible first | apply EC.seq | apply EC.region | apply EC.skip | apply EC.label | apply EC.block | apply EC.exit | apply EC.ret | apply EK.in_normal | apply EK.in_same | apply EK.in_ret | apply EK.then_ret | apply EK.then_exit))
      refine EC.draw 8 (by kernel_rfl) ?_
      simp only [List.take_succ_cons, List.take_zero, List.drop_succ_cons, List.drop_zero]
      repeat
        (first
         | (apply EH.grow (g_callV (caps := []) (cds := []) hc (fun _ _ _ _ _ _ => rfl) rfl rfl rfl (RefineL.refl _ _) (by intro _ _; simp [go_sem])); exact rfl; exact rfl; exact rfl)
         | (apply H_move; (iterate 3 exact rfl)) | (apply H_loadpd; (iterate 5 exact rfl))
         | (apply H_load; exact rfl; (first | exact I0 | exact I1 | exact I2 | exact I3 | exact I4 | exact I5 | exact I6); (iterate 4 exact rfl))
         | (apply H_cmp (b := true); (iterate 2 exact rfl); (focus (first | (simp [cmpI]; done) | (simp [cmpI]; omega))); (iterate 2 exact rfl))
         | (apply H_index; (iterate 4 exact rfl); (focus (first | exact ⟨by decide, rfl⟩ | (refine ⟨by omega, ?_⟩; rw [Int.toNat_natCast]; assumption))); (iterate 2 exact rfl))
         | ((with_reducible apply EH.nil); exact rfl))
      repeat
        (first
         | (apply P_move; (iterate 3 exact rfl)) | (apply P_assign; (iterate 3 exact rfl)) | (apply P_ar; (iterate 3 exact rfl); (focus omega); (focus omega); (iterate 2 exact rfl)) | apply EL.nil
         | ((with_reducible apply EK.then_normal); apply EK.code) | (apply EC.cond_true; exact rfl)
         | (with_reducible first | apply EC.seq | apply EC.region | apply EC.skip | apply EC.label | apply EC.block | apply EC.exit | apply EC.ret | apply EK.in_normal | apply EK.in_same | apply EK.in_ret | apply EK.then_ret | apply EK.then_exit))
      refine EK.again ⟨(h + 1, j), hup hcm⟩ (by dsimp only; omega) ?_
      simp only [Int.natCast_add]
      exact (Le.keep (by repeat first | exact trivial | refine ⟨rfl, ?_⟩) (by repeat first | exact List.nil_sublist _ | apply List.Sublist.cons_cons | apply List.Sublist.cons) (by simp))
    · skip
      repeat
        (first
         | (apply P_conv; exact rfl; exact c1; (iterate 3 exact rfl)) | (apply P_conv; exact rfl; exact c2; (iterate 3 exact rfl)) | (apply P_bin; (iterate 2 exact rfl); exact hh; (iterate 2 exact rfl))
         | (apply P_move; (iterate 3 exact rfl)) | (apply P_assign; (iterate 3 exact rfl))
         | (apply P_cmp (b := true); (iterate 2 exact rfl); (focus (first | (simp [cmpI]; done) | (simp [cmpI]; omega))); (iterate 2 exact rfl))
         | (apply P_ar; (iterate 3 exact rfl); (focus omega); (focus omega); (iterate 2 exact rfl)) | apply EL.nil | ((with_reducible apply EK.then_normal); apply EK.code) | (apply EC.cond_true; exact rfl)
         | (with_reducible first | apply EC.seq | apply EC.region | apply EC.skip | apply EC.label | apply EC.block | apply EC.exit | apply EC.ret | apply EK.in_normal | apply EK.in_same | apply EK.in_ret | apply EK.then_ret | apply EK.then_exit))
      refine EC.draw 8 (by kernel_rfl) ?_
      simp only [List.take_succ_cons, List.take_zero, List.drop_succ_cons, List.drop_zero]
      repeat
        (first
         | (apply EH.grow (g_callV (caps := []) (cds := []) hc (fun _ _ _ _ _ _ => rfl) rfl rfl rfl (RefineL.refl _ _) (by intro _ _; simp [go_sem])); exact rfl; exact rfl; exact rfl)
         | (apply H_move; (iterate 3 exact rfl)) | (apply H_loadpd; (iterate 5 exact rfl))
         | (apply H_load; exact rfl; (first | exact I0 | exact I1 | exact I2 | exact I3 | exact I4 | exact I5 | exact I6); (iterate 4 exact rfl))
         | (apply H_cmp (b := false); (iterate 2 exact rfl); (focus (first | (simp [cmpI]; done) | (simp [cmpI]; omega))); (iterate 2 exact rfl))
         | (apply H_index; (iterate 4 exact rfl); (focus (first | exact ⟨by decide, rfl⟩ | (refine ⟨by omega, ?_⟩; rw [Int.toNat_natCast]; assumption))); (iterate 2 exact rfl))
         | ((with_reducible apply EH.nil); exact rfl))
      repeat
        (first
         | (apply P_move; (iterate 3 exact rfl)) | (apply P_assign; (iterate 3 exact rfl)) | apply EL.nil | ((with_reducible apply EK.then_normal); apply EK.code) | (apply EC.cond_false; exact rfl)
         | (with_reducible first | apply EC.seq | apply EC.region | apply EC.skip | apply EC.label | apply EC.block | apply EC.exit | apply EC.ret | apply EK.in_normal | apply EK.in_same | apply EK.in_ret | apply EK.then_ret | apply EK.then_exit))
      refine EK.again ⟨(i, h), hdn hcm⟩ (by dsimp only; omega) ?_
      exact (Le.keep (by repeat first | exact trivial | refine ⟨rfl, ?_⟩) (by repeat first | exact List.nil_sublist _ | apply List.Sublist.cons_cons | apply List.Sublist.cons) (by simp))
  · obtain rfl : i = j := by omega
    by_cases hlt : i < L.length
    · have hd : (L.map dAcL)[i]? = some (dAcL L[i]) := by rw [List.getElem?_map, List.getElem?_eq_getElem hlt]; rfl
      have hyes : AcL.a L[i] = a → Srch AcL.a L a i true := fun h => ⟨hjl, fun _ => ⟨hlt, h⟩, fun h => (by cases h)⟩
      have hno : AcL.a L[i] ≠ a → Srch AcL.a L a i false := fun h => ⟨hjl, fun h => (by cases h), fun _ => hs.none ho fun _ => h⟩
      generalize L[i] = x at hd hyes hno
      have hc := f_findcmp x a
      rw [← cmpB_zero] at hyes
      rw [ne_eq, ← cmpB_zero] at hno
      obtain ⟨xa, xn, xw, xc, xs⟩ := x
      unfold dAcL at hd hc
      dsimp only at hd hc hyes hno
      by_cases hcm : cmpB xa a = 0
      · skip
        repeat
          (first
           | (apply P_move; (iterate 3 exact rfl)) | (apply P_cmp (b := false); (iterate 2 exact rfl); (focus (first | (simp [cmpI]; done) | (simp [cmpI]; omega))); (iterate 2 exact rfl)) | apply EL.nil
           | ((with_reducible apply EK.then_normal); apply EK.code) | (apply EC.cond_false; exact rfl)
           | (with_reducible first | apply EC.seq | apply EC.region | apply EC.skip | apply EC.label | apply EC.block | apply EC.exit | apply EC.ret | apply EK.in_normal | apply EK.in_same | apply EK.in_ret | apply EK.then_ret | apply EK.then_exit))
        refine EC.draw 15 (by kernel_rfl) ?_
        simp only [List.take_succ_cons, List.take_zero, List.drop_succ_cons, List.drop_zero]
        repeat
          (first
           | (apply EH.grow (g_callV (caps := []) (cds := []) hc (fun _ _ _ _ _ _ => rfl) rfl rfl rfl (RefineL.refl _ _) (by intro _ _; simp [go_sem])); exact rfl; exact rfl; exact rfl)
           | (apply H_move; (iterate 3 exact rfl)) | (apply H_assign; (iterate 3 exact rfl)) | (apply H_loadpd; (iterate 5 exact rfl)) | (apply H_pick; (iterate 4 exact rfl))
           | (apply H_load; exact rfl; (first | exact I0 | exact I1 | exact I2 | exact I3 | exact I4 | exact I5 | exact I6); (iterate 4 exact rfl))
           | (apply H_cmp (b := true); (iterate 2 exact rfl); (focus (first | (simp [cmpI]; done) | (simp [cmpI]; omega))); (iterate 2 exact rfl))
           | (apply H_index; (iterate 4 exact rfl); (focus (first | exact ⟨by decide, rfl⟩ | (refine ⟨by omega, ?_⟩; rw [Int.toNat_natCast]; assumption))); (iterate 2 exact rfl))
           | ((with_reducible apply EH.nil); exact rfl))
        repeat
          (first
           | (apply P_assign; (iterate 3 exact rfl)) | apply EL.nil | ((with_reducible apply EK.then_normal); apply EK.code)
           | (with_reducible first | apply EC.seq | apply EC.region | apply EC.skip | apply EC.label | apply EC.block | apply EC.exit | apply EC.ret | apply EK.in_normal | apply EK.in_same | apply EK.in_ret | apply EK.then_ret | apply EK.then_exit))
        exact EK.retM2k [] rfl rfl rfl (RefineL.refl _ _) (List.nil_sublist _) ⟨⟨i, true, hyes hcm, rfl⟩, rfl⟩
      · skip
        repeat
          (first
           | (apply P_move; (iterate 3 exact rfl)) | (apply P_cmp (b := false); (iterate 2 exact rfl); (focus (first | (simp [cmpI]; done) | (simp [cmpI]; omega))); (iterate 2 exact rfl)) | apply EL.nil
           | ((with_reducible apply EK.then_normal); apply EK.code) | (apply EC.cond_false; exact rfl)
           | (with_reducible first | apply EC.seq | apply EC.region | apply EC.skip | apply EC.label | apply EC.block | apply EC.exit | apply EC.ret | apply EK.in_normal | apply EK.in_same | apply EK.in_ret | apply EK.then_ret | apply EK.then_exit))
        refine EC.draw 15 (by kernel_rfl) ?_
        simp only [List.take_succ_cons, List.take_zero, List.drop_succ_cons, List.drop_zero]
        repeat
          (first
           | (apply EH.grow (g_callV (caps := []) (cds := []) hc (fun _ _ _ _ _ _ => rfl) rfl rfl rfl (RefineL.refl _ _) (by intro _ _; simp [go_sem])); exact rfl; exact rfl; exact rfl)
           | (apply H_move; (iterate 3 exact rfl)) | (apply H_assign; (iterate 3 exact rfl)) | (apply H_loadpd; (iterate 5 exact rfl)) | (apply H_pick; (iterate 4 exact rfl))
           | (apply H_load; exact rfl; (first | exact I0 | exact I1 | exact I2 | exact I3 | exact I4 | exact I5 | exact I6); (iterate 4 exact rfl))
           | (apply H_cmp (b := true); (iterate 2 exact rfl); (focus (first | (simp [cmpI]; done) | (simp [cmpI]; omega))); (iterate 2 exact rfl))
           | (apply H_cmp (b := false); (iterate 2 exact rfl); (focus (first | (simp [cmpI]; done) | (simp [cmpI]; omega))); (iterate 2 exact rfl))
           | (apply H_index; (iterate 4 exact rfl); (focus (first | exact ⟨by decide, rfl⟩ | (refine ⟨by omega, ?_⟩; rw [Int.toNat_natCast]; assumption))); (iterate 2 exact rfl))
           | ((with_reducible apply EH.nil); exact rfl))
        repeat
          (first
           | (apply P_assign; (iterate 3 exact rfl)) | apply EL.nil | ((with_reducible apply EK.then_normal); apply EK.code)
           | (with_reducible first | apply EC.seq | apply EC.region | apply EC.skip | apply EC.label | apply EC.block | apply EC.exit | apply EC.ret | apply EK.in_normal | apply EK.in_same | apply EK.in_ret | apply EK.then_ret | apply EK.then_exit))
        exact EK.retM2k [] rfl rfl rfl (RefineL.refl _ _) (List.nil_sublist _) ⟨⟨i, false, hno hcm, rfl⟩, rfl⟩
    · have hno : Srch AcL.a L a i false := ⟨hjl, fun h => (by cases h), fun _ => hs.none ho fun hk => absurd hk hlt⟩
      repeat
        (first
         | (apply P_move; (iterate 3 exact rfl)) | (apply P_cmp (b := false); (iterate 2 exact rfl); (focus (first | (simp [cmpI]; done) | (simp [cmpI]; omega))); (iterate 2 exact rfl)) | apply EL.nil
         | ((with_reducible apply EK.then_normal); apply EK.code) | (apply EC.cond_false; exact rfl)
         | (with_reducible first | apply EC.seq | apply EC.region | apply EC.skip | apply EC.label | apply EC.block | apply EC.exit | apply EC.ret | apply EK.in_normal | apply EK.in_same | apply EK.in_ret | apply EK.then_ret | apply EK.then_exit))
      refine EC.draw 15 (by kernel_rfl) ?_
      simp only [List.take_succ_cons, List.take_zero, List.drop_succ_cons, List.drop_zero]
      repeat
        (first
         | (apply H_skip; (iterate 2 exact rfl)) | (apply H_move; (iterate 3 exact rfl)) | (apply H_assign; (iterate 3 exact rfl)) | (apply H_pick; (iterate 4 exact rfl))
         | (apply H_cmp (b := false); (iterate 2 exact rfl); (focus (first | (simp [cmpI]; done) | (simp [cmpI]; omega))); (iterate 2 exact rfl)) | ((with_reducible apply EH.nil); exact rfl))
      repeat
        (first
         | (apply P_assign; (iterate 3 exact rfl)) | apply EL.nil | ((with_reducible apply EK.then_normal); apply EK.code)
         | (with_reducible first | apply EC.seq | apply EC.region | apply EC.skip | apply EC.label | apply EC.block | apply EC.exit | apply EC.ret | apply EK.in_normal | apply EK.in_same | apply EK.in_ret | apply EK.then_ret | apply EK.then_exit))
      exact EK.retM2k [] rfl rfl rfl (RefineL.refl _ _) (List.nil_sublist _) ⟨⟨i, false, hno, rfl⟩, rfl⟩
theorem none_is (a : List UInt8) : (AcL.none a).Is Ac.zero := ⟨rfl, rfl, rfl, .nil, fun p hp => by simp [AcL.none] at hp, fun k hk => absurd rfl hk⟩
set_option maxRecDepth 20000 in
set_option maxHeartbeats 8000000 in
theorem find_ {A : As} {L : List AcL} (h : Canon A L) (hl : L.length ≤ 1000000) (hb : ∀ x ∈ L, x.sl.length ≤ 1000000 ∧ x.cd.length ≤ 140737488355328) (a : List UInt8) : FnM 89 [.sl 55 (L.map dAcL), .arr 20 a] [] (fun r os' => (∃ x, (x ∈ L ∨ x = AcL.none a) ∧ x.a = a ∧ x.Is (A a) ∧ r = .val (dAcL x)) ∧ os' = []) := by
  have hml : (L.map dAcL).length = L.length := List.length_map _
  have h1 := bsearch_ h.ord hl a
  refine FnM.walk 22 Tryz.func89 rfl Tryz.ntmps89 (by simp) fun X => ?_
  repeat
    (first
     | (apply P_move; (iterate 3 exact rfl)) | (apply P_load; exact rfl; (first | exact I0 | exact I1 | exact I2 | exact I3 | exact I4 | exact I5 | exact I6); (iterate 4 exact rfl))
     | (apply P_alloc; exact rfl; exact rfl; exact rfl; intro _) | (apply P_box; exact rfl; exact rfl; exact rfl; intro _) | apply EL.nil | ((with_reducible apply EK.then_normal); apply EK.code)
     | (with_reducible first | apply EC.seq | apply EC.region | apply EC.skip | apply EC.label | apply EC.block | apply EC.exit | apply EC.ret | apply EK.in_normal | apply EK.in_same | apply EK.in_ret | apply EK.then_ret | apply EK.then_exit))
  rename_i g3 g4
  repeat
    (first
     | (apply P_callM (os := []) h1; (iterate 2 exact rfl); exact RefineL.refl _ _; (focus (intro _ _; simp [go_sem]; done)); (iterate 2 exact rfl); rintro _ _ ⟨⟨k, b, hs, rfl⟩, rfl⟩; simp only [List.nil_append])
     | (apply P_move; (iterate 3 exact rfl)) | (apply P_assign; (iterate 3 exact rfl)) | (apply P_extract; (iterate 4 exact rfl)) | (apply P_not; (iterate 3 exact rfl)) | apply EL.nil
     | ((with_reducible apply EK.then_normal); apply EK.code)
     | (with_reducible first | apply EC.seq | apply EC.region | apply EC.skip | apply EC.label | apply EC.block | apply EC.exit | apply EC.ret | apply EK.in_normal | apply EK.in_same | apply EK.in_ret | apply EK.then_ret | apply EK.then_exit))
  cases b with
  | true =>
    obtain ⟨hk, hka⟩ := hs.yes rfl
    have hd : (L.map dAcL)[k]? = some (dAcL L[k]) := by rw [List.getElem?_map, List.getElem?_eq_getElem hk]; rfl
    have hmem := List.getElem_mem hk
    have his := (h.mem _ hmem).1
    rw [hka] at his
    have hc := f_acopy L[k] (hb _ hmem).1 (hb _ hmem).2
    generalize L[k] = x at hd hmem hka his hc
    have hx : dAcL x = .tup [.arr 20 x.a, .v (.int .i64 x.n), .arr 32 x.w, .bs x.cd, .sl 64 (x.sl.map dSlL)] := rfl
    rw [hx] at hd hc
    repeat
      (first
       | ((apply P_callMD (hc); (iterate 2 exact rfl); (focus (repeat first | exact RefineL.refl _ _ | exact RL.nil | exact Rf.same | exact Rf.bs0 | exact Rf.sl0 | (apply Rf.fact; (focus (simp; done)); exact rfl) | apply Rf.tup | apply RL.cons)); (focus (intro _ _; simp [go_sem]; done)); (iterate 2 exact rfl)))
       | (apply P_move; (iterate 3 exact rfl)) | (apply P_loadpd; (iterate 5 exact rfl))
       | (apply P_index; (iterate 4 exact rfl); (focus (first | exact ⟨by decide, rfl⟩ | (refine ⟨by omega, ?_⟩; rw [Int.toNat_natCast]; assumption))); (iterate 2 exact rfl))
       | (apply P_store; exact rfl; (focus (repeat first | exact .z | apply SetAt.s | apply SetAtF.s)); (iterate 4 exact rfl)) | apply EL.nil | ((with_reducible apply EK.then_normal); apply EK.code)
       | (apply EC.cond_false; exact rfl)
       | (with_reducible first | apply EC.seq | apply EC.region | apply EC.skip | apply EC.label | apply EC.block | apply EC.exit | apply EC.ret | apply EK.in_normal | apply EK.in_same | apply EK.in_ret | apply EK.then_ret | apply EK.then_exit))
    exact EK.retMc1s 0 [] rfl rfl rfl rfl (RefineL.refl _ _) (List.nil_sublist _) ⟨⟨x, .inl hmem, hka, his, rfl⟩, rfl⟩
  | false =>
    have hz : A a = Ac.zero := Classical.byContradiction fun hne => by
      obtain ⟨x, hx, e⟩ := h.all a hne
      exact hs.no rfl x hx e
    have his := none_is a
    rw [← hz] at his
    repeat
      (first
       | (apply P_load; exact rfl; (first | exact I0 | exact I1 | exact I2 | exact I3 | exact I4 | exact I5 | exact I6); (iterate 4 exact rfl)) | (apply P_build; (iterate 7 exact rfl))
       | (apply P_store; exact rfl; (focus (repeat first | exact .z | apply SetAt.s | apply SetAtF.s)); (iterate 4 exact rfl)) | apply EL.nil | ((with_reducible apply EK.then_normal); apply EK.code)
       | (apply EC.cond_true; exact rfl)
       | (with_reducible first | apply EC.seq | apply EC.region | apply EC.skip | apply EC.label | apply EC.block | apply EC.exit | apply EC.ret | apply EK.in_normal | apply EK.in_same | apply EK.in_ret | apply EK.then_ret | apply EK.then_exit))
    refine EK.retMc1s 0 [] rfl rfl rfl rfl ?_ (List.nil_sublist _) ⟨⟨_, .inr rfl, rfl, his, rfl⟩, rfl⟩
    unfold dAcL AcL.none
    (repeat first | exact RefineL.refl _ _ | exact RL.nil | exact Rf.same | exact Rf.bs0 | exact Rf.sl0 | (apply Rf.fact; (focus (simp; done)); exact rfl) | apply Rf.tup | apply RL.cons)
end E
end Go.Proofs.YtdhicdnmgmkpkaaGreat
/-
  The abstract machine: indexes into a row's end, its length; cap; lengths of keys in a row; what makes memory alone.
  Conditions: none.
-/
namespace Go.Proofs.YtdhicdnmgmkpkaaGreat
set_option linter.unusedVariables false
open Go.RowKit Mono Rlp
namespace E
section
variable {N : Nat} {X : Cx N} {S : St} {ops : Array Oper} {o : Oper} {Q : Exit → Act → World → Prop} {l : List Oper} {rs : List (Tmp × R)} {os os' : List Obj} {fs : List (Value × D)} {TT : St → List Fr → Prop} {EE : List Fr} {c : Code}
theorem g_sufidx {x y : Operand} {T e z b q : Nat} {k : Int} {v : Value} {ds : List D} (ho : o.op = .indexAddr T x y) (hx : ev S x = some (.val (.v (sufV q z v)))) (i : Nat) (hi : S.objs[i]? = some (.row v e z ds)) (hy : ev S y = some (.val (.v (.int .i64 k)))) (hT : assoc slL T = some (e, z, b)) (hk : 0 ≤ k ∧ q + k.toNat < ds.length) : Still ops S o (.val (.v (elemPtr v ((q + k.toNat) * z)))) := fun base ok a w ha => by
  have hx' := ev_v ha hx (looks_op (by rw [ho]; simp [Op.operands]))
  have hy' := ev_v ha hy (looks_op (by rw [ho]; simp [Op.operands]))
  obtain ⟨g, c, cur, rows, H⟩ := row_in (ha.objs _ (List.mem_of_getElem? hi)) (by omega)
  have hle := H.le
  have hv : sufV q z v = .slice (some ⟨g, q * z, none⟩) (ds.length - q) (c - q) := by
    rw [H.val]
    unfold sufV
    dsimp only
    rw [if_neg (by omega), Option.map_some, add_none, Nat.zero_add]
  refine ⟨_, ?_, v_mk (elemPtr_one _ _)⟩
  have hlt : k < ((ds.length - q : Nat) : Int) := by omega
  rw [hv] at hx'
  have ep : elemPtr v ((q + k.toNat) * z) = .pointer (some ⟨g, (q + k.toNat) * z, none⟩) := by rw [H.val]; simp [elemPtr]
  rw [ep]
  unfold execOp
  simp [ho, hx', hy', Instr.indexAt, run_underlying (slI hT).und, asIntOf, hk.1, hlt, run_size (slI hT).size, add_none, Nat.add_mul]
theorem g_suflen {x : Operand} {T e z b q : Nat} {v : Value} {ds : List D} (ho : o.op = .call { callee := .builtin .len, args := #[x], argTypes := #[T] }) (hx : ev S x = some (.val (.v (sufV q z v)))) (i : Nat) (hi : S.objs[i]? = some (.row v e z ds)) (hT : assoc slL T = some (e, z, b)) : Still ops S o (.val (.v (.int .i64 ((ds.length - q : Nat) : Int)))) := fun base ok a w ha => by
  have hx' := ev_v ha hx (looks_op (by rw [ho]; simp [Op.operands, Call.operands]))
  obtain ⟨rows, ⟨h1, _⟩, _⟩ := ha.objs _ (List.mem_of_getElem? hi)
  have hu := (slI hT).und
  have hv : ∃ A c, sufV q z v = .slice A (ds.length - q) c := by
    rcases h1.2 with ⟨e1, e2⟩ | ⟨g, c, cur, e1, _⟩
    · rw [e1, e2]
      exact ⟨_, _, rfl⟩
    · rw [e1]
      exact ⟨_, _, rfl⟩
  obtain ⟨A, c, hv⟩ := hv
  refine ⟨_, ?_, v_mk rfl⟩
  unfold execOp
  simp [ho, resolve, invoke, builtin, hx', hv, Builtin.len_, run_underlying hu, goInt]
theorem P_sufidx {t ty : Nat} {pos : String} {af : Array Edge} {gd : Option (Nat × Bool)} {x y : Operand} {T e z b q i : Nat} {k : Int} {v : Value} {ds : List D} (hx : ev (⟨rs, os, fs⟩ : St) x = some (.val (.v (sufV q z v)))) (hi : os[i]? = some (.row v e z ds)) (hy : ev (⟨rs, os, fs⟩ : St) y = some (.val (.v (.int .i64 k)))) (hT : assoc slL T = some (e, z, b)) (hk : 0 ≤ k ∧ q + k.toNat < ds.length) (hg : guardOf ops ⟨rs, os, fs⟩ ⟨some t, .indexAddr T x y, ty, pos, af, gd⟩ = some true) (hN : Nat.blt t N = true) (kk : EL X ops Q l ⟨(t, .val (.v (elemPtr v ((q + k.toNat) * z)))) :: rs, os, fs⟩) : EL X ops Q (⟨some t, .indexAddr T x y, ty, pos, af, gd⟩ :: l) ⟨rs, os, fs⟩ := ES.still (g_sufidx rfl hx i hi hy hT hk) hg rfl hN kk
theorem H_sufidx {t ty : Nat} {pos : String} {af : Array Edge} {gd : Option (Nat × Bool)} {x y : Operand} {T e z b q i : Nat} {k : Int} {v : Value} {ds : List D} (hx : ev (⟨rs, os, fs⟩ : St) x = some (.val (.v (sufV q z v)))) (hi : os[i]? = some (.row v e z ds)) (hy : ev (⟨rs, os, fs⟩ : St) y = some (.val (.v (.int .i64 k)))) (hT : assoc slL T = some (e, z, b)) (hk : 0 ≤ k ∧ q + k.toNat < ds.length) (hg : guardOf ops ⟨rs, os, fs⟩ ⟨some t, .indexAddr T x y, ty, pos, af, gd⟩ = some true) (hoff : offB N (some t) EE = true) (kk : EM N ops TT l ⟨(t, .val (.v (elemPtr v ((q + k.toNat) * z)))) :: rs, os, fs⟩ EE) : EM N ops TT (⟨some t, .indexAddr T x y, ty, pos, af, gd⟩ :: l) ⟨rs, os, fs⟩ EE := EH.still (g_sufidx rfl hx i hi hy hT hk) hg rfl hoff kk
theorem P_suflen {t ty : Nat} {pos : String} {af : Array Edge} {gd : Option (Nat × Bool)} {x : Operand} {T e z b q i : Nat} {v : Value} {ds : List D} (hx : ev (⟨rs, os, fs⟩ : St) x = some (.val (.v (sufV q z v)))) (hi : os[i]? = some (.row v e z ds)) (hT : assoc slL T = some (e, z, b)) (hg : guardOf ops ⟨rs, os, fs⟩ ⟨some t, .call { callee := .builtin .len, args := #[x], argTypes := #[T] }, ty, pos, af, gd⟩ = some true) (hN : Nat.blt t N = true) (kk : EL X ops Q l ⟨(t, .val (.v (.int .i64 ((ds.length - q : Nat) : Int)))) :: rs, os, fs⟩) : EL X ops Q (⟨some t, .call { callee := .builtin .len, args := #[x], argTypes := #[T] }, ty, pos, af, gd⟩ :: l) ⟨rs, os, fs⟩ := ES.still (g_suflen rfl hx i hi hT) hg rfl hN kk
theorem g_capv {x : Operand} {T e z b n c : Nat} {A : Option Addr} (ho : o.op = .call { callee := .builtin .cap, args := #[x], argTypes := #[T] }) (hx : ev S x = some (.val (.v (.slice A n c)))) (hT : assoc slL T = some (e, z, b)) : Still ops S o (.val (.v (.int .i64 (c : Int)))) := fun base ok a w ha => by
  have hx' := ev_v ha hx (looks_op (by rw [ho]; simp [Op.operands, Call.operands]))
  have hu := (slI hT).und
  refine ⟨_, ?_, v_mk rfl⟩
  unfold execOp
  simp [ho, resolve, invoke, builtin, hx', Builtin.cap_, run_underlying hu, goInt]
theorem EC.rowLen {v : Value} {e n : Nat} {K : List (List UInt8)} (i : Nat) (hi : S.objs[i]? = some (.row v e n (K.map (D.arr n)))) (k : (∀ q ∈ K, q.length = n) → EC X Q c S) : EC X Q c S := ⟨fun a w ha => by
  obtain ⟨rows, _, h2⟩ := ha.mem.at_ _ (List.mem_of_getElem? hi)
  refine (k fun q hq => ?_).go a w ha
  obtain ⟨j, hj, rfl⟩ := List.getElem_of_mem hq
  obtain ⟨r, _, _, h3⟩ := ReadsRows.get _ _ h2 j (by simpa using hj)
  rw [List.getElem_map, Reads] at h3
  exact h3.1⟩
end
theorem FnM.fn {f : FuncId} {ds : List D} {Φ : R → Prop} (h : FnM f ds [] (fun r os' => Φ r ∧ os' = [])) : Fn f ds Φ := ⟨fun ok w xs hok hr => by
  refine (h.go ok w xs hok ⟨fun o ho => by simp at ho, .nil, fun b ⟨o, ho, _⟩ => by simp at ho⟩ hr).mono ?_
  rintro e w' ⟨v, r, os', rfl, ⟨hΦ, rfl⟩, ht, hv⟩
  refine ⟨ht.gr.gr fun b ⟨o, ho, _⟩ => by simp at ho, v, r, rfl, hΦ, hv.mono (fun b hb => ⟨?_, hb.2.1⟩) fun _ _ => rfl⟩
  rcases hb.1 with h | ⟨o, ho, _⟩ | h
  · exact .inl h
  · simp at ho
  · exact .inr h⟩
theorem FnM.fnE {f : FuncId} {ds : List D} {Φ : R → Prop} {r0 : R} (h : FnM f ds [] (fun r os' => Φ r ∧ os' = [])) (hu : ∀ r, Φ r → r = r0) : Fn f ds (· = r0) := (h.mono fun r os' ⟨h1, h2⟩ => ⟨hu r h1, h2⟩).fn
end E
end Go.Proofs.YtdhicdnmgmkpkaaGreat
/-
  slices.Grow, Concat of accounts; slices.Compact of addresses.
  Conditions: none.
-/
namespace Go.Proofs.YtdhicdnmgmkpkaaGreat
set_option linter.unusedVariables false
open Go.RowKit Mono Rlp Wd Go.Sort
namespace E
set_option maxRecDepth 20000 in
set_option maxHeartbeats 4000000 in
theorem grow_ (n : Nat) (hn : n ≤ 1000000) : FnM 135 [.v nilS, .v (.int .i64 (n : Int))] [] (fun r os' => ∃ v, r = .val (.v v) ∧ os' = [.row v 74 55 []]) := by
  refine FnM.walk 27 Tryz.func135 rfl Tryz.ntmps135 (by simp) fun X => ?_
  have hl0 : ([] : List D).length = 0 := rfl
  refine EC.le (Le.row 74 55) ?_
  by_cases h0 : n = 0
  · subst h0
    repeat
      (first
       | (apply ES.still (g_capv rfl rfl rfl); exact rfl; exact rfl; exact rfl) | (apply P_move; (iterate 3 exact rfl)) | (apply P_assign; (iterate 3 exact rfl))
       | (apply P_cmp (b := false); (iterate 2 exact rfl); (focus (first | (simp [cmpI]; done) | (simp [cmpI]; omega))); (iterate 2 exact rfl))
       | (apply P_ar; (iterate 3 exact rfl); (focus omega); (focus omega); (iterate 2 exact rfl))
       | (apply P_lenrow; exact rfl; (first | exact I0 | exact I1 | exact I2 | exact I3 | exact I4 | exact I5 | exact I6); (iterate 3 exact rfl)) | apply EL.nil
       | ((with_reducible apply EK.then_normal); apply EK.code) | (apply EC.cond_false; exact rfl)
       | (with_reducible first | apply EC.seq | apply EC.region | apply EC.skip | apply EC.label | apply EC.block | apply EC.exit | apply EC.ret | apply EK.in_normal | apply EK.in_same | apply EK.in_ret | apply EK.then_ret | apply EK.then_exit))
    exact EK.retM1s [.row nilS 74 55 []] rfl rfl (by (repeat first | exact List.nil_sublist _ | apply List.Sublist.cons_cons | apply List.Sublist.cons)) ⟨nilS, rfl, rfl⟩
  · have hml : (List.replicate n (D.tup [.arr 20 (List.replicate 20 0), .v (.int .i64 0), .arr 32 zero32, .v nilS, .v nilS])).length = n := List.length_replicate
    repeat
      (first
       | (apply ES.still (g_capv rfl rfl rfl); exact rfl; exact rfl; exact rfl)
       | (apply P_rowcut; exact rfl; (first | exact I0 | exact I1); (iterate 2 exact rfl); (focus (constructor <;> (first | (simp; done) | omega))); (iterate 2 exact rfl))
       | (refine EL.mut (os := []) (rest := [_]) rfl (dst_lt rfl rfl) (m_zeros (n := n) rfl rfl rfl rfl Tryz.underlying3 rfl rfl rfl rfl (by omega) ⟨by omega, by omega, by omega⟩) ?_; rintro _ _ ⟨v, rfl, rfl⟩; simp only [St.put, List.cons_append, List.nil_append])
       | (apply P_move; (iterate 3 exact rfl)) | (apply P_assign; (iterate 3 exact rfl))
       | (apply P_cmp (b := true); (iterate 2 exact rfl); (focus (first | (simp [cmpI]; done) | (simp [cmpI]; omega))); (iterate 2 exact rfl))
       | (apply P_cmp (b := false); (iterate 2 exact rfl); (focus (first | (simp [cmpI]; done) | (simp [cmpI]; omega))); (iterate 2 exact rfl))
       | (apply P_ar; (iterate 3 exact rfl); (focus omega); (focus omega); (iterate 2 exact rfl))
       | (apply P_lenrow; exact rfl; (first | exact I0 | exact I1 | exact I2 | exact I3 | exact I4 | exact I5 | exact I6); (iterate 3 exact rfl)) | apply EL.nil
       | ((with_reducible apply EK.then_normal); apply EK.code) | (apply EC.cond_true; exact rfl) | (apply EC.cond_false; exact rfl)
       | (with_reducible first | apply EC.seq | apply EC.region | apply EC.skip | apply EC.label | apply EC.block | apply EC.exit | apply EC.ret | apply EK.in_normal | apply EK.in_same | apply EK.in_ret | apply EK.then_ret | apply EK.then_exit))
    refine EK.le (Le.cutRow (k := 0) (Nat.zero_le _) .z) ?_
    rw [List.take_zero]
    exact EK.retM1s [.row _ 74 55 []] rfl rfl (by (repeat first | exact List.nil_sublist _ | apply List.Sublist.cons_cons | apply List.Sublist.cons)) ⟨_, rfl, rfl⟩
set_option maxRecDepth 20000 in
set_option maxHeartbeats 8000000 in
theorem concat_ (P Q : List D) (hP : P.length ≤ 100000) (hQ : Q.length ≤ 100000) : FnM 94 [.sl 1 [.sl 55 P, .sl 55 Q]] [] (fun r os' => r = .val (.sl 55 (P ++ Q)) ∧ os' = []) := by
  have hl2 : ([D.sl 55 P, D.sl 55 Q] : List D).length = 2 := rfl
  have hl0 : ([] : List D).length = 0 := rfl
  have hg := grow_ (P.length + Q.length) (by omega)
  rw [show ((P.length + Q.length : Nat) : Int) = 0 + (P.length : Int) + (Q.length : Int) by omega] at hg
  refine FnM.walk 36 Tryz.func94 rfl Tryz.ntmps94 (by simp) fun X => ?_
  repeat
    (first
     | (apply P_move; (iterate 3 exact rfl)) | (apply P_assign; (iterate 3 exact rfl)) | (apply P_lensl; (iterate 4 exact rfl)) | apply EL.nil | ((with_reducible apply EK.then_normal); apply EK.code)
     | (with_reducible first | apply EC.seq | apply EC.region | apply EC.skip | apply EC.label | apply EC.block | apply EC.exit | apply EC.ret | apply EK.in_normal | apply EK.in_same | apply EK.in_ret | apply EK.then_ret | apply EK.then_exit))
  refine EC.loopN 3 (EK.round ?_)
  repeat
    (first
     | (apply P_callM (os := []) hg; (iterate 2 exact rfl); exact RefineL.refl _ _; (focus (intro _ _; simp [go_sem]; done)); (iterate 2 exact rfl); rintro _ _ ⟨v, rfl, rfl⟩; simp only [List.cons_append, List.nil_append])
     | (apply P_move; (iterate 3 exact rfl)) | (apply P_assign; (iterate 3 exact rfl)) | (apply P_loadpd; (iterate 5 exact rfl))
     | (apply P_cmp (b := true); (iterate 2 exact rfl); (focus (first | (simp [cmpI]; done) | (simp [cmpI]; omega))); (iterate 2 exact rfl))
     | (apply P_cmp (b := false); (iterate 2 exact rfl); (focus (first | (simp [cmpI]; done) | (simp [cmpI]; omega))); (iterate 2 exact rfl))
     | (apply P_ar; (iterate 3 exact rfl); (focus omega); (focus omega); (iterate 2 exact rfl)) | (apply P_lensl; (iterate 4 exact rfl))
     | (apply P_index; (iterate 4 exact rfl); (focus (first | exact ⟨by decide, rfl⟩ | (refine ⟨by omega, ?_⟩; rw [Int.toNat_natCast]; assumption))); (iterate 2 exact rfl))
     | ((with_reducible apply EK.then_normal); apply EK.round) | apply EL.nil | ((with_reducible apply EK.then_normal); apply EK.code) | (apply EC.cond_true; exact rfl) | (apply EC.cond_false; exact rfl)
     | (with_reducible first | apply EC.seq | apply EC.region | apply EC.skip | apply EC.label | apply EC.block | apply EC.exit | apply EC.ret | apply EK.in_normal | apply EK.in_same | apply EK.in_ret | apply EK.then_ret | apply EK.then_exit))
  refine EC.loopN 3 (EK.round ?_)
  repeat
    (first
     | (apply P_move; (iterate 3 exact rfl)) | (apply P_assign; (iterate 3 exact rfl)) | (apply P_loadpd; (iterate 5 exact rfl))
     | (apply P_cmp (b := true); (iterate 2 exact rfl); (focus (first | (simp [cmpI]; done) | (simp [cmpI]; omega))); (iterate 2 exact rfl))
     | (apply P_cmp (b := false); (iterate 2 exact rfl); (focus (first | (simp [cmpI]; done) | (simp [cmpI]; omega))); (iterate 2 exact rfl))
     | (apply P_ar; (iterate 3 exact rfl); (focus omega); (focus omega); (iterate 2 exact rfl))
     | (apply P_index; (iterate 4 exact rfl); (focus (first | exact ⟨by decide, rfl⟩ | (refine ⟨by omega, ?_⟩; rw [Int.toNat_natCast]; assumption))); (iterate 2 exact rfl))
     | ((apply P_append; exact rfl; (focus (repeat first | exact .z | apply SetAt.s | apply SetAtF.s)); (iterate 5 exact rfl); (focus (constructor <;> (first | (simp; done) | (simp; omega))))); intro _)
     | ((with_reducible apply EK.then_normal); apply EK.round) | apply EL.nil | ((with_reducible apply EK.then_normal); apply EK.code) | (apply EC.cond_true; exact rfl) | (apply EC.cond_false; exact rfl)
     | (with_reducible first | apply EC.seq | apply EC.region | apply EC.skip | apply EC.label | apply EC.block | apply EC.exit | apply EC.ret | apply EK.in_normal | apply EK.in_same | apply EK.in_ret | apply EK.then_ret | apply EK.then_exit))
  refine EK.le (Le.freeze (pre := []) rfl) ?_
  exact EK.retM1k [] rfl rfl (RL.cons (Rf.fact List.mem_cons_self rfl) RL.nil) (List.nil_sublist _) ⟨rfl, rfl⟩
end E
end Go.Proofs.YtdhicdnmgmkpkaaGreat
