/-
  Merged (wip/tools/merge.py): RT9, RTA.
  Conditions: none.
-/
import Derived.Test.YtdhicdnmgmkpkaaGreatZB17
import Derived.Test.YtdhicdnmgmkpkaaGreatZB21
import Derived.Test.YtdhicdnmgmkpkaaGreatZB19
/-
  The reference's SameAccount, of any two; Get.
  Conditions: none.
-/
namespace Go.Proofs.YtdhicdnmgmkpkaaGreat
set_option linter.unusedVariables false
open Go.RowKit Mono Rlp Wd
namespace E
def sameS (s t : List UInt8 × List UInt8) : Bool := (s.1 == t.1) && (s.2 == t.2)
theorem eq_slot2 (w : World) (s t : List UInt8 × List UInt8) (hs : slOk1 s) (ht : slOk1 t) : (Op.equalIn 10000 103 (.agg (slC1 s).toArray) (.agg (slC1 t).toArray)).run Tryz.prog w = .ok (sameS s t) w := by
  rw [show (10000 : Nat) = 9999 + 1 from rfl, run_equalIn_struct w 9999 103 _ _ (by kernel_rfl) (by kernel_rfl)]
  simp only [Program.fieldsOf, Tryz.underlying103]
  have hp : ∀ (x : List UInt8 × List UInt8) (o : Nat) (l : List UInt8), slOk1 x → (o = 0 ∧ l = x.1 ∨ o = 32 ∧ l = x.2) → ∀ w, (part 34 (slC1 x).toArray o).run Tryz.prog w = .ok (arrV l) w := by
    intro x o l hx ho w
    have h1 : (part 34 (slC1 x).toArray o).run Tryz.prog w = .ok (.agg ((slC1 x).toArray.extract o (o + 32))) w := by
      kernel_rfl
    rw [h1]
    have hk : (slC1 x).toArray.extract o (o + 32) = (bvs l).toArray := by
      apply Array.ext'
      rw [Array.toList_extract]
      unfold slC1
      rcases ho with ⟨rfl, rfl⟩ | ⟨rfl, rfl⟩
      · rw [List.extract_eq_take_drop, List.drop_zero, List.take_left' (by rw [bvs_length, hx.1])]
      · rw [List.extract_eq_take_drop, List.drop_left' (by rw [bvs_length, hx.1]), List.take_of_length_le (by rw [bvs_length, hx.2]; decide)]
    rw [hk]
    rfl
  have hW := fun w l m hl hm => eq_arr' (T := 34) (n := 32) 9997 Tryz.underlying34 Tryz.underlying5 (fun w => by kernel_rfl) w l m hl hm
  simp only [Op.eqFields, ne_eq, String.reduceEq, not_false_eq_true, if_true, Sem.run_bind, hp s 0 s.1 hs (.inl ⟨rfl, rfl⟩), hp t 0 t.1 ht (.inl ⟨rfl, rfl⟩), Result.andThen_ok, hW _ _ _ hs.1 ht.1]
  unfold sameS
  cases s.1 == t.1
  · simp
  · cases hv : s.2 == t.2 <;> simp [hW _ _ _ hs.2 ht.2, hv, Sem.run_bind, hp s 32 s.2 hs (.inr ⟨rfl, rfl⟩), hp t 32 t.2 ht (.inr ⟨rfl, rfl⟩)]
theorem bin_slot2 (s t : List UInt8 × List UInt8) : Bin .neq 103 (dSlL s) (dSlL t) (.bool (!sameS s t)) := by
  refine ⟨rfl, fun ok w p q hp hq => ?_⟩
  obtain ⟨rfl, h1⟩ := slot1_of hp
  obtain ⟨rfl, h2⟩ := slot1_of hq
  refine ⟨fun x y => run_eqGuard_agg w _ _ _ _ _ _ (by kernel_rfl), ?_⟩
  rw [run_neq_struct, eq_slot2 w s t h1 h2]
  rfl
def sameL {α : Type} (f : α → α → Bool) : List α → List α → Bool
  | [], [] => true
  | s :: l, t :: m => f s t && sameL f l m
  | _, _ => false
section
variable {α : Type} {f : α → α → Bool}
theorem sameL_len : ∀ l m : List α, l.length ≠ m.length → sameL f l m = false
  | [], [], h => absurd rfl h
  | [], _ :: _, _ => rfl
  | _ :: _, [], _ => rfl
  | s :: l, t :: m, h => by rw [sameL, sameL_len l m (by simpa using h), Bool.and_false]
theorem sameL_bad : ∀ (l m : List α) (k : Nat) (s t : α), l[k]? = some s → m[k]? = some t → f s t = false → sameL f l m = false
  | [], _, k, s, t, h, _, _ => by simp at h
  | _ :: _, [], k, s, t, _, h, _ => by simp at h
  | x :: l, y :: m, 0, s, t, h, h', hb => by
    cases h
    cases h'
    rw [sameL, hb, Bool.false_and]
  | x :: l, y :: m, k + 1, s, t, h, h', hb => by
    rw [sameL, sameL_bad l m k s t (by simpa using h) (by simpa using h') hb, Bool.and_false]
theorem sameL_good : ∀ (l m : List α), l.length = m.length → (∀ (k : Nat) (s t : α), l[k]? = some s → m[k]? = some t → f s t = true) → sameL f l m = true
  | [], [], _, _ => rfl
  | [], _ :: _, h, _ => by simp at h
  | _ :: _, [], h, _ => by simp at h
  | x :: l, y :: m, h, hk => by
    rw [sameL, hk 0 x y rfl rfl, sameL_good l m (by simpa using h) fun k s t h1 h2 => hk (k + 1) s t (by simpa using h1) (by simpa using h2)]
    rfl
theorem sameL_refl (hf : ∀ a, f a a = true) : ∀ l : List α, sameL f l l = true
  | [] => rfl
  | x :: l => by rw [sameL, hf, sameL_refl hf l]; rfl
end
def sameA (a b : AcL) : Bool := (a.a == b.a) && (a.n == b.n) && (a.w == b.w) && (a.cd == b.cd) && sameL sameS a.sl b.sl
set_option maxRecDepth 20000 in
set_option maxHeartbeats 8000000 in
theorem f_sameAcc (a b : AcL) : Fn 38 [dAcL a, dAcL b] (· = .val (.v (.bool (sameA a b)))) := by
  obtain ⟨a1, a2, a3, a4, a5⟩ := a
  obtain ⟨b1, b2, b3, b4, b5⟩ := b
  unfold dAcL sameA
  dsimp only
  have h1 := (bin_addr a1 b1).2
  have h3 := (bin_word a3 b3).2
  have h4 := (bin_string a4 b4).2
  have hl : (a5.map dSlL).length = a5.length := List.length_map _
  have hl' : (b5.map dSlL).length = b5.length := List.length_map _
  have e1 : (a1 == b1) = !(a1 != b1) := by simp [bne]
  have e3 : (a3 == b3) = !(a3 != b3) := by simp [bne]
  have e4 : (a4 == b4) = !(a4 != b4) := by simp [bne]
  rw [e1, e3, e4]
  generalize (a1 != b1) = x1 at h1
  generalize (a3 != b3) = x3 at h3
  generalize (a4 != b4) = x4 at h4
  clear e1 e3 e4
  refine Fn.walk 61 Tryz.func38 rfl Tryz.ntmps38 (by simp) fun X => ?_
  have step : ∀ P : Prop, (x1 = true → P) → (x1 = false → a2 ≠ b2 → P) → (x1 = false → a2 = b2 → x3 = true → P) → (x1 = false → a2 = b2 → x3 = false → x4 = true → P) → (x1 = false → a2 = b2 → x3 = false → x4 = false → a5.length ≠ b5.length → P) → (x1 = false → a2 = b2 → x3 = false → x4 = false → a5.length = b5.length → P) → P := by
    intro P p1 p2 p3 p4 p5 p6
    cases x1
    · by_cases h : a2 = b2
      · cases x3
        · cases x4
          · by_cases h5 : a5.length = b5.length
            · exact p6 rfl h rfl rfl h5
            · exact p5 rfl h rfl rfl h5
          · exact p4 rfl h rfl rfl
        · exact p3 rfl h rfl
      · exact p2 rfl h
    · exact p1 rfl
  refine step _ ?_ ?_ ?_ ?_ ?_ ?_
  case refine_1 =>
    intro e1
    subst e1
    repeat
      (first
       | (apply P_skip; (iterate 2 exact rfl)) | (apply P_bin; (iterate 2 exact rfl); exact h1; (iterate 2 exact rfl)) | (apply P_move; (iterate 3 exact rfl)) | (apply P_assign; (iterate 3 exact rfl))
       | (apply P_field; (iterate 6 exact rfl)) | (apply P_pick; (iterate 4 exact rfl))
       | (apply P_load; exact rfl; (first | exact I0 | exact I1 | exact I2 | exact I3 | exact I4 | exact I5 | exact I6); (iterate 4 exact rfl)) | (apply P_box; exact rfl; exact rfl; exact rfl; intro _)
       | apply EL.nil | ((with_reducible apply EK.then_normal); apply EK.code) | (apply EC.cond_true; exact rfl)
       | (with_reducible first | apply EC.seq | apply EC.region | apply EC.skip | apply EC.label | apply EC.block | apply EC.exit | apply EC.ret | apply EK.in_normal | apply EK.in_same | apply EK.in_ret | apply EK.then_ret | apply EK.then_exit))
    exact EK.ret1 rfl rfl rfl
  case refine_2 =>
    intro e1 e2
    subst e1
    rw [show (a2 == b2) = false by simpa using e2]
    repeat
      (first
       | (apply P_skip; (iterate 2 exact rfl)) | (apply P_bin; (iterate 2 exact rfl); exact h1; (iterate 2 exact rfl)) | (apply P_move; (iterate 3 exact rfl)) | (apply P_assign; (iterate 3 exact rfl))
       | (apply P_field; (iterate 6 exact rfl)) | (apply P_pick; (iterate 4 exact rfl))
       | (apply P_load; exact rfl; (first | exact I0 | exact I1 | exact I2 | exact I3 | exact I4 | exact I5 | exact I6); (iterate 4 exact rfl))
       | (apply P_cmp (b := true); (iterate 2 exact rfl); (focus (first | (simp [cmpI]; done) | (simp [cmpI]; omega))); (iterate 2 exact rfl)) | (apply P_box; exact rfl; exact rfl; exact rfl; intro _)
       | apply EL.nil | ((with_reducible apply EK.then_normal); apply EK.code) | (apply EC.cond_true; exact rfl)
       | (with_reducible first | apply EC.seq | apply EC.region | apply EC.skip | apply EC.label | apply EC.block | apply EC.exit | apply EC.ret | apply EK.in_normal | apply EK.in_same | apply EK.in_ret | apply EK.then_ret | apply EK.then_exit))
    exact EK.ret1 rfl rfl rfl
  case refine_3 =>
    intro e1 e2 e3
    subst e1 e2 e3
    repeat
      (first
       | (apply P_skip; (iterate 2 exact rfl)) | (apply P_bin; (iterate 2 exact rfl); exact h1; (iterate 2 exact rfl)) | (apply P_bin; (iterate 2 exact rfl); exact h3; (iterate 2 exact rfl))
       | (apply P_move; (iterate 3 exact rfl)) | (apply P_assign; (iterate 3 exact rfl)) | (apply P_field; (iterate 6 exact rfl)) | (apply P_pick; (iterate 4 exact rfl))
       | (apply P_load; exact rfl; (first | exact I0 | exact I1 | exact I2 | exact I3 | exact I4 | exact I5 | exact I6); (iterate 4 exact rfl))
       | (apply P_cmp (b := false); (iterate 2 exact rfl); (focus (first | (simp [cmpI]; done) | (simp [cmpI]; omega))); (iterate 2 exact rfl)) | (apply P_box; exact rfl; exact rfl; exact rfl; intro _)
       | apply EL.nil | ((with_reducible apply EK.then_normal); apply EK.code) | (apply EC.cond_true; exact rfl)
       | (with_reducible first | apply EC.seq | apply EC.region | apply EC.skip | apply EC.label | apply EC.block | apply EC.exit | apply EC.ret | apply EK.in_normal | apply EK.in_same | apply EK.in_ret | apply EK.then_ret | apply EK.then_exit))
    exact EK.ret1 rfl rfl (by simp)
  case refine_4 =>
    intro e1 e2 e3 e4
    subst e1 e2 e3 e4
    repeat
      (first
       | (apply P_skip; (iterate 2 exact rfl)) | (apply P_bin; (iterate 2 exact rfl); exact h1; (iterate 2 exact rfl)) | (apply P_bin; (iterate 2 exact rfl); exact h3; (iterate 2 exact rfl))
       | (apply P_bin; (iterate 2 exact rfl); exact h4; (iterate 2 exact rfl)) | (apply P_move; (iterate 3 exact rfl)) | (apply P_assign; (iterate 3 exact rfl)) | (apply P_field; (iterate 6 exact rfl))
       | (apply P_pick; (iterate 4 exact rfl)) | (apply P_load; exact rfl; (first | exact I0 | exact I1 | exact I2 | exact I3 | exact I4 | exact I5 | exact I6); (iterate 4 exact rfl))
       | (apply P_cmp (b := false); (iterate 2 exact rfl); (focus (first | (simp [cmpI]; done) | (simp [cmpI]; omega))); (iterate 2 exact rfl)) | (apply P_str; (iterate 3 exact rfl))
       | (apply P_box; exact rfl; exact rfl; exact rfl; intro _) | apply EL.nil | ((with_reducible apply EK.then_normal); apply EK.code) | (apply EC.cond_true; exact rfl)
       | (with_reducible first | apply EC.seq | apply EC.region | apply EC.skip | apply EC.label | apply EC.block | apply EC.exit | apply EC.ret | apply EK.in_normal | apply EK.in_same | apply EK.in_ret | apply EK.then_ret | apply EK.then_exit))
    exact EK.ret1 rfl rfl (by simp)
  case refine_5 =>
    intro e1 e2 e3 e4 e5
    subst e1 e2 e3 e4
    rw [sameL_len _ _ e5]
    repeat
      (first
       | (apply P_bin; (iterate 2 exact rfl); exact h1; (iterate 2 exact rfl)) | (apply P_bin; (iterate 2 exact rfl); exact h3; (iterate 2 exact rfl))
       | (apply P_bin; (iterate 2 exact rfl); exact h4; (iterate 2 exact rfl)) | (apply P_move; (iterate 3 exact rfl)) | (apply P_assign; (iterate 3 exact rfl)) | (apply P_field; (iterate 6 exact rfl))
       | (apply P_pick; (iterate 4 exact rfl)) | (apply P_load; exact rfl; (first | exact I0 | exact I1 | exact I2 | exact I3 | exact I4 | exact I5 | exact I6); (iterate 4 exact rfl))
       | (apply P_cmp (b := true); (iterate 2 exact rfl); (focus (first | (simp [cmpI]; done) | (simp [cmpI]; omega))); (iterate 2 exact rfl))
       | (apply P_cmp (b := false); (iterate 2 exact rfl); (focus (first | (simp [cmpI]; done) | (simp [cmpI]; omega))); (iterate 2 exact rfl)) | (apply P_lensl; (iterate 4 exact rfl))
       | (apply P_str; (iterate 3 exact rfl)) | (apply P_box; exact rfl; exact rfl; exact rfl; intro _) | apply EL.nil | ((with_reducible apply EK.then_normal); apply EK.code) | (apply EC.cond_true; exact rfl)
       | (with_reducible first | apply EC.seq | apply EC.region | apply EC.skip | apply EC.label | apply EC.block | apply EC.exit | apply EC.ret | apply EK.in_normal | apply EK.in_same | apply EK.in_ret | apply EK.then_ret | apply EK.then_exit))
    exact EK.ret1 rfl rfl (by simp)
  case refine_6 =>
    intro e1 e2 e3 e4 e5
    subst e1 e2 e3 e4
    repeat
      (first
       | (apply P_bin; (iterate 2 exact rfl); exact h1; (iterate 2 exact rfl)) | (apply P_bin; (iterate 2 exact rfl); exact h3; (iterate 2 exact rfl))
       | (apply P_bin; (iterate 2 exact rfl); exact h4; (iterate 2 exact rfl)) | (apply P_move; (iterate 3 exact rfl)) | (apply P_assign; (iterate 3 exact rfl)) | (apply P_field; (iterate 6 exact rfl))
       | (apply P_pick; (iterate 4 exact rfl)) | (apply P_load; exact rfl; (first | exact I0 | exact I1 | exact I2 | exact I3 | exact I4 | exact I5 | exact I6); (iterate 4 exact rfl))
       | (apply P_cmp (b := false); (iterate 2 exact rfl); (focus (first | (simp [cmpI]; done) | (simp [cmpI]; omega))); (iterate 2 exact rfl)) | (apply P_lensl; (iterate 4 exact rfl))
       | (apply P_str; (iterate 3 exact rfl)) | (apply P_box; exact rfl; exact rfl; exact rfl; intro _) | apply EL.nil | ((with_reducible apply EK.then_normal); apply EK.code)
       | (apply EC.cond_false; exact rfl)
       | (with_reducible first | apply EC.seq | apply EC.region | apply EC.skip | apply EC.label | apply EC.block | apply EC.exit | apply EC.ret | apply EK.in_normal | apply EK.in_same | apply EK.in_ret | apply EK.then_ret | apply EK.then_exit))
    rename_i g2 g3
    refine EC.lenOf (t := 36) rfl fun hm => ?_
    rw [hl] at hm
    unfold maxLen at hm
    refine EC.loop (ι := {k : Nat // k ≤ a5.length ∧ ∀ (j : Nat) (s t : List UInt8 × List UInt8), j < k → a5[j]? = some s → b5[j]? = some t → sameS s t = true})
      (fun k => ⟨[(5, .val (.v (.int .i64 (k.1 : Int)))), (2, .val (.v (.pointer (some ⟨g2, 0, none⟩)))), (3, .val (.v (.pointer (some ⟨g3, 0, none⟩))))],
        [.var g3 74 (.tup [.arr 20 b1, .v (.int .i64 a2), .arr 32 b3, .bs b4, .sl 64 (b5.map dSlL)]), .var g2 74 (.tup [.arr 20 a1, .v (.int .i64 a2), .arr 32 a3, .bs a4, .sl 64 (a5.map dSlL)])], []⟩)
      (fun k => a5.length - k.1) ⟨0, by omega, fun j s t h => absurd h (by omega)⟩ ?_ ?_
    · exact (Le.keep (by repeat first | exact trivial | refine ⟨rfl, ?_⟩) (by repeat first | exact List.nil_sublist _ | apply List.Sublist.cons_cons | apply List.Sublist.cons) (by simp))
    rintro ⟨k, hk, hd⟩
    dsimp only at hk hd ⊢
    by_cases hlt : k < a5.length
    · have hy : (a5.map dSlL)[k]? = some (dSlL a5[k]) := by rw [List.getElem?_map, List.getElem?_eq_getElem hlt]; rfl
      have hz : (b5.map dSlL)[k]? = some (dSlL (b5[k]'(by omega))) := by rw [List.getElem?_map, List.getElem?_eq_getElem (by omega)]; rfl
      have hy' : a5[k]? = some a5[k] := List.getElem?_eq_getElem hlt
      have hz' : b5[k]? = some (b5[k]'(by omega)) := List.getElem?_eq_getElem _
      generalize a5[k] = s at hy hy'
      generalize b5[k]'(by omega) = t at hz hz'
      have hb := bin_slot2 s t
      cases hst : sameS s t with
      | true =>
        rw [hst] at hb
        repeat
          (first
           | (apply P_move; (iterate 3 exact rfl)) | (apply P_field; (iterate 6 exact rfl))
           | (apply P_load; exact rfl; (first | exact I0 | exact I1 | exact I2 | exact I3 | exact I4 | exact I5 | exact I6); (iterate 4 exact rfl))
           | (apply P_cmp (b := true); (iterate 2 exact rfl); (focus (first | (simp [cmpI]; done) | (simp [cmpI]; omega))); (iterate 2 exact rfl)) | (apply P_lensl; (iterate 4 exact rfl)) | apply EL.nil
           | ((with_reducible apply EK.then_normal); apply EK.code) | (apply EC.cond_true; exact rfl)
           | (with_reducible first | apply EC.seq | apply EC.region | apply EC.skip | apply EC.label | apply EC.block | apply EC.exit | apply EC.ret | apply EK.in_normal | apply EK.in_same | apply EK.in_ret | apply EK.then_ret | apply EK.then_exit))
        refine EC.draw 11 (by kernel_rfl) ?_
        simp only [List.take_succ_cons, List.take_zero, List.drop_succ_cons, List.drop_zero]
        repeat
          (first
           | (apply H_bin; (iterate 2 exact rfl); exact hb; (iterate 2 exact rfl)) | (apply H_move; (iterate 3 exact rfl)) | (apply H_field; (iterate 6 exact rfl)) | (apply H_loadpd; (iterate 5 exact rfl))
           | (apply H_load; exact rfl; (first | exact I0 | exact I1 | exact I2 | exact I3 | exact I4 | exact I5 | exact I6); (iterate 4 exact rfl))
           | (apply H_index; (iterate 4 exact rfl); (focus (first | exact ⟨by decide, rfl⟩ | (refine ⟨by omega, ?_⟩; rw [Int.toNat_natCast]; assumption))); (iterate 2 exact rfl))
           | ((with_reducible apply EH.nil); exact rfl))
        repeat
          (first
           | (apply P_move; (iterate 3 exact rfl)) | (apply P_assign; (iterate 3 exact rfl)) | (apply P_ar; (iterate 3 exact rfl); (focus omega); (focus omega); (iterate 2 exact rfl)) | apply EL.nil
           | ((with_reducible apply EK.then_normal); apply EK.code) | (apply EC.cond_false; exact rfl)
           | (with_reducible first | apply EC.seq | apply EC.region | apply EC.skip | apply EC.label | apply EC.block | apply EC.exit | apply EC.ret | apply EK.in_normal | apply EK.in_same | apply EK.in_ret | apply EK.then_ret | apply EK.then_exit))
        refine EK.again ⟨k + 1, by omega, fun j s' t' hj h1 h2 => ?_⟩ (by dsimp only; omega) ?_
        · by_cases e : j = k
          · subst e
            rw [hy'] at h1
            rw [hz'] at h2
            cases h1
            cases h2
            exact hst
          · exact hd j s' t' (by omega) h1 h2
        simp only [Int.natCast_add]
        exact (Le.keep (by repeat first | exact trivial | refine ⟨rfl, ?_⟩) (by repeat first | exact List.nil_sublist _ | apply List.Sublist.cons_cons | apply List.Sublist.cons) (by simp))
      | false =>
        rw [hst] at hb
        rw [sameL_bad a5 b5 k s t hy' hz' hst]
        repeat
          (first
           | (apply P_move; (iterate 3 exact rfl)) | (apply P_field; (iterate 6 exact rfl))
           | (apply P_load; exact rfl; (first | exact I0 | exact I1 | exact I2 | exact I3 | exact I4 | exact I5 | exact I6); (iterate 4 exact rfl))
           | (apply P_cmp (b := true); (iterate 2 exact rfl); (focus (first | (simp [cmpI]; done) | (simp [cmpI]; omega))); (iterate 2 exact rfl)) | (apply P_lensl; (iterate 4 exact rfl)) | apply EL.nil
           | ((with_reducible apply EK.then_normal); apply EK.code) | (apply EC.cond_true; exact rfl)
           | (with_reducible first | apply EC.seq | apply EC.region | apply EC.skip | apply EC.label | apply EC.block | apply EC.exit | apply EC.ret | apply EK.in_normal | apply EK.in_same | apply EK.in_ret | apply EK.then_ret | apply EK.then_exit))
        refine EC.draw 11 (by kernel_rfl) ?_
        simp only [List.take_succ_cons, List.take_zero, List.drop_succ_cons, List.drop_zero]
        repeat
          (first
           | (apply H_bin; (iterate 2 exact rfl); exact hb; (iterate 2 exact rfl)) | (apply H_move; (iterate 3 exact rfl)) | (apply H_field; (iterate 6 exact rfl)) | (apply H_loadpd; (iterate 5 exact rfl))
           | (apply H_load; exact rfl; (first | exact I0 | exact I1 | exact I2 | exact I3 | exact I4 | exact I5 | exact I6); (iterate 4 exact rfl))
           | (apply H_index; (iterate 4 exact rfl); (focus (first | exact ⟨by decide, rfl⟩ | (refine ⟨by omega, ?_⟩; rw [Int.toNat_natCast]; assumption))); (iterate 2 exact rfl))
           | ((with_reducible apply EH.nil); exact rfl))
        repeat
          (first
           | (apply P_assign; (iterate 3 exact rfl)) | apply EL.nil | ((with_reducible apply EK.then_normal); apply EK.code) | (apply EC.cond_true; exact rfl)
           | (with_reducible first | apply EC.seq | apply EC.region | apply EC.skip | apply EC.label | apply EC.block | apply EC.exit | apply EC.ret | apply EK.in_normal | apply EK.in_same | apply EK.in_ret | apply EK.then_ret | apply EK.then_exit))
        exact EK.ret1 rfl rfl (by simp)
    · rw [sameL_good a5 b5 e5 fun j s t h1 h2 => hd j s t (by have := (List.getElem?_eq_some_iff.1 h1).1; omega) h1 h2]
      repeat
        (first
         | (apply P_move; (iterate 3 exact rfl)) | (apply P_assign; (iterate 3 exact rfl)) | (apply P_field; (iterate 6 exact rfl))
         | (apply P_load; exact rfl; (first | exact I0 | exact I1 | exact I2 | exact I3 | exact I4 | exact I5 | exact I6); (iterate 4 exact rfl))
         | (apply P_cmp (b := false); (iterate 2 exact rfl); (focus (first | (simp [cmpI]; done) | (simp [cmpI]; omega))); (iterate 2 exact rfl)) | (apply P_lensl; (iterate 4 exact rfl)) | apply EL.nil
         | ((with_reducible apply EK.then_normal); apply EK.code) | (apply EC.cond_false; exact rfl)
         | (with_reducible first | apply EC.seq | apply EC.region | apply EC.skip | apply EC.label | apply EC.block | apply EC.exit | apply EC.ret | apply EK.in_normal | apply EK.in_same | apply EK.in_ret | apply EK.then_ret | apply EK.then_exit))
      exact EK.ret1 rfl rfl (by simp)
theorem sameL_eq : ∀ (l m : List (List UInt8 × List UInt8)), sameL sameS l m = true → l = m
  | [], [], _ => rfl
  | [], _ :: _, h => by cases h
  | _ :: _, [], h => by cases h
  | s :: l, t :: m, h => by
    rw [sameL, Bool.and_eq_true] at h
    have h1 : s = t := by
      have := h.1
      unfold sameS at this
      simp only [Bool.and_eq_true, beq_iff_eq] at this
      exact Prod.ext this.1 this.2
    rw [h1, sameL_eq l m h.2]
theorem sameA_iff (a b : AcL) : sameA a b = true ↔ a = b := by
  constructor
  · intro h
    unfold sameA at h
    simp only [Bool.and_eq_true, beq_iff_eq] at h
    obtain ⟨⟨⟨⟨h1, h2⟩, h3⟩, h4⟩, h5⟩ := h
    have h6 := sameL_eq _ _ h5
    cases a
    cases b
    simp only [AcL.mk.injEq]
    exact ⟨h1, h2, h3, h4, h6⟩
  · rintro rfl
    unfold sameA
    rw [sameL_refl (fun s => by unfold sameS; simp)]
    simp
set_option maxRecDepth 20000 in
set_option maxHeartbeats 8000000 in
theorem rs_get {g N : Nat} {A : As} {os : List Obj} (h : RSt g A N os) (hN : N ≤ 1000000) (a : List UInt8) : FnM 102 [.v (ptr g), .arr 20 a] os (fun r os' => (∃ x : AcL, x.a = a ∧ x.Is (A a) ∧ x.Small N ∧ r = .val (dAcL x)) ∧ os' = os) := by
  obtain ⟨L, k, n, l, rfl, hR, hlN⟩ := h
  have hml : (l.map dAcL).length = l.length := List.length_map _
  refine FnM.walk 34 Tryz.func102 rfl Tryz.ntmps102 (by simp) fun X => ?_
  repeat
    (first
     | (apply P_assign; (iterate 3 exact rfl)) | (apply P_alloc; exact rfl; exact rfl; exact rfl; intro _) | (apply P_box; exact rfl; exact rfl; exact rfl; intro _) | apply EL.nil
     | ((with_reducible apply EK.then_normal); apply EK.code)
     | (with_reducible first | apply EC.seq | apply EC.region | apply EC.skip | apply EC.label | apply EC.block | apply EC.exit | apply EC.ret | apply EK.in_normal | apply EK.in_same | apply EK.in_ret | apply EK.then_ret | apply EK.then_exit))
  rename_i g3 g4
  refine EC.loop (ι := {i : Nat // i ≤ l.length ∧ ∀ j (hj : j < l.length), j < i → l[j].a ≠ a})
    (fun i => ⟨[(5, .val (.v (.int .i64 (i.1 : Int)))), (4, .val (.v (ptr g4))), (3, .val (.v (ptr g3))), (0, .val (.v (ptr g)))], [.var g4 74 (.tup [.arr 20 (List.replicate 20 0), .v (.int .i64 0), .arr 32 zero32, .v nilS, .v nilS]), .var g3 32 (.arr 20 a), rsO g L k n, raA L l], []⟩)
    (fun i => l.length - i.1) ⟨0, Nat.zero_le _, fun j _ h => absurd h (Nat.not_lt_zero _)⟩ ?_ ?_
  · exact (Le.keep (by repeat first | exact trivial | refine ⟨rfl, ?_⟩) (by repeat first | exact List.nil_sublist _ | apply List.Sublist.cons_cons | apply List.Sublist.cons) (by simp))
  rintro ⟨i, hi, hno⟩
  dsimp only at hi hno ⊢
  by_cases hlt : i < l.length
  · have hd : (l.map dAcL)[i]? = some (dAcL l[i]) := by rw [List.getElem?_map, List.getElem?_eq_getElem hlt]; rfl
    have hb := (bin_addr l[i].a a).1
    by_cases he : l[i].a = a
    · rw [show (l[i].a == a) = true by simp [he]] at hb
      have hm := List.getElem_mem hlt
      have his := hR.mem _ hm
      rw [he] at his
      have hbd := hR.bd _ hm
      repeat
        (first
         | (apply P_move; (iterate 3 exact rfl)) | (apply P_field; (iterate 6 exact rfl))
         | (apply P_load; exact rfl; (first | exact I0 | exact I1 | exact I2 | exact I3 | exact I4 | exact I5 | exact I6); (iterate 4 exact rfl))
         | (apply P_cmp (b := true); (iterate 2 exact rfl); (focus (first | (simp [cmpI]; done) | (simp [cmpI]; omega))); (iterate 2 exact rfl))
         | (apply P_lenrow; exact rfl; (first | exact I0 | exact I1 | exact I2 | exact I3 | exact I4 | exact I5 | exact I6); (iterate 3 exact rfl)) | (apply P_nilck; (iterate 3 exact rfl)) | apply EL.nil
         | ((with_reducible apply EK.then_normal); apply EK.code) | (apply EC.cond_true; exact rfl)
         | (with_reducible first | apply EC.seq | apply EC.region | apply EC.skip | apply EC.label | apply EC.block | apply EC.exit | apply EC.ret | apply EK.in_normal | apply EK.in_same | apply EK.in_ret | apply EK.then_ret | apply EK.then_exit))
      refine EC.draw 10 (by kernel_rfl) ?_
      simp only [List.take_succ_cons, List.take_zero, List.drop_succ_cons, List.drop_zero]
      repeat
        (first
         | (apply H_rowload (k := i) (off := 0) (d := dAcL l[i]); exact rfl; exact I3; exact ⟨by simp, hd⟩; (iterate 4 exact rfl)) | (apply H_bin; (iterate 2 exact rfl); exact hb; (iterate 2 exact rfl))
         | (apply H_move; (iterate 3 exact rfl)) | (apply H_field; (iterate 6 exact rfl))
         | (apply H_load; exact rfl; (first | exact I0 | exact I1 | exact I2 | exact I3 | exact I4 | exact I5 | exact I6); (iterate 4 exact rfl)) | (apply H_nilck; (iterate 3 exact rfl))
         | (apply H_rowfield; exact rfl; (first | exact I0 | exact I1 | exact I2 | exact I3 | exact I4 | exact I5 | exact I6); (focus (first | omega | (simp; done) | (simp; omega))); (iterate 5 exact rfl))
         | (apply H_rowidx; exact rfl; (first | exact I0 | exact I1 | exact I2 | exact I3 | exact I4 | exact I5 | exact I6); (iterate 2 exact rfl); (focus (first | assumption | omega | (constructor <;> (first | (simp; done) | (simp; omega))))); (iterate 2 exact rfl))
         | ((with_reducible apply EH.nil); exact rfl))
      repeat
        (first
         | (apply P_rowload (k := i) (off := 0) (d := dAcL l[i]); exact rfl; exact I3; exact ⟨by simp, hd⟩; (iterate 4 exact rfl)) | (apply P_move; (iterate 3 exact rfl)) | (apply P_field; (iterate 6 exact rfl))
         | (apply P_load; exact rfl; (first | exact I0 | exact I1 | exact I2 | exact I3 | exact I4 | exact I5 | exact I6); (iterate 4 exact rfl)) | (apply P_nilck; (iterate 3 exact rfl))
         | (apply P_rowidx; exact rfl; (first | exact I0 | exact I1 | exact I2 | exact I3 | exact I4 | exact I5 | exact I6); (iterate 2 exact rfl); (focus (first | assumption | omega | (constructor <;> (first | (simp; done) | (simp; omega))))); (iterate 2 exact rfl))
         | (apply P_store; exact rfl; (focus (repeat first | exact .z | apply SetAt.s | apply SetAtF.s)); (iterate 4 exact rfl)) | apply EL.nil | ((with_reducible apply EK.then_normal); apply EK.code)
         | (apply EC.cond_true; exact rfl)
         | (with_reducible first | apply EC.seq | apply EC.region | apply EC.skip | apply EC.label | apply EC.block | apply EC.exit | apply EC.ret | apply EK.in_normal | apply EK.in_same | apply EK.in_ret | apply EK.then_ret | apply EK.then_exit))
      exact EK.retMc1s 0 [rsO g L k n, raA L l] rfl rfl rfl rfl (RefineL.refl _ _) (by (repeat first | exact List.nil_sublist _ | apply List.Sublist.cons_cons | apply List.Sublist.cons)) ⟨⟨l[i], he, his, hbd, rfl⟩, rfl⟩
    · rw [show (l[i].a == a) = false by simpa using he] at hb
      repeat
        (first
         | (apply P_move; (iterate 3 exact rfl)) | (apply P_field; (iterate 6 exact rfl))
         | (apply P_load; exact rfl; (first | exact I0 | exact I1 | exact I2 | exact I3 | exact I4 | exact I5 | exact I6); (iterate 4 exact rfl))
         | (apply P_cmp (b := true); (iterate 2 exact rfl); (focus (first | (simp [cmpI]; done) | (simp [cmpI]; omega))); (iterate 2 exact rfl))
         | (apply P_lenrow; exact rfl; (first | exact I0 | exact I1 | exact I2 | exact I3 | exact I4 | exact I5 | exact I6); (iterate 3 exact rfl)) | (apply P_nilck; (iterate 3 exact rfl)) | apply EL.nil
         | ((with_reducible apply EK.then_normal); apply EK.code) | (apply EC.cond_true; exact rfl)
         | (with_reducible first | apply EC.seq | apply EC.region | apply EC.skip | apply EC.label | apply EC.block | apply EC.exit | apply EC.ret | apply EK.in_normal | apply EK.in_same | apply EK.in_ret | apply EK.then_ret | apply EK.then_exit))
      refine EC.draw 10 (by kernel_rfl) ?_
      simp only [List.take_succ_cons, List.take_zero, List.drop_succ_cons, List.drop_zero]
      repeat
        (first
         | (apply H_rowload (k := i) (off := 0) (d := dAcL l[i]); exact rfl; exact I3; exact ⟨by simp, hd⟩; (iterate 4 exact rfl)) | (apply H_bin; (iterate 2 exact rfl); exact hb; (iterate 2 exact rfl))
         | (apply H_move; (iterate 3 exact rfl)) | (apply H_field; (iterate 6 exact rfl))
         | (apply H_load; exact rfl; (first | exact I0 | exact I1 | exact I2 | exact I3 | exact I4 | exact I5 | exact I6); (iterate 4 exact rfl)) | (apply H_nilck; (iterate 3 exact rfl))
         | (apply H_rowfield; exact rfl; (first | exact I0 | exact I1 | exact I2 | exact I3 | exact I4 | exact I5 | exact I6); (focus (first | omega | (simp; done) | (simp; omega))); (iterate 5 exact rfl))
         | (apply H_rowidx; exact rfl; (first | exact I0 | exact I1 | exact I2 | exact I3 | exact I4 | exact I5 | exact I6); (iterate 2 exact rfl); (focus (first | assumption | omega | (constructor <;> (first | (simp; done) | (simp; omega))))); (iterate 2 exact rfl))
         | ((with_reducible apply EH.nil); exact rfl))
      repeat
        (first
         | (apply P_move; (iterate 3 exact rfl)) | (apply P_assign; (iterate 3 exact rfl)) | (apply P_ar; (iterate 3 exact rfl); (focus omega); (focus omega); (iterate 2 exact rfl)) | apply EL.nil
         | ((with_reducible apply EK.then_normal); apply EK.code) | (apply EC.cond_false; exact rfl)
         | (with_reducible first | apply EC.seq | apply EC.region | apply EC.skip | apply EC.label | apply EC.block | apply EC.exit | apply EC.ret | apply EK.in_normal | apply EK.in_same | apply EK.in_ret | apply EK.then_ret | apply EK.then_exit))
      refine EK.again ⟨i + 1, hlt, fun j hj hji => ?_⟩ (by dsimp only; omega) ?_
      · by_cases e : j = i
        · subst e
          exact he
        · exact hno j hj (by omega)
      simp only [Int.natCast_add]
      exact (Le.keep (by repeat first | exact trivial | refine ⟨rfl, ?_⟩) (by repeat first | exact List.nil_sublist _ | apply List.Sublist.cons_cons | apply List.Sublist.cons) (by simp))
  · have hz : A a = Ac.zero := hR.out a fun hm => by
      obtain ⟨x, hx, e⟩ := List.mem_map.1 hm
      obtain ⟨j, hj, rfl⟩ := List.getElem_of_mem hx
      exact hno j hj (by omega) e
    have his := AcL.none_is a
    rw [← hz] at his
    repeat
      (first
       | (apply P_move; (iterate 3 exact rfl)) | (apply P_field; (iterate 6 exact rfl))
       | (apply P_load; exact rfl; (first | exact I0 | exact I1 | exact I2 | exact I3 | exact I4 | exact I5 | exact I6); (iterate 4 exact rfl))
       | (apply P_cmp (b := false); (iterate 2 exact rfl); (focus (first | (simp [cmpI]; done) | (simp [cmpI]; omega))); (iterate 2 exact rfl))
       | (apply P_lenrow; exact rfl; (first | exact I0 | exact I1 | exact I2 | exact I3 | exact I4 | exact I5 | exact I6); (iterate 3 exact rfl)) | (apply P_build; (iterate 7 exact rfl))
       | (apply P_nilck; (iterate 3 exact rfl)) | (apply P_store; exact rfl; (focus (repeat first | exact .z | apply SetAt.s | apply SetAtF.s)); (iterate 4 exact rfl)) | apply EL.nil
       | ((with_reducible apply EK.then_normal); apply EK.code) | (apply EC.cond_false; exact rfl)
       | (with_reducible first | apply EC.seq | apply EC.region | apply EC.skip | apply EC.label | apply EC.block | apply EC.exit | apply EC.ret | apply EK.in_normal | apply EK.in_same | apply EK.in_ret | apply EK.then_ret | apply EK.then_exit))
    refine EK.retMc1s 0 [rsO g L k n, raA L l] rfl rfl rfl rfl ?_ (by (repeat first | exact List.nil_sublist _ | apply List.Sublist.cons_cons | apply List.Sublist.cons)) ⟨⟨_, rfl, his, ⟨Nat.zero_le _, Nat.zero_le _⟩, rfl⟩, rfl⟩
    unfold dAcL AcL.none
    (repeat first | exact RefineL.refl _ _ | exact RL.nil | exact Rf.same | exact Rf.bs0 | exact Rf.sl0 | (apply Rf.fact; (focus (simp; done)); exact rfl) | apply Rf.tup | apply RL.cons)
end E
end Go.Proofs.YtdhicdnmgmkpkaaGreat
/-
  The reference's slots that are not the same; SameChanges of one list.
  Conditions: none.
-/
namespace Go.Proofs.YtdhicdnmgmkpkaaGreat
set_option linter.unusedVariables false
open Go.RowKit Mono Rlp Wd
namespace E
abbrev PrL := List (List UInt8 × List UInt8)
def mgS : PrL → PrL → PrL
  | [], ys => ys
  | x :: xs, [] => (x.1, zero32) :: mgS xs []
  | x :: xs, y :: ys => if x.1 < y.1 then (x.1, zero32) :: mgS xs (y :: ys) else if y.1 < x.1 then y :: mgS (x :: xs) ys else if x.2 ≠ y.2 then y :: mgS xs ys else mgS xs ys
termination_by xs ys => xs.length + ys.length
def lkS : PrL → List UInt8 → List UInt8
  | [], _ => zero32
  | p :: l, k => if p.1 = k then p.2 else lkS l k
theorem lkS_out (k : List UInt8) : ∀ l : PrL, (∀ p ∈ l, p.1 ≠ k) → lkS l k = zero32
  | [], _ => rfl
  | p :: l, h => by
    rw [lkS, if_neg (h p List.mem_cons_self), lkS_out k l fun q hq => h q (List.mem_cons_of_mem _ hq)]
theorem lkS_key {k : List UInt8} {l : PrL} (h : lkS l k ≠ zero32) : ∃ p ∈ l, p.1 = k := Classical.byContradiction fun hn => h (lkS_out k l fun p hp e => hn ⟨p, hp, e⟩)
structure OkS (l : PrL) : Prop where
  ord : l.Pairwise fun p q => p.1 < q.1
  nz : ∀ p ∈ l, p.2 ≠ zero32
theorem OkS.tail {p : List UInt8 × List UInt8} {l : PrL} (h : OkS (p :: l)) : OkS l ∧ ∀ q ∈ l, p.1 < q.1 := ⟨⟨(List.pairwise_cons.1 h.ord).2, fun q hq => h.nz q (List.mem_cons_of_mem _ hq)⟩, (List.pairwise_cons.1 h.ord).1⟩
theorem OkS.mem {l : PrL} (h : OkS l) (k v : List UInt8) : (k, v) ∈ l ↔ v ≠ zero32 ∧ v = lkS l k := by
  induction l with
  | nil => simp [lkS]
  | cons p l ih =>
    obtain ⟨h1, h2⟩ := h.tail
    rw [List.mem_cons, lkS]
    by_cases e : p.1 = k
    · rw [if_pos e]
      constructor
      · rintro (h | h)
        · rw [← h]
          exact ⟨by have := h ▸ e; exact (show v ≠ zero32 by rw [show v = p.2 by rw [← h]]; exact ‹OkS (p :: l)›.nz p List.mem_cons_self), rfl⟩
        · have := h2 _ h
          rw [e] at this
          exact absurd this (List.lt_irrefl _)
      · rintro ⟨_, h⟩
        exact .inl (Prod.ext e.symm h)
    · rw [if_neg e, ← ih h1]
      exact ⟨fun h => h.resolve_left fun h => e (by rw [← h]), .inr⟩
structure SpS (xs ys R : PrL) : Prop where
  ord : R.Pairwise fun p q => p.1 < q.1
  mem : ∀ k v, (k, v) ∈ R ↔ lkS xs k ≠ lkS ys k ∧ v = lkS ys k
theorem SpS.step {xs ys xs' ys' R : PrL} {c u w : List UInt8} (h : SpS xs' ys' R) (hx : ∀ p ∈ xs', c < p.1) (hy : ∀ p ∈ ys', c < p.1) (ex : ∀ k, lkS xs k = if c = k then u else lkS xs' k) (ey : ∀ k, lkS ys k = if c = k then w else lkS ys' k) : SpS xs ys (if u ≠ w then (c, w) :: R else R) := by
  have hlt : ∀ p ∈ R, c < p.1 := fun p hp => by
    obtain ⟨h1, _⟩ := (h.mem p.1 p.2).1 hp
    by_cases h2 : lkS xs' p.1 = zero32
    · obtain ⟨q, hq, e⟩ := lkS_key (k := p.1) (l := ys') (fun e => h1 (h2.trans e.symm))
      exact e ▸ hy q hq
    · obtain ⟨q, hq, e⟩ := lkS_key h2
      exact e ▸ hx q hq
  have hc : ∀ v, (c, v) ∉ R := fun v hv => List.lt_irrefl _ (hlt _ hv)
  refine ⟨?_, fun k v => ?_⟩
  · split
    · exact List.pairwise_cons.2 ⟨fun p hp => hlt p hp, h.ord⟩
    · exact h.ord
  · rw [ex, ey]
    by_cases e : c = k
    · subst e
      rw [if_pos rfl, if_pos rfl]
      by_cases hu : u = w
      · rw [if_neg (by simpa using hu)]
        exact ⟨fun hm => absurd hm (hc v), fun hm => absurd hu hm.1⟩
      · rw [if_pos hu, List.mem_cons]
        constructor
        · rintro (hm | hm)
          · cases hm
            exact ⟨hu, rfl⟩
          · exact absurd hm (hc v)
        · rintro ⟨_, rfl⟩
          exact .inl rfl
    · rw [if_neg e, if_neg e, ← h.mem k v]
      split
      · rw [List.mem_cons]
        exact ⟨fun hm => hm.resolve_left fun hm => e (by cases hm; rfl), .inr⟩
      · exact Iff.rfl
theorem lk_head (p : List UInt8 × List UInt8) (l : PrL) (k : List UInt8) : lkS (p :: l) k = if p.1 = k then p.2 else lkS l k := rfl
theorem lk_ahead {c : List UInt8} {l : PrL} (h : ∀ p ∈ l, c < p.1) (k : List UInt8) : lkS l k = if c = k then zero32 else lkS l k := by
  split
  · rename_i e
    subst e
    exact lkS_out c l fun p hp e => List.lt_irrefl _ (e ▸ h p hp : c < c)
  · rfl
theorem mgS_spec : ∀ (n : Nat) (xs ys : PrL), xs.length + ys.length ≤ n → OkS xs → OkS ys → SpS xs ys (mgS xs ys) := fun n => by
  induction n with
  | zero =>
    intro xs ys hn hx hy
    obtain rfl : xs = [] := List.eq_nil_of_length_eq_zero (by omega)
    obtain rfl : ys = [] := List.eq_nil_of_length_eq_zero (by omega)
    rw [mgS]
    exact ⟨.nil, fun k v => by simp [lkS]⟩
  | succ n ih =>
    intro xs ys hn hx hy
    match xs, ys with
    | [], ys =>
      rw [mgS]
      refine ⟨hy.ord, fun k v => (hy.mem k v).trans ?_⟩
      show v ≠ zero32 ∧ v = lkS ys k ↔ zero32 ≠ lkS ys k ∧ v = lkS ys k
      constructor
      · rintro ⟨h1, h2⟩
        exact ⟨fun e => h1 (h2.trans e.symm), h2⟩
      · rintro ⟨h1, h2⟩
        exact ⟨fun e => h1 (e.symm.trans h2), h2⟩
    | x :: xs, [] =>
      obtain ⟨h1, h2⟩ := hx.tail
      rw [mgS]
      have := (ih xs [] (by simp at hn ⊢; omega) h1 hy).step (xs := x :: xs) (ys := []) (c := x.1) (u := x.2) (w := zero32) h2 (fun p hp => by simp at hp) (lk_head x xs) (lk_ahead fun p hp => by simp at hp)
      rw [if_pos (hx.nz x List.mem_cons_self)] at this
      exact this
    | x :: xs, y :: ys =>
      obtain ⟨h1, h2⟩ := hx.tail
      obtain ⟨h3, h4⟩ := hy.tail
      rw [mgS]
      by_cases hlt : x.1 < y.1
      · rw [if_pos hlt]
        have ha : ∀ p ∈ y :: ys, x.1 < p.1 := fun p hp => by
          rcases List.mem_cons.1 hp with rfl | hp
          · exact hlt
          · exact List.lt_trans hlt (h4 p hp)
        have := (ih xs (y :: ys) (by simp at hn ⊢; omega) h1 hy).step (xs := x :: xs) (ys := y :: ys) (c := x.1) (u := x.2) (w := zero32) h2 ha (lk_head x xs) (lk_ahead ha)
        rw [if_pos (hx.nz x List.mem_cons_self)] at this
        exact this
      · rw [if_neg hlt]
        by_cases hgt : y.1 < x.1
        · rw [if_pos hgt]
          have ha : ∀ p ∈ x :: xs, y.1 < p.1 := fun p hp => by
            rcases List.mem_cons.1 hp with rfl | hp
            · exact hgt
            · exact List.lt_trans hgt (h2 p hp)
          have := (ih (x :: xs) ys (by simp at hn ⊢; omega) hx h3).step (xs := x :: xs) (ys := y :: ys) (c := y.1) (u := zero32) (w := y.2) ha h4 (lk_ahead ha) (lk_head y ys)
          rw [if_pos (Ne.symm (hy.nz y List.mem_cons_self))] at this
          exact this
        · rw [if_neg hgt]
          have he : x.1 = y.1 := List.le_antisymm (List.not_lt.1 hgt) (List.not_lt.1 hlt)
          exact (ih xs ys (by simp at hn ⊢; omega) h1 h3).step (xs := x :: xs) (ys := y :: ys) (c := y.1) (u := x.2) (w := y.2) (he ▸ h2) h4 (he ▸ lk_head x xs) (lk_head y ys)
theorem AcL.Is.okS {x : AcL} {y : Ac} (h : x.Is y) : OkS x.sl := ⟨h.ord, fun p hp => (h.val p hp).2⟩
theorem AcL.Is.lk {x : AcL} {y : Ac} (h : x.Is y) (k : List UInt8) : lkS x.sl k = y.sl k := by
  by_cases hk : y.sl k = zero32
  · rw [hk]
    refine lkS_out k _ fun p hp e => ?_
    obtain ⟨h1, h2⟩ := h.val p hp
    rw [h1, e] at h2
    exact h2 hk
  · obtain ⟨p, hp, rfl⟩ := h.all k hk
    have := ((h.okS.mem p.1 p.2).1 hp).2
    rw [← this, (h.val p hp).1]
theorem mg_diff {a b : AcL} {x y : Ac} (ha : a.Is x) (hb : b.Is y) : (mgS a.sl b.sl).Pairwise (fun p q => p.1 < q.1) ∧ ∀ k v, (k, v) ∈ mgS a.sl b.sl ↔ x.sl k ≠ y.sl k ∧ v = y.sl k := by
  have h := mgS_spec _ a.sl b.sl (Nat.le_refl _) ha.okS hb.okS
  exact ⟨h.ord, fun k v => by rw [h.mem, ha.lk, hb.lk]⟩
theorem AcL.Is.ac_eq {a : AcL} {x y : Ac} (h : a.Is x) (k : a.Is y) : x = y := by
  have h1 : x.sl = y.sl := by
    funext q
    rw [← h.lk, ← k.lk]
  have e1 := h.n.symm.trans k.n
  have e2 := h.w.symm.trans k.w
  have e3 := h.cd.symm.trans k.cd
  cases x
  cases y
  simp only [Ac.mk.injEq]
  exact ⟨e1, e2, e3, h1⟩
theorem mg_nil (xs ys : PrL) (h1 : xs = []) (h2 : ys = []) : mgS xs ys = [] := by subst h1 h2; rw [mgS]
theorem mg_x {xs ys : PrL} {i k : Nat} (hi : i < xs.length) (h : k = ys.length ∨ ∃ hk : k < ys.length, xs[i].1 < ys[k].1) : mgS (xs.drop i) (ys.drop k) = (xs[i].1, zero32) :: mgS (xs.drop (i + 1)) (ys.drop k) := by
  rw [List.drop_eq_getElem_cons hi]
  rcases h with rfl | ⟨hk, h⟩
  · rw [List.drop_length, mgS]
  · rw [List.drop_eq_getElem_cons hk, mgS, if_pos h]
theorem mg_y {xs ys : PrL} {i k : Nat} (hk : k < ys.length) (h : i = xs.length ∨ ∃ hi : i < xs.length, ¬ xs[i].1 < ys[k].1 ∧ ys[k].1 < xs[i].1) : mgS (xs.drop i) (ys.drop k) = ys[k] :: mgS (xs.drop i) (ys.drop (k + 1)) := by
  rcases h with rfl | ⟨hi, h1, h2⟩
  · rw [List.drop_length, mgS, mgS, List.drop_eq_getElem_cons hk]
  · rw [List.drop_eq_getElem_cons hi, List.drop_eq_getElem_cons hk, mgS, if_neg h1, if_pos h2]
theorem mg_e {xs ys : PrL} {i k : Nat} (hi : i < xs.length) (hk : k < ys.length) (h1 : ¬ xs[i].1 < ys[k].1) (h2 : ¬ ys[k].1 < xs[i].1) : mgS (xs.drop i) (ys.drop k) = (if xs[i].2 ≠ ys[k].2 then [ys[k]] else []) ++ mgS (xs.drop (i + 1)) (ys.drop (k + 1)) := by
  rw [List.drop_eq_getElem_cons hi, List.drop_eq_getElem_cons hk, mgS, if_neg h1, if_neg h2]
  split <;> rfl
end E
end Go.Proofs.YtdhicdnmgmkpkaaGreat
