/-
  Merged (wip/tools/merge.py): SD1.
  Conditions: none.
-/
import Derived.Test.YtmlajcbabimkjaaZO23
import Derived.Test.YtmlajcbabimkjaaZO21
/-
  The Seen: add.
  Conditions: none.
-/
namespace Go.Proofs.Ytmlajcbabimkjaa
set_option linter.unusedVariables false
open Go.RowKit Mono Rlp
namespace E
def Srt (S : List Pr) : Prop := S.Pairwise fun a b => Op.bytesLess a.1 b.1 = true
def okN (x : Pr) : List Pr → Bool
  | [] => true
  | y :: l => if Op.bytesLess y.1 x.1 then okN x l else if y.1 == x.1 then y.2 == x.2 else true
theorem putN_at (x : Pr) : ∀ (S : List Pr) (k : Nat), k ≤ S.length → (∀ j, (h : j < S.length) → j < k → Op.bytesLess S[j].1 x.1 = true) → (∀ h : k < S.length, Op.bytesLess S[k].1 x.1 = false) →
    putN x S = S.take k ++ (match S.drop k with | [] => [x] | y :: l => if y.1 == x.1 then y :: l else x :: y :: l) ∧ okN x S = (match S.drop k with | [] => true | y :: _ => if y.1 == x.1 then y.2 == x.2 else true)
  | [], k, _, _, _ => by simp [putN, okN]
  | y :: S, 0, _, _, h2 => by
    have := h2 (by simp)
    simp only [List.getElem_cons_zero] at this
    rw [putN, okN, this, if_neg (show ¬ (false = true) from Bool.false_ne_true), if_neg (show ¬ (false = true) from Bool.false_ne_true)]
    simp
  | y :: S, k + 1, hk, h1, h2 => by
    have h0 := h1 0 (by simp) (by omega)
    simp only [List.getElem_cons_zero] at h0
    obtain ⟨e1, e2⟩ := putN_at x S k (by simpa using hk) (fun j h hj => by
      have := h1 (j + 1) (by simpa using h) (by omega)
      simpa using this) (fun h => by
      have := h2 (by simpa using h)
      simpa using this)
    rw [putN, okN, h0, if_pos rfl, if_pos rfl, e1, e2]
    simp
theorem putN_mem (x : Pr) : ∀ (S : List Pr) (y : Pr), y ∈ putN x S → y = x ∨ y ∈ S
  | [], y, h => .inl (by simpa [putN] using h)
  | z :: S, y, h => by
    rw [putN] at h
    split at h
    · rcases List.mem_cons.1 h with rfl | h
      · exact .inr List.mem_cons_self
      · rcases putN_mem x S y h with h | h
        · exact .inl h
        · exact .inr (List.mem_cons_of_mem _ h)
    · split at h
      · exact .inr h
      · rcases List.mem_cons.1 h with rfl | h
        · exact .inl rfl
        · exact .inr h
theorem putN_sub (x : Pr) : ∀ (S : List Pr) (y : Pr), y ∈ S → y ∈ putN x S
  | [], y, h => by cases h
  | z :: S, y, h => by
    rw [putN]
    split
    · rcases List.mem_cons.1 h with rfl | h
      · exact List.mem_cons_self
      · exact List.mem_cons_of_mem _ (putN_sub x S y h)
    · split
      · exact h
      · exact List.mem_cons_of_mem _ h
theorem okN_in (x : Pr) : ∀ (S : List Pr), okN x S = true → x ∈ putN x S
  | [], _ => by simp [putN]
  | z :: S, h => by
    rw [okN] at h
    rw [putN]
    split
    · rename_i h1
      rw [if_pos h1] at h
      exact List.mem_cons_of_mem _ (okN_in x S h)
    · rename_i h1
      rw [if_neg h1] at h
      split
      · rename_i h2
        rw [if_pos h2] at h
        have : z = x := Prod.ext (by simpa using h2) (by simpa using h)
        rw [this]
        exact List.mem_cons_self
      · exact List.mem_cons_self
theorem bl_trans {a b c : List UInt8} (h1 : Op.bytesLess a b = true) (h2 : Op.bytesLess b c = true) : Op.bytesLess a c = true := by
  rw [bl_iff] at *
  simp only [decide_eq_true_eq] at *
  exact List.lt_trans h1 h2
theorem bl_tri {a b : List UInt8} (h1 : Op.bytesLess a b = false) (h2 : (a == b) = false) : Op.bytesLess b a = true := by
  rw [bl_iff] at *
  simp only [decide_eq_true_eq, decide_eq_false_iff_not] at *
  rcases List.le_total a b with h | h
  · exact absurd (List.le_antisymm h (List.not_lt.1 h1)) (by simpa using h2)
  · exact Classical.byContradiction fun hn => absurd (List.le_antisymm (List.not_lt.1 hn) h) (by simpa using h2)
theorem putN_srt (x : Pr) : ∀ (S : List Pr), Srt S → Srt (putN x S)
  | [], _ => by unfold Srt; simp [putN]
  | z :: S, h => by
    obtain ⟨h1, h2⟩ := List.pairwise_cons.1 h
    rw [putN]
    split
    · rename_i hz
      refine List.pairwise_cons.2 ⟨fun y hy => ?_, putN_srt x S h2⟩
      rcases putN_mem x S y hy with rfl | hy
      · exact hz
      · exact h1 y hy
    · rename_i hz
      split
      · exact h
      · rename_i hq
        refine List.pairwise_cons.2 ⟨fun y hy => ?_, h⟩
        have hxz := bl_tri (by simpa using hz) (by simpa using hq)
        rcases List.mem_cons.1 hy with rfl | hy
        · exact hxz
        · exact bl_trans hxz (h1 y hy)
theorem srt_lt {S : List Pr} (h : Srt S) {i j : Nat} (hi : i < S.length) (hj : j < S.length) (hij : i < j) : Op.bytesLess S[i].1 S[j].1 = true := List.pairwise_iff_getElem.1 h i j hi hj hij
theorem bin_quo2 (a : Nat) (h : a < 9223372036854775808) : Bin .quo 3 (.v (.int .i64 (a : Int))) (.v (.int .i64 2)) (.int .i64 ((a / 2 : Nat) : Int)) := bin_of rfl fun w => by
  have h2 : ((a : Int).tdiv 2) = ((a / 2 : Nat) : Int) := by
    rw [Int.tdiv_eq_ediv_of_nonneg (by omega)]
    omega
  have h3 : IntKind.i64.wrap ((a / 2 : Nat) : Int) = ((a / 2 : Nat) : Int) := IntWalk.i64_in _ ⟨by omega, by omega⟩
  simp only [binOp, Op.intDiv]
  rw [if_neg (by decide), h2]
  simp only [h3]
  rfl
theorem shift_set (S : List Pr) (x : Nat) (hx : x ≤ S.length) (dz d : D) : (((S.map dNd ++ [dz]).take (x + 1)) ++ ((S.map dNd ++ [dz]).drop x).take (S.length + 1 - (x + 1))).set x d = (S.take x).map dNd ++ d :: (S.drop x).map dNd := by
  have hml : (S.map dNd).length = S.length := List.length_map _
  have h1 : ((S.map dNd ++ [dz]).drop x).take (S.length + 1 - (x + 1)) = (S.drop x).map dNd := by
    rw [List.drop_append_of_le_length (by omega), List.take_left' (by rw [List.length_drop]; omega), List.map_drop]
  have h2 : ∃ e, (S.map dNd ++ [dz]).take (x + 1) = (S.take x).map dNd ++ [e] := by
    have hlt : x < (S.map dNd ++ [dz]).length := by rw [List.length_append, hml]; simp; omega
    refine ⟨(S.map dNd ++ [dz])[x], ?_⟩
    rw [List.take_succ_eq_append_getElem hlt, List.take_append_of_le_length (by omega), List.map_take]
  obtain ⟨e, h2⟩ := h2
  have hlx : ((S.take x).map dNd).length = x := by rw [List.length_map, List.length_take]; omega
  rw [h1, h2, List.append_assoc, List.set_append_right _ _ (by omega), hlx, Nat.sub_self]
  rfl
abbrev sdO (g : Nat) (v : Value) : Obj := .var g 79 (.tup [.v v])
abbrev sdR (v : Value) (S : List Pr) : Obj := .row v 141 33 (S.map dNd)
set_option maxRecDepth 20000 in
set_option maxHeartbeats 16000000 in
theorem sd_add (g : Nat) (v : Value) (S : List Pr) (h b : List UInt8) (hs : Srt S) (hl : S.length ≤ 1000000000) (hb : b.length ≤ 140737488355328) : FnM 83 [.v (ptr g), .arr 32 h, .bs b] [sdO g v, sdR v S] (fun r os' => ∃ v', r = .val (.v (.bool (okN (h, b) S))) ∧ os' = [sdO g v', sdR v' (putN (h, b) S)]) := by
  have hml : (S.map dNd).length = S.length := List.length_map _
  refine FnM.walk 100 Try.func83 rfl Try.ntmps83 (by simp) fun X => ?_
  repeat
    (first
     | (apply P_move; (iterate 3 exact rfl)) | (apply P_assign; (iterate 3 exact rfl)) | (apply P_field; (iterate 6 exact rfl))
     | (apply P_load; exact rfl; (first | exact I0 | exact I1 | exact I2 | exact I3 | exact I4 | exact I5 | exact I6); (iterate 4 exact rfl))
     | (apply P_lenrow; exact rfl; (first | exact I0 | exact I1 | exact I2 | exact I3 | exact I4 | exact I5 | exact I6); (iterate 3 exact rfl)) | (apply P_nilck; (iterate 3 exact rfl))
     | (apply P_box; exact rfl; exact rfl; exact rfl; intro _) | apply EL.nil | ((with_reducible apply EK.then_normal); apply EK.code)
     | (with_reducible first | apply EC.seq | apply EC.region | apply EC.skip | apply EC.label | apply EC.block | apply EC.exit | apply EC.ret | apply EK.in_normal | apply EK.in_same | apply EK.in_ret | apply EK.then_ret | apply EK.then_exit))
  rename_i g4
  refine EC.loop (ι := {p : Nat × Nat // p.1 ≤ p.2 ∧ p.2 ≤ S.length ∧ (∀ j, (hj : j < S.length) → j < p.1 → Op.bytesLess S[j].1 h = true) ∧ (∀ j, (hj : j < S.length) → p.2 ≤ j → Op.bytesLess S[j].1 h = false)})
    (fun p => ⟨[(7, .val (.v (.int .i64 (p.1.1 : Int)))), (8, .val (.v (.int .i64 (p.1.2 : Int)))), (0, .val (.v (ptr g))), (2, .val (.bs b)), (4, .val (.v (.pointer (some ⟨g4, 0, none⟩))))], [.var g4 32 (.arr 32 h), sdO g v, sdR v S], []⟩)
    (fun p => p.1.2 - p.1.1) ⟨(0, S.length), Nat.zero_le _, Nat.le_refl _, fun j _ hj => absurd hj (Nat.not_lt_zero _), fun j hj h1 => by dsimp only at h1; omega⟩ ?_ ?_
  · simp only [hml]
    exact (Le.keep (by repeat first | exact trivial | refine ⟨rfl, ?_⟩) (by repeat first | exact List.nil_sublist _ | apply List.Sublist.cons_cons | apply List.Sublist.cons) (by simp))
  rintro ⟨⟨x, y⟩, hxy, hy, hlo, hhi⟩
  dsimp only at hxy hy hlo hhi ⊢
  by_cases hlt : x < y
  · have hq := bin_quo2 (x + y) (by omega)
    obtain ⟨m, hm⟩ : ∃ m, (x + y) / 2 = m := ⟨_, rfl⟩
    rw [hm, Int.natCast_add] at hq
    have hmS : m < S.length := by omega
    have hd : (S.map dNd)[m]? = some (dNd S[m]) := by rw [List.getElem?_map, List.getElem?_eq_getElem hmS]; rfl
    have hL := f_rLessB S[m].1 h
    cases hbl : Op.bytesLess S[m].1 h with
    | true =>
      rw [hbl] at hL
      repeat
        (first
         | (apply P_bin; (iterate 2 exact rfl); exact hq; (iterate 2 exact rfl)) | (apply P_move; (iterate 3 exact rfl)) | (apply P_assign; (iterate 3 exact rfl))
         | (apply P_cmp (b := true); (iterate 2 exact rfl); (focus (first | (simp [cmpI]; done) | (simp [cmpI]; omega))); (iterate 2 exact rfl))
         | (apply P_ar; (iterate 3 exact rfl); (focus omega); (focus omega); (iterate 2 exact rfl)) | apply EL.nil | ((with_reducible apply EK.then_normal); apply EK.code) | (apply EC.cond_true; exact rfl)
         | (with_reducible first | apply EC.seq | apply EC.region | apply EC.skip | apply EC.label | apply EC.block | apply EC.exit | apply EC.ret | apply EK.in_normal | apply EK.in_same | apply EK.in_ret | apply EK.then_ret | apply EK.then_exit))
      refine EC.draw 10 (by kernel_rfl) ?_
      simp only [List.take_succ_cons, List.take_zero, List.drop_succ_cons, List.drop_zero]
      repeat
        (first
         | (apply H_call (hL); exact rfl; (focus (repeat first | exact RefineL.refl _ _ | exact RL.nil | exact Rf.same | exact Rf.bs0 | exact Rf.sl0 | (apply Rf.fact; (focus (simp; done)); exact rfl) | apply Rf.tup | apply RL.cons)); (focus (intro _ _; simp [go_sem]; done)); (iterate 2 exact rfl))
         | (apply H_rowload (k := m) (off := 0) (d := dNd S[m]) (d' := .arr 32 S[m].1); exact rfl; (first | exact I0 | exact I1 | exact I2); exact ⟨by simp, hd⟩; (iterate 4 exact rfl))
         | (apply H_move; (iterate 3 exact rfl)) | (apply H_field; (iterate 6 exact rfl))
         | (apply H_load; exact rfl; (first | exact I0 | exact I1 | exact I2 | exact I3 | exact I4 | exact I5 | exact I6); (iterate 4 exact rfl)) | (apply H_nilck; (iterate 3 exact rfl))
         | (apply H_rowfield; exact rfl; (first | exact I0 | exact I1 | exact I2 | exact I3 | exact I4 | exact I5 | exact I6); (focus (first | omega | (simp; done) | (simp; omega))); (iterate 5 exact rfl))
         | (apply H_rowidx; exact rfl; (first | exact I0 | exact I1 | exact I2 | exact I3 | exact I4 | exact I5 | exact I6); (iterate 2 exact rfl); (focus (first | assumption | omega | (constructor <;> (first | (simp; done) | (simp; omega))))); (iterate 2 exact rfl))
         | ((with_reducible apply EH.nil); exact rfl))
      repeat
        (first
         | (apply P_move; (iterate 3 exact rfl)) | (apply P_assign; (iterate 3 exact rfl)) | (apply P_ar; (iterate 3 exact rfl); (focus omega); (focus omega); (iterate 2 exact rfl)) | apply EL.nil
         | ((with_reducible apply EK.then_normal); apply EK.code) | (apply EC.cond_true; exact rfl)
         | (with_reducible first | apply EC.seq | apply EC.region | apply EC.skip | apply EC.label | apply EC.block | apply EC.exit | apply EC.ret | apply EK.in_normal | apply EK.in_same | apply EK.in_ret | apply EK.then_ret | apply EK.then_exit))
      refine EK.again ⟨(m + 1, y), by dsimp only; omega, hy, fun j hj h1 => ?_, hhi⟩ (by dsimp only; omega) ?_
      · dsimp only at h1
        rcases Nat.lt_or_ge j m with h2 | h2
        · exact bl_trans (srt_lt hs hj hmS h2) hbl
        · obtain rfl : j = m := by omega
          exact hbl
      · simp only [Int.natCast_add]
        exact (Le.keep (by repeat first | exact trivial | refine ⟨rfl, ?_⟩) (by repeat first | exact List.nil_sublist _ | apply List.Sublist.cons_cons | apply List.Sublist.cons) (by simp))
    | false =>
      rw [hbl] at hL
      repeat
        (first
         | (apply P_bin; (iterate 2 exact rfl); exact hq; (iterate 2 exact rfl)) | (apply P_move; (iterate 3 exact rfl)) | (apply P_assign; (iterate 3 exact rfl))
         | (apply P_cmp (b := true); (iterate 2 exact rfl); (focus (first | (simp [cmpI]; done) | (simp [cmpI]; omega))); (iterate 2 exact rfl))
         | (apply P_ar; (iterate 3 exact rfl); (focus omega); (focus omega); (iterate 2 exact rfl)) | apply EL.nil | ((with_reducible apply EK.then_normal); apply EK.code) | (apply EC.cond_true; exact rfl)
         | (with_reducible first | apply EC.seq | apply EC.region | apply EC.skip | apply EC.label | apply EC.block | apply EC.exit | apply EC.ret | apply EK.in_normal | apply EK.in_same | apply EK.in_ret | apply EK.then_ret | apply EK.then_exit))
      refine EC.draw 10 (by kernel_rfl) ?_
      simp only [List.take_succ_cons, List.take_zero, List.drop_succ_cons, List.drop_zero]
      repeat
        (first
         | (apply H_call (hL); exact rfl; (focus (repeat first | exact RefineL.refl _ _ | exact RL.nil | exact Rf.same | exact Rf.bs0 | exact Rf.sl0 | (apply Rf.fact; (focus (simp; done)); exact rfl) | apply Rf.tup | apply RL.cons)); (focus (intro _ _; simp [go_sem]; done)); (iterate 2 exact rfl))
         | (apply H_rowload (k := m) (off := 0) (d := dNd S[m]) (d' := .arr 32 S[m].1); exact rfl; (first | exact I0 | exact I1 | exact I2); exact ⟨by simp, hd⟩; (iterate 4 exact rfl))
         | (apply H_move; (iterate 3 exact rfl)) | (apply H_field; (iterate 6 exact rfl))
         | (apply H_load; exact rfl; (first | exact I0 | exact I1 | exact I2 | exact I3 | exact I4 | exact I5 | exact I6); (iterate 4 exact rfl)) | (apply H_nilck; (iterate 3 exact rfl))
         | (apply H_rowfield; exact rfl; (first | exact I0 | exact I1 | exact I2 | exact I3 | exact I4 | exact I5 | exact I6); (focus (first | omega | (simp; done) | (simp; omega))); (iterate 5 exact rfl))
         | (apply H_rowidx; exact rfl; (first | exact I0 | exact I1 | exact I2 | exact I3 | exact I4 | exact I5 | exact I6); (iterate 2 exact rfl); (focus (first | assumption | omega | (constructor <;> (first | (simp; done) | (simp; omega))))); (iterate 2 exact rfl))
         | ((with_reducible apply EH.nil); exact rfl))
      repeat
        (first
         | (apply P_move; (iterate 3 exact rfl)) | (apply P_assign; (iterate 3 exact rfl)) | apply EL.nil | ((with_reducible apply EK.then_normal); apply EK.code) | (apply EC.cond_false; exact rfl)
         | (with_reducible first | apply EC.seq | apply EC.region | apply EC.skip | apply EC.label | apply EC.block | apply EC.exit | apply EC.ret | apply EK.in_normal | apply EK.in_same | apply EK.in_ret | apply EK.then_ret | apply EK.then_exit))
      refine EK.again ⟨(x, m), by dsimp only; omega, by dsimp only; omega, hlo, fun j hj h1 => ?_⟩ (by dsimp only; omega) ?_
      · dsimp only at h1
        rcases Nat.lt_or_ge m j with h2 | h2
        · cases hc : Op.bytesLess S[j].1 h with
          | false => rfl
          | true => exact absurd (bl_trans (srt_lt hs hmS hj h2) hc) (by rw [hbl]; decide)
        · obtain rfl : j = m := by omega
          exact hbl
      · exact (Le.keep (by repeat first | exact trivial | refine ⟨rfl, ?_⟩) (by repeat first | exact List.nil_sublist _ | apply List.Sublist.cons_cons | apply List.Sublist.cons) (by simp))
  · obtain rfl : x = y := by omega
    obtain ⟨hpN, hoN⟩ := putN_at (h, b) S x hy (fun j hj h1 => hlo j hj h1) (fun hj => hhi x hj (Nat.le_refl _))
    by_cases hxl : x < S.length
    · have hd : (S.map dNd)[x]? = some (dNd S[x]) := by rw [List.getElem?_map, List.getElem?_eq_getElem hxl]; rfl
      rw [List.drop_eq_getElem_cons hxl] at hpN hoN
      have hw := (bin_word S[x].1 h).1
      dsimp only at hpN hoN
      cases hq : (S[x].1 == h) with
      | true =>
        rw [hq] at hw hpN hoN
        rw [if_pos rfl, ← List.drop_eq_getElem_cons hxl, List.take_append_drop] at hpN
        rw [if_pos rfl] at hoN
        have hbs := (bin_string S[x].2 b).1
        rw [hpN, hoN]
        repeat
          (first
           | (apply P_move; (iterate 3 exact rfl)) | (apply P_cmp (b := false); (iterate 2 exact rfl); (focus (first | (simp [cmpI]; done) | (simp [cmpI]; omega))); (iterate 2 exact rfl)) | apply EL.nil
           | ((with_reducible apply EK.then_normal); apply EK.code) | (apply EC.cond_false; exact rfl)
           | (with_reducible first | apply EC.seq | apply EC.region | apply EC.skip | apply EC.label | apply EC.block | apply EC.exit | apply EC.ret | apply EK.in_normal | apply EK.in_same | apply EK.in_ret | apply EK.then_ret | apply EK.then_exit))
        refine EC.draw 19 (by kernel_rfl) ?_
        simp only [List.take_succ_cons, List.take_zero, List.drop_succ_cons, List.drop_zero]
        repeat
          (first
           | (apply H_bin; (iterate 2 exact rfl); exact hw; (iterate 2 exact rfl))
           | (apply H_rowload (k := x) (off := 0) (d := dNd S[x]) (d' := .arr 32 S[x].1); exact rfl; (first | exact I0 | exact I1 | exact I2); exact ⟨by simp, hd⟩; (iterate 4 exact rfl))
           | (apply H_move; (iterate 3 exact rfl)) | (apply H_field; (iterate 6 exact rfl)) | (apply H_pick; (iterate 4 exact rfl))
           | (apply H_load; exact rfl; (first | exact I0 | exact I1 | exact I2 | exact I3 | exact I4 | exact I5 | exact I6); (iterate 4 exact rfl))
           | (apply H_cmp (b := true); (iterate 2 exact rfl); (focus (first | (simp [cmpI]; done) | (simp [cmpI]; omega))); (iterate 2 exact rfl))
           | (apply H_lenrow; exact rfl; (first | exact I0 | exact I1 | exact I2 | exact I3 | exact I4 | exact I5 | exact I6); (iterate 3 exact rfl)) | (apply H_nilck; (iterate 3 exact rfl))
           | (apply H_rowfield; exact rfl; (first | exact I0 | exact I1 | exact I2 | exact I3 | exact I4 | exact I5 | exact I6); (focus (first | omega | (simp; done) | (simp; omega))); (iterate 5 exact rfl))
           | (apply H_rowidx; exact rfl; (first | exact I0 | exact I1 | exact I2 | exact I3 | exact I4 | exact I5 | exact I6); (iterate 2 exact rfl); (focus (first | assumption | omega | (constructor <;> (first | (simp; done) | (simp; omega))))); (iterate 2 exact rfl))
           | ((with_reducible apply EH.nil); exact rfl))
        repeat
          (first
           | apply EL.nil | ((with_reducible apply EK.then_normal); apply EK.code) | (apply EC.cond_true; exact rfl)
           | (with_reducible first | apply EC.seq | apply EC.region | apply EC.skip | apply EC.label | apply EC.block | apply EC.exit | apply EC.ret | apply EK.in_normal | apply EK.in_same | apply EK.in_ret | apply EK.then_ret | apply EK.then_exit))
        refine EC.draw 13 (by kernel_rfl) ?_
        simp only [List.take_succ_cons, List.take_zero, List.drop_succ_cons, List.drop_zero]
        repeat
          (first
           | (apply H_bin; (iterate 2 exact rfl); exact hbs; (iterate 2 exact rfl))
           | (apply H_rowload (k := x) (off := 32) (d := dNd S[x]) (d' := .bs S[x].2); exact rfl; (first | exact I0 | exact I1 | exact I2); exact ⟨by simp, hd⟩; (iterate 4 exact rfl))
           | (apply H_move; (iterate 3 exact rfl)) | (apply H_assign; (iterate 3 exact rfl)) | (apply H_field; (iterate 6 exact rfl))
           | (apply H_load; exact rfl; (first | exact I0 | exact I1 | exact I2 | exact I3 | exact I4 | exact I5 | exact I6); (iterate 4 exact rfl)) | (apply H_str; (iterate 3 exact rfl))
           | (apply H_nilck; (iterate 3 exact rfl))
           | (apply H_rowfield; exact rfl; (first | exact I0 | exact I1 | exact I2 | exact I3 | exact I4 | exact I5 | exact I6); (focus (first | omega | (simp; done) | (simp; omega))); (iterate 5 exact rfl))
           | (apply H_rowidx; exact rfl; (first | exact I0 | exact I1 | exact I2 | exact I3 | exact I4 | exact I5 | exact I6); (iterate 2 exact rfl); (focus (first | assumption | omega | (constructor <;> (first | (simp; done) | (simp; omega))))); (iterate 2 exact rfl))
           | ((with_reducible apply EH.nil); exact rfl))
        repeat
          (first
           | apply EL.nil | ((with_reducible apply EK.then_normal); apply EK.code)
           | (with_reducible first | apply EC.seq | apply EC.region | apply EC.skip | apply EC.label | apply EC.block | apply EC.exit | apply EC.ret | apply EK.in_normal | apply EK.in_same | apply EK.in_ret | apply EK.then_ret | apply EK.then_exit))
        exact EK.retM1s [sdO g v, sdR v S] rfl rfl (by (repeat first | exact List.nil_sublist _ | apply List.Sublist.cons_cons | apply List.Sublist.cons)) ⟨v, rfl, rfl⟩
      | false =>
        rw [hq] at hw hpN hoN
        rw [if_neg (show ¬ (false = true) from Bool.false_ne_true), ← List.drop_eq_getElem_cons hxl] at hpN
        rw [if_neg (show ¬ (false = true) from Bool.false_ne_true)] at hoN
        repeat
          (first
           | (apply P_move; (iterate 3 exact rfl)) | (apply P_cmp (b := false); (iterate 2 exact rfl); (focus (first | (simp [cmpI]; done) | (simp [cmpI]; omega))); (iterate 2 exact rfl)) | apply EL.nil
           | ((with_reducible apply EK.then_normal); apply EK.code) | (apply EC.cond_false; exact rfl)
           | (with_reducible first | apply EC.seq | apply EC.region | apply EC.skip | apply EC.label | apply EC.block | apply EC.exit | apply EC.ret | apply EK.in_normal | apply EK.in_same | apply EK.in_ret | apply EK.then_ret | apply EK.then_exit))
        refine EC.draw 19 (by kernel_rfl) ?_
        simp only [List.take_succ_cons, List.take_zero, List.drop_succ_cons, List.drop_zero]
        repeat
          (first
           | (apply H_bin; (iterate 2 exact rfl); exact hw; (iterate 2 exact rfl))
           | (apply H_rowload (k := x) (off := 0) (d := dNd S[x]) (d' := .arr 32 S[x].1); exact rfl; (first | exact I0 | exact I1 | exact I2); exact ⟨by simp, hd⟩; (iterate 4 exact rfl))
           | (apply H_move; (iterate 3 exact rfl)) | (apply H_field; (iterate 6 exact rfl)) | (apply H_pick; (iterate 4 exact rfl))
           | (apply H_load; exact rfl; (first | exact I0 | exact I1 | exact I2 | exact I3 | exact I4 | exact I5 | exact I6); (iterate 4 exact rfl))
           | (apply H_cmp (b := true); (iterate 2 exact rfl); (focus (first | (simp [cmpI]; done) | (simp [cmpI]; omega))); (iterate 2 exact rfl))
           | (apply H_lenrow; exact rfl; (first | exact I0 | exact I1 | exact I2 | exact I3 | exact I4 | exact I5 | exact I6); (iterate 3 exact rfl)) | (apply H_nilck; (iterate 3 exact rfl))
           | (apply H_rowfield; exact rfl; (first | exact I0 | exact I1 | exact I2 | exact I3 | exact I4 | exact I5 | exact I6); (focus (first | omega | (simp; done) | (simp; omega))); (iterate 5 exact rfl))
           | (apply H_rowidx; exact rfl; (first | exact I0 | exact I1 | exact I2 | exact I3 | exact I4 | exact I5 | exact I6); (iterate 2 exact rfl); (focus (first | assumption | omega | (constructor <;> (first | (simp; done) | (simp; omega))))); (iterate 2 exact rfl))
           | ((with_reducible apply EH.nil); exact rfl))
        have hds1 : (S.map dNd ++ [D.tup [.arr 32 zero32, .v (.slice none 0 0)]]).length = S.length + 1 := by rw [List.length_append, hml]; rfl
        have hfin := shift_set S x hy (D.tup [.arr 32 zero32, .v (.slice none 0 0)]) (dNd (h, b))
        have hgx : (((S.map dNd ++ [D.tup [.arr 32 zero32, .v (.slice none 0 0)]]).take (x + 1)) ++ ((S.map dNd ++ [D.tup [.arr 32 zero32, .v (.slice none 0 0)]]).drop x).take (S.length + 1 - (x + 1)))[x]? = some (dNd S[x]) := by
          rw [List.getElem?_append_left (by rw [List.length_take, hds1]; omega), List.getElem?_take_of_lt (by omega)]
          rw [List.getElem?_append_left (by rw [hml]; exact hxl)]
          exact hd
        have hmap : (putN (h, b) S).map dNd = (S.take x).map dNd ++ dNd (h, b) :: (S.drop x).map dNd := by
          rw [hpN]
          simp
        rw [hoN]
        repeat
          (first
           | (apply P_move; (iterate 3 exact rfl)) | (apply P_field; (iterate 6 exact rfl))
           | (apply P_load; exact rfl; (first | exact I0 | exact I1 | exact I2 | exact I3 | exact I4 | exact I5 | exact I6); (iterate 4 exact rfl)) | (apply P_build; (iterate 7 exact rfl))
           | (apply P_lit; (iterate 9 exact rfl)) | (apply P_nilck; (iterate 3 exact rfl)) | (apply P_store; exact rfl; (focus (repeat first | exact .z | apply SetAt.s | apply SetAtF.s)); (iterate 4 exact rfl))
           | ((apply P_append; exact rfl; (focus (repeat first | exact .z | apply SetAt.s | apply SetAtF.s)); (iterate 5 exact rfl); (focus (constructor <;> (first | (simp; done) | (simp; omega))))); intro _)
           | apply EL.nil | ((with_reducible apply EK.then_normal); apply EK.code) | (apply EC.cond_false; exact rfl)
           | (with_reducible first | apply EC.seq | apply EC.region | apply EC.skip | apply EC.label | apply EC.block | apply EC.exit | apply EC.ret | apply EK.in_normal | apply EK.in_same | apply EK.in_ret | apply EK.then_ret | apply EK.then_exit))
        rename_i v2
        refine EC.le (Le.pick [2, 0, 1] [_, _, _] rfl (by decide) rfl) ?_
        refine EC.drawT 14 [0, 1, 2, 3, 4, 5, 7, 8, 9, 10, 11] [6, 12, 13] [_] _ (by kernel_rfl) (by kernel_rfl) rfl ?_
        simp only [pickL, List.filterMap_cons, List.filterMap_nil, List.getElem?_cons_zero, List.getElem?_cons_succ]
        repeat
          (first
           | (apply H_move; (iterate 3 exact rfl)) | (apply H_field; (iterate 6 exact rfl))
           | (apply H_load; exact rfl; (first | exact I0 | exact I1 | exact I2 | exact I3 | exact I4 | exact I5 | exact I6); (iterate 4 exact rfl))
           | (apply H_ar; (iterate 3 exact rfl); (focus omega); (focus omega); (iterate 2 exact rfl)) | (apply H_nilck; (iterate 3 exact rfl)))
        refine EM.nil ?_
        repeat (first | rw [List.cons_append] | rw [List.nil_append])
        refine CT.pick [6, 12] (by kernel_rfl) fun k hk => ?_
        rcases (show k = 6 ∨ k = 12 by simpa using hk) with rfl | rfl
        all_goals clear hk
        · skip
          simp only [pickL, List.filterMap_cons, List.filterMap_nil, List.getElem?_cons_zero, List.getElem?_cons_succ]
          refine CH.cut 1 ?_
          simp only [List.take_succ_cons, List.take_zero, List.drop_succ_cons, List.drop_zero]
          (apply EH.still; apply g_rowsuf (i := 0); (iterate 5 exact rfl); exact ⟨by omega, by rw [hds1]; omega⟩; (iterate 3 exact rfl))
          refine EM.nil ?_
          repeat (first | rw [List.cons_append] | rw [List.nil_append])
          refine CH.nil ?_
          refine CT.pick [12] (by kernel_rfl) fun k hk => ?_
          obtain rfl : k = 12 := (by simpa using hk)
          clear hk
          simp only [pickL, List.filterMap_cons, List.filterMap_nil, List.getElem?_cons_zero, List.getElem?_cons_succ]
          refine CH.cut 1 ?_
          simp only [List.take_succ_cons, List.take_zero, List.drop_succ_cons, List.drop_zero]
          (apply EH.still; apply g_rowsuf (i := 0); (iterate 5 exact rfl); exact ⟨by omega, by rw [hds1]; omega⟩; (iterate 3 exact rfl))
          refine EM.nil ?_
          repeat (first | rw [List.cons_append] | rw [List.nil_append])
          refine CH.nil ?_
          refine CT.pick [13] (by kernel_rfl) fun k hk => ?_
          obtain rfl : k = 13 := (by simpa using hk)
          clear hk
          simp only [pickL, List.filterMap_cons, List.filterMap_nil, List.getElem?_cons_zero, List.getElem?_cons_succ]
          refine CH.mut (os := [_]) (rest := []) rfl rfl (m_putV rfl (put_shift (k := x) rfl rfl rfl rfl rfl (by rw [hds1]; omega))) ?_
          rintro _ _ ⟨rfl, rfl⟩
          try simp only [St.put]
          repeat (first | rw [List.cons_append] | rw [List.nil_append])
          refine CH.nil ?_
          refine CT.nil ?_
          rw [hds1]
          repeat
            (first
             | apply EL.nil | ((with_reducible apply EK.then_normal); apply EK.code)
             | (with_reducible first | apply EC.seq | apply EC.region | apply EC.skip | apply EC.label | apply EC.block | apply EC.exit | apply EC.ret | apply EK.in_normal | apply EK.in_same | apply EK.in_ret | apply EK.then_ret | apply EK.then_exit))
          generalize ((S.map dNd ++ [D.tup [.arr 32 zero32, .v (.slice none 0 0)]]).take (x + 1)) ++ ((S.map dNd ++ [D.tup [.arr 32 zero32, .v (.slice none 0 0)]]).drop x).take (S.length + 1 - (x + 1)) = Z at hfin hgx ⊢
          have hxZ : x < Z.length := (List.getElem?_eq_some_iff.1 hgx).1
          refine EC.drawC 11 [0, 1, 2, 3, 4, 5, 6, 7, 8] [9, 10] [_] _ (by kernel_rfl) (by kernel_rfl) rfl ?_
          simp only [pickL, List.filterMap_cons, List.filterMap_nil, List.getElem?_cons_zero, List.getElem?_cons_succ]
          repeat
            (first
             | (apply EH.grow (g_apnew rfl rfl hb); exact rfl; exact rfl; exact rfl) | (apply H_move; (iterate 3 exact rfl)) | (apply H_field; (iterate 6 exact rfl))
             | (apply H_load; exact rfl; (first | exact I0 | exact I1 | exact I2 | exact I3 | exact I4 | exact I5 | exact I6); (iterate 4 exact rfl)) | (apply H_build; (iterate 7 exact rfl))
             | (apply H_nilck; (iterate 3 exact rfl)))
          refine EM.nil ?_
          repeat (first | rw [List.cons_append] | rw [List.nil_append])
          refine CH.cut 1 ?_
          simp only [List.take_succ_cons, List.take_zero, List.drop_succ_cons, List.drop_zero]
          repeat
            (first
             | (apply H_rowidx; exact rfl; exact I0; exact rfl; exact rfl; exact ⟨by omega, by rw [Int.toNat_natCast]; exact hxZ⟩; (iterate 2 exact rfl)))
          refine EM.nil ?_
          repeat (first | rw [List.cons_append] | rw [List.nil_append])
          refine CH.mut (os := [_]) (rest := []) rfl rfl (m_put (put_rowstore (k := x) (off := 0) (d := (dNd S[x])) (d'' := dNd (h, b)) ⟨by rw [Int.toNat_natCast]; rfl, hgx⟩ rfl rfl rfl rfl rfl)) ?_
          rintro _ _ ⟨rfl, rfl⟩
          try simp only [St.put]
          repeat (first | rw [List.cons_append] | rw [List.nil_append])
          refine CH.nil ?_
          try simp only [List.drop_succ_cons, List.drop_zero]
          rw [hfin, ← hmap]
          repeat
            (first
             | (apply P_assign; (iterate 3 exact rfl)) | apply EL.nil | ((with_reducible apply EK.then_normal); apply EK.code)
             | (with_reducible first | apply EC.seq | apply EC.region | apply EC.skip | apply EC.label | apply EC.block | apply EC.exit | apply EC.ret | apply EK.in_normal | apply EK.in_same | apply EK.in_ret | apply EK.then_ret | apply EK.then_exit))
          refine EK.le (Le.pick [2, 0, 1] [_, _, _] rfl (by decide) rfl) ?_
          exact EK.retM1s [sdO g v2, sdR v2 (putN (h, b) S)] rfl rfl (by (repeat first | exact List.nil_sublist _ | apply List.Sublist.cons_cons | apply List.Sublist.cons)) ⟨v2, rfl, rfl⟩
        · skip
          simp only [pickL, List.filterMap_cons, List.filterMap_nil, List.getElem?_cons_zero, List.getElem?_cons_succ]
          refine CH.cut 1 ?_
          simp only [List.take_succ_cons, List.take_zero, List.drop_succ_cons, List.drop_zero]
          (apply EH.still; apply g_rowsuf (i := 0); (iterate 5 exact rfl); exact ⟨by omega, by rw [hds1]; omega⟩; (iterate 3 exact rfl))
          refine EM.nil ?_
          repeat (first | rw [List.cons_append] | rw [List.nil_append])
          refine CH.nil ?_
          refine CT.pick [6] (by kernel_rfl) fun k hk => ?_
          obtain rfl : k = 6 := (by simpa using hk)
          clear hk
          simp only [pickL, List.filterMap_cons, List.filterMap_nil, List.getElem?_cons_zero, List.getElem?_cons_succ]
          refine CH.cut 1 ?_
          simp only [List.take_succ_cons, List.take_zero, List.drop_succ_cons, List.drop_zero]
          (apply EH.still; apply g_rowsuf (i := 0); (iterate 5 exact rfl); exact ⟨by omega, by rw [hds1]; omega⟩; (iterate 3 exact rfl))
          refine EM.nil ?_
          repeat (first | rw [List.cons_append] | rw [List.nil_append])
          refine CH.nil ?_
          refine CT.pick [13] (by kernel_rfl) fun k hk => ?_
          obtain rfl : k = 13 := (by simpa using hk)
          clear hk
          simp only [pickL, List.filterMap_cons, List.filterMap_nil, List.getElem?_cons_zero, List.getElem?_cons_succ]
          refine CH.mut (os := [_]) (rest := []) rfl rfl (m_putV rfl (put_shift (k := x) rfl rfl rfl rfl rfl (by rw [hds1]; omega))) ?_
          rintro _ _ ⟨rfl, rfl⟩
          try simp only [St.put]
          repeat (first | rw [List.cons_append] | rw [List.nil_append])
          refine CH.nil ?_
          refine CT.nil ?_
          rw [hds1]
          repeat
            (first
             | apply EL.nil | ((with_reducible apply EK.then_normal); apply EK.code)
             | (with_reducible first | apply EC.seq | apply EC.region | apply EC.skip | apply EC.label | apply EC.block | apply EC.exit | apply EC.ret | apply EK.in_normal | apply EK.in_same | apply EK.in_ret | apply EK.then_ret | apply EK.then_exit))
          generalize ((S.map dNd ++ [D.tup [.arr 32 zero32, .v (.slice none 0 0)]]).take (x + 1)) ++ ((S.map dNd ++ [D.tup [.arr 32 zero32, .v (.slice none 0 0)]]).drop x).take (S.length + 1 - (x + 1)) = Z at hfin hgx ⊢
          have hxZ : x < Z.length := (List.getElem?_eq_some_iff.1 hgx).1
          refine EC.drawC 11 [0, 1, 2, 3, 4, 5, 6, 7, 8] [9, 10] [_] _ (by kernel_rfl) (by kernel_rfl) rfl ?_
          simp only [pickL, List.filterMap_cons, List.filterMap_nil, List.getElem?_cons_zero, List.getElem?_cons_succ]
          repeat
            (first
             | (apply EH.grow (g_apnew rfl rfl hb); exact rfl; exact rfl; exact rfl) | (apply H_move; (iterate 3 exact rfl)) | (apply H_field; (iterate 6 exact rfl))
             | (apply H_load; exact rfl; (first | exact I0 | exact I1 | exact I2 | exact I3 | exact I4 | exact I5 | exact I6); (iterate 4 exact rfl)) | (apply H_build; (iterate 7 exact rfl))
             | (apply H_nilck; (iterate 3 exact rfl)))
          refine EM.nil ?_
          repeat (first | rw [List.cons_append] | rw [List.nil_append])
          refine CH.cut 1 ?_
          simp only [List.take_succ_cons, List.take_zero, List.drop_succ_cons, List.drop_zero]
          repeat
            (first
             | (apply H_rowidx; exact rfl; exact I0; exact rfl; exact rfl; exact ⟨by omega, by rw [Int.toNat_natCast]; exact hxZ⟩; (iterate 2 exact rfl)))
          refine EM.nil ?_
          repeat (first | rw [List.cons_append] | rw [List.nil_append])
          refine CH.mut (os := [_]) (rest := []) rfl rfl (m_put (put_rowstore (k := x) (off := 0) (d := (dNd S[x])) (d'' := dNd (h, b)) ⟨by rw [Int.toNat_natCast]; rfl, hgx⟩ rfl rfl rfl rfl rfl)) ?_
          rintro _ _ ⟨rfl, rfl⟩
          try simp only [St.put]
          repeat (first | rw [List.cons_append] | rw [List.nil_append])
          refine CH.nil ?_
          try simp only [List.drop_succ_cons, List.drop_zero]
          rw [hfin, ← hmap]
          repeat
            (first
             | (apply P_assign; (iterate 3 exact rfl)) | apply EL.nil | ((with_reducible apply EK.then_normal); apply EK.code)
             | (with_reducible first | apply EC.seq | apply EC.region | apply EC.skip | apply EC.label | apply EC.block | apply EC.exit | apply EC.ret | apply EK.in_normal | apply EK.in_same | apply EK.in_ret | apply EK.then_ret | apply EK.then_exit))
          refine EK.le (Le.pick [2, 0, 1] [_, _, _] rfl (by decide) rfl) ?_
          exact EK.retM1s [sdO g v2, sdR v2 (putN (h, b) S)] rfl rfl (by (repeat first | exact List.nil_sublist _ | apply List.Sublist.cons_cons | apply List.Sublist.cons)) ⟨v2, rfl, rfl⟩
    · have hxe : x = S.length := by omega
      rw [show S.drop x = [] by rw [List.drop_eq_nil_of_le (by omega)]] at hoN
      replace hpN : putN (h, b) S = S.take x ++ (h, b) :: S.drop x := by rw [hpN, List.drop_eq_nil_of_le (by omega)]
      dsimp only at hoN
      repeat
        (first
         | (apply P_move; (iterate 3 exact rfl)) | (apply P_cmp (b := false); (iterate 2 exact rfl); (focus (first | (simp [cmpI]; done) | (simp [cmpI]; omega))); (iterate 2 exact rfl)) | apply EL.nil
         | ((with_reducible apply EK.then_normal); apply EK.code) | (apply EC.cond_false; exact rfl)
         | (with_reducible first | apply EC.seq | apply EC.region | apply EC.skip | apply EC.label | apply EC.block | apply EC.exit | apply EC.ret | apply EK.in_normal | apply EK.in_same | apply EK.in_ret | apply EK.then_ret | apply EK.then_exit))
      refine EC.draw 19 (by kernel_rfl) ?_
      simp only [List.take_succ_cons, List.take_zero, List.drop_succ_cons, List.drop_zero]
      repeat
        (first
         | (apply H_skip; (iterate 2 exact rfl)) | (apply H_move; (iterate 3 exact rfl)) | (apply H_field; (iterate 6 exact rfl)) | (apply H_pick; (iterate 4 exact rfl))
         | (apply H_load; exact rfl; (first | exact I0 | exact I1 | exact I2 | exact I3 | exact I4 | exact I5 | exact I6); (iterate 4 exact rfl))
         | (apply H_cmp (b := false); (iterate 2 exact rfl); (focus (first | (simp [cmpI]; done) | (simp [cmpI]; omega))); (iterate 2 exact rfl))
         | (apply H_lenrow; exact rfl; (first | exact I0 | exact I1 | exact I2 | exact I3 | exact I4 | exact I5 | exact I6); (iterate 3 exact rfl)) | (apply H_nilck; (iterate 3 exact rfl))
         | ((with_reducible apply EH.nil); exact rfl))
      have hds1 : (S.map dNd ++ [D.tup [.arr 32 zero32, .v (.slice none 0 0)]]).length = S.length + 1 := by rw [List.length_append, hml]; rfl
      have hfin := shift_set S x hy (D.tup [.arr 32 zero32, .v (.slice none 0 0)]) (dNd (h, b))
      have hgx : (((S.map dNd ++ [D.tup [.arr 32 zero32, .v (.slice none 0 0)]]).take (x + 1)) ++ ((S.map dNd ++ [D.tup [.arr 32 zero32, .v (.slice none 0 0)]]).drop x).take (S.length + 1 - (x + 1)))[x]? = some (D.tup [.arr 32 zero32, .v (.slice none 0 0)]) := by
        rw [List.getElem?_append_left (by rw [List.length_take, hds1]; omega), List.getElem?_take_of_lt (by omega)]
        rw [List.getElem?_append_right (by omega), hml, hxe, Nat.sub_self]
        rfl
      have hmap : (putN (h, b) S).map dNd = (S.take x).map dNd ++ dNd (h, b) :: (S.drop x).map dNd := by
        rw [hpN]
        simp
      rw [hoN]
      repeat
        (first
         | (apply P_move; (iterate 3 exact rfl)) | (apply P_field; (iterate 6 exact rfl))
         | (apply P_load; exact rfl; (first | exact I0 | exact I1 | exact I2 | exact I3 | exact I4 | exact I5 | exact I6); (iterate 4 exact rfl)) | (apply P_build; (iterate 7 exact rfl))
         | (apply P_lit; (iterate 9 exact rfl)) | (apply P_nilck; (iterate 3 exact rfl)) | (apply P_store; exact rfl; (focus (repeat first | exact .z | apply SetAt.s | apply SetAtF.s)); (iterate 4 exact rfl))
         | ((apply P_append; exact rfl; (focus (repeat first | exact .z | apply SetAt.s | apply SetAtF.s)); (iterate 5 exact rfl); (focus (constructor <;> (first | (simp; done) | (simp; omega))))); intro _)
         | apply EL.nil | ((with_reducible apply EK.then_normal); apply EK.code) | (apply EC.cond_false; exact rfl)
         | (with_reducible first | apply EC.seq | apply EC.region | apply EC.skip | apply EC.label | apply EC.block | apply EC.exit | apply EC.ret | apply EK.in_normal | apply EK.in_same | apply EK.in_ret | apply EK.then_ret | apply EK.then_exit))
      rename_i v2
      refine EC.le (Le.pick [2, 0, 1] [_, _, _] rfl (by decide) rfl) ?_
      refine EC.drawT 14 [0, 1, 2, 3, 4, 5, 7, 8, 9, 10, 11] [6, 12, 13] [_] _ (by kernel_rfl) (by kernel_rfl) rfl ?_
      simp only [pickL, List.filterMap_cons, List.filterMap_nil, List.getElem?_cons_zero, List.getElem?_cons_succ]
      repeat
        (first
         | (apply H_move; (iterate 3 exact rfl)) | (apply H_field; (iterate 6 exact rfl))
         | (apply H_load; exact rfl; (first | exact I0 | exact I1 | exact I2 | exact I3 | exact I4 | exact I5 | exact I6); (iterate 4 exact rfl))
         | (apply H_ar; (iterate 3 exact rfl); (focus omega); (focus omega); (iterate 2 exact rfl)) | (apply H_nilck; (iterate 3 exact rfl)))
      refine EM.nil ?_
      repeat (first | rw [List.cons_append] | rw [List.nil_append])
      refine CT.pick [6, 12] (by kernel_rfl) fun k hk => ?_
      rcases (show k = 6 ∨ k = 12 by simpa using hk) with rfl | rfl
      all_goals clear hk
      · skip
        simp only [pickL, List.filterMap_cons, List.filterMap_nil, List.getElem?_cons_zero, List.getElem?_cons_succ]
        refine CH.cut 1 ?_
        simp only [List.take_succ_cons, List.take_zero, List.drop_succ_cons, List.drop_zero]
        (apply EH.still; apply g_rowsuf (i := 0); (iterate 5 exact rfl); exact ⟨by omega, by rw [hds1]; omega⟩; (iterate 3 exact rfl))
        refine EM.nil ?_
        repeat (first | rw [List.cons_append] | rw [List.nil_append])
        refine CH.nil ?_
        refine CT.pick [12] (by kernel_rfl) fun k hk => ?_
        obtain rfl : k = 12 := (by simpa using hk)
        clear hk
        simp only [pickL, List.filterMap_cons, List.filterMap_nil, List.getElem?_cons_zero, List.getElem?_cons_succ]
        refine CH.cut 1 ?_
        simp only [List.take_succ_cons, List.take_zero, List.drop_succ_cons, List.drop_zero]
        (apply EH.still; apply g_rowsuf (i := 0); (iterate 5 exact rfl); exact ⟨by omega, by rw [hds1]; omega⟩; (iterate 3 exact rfl))
        refine EM.nil ?_
        repeat (first | rw [List.cons_append] | rw [List.nil_append])
        refine CH.nil ?_
        refine CT.pick [13] (by kernel_rfl) fun k hk => ?_
        obtain rfl : k = 13 := (by simpa using hk)
        clear hk
        simp only [pickL, List.filterMap_cons, List.filterMap_nil, List.getElem?_cons_zero, List.getElem?_cons_succ]
        refine CH.mut (os := [_]) (rest := []) rfl rfl (m_putV rfl (put_shift (k := x) rfl rfl rfl rfl rfl (by rw [hds1]; omega))) ?_
        rintro _ _ ⟨rfl, rfl⟩
        try simp only [St.put]
        repeat (first | rw [List.cons_append] | rw [List.nil_append])
        refine CH.nil ?_
        refine CT.nil ?_
        rw [hds1]
        repeat
          (first
           | apply EL.nil | ((with_reducible apply EK.then_normal); apply EK.code)
           | (with_reducible first | apply EC.seq | apply EC.region | apply EC.skip | apply EC.label | apply EC.block | apply EC.exit | apply EC.ret | apply EK.in_normal | apply EK.in_same | apply EK.in_ret | apply EK.then_ret | apply EK.then_exit))
        generalize ((S.map dNd ++ [D.tup [.arr 32 zero32, .v (.slice none 0 0)]]).take (x + 1)) ++ ((S.map dNd ++ [D.tup [.arr 32 zero32, .v (.slice none 0 0)]]).drop x).take (S.length + 1 - (x + 1)) = Z at hfin hgx ⊢
        have hxZ : x < Z.length := (List.getElem?_eq_some_iff.1 hgx).1
        refine EC.drawC 11 [0, 1, 2, 3, 4, 5, 6, 7, 8] [9, 10] [_] _ (by kernel_rfl) (by kernel_rfl) rfl ?_
        simp only [pickL, List.filterMap_cons, List.filterMap_nil, List.getElem?_cons_zero, List.getElem?_cons_succ]
        repeat
          (first
           | (apply EH.grow (g_apnew rfl rfl hb); exact rfl; exact rfl; exact rfl) | (apply H_move; (iterate 3 exact rfl)) | (apply H_field; (iterate 6 exact rfl))
           | (apply H_load; exact rfl; (first | exact I0 | exact I1 | exact I2 | exact I3 | exact I4 | exact I5 | exact I6); (iterate 4 exact rfl)) | (apply H_build; (iterate 7 exact rfl))
           | (apply H_nilck; (iterate 3 exact rfl)))
        refine EM.nil ?_
        repeat (first | rw [List.cons_append] | rw [List.nil_append])
        refine CH.cut 1 ?_
        simp only [List.take_succ_cons, List.take_zero, List.drop_succ_cons, List.drop_zero]
        repeat
          (first
           | (apply H_rowidx; exact rfl; exact I0; exact rfl; exact rfl; exact ⟨by omega, by rw [Int.toNat_natCast]; exact hxZ⟩; (iterate 2 exact rfl)))
        refine EM.nil ?_
        repeat (first | rw [List.cons_append] | rw [List.nil_append])
        refine CH.mut (os := [_]) (rest := []) rfl rfl (m_put (put_rowstore (k := x) (off := 0) (d := (D.tup [.arr 32 zero32, .v (.slice none 0 0)])) (d'' := dNd (h, b)) ⟨by rw [Int.toNat_natCast]; rfl, hgx⟩ rfl rfl rfl rfl rfl)) ?_
        rintro _ _ ⟨rfl, rfl⟩
        try simp only [St.put]
        repeat (first | rw [List.cons_append] | rw [List.nil_append])
        refine CH.nil ?_
        try simp only [List.drop_succ_cons, List.drop_zero]
        rw [hfin, ← hmap]
        repeat
          (first
           | (apply P_assign; (iterate 3 exact rfl)) | apply EL.nil | ((with_reducible apply EK.then_normal); apply EK.code)
           | (with_reducible first | apply EC.seq | apply EC.region | apply EC.skip | apply EC.label | apply EC.block | apply EC.exit | apply EC.ret | apply EK.in_normal | apply EK.in_same | apply EK.in_ret | apply EK.then_ret | apply EK.then_exit))
        refine EK.le (Le.pick [2, 0, 1] [_, _, _] rfl (by decide) rfl) ?_
        exact EK.retM1s [sdO g v2, sdR v2 (putN (h, b) S)] rfl rfl (by (repeat first | exact List.nil_sublist _ | apply List.Sublist.cons_cons | apply List.Sublist.cons)) ⟨v2, rfl, rfl⟩
      · skip
        simp only [pickL, List.filterMap_cons, List.filterMap_nil, List.getElem?_cons_zero, List.getElem?_cons_succ]
        refine CH.cut 1 ?_
        simp only [List.take_succ_cons, List.take_zero, List.drop_succ_cons, List.drop_zero]
        (apply EH.still; apply g_rowsuf (i := 0); (iterate 5 exact rfl); exact ⟨by omega, by rw [hds1]; omega⟩; (iterate 3 exact rfl))
        refine EM.nil ?_
        repeat (first | rw [List.cons_append] | rw [List.nil_append])
        refine CH.nil ?_
        refine CT.pick [6] (by kernel_rfl) fun k hk => ?_
        obtain rfl : k = 6 := (by simpa using hk)
        clear hk
        simp only [pickL, List.filterMap_cons, List.filterMap_nil, List.getElem?_cons_zero, List.getElem?_cons_succ]
        refine CH.cut 1 ?_
        simp only [List.take_succ_cons, List.take_zero, List.drop_succ_cons, List.drop_zero]
        (apply EH.still; apply g_rowsuf (i := 0); (iterate 5 exact rfl); exact ⟨by omega, by rw [hds1]; omega⟩; (iterate 3 exact rfl))
        refine EM.nil ?_
        repeat (first | rw [List.cons_append] | rw [List.nil_append])
        refine CH.nil ?_
        refine CT.pick [13] (by kernel_rfl) fun k hk => ?_
        obtain rfl : k = 13 := (by simpa using hk)
        clear hk
        simp only [pickL, List.filterMap_cons, List.filterMap_nil, List.getElem?_cons_zero, List.getElem?_cons_succ]
        refine CH.mut (os := [_]) (rest := []) rfl rfl (m_putV rfl (put_shift (k := x) rfl rfl rfl rfl rfl (by rw [hds1]; omega))) ?_
        rintro _ _ ⟨rfl, rfl⟩
        try simp only [St.put]
        repeat (first | rw [List.cons_append] | rw [List.nil_append])
        refine CH.nil ?_
        refine CT.nil ?_
        rw [hds1]
        repeat
          (first
           | apply EL.nil | ((with_reducible apply EK.then_normal); apply EK.code)
           | (with_reducible first | apply EC.seq | apply EC.region | apply EC.skip | apply EC.label | apply EC.block | apply EC.exit | apply EC.ret | apply EK.in_normal | apply EK.in_same | apply EK.in_ret | apply EK.then_ret | apply EK.then_exit))
        generalize ((S.map dNd ++ [D.tup [.arr 32 zero32, .v (.slice none 0 0)]]).take (x + 1)) ++ ((S.map dNd ++ [D.tup [.arr 32 zero32, .v (.slice none 0 0)]]).drop x).take (S.length + 1 - (x + 1)) = Z at hfin hgx ⊢
        have hxZ : x < Z.length := (List.getElem?_eq_some_iff.1 hgx).1
        refine EC.drawC 11 [0, 1, 2, 3, 4, 5, 6, 7, 8] [9, 10] [_] _ (by kernel_rfl) (by kernel_rfl) rfl ?_
        simp only [pickL, List.filterMap_cons, List.filterMap_nil, List.getElem?_cons_zero, List.getElem?_cons_succ]
        repeat
          (first
           | (apply EH.grow (g_apnew rfl rfl hb); exact rfl; exact rfl; exact rfl) | (apply H_move; (iterate 3 exact rfl)) | (apply H_field; (iterate 6 exact rfl))
           | (apply H_load; exact rfl; (first | exact I0 | exact I1 | exact I2 | exact I3 | exact I4 | exact I5 | exact I6); (iterate 4 exact rfl)) | (apply H_build; (iterate 7 exact rfl))
           | (apply H_nilck; (iterate 3 exact rfl)))
        refine EM.nil ?_
        repeat (first | rw [List.cons_append] | rw [List.nil_append])
        refine CH.cut 1 ?_
        simp only [List.take_succ_cons, List.take_zero, List.drop_succ_cons, List.drop_zero]
        repeat
          (first
           | (apply H_rowidx; exact rfl; exact I0; exact rfl; exact rfl; exact ⟨by omega, by rw [Int.toNat_natCast]; exact hxZ⟩; (iterate 2 exact rfl)))
        refine EM.nil ?_
        repeat (first | rw [List.cons_append] | rw [List.nil_append])
        refine CH.mut (os := [_]) (rest := []) rfl rfl (m_put (put_rowstore (k := x) (off := 0) (d := (D.tup [.arr 32 zero32, .v (.slice none 0 0)])) (d'' := dNd (h, b)) ⟨by rw [Int.toNat_natCast]; rfl, hgx⟩ rfl rfl rfl rfl rfl)) ?_
        rintro _ _ ⟨rfl, rfl⟩
        try simp only [St.put]
        repeat (first | rw [List.cons_append] | rw [List.nil_append])
        refine CH.nil ?_
        try simp only [List.drop_succ_cons, List.drop_zero]
        rw [hfin, ← hmap]
        repeat
          (first
           | (apply P_assign; (iterate 3 exact rfl)) | apply EL.nil | ((with_reducible apply EK.then_normal); apply EK.code)
           | (with_reducible first | apply EC.seq | apply EC.region | apply EC.skip | apply EC.label | apply EC.block | apply EC.exit | apply EC.ret | apply EK.in_normal | apply EK.in_same | apply EK.in_ret | apply EK.then_ret | apply EK.then_exit))
        refine EK.le (Le.pick [2, 0, 1] [_, _, _] rfl (by decide) rfl) ?_
        exact EK.retM1s [sdO g v2, sdR v2 (putN (h, b) S)] rfl rfl (by (repeat first | exact List.nil_sublist _ | apply List.Sublist.cons_cons | apply List.Sublist.cons)) ⟨v2, rfl, rfl⟩
end E
end Go.Proofs.Ytmlajcbabimkjaa
