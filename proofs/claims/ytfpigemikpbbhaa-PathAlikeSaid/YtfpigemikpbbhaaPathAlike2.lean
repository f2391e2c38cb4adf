/-
  PathAlike, whatever the lengths.
  Conditions: none.
-/
import Derived.Test.YtfpigemikpbbhaaPathAlike
namespace Go.Proofs.Ytfpigemikpbbhaa
open Go.RowKit Mono

set_option maxRecDepth 100000 in
set_option maxHeartbeats 2000000 in
theorem alike_long (v0 v1 v2 : Value) (p a b : List UInt8) (w : World) (h0 : IsB w v0 p) (h1 : IsB w v1 a) (h2 : IsB w v2 b) (hl : ¬ (p.length ≤ 100 ∧ a.length ≤ 100 ∧ b.length ≤ 100)) :
    Calls Try.prog 3 #[v0, v1, v2] w (Ret (eqV (.bool true)) w) := by
  obtain ⟨A0, c0, rfl, _, m0, r0⟩ := h0
  obtain ⟨A1, c1, rfl, _, m1, r1⟩ := h1
  obtain ⟨A2, c2, rfl, _, m2, r2⟩ := h2
  unfold maxLen at m0 m1 m2
  clear r0 r1 r2
  by_cases hp : p.length ≤ 100
  · by_cases ha : a.length ≤ 100
    · have dp : decide (100 < (p.length : Int)) = false := decide_eq_false (by omega)
      have da : decide (100 < (a.length : Int)) = false := decide_eq_false (by omega)
      have db : decide (100 < (b.length : Int)) = true := decide_eq_true (by omega)
      have hb' : 100 < b.length := by omega
      clear hl
      go_enter Try.func3, Try.ntmps3
      go_wp2_with fail
      refine (path_alive _).mono ?_
      rintro e w1 ⟨_, rfl, hg1, rfl⟩
      go_wp2
      refine wp_region_N 36 (by kernel_rfl) (by kernel_rfl) (by kernel_rfl) ?_
      simp only [List.take_succ_cons, List.take_zero, List.drop_succ_cons, List.drop_zero]
      refine wpN_quiet 36 (by kernel_rfl) ?_
      simp only [List.take_succ_cons, List.take_zero, List.drop_succ_cons, List.drop_zero]
      repeat (go_big_quiet_step (fail))
      refine wpQuiet_nil ?_
      refine wpN_nil (by kernel_rfl) ?_
      intro W hW
      replace hW := hW.gr
      unfold finN
      go_wp2
      refine bodyPost_ret (results_tmp rfl _ _ _) rfl ?_
      exact ⟨_, rfl, Gr.trans hg1 hW, rfl⟩
    · have dp : decide (100 < (p.length : Int)) = false := decide_eq_false (by omega)
      have da : decide (100 < (a.length : Int)) = true := decide_eq_true (by omega)
      have ha' : 100 < a.length := by omega
      clear hl ha
      go_enter Try.func3, Try.ntmps3
      go_wp2_with fail
      refine (path_alive _).mono ?_
      rintro e w1 ⟨_, rfl, hg1, rfl⟩
      go_wp2
      refine wp_region_N 36 (by kernel_rfl) (by kernel_rfl) (by kernel_rfl) ?_
      simp only [List.take_succ_cons, List.take_zero, List.drop_succ_cons, List.drop_zero]
      refine wpN_quiet 36 (by kernel_rfl) ?_
      simp only [List.take_succ_cons, List.take_zero, List.drop_succ_cons, List.drop_zero]
      repeat (go_big_quiet_step (fail))
      refine wpQuiet_nil ?_
      refine wpN_nil (by kernel_rfl) ?_
      intro W hW
      replace hW := hW.gr
      unfold finN
      go_wp2
      refine bodyPost_ret (results_tmp rfl _ _ _) rfl ?_
      exact ⟨_, rfl, Gr.trans hg1 hW, rfl⟩
  · have dp : decide (100 < (p.length : Int)) = true := decide_eq_true (by omega)
    have hp' : 100 < p.length := by omega
    clear hl hp
    go_enter Try.func3, Try.ntmps3
    go_wp2_with fail
    refine (path_alive _).mono ?_
    rintro e w1 ⟨_, rfl, hg1, rfl⟩
    go_wp2
    refine wp_region_N 36 (by kernel_rfl) (by kernel_rfl) (by kernel_rfl) ?_
    simp only [List.take_succ_cons, List.take_zero, List.drop_succ_cons, List.drop_zero]
    refine wpN_quiet 36 (by kernel_rfl) ?_
    simp only [List.take_succ_cons, List.take_zero, List.drop_succ_cons, List.drop_zero]
    repeat (go_big_quiet_step (fail))
    refine wpQuiet_nil ?_
    refine wpN_nil (by kernel_rfl) ?_
    intro W hW
    replace hW := hW.gr
    unfold finN
    go_wp2
    refine bodyPost_ret (results_tmp rfl _ _ _) rfl ?_
    exact ⟨_, rfl, Gr.trans hg1 hW, rfl⟩

set_option maxRecDepth 100000 in
set_option maxHeartbeats 2000000 in
theorem alike_same (v0 v1 v2 : Value) (p a b : List UInt8) (w : World) (h0 : IsB w v0 p) (h1 : IsB w v1 a) (h2 : IsB w v2 b) (hp : p.length ≤ 100) (ha : a.length ≤ 100) (hb : b.length ≤ 100) (hu : unlike a b = false) :
    Calls Try.prog 3 #[v0, v1, v2] w (Ret (eqV (.bool true)) w) := by
  obtain ⟨A0, c0, rfl, _, m0, r0⟩ := h0
  obtain ⟨A1, c1, rfl, _, m1, r1⟩ := h1
  obtain ⟨A2, c2, rfl, _, m2, r2⟩ := h2
  unfold maxLen at m0 m1 m2
  have la : 0 < a.length := by cases a <;> simp [unlike] at hu ⊢
  have lb : 0 < b.length := by cases a <;> cases b <;> simp [unlike] at hu ⊢
  have hab : b[0] = a[0] := by
    cases a with
    | nil => simp at la
    | cons x a =>
      cases b with
      | nil => simp at lb
      | cons y b =>
        have h : x = y := by simpa [unlike] using hu
        exact h.symm
  obtain ⟨g1, o1, rfl, hh1, cc1⟩ := r1 (by intro e; have := bvs_length a; rw [e] at this; simp at this; omega)
  obtain ⟨g2, o2, rfl, hh2, cc2⟩ := r2 (by intro e; have := bvs_length b; rw [e] at this; simp at this; omega)
  have j1 := cc1 0 _ (bvs_at a 0 la)
  have j2 := cc2 0 _ (bvs_at b 0 lb)
  rw [hab] at j2
  unfold bv at j1 j2
  generalize (a[0].toNat : Int) = x at j1 j2
  have J1 := Lib.hid j1
  have J2 := Lib.hid j2
  have dp : decide (100 < (p.length : Int)) = false := decide_eq_false (by omega)
  have da : decide (100 < (a.length : Int)) = false := decide_eq_false (by omega)
  have db : decide (100 < (b.length : Int)) = false := decide_eq_false (by omega)
  have d1 : decide (0 < (a.length : Int)) = true := decide_eq_true (by omega)
  have d2 : decide (0 < (b.length : Int)) = true := decide_eq_true (by omega)
  clear j1 j2 hab hu r0 cc1 cc2
  go_enter Try.func3, Try.ntmps3
  go_wp2_with fail
  refine (path_alive _).mono ?_
  rintro e w1 ⟨_, rfl, hg1, rfl⟩
  have k1 := later_cell (w := w1) (p := ⟨g1, o1 + 0, none⟩) (by have := hg1.size; exact Nat.lt_of_lt_of_le hh1 this) ((hg1.cell (p := ⟨g1, o1 + 0, none⟩) hh1).trans J1.out)
  have k2 := later_cell (w := w1) (p := ⟨g2, o2 + 0, none⟩) (by have := hg1.size; exact Nat.lt_of_lt_of_le hh2 this) ((hg1.cell (p := ⟨g2, o2 + 0, none⟩) hh2).trans J2.out)
  simp only [Nat.add_zero] at k1 k2
  go_wp2
  refine wp_region_N 36 (by kernel_rfl) (by kernel_rfl) (by kernel_rfl) ?_
  simp only [List.take_succ_cons, List.take_zero, List.drop_succ_cons, List.drop_zero]
  refine wpN_quiet 36 (by kernel_rfl) ?_
  simp only [List.take_succ_cons, List.take_zero, List.drop_succ_cons, List.drop_zero]
  repeat (go_big_quiet_step (fail))
  refine wpQuiet_nil ?_
  refine wpN_nil (by kernel_rfl) ?_
  intro W hW
  replace hW := hW.gr
  unfold finN
  go_wp2
  refine bodyPost_ret (results_tmp rfl _ _ _) rfl ?_
  exact ⟨_, rfl, Gr.trans hg1 hW, rfl⟩

/-- The law, whatever the bytes. -/
theorem alike_all (v0 v1 v2 : Value) (p a b : List UInt8) (w : World) (h0 : IsB w v0 p) (h1 : IsB w v1 a) (h2 : IsB w v2 b) :
    Calls Try.prog 3 #[v0, v1, v2] w (Ret (eqV (.bool true)) w) := by
  by_cases hl : p.length ≤ 100 ∧ a.length ≤ 100 ∧ b.length ≤ 100
  · by_cases hu : unlike a b = true
    · exact alike_small v0 v1 v2 p a b w h0 h1 h2 hl.1 hl.2.1 hl.2.2 hu
    · exact alike_same v0 v1 v2 p a b w h0 h1 h2 hl.1 hl.2.1 hl.2.2 (by simpa using hu)
  · exact alike_long v0 v1 v2 p a b w h0 h1 h2 hl
end Go.Proofs.Ytfpigemikpbbhaa
