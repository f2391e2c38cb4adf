/-
  Read, the program's.
  Conditions: none.
-/
import Derived.Test.YtfpigemikpbbhaaRefPartL
namespace Go.Proofs.Ytfpigemikpbbhaa
set_option linter.unusedVariables false
open Go.RowKit Mono Rlp

/-- What Read tells. -/
def ReadRV (B : Nat) (b : List UInt8) : VP := fun v w => match readR b with
  | .ok x => ∃ vi, v = .tuple #[vi, .int .i64 0] ∧ ItemIn (fun k => B ≤ k ∧ k < w.heap.size) w vi x
  | .error e => v = .tuple #[zItem, .int .i64 (e : Int)]
theorem readRV_ok {B : Nat} {b : List UInt8} {x : Raw} {v vi : Value} {w : World} (h : readR b = .ok x) (hv : v = .tuple #[vi, .int .i64 0]) (hi : ItemIn (fun k => B ≤ k ∧ k < w.heap.size) w vi x) : ReadRV B b v w := by unfold ReadRV; rw [h]; exact ⟨vi, hv, hi⟩
theorem readRV_err {B : Nat} {b : List UInt8} {e : Nat} {v : Value} {w : World} (h : readR b = .error e) (hv : v = .tuple #[zItem, .int .i64 (e : Int)]) : ReadRV B b v w := by unfold ReadRV; rw [h]; exact hv
theorem readR_err {b : List UInt8} {e : Nat} (h : readR b = .error e) : e = 3 ∨ e = 4 := by
  unfold readR at h
  split at h
  · cases h; exact .inl rfl
  · split at h
    · rename_i e' he
      cases h
      exact parse_err _ _ _ he
    · split at h
      · cases h
      · cases h; exact .inr rfl

set_option maxHeartbeats 4000000 in
set_option maxRecDepth 20000 in
theorem rlp_Read (v : Value) (b : List UInt8) (w : World) (h : IsB w v b) : Calls Try.prog 46 #[v] w (Ret (ReadRV w.heap.size b) w) := by
  have h0 := h
  obtain ⟨A, cp, rfl, hc1, hc2, _⟩ := h
  have H := Lib.hid (h0.gr (gr_alloc w (.cells zCells 45)))
  unfold maxLen at hc2
  clear h0
  by_cases hl : b.length > most
  · have HR := Lib.hid (show readR b = .error 3 by unfold readR; rw [if_pos hl])
    simp only [most] at hl
    go_enter Try.func46, Try.ntmps46
    go_wp2_with fail
    exact bodyPost_ret (results_item2 rfl _ _ w.heap.size zCells rfl (heap_alloc_new w _) rfl) rfl ⟨_, rfl, gr_alloc w _, readRV_err HR.out rfl⟩
  · have HR : Hid (readR b = match parse 32 b with | .error e => .error e | .ok (x, n) => if n = b.length then .ok x else .error 4) := by
      refine Lib.hid ?_
      unfold readR
      rw [if_neg hl]
      cases parse 32 b <;> rfl
    have hl2 : b.length ≤ 16777216 := by simp only [most] at hl; omega
    clear hl
    go_enter Try.func46, Try.ntmps46
    go_wp2_with fail
    refine (rlp_read 32 0 rfl b _ _ H.out hl2).mono ?_
    rintro e w1 ⟨v1, rfl, hg1, hv1⟩
    unfold ReadV zItem at hv1
    have hs1 := hg1.size
    simp only [size_new] at hs1
    have HZ1 : Hid (w1.heap[w.heap.size]? = some (.cells zCells 45 (0, 0))) := Lib.hid ((hg1.block _ (by simp)).trans (heap_alloc_new w _))
    have HG1 := Lib.hid ((gr_alloc w _).trans hg1)
    clear hg1 H
    cases hp : parse 32 b with
    | error e =>
      rw [hp] at hv1 HR
      dsimp only at hv1
      subst hv1
      have he := parse_err _ _ _ hp
      have hne : ((e : Int) != 0) = true := by simp; omega
      have hne2 : ((e : Int) == 0) = false := by simp; omega
      have HE := Lib.hid (show readR b = .error e from HR.out)
      clear hp HR
      go_wp2_with refine wpList_store_row rfl 45 (.tmp 2) (.tmp 27) rfl w.heap.size zCells rfl rfl 45 _ ((heap_old w1 _ _ (by omega)).trans HZ1.out) (item_info _ rfl) rfl (by simp [Value.oneCell']) ?_
      exact bodyPost_ret (results_item2 rfl _ _ w.heap.size _ rfl (heap_setRow_same _ _ _ _ _ ((heap_old w1 _ _ (by omega)).trans HZ1.out)) rfl) rfl ⟨_, rfl, gr_setRow (HG1.out.trans (gr_alloc _ _)) _ _ (Nat.le_refl _), readRV_err HE.out rfl⟩
    | ok p =>
      obtain ⟨x, n⟩ := p
      rw [hp] at hv1 HR
      obtain ⟨vi, rfl, csx, rfl, hix⟩ := hv1
      obtain ⟨fx, Ax, nx, cx, Ay, ny, cy, rfl⟩ := hix.len
      have hn := (parse_E _ _ _ _ hp).2.1
      have HIX := Lib.hid hix
      clear hp hix
      by_cases hnb : n = b.length
      · have HO := Lib.hid (show readR b = .ok x by rw [HR.out]; exact if_pos hnb)
        have hnn : ((n : Int) != (b.length : Int)) = false := by simp; omega
        clear HR hnb
        go_wp2_with refine wpList_store_row rfl 45 (.tmp 2) (.tmp 29) rfl w.heap.size #[.bool fx, .slice Ax nx cx, .slice Ay ny cy] rfl rfl 45 _ ((heap_old w1 _ _ (by omega)).trans HZ1.out) (item_info _ rfl) rfl (by simp [Value.oneCell']) ?_
        refine bodyPost_ret (results_item2 rfl _ _ w.heap.size _ rfl (heap_setRow_same _ _ _ _ _ ((heap_old w1 _ _ (by omega)).trans HZ1.out)) rfl) rfl ⟨_, rfl, gr_setRow (HG1.out.trans (gr_alloc _ _)) _ _ (Nat.le_refl _), readRV_ok HO.out rfl ⟨_, rfl, ItemAtP.mono (fun k hk => ?_) (fun p hp => ?_) _ _ HIX.out⟩⟩
        · have h1 := hk.1
          have h2 := hk.2
          simp only [size_new] at h1
          rw [size_setRow, size_new]
          omega
        · have h1 := hp.1
          have h2 := hp.2
          simp only [size_new] at h1
          rw [cell_setRow (by omega)]
          exact World.cell?_alloc_lt _ _ _ h2
      · have HE := Lib.hid (show readR b = .error 4 by rw [HR.out]; exact if_neg hnb)
        have hnn : ((n : Int) != (b.length : Int)) = true := by simp; omega
        clear HR hnb
        go_wp2_with refine wpList_store_row rfl 45 (.tmp 2) (.tmp 27) rfl w.heap.size zCells rfl rfl 45 _ ((heap_old w1 _ _ (by omega)).trans HZ1.out) (item_info _ rfl) rfl (by simp [Value.oneCell']) ?_
        exact bodyPost_ret (results_item2 rfl _ _ w.heap.size _ rfl (heap_setRow_same _ _ _ _ _ ((heap_old w1 _ _ (by omega)).trans HZ1.out)) rfl) rfl ⟨_, rfl, gr_setRow (HG1.out.trans (gr_alloc _ _)) _ _ (Nat.le_refl _), readRV_err HE.out rfl⟩

set_option maxHeartbeats 4000000 in
set_option maxRecDepth 20000 in
theorem ref_Read (v : Value) (b : List UInt8) (w : World) (h : IsB w v b) : Calls Try.prog 47 #[v] w (Ret (ReadRV w.heap.size b) w) := by
  have h0 := h
  obtain ⟨A, cp, rfl, hc1, hc2, _⟩ := h
  have H := Lib.hid (h0.gr (gr_alloc w (.cells zCells 45)))
  unfold maxLen at hc2
  clear h0
  by_cases hl : b.length > most
  · have HR := Lib.hid (show readR b = .error 3 by unfold readR; rw [if_pos hl])
    simp only [most] at hl
    go_enter Try.func47, Try.ntmps47
    go_wp2_with fail
    exact bodyPost_ret (results_item2 rfl _ _ w.heap.size zCells rfl (heap_alloc_new w _) rfl) rfl ⟨_, rfl, gr_alloc w _, readRV_err HR.out rfl⟩
  · have HR : Hid (readR b = match parse 32 b with | .error e => .error e | .ok (x, n) => if n = b.length then .ok x else .error 4) := by
      refine Lib.hid ?_
      unfold readR
      rw [if_neg hl]
      cases parse 32 b <;> rfl
    have hl2 : b.length ≤ 16777216 := by simp only [most] at hl; omega
    clear hl
    go_enter Try.func47, Try.ntmps47
    go_wp2_with fail
    refine (ref_part 32 (Nat.le_refl _) b _ _ H.out hl2).mono ?_
    rintro e w1 ⟨v1, rfl, hg1, hv1⟩
    unfold PartV zItem at hv1
    have hs1 := hg1.size
    simp only [size_new] at hs1
    have HZ1 : Hid (w1.heap[w.heap.size]? = some (.cells zCells 45 (0, 0))) := Lib.hid ((hg1.block _ (by simp)).trans (heap_alloc_new w _))
    have HG1 := Lib.hid ((gr_alloc w _).trans hg1)
    clear hg1 H
    cases hp : parse 32 b with
    | error e =>
      rw [hp] at hv1 HR
      dsimp only at hv1
      subst hv1
      have he := parse_err _ _ _ hp
      have hne : ((e : Int) != 0) = true := by simp; omega
      have HE := Lib.hid (show readR b = .error e from HR.out)
      clear hp HR
      go_wp2_with refine wpList_store_row rfl 45 (.tmp 2) (.tmp 19) rfl w.heap.size zCells rfl rfl 45 _ ((heap_old w1 _ _ (by omega)).trans HZ1.out) (item_info _ rfl) rfl (by simp [Value.oneCell']) ?_
      exact bodyPost_ret (results_item2 rfl _ _ w.heap.size _ rfl (heap_setRow_same _ _ _ _ _ ((heap_old w1 _ _ (by omega)).trans HZ1.out)) rfl) rfl ⟨_, rfl, gr_setRow (HG1.out.trans (gr_alloc _ _)) _ _ (Nat.le_refl _), readRV_err HE.out rfl⟩
    | ok p =>
      obtain ⟨x, n⟩ := p
      rw [hp] at hv1 HR
      obtain ⟨vi, rfl, csx, rfl, hix⟩ := hv1
      obtain ⟨fx, Ax, nx, cx, Ay, ny, cy, rfl⟩ := hix.len
      have hn := (parse_E _ _ _ _ hp).2.1
      have HIX := Lib.hid hix
      clear hp hix
      by_cases hnb : n = b.length
      · have HO := Lib.hid (show readR b = .ok x by rw [HR.out]; exact if_pos hnb)
        have hnn : ((n : Int) != (b.length : Int)) = false := by simp; omega
        clear HR hnb
        go_wp2_with refine wpList_store_row rfl 45 (.tmp 2) (.tmp 26) rfl w.heap.size #[.bool fx, .slice Ax nx cx, .slice Ay ny cy] rfl rfl 45 _ ((heap_old w1 _ _ (by omega)).trans HZ1.out) (item_info _ rfl) rfl (by simp [Value.oneCell']) ?_
        refine bodyPost_ret (results_item2 rfl _ _ w.heap.size _ rfl (heap_setRow_same _ _ _ _ _ ((heap_old w1 _ _ (by omega)).trans HZ1.out)) rfl) rfl ⟨_, rfl, gr_setRow (HG1.out.trans (gr_alloc _ _)) _ _ (Nat.le_refl _), readRV_ok HO.out rfl ⟨_, rfl, ItemAtP.mono (fun k hk => ?_) (fun p hp => ?_) _ _ HIX.out⟩⟩
        · have h1 := hk.1
          have h2 := hk.2
          simp only [size_new] at h1
          rw [size_setRow, size_new]
          omega
        · have h1 := hp.1
          have h2 := hp.2
          simp only [size_new] at h1
          rw [cell_setRow (by omega)]
          exact World.cell?_alloc_lt _ _ _ h2
      · have HE := Lib.hid (show readR b = .error 4 by rw [HR.out]; exact if_neg hnb)
        have hnn : ((n : Int) != (b.length : Int)) = true := by simp; omega
        clear HR hnb
        go_wp2_with refine wpList_store_row rfl 45 (.tmp 2) (.tmp 25) rfl w.heap.size zCells rfl rfl 45 _ ((heap_old w1 _ _ (by omega)).trans HZ1.out) (item_info _ rfl) rfl (by simp [Value.oneCell']) ?_
        exact bodyPost_ret (results_item2 rfl _ _ w.heap.size _ rfl (heap_setRow_same _ _ _ _ _ ((heap_old w1 _ _ (by omega)).trans HZ1.out)) rfl) rfl ⟨_, rfl, gr_setRow (HG1.out.trans (gr_alloc _ _)) _ _ (Nat.le_refl _), readRV_err HE.out rfl⟩
end Go.Proofs.Ytfpigemikpbbhaa
