/-
  Merged (wip/tools/merge.py): Reads, RefPack2, Packs, Num, Num2, Num3.
  Conditions: none.
-/
import Derived.Test.YtmlajcbabimkjaaZB10
import Derived.Test.YtmlajcbabimkjaaZB8
import Derived.Test.YtmlajcbabimkjaaZB5
import Derived.Test.YtmlajcbabimkjaaZB7
import Derived.Test.YtmlajcbabimkjaaZB9
import Derived.Laws.CopyOwn
/-
  Read, the program's.
  Conditions: none.
-/
namespace Go.Proofs.Ytmlajcbabimkjaa
set_option linter.unusedVariables false
open Go.RowKit Mono Rlp
def ReadRV (B : Nat) (b : List UInt8) : VP := fun v w => match readR b with
  | .ok x => ∃ vi, v = .tuple #[vi, .int .i64 0] ∧ ItemIn (fun k => B ≤ k ∧ k < w.heap.size) w vi x
  | .error e => v = .tuple #[zItem, .int .i64 (e : Int)]
theorem readRV_ok {B : Nat} {b : List UInt8} {x : Raw} {v vi : Value} {w : World} (h : readR b = .ok x) (hv : v = .tuple #[vi, .int .i64 0]) (hi : ItemIn (fun k => B ≤ k ∧ k < w.heap.size) w vi x) : ReadRV B b v w := by unfold ReadRV; rw [h]; exact ⟨vi, hv, hi⟩
theorem readRV_err {B : Nat} {b : List UInt8} {e : Nat} {v : Value} {w : World} (h : readR b = .error e) (hv : v = .tuple #[zItem, .int .i64 (e : Int)]) : ReadRV B b v w := by unfold ReadRV; rw [h]; exact hv
theorem readR_err {b : List UInt8} {e : Nat} (h : readR b = .error e) : e = 3 ∨ e = 4 := by
  unfold readR at h
  split at h
  · cases h; exact .inl rfl
  · split at h
    · rename_i e' he
      cases h
      exact parse_err _ _ _ he
    · split at h
      · cases h
      · cases h; exact .inr rfl
set_option maxHeartbeats 4000000 in
set_option maxRecDepth 20000 in
theorem rlp_Read (v : Value) (b : List UInt8) (w : World) (h : IsB w v b) : Calls Try.prog 49 #[v] w (Ret (ReadRV w.heap.size b) w) := by
  have h0 := h
  obtain ⟨A, cp, rfl, hc1, hc2, _⟩ := h
  have H := Lib.hid (h0.gr (gr_alloc w (.cells zCells 41)))
  unfold maxLen at hc2
  clear h0
  by_cases hl : b.length > most
  · have HR := Lib.hid (show readR b = .error 3 by unfold readR; rw [if_pos hl])
    simp only [most] at hl
    go_enter Try.func49, Try.ntmps49
    go_wp2_with fail
    exact bodyPost_ret (results_item2 rfl _ _ w.heap.size zCells rfl (heap_alloc_new w _) rfl) rfl ⟨_, rfl, gr_alloc w _, readRV_err HR.out rfl⟩
  · have HR : Hid (readR b = match parse 32 b with | .error e => .error e | .ok (x, n) => if n = b.length then .ok x else .error 4) := by
      refine Lib.hid ?_
      unfold readR
      rw [if_neg hl]
      cases parse 32 b <;> rfl
    have hl2 : b.length ≤ 16777216 := by simp only [most] at hl; omega
    clear hl
    go_enter Try.func49, Try.ntmps49
    go_wp2_with fail
    refine (rlp_read 32 0 rfl b _ _ H.out hl2).mono ?_
    rintro e w1 ⟨v1, rfl, hg1, hv1⟩
    unfold ReadV zItem at hv1
    have hs1 := hg1.size
    simp only [size_new] at hs1
    have HZ1 : Hid (w1.heap[w.heap.size]? = some (.cells zCells 41 (0, 0))) := Lib.hid ((hg1.block _ (by simp)).trans (heap_alloc_new w _))
    have HG1 := Lib.hid ((gr_alloc w _).trans hg1)
    clear hg1 H
    cases hp : parse 32 b with
    | error e =>
      rw [hp] at hv1 HR
      dsimp only at hv1
      subst hv1
      have he := parse_err _ _ _ hp
      have hne : ((e : Int) != 0) = true := by simp; omega
      have hne2 : ((e : Int) == 0) = false := by simp; omega
      have HE := Lib.hid (show readR b = .error e from HR.out)
      clear hp HR
      go_wp2_with refine wpList_store_row rfl 41 (.tmp 2) (.tmp 27) rfl w.heap.size zCells rfl rfl 41 _ ((heap_old w1 _ _ (by omega)).trans HZ1.out) (item_info _ rfl) rfl (by simp [Value.oneCell']) ?_
      exact bodyPost_ret (results_item2 rfl _ _ w.heap.size _ rfl (heap_setRow_same _ _ _ _ _ ((heap_old w1 _ _ (by omega)).trans HZ1.out)) rfl) rfl ⟨_, rfl, gr_setRow (HG1.out.trans (gr_alloc _ _)) _ _ (Nat.le_refl _), readRV_err HE.out rfl⟩
    | ok p =>
      obtain ⟨x, n⟩ := p
      rw [hp] at hv1 HR
      obtain ⟨vi, rfl, csx, rfl, hix⟩ := hv1
      obtain ⟨fx, Ax, nx, cx, Ay, ny, cy, rfl⟩ := hix.len
      have hn := (parse_E _ _ _ _ hp).2.1
      have HIX := Lib.hid hix
      clear hp hix
      by_cases hnb : n = b.length
      · have HO := Lib.hid (show readR b = .ok x by rw [HR.out]; exact if_pos hnb)
        have hnn : ((n : Int) != (b.length : Int)) = false := by simp; omega
        clear HR hnb
        go_wp2_with refine wpList_store_row rfl 41 (.tmp 2) (.tmp 29) rfl w.heap.size #[.bool fx, .slice Ax nx cx, .slice Ay ny cy] rfl rfl 41 _ ((heap_old w1 _ _ (by omega)).trans HZ1.out) (item_info _ rfl) rfl (by simp [Value.oneCell']) ?_
        refine bodyPost_ret (results_item2 rfl _ _ w.heap.size _ rfl (heap_setRow_same _ _ _ _ _ ((heap_old w1 _ _ (by omega)).trans HZ1.out)) rfl) rfl ⟨_, rfl, gr_setRow (HG1.out.trans (gr_alloc _ _)) _ _ (Nat.le_refl _), readRV_ok HO.out rfl ⟨_, rfl, ItemAtP.mono (fun k hk => ?_) (fun p hp => ?_) _ _ HIX.out⟩⟩
        · have h1 := hk.1
          have h2 := hk.2
          simp only [size_new] at h1
          rw [size_setRow, size_new]
          omega
        · have h1 := hp.1
          have h2 := hp.2
          simp only [size_new] at h1
          rw [cell_setRow (by omega)]
          exact World.cell?_alloc_lt _ _ _ h2
      · have HE := Lib.hid (show readR b = .error 4 by rw [HR.out]; exact if_neg hnb)
        have hnn : ((n : Int) != (b.length : Int)) = true := by simp; omega
        clear HR hnb
        go_wp2_with refine wpList_store_row rfl 41 (.tmp 2) (.tmp 27) rfl w.heap.size zCells rfl rfl 41 _ ((heap_old w1 _ _ (by omega)).trans HZ1.out) (item_info _ rfl) rfl (by simp [Value.oneCell']) ?_
        exact bodyPost_ret (results_item2 rfl _ _ w.heap.size _ rfl (heap_setRow_same _ _ _ _ _ ((heap_old w1 _ _ (by omega)).trans HZ1.out)) rfl) rfl ⟨_, rfl, gr_setRow (HG1.out.trans (gr_alloc _ _)) _ _ (Nat.le_refl _), readRV_err HE.out rfl⟩
set_option maxHeartbeats 4000000 in
set_option maxRecDepth 20000 in
theorem ref_Read (v : Value) (b : List UInt8) (w : World) (h : IsB w v b) : Calls Try.prog 53 #[v] w (Ret (ReadRV w.heap.size b) w) := by
  have h0 := h
  obtain ⟨A, cp, rfl, hc1, hc2, _⟩ := h
  have H := Lib.hid (h0.gr (gr_alloc w (.cells zCells 41)))
  unfold maxLen at hc2
  clear h0
  by_cases hl : b.length > most
  · have HR := Lib.hid (show readR b = .error 3 by unfold readR; rw [if_pos hl])
    simp only [most] at hl
    go_enter Try.func53, Try.ntmps53
    go_wp2_with fail
    exact bodyPost_ret (results_item2 rfl _ _ w.heap.size zCells rfl (heap_alloc_new w _) rfl) rfl ⟨_, rfl, gr_alloc w _, readRV_err HR.out rfl⟩
  · have HR : Hid (readR b = match parse 32 b with | .error e => .error e | .ok (x, n) => if n = b.length then .ok x else .error 4) := by
      refine Lib.hid ?_
      unfold readR
      rw [if_neg hl]
      cases parse 32 b <;> rfl
    have hl2 : b.length ≤ 16777216 := by simp only [most] at hl; omega
    clear hl
    go_enter Try.func53, Try.ntmps53
    go_wp2_with fail
    refine (ref_part 32 (Nat.le_refl _) b _ _ H.out hl2).mono ?_
    rintro e w1 ⟨v1, rfl, hg1, hv1⟩
    unfold PartV zItem at hv1
    have hs1 := hg1.size
    simp only [size_new] at hs1
    have HZ1 : Hid (w1.heap[w.heap.size]? = some (.cells zCells 41 (0, 0))) := Lib.hid ((hg1.block _ (by simp)).trans (heap_alloc_new w _))
    have HG1 := Lib.hid ((gr_alloc w _).trans hg1)
    clear hg1 H
    cases hp : parse 32 b with
    | error e =>
      rw [hp] at hv1 HR
      dsimp only at hv1
      subst hv1
      have he := parse_err _ _ _ hp
      have hne : ((e : Int) != 0) = true := by simp; omega
      have HE := Lib.hid (show readR b = .error e from HR.out)
      clear hp HR
      go_wp2_with refine wpList_store_row rfl 41 (.tmp 2) (.tmp 19) rfl w.heap.size zCells rfl rfl 41 _ ((heap_old w1 _ _ (by omega)).trans HZ1.out) (item_info _ rfl) rfl (by simp [Value.oneCell']) ?_
      exact bodyPost_ret (results_item2 rfl _ _ w.heap.size _ rfl (heap_setRow_same _ _ _ _ _ ((heap_old w1 _ _ (by omega)).trans HZ1.out)) rfl) rfl ⟨_, rfl, gr_setRow (HG1.out.trans (gr_alloc _ _)) _ _ (Nat.le_refl _), readRV_err HE.out rfl⟩
    | ok p =>
      obtain ⟨x, n⟩ := p
      rw [hp] at hv1 HR
      obtain ⟨vi, rfl, csx, rfl, hix⟩ := hv1
      obtain ⟨fx, Ax, nx, cx, Ay, ny, cy, rfl⟩ := hix.len
      have hn := (parse_E _ _ _ _ hp).2.1
      have HIX := Lib.hid hix
      clear hp hix
      by_cases hnb : n = b.length
      · have HO := Lib.hid (show readR b = .ok x by rw [HR.out]; exact if_pos hnb)
        have hnn : ((n : Int) != (b.length : Int)) = false := by simp; omega
        clear HR hnb
        go_wp2_with refine wpList_store_row rfl 41 (.tmp 2) (.tmp 26) rfl w.heap.size #[.bool fx, .slice Ax nx cx, .slice Ay ny cy] rfl rfl 41 _ ((heap_old w1 _ _ (by omega)).trans HZ1.out) (item_info _ rfl) rfl (by simp [Value.oneCell']) ?_
        refine bodyPost_ret (results_item2 rfl _ _ w.heap.size _ rfl (heap_setRow_same _ _ _ _ _ ((heap_old w1 _ _ (by omega)).trans HZ1.out)) rfl) rfl ⟨_, rfl, gr_setRow (HG1.out.trans (gr_alloc _ _)) _ _ (Nat.le_refl _), readRV_ok HO.out rfl ⟨_, rfl, ItemAtP.mono (fun k hk => ?_) (fun p hp => ?_) _ _ HIX.out⟩⟩
        · have h1 := hk.1
          have h2 := hk.2
          simp only [size_new] at h1
          rw [size_setRow, size_new]
          omega
        · have h1 := hp.1
          have h2 := hp.2
          simp only [size_new] at h1
          rw [cell_setRow (by omega)]
          exact World.cell?_alloc_lt _ _ _ h2
      · have HE := Lib.hid (show readR b = .error 4 by rw [HR.out]; exact if_neg hnb)
        have hnn : ((n : Int) != (b.length : Int)) = true := by simp; omega
        clear HR hnb
        go_wp2_with refine wpList_store_row rfl 41 (.tmp 2) (.tmp 25) rfl w.heap.size zCells rfl rfl 41 _ ((heap_old w1 _ _ (by omega)).trans HZ1.out) (item_info _ rfl) rfl (by simp [Value.oneCell']) ?_
        exact bodyPost_ret (results_item2 rfl _ _ w.heap.size _ rfl (heap_setRow_same _ _ _ _ _ ((heap_old w1 _ _ (by omega)).trans HZ1.out)) rfl) rfl ⟨_, rfl, gr_setRow (HG1.out.trans (gr_alloc _ _)) _ _ (Nat.le_refl _), readRV_err HE.out rfl⟩
end Go.Proofs.Ytmlajcbabimkjaa
/-
  The reference: an item's bytes; both Packs.
  Conditions: none.
-/
namespace Go.Proofs.Ytmlajcbabimkjaa
set_option linter.unusedVariables false
open Go.RowKit Mono Rlp
theorem packRL_le : ∀ (xs : List Raw) (acc l : List UInt8), packRL xs acc = some l → acc.length ≤ most → l.length ≤ most
  | [], acc, l, h, ha => by rw [packRL] at h; rw [← Option.some.inj h]; exact ha
  | x :: xs, acc, l, h, ha => by
    rw [packRL] at h
    cases hx : packR x with
    | none => rw [hx] at h; cases h
    | some j =>
      rw [hx] at h
      dsimp only at h
      split at h
      · cases h
      · exact packRL_le xs _ l h (by rw [List.length_append]; omega)
theorem packR_le (r : Raw) (b : List UInt8) (h : packR r = some b) : b.length ≤ most + 9 := by
  obtain ⟨lst, bs, xs⟩ := r
  cases lst with
  | false =>
    rw [packR] at h
    split at h
    · cases h
    · rw [← Option.some.inj h, EB_length]; exact szE_le bs (by omega)
  | true =>
    rw [packR] at h
    cases hm : packRL xs [] with
    | none => rw [hm] at h; cases h
    | some l =>
      rw [hm] at h
      have := packRL_le xs [] l hm (by simp)
      rw [← Option.some.inj h, List.length_append, head_length]
      exact szB_le _ this
end Go.Proofs.Ytmlajcbabimkjaa
/-
  Pack, the program's and the reference's: one answer.
  Conditions: none.
-/
namespace Go.Proofs.Ytmlajcbabimkjaa
set_option linter.unusedVariables false
open Go.RowKit Mono Rlp
def PackV (base : Nat) (r : Raw) : VP := fun v w => match packed r with
  | some b => ∃ vb, v = .tuple #[vb, .int .i64 0] ∧ OwnB w base vb b
  | none => v = .tuple #[.slice none 0 0, .int .i64 3]
theorem packed_le {r : Raw} {b : List UInt8} (h : packed r = some b) : b = E r ∧ b.length ≤ most := by
  unfold packed at h
  cases hm : meas r 0 with
  | none => rw [hm] at h; cases h
  | some n =>
    rw [hm] at h
    dsimp only at h
    split at h
    · cases h
    · cases h
      have := meas_E r 0 n hm
      exact ⟨rfl, by omega⟩
set_option maxHeartbeats 2000000 in
set_option maxRecDepth 20000 in
theorem rlp_pack (v : Value) (x : Raw) (w : World) (h : IsItem w v x) : Calls Try.prog 46 #[v] w (Ret (fun v w' => PackV w.heap.size x v w') w) := by
  have hx := h
  obtain ⟨lst, bs, xs⟩ := x
  obtain ⟨vb, vl, rfl, ⟨A9, c9, rfl, _⟩, A, c, rows, rfl, _⟩ := isItem_form h
  clear h
  generalize hr : Raw.mk lst bs xs = r at hx ⊢
  have HX := Lib.hid hx
  clear hx
  go_enter Try.func46, Try.ntmps46
  go_wp2_with fail
  refine (rlp_of _ r _ (HX.out.gr (gr_alloc w _))).mono ?_
  rintro e w1 ⟨v1, rfl, hg1, ho1⟩
  have HG1 := Lib.hid ((gr_alloc w _).trans hg1)
  have HO1 := Lib.hid ho1
  clear hg1 ho1 HX
  go_wp2_with fail
  refine (rlp_measure 32 0 rfl r v1 _ HO1.out).mono ?_
  rintro e w2 ⟨v2, rfl, hg2, hm2⟩
  have HG2 := Lib.hid (HG1.out.trans hg2)
  have HO2 := Lib.hid (HO1.out.gr hg2)
  unfold MeasV at hm2
  clear hg2 HO1 HG1 hr
  cases hmx : meas r 0 with
  | none =>
    rw [hmx] at hm2
    obtain ⟨z, rfl⟩ := hm2
    have HP := Lib.hid (show packed r = none by unfold packed; rw [hmx])
    clear hmx
    go_wp2_with fail
    refine bodyPost_ret (results_tmp2 rfl _ _ _) rfl ?_
    refine ⟨_, rfl, HG2.out, ?_⟩
    unfold PackV
    rw [HP.out]
    rfl
  | some n =>
    rw [hmx] at hm2
    dsimp only at hm2
    subst hm2
    have hn := meas_le _ _ _ hmx
    simp only [most] at hn
    by_cases h3 : n > most
    · have HP := Lib.hid (show packed r = none by unfold packed; rw [hmx]; dsimp only; rw [if_pos h3])
      simp only [most] at h3
      clear hmx
      go_wp2_with fail
      refine bodyPost_ret (results_tmp2 rfl _ _ _) rfl ?_
      refine ⟨_, rfl, HG2.out, ?_⟩
      unfold PackV
      rw [HP.out]
      rfl
    · have HP := Lib.hid (show packed r = some (E r) by unfold packed; rw [hmx]; dsimp only; rw [if_neg h3])
      have hl := (packed_le HP.out).2
      simp only [most] at h3
      have h4 : n ≤ 16777216 := by omega
      clear hmx h3
      go_wp2_with fail
      refine (rlp_write _ r v1 _ (Nat.lt_succ_self _) hl HO2.out).mono ?_
      rintro e w3 ⟨v3, rfl, hg3, ho3⟩
      have HG3 := Lib.hid (HG2.out.trans hg3)
      have HO3 := Lib.hid (own_base ho3 HG2.out.size)
      clear hg3 ho3
      go_wp2_with fail
      refine bodyPost_ret (results_tmp2 rfl _ _ _) rfl ?_
      refine ⟨_, rfl, HG3.out, ?_⟩
      unfold PackV
      rw [HP.out]
      exact ⟨v3, rfl, HO3.out⟩
end Go.Proofs.Ytmlajcbabimkjaa
/-
  Numbers and words as items: the functions of rlp and of the reference.
  Conditions: none.
-/
namespace Go.Proofs.Ytmlajcbabimkjaa
set_option linter.unusedVariables false
open Go.RowKit Mono Rlp
theorem gr_drewN {a w : World} (h : Gr a w) (n : Nat) : Gr a (w.drewN n) := below_drewN h n
def BytesV (x : Raw) : VP := fun v w => ∃ vb A n c, vb = .slice A n c ∧ n ≤ c ∧ c ≤ maxLen ∧ v = .tuple #[vb, .bool (numB x).isSome] ∧ ∀ bs, numB x = some bs → IsB w vb bs
set_option maxRecDepth 20000 in
set_option maxHeartbeats 1000000 in
theorem rlp_bytes (v : Value) (x : Raw) (w : World) (h : IsItem w v x) : Calls Try.prog 80 #[v] w (Ret (BytesV x) w) := by
  have HX := Lib.hid h
  obtain ⟨lx, bx, xs⟩ := x
  obtain ⟨vb1, vl1, rfl, ⟨A0, c0, rfl, hc0, hm0, _⟩, A1, c1, rows1, rfl, hc1, hm1, _⟩ := isItem_form h
  unfold maxLen at hm0 hm1
  clear h
  cases lx with
  | true =>
    go_enter Try.func80, Try.ntmps80
    go_wp2_with fail
    refine (rlp_of _ _ _ (HX.out.gr (gr_alloc w _))).mono ?_
    rintro e w1 ⟨v1, rfl, hg1, vl, rfl, hl⟩
    have HG1 := Lib.hid ((gr_alloc w _).trans hg1)
    clear hg1 hl
    go_wp2_with fail
    go_quiet (fail)
    go_wp2_with fail
    refine bodyPost_ret (results_tmp2 rfl _ _ _) rfl ⟨_, rfl, gr_drewN HG1.out nq, .slice none 0 0, none, 0, 0, rfl, Nat.le_refl _, by simp [maxLen], rfl, fun bs h => by cases h⟩
  | false =>
    go_enter Try.func80, Try.ntmps80
    go_wp2_with fail
    refine (rlp_of _ _ _ (HX.out.gr (gr_alloc w _))).mono ?_
    rintro e w1 ⟨v1, rfl, hg1, vl, rfl, hl⟩
    have HG1 := Lib.hid ((gr_alloc w _).trans hg1)
    obtain ⟨A, c, rfl, hd1, hd2, hr⟩ := hl
    have HR := Lib.hid hr
    have hd2' := hd2
    unfold maxLen at hd2
    clear hg1 hr
    rcases bx with _ | ⟨b, l⟩
    · simp only [List.length_nil] at *
      go_wp2_with fail
      go_quiet (fail)
      go_wp2_with fail
      refine bodyPost_ret (results_tmp2 rfl _ _ _) rfl ⟨_, rfl, gr_drewN HG1.out nq, _, A, 0, c, rfl, by omega, hd2', rfl, fun bs h => ?_⟩
      cases h
      exact ⟨A, c, rfl, hd1, hd2', HR.out⟩
    · obtain ⟨bl, o, rfl, hbl, hcell⟩ := isB_at HR.out 0 (by simp)
      have hlen : (b :: l).length = l.length + 1 := rfl
      rw [hlen] at *
      simp only [List.getElem_cons_zero] at hcell
      rw [Nat.add_zero] at hcell
      by_cases hb : b = 0
      · subst hb
        have hcell' : w1.cell? ⟨bl, o, none⟩ = some (.int .u8 0) := hcell
        clear hcell
        go_wp2_with fail
        go_quiet (fail)
        go_wp2_with fail
        refine bodyPost_ret (results_tmp2 rfl _ _ _) rfl ⟨_, rfl, gr_drewN HG1.out nq, .slice (some ⟨bl, o, none⟩) (l.length + 1) c, some ⟨bl, o, none⟩, l.length + 1, c, rfl, hd1, hd2', rfl, fun bs h => ?_⟩
        cases h
      · have hn : ((b.toNat : Int) == 0) = false := by
          rw [Bool.eq_false_iff]
          intro e
          have e2 : (b.toNat : Int) = 0 := by simpa using e
          exact hb (UInt8.toNat_inj.1 (by rw [show (0 : UInt8).toNat = 0 from rfl]; omega))
        have hsome : numB (.mk false (b :: l) xs) = some (b :: l) := by rw [numB, if_neg (by simpa using hb)]
        have HS := Lib.hid hsome
        clear hsome
        go_wp2_with fail
        go_quiet (fail)
        go_wp2_with fail
        refine bodyPost_ret (results_tmp2 rfl _ _ _) rfl ⟨_, rfl, gr_drewN HG1.out nq, .slice (some ⟨bl, o, none⟩) (l.length + 1) c, some ⟨bl, o, none⟩, l.length + 1, c, rfl, hd1, hd2', ?_, fun bs h => ?_⟩
        · rw [HS.out]
          simp
          exact .inr fun e => by rw [e] at hn; simp at hn
        · rw [HS.out] at h
          cases h
          exact ⟨_, c, rfl, hd1, hd2', HR.out⟩
theorem u64_join (n x : Nat) (hn : n < 2 ^ 56) (hx : x < 256) : bits .or .u64 ((n : Int) * 256) (x : Int) = ((n * 256 + x : Nat) : Int) := by
  have := u64_or_nat (n * 256) x (by omega) (by omega)
  rw [nat_join 8 (n * 256) x (by omega) (by omega)] at this
  rw [← this]
  simp
def intV (x : Raw) : Value := .tuple #[.int .i64 (((intR x).getD 0 : Nat) : Int), .bool (intR x).isSome]
theorem intV_none {x : Raw} (h : intR x = none) : intV x = .tuple #[.int .i64 0, .bool false] := by unfold intV; rw [h]; rfl
theorem intV_some {x : Raw} {n : Nat} (h : intR x = some n) : intV x = .tuple #[.int .i64 (n : Int), .bool true] := by unfold intV; rw [h]; rfl
set_option maxRecDepth 20000 in
set_option maxHeartbeats 1000000 in
theorem rlp_Int (v : Value) (x : Raw) (w : World) (h : IsItem w v x) : Calls Try.prog 50 #[v] w (Ret (eqV (intV x)) w) := by
  have HX := Lib.hid h
  obtain ⟨lx, bx, xs⟩ := x
  obtain ⟨vb1, vl1, rfl, ⟨A0, c0, rfl, hc0, hm0, _⟩, A1, c1, rows1, rfl, hc1, hm1, _⟩ := isItem_form h
  unfold maxLen at hm0 hm1
  clear h
  generalize bx.length = n0 at HX hc0 ⊢
  generalize xs.length = n1 at HX hc1 ⊢
  generalize Raw.mk lx bx xs = x at HX ⊢
  go_enter Try.func50, Try.ntmps50
  go_wp2_with fail
  refine (rlp_bytes _ x _ (HX.out.gr (gr_alloc w _))).mono ?_
  rintro e w1 ⟨v1, rfl, hg1, vb, A, n, c, rfl, hn1, hn2, rfl, hb⟩
  have HG1 := Lib.hid ((gr_alloc w _).trans hg1)
  unfold maxLen at hn2
  clear hg1
  cases hx : numB x with
  | none =>
    have HI := Lib.hid (intV_none (show intR x = none by unfold intR; rw [hx]; rfl))
    clear hb hx
    go_wp2_with fail
    refine bodyPost_ret (results_tmp2 rfl _ _ _) rfl ⟨_, rfl, HG1.out, ?_⟩
    unfold eqV
    rw [HI.out]
    rfl
  | some bs =>
    have hI : intR x = if bs.length ≤ 8 ∧ val bs ≤ 9223372036854775807 then some (val bs) else none := by unfold intR; rw [hx]; rfl
    obtain ⟨A', c', he, hd1, hd2, hr⟩ := hb bs hx
    injection he with e1 e2 e3
    subst e1 e2 e3
    have HR := Lib.hid hr
    clear hb hx hr hn1 hd2
    by_cases h8 : 8 < bs.length
    · have HI := Lib.hid (intV_none (show intR x = none by rw [hI, if_neg (fun h => by omega)]))
      clear hI
      go_wp2_with fail
      refine bodyPost_ret (results_tmp2 rfl _ _ _) rfl ⟨_, rfl, HG1.out, ?_⟩
      unfold eqV
      rw [HI.out]
      rfl
    · have h9 : bs.length ≤ 8 := by omega
      have HI := Lib.hid hI
      clear h8 hI
      go_wp2_with fail
      go_loopw [6, 23] (fun u i wr => ∃ k : Nat, k ≤ bs.length ∧ i = .int .i64 k ∧ u = .int .u64 (val (bs.take k) : Nat) ∧ wr = w1) (fun _ i _ => bs.length - (intOf i).toNat)
      case atStart => exact ⟨0, by omega, rfl, rfl, rfl⟩
      case round =>
        obtain ⟨k, hk, rfl, rfl, rfl⟩ := hrel
        by_cases h1 : k < bs.length
        · obtain ⟨bl, o, rfl, hbl, hcell⟩ := isB_at HR.out k h1
          have hlt : val (bs.take k) < 2 ^ 56 := by
            have h2 := val_lt (bs.take k)
            have h3 : 256 ^ (bs.take k).length ≤ 256 ^ 7 := Nat.pow_le_pow_right (by omega) (by rw [List.length_take]; omega)
            omega
          have hbk := bv_lt bs[k]
          have HJ := Lib.hid (u64_join (val (bs.take k)) bs[k].toNat hlt hbk)
          have HV := Lib.hid (val_take bs k h1)
          generalize val (bs.take k) = q at hlt HJ HV
          generalize bs[k].toNat = z at hcell hbk HJ HV
          go_wp2_with fail
          go_roundw
          case rel =>
            refine ⟨k + 1, by omega, by go_num, ?_, trivial⟩
            rw [HV.out, ← HJ.out]
          case measure => simp [intOf]; omega
        · have hk2 : k = bs.length := by omega
          have htk : bs.take k = bs := List.take_of_length_le (by omega)
          have hlt : val bs < 2 ^ 64 := by
            have h2 := val_lt bs
            have h3 : 256 ^ bs.length ≤ 256 ^ 8 := Nat.pow_le_pow_right (by omega) h9
            omega
          rw [htk]
          by_cases h3 : val bs ≤ 9223372036854775807
          · have HI2 := Lib.hid (intV_some (show intR x = some (val bs) by rw [HI.out, if_pos ⟨h9, h3⟩]))
            generalize val bs = q at h3 hlt HI2 ⊢
            go_wp2_with fail
            refine bodyPost_ret (results_tmp2 rfl _ _ _) rfl ⟨_, rfl, HG1.out, ?_⟩
            unfold eqV
            rw [HI2.out]
            simp
          · have HI2 := Lib.hid (intV_none (show intR x = none by rw [HI.out, if_neg (fun h => h3 h.2)]))
            have h4 : 9223372036854775807 < val bs := by omega
            generalize val bs = q at h3 h4 hlt HI2 ⊢
            clear h3
            go_wp2_with fail
            refine bodyPost_ret (results_tmp2 rfl _ _ _) rfl ⟨_, rfl, HG1.out, ?_⟩
            unfold eqV
            rw [HI2.out]
            simp
end Go.Proofs.Ytmlajcbabimkjaa
/-
  Words of items: rlp.Word and the reference's WordOf.
  Conditions: none.
-/
namespace Go.Proofs.Ytmlajcbabimkjaa
set_option linter.unusedVariables false
open Go.RowKit Mono Rlp
theorem results_word2 {fn : Func} {p u : Tmp} (h : fn.results = #[.cell p 32, .tmp u]) (tmps : Array Value) (w : World) (g : Nat) (t : TypeId) (l : List UInt8)
    (hp : tmps.getD p undef = .pointer (some ⟨g, 0, none⟩)) (hg : Arr w g t l) (hs : l.length = 32) :
    (results fn tmps).run Try.prog w = .ok (.tuple #[arrV l, tmps.getD u undef]) w := by
  have hp' : tmps[p]?.getD undef = .pointer (some ⟨g, 0, none⟩) := by simpa using hp
  have hr := run_loadVar_row w g t 32 (bvs l).toArray (0, 0) _ hg Try.underlying32 rfl (arr_info l hs)
  simp [results, h, hp', asAddr, hr]
  rfl
theorem arr_zero (w : World) : Arr (w.alloc (.cells (bvs zero32).toArray 32)) w.heap.size 32 zero32 := heap_alloc_new w _
theorem arr_old {w : World} {g : Nat} {t : TypeId} {l : List UInt8} (h : Arr w g t l) (o : Obj) : Arr (w.alloc o) g t l := (heap_old w o g h.lt).trans h
theorem arr_setRow {w : World} {g : Nat} {t : TypeId} {l m : List UInt8} (h : Arr w g t l) : Arr (w.setRow g (bvs m).toArray) g t m := heap_setRow_same w g _ _ t h
theorem cells_of3 {w : World} {g : Nat} {a b c : Value} {T : TypeId} (h : w.heap[g]? = some (.cells #[a, b, c] T (0, 0))) : w.cell? ⟨g, 0, none⟩ = some a ∧ w.cell? ⟨g, 1, none⟩ = some b ∧ w.cell? ⟨g, 2, none⟩ = some c :=
  ⟨by rw [cell_of_row _ _ _ _ _ (0, 0) h]; rfl, by rw [cell_of_row _ _ _ _ _ (0, 0) h]; rfl, by rw [cell_of_row _ _ _ _ _ (0, 0) h]; rfl⟩
set_option maxRecDepth 100000 in
theorem run_alloc_word (w : World) : (Instr.alloc 32 true (.tuple #[])).run Try.prog w = .ok (.pointer (some ⟨w.heap.size, 0, none⟩)) (w.alloc (.cells (bvs zero32).toArray 32)) := by kernel_rfl
theorem wpL_alloc_word {w : World} {ops : Array Oper} {rest : List Oper} {o : Oper} {a : Act} {Q : Exit → Act → World → Prop} (g : Nat) (hg : w.heap.size = g) (hgd : o.guard = none) (ho : o.op = .alloc 32)
    (h : ∀ w', Hid (Arr w' g 32 zero32) → Hid (Gr w w') → w'.heap.size = g + 1 → wpList Try.prog ops Q rest (a.put o.dst (.pointer (some ⟨g, 0, none⟩))) w') : wpList Try.prog ops Q (o :: rest) a w := by
  subst hg
  refine wpList_plain hgd fun _ hK => ?_
  have h1 := hK _ _ (h _ (Lib.hid (arr_zero w)) (Lib.hid (gr_alloc w _)) (by simp))
  unfold Oper.wp execOp
  simp only [ho, Sem.run_bind, run_alloc_word, Result.andThen_ok, Sem.run_pure]
  exact h1
theorem slice_word (w : World) (g k : Nat) (z : Int) (hz : z = (k : Int)) (hk : k ≤ 32) : (Instr.sliceAt 32 (.pointer (some ⟨g, 0, none⟩)) (some (.int .i64 z)) none none).run Try.prog w = .ok (.slice (if 32 = k then some ⟨g, 0, none⟩ else some ⟨g, k, none⟩) (32 - k) (32 - k)) w := by
  have hn : Try.prog.arrayLen 32 = 32 := by kernel_rfl
  subst hz
  have hs : (sizeOf (Try.prog.elem 32)).run Try.prog w = .ok 1 w := by kernel_rfl
  rw [run_sliceAt_array_l (P := Try.prog) w 32 ⟨g, 0, none⟩ (by kernel_rfl) .i64 (k : Int) (by omega) (by rw [hn]; omega), hs]
  simp [slicedAt, hn, add_none, Result.andThen]
  split <;> rfl
theorem slice_word_end (g n : Nat) (z : Int) (hz : z = 32 - (n : Int)) (hn : n ≤ 32) : ∃ dp, (∀ w, (Instr.sliceAt 32 (.pointer (some ⟨g, 0, none⟩)) (some (.int .i64 z)) none none).run Try.prog w = .ok (.slice dp n n) w) ∧ (0 < n → dp = some ⟨g, 32 - n, none⟩) := by
  refine ⟨if 32 = 32 - n then some ⟨g, 0, none⟩ else some ⟨g, 32 - n, none⟩, fun w => ?_, fun h => ?_⟩
  · have := slice_word w g (32 - n) z (by omega) (by omega)
    rw [show 32 - (32 - n) = n by omega] at this
    exact this
  · rw [if_neg (by omega)]
def wordV (x : Raw) : Value := .tuple #[arrV ((wordR x).getD zero32), .bool (wordR x).isSome]
theorem wordV_none {x : Raw} (h : wordR x = none) : wordV x = .tuple #[arrV zero32, .bool false] := by unfold wordV; rw [h]; rfl
theorem wordV_some {x : Raw} {l : List UInt8} (h : wordR x = some l) : wordV x = .tuple #[arrV l, .bool true] := by unfold wordV; rw [h]; rfl
set_option maxRecDepth 20000 in
set_option maxHeartbeats 1000000 in
theorem rlp_Word (v : Value) (x : Raw) (w : World) (h : IsItem w v x) : Calls Try.prog 51 #[v] w (Ret (eqV (wordV x)) w) := by
  have HX := Lib.hid h
  obtain ⟨lx, bx, xs⟩ := x
  obtain ⟨vb1, vl1, rfl, ⟨A0, c0, rfl, hc0, hm0, _⟩, A1, c1, rows1, rfl, hc1, hm1, _⟩ := isItem_form h
  unfold maxLen at hm0 hm1
  clear h
  generalize bx.length = n0 at HX hc0 ⊢
  generalize xs.length = n1 at HX hc1 ⊢
  generalize Raw.mk lx bx xs = x at HX ⊢
  go_enter Try.func51, Try.ntmps51
  go_wp2_with (refine wpL_alloc_word (w.heap.size + 1) (by simp) rfl rfl ?_; intro w0 hA0 hG0 hs0; obtain ⟨q0, q1, q2⟩ := cells_of3 ((hG0.out.block w.heap.size (by simp)).trans (heap_alloc_new w _)))
  have HG0 := Lib.hid ((gr_alloc w (.cells #[.bool lx, .slice A0 n0 c0, .slice A1 n1 c1] 41)).trans hG0.out)
  refine (rlp_bytes _ x _ (HX.out.gr HG0.out)).mono ?_
  rintro e w1 ⟨v1, rfl, hg1, vb, A, n, c, rfl, hn1, hn2, rfl, hb⟩
  have HG1 := Lib.hid (HG0.out.trans hg1)
  have HA1 := Lib.hid (hA0.out.gr hg1)
  have hs1 := hg1.size
  unfold maxLen at hn2
  clear hg1 hA0 hG0 HG0
  cases hx : numB x with
  | none =>
    have HI := Lib.hid (wordV_none (show wordR x = none by unfold wordR; rw [hx]; rfl))
    clear hb hx
    go_wp2_with first
      | (refine wpL_alloc_word w1.heap.size rfl rfl rfl ?_; intro w2 hA2 hG2 hs2; have HA12 := Lib.hid (HA1.out.gr hG2.out))
      | (refine wpList_store_row rfl 32 (.tmp 2) (.tmp 19) rfl (w.heap.size + 1) (bvs zero32).toArray rfl rfl 32 _ HA12.out (arr_info _ zero32_length) rfl (arr_one _) ?_)
    refine bodyPost_ret (results_word2 rfl _ _ (w.heap.size + 1) 32 zero32 rfl (arr_setRow HA12.out) zero32_length) rfl ?_
    exact ⟨_, rfl, gr_setRow (HG1.out.trans hG2.out) _ _ (by omega), by unfold eqV; rw [HI.out]; rfl⟩
  | some bs =>
    have hW : wordR x = if bs.length ≤ 32 then some (pad bs) else none := by unfold wordR; rw [hx]; rfl
    obtain ⟨A', c', he, hd1, hd2, hr⟩ := hb bs hx
    injection he with e1 e2 e3
    subst e1 e2 e3
    have HR := Lib.hid hr
    clear hb hx hr hn1 hd2
    by_cases h8 : 32 < bs.length
    · have HI := Lib.hid (wordV_none (show wordR x = none by rw [hW, if_neg (by omega)]))
      clear hW
      go_wp2_with first
        | (refine wpL_alloc_word w1.heap.size rfl rfl rfl ?_; intro w2 hA2 hG2 hs2; have HA12 := Lib.hid (HA1.out.gr hG2.out))
        | (refine wpList_store_row rfl 32 (.tmp 2) (.tmp 19) rfl (w.heap.size + 1) (bvs zero32).toArray rfl rfl 32 _ HA12.out (arr_info _ zero32_length) rfl (arr_one _) ?_)
      refine bodyPost_ret (results_word2 rfl _ _ (w.heap.size + 1) 32 zero32 rfl (arr_setRow HA12.out) zero32_length) rfl ?_
      exact ⟨_, rfl, gr_setRow (HG1.out.trans hG2.out) _ _ (by omega), by unfold eqV; rw [HI.out]; rfl⟩
    · have h9 : bs.length ≤ 32 := by omega
      have HI := Lib.hid (wordV_some (show wordR x = some (pad bs) by rw [hW, if_pos h9]))
      have HP := Lib.hid (pad_length bs h9)
      have hSP : splice (bvs zero32) (32 - bs.length) (bvs bs) = bvs (pad bs) := by
        unfold splice pad zero32 bvs
        rw [List.map_append, ← List.map_take, ← List.map_drop, List.take_replicate, List.drop_replicate, List.length_map]
        rw [show min (32 - bs.length) 32 = 32 - bs.length by omega, show 32 - (32 - bs.length + bs.length) = 0 by omega]
        simp
      have HSP := Lib.hid hSP
      clear hW h8 hSP
      obtain ⟨dp, hsl, hdp⟩ := slice_word_end w1.heap.size bs.length (32 - (bs.length : Int)) rfl h9
      have HDP := Lib.hid hdp
      have HSL := Lib.hid hsl
      clear hdp hsl
      have hsrc : ∀ w' : World, Gr w1 w' → 0 < (bvs bs).length → dp = some ⟨w1.heap.size, 32 - bs.length, none⟩ ∧ ∃ ad, A = some ad ∧ ∀ j v, (bvs bs)[j]? = some v → w'.cell? (ad.add j) = some v := fun w' hg h0 => by
        rw [bvs_length] at h0
        obtain ⟨b, o, e, hb, hc⟩ := (HR.out.gr hg) (fun e => by have := congrArg List.length e; rw [bvs_length] at this; simp at this; rw [this] at h0; simp at h0)
        exact ⟨HDP.out h0, _, e, fun j v hv => by rw [add_none]; exact hc j v hv⟩
      have HSRC := Lib.hid hsrc
      clear hsrc
      go_wp2_with first
        | (refine wpL_alloc_word w1.heap.size rfl rfl rfl ?_; intro w2 hA2 hG2 hs2; have hsl2 := HSL.out w2; have HA12 := Lib.hid (HA1.out.gr hG2.out); have HG2 := Lib.hid (HG1.out.trans hG2.out))
        | (refine wpList_copy_splice rfl (.tmp 23) (.tmp 24) 23 23 rfl 5 Try.underlying23 (by kernel_rfl) dp A bs.length bs.length bs.length c rfl rfl w1.heap.size (32 - bs.length) (bvs zero32) 32 hA2.out (bvs bs) (by simp [bvs]) (HSRC.out w2 hG2.out) (by simp [bvs, zero32]; omega) (bvs_one _) w1.heap.size w1 hG2.out (Nat.le_refl _) ?_; intro w3 hA3 hG3; rw [HSP.out] at hA3; have HG3 := Lib.hid (HG1.out.trans hG3); have HA13 := Lib.hid (HA1.out.gr hG3))
        | (refine wpList_load_row rfl 32 (.tmp 6) rfl w1.heap.size rfl 32 (bvs (pad bs)).toArray (0, 0) _ hA3.out rfl rfl (arr_info _ HP.out) ?_)
        | (refine wpList_store_row rfl 32 (.tmp 2) (.tmp 26) rfl (w.heap.size + 1) (bvs (pad bs)).toArray rfl rfl 32 _ HA13.out (arr_info _ HP.out) (by rw [arr_size _ HP.out]; rfl) (arr_one _) ?_)
      refine bodyPost_ret (results_word2 rfl _ _ (w.heap.size + 1) 32 (pad bs) rfl (arr_setRow HA13.out) HP.out) rfl ?_
      exact ⟨_, rfl, gr_setRow HG3.out _ _ (by omega), by unfold eqV; rw [HI.out]; rfl⟩
end Go.Proofs.Ytmlajcbabimkjaa
/-
  Words of items: the reference's WordOf.
  Conditions: none.
-/
namespace Go.Proofs.Ytmlajcbabimkjaa
set_option linter.unusedVariables false
open Go.RowKit Mono Rlp
theorem copy_src {w w' : World} {A : Option Addr} {l : List UInt8} (hr : Rd w w.heap.size A (bvs l)) (hg : Gr w w') (h0 : 0 < (bvs l).length) : ∃ ad, A = some ad ∧ ∀ j v, (bvs l)[j]? = some v → w'.cell? (ad.add j) = some v := by
  obtain ⟨b, o, e, hb, hc⟩ := (hr.gr hg) (fun e => by rw [e] at h0; simp at h0)
  exact ⟨_, e, fun j v hv => by rw [add_none]; exact hc j v hv⟩
theorem splice_pad (bs : List UInt8) (h9 : bs.length ≤ 32) : splice (bvs zero32) (32 - bs.length) (bvs bs) = bvs (pad bs) := by
  unfold splice pad zero32 bvs
  rw [List.map_append, ← List.map_take, ← List.map_drop, List.take_replicate, List.drop_replicate, List.length_map]
  rw [show min (32 - bs.length) 32 = 32 - bs.length by omega, show 32 - (32 - bs.length + bs.length) = 0 by omega]
  simp
set_option maxRecDepth 20000 in
set_option maxHeartbeats 1000000 in
theorem ref_WordOf (v : Value) (x : Raw) (w : World) (h : IsItem w v x) : Calls Try.prog 55 #[v] w (Ret (eqV (wordV x)) w) := by
  have HX := Lib.hid h
  obtain ⟨lx, bx, xs⟩ := x
  obtain ⟨vb1, vl1, rfl, ⟨A0, c0, rfl, hc0, hm0, hr0⟩, A1, c1, rows1, rfl, hc1, hm1, _⟩ := isItem_form h
  have HR := Lib.hid hr0
  unfold maxLen at hm0 hm1
  clear h hr0
  generalize xs.length = n1 at HX hc1 ⊢
  cases lx with
  | true =>
    have HI := Lib.hid (wordV_none (x := .mk true bx xs) rfl)
    go_enter Try.func55, Try.ntmps55
    go_wp2_with first
      | (guard_target = wpList _ _ _ (Oper.mk _ (Op.alloc _) _ _ _ _ :: _) _ _; refine wpL_alloc_word (w.heap.size + 2) (by rw [hs0]) rfl rfl ?_; intro w1 hA1 hG1 hs1; have HG1 := Lib.hid (HG0.out.trans hG1.out); have HA0 := Lib.hid (hA0.out.gr hG1.out); obtain ⟨q0, q1, q2⟩ := cells_of3 (((hG0.out.trans hG1.out).block w.heap.size (by simp)).trans (heap_alloc_new w _)))
      | (guard_target = wpList _ _ _ (Oper.mk _ (Op.alloc _) _ _ _ _ :: _) _ _; refine wpL_alloc_word (w.heap.size + 1) (by simp) rfl rfl ?_; intro w0 hA0 hG0 hs0; have HG0 := Lib.hid ((gr_alloc w (.cells #[.bool true, .slice A0 bx.length c0, .slice A1 n1 c1] 41)).trans hG0.out))
      | (guard_target = wpList _ _ _ (Oper.mk _ (Op.load _ _) _ _ _ _ :: _) _ _; refine wpList_load_row rfl 32 (.tmp 4) rfl (w.heap.size + 2) rfl 32 (bvs zero32).toArray (0, 0) _ hA1.out rfl rfl (arr_info _ zero32_length) ?_)
      | (guard_target = wpList _ _ _ (Oper.mk _ (Op.store _ _ _) _ _ _ _ :: _) _ _; refine wpList_store_row rfl 32 (.tmp 2) (.tmp 26) rfl (w.heap.size + 1) (bvs zero32).toArray rfl rfl 32 _ HA0.out (arr_info _ zero32_length) rfl (arr_one _) ?_)
    refine bodyPost_ret (results_word2 rfl _ _ (w.heap.size + 1) 32 zero32 rfl (arr_setRow HA0.out) zero32_length) rfl ?_
    exact ⟨_, rfl, gr_setRow HG1.out _ _ (by omega), by unfold eqV; rw [HI.out]; rfl⟩
  | false =>
    have HN : Hid (numB (.mk false bx xs) = if bx.head? = some 0 then none else some bx) := Lib.hid rfl
    by_cases h8 : 32 < bx.length
    · have HI := Lib.hid (wordV_none (show wordR (.mk false bx xs) = none by unfold wordR; rw [HN.out]; split; rfl; rw [Option.bind_some, if_neg (by omega)]))
      go_enter Try.func55, Try.ntmps55
      go_wp2_with first
        | (guard_target = wpList _ _ _ (Oper.mk _ (Op.alloc _) _ _ _ _ :: _) _ _; refine wpL_alloc_word (w.heap.size + 2) (by rw [hs0]) rfl rfl ?_; intro w1 hA1 hG1 hs1; have HG1 := Lib.hid (HG0.out.trans hG1.out); have HA0 := Lib.hid (hA0.out.gr hG1.out); obtain ⟨q0, q1, q2⟩ := cells_of3 (((hG0.out.trans hG1.out).block w.heap.size (by simp)).trans (heap_alloc_new w _)))
        | (guard_target = wpList _ _ _ (Oper.mk _ (Op.alloc _) _ _ _ _ :: _) _ _; refine wpL_alloc_word (w.heap.size + 1) (by simp) rfl rfl ?_; intro w0 hA0 hG0 hs0; have HG0 := Lib.hid ((gr_alloc w (.cells #[.bool false, .slice A0 bx.length c0, .slice A1 n1 c1] 41)).trans hG0.out))
        | (guard_target = wpList _ _ _ (Oper.mk _ (Op.load _ _) _ _ _ _ :: _) _ _; refine wpList_load_row rfl 32 (.tmp 4) rfl (w.heap.size + 2) rfl 32 (bvs zero32).toArray (0, 0) _ hA1.out rfl rfl (arr_info _ zero32_length) ?_)
        | (guard_target = wpList _ _ _ (Oper.mk _ (Op.store _ _ _) _ _ _ _ :: _) _ _; refine wpList_store_row rfl 32 (.tmp 2) (.tmp 26) rfl (w.heap.size + 1) (bvs zero32).toArray rfl rfl 32 _ HA0.out (arr_info _ zero32_length) rfl (arr_one _) ?_)
      refine bodyPost_ret (results_word2 rfl _ _ (w.heap.size + 1) 32 zero32 rfl (arr_setRow HA0.out) zero32_length) rfl ?_
      exact ⟨_, rfl, gr_setRow HG1.out _ _ (by omega), by unfold eqV; rw [HI.out]; rfl⟩
    · have h9 : bx.length ≤ 32 := by omega
      clear h8
      by_cases hz : bx.head? = some 0
      · obtain ⟨l, rfl⟩ : ∃ l, bx = 0 :: l := by
          cases bx with
          | nil => cases hz
          | cons b l => simp at hz; exact ⟨l, by rw [hz]⟩
        have HI := Lib.hid (wordV_none (show wordR (.mk false (0 :: l) xs) = none by unfold wordR; rw [HN.out]; rfl))
        obtain ⟨bl, o, rfl, hbl, hcell⟩ := isB_at HR.out 0 (by simp)
        have hcell' : w.cell? ⟨bl, o, none⟩ = some (.int .u8 0) := hcell
        have HCELL := Lib.hid hcell'
        have hlen : (0 :: l : List UInt8).length = l.length + 1 := rfl
        rw [hlen] at hc0 HX h9 ⊢
        clear hz HN hcell hcell' hlen
        go_enter Try.func55, Try.ntmps55
        go_wp2_with first
          | (guard_target = wpList _ _ _ (Oper.mk _ (Op.alloc _) _ _ _ _ :: _) _ _; refine wpL_alloc_word (w.heap.size + 2) (by rw [hs0]) rfl rfl ?_; intro w1 hA1 hG1 hs1; have HG1 := Lib.hid (HG0.out.trans hG1.out); have HA0 := Lib.hid (hA0.out.gr hG1.out); obtain ⟨q0, q1, q2⟩ := cells_of3 (((hG0.out.trans hG1.out).block w.heap.size (by simp)).trans (heap_alloc_new w _)); have q3 := (HG1.out.cell (p := ⟨bl, o, none⟩) hbl).trans HCELL.out)
          | (guard_target = wpList _ _ _ (Oper.mk _ (Op.alloc _) _ _ _ _ :: _) _ _; refine wpL_alloc_word (w.heap.size + 1) (by simp) rfl rfl ?_; intro w0 hA0 hG0 hs0; have HG0 := Lib.hid ((gr_alloc w (.cells #[.bool false, .slice (some ⟨bl, o, none⟩) (l.length + 1) c0, .slice A1 n1 c1] 41)).trans hG0.out))
          | (guard_target = wpList _ _ _ (Oper.mk _ (Op.load _ _) _ _ _ _ :: _) _ _; refine wpList_load_row rfl 32 (.tmp 4) rfl (w.heap.size + 2) rfl 32 (bvs zero32).toArray (0, 0) _ hA1.out rfl rfl (arr_info _ zero32_length) ?_)
          | (guard_target = wpList _ _ _ (Oper.mk _ (Op.store _ _ _) _ _ _ _ :: _) _ _; refine wpList_store_row rfl 32 (.tmp 2) (.tmp 26) rfl (w.heap.size + 1) (bvs zero32).toArray rfl rfl 32 _ HA0.out (arr_info _ zero32_length) rfl (arr_one _) ?_)
        refine bodyPost_ret (results_word2 rfl _ _ (w.heap.size + 1) 32 zero32 rfl (arr_setRow HA0.out) zero32_length) rfl ?_
        exact ⟨_, rfl, gr_setRow HG1.out _ _ (by omega), by unfold eqV; rw [HI.out]; rfl⟩
      · rcases bx with _ | ⟨b, l⟩
        · clear hz HN
          have HI := Lib.hid (wordV_some (show wordR (.mk false [] xs) = some (pad []) from rfl))
          simp only [List.length_nil] at hc0 HX h9 ⊢
          have HSP : Hid (splice (bvs zero32) (32 - 0) (bvs []) = bvs (pad [])) := Lib.hid (splice_pad ([] : List UInt8) h9)
          have HP := Lib.hid (pad_length ([] : List UInt8) h9)
          go_enter Try.func55, Try.ntmps55
          go_wp2_with first
            | (guard_target = wpList _ _ _ (Oper.mk _ (Op.alloc _) _ _ _ _ :: _) _ _; refine wpL_alloc_word (w.heap.size + 2) (by rw [hs0]) rfl rfl ?_; intro w1 hA1 hG1 hs1; have HG1 := Lib.hid (HG0.out.trans hG1.out); have HA0 := Lib.hid (hA0.out.gr hG1.out); obtain ⟨q0, q1, q2⟩ := cells_of3 (((hG0.out.trans hG1.out).block w.heap.size (by simp)).trans (heap_alloc_new w _)))
            | (guard_target = wpList _ _ _ (Oper.mk _ (Op.alloc _) _ _ _ _ :: _) _ _; refine wpL_alloc_word (w.heap.size + 1) (by simp) rfl rfl ?_; intro w0 hA0 hG0 hs0; have HG0 := Lib.hid ((gr_alloc w (.cells #[.bool false, .slice A0 0 c0, .slice A1 n1 c1] 41)).trans hG0.out))
          have k1 := later_cell (w := w1) (p := ⟨w.heap.size, 1, none⟩) (by show w.heap.size < _; omega) q1
          refine wp_region_N 7 (by kernel_rfl) (by kernel_rfl) (by kernel_rfl) ?_
          simp only [List.take_succ_cons, List.take_zero, List.drop_succ_cons, List.drop_zero]
          refine wpN_quiet 7 (by kernel_rfl) ?_
          simp only [List.take_succ_cons, List.take_zero, List.drop_succ_cons, List.drop_zero]
          repeat (go_big_quiet_step (fail))
          refine wpQuiet_nil ?_
          refine wpN_nil (by kernel_rfl) ?_
          intro W hW
          replace hW := hW.gr
          unfold finN
          have hs2 := hW.size
          go_wp2_with first
            | (guard_target = wpList _ _ _ (Oper.mk _ (Op.call _) _ _ _ _ :: _) _ _; refine wpList_copy_splice rfl (.tmp 31) (.tmp 33) 23 23 rfl 5 Try.underlying23 (by kernel_rfl) (some ⟨w.heap.size + 2, 0, none⟩) A0 (0) (0) (0) c0 rfl rfl (w.heap.size + 2) (32 - (0)) (bvs zero32) 32 (hA1.out.gr hW) (bvs ([] : List UInt8)) (by simp [bvs]) (fun h0 => absurd h0 (by simp [bvs])) (by simp [bvs, zero32]; try omega) (bvs_one _) (w.heap.size + 2) W (Below.refl _ _) (Nat.le_refl _) ?_; intro w3 hA3 hG3; rw [HSP.out] at hA3; have HG3 : Hid (Gr w w3) := Lib.hid (Below.trans (HG1.out.trans hW) (hG3.mono (show w.heap.size ≤ w.heap.size + 2 by omega))); have HA3 : Hid (Arr w3 (w.heap.size + 1) 32 zero32) := Lib.hid ((hG3.block (w.heap.size + 1) (by omega)).trans (HA0.out.gr hW)))
            | (guard_target = wpList _ _ _ (Oper.mk _ (Op.load _ _) _ _ _ _ :: _) _ _; refine wpList_load_row rfl 32 (.tmp 4) rfl (w.heap.size + 2) rfl 32 (bvs (pad ([] : List UInt8))).toArray (0, 0) _ hA3.out rfl rfl (arr_info _ HP.out) ?_)
            | (guard_target = wpList _ _ _ (Oper.mk _ (Op.store _ _ _) _ _ _ _ :: _) _ _; refine wpList_store_row rfl 32 (.tmp 2) (.tmp 35) rfl (w.heap.size + 1) (bvs (pad ([] : List UInt8))).toArray rfl rfl 32 _ HA3.out (arr_info _ HP.out) (by rw [arr_size _ HP.out]; rfl) (arr_one _) ?_)
          refine bodyPost_ret (results_word2 rfl _ _ (w.heap.size + 1) 32 (pad ([] : List UInt8)) rfl (arr_setRow HA3.out) HP.out) rfl ?_
          exact ⟨_, rfl, gr_setRow HG3.out _ _ (by omega), by unfold eqV; rw [HI.out]; rfl⟩
        · skip
          have hb : b ≠ 0 := fun e => hz (by rw [e]; rfl)
          have hI : wordR (.mk false (b :: l) xs) = some (pad (b :: l)) := by
            unfold wordR
            rw [HN.out, if_neg hz, Option.bind_some, if_pos h9]
          have HI := Lib.hid (wordV_some hI)
          obtain ⟨bl, o, rfl, hbl, hcell⟩ := isB_at HR.out 0 (by simp)
          have hcell' : w.cell? ⟨bl, o, none⟩ = some (.int .u8 (b.toNat : Int)) := hcell
          have HCELL := Lib.hid hcell'
          have hn : ((b.toNat : Int) == 0) = false := by
            rw [Bool.eq_false_iff]
            intro e
            have e2 : (b.toNat : Int) = 0 := by simpa using e
            exact hb (UInt8.toNat_inj.1 (by rw [show (0 : UInt8).toNat = 0 from rfl]; omega))
          simp only [List.length_cons] at hc0 HX h9 ⊢
          clear hz HN hcell hcell' hI hb
          obtain ⟨dp, hsl, hdp⟩ := slice_word_end (w.heap.size + 2) (l.length + 1) (32 - ((l.length : Int) + 1)) (by simp; try omega) h9
          have HDP := Lib.hid hdp
          have HSL := Lib.hid hsl
          clear hdp hsl
          have hsrc : ∀ w' : World, Gr w w' → 0 < (bvs (b :: l)).length → dp = some ⟨w.heap.size + 2, 32 - (l.length + 1), none⟩ ∧ ∃ ad, (some (⟨bl, o, none⟩ : Addr)) = some ad ∧ ∀ j v, (bvs (b :: l))[j]? = some v → w'.cell? (ad.add j) = some v := fun w' hg h0 => ⟨HDP.out (by simp), copy_src HR.out hg h0⟩
          have HSRC := Lib.hid hsrc
          have HSP : Hid (splice (bvs zero32) (32 - (l.length + 1)) (bvs (b :: l)) = bvs (pad (b :: l))) := Lib.hid (splice_pad (b :: l) h9)
          have HP := Lib.hid (pad_length (b :: l) h9)
          clear hsrc
          go_enter Try.func55, Try.ntmps55
          go_wp2_with first
            | (guard_target = wpList _ _ _ (Oper.mk _ (Op.alloc _) _ _ _ _ :: _) _ _; refine wpL_alloc_word (w.heap.size + 2) (by rw [hs0]) rfl rfl ?_; intro w1 hA1 hG1 hs1; have HG1 := Lib.hid (HG0.out.trans hG1.out); have HA0 := Lib.hid (hA0.out.gr hG1.out); obtain ⟨q0, q1, q2⟩ := cells_of3 (((hG0.out.trans hG1.out).block w.heap.size (by simp)).trans (heap_alloc_new w _)); have q3 := (HG1.out.cell (p := ⟨bl, o, none⟩) hbl).trans HCELL.out)
            | (guard_target = wpList _ _ _ (Oper.mk _ (Op.alloc _) _ _ _ _ :: _) _ _; refine wpL_alloc_word (w.heap.size + 1) (by simp) rfl rfl ?_; intro w0 hA0 hG0 hs0; have HG0 := Lib.hid ((gr_alloc w (.cells #[.bool false, .slice (some ⟨bl, o, none⟩) (l.length + 1) c0, .slice A1 n1 c1] 41)).trans hG0.out))
          have k1 := later_cell (w := w1) (p := ⟨w.heap.size, 1, none⟩) (by show w.heap.size < _; omega) q1
          have k2 : ∀ x : Later w1, _ := fun x => HSL.out x.1
          refine wp_region_N 7 (by kernel_rfl) (by kernel_rfl) (by kernel_rfl) ?_
          simp only [List.take_succ_cons, List.take_zero, List.drop_succ_cons, List.drop_zero]
          refine wpN_quiet 7 (by kernel_rfl) ?_
          simp only [List.take_succ_cons, List.take_zero, List.drop_succ_cons, List.drop_zero]
          repeat (go_big_quiet_step (fail))
          refine wpQuiet_nil ?_
          refine wpN_nil (by kernel_rfl) ?_
          intro W hW
          replace hW := hW.gr
          unfold finN
          have hs2 := hW.size
          go_wp2_with first
            | (guard_target = wpList _ _ _ (Oper.mk _ (Op.call _) _ _ _ _ :: _) _ _; refine wpList_copy_splice rfl (.tmp 31) (.tmp 33) 23 23 rfl 5 Try.underlying23 (by kernel_rfl) dp (some ⟨bl, o, none⟩) ((l.length + 1)) ((l.length + 1)) ((l.length + 1)) c0 rfl rfl (w.heap.size + 2) (32 - ((l.length + 1))) (bvs zero32) 32 (hA1.out.gr hW) (bvs (b :: l)) (by simp [bvs]) (HSRC.out W (HG1.out.trans hW)) (by simp [bvs, zero32]; try omega) (bvs_one _) (w.heap.size + 2) W (Below.refl _ _) (Nat.le_refl _) ?_; intro w3 hA3 hG3; rw [HSP.out] at hA3; have HG3 : Hid (Gr w w3) := Lib.hid (Below.trans (HG1.out.trans hW) (hG3.mono (show w.heap.size ≤ w.heap.size + 2 by omega))); have HA3 : Hid (Arr w3 (w.heap.size + 1) 32 zero32) := Lib.hid ((hG3.block (w.heap.size + 1) (by omega)).trans (HA0.out.gr hW)))
            | (guard_target = wpList _ _ _ (Oper.mk _ (Op.load _ _) _ _ _ _ :: _) _ _; refine wpList_load_row rfl 32 (.tmp 4) rfl (w.heap.size + 2) rfl 32 (bvs (pad (b :: l))).toArray (0, 0) _ hA3.out rfl rfl (arr_info _ HP.out) ?_)
            | (guard_target = wpList _ _ _ (Oper.mk _ (Op.store _ _ _) _ _ _ _ :: _) _ _; refine wpList_store_row rfl 32 (.tmp 2) (.tmp 35) rfl (w.heap.size + 1) (bvs (pad (b :: l))).toArray rfl rfl 32 _ HA3.out (arr_info _ HP.out) (by rw [arr_size _ HP.out]; rfl) (arr_one _) ?_)
          refine bodyPost_ret (results_word2 rfl _ _ (w.heap.size + 1) 32 (pad (b :: l)) rfl (arr_setRow HA3.out) HP.out) rfl ?_
          exact ⟨_, rfl, gr_setRow HG3.out _ _ (by omega), by unfold eqV; rw [HI.out]; rfl⟩
end Go.Proofs.Ytmlajcbabimkjaa
