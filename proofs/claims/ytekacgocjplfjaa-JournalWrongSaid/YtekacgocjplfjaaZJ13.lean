/-
  Merged (wip/tools/merge.py): JChange, JMay.
  Conditions: none.
-/
import Derived.Test.YtekacgocjplfjaaZJ12
import Derived.Deep.DeepCutAuto
/-
  journal: list, text, change.
  Conditions: none.
-/
namespace Go.Proofs.Ytekacgocjplfjaa
set_option linter.unusedVariables false
open Go.RowKit Mono Rlp Jn

set_option maxRecDepth 20000 in
set_option maxHeartbeats 1000000 in
theorem j_list (A : Option Addr) (n c : Nat) (w : World) : Calls Try.prog 18 #[.slice A n c] w (Ret (eqV (.agg #[.bool true, .slice none 0 0, .slice A n c])) w) := by
  go_enter Try.func18, Try.ntmps18
  go_wp2_with fail
  refine bodyPost_ret (results_item1 rfl _ _ w.heap.size #[.bool true, .slice none 0 0, .slice A n c] rfl (heap_alloc_new w _) rfl) rfl ⟨_, rfl, gr_alloc w _, ?_⟩
  rfl
set_option maxRecDepth 20000 in
set_option maxHeartbeats 1000000 in
theorem j_text (v : Value) (l : List UInt8) (w : World) (h : IsB w v l) (hl : l.length ≤ 140737488355328) : Calls Try.prog 21 #[v] w (Ret (fun v w' => ItemIn (fun k => w.heap.size ≤ k ∧ k < w'.heap.size) w' v (bytesI l)) w) := by
  have HB := Lib.hid h
  obtain ⟨A, c, rfl, hc1, hc2, hr⟩ := h
  clear hr
  go_enter Try.func21, Try.ntmps21
  go_wp2_with first
    | (go_at_call 40; refine (clone_bytes _ l _ (HB.out.gr (gr_alloc w _)) hl).mono ?_; rintro e w2 ⟨v2, rfl, hg2, ho2⟩; have HB2 := Lib.hid (ownB_P ho2); obtain ⟨A2, c2, rfl, _⟩ := own_form ho2; have HG2 := Lib.hid ((gr_alloc w _).trans hg2); have HR2 := Lib.hid ((hg2.block _ (by simp)).trans (heap_alloc_new w (.cells #[.bool false, .slice none 0 0, .slice none 0 0] 56))); clear hg2 ho2)
    | (guard_target = wpList _ _ _ (Oper.mk _ (Op.store _ _ _) _ _ _ _ :: _) _ _; refine wpList_store_row rfl 56 (.tmp 2) (.tmp 5) rfl w.heap.size _ rfl rfl 56 _ HR2.out (by kernel_rfl) rfl (by simp [Value.oneCell']) ?_)
  refine bodyPost_ret (results_item1 rfl _ _ w.heap.size _ rfl (heap_setRow_same _ _ _ _ _ HR2.out) rfl) rfl ⟨_, rfl, gr_setRow HG2.out _ _ (by omega), ?_⟩
  exact itemIn_bytes (HB2.out.mono (fun b hb => ⟨by have := hb.1; simp at this; omega, by rw [size_setRow]; have := hb.2; omega⟩) (fun p hp => cell_setRow (by have := hp.1; simp at this; omega)))
theorem ch_var {w : World} {g : Nat} {c : Ch} {vc vs : Value} {t : TypeId} (h : w.heap[g]? = some (.cells (chC c vc vs).toArray t (0, 0))) (hc : c.ok) :
    w.rangeAt g 0 (bvs c.addr) ∧ w.cell? ⟨g, 20, none⟩ = some (.bool c.gone) ∧ w.cell? ⟨g, 21, none⟩ = some (.int .i64 c.nonce) ∧ w.rangeAt g 22 (bvs c.bal) ∧ w.cell? ⟨g, 54, none⟩ = some vc ∧ w.cell? ⟨g, 55, none⟩ = some vs := by
  have := ch_parts (range_row h) hc
  simpa using this
theorem slot_info (s : Sl) (h : s.ok) : (Try.prog.info? 48).map (·.size) = some (slC s).length := by
  rw [slC_length h]
  kernel_rfl
theorem slC_zero (s : Sl) (h : s.ok) : (slC zeroS).toArray.size = (slC s).toArray.size := by
  rw [List.size_toArray, List.size_toArray, slC_length h]
  rfl
theorem slot_info' (s : Sl) (h : s.ok) : (Try.prog.info? 48).map (·.size) = some (slC s).toArray.size := by
  rw [List.size_toArray]
  exact slot_info s h
theorem change_info (c : Ch) (h : c.ok) (vc vs : Value) : (Try.prog.info? 51).map (·.size) = some (chC c vc vs).length := by
  rw [chC_length h]
  kernel_rfl
namespace Mono
section
variable {P : Program} {ops : Array Oper} {C : World → Prop}
/-- An operation whose operands are known by predicates. -/
theorem wpN_free {R : Act → World → Prop} {a : Act} {N : List (Tmp × VP)} {o : Oper} {l : List Oper} (d : Tmp) (V : VP) (hd : o.dst = some d) (hg : o.guard = none) (hV : Stable V)
    (hop : ∀ (b : Act) (w : World), C w → (∀ t ∈ o.looksAt ops, phiN a N t (b.tmps.getD t undef) w) → growsTo P V w ((execOp b.eval o).run P w)) (hr : wpN P ops C R l a ((d, V) :: N)) : wpN P ops C R (o :: l) a N :=
  wpN_non d V hd hV (fun b w hC hb => ⟨fun _ => hop b w hC hb, fun hnot => by simp [Region.wanted, hg] at hnot⟩) hr
end
end Mono
theorem run_build1 (w : World) (a0 a1 a2 : Value) : (Instr.buildSlice 54 1 #[(0, .agg #[a0, a1, a2])]).run Try.prog w = .ok (.slice (some ⟨w.heap.size, 0, none⟩) 1 1) (w.alloc (.cells #[a0, a1, a2] 56)) := by kernel_rfl
theorem growsTo_build1 {V : VP} {w : World} {o : Oper} {b : Act} {t0 : Tmp} {a0 a1 a2 : Value} (ho : o.op = .buildSlice 54 1 #[(0, .tmp t0)])
    (e0 : b.tmps.getD t0 undef = .agg #[a0, a1, a2]) (h : V (.slice (some ⟨w.heap.size, 0, none⟩) 1 1) (w.alloc (.cells #[a0, a1, a2] 56))) : growsTo Try.prog V w ((execOp b.eval o).run Try.prog w) := by
  have hr := run_build1 w a0 a1 a2
  unfold execOp
  simp only [ho, Act.eval, List.map_toArray, List.map_cons, List.map_nil, e0, Sem.run_bind, Sem.run_pure, hr, Result.andThen_ok]
  exact ⟨gr_alloc _ _, h⟩
theorem run_build2 (w : World) (a0 a1 a2 b0 b1 b2 : Value) : (Instr.buildSlice 54 2 #[(0, .agg #[a0, a1, a2]), (1, .agg #[b0, b1, b2])]).run Try.prog w = .ok (.slice (some ⟨w.heap.size, 0, none⟩) 2 2) (w.alloc (.cells #[a0, a1, a2, b0, b1, b2] 56)) := by kernel_rfl
theorem growsTo_build2 {V : VP} {w : World} {o : Oper} {b : Act} {t0 t1 : Tmp} {a0 a1 a2 b0 b1 b2 : Value} (ho : o.op = .buildSlice 54 2 #[(0, .tmp t0), (1, .tmp t1)])
    (e0 : b.tmps.getD t0 undef = .agg #[a0, a1, a2]) (e1 : b.tmps.getD t1 undef = .agg #[b0, b1, b2]) (h : V (.slice (some ⟨w.heap.size, 0, none⟩) 2 2) (w.alloc (.cells #[a0, a1, a2, b0, b1, b2] 56))) : growsTo Try.prog V w ((execOp b.eval o).run Try.prog w) := by
  have hr := run_build2 w a0 a1 a2 b0 b1 b2
  unfold execOp
  simp only [ho, Act.eval, List.map_toArray, List.map_cons, List.map_nil, e0, e1, Sem.run_bind, Sem.run_pure, hr, Result.andThen_ok]
  exact ⟨gr_alloc _ _, h⟩
theorem run_build3 (w : World) (a0 a1 a2 b0 b1 b2 c0 c1 c2 : Value) : (Instr.buildSlice 54 3 #[(0, .agg #[a0, a1, a2]), (1, .agg #[b0, b1, b2]), (2, .agg #[c0, c1, c2])]).run Try.prog w = .ok (.slice (some ⟨w.heap.size, 0, none⟩) 3 3) (w.alloc (.cells #[a0, a1, a2, b0, b1, b2, c0, c1, c2] 56)) := by kernel_rfl
theorem growsTo_build3 {V : VP} {w : World} {o : Oper} {b : Act} {t0 t1 t2 : Tmp} {a0 a1 a2 b0 b1 b2 c0 c1 c2 : Value} (ho : o.op = .buildSlice 54 3 #[(0, .tmp t0), (1, .tmp t1), (2, .tmp t2)])
    (e0 : b.tmps.getD t0 undef = .agg #[a0, a1, a2]) (e1 : b.tmps.getD t1 undef = .agg #[b0, b1, b2]) (e2 : b.tmps.getD t2 undef = .agg #[c0, c1, c2]) (h : V (.slice (some ⟨w.heap.size, 0, none⟩) 3 3) (w.alloc (.cells #[a0, a1, a2, b0, b1, b2, c0, c1, c2] 56))) : growsTo Try.prog V w ((execOp b.eval o).run Try.prog w) := by
  have hr := run_build3 w a0 a1 a2 b0 b1 b2 c0 c1 c2
  unfold execOp
  simp only [ho, Act.eval, List.map_toArray, List.map_cons, List.map_nil, e0, e1, e2, Sem.run_bind, Sem.run_pure, hr, Result.andThen_ok]
  exact ⟨gr_alloc _ _, h⟩
theorem run_build6 (w : World) (a0 a1 a2 b0 b1 b2 c0 c1 c2 d0 d1 d2 p0 p1 p2 q0 q1 q2 : Value) : (Instr.buildSlice 54 6 #[(0, .agg #[a0, a1, a2]), (1, .agg #[b0, b1, b2]), (2, .agg #[c0, c1, c2]), (3, .agg #[d0, d1, d2]), (4, .agg #[p0, p1, p2]), (5, .agg #[q0, q1, q2])]).run Try.prog w = .ok (.slice (some ⟨w.heap.size, 0, none⟩) 6 6) (w.alloc (.cells #[a0, a1, a2, b0, b1, b2, c0, c1, c2, d0, d1, d2, p0, p1, p2, q0, q1, q2] 56)) := by kernel_rfl
theorem growsTo_build6 {V : VP} {w : World} {o : Oper} {b : Act} {t0 t1 t2 t3 t4 t5 : Tmp} {a0 a1 a2 b0 b1 b2 c0 c1 c2 d0 d1 d2 p0 p1 p2 q0 q1 q2 : Value} (ho : o.op = .buildSlice 54 6 #[(0, .tmp t0), (1, .tmp t1), (2, .tmp t2), (3, .tmp t3), (4, .tmp t4), (5, .tmp t5)])
    (e0 : b.tmps.getD t0 undef = .agg #[a0, a1, a2]) (e1 : b.tmps.getD t1 undef = .agg #[b0, b1, b2]) (e2 : b.tmps.getD t2 undef = .agg #[c0, c1, c2]) (e3 : b.tmps.getD t3 undef = .agg #[d0, d1, d2]) (e4 : b.tmps.getD t4 undef = .agg #[p0, p1, p2]) (e5 : b.tmps.getD t5 undef = .agg #[q0, q1, q2]) (h : V (.slice (some ⟨w.heap.size, 0, none⟩) 6 6) (w.alloc (.cells #[a0, a1, a2, b0, b1, b2, c0, c1, c2, d0, d1, d2, p0, p1, p2, q0, q1, q2] 56))) : growsTo Try.prog V w ((execOp b.eval o).run Try.prog w) := by
  have hr := run_build6 w a0 a1 a2 b0 b1 b2 c0 c1 c2 d0 d1 d2 p0 p1 p2 q0 q1 q2
  unfold execOp
  simp only [ho, Act.eval, List.map_toArray, List.map_cons, List.map_nil, e0, e1, e2, e3, e4, e5, Sem.run_bind, Sem.run_pure, hr, Result.andThen_ok]
  exact ⟨gr_alloc _ _, h⟩
theorem slice_addr_all (w : World) (g o : Nat) : (Instr.sliceAt 44 (.pointer (some ⟨g, o, none⟩)) none none none).run Try.prog w = .ok (.slice (some ⟨g, o, none⟩) 20 20) w := by
  have hn : Try.prog.arrayLen 44 = 20 := by kernel_rfl
  have hs : (sizeOf (Try.prog.elem 44)).run Try.prog w = .ok 1 w := by kernel_rfl
  rw [run_sliceAt_array_all (P := Try.prog) w 44 ⟨g, o, none⟩ (by kernel_rfl), hs]
  simp [slicedAt, hn, add_none, Result.andThen]
theorem enter_list (args : Array Value) (w : World) : (callFunc 18 args).run Try.prog w = .ok (.enter 18 args) w := by simp [go_sem]
/-- An item all of whose blocks are new. -/
def NewI (B : Nat) (x : Raw) : VP := fun v w => ItemIn (fun k => B ≤ k ∧ k < w.heap.size) w v x
theorem stable_newI (B : Nat) (x : Raw) : Stable (NewI B x) := fun _ _ _ hg h => ItemIn.mono h (fun b hb => ⟨hb.1, Nat.lt_of_lt_of_le hb.2 hg.size⟩) fun p hp => hg.cell hp.2
/-- A slice of such items. -/
def NewIs (B : Nat) (xs : List Raw) : VP := fun v w => ∃ A c rows, v = .slice A xs.length c ∧ xs.length ≤ c ∧ c ≤ maxLen ∧ (A = none → xs.length = 0 ∧ c = 0) ∧ RdP (fun k => B ≤ k ∧ k < w.heap.size) w A rows.flatten ∧ ItemsAtP (fun k => B ≤ k ∧ k < w.heap.size) w xs rows
theorem stable_newIs (B : Nat) (xs : List Raw) : Stable (NewIs B xs) := fun _ w w' hg h => by
  obtain ⟨A, c, rows, g1, g2, g3, g4, g5, g6⟩ := h
  exact ⟨A, c, rows, g1, g2, g3, g4, g5.mono (fun b hb => ⟨hb.1, Nat.lt_of_lt_of_le hb.2 hg.size⟩) (fun p hp => hg.cell hp.2), ItemsAtP.mono (fun b hb => ⟨hb.1, Nat.lt_of_lt_of_le hb.2 hg.size⟩) (fun p hp => hg.cell hp.2) _ _ g6⟩
theorem newI_list {B : Nat} {xs : List Raw} {A : Option Addr} {n c : Nat} {w : World} (h : NewIs B xs (.slice A n c) w) : NewI B (listI xs) (.agg #[.bool true, .slice none 0 0, .slice A n c]) w := by
  obtain ⟨A', c', rows, g1, g2, g3, g4, g5, g6⟩ := h
  injection g1 with e1 e2 e3
  subst e1 e2 e3
  refine ⟨[.bool true, .slice none 0 0, .slice A xs.length c], rfl, ?_⟩
  unfold listI
  rw [ItemAtP]
  exact ⟨_, A, c, rows, rfl, ⟨none, 0, rfl, Nat.le_refl _, by simp [maxLen], fun hn => absurd rfl hn⟩, g2, g3, g4, g5, g6⟩
theorem newI_form {B : Nat} {x : Raw} {v : Value} {w : World} (h : NewI B x v w) : ∃ b A n c A' n' c', v = .agg #[.bool b, .slice A n c, .slice A' n' c'] ∧ ItemAtP (fun k => B ≤ k ∧ k < w.heap.size) w x [.bool b, .slice A n c, .slice A' n' c'] := by
  obtain ⟨cs, rfl, h⟩ := h
  obtain ⟨b, A, n, c, A', n', c', rfl⟩ := h.len
  exact ⟨b, A, n, c, A', n', c', rfl, h⟩
/-- A literal's row of items. -/
theorem newIs_alloc {B : Nat} {xs : List Raw} {rows : List (List Value)} {w : World} {cs : Array Value} (hB : B ≤ w.heap.size) (hcs : cs.toList = rows.flatten) (h : ItemsAtP (fun k => B ≤ k ∧ k < w.heap.size) w xs rows) (hn : xs.length ≤ maxLen) (n : Nat) (hnx : n = xs.length) (h0 : 0 < n) :
    NewIs B xs (.slice (some ⟨w.heap.size, 0, none⟩) n n) (w.alloc (.cells cs 56)) := by
  subst hnx
  refine ⟨_, _, rows, rfl, Nat.le_refl _, hn, (fun e => by cases e), fun _ => ⟨w.heap.size, 0, rfl, ⟨hB, by simp⟩, fun j u hu => ?_⟩, ItemsAtP.mono (fun k hk => ⟨hk.1, by simp; omega⟩) (fun p hp => (gr_alloc w _).cell hp.2) _ _ h⟩
  rw [Nat.zero_add, cell_of_row _ _ _ _ _ (0, 0) (heap_alloc_new w _), ← hu, ← hcs]
  simp
set_option maxRecDepth 20000 in
set_option maxHeartbeats 4000000 in
theorem j_change (c : Ch) (vc vs : Value) (w : World) (hok : c.ok) (hc : IsB w vc c.code) (hs : IsSl w vs c.slots) (hl1 : c.code.length ≤ 140737488355328) (hl2 : c.slots.length ≤ 2199023255552) :
    Calls Try.prog 19 #[.agg (chC c vc vs).toArray] w (Ret (fun v w' => ItemIn (fun k => w.heap.size ≤ k ∧ k < w'.heap.size) w' v (chI c)) w) := by
  have HC := Lib.hid hc
  have HS := Lib.hid hs
  obtain ⟨Ac, cc, rfl, hc1, hc2, _⟩ := hc
  obtain ⟨As, cs, rfl, hs1, hs2⟩ := IsSlP.form hs
  have HOK := Lib.hid hok
  unfold maxLen at hc2 hs2
  clear hs hok
  have hbox := fun w => box_of 51 (chC c (.slice Ac c.code.length cc) (.slice As c.slots.length cs)).toArray w
  go_enter Try.func19, Try.ntmps19
  go_upto_if 8 with first
    | (guard_target = wpList _ _ _ (Oper.mk _ (Op.box _ _) _ _ _ _ :: _) _ _; refine wpL_box_of hbox w.heap.size rfl (.tmp 0) rfl rfl rfl ?_; intro w0 hR0 hG0 hs0; obtain ⟨qa, q20, q21, qb, q54, q55⟩ := ch_var hR0.out HOK.out)
  go_cut [3] (fun s3 wx => s3 = .int .i64 ((if c.gone then 1 else 0 : Nat) : Int) ∧ wx = w0.alloc (.cells #[.bool false, .slice none 0 0, .slice none 0 0] 56))
  case first =>
    cases hgn : c.gone with
    | true =>
      rw [hgn] at q20
      go_wp2_with fail
      go_meet
      exact ⟨by simp [hgn], rfl⟩
    | false =>
      rw [hgn] at q20
      go_wp2_with fail
      go_meet
      exact ⟨by simp [hgn], rfl⟩
  case rest =>
    obtain ⟨rfl, rfl⟩ := hcut
    have HG1 := Lib.hid (hG0.out.trans (gr_alloc w0 (.cells #[.bool false, .slice none 0 0, .slice none 0 0] 56)))
    have HR1 := Lib.hid ((heap_old w0 (.cells #[.bool false, .slice none 0 0, .slice none 0 0] 56) _ (lt_of_some hR0.out)).trans hR0.out)
    have HZ1 : Hid ((w0.alloc (.cells #[.bool false, .slice none 0 0, .slice none 0 0] 56)).heap[w.heap.size + 1]? = _) := Lib.hid (heap_at w0 _ _ hs0.symm)
    have hs1 : (w0.alloc (.cells #[.bool false, .slice none 0 0, .slice none 0 0] 56)).heap.size = w.heap.size + 2 := by simp [hs0]
    clear qa q20 q21 qb q54 q55 hR0 hG0
    generalize w0.alloc (.cells #[.bool false, .slice none 0 0, .slice none 0 0] 56) = w1 at HG1 HR1 HZ1 hs1 ⊢
    obtain ⟨gn, hgn⟩ : ∃ gn : Nat, gn = (if c.gone then 1 else 0 : Nat) := ⟨_, rfl⟩
    rw [← hgn]
    have HGN := Lib.hid hgn
    have hgn1 : gn ≤ 1 := by rw [hgn]; split <;> omega
    clear hgn
    clear hbox
    go_wp2_with (go_at_call 18; refine (j_list none 0 0 _).mono ?_; rintro e w2 ⟨_, rfl, hg2, rfl⟩; have hs2' := hg2.size; have HG2 := Lib.hid ((HG1.out.trans hg2).trans (gr_alloc w2 (.cells #[.bool true, .slice none 0 0, .slice none 0 0] 56))); have HR2 := Lib.hid ((heap_old w2 (.cells #[.bool true, .slice none 0 0, .slice none 0 0] 56) _ (Nat.lt_of_lt_of_le (lt_of_some HR1.out) hs2')).trans ((hg2.block _ (lt_of_some HR1.out)).trans HR1.out)); have HZ2 := Lib.hid ((heap_old w2 (.cells #[.bool true, .slice none 0 0, .slice none 0 0] 56) _ (Nat.lt_of_lt_of_le (lt_of_some HZ1.out) hs2')).trans ((hg2.block _ (lt_of_some HZ1.out)).trans HZ1.out)); have HL2 := Lib.hid (heap_alloc_new w2 (.cells #[.bool true, .slice none 0 0, .slice none 0 0] 56)); obtain ⟨qa, q20, q21, qb, q54, q55⟩ := ch_var HR2.out HOK.out; clear hg2)
    have hsl : (w2.alloc (.cells #[.bool true, .slice none 0 0, .slice none 0 0] 56)).heap.size = w2.heap.size + 1 := by simp
    generalize w2.alloc (.cells #[.bool true, .slice none 0 0, .slice none 0 0] 56) = wl at HG2 HR2 HZ2 HL2 qa q20 q21 qb q54 q55 hsl ⊢
    clear qa q20 q21 qb q54 q55 HG1 HR1 HZ1
    go_loopw [13] (fun i wr => ∃ (done : List Raw) (A : Option Addr) (ca : Nat) (rows : List (List Value)), done.length ≤ c.slots.length ∧ i = .int .i64 done.length ∧ Hid (done = (c.slots.take done.length).map slotI) ∧ Hid (wr.heap[w2.heap.size]? = some (.cells #[.bool true, .slice none 0 0, .slice A done.length ca] 56 (0, 0))) ∧ Hid (wr.ownsRow (w2.heap.size + 1) 56 3 (.slice A done.length ca) done.length rows.flatten) ∧ Hid (ItemsAtP (okL (w2.heap.size + 1) w2.heap.size (.slice A done.length ca) wr.heap.size) wr done rows) ∧ w2.heap.size + 1 ≤ wr.heap.size ∧ Hid (wr.heap[w.heap.size]? = some (.cells (chC c (.slice Ac c.code.length cc) (.slice As c.slots.length cs)).toArray 51 (0, 0))) ∧ Hid (wr.heap[w.heap.size + 1]? = some (.cells #[.bool false, .slice none 0 0, .slice none 0 0] 56 (0, 0))) ∧ Hid (Gr w wr)) (fun i _ => c.slots.length - (intOf i).toNat)
    case atStart => exact ⟨[], none, 0, [], by simp, rfl, Lib.hid (by simp), HL2, Lib.hid (World.ownsRow_nil _ _ _ _), Lib.hid (by rw [ItemsAtP]), by omega, HR2, HZ2, HG2⟩
    case round =>
      clear HG2 HR2 HZ2 HL2 hsl
      obtain ⟨done, A, ca, rows, hd1, rfl, HD, HRL, HOW, HIT, hsz, HR, HZ, HG⟩ := hrel
      obtain ⟨_, _, he, hca1, hca2⟩ := own_form HOW.out
      injection he with he1 he2 he3
      subst he1 he3
      unfold maxLen at hca2
      by_cases h1 : done.length < c.slots.length
      · obtain ⟨bl, o, rfl, hbl, hrg, hsok⟩ := IsSlP.at HS.out done.length h1
        have HRG := Lib.hid (range_gr hrg HG.out hbl)
        have HSOK := Lib.hid hsok
        have HTK : Hid ((c.slots.take (done.length + 1)).map slotI = done ++ [slotI (c.slots[done.length])]) := Lib.hid (by
          rw [← List.take_append_getElem h1, List.map_append]
          congr 1
          exact HD.out.symm)
        clear hrg hsok
        generalize c.slots[done.length] = s at HRG HSOK HTK
        obtain ⟨q0, q1, q2⟩ := cells_of3 HRL.out
        go_wp2_with first
          | (guard_target = wpList _ _ _ (Oper.mk _ (Op.load _ _) _ _ _ _ :: _) _ _; refine wpList_load_mid rfl 48 (.tmp 15) rfl bl (o + done.length * 64) rfl (slC s) _ HRG.out Try.underlying48 rfl (slot_info s HSOK.out) ?_)
          | (guard_target = wpList _ _ _ (Oper.mk _ (Op.alloc _) _ _ _ _ :: _) _ _; refine wpL_alloc_of alloc_slot wr.heap.size rfl rfl rfl ?_; intro wa hRa hGa hsa)
          | (guard_target = wpList _ _ _ (Oper.mk _ (Op.store _ _ _) _ _ _ _ :: _) _ _; refine wpList_store_row rfl 48 (.tmp 6) (.tmp 16) rfl wr.heap.size (slC s).toArray rfl rfl 48 _ hRa.out (slot_info' s HSOK.out) (slC_zero s HSOK.out) (all_oneCell_toArray (slC_one s)) ?_)
        have HRv : Hid ((wa.setRow wr.heap.size (slC s).toArray).heap[wr.heap.size]? = some (.cells (slC s).toArray 48 (0, 0))) := Lib.hid (heap_setRow_same _ _ _ _ _ hRa.out)
        have HGv : Hid (Gr wr (wa.setRow wr.heap.size (slC s).toArray)) := Lib.hid (gr_setRow hGa.out _ _ (Nat.le_refl _))
        have hsv : (wa.setRow wr.heap.size (slC s).toArray).heap.size = wr.heap.size + 1 := by rw [size_setRow, hsa]
        clear hRa hGa q0 q1 q2 HRG hsa
        generalize wa.setRow wr.heap.size (slC s).toArray = wv at HRv HGv hsv ⊢
        have hrl := lt_of_some HRL.out
        have q2 := later_cell (w := wv) (p := ⟨w2.heap.size, 2, none⟩) (by show w2.heap.size < _; omega) (cells_of3 ((HGv.out.block _ hrl).trans HRL.out)).2.2
        obtain ⟨rk, rv⟩ := sl_parts (range_row HRv.out) HSOK.out
        have HRK := Lib.hid rk
        have HRVV := Lib.hid rv
        clear rk rv
        refine wp_region_N 11 (by kernel_rfl) (by kernel_rfl) (by kernel_rfl) ?_
        simp only [List.take_succ_cons, List.take_zero, List.drop_succ_cons, List.drop_zero]
        refine wpN_quiet 3 (by kernel_rfl) ?_
        simp only [List.take_succ_cons, List.take_zero, List.drop_succ_cons, List.drop_zero]
        repeat (go_big_quiet_step (fail))
        refine wpQuiet_nil ?_
        refine wpN_val (arrV s.key) rfl (by kernel_rfl) (by kernel_rfl) (fun xw => growsTo_load_range (range_gr HRK.out xw.2 (by omega)) HSOK.out.1 rfl rfl) ?_
        simp only [Act.put, List.setIfInBounds_toArray, List.set_cons_succ, List.set_cons_zero]
        refine wpN_gen 21 (NewI wv.heap.size (wordI s.key)) rfl rfl (by kernel_rfl) (by kernel_rfl) (stable_newI _ _) (fun xw => growsTo_call (by simp [go_sem]) ((rlp_Big s.key HSOK.out.1 _).mono ?_)) ?_
        · rintro e w' ⟨v, rfl, hg, hv⟩
          exact ⟨_, rfl, hg, hv.mono (fun b hb => ⟨Nat.le_trans xw.2.size hb.1, hb.2⟩) (fun _ _ => rfl)⟩
        refine wpN_quiet 1 (by kernel_rfl) ?_
        simp only [List.take_succ_cons, List.take_zero, List.drop_succ_cons, List.drop_zero]
        repeat (go_big_quiet_step (fail))
        refine wpQuiet_nil ?_
        refine wpN_val (arrV s.val) rfl (by kernel_rfl) (by kernel_rfl) (fun xw => growsTo_load_range (range_gr HRVV.out xw.2 (by omega)) HSOK.out.2 rfl rfl) ?_
        simp only [Act.put, List.setIfInBounds_toArray, List.set_cons_succ, List.set_cons_zero]
        refine wpN_gen 24 (NewI wv.heap.size (wordI s.val)) rfl rfl (by kernel_rfl) (by kernel_rfl) (stable_newI _ _) (fun xw => growsTo_call (by simp [go_sem]) ((rlp_Big s.val HSOK.out.2 _).mono ?_)) ?_
        · rintro e w' ⟨v, rfl, hg, hv⟩
          exact ⟨_, rfl, hg, hv.mono (fun b hb => ⟨Nat.le_trans xw.2.size hb.1, hb.2⟩) (fun _ _ => rfl)⟩
        refine wpN_free 25 (NewIs wv.heap.size [wordI s.key, wordI s.val]) rfl rfl (stable_newIs _ _) (fun b w' hC hb => ?_) ?_
        · have h21 : NewI wv.heap.size (wordI s.key) (b.tmps.getD 21 undef) w' := hb 21 (by decide)
          have h24 : NewI wv.heap.size (wordI s.val) (b.tmps.getD 24 undef) w' := hb 24 (by decide)
          obtain ⟨b1, A1, n1, k1, A2, n2, k2, e1, i1⟩ := newI_form h21
          obtain ⟨b3, A3, n3, k3, A4, n4, k4, e2, i2⟩ := newI_form h24
          have hB := hC.gr.size
          refine growsTo_build2 rfl e1 e2 (newIs_alloc (xs := [wordI s.key, wordI s.val]) (rows := [[.bool b1, .slice A1 n1 k1, .slice A2 n2 k2], [.bool b3, .slice A3 n3 k3, .slice A4 n4 k4]]) hC.gr.size rfl ?_ (by simp [maxLen]) 2 rfl (by omega))
          rw [ItemsAtP]
          exact ⟨_, _, rfl, i1, by rw [ItemsAtP]; exact ⟨_, _, rfl, i2, by rw [ItemsAtP]⟩⟩
        refine wpN_free 26 (NewI wv.heap.size (slotI s)) rfl rfl (stable_newI _ _) (fun b w' hC hb => ?_) ?_
        · have h25 : NewIs wv.heap.size [wordI s.key, wordI s.val] (b.tmps.getD 25 undef) w' := hb 25 (by decide)
          have h25' := h25
          obtain ⟨A5, c5, rows5, e5, _⟩ := h25
          refine growsTo_call1 rfl enter_list ?_
          rw [e5] at h25' ⊢
          refine (j_list _ _ _ _).mono ?_
          rintro e w'' ⟨_, rfl, hg, rfl⟩
          exact ⟨_, rfl, hg, stable_newI _ _ _ _ _ hg (newI_list h25')⟩
        refine wpN_free 27 (NewIs wv.heap.size [slotI s]) rfl rfl (stable_newIs _ _) (fun b w' hC hb => ?_) ?_
        · have h26 : NewI wv.heap.size (slotI s) (b.tmps.getD 26 undef) w' := hb 26 (by decide)
          obtain ⟨b1, A1, n1, k1, A2, n2, k2, e1, i1⟩ := newI_form h26
          refine growsTo_build1 rfl e1 (newIs_alloc (xs := [slotI s]) (rows := [[.bool b1, .slice A1 n1 k1, .slice A2 n2 k2]]) hC.gr.size rfl ?_ (by simp [maxLen]) 1 rfl (by omega))
          rw [ItemsAtP]
          exact ⟨_, _, rfl, i1, by rw [ItemsAtP]⟩
        refine wpN_nil (by kernel_rfl) ?_
        intro W hW
        replace hW := hW.gr
        intro v27 h27 v26 _ v25 _ v24 _ v21 _
        obtain ⟨A7, c7, rows7, rfl, hk1, hk2, _, hrd7, hit7⟩ := h27
        unfold finN
        rw [ItemsAtP] at hit7
        obtain ⟨r7, rest7, rfl, hir7, hre7⟩ := hit7
        rw [ItemsAtP] at hre7
        subst hre7
        obtain ⟨b7, Ax, nx, cx, Ay, ny, cy, rfl⟩ := hir7.len
        have HRD7 : Hid (Rd W W.heap.size A7 [.bool b7, .slice Ax nx cx, .slice Ay ny cy]) := Lib.hid (show RdP (fun b => b < W.heap.size) W A7 _ from by simpa using hrd7.mono (ok' := fun b => b < W.heap.size) (fun b hb => hb.2) (fun _ _ => rfl))
        have HIR7 := Lib.hid hir7
        have hW2 := hW.size
        have HOW2 := Lib.hid (own_gr HOW.out (HGv.out.trans hW))
        have HGW := Lib.hid (HGv.out.trans hW)
        clear hrd7 hir7
        simp only [List.length_cons, List.length_nil] at hk1 ⊢
        go_wp2_with (at_builtin; refine wpL_append (.tmp 18) (.tmp 27) 54 slT_items (base := w2.heap.size + 1) (.slice A done.length ca) done.length rows.flatten A7 1 c7 W.heap.size [.bool b7, .slice Ax nx cx, .slice Ay ny cy] rfl rfl rfl rfl HOW2.out HRD7.out rfl (by simp [Value.oneCell']) (by simp only [maxLen]; omega) (by omega) (by omega) ?_; intro A5 c5 w5 hown5 hg5 hbk5; have ho5 : w5.heap[w2.heap.size]? = some (.cells #[.bool true, .slice none 0 0, .slice A done.length ca] 56 (0, 0)) := (hg5.block w2.heap.size (by omega) (fun e => by have := own_block_ge HOW.out _ e.symm; omega)).trans ((HGW.out.block _ hrl).trans HRL.out); have e5 : w5.cell? ⟨w2.heap.size, 2, none⟩ = some (.slice A done.length ca) := (by rw [cell_of_row w5 _ _ _ _ (0, 0) ho5]; rfl); have f5 := frozen_of_row w5 w2.heap.size 2 _ _ ho5; have HOWN5 := Lib.hid hown5; have HG5 := Lib.hid hg5; have HBK5 := Lib.hid hbk5; clear hown5 hg5 hbk5 ho5)
        go_roundw
        case rel =>
          obtain ⟨r1, r2, r3, r4, r5, r6⟩ := items_push (g := w2.heap.size) (B := w2.heap.size + 1) (w0 := w) (wB := W) (x := slotI s) (r := [.bool b7, .slice Ax nx cx, .slice Ay ny cy]) (by omega) (by omega) hsz HGW.out (Gr.refl W) HOW.out HIT.out (ItemAtP.mono (fun k hk => ⟨by have := hk.1; omega, hk.2⟩) (fun _ _ => rfl) _ _ HIR7.out) HG5.out HOWN5.out HBK5.out HRL.out HG.out
          have hdl : (done ++ [slotI s]).length = done.length + 1 := by simp
          refine ⟨done ++ [slotI s], A5, c5, rows ++ [[.bool b7, .slice Ax nx cx, .slice Ay ny cy]], by rw [hdl]; omega, by rw [hdl]; go_num, ?_, ?_, ?_, ?_, r4, ?_, ?_, Lib.hid r5⟩
          · rw [hdl]; exact Lib.hid HTK.out.symm
          · rw [hdl]; exact Lib.hid r1
          · rw [hdl]; exact Lib.hid r2
          · rw [hdl]; exact Lib.hid r3
          · exact Lib.hid ((r6 _ (lt_of_some HR.out) (by omega) (fun e => by have := own_block_ge HOW.out _ e; omega)).trans HR.out)
          · exact Lib.hid ((r6 _ (lt_of_some HZ.out) (by omega) (fun e => by have := own_block_ge HOW.out _ e; omega)).trans HZ.out)
        case measure => simp [intOf]; omega
      · have HDD : Hid (done = c.slots.map slotI) := Lib.hid (by
          have := HD.out
          rwa [List.take_of_length_le (by omega)] at this)
        obtain ⟨qa, q20, q21, qb, q54, q55⟩ := ch_var HR.out HOK.out
        have hl0 := lt_of_some HR.out
        have hl2 := lt_of_some HRL.out
        obtain ⟨p0, p1, p2⟩ := cells_of3 HRL.out
        have P0 := later_cell (w := wr) (p := ⟨w2.heap.size, 0, none⟩) hl2 p0
        have P1 := later_cell (w := wr) (p := ⟨w2.heap.size, 1, none⟩) hl2 p1
        have P2 := later_cell (w := wr) (p := ⟨w2.heap.size, 2, none⟩) hl2 p2
        have Q21 := later_cell (w := wr) (p := ⟨w.heap.size, 21, none⟩) hl0 q21
        have Q54 := later_cell (w := wr) (p := ⟨w.heap.size, 54, none⟩) hl0 q54
        have k1 := fun x : Later wr => slice_addr_all x.1 w.heap.size 0
        have HQA := Lib.hid qa
        have HQB := Lib.hid qb
        have HLI := Lib.hid (list_item HOW.out HIT.out)
        have HIC := Lib.hid (HC.out.gr HG.out)
        have hNB := HOK.out.2.2.1
        have hNB2 := HOK.out.2.2.2.1
        have hwr : w.heap.size + 2 ≤ wr.heap.size := by omega
        clear qa q20 q21 qb q54 q55 p0 p1 p2 HOW HIT HRL HR HD
        go_wp2_with fail
        refine wp_region_N 17 (by kernel_rfl) (by kernel_rfl) (by kernel_rfl) ?_
        simp only [List.take_succ_cons, List.take_zero, List.drop_succ_cons, List.drop_zero]
        refine wpN_quiet 2 (by kernel_rfl) ?_
        simp only [List.take_succ_cons, List.take_zero, List.drop_succ_cons, List.drop_zero]
        repeat (go_big_quiet_step (fail))
        refine wpQuiet_nil ?_
        refine wpN_gen 33 (NewI wr.heap.size (bytesI c.addr)) rfl rfl (by kernel_rfl) (by kernel_rfl) (stable_newI _ _) (fun xw => growsTo_call (by simp [go_sem]) ((j_text _ c.addr _ (isB_range (range_gr HQA.out xw.2 hl0) (Nat.lt_of_lt_of_le hl0 xw.2.size) HOK.out.1 (by simp [maxLen])) (by have := HOK.out.1; omega)).mono ?_)) ?_
        · rintro e w' ⟨v, rfl, hg, hv⟩
          exact ⟨_, rfl, hg, hv.mono (fun b hb => ⟨Nat.le_trans xw.2.size hb.1, hb.2⟩) (fun _ _ => rfl)⟩
        refine wpN_quiet 1 (by kernel_rfl) ?_
        simp only [List.take_succ_cons, List.take_zero, List.drop_succ_cons, List.drop_zero]
        repeat (go_big_quiet_step (fail))
        refine wpQuiet_nil ?_
        refine wpN_gen 35 (NewI wr.heap.size (numI gn)) rfl rfl (by kernel_rfl) (by kernel_rfl) (stable_newI _ _) (fun xw => growsTo_call (by simp [go_sem]) ((rlp_Num (gn : Int) _ (by omega) (by omega)).mono ?_)) ?_
        · rintro e w' ⟨v, rfl, hg, hv⟩
          exact ⟨_, rfl, hg, hv.mono (fun b hb => ⟨Nat.le_trans xw.2.size hb.1, hb.2⟩) (fun _ _ => rfl)⟩
        refine wpN_quiet 2 (by kernel_rfl) ?_
        simp only [List.take_succ_cons, List.take_zero, List.drop_succ_cons, List.drop_zero]
        repeat (go_big_quiet_step (fail))
        refine wpQuiet_nil ?_
        refine wpN_gen 38 (NewI wr.heap.size (numI c.nonce.toNat)) rfl rfl (by kernel_rfl) (by kernel_rfl) (stable_newI _ _) (fun xw => growsTo_call (by simp [go_sem]) ((rlp_Num c.nonce _ hNB hNB2).mono ?_)) ?_
        · rintro e w' ⟨v, rfl, hg, hv⟩
          exact ⟨_, rfl, hg, hv.mono (fun b hb => ⟨Nat.le_trans xw.2.size hb.1, hb.2⟩) (fun _ _ => rfl)⟩
        refine wpN_quiet 1 (by kernel_rfl) ?_
        simp only [List.take_succ_cons, List.take_zero, List.drop_succ_cons, List.drop_zero]
        repeat (go_big_quiet_step (fail))
        refine wpQuiet_nil ?_
        refine wpN_val (arrV c.bal) rfl (by kernel_rfl) (by kernel_rfl) (fun xw => growsTo_load_range (range_gr HQB.out xw.2 hl0) HOK.out.2.1 rfl rfl) ?_
        simp only [Act.put, List.setIfInBounds_toArray, List.set_cons_succ, List.set_cons_zero]
        refine wpN_gen 41 (NewI wr.heap.size (wordI c.bal)) rfl rfl (by kernel_rfl) (by kernel_rfl) (stable_newI _ _) (fun xw => growsTo_call (by simp [go_sem]) ((rlp_Big c.bal HOK.out.2.1 _).mono ?_)) ?_
        · rintro e w' ⟨v, rfl, hg, hv⟩
          exact ⟨_, rfl, hg, hv.mono (fun b hb => ⟨Nat.le_trans xw.2.size hb.1, hb.2⟩) (fun _ _ => rfl)⟩
        refine wpN_quiet 2 (by kernel_rfl) ?_
        simp only [List.take_succ_cons, List.take_zero, List.drop_succ_cons, List.drop_zero]
        repeat (go_big_quiet_step (fail))
        refine wpQuiet_nil ?_
        refine wpN_gen 44 (NewI wr.heap.size (bytesI c.code)) rfl rfl (by kernel_rfl) (by kernel_rfl) (stable_newI _ _) (fun xw => growsTo_call (by simp [go_sem]) ((j_text _ c.code _ (HIC.out.gr xw.2) (by omega)).mono ?_)) ?_
        · rintro e w' ⟨v, rfl, hg, hv⟩
          exact ⟨_, rfl, hg, hv.mono (fun b hb => ⟨Nat.le_trans xw.2.size hb.1, hb.2⟩) (fun _ _ => rfl)⟩
        refine wpN_quiet 1 (by kernel_rfl) ?_
        simp only [List.take_succ_cons, List.take_zero, List.drop_succ_cons, List.drop_zero]
        repeat (go_big_quiet_step (fail))
        refine wpQuiet_nil ?_
        refine wpN_free 46 (NewIs (w.heap.size + 2) [bytesI c.addr, numI gn, numI c.nonce.toNat, wordI c.bal, bytesI c.code, listI done]) rfl rfl (stable_newIs _ _) (fun b w' hC hb => ?_) ?_
        · have h33 : NewI wr.heap.size (bytesI c.addr) (b.tmps.getD 33 undef) w' := hb 33 (by decide)
          have h35 : NewI wr.heap.size (numI gn) (b.tmps.getD 35 undef) w' := hb 35 (by decide)
          have h38 : NewI wr.heap.size (numI c.nonce.toNat) (b.tmps.getD 38 undef) w' := hb 38 (by decide)
          have h41 : NewI wr.heap.size (wordI c.bal) (b.tmps.getD 41 undef) w' := hb 41 (by decide)
          have h44 : NewI wr.heap.size (bytesI c.code) (b.tmps.getD 44 undef) w' := hb 44 (by decide)
          have h45 : b.tmps.getD 45 undef = .agg #[.bool true, .slice none 0 0, .slice A done.length ca] := hb 45 (by decide)
          have hgb := hC.gr
          have up : ∀ {x : Raw} {cs : List Value}, ItemAtP (fun k => wr.heap.size ≤ k ∧ k < w'.heap.size) w' x cs → ItemAtP (fun k => w.heap.size + 2 ≤ k ∧ k < w'.heap.size) w' x cs := fun h => ItemAtP.mono (fun k hk => ⟨by have := hk.1; omega, hk.2⟩) (fun _ _ => rfl) _ _ h
          obtain ⟨a1, A1, n1, k1, A2, n2, k2, e1, i1⟩ := newI_form h33
          obtain ⟨a2, A3, n3, k3, A4, n4, k4, e2, i2⟩ := newI_form h35
          obtain ⟨a3, A5, n5, k5, A6, n6, k6, e3, i3⟩ := newI_form h38
          obtain ⟨a4, A7, n7, k7, A8, n8, k8, e4, i4⟩ := newI_form h41
          obtain ⟨a5, A9, n9, k9, A10, n10, k10, e5, i5⟩ := newI_form h44
          obtain ⟨cs6, e6, i6⟩ := HLI.out
          obtain rfl : [.bool true, .slice none 0 0, .slice A done.length ca] = cs6 := by
            have := congrArg Value.cells e6
            simpa [Value.cells] using congrArg Array.toList this
          have i6' : ItemAtP (fun k => w.heap.size + 2 ≤ k ∧ k < w'.heap.size) w' (listI done) [.bool true, .slice none 0 0, .slice A done.length ca] := ItemAtP.mono (fun k hk => ⟨by have := hk.1; omega, Nat.lt_of_lt_of_le hk.2 hgb.size⟩) (fun p hp => hgb.cell hp.2) _ _ i6
          refine growsTo_build6 rfl e1 e2 e3 e4 e5 h45 (newIs_alloc (xs := [bytesI c.addr, numI gn, numI c.nonce.toNat, wordI c.bal, bytesI c.code, listI done])
            (rows := [[.bool a1, .slice A1 n1 k1, .slice A2 n2 k2], [.bool a2, .slice A3 n3 k3, .slice A4 n4 k4], [.bool a3, .slice A5 n5 k5, .slice A6 n6 k6], [.bool a4, .slice A7 n7 k7, .slice A8 n8 k8], [.bool a5, .slice A9 n9 k9, .slice A10 n10 k10], [.bool true, .slice none 0 0, .slice A done.length ca]])
            (by have := hgb.size; omega) rfl ?_ (by simp [maxLen]) 6 rfl (by omega))
          iterate 6
            rw [ItemsAtP]
            refine ⟨_, _, rfl, by first | exact up i1 | exact up i2 | exact up i3 | exact up i4 | exact up i5 | exact i6', ?_⟩
          rw [ItemsAtP]
        refine wpN_free 47 (NewI (w.heap.size + 2) (chI c)) rfl rfl (stable_newI _ _) (fun b w' hC hb => ?_) ?_
        · have h46 : NewIs (w.heap.size + 2) [bytesI c.addr, numI gn, numI c.nonce.toNat, wordI c.bal, bytesI c.code, listI done] (b.tmps.getD 46 undef) w' := hb 46 (by decide)
          have h46' := h46
          obtain ⟨A5, c5, rows5, e5, _⟩ := h46
          refine growsTo_call1 rfl enter_list ?_
          rw [e5] at h46' ⊢
          refine (j_list _ _ _ _).mono ?_
          rintro e w'' ⟨_, rfl, hg, rfl⟩
          have := newI_list h46'
          rw [HGN.out, HDD.out] at this
          exact ⟨_, rfl, hg, stable_newI _ _ _ _ _ hg this⟩
        refine wpN_nil (by kernel_rfl) ?_
        intro W hW
        replace hW := hW.gr
        intro v47 h47 v46 _ v44 _ v41 _ v38 _ v35 _ v33 _
        unfold finN
        simp only [Act.put, List.setIfInBounds_toArray, List.set_cons_succ, List.set_cons_zero]
        obtain ⟨b7, Ax, nx, cx, Ay, ny, cy, rfl, h47'⟩ := newI_form h47
        have H47 := Lib.hid h47
        have HZW := Lib.hid ((hW.block _ (lt_of_some HZ.out)).trans HZ.out)
        go_wp2_with (guard_target = wpList _ _ _ (Oper.mk _ (Op.store _ _ _) _ _ _ _ :: _) _ _; refine wpList_store_row rfl 56 (.tmp 2) (.tmp 47) rfl (w.heap.size + 1) #[.bool b7, .slice Ax nx cx, .slice Ay ny cy] rfl rfl 56 _ HZW.out (by kernel_rfl) rfl (by simp [Value.oneCell']) ?_)
        refine bodyPost_ret (results_item1 rfl _ _ (w.heap.size + 1) _ rfl (heap_setRow_same _ _ _ _ _ HZW.out) rfl) rfl ⟨_, rfl, gr_setRow (HG.out.trans hW) _ _ (by omega), ?_⟩
        exact ItemIn.mono H47.out (fun b hb => ⟨by have := hb.1; omega, by rw [size_setRow]; exact hb.2⟩) (fun p hp => cell_setRow (by have := hp.1; omega))
end Go.Proofs.Ytekacgocjplfjaa
/-
  journal: may.
  Conditions: none.
-/
namespace Go.Proofs.Ytekacgocjplfjaa
set_option linter.unusedVariables false
open Go.RowKit Mono Rlp Jn
namespace Jn
def rises : List (List UInt8) → Bool
  | [] => true
  | [_] => true
  | a :: b :: l => decide (cmp a b < 0) && rises (b :: l)
theorem risesS_eq : ∀ l : List Sl, risesS l = rises (l.map (·.key))
  | [] => rfl
  | [_] => rfl
  | a :: b :: l => by rw [risesS, risesS_eq (b :: l)]; rfl
theorem risesC_eq : ∀ l : List Ch, risesC l = rises (l.map (·.addr))
  | [] => rfl
  | [_] => rfl
  | a :: b :: l => by rw [risesC, risesC_eq (b :: l)]; rfl
theorem rises_snoc : ∀ (xs : List (List UInt8)) (a b : List UInt8), rises (xs ++ [a, b]) = (rises (xs ++ [a]) && decide (cmp a b < 0))
  | [], a, b => by simp [rises]
  | [x], a, b => by simp [rises]
  | x :: y :: xs, a, b => by
    have := rises_snoc (y :: xs) a b
    simp only [List.cons_append] at this ⊢
    rw [rises, rises, this, Bool.and_assoc]
theorem rises_pre : ∀ (xs ys : List (List UInt8)), rises (xs ++ ys) = true → rises xs = true
  | [], _, _ => rfl
  | [_], _, _ => rfl
  | a :: b :: l, ys, h => by
    simp only [List.cons_append] at h
    rw [rises, Bool.and_eq_true] at h
    rw [rises, h.1, rises_pre (b :: l) ys h.2]
    rfl
theorem rises_take (l : List (List UInt8)) (m : Nat) (h : m + 1 < l.length) : rises (l.take (m + 2)) = (rises (l.take (m + 1)) && decide (cmp (l[m]'(by omega)) l[m + 1] < 0)) := by
  have e1 : l.take (m + 2) = l.take m ++ [l[m]'(by omega), l[m + 1]] := by
    rw [← List.take_append_getElem h, ← List.take_append_getElem (show m < l.length by omega), List.append_assoc]
    rfl
  have e2 : l.take (m + 1) = l.take m ++ [l[m]'(by omega)] := (List.take_append_getElem (by omega)).symm
  rw [e1, e2, rises_snoc]
theorem rises_bad (l : List (List UInt8)) (m : Nat) (h : m + 1 < l.length) (hb : ¬ cmp (l[m]'(by omega)) l[m + 1] < 0) : rises l = false := by
  cases hr : rises l with
  | false => rfl
  | true =>
    have := rises_pre (l.take (m + 2)) (l.drop (m + 2)) (by rw [List.take_append_drop]; exact hr)
    rw [rises_take l m h, decide_eq_false hb, Bool.and_false] at this
    cases this
/-- The first k changes may be. -/
def mayTo (l : List Ch) (k : Nat) : Bool := (l.take k).all mayC && rises ((l.map (·.addr)).take k)
theorem mayTo_all (l : List Ch) (k : Nat) (h : l.length ≤ k) : mayTo l k = may l := by
  unfold mayTo may
  rw [List.take_of_length_le h, List.take_of_length_le (by simpa using h), risesC_eq]
theorem mayTo_zero (l : List Ch) : mayTo l 0 = true := rfl
theorem mayTo_one (l : List Ch) (h : 0 < l.length) (hc : mayC l[0] = true) : mayTo l 1 = true := by
  unfold mayTo
  rw [← List.take_append_getElem h]
  cases l with
  | nil => simp at h
  | cons a l => simp at hc ⊢; exact ⟨hc, rfl⟩
theorem mayTo_succ (l : List Ch) (m : Nat) (h : m + 1 < l.length) (h1 : mayTo l (m + 1) = true) (hc : mayC l[m + 1] = true) (hr : cmp (l[m]'(by omega)).addr l[m + 1].addr < 0) : mayTo l (m + 2) = true := by
  unfold mayTo at h1 ⊢
  rw [Bool.and_eq_true] at h1 ⊢
  refine ⟨?_, ?_⟩
  · rw [← List.take_append_getElem h, List.all_append, h1.1]
    simp [hc]
  · rw [rises_take _ _ (by simpa using h), h1.2]
    simpa using hr
theorem may_badC (l : List Ch) (k : Nat) (h : k < l.length) (hc : mayC l[k] = false) : may l = false := by
  unfold may
  have : l.all mayC = false := by
    rw [Bool.eq_false_iff]
    intro e
    have := List.all_eq_true.1 e _ (List.getElem_mem h)
    rw [hc] at this
    cases this
  rw [this, Bool.false_and]
theorem may_badR (l : List Ch) (m : Nat) (h : m + 1 < l.length) (hr : ¬ cmp (l[m]'(by omega)).addr l[m + 1].addr < 0) : may l = false := by
  unfold may
  rw [risesC_eq, rises_bad _ m (by simpa using h) (by simpa using hr), Bool.and_false]
end Jn
namespace Mono
section
variable {P : Program} {ops : Array Oper} {C : World → Prop}
/-- An operation whose guard does not hold. -/
theorem wpN_skip {R : Act → World → Prop} {a : Act} {N : List (Tmp × VP)} {o : Oper} {l : List Oper} (hf : (guardFree ops o (N.map (·.1)) && dstFree o (N.map (·.1))) = true) (hw : Region.wanted o (yielded ops a.tmps) = false)
    (hr : wpN P ops C R l (a.put o.dst undef) N) : wpN P ops C R (o :: l) a N := by
  simp only [Bool.and_eq_true] at hf
  refine wpN_det undef hf.2 (fun b w hC hb => ?_) hr
  have hwb : Region.wanted o (yielded ops b.tmps) = false := by
    rw [wanted_guard (a := a) (b := b) fun g want d hg hd => ?_, hw]
    have h2 := hb d (guard_looks hg hd)
    have h3 := hf.1
    unfold guardFree at h3
    simp only [hg, hd] at h3
    unfold phiN at h2
    rw [look_none N (by simpa using h3)] at h2
    exact h2
  exact ⟨fun h => (by rw [hwb] at h; cases h), fun _ => rfl⟩
end
end Mono
set_option maxRecDepth 20000 in
set_option maxHeartbeats 4000000 in
theorem j_may (v : Value) (l : List Ch) (w : World) (h : IsChs w v l) : Calls Try.prog 17 #[v] w (Ret (eqV (.bool (may l))) w) := by
  have HV := Lib.hid h
  obtain ⟨A, ca, rfl, hc1, hc2⟩ := IsChsP.form h
  unfold maxLen at hc2
  clear h
  go_enter Try.func17, Try.ntmps17
  go_wp2_with fail
  go_loopw [9] (fun i wr => ∃ k : Nat, k ≤ l.length ∧ i = .int .i64 k ∧ Hid (mayTo l k = true) ∧ Hid (Gr w wr)) (fun i _ => l.length - (intOf i).toNat)
  case atStart => exact ⟨0, by omega, rfl, Lib.hid rfl, Lib.hid (Gr.refl w)⟩
  case round =>
    obtain ⟨k, hk, rfl, HM, HG⟩ := hrel
    obtain ⟨wo, rfl⟩ : ∃ wo : World, wo = wr := ⟨_, rfl⟩
    by_cases h1 : k < l.length
    · obtain ⟨bl, o, vc, vs, rfl, hbl, hrg, hvc, hvs, hok⟩ := IsChsP.at HV.out k h1
      have HRG := Lib.hid (range_gr hrg HG.out hbl)
      have HOK := Lib.hid hok
      have HVS := Lib.hid (IsSl.gr hvs HG.out)
      obtain ⟨Ac, cc, rfl, _, _, _⟩ := hvc
      obtain ⟨As, cs, rfl, hs1, hs2⟩ := IsSlP.form hvs
      unfold maxLen at hs2
      have hone := all_oneCell_toArray (chC_one (c := l[k]) (vc := .slice Ac l[k].code.length cc) (vs := .slice As l[k].slots.length cs) rfl rfl)
      have HONE := Lib.hid hone
      clear hrg hvs hone
      go_upto_region 4 with first
        | (guard_target = wpList _ _ _ (Oper.mk _ (Op.load _ _) _ _ _ _ :: _) _ _; refine wpList_load_mid rfl 51 (.tmp 12) rfl bl (o + k * 56) rfl (chC l[k] (.slice Ac l[k].code.length cc) (.slice As l[k].slots.length cs)) _ HRG.out Try.underlying51 rfl (change_info _ HOK.out _ _) ?_)
        | (guard_target = wpList _ _ _ (Oper.mk _ (Op.alloc _) _ _ _ _ :: _) _ _; refine wpL_alloc_of alloc_change wo.heap.size rfl rfl rfl ?_; intro wa hRa hGa hsa)
        | (guard_target = wpList _ _ _ (Oper.mk _ (Op.store _ _ _) _ _ _ _ :: _) _ _; refine wpList_store_row rfl 51 (.tmp 4) (.tmp 13) rfl wo.heap.size (chC l[k] (.slice Ac l[k].code.length cc) (.slice As l[k].slots.length cs)).toArray rfl rfl 51 _ hRa.out (by rw [List.size_toArray]; exact change_info _ HOK.out _ _) (by rw [List.size_toArray, List.size_toArray, chC_length HOK.out]; rfl) HONE.out ?_)
      go_frame
      have HRv : Hid ((wa.setRow wo.heap.size (chC l[k] (.slice Ac l[k].code.length cc) (.slice As l[k].slots.length cs)).toArray).heap[wo.heap.size]? = _) := Lib.hid (heap_setRow_same _ _ _ _ _ hRa.out)
      have HGv : Hid (Gr wo (wa.setRow wo.heap.size (chC l[k] (.slice Ac l[k].code.length cc) (.slice As l[k].slots.length cs)).toArray)) := Lib.hid (gr_setRow hGa.out _ _ (Nat.le_refl _))
      have hsv : (wa.setRow wo.heap.size (chC l[k] (.slice Ac l[k].code.length cc) (.slice As l[k].slots.length cs)).toArray).heap.size = wo.heap.size + 1 := by rw [size_setRow, hsa]
      clear hRa hGa hsa HRG HONE hok
      generalize wa.setRow wo.heap.size (chC l[k] (.slice Ac l[k].code.length cc) (.slice As l[k].slots.length cs)).toArray = wv at HRv HGv hsv ⊢
      obtain ⟨qa, q20, q21, qb, q54, q55⟩ := ch_var HRv.out HOK.out
      have hlv : wo.heap.size < wv.heap.size := by omega
      have hnr := HOK.out.2.2.1
      have hnr2 := HOK.out.2.2.2.1
      go_cut [32] (fun s32 wx => ∃ bad : Bool, s32 = .bool bad ∧ Hid (bad = true → may l = false) ∧ Hid (bad = false → 0 ≤ l[k].nonce ∧ ∀ m (hm : k = m + 1), cmp (l[m]'(by omega)).addr l[k].addr < 0) ∧ Hid (Gr wv wx))
      case first =>
        have Q21 := later_cell (w := wv) (p := ⟨wo.heap.size, 21, none⟩) hlv q21
        clear q20 q21 qb q54 q55
        by_cases hneg : l[k].nonce < 0
        · have HB : Hid (may l = false) := Lib.hid (may_badC l k h1 (by unfold mayC; rw [decide_eq_false (by omega)]; rfl))
          refine wp_region_N 19 (by kernel_rfl) (by kernel_rfl) (by kernel_rfl) ?_
          simp only [List.take_succ_cons, List.take_zero, List.drop_succ_cons, List.drop_zero]
          refine wpN_quiet 15 (by kernel_rfl) ?_
          simp only [List.take_succ_cons, List.take_zero, List.drop_succ_cons, List.drop_zero]
          repeat (go_big_quiet_step (fail))
          refine wpQuiet_nil ?_
          refine wpN_skip (by kernel_rfl) (by kernel_rfl) ?_
          simp only [Act.put, List.setIfInBounds_toArray, List.set_cons_succ, List.set_cons_zero]
          refine wpN_quiet 3 (by kernel_rfl) ?_
          simp only [List.take_succ_cons, List.take_zero, List.drop_succ_cons, List.drop_zero]
          repeat (go_big_quiet_step (fail))
          refine wpQuiet_nil ?_
          refine wpN_nil (by kernel_rfl) ?_
          intro W hW
          replace hW := hW.gr
          unfold finN
          go_wp2_with fail
          go_meet
          exact ⟨true, rfl, Lib.hid fun _ => HB.out, Lib.hid (fun e => by cases e), Lib.hid hW⟩
        · have hpos : 0 ≤ l[k].nonce := by omega
          have HP := Lib.hid hpos
          rcases k with _ | m
          · skip
            refine wp_region_N 19 (by kernel_rfl) (by kernel_rfl) (by kernel_rfl) ?_
            simp only [List.take_succ_cons, List.take_zero, List.drop_succ_cons, List.drop_zero]
            refine wpN_quiet 15 (by kernel_rfl) ?_
            simp only [List.take_succ_cons, List.take_zero, List.drop_succ_cons, List.drop_zero]
            repeat (go_big_quiet_step (fail))
            refine wpQuiet_nil ?_
            refine wpN_skip (by kernel_rfl) (by kernel_rfl) ?_
            simp only [Act.put, List.setIfInBounds_toArray, List.set_cons_succ, List.set_cons_zero]
            refine wpN_quiet 3 (by kernel_rfl) ?_
            simp only [List.take_succ_cons, List.take_zero, List.drop_succ_cons, List.drop_zero]
            repeat (go_big_quiet_step (fail))
            refine wpQuiet_nil ?_
            refine wpN_nil (by kernel_rfl) ?_
            intro W hW
            replace hW := hW.gr
            unfold finN
            go_wp2_with fail
            go_meet
            exact ⟨false, by simp, Lib.hid (fun e => by cases e), Lib.hid (fun _ => ⟨HP.out, fun m hm => by omega⟩), Lib.hid hW⟩
          · obtain ⟨bl2, o2, vc2, vs2, e2, hbl2, hrg2, _, _, hok2⟩ := IsChsP.at HV.out m (by omega)
            injection e2 with e2
            injection e2 with e2 e3
            subst e2 e3
            obtain ⟨qp, _⟩ := ch_parts (range_gr (range_gr (range_gr hrg2 HG.out hbl) HGv.out (by have := HG.out.size; omega)) (Gr.refl wv) (by have := HG.out.size; omega)) hok2
            have HQP := Lib.hid qp
            have HQA := Lib.hid qa
            have hblv : bl < wv.heap.size := by have := HG.out.size; omega
            have HOK2 := Lib.hid hok2
            have k1 := fun x : Later wv => slice_addr_all x.1 bl (o + m * 56)
            have k2 := fun x : Later wv => slice_addr_all x.1 wo.heap.size 0
            clear qp qa hrg2 hok2
            refine wp_region_N 19 (by kernel_rfl) (by kernel_rfl) (by kernel_rfl) ?_
            simp only [List.take_succ_cons, List.take_zero, List.drop_succ_cons, List.drop_zero]
            refine wpN_quiet 15 (by kernel_rfl) ?_
            simp only [List.take_succ_cons, List.take_zero, List.drop_succ_cons, List.drop_zero]
            repeat (go_big_quiet_step (fail))
            refine wpQuiet_nil ?_
            refine wpN_val (.int .i64 (cmpB (l[m]'(by omega)).addr l[m + 1].addr)) rfl (by kernel_rfl) (by kernel_rfl) (fun xw => growsTo_call (by simp [go_sem]) ((bytes_Compare _ _ (l[m]'(by omega)).addr l[m + 1].addr _ (isB_range (range_gr HQP.out xw.2 hblv) (Nat.lt_of_lt_of_le hblv xw.2.size) HOK2.out.1 (by simp [maxLen])) (isB_range (range_gr HQA.out xw.2 hlv) (Nat.lt_of_lt_of_le hlv xw.2.size) HOK.out.1 (by simp [maxLen]))).mono ?_)) ?_
            · rintro e w' ⟨v, rfl, hg, hv⟩
              exact ⟨_, rfl, hg, hv⟩
            simp only [Act.put, List.setIfInBounds_toArray, List.set_cons_succ, List.set_cons_zero]
            refine wpN_quiet 3 (by kernel_rfl) ?_
            simp only [List.take_succ_cons, List.take_zero, List.drop_succ_cons, List.drop_zero]
            repeat (go_big_quiet_step (fail))
            refine wpQuiet_nil ?_
            refine wpN_nil (by kernel_rfl) ?_
            intro W hW
            replace hW := hW.gr
            unfold finN
            go_wp2_with fail
            go_meet
            refine ⟨decide (0 ≤ cmpB (l[m]'(by omega)).addr l[m + 1].addr), ?_, ?_, ?_, Lib.hid hW⟩
            · rfl
            · exact Lib.hid fun e => may_badR l m h1 (by have := of_decide_eq_true e; show ¬ cmpB _ _ < 0; omega)
            · refine Lib.hid fun e => ⟨HP.out, fun m' hm => ?_⟩
              obtain rfl : m = m' := by omega
              have := of_decide_eq_false e
              show cmpB _ _ < 0
              omega
      case rest =>
        obtain ⟨bad, rfl, HB1, HB2, HGX⟩ := hcut
        cases bad with
        | true =>
          go_wp2_with fail
          refine bodyPost_ret (results_tmp rfl _ _ _) rfl ⟨_, rfl, (HG.out.trans HGv.out).trans HGX.out, ?_⟩
          rw [HB1.out (by simp)]
          rfl
        | false =>
          clear qa q20 q21 qb q54 q55
          obtain ⟨qa, q20, q21, qb, q54, q55⟩ := ch_var ((HGX.out.block _ hlv).trans HRv.out) HOK.out
          go_wp2_with fail
          have HGC := Lib.hid ((HG.out.trans HGv.out).trans HGX.out)
          have HVS2 := Lib.hid (IsSl.gr (IsSl.gr HVS.out HGv.out) HGX.out)
          have HRC := Lib.hid ((HGX.out.block _ hlv).trans HRv.out)
          have hlc : wo.heap.size < wc.heap.size := Nat.lt_of_lt_of_le hlv HGX.out.size
          clear qa q20 q21 qb q54 q55 HGX HGv HG HB1 HVS
          obtain ⟨wb, hwb⟩ : ∃ wb : World, wb = wc := ⟨_, rfl⟩
          rw [← hwb] at HGC HVS2 HRC hlc ⊢
          clear hwb
          go_loopw [36] (fun i wo' => ∃ j : Nat, j ≤ l[k].slots.length ∧ i = .int .i64 j ∧ Hid (rises ((l[k].slots.map (·.key)).take j) = true) ∧ Hid (Gr wb wo')) (fun i _ => l[k].slots.length - (intOf i).toNat)
          case atStart => exact ⟨0, by omega, rfl, Lib.hid rfl, Lib.hid (Gr.refl _)⟩
          case round =>
            obtain ⟨j, hj, rfl, HRS, HGJ⟩ := hrel
            by_cases h2 : j < l[k].slots.length
            · obtain ⟨bs, os, rfl, hbs, hsr, hsok⟩ := IsSlP.at HVS2.out j h2
              have HSR := Lib.hid (range_gr hsr HGJ.out hbs)
              have HSOK := Lib.hid hsok
              clear hsr hsok
              obtain ⟨qa, q20, q21, qb, q54, q55⟩ := ch_var ((HGJ.out.block _ hlc).trans HRC.out) HOK.out
              go_upto_region 9 with first
                | (guard_target = wpList _ _ _ (Oper.mk _ (Op.load _ _) _ _ _ _ :: _) _ _; refine wpList_load_mid rfl 48 (.tmp 39) rfl bs (os + j * 64) rfl (slC l[k].slots[j]) _ HSR.out Try.underlying48 rfl (slot_info _ HSOK.out) ?_)
                | (guard_target = wpList _ _ _ (Oper.mk _ (Op.alloc _) _ _ _ _ :: _) _ _; refine wpL_alloc_of alloc_slot wr.heap.size rfl rfl rfl ?_; intro wa hRa hGa hsa)
                | (guard_target = wpList _ _ _ (Oper.mk _ (Op.store _ _ _) _ _ _ _ :: _) _ _; refine wpList_store_row rfl 48 (.tmp 6) (.tmp 40) rfl wr.heap.size (slC l[k].slots[j]).toArray rfl rfl 48 _ hRa.out (slot_info' _ HSOK.out) (slC_zero _ HSOK.out) (all_oneCell_toArray (slC_one _)) ?_)
              go_frame
              have HRs : Hid ((wa.setRow wr.heap.size (slC l[k].slots[j]).toArray).heap[wr.heap.size]? = _) := Lib.hid (heap_setRow_same _ _ _ _ _ hRa.out)
              have HGs : Hid (Gr wr (wa.setRow wr.heap.size (slC l[k].slots[j]).toArray)) := Lib.hid (gr_setRow hGa.out _ _ (Nat.le_refl _))
              have hss : (wa.setRow wr.heap.size (slC l[k].slots[j]).toArray).heap.size = wr.heap.size + 1 := by rw [size_setRow, hsa]
              clear hRa hGa hsa HSR qa q20 q21 qb q54 q55
              generalize wa.setRow wr.heap.size (slC l[k].slots[j]).toArray = ws at HRs HGs hss ⊢
              have hls : wr.heap.size < ws.heap.size := by omega
              have hwr := HGJ.out.size
              have hlc2 : wo.heap.size < ws.heap.size := by omega
              obtain ⟨qa, q20, q21, qb, q54, q55⟩ := ch_var ((HGs.out.block _ (by omega)).trans ((HGJ.out.block _ hlc).trans HRC.out)) HOK.out
              have Q55 := later_cell (w := ws) (p := ⟨wo.heap.size, 55, none⟩) hlc2 q55
              obtain ⟨rk, rv⟩ := sl_parts (range_row HRs.out) HSOK.out
              have HRK := Lib.hid rk
              clear qa q20 q21 qb q54 q55 rk rv
              go_cut [55] (fun s55 wx => ∃ bad : Bool, s55 = .bool bad ∧ Hid (bad = true → rises (l[k].slots.map (·.key)) = false) ∧ Hid (bad = false → rises ((l[k].slots.map (·.key)).take (j + 1)) = true) ∧ Hid (Gr ws wx))
              case first =>
                rcases j with _ | m
                · have HT : Hid (rises ((l[k].slots.map (·.key)).take (0 + 1)) = true) := Lib.hid (by
                    cases l[k].slots with
                    | nil => rfl
                    | cons a t => rfl)
                  refine wp_region_N 15 (by kernel_rfl) (by kernel_rfl) (by kernel_rfl) ?_
                  simp only [List.take_succ_cons, List.take_zero, List.drop_succ_cons, List.drop_zero]
                  refine wpN_quiet 12 (by kernel_rfl) ?_
                  simp only [List.take_succ_cons, List.take_zero, List.drop_succ_cons, List.drop_zero]
                  repeat (go_big_quiet_step (fail))
                  refine wpQuiet_nil ?_
                  refine wpN_skip (by kernel_rfl) (by kernel_rfl) ?_
                  simp only [Act.put, List.setIfInBounds_toArray, List.set_cons_succ, List.set_cons_zero]
                  refine wpN_quiet 2 (by kernel_rfl) ?_
                  simp only [List.take_succ_cons, List.take_zero, List.drop_succ_cons, List.drop_zero]
                  repeat (go_big_quiet_step (fail))
                  refine wpQuiet_nil ?_
                  refine wpN_nil (by kernel_rfl) ?_
                  intro W hW
                  replace hW := hW.gr
                  unfold finN
                  go_wp2_with fail
                  go_meet
                  exact ⟨false, by simp, Lib.hid (fun e => by cases e), Lib.hid fun _ => HT.out, Lib.hid hW⟩
                · obtain ⟨bs2, os2, e2, hbs2, hsr2, hsok2⟩ := IsSlP.at HVS2.out m (by omega)
                  injection e2 with e2
                  injection e2 with e2 e3
                  subst e2 e3
                  obtain ⟨rp, _⟩ := sl_parts (range_gr (range_gr hsr2 HGJ.out hbs) HGs.out (by omega)) hsok2
                  have HRP := Lib.hid rp
                  have hbss : bs < ws.heap.size := by omega
                  have HSOK2 := Lib.hid hsok2
                  clear rp hsr2 hsok2
                  refine wp_region_N 15 (by kernel_rfl) (by kernel_rfl) (by kernel_rfl) ?_
                  simp only [List.take_succ_cons, List.take_zero, List.drop_succ_cons, List.drop_zero]
                  refine wpN_quiet 9 (by kernel_rfl) ?_
                  simp only [List.take_succ_cons, List.take_zero, List.drop_succ_cons, List.drop_zero]
                  repeat (go_big_quiet_step (fail))
                  refine wpQuiet_nil ?_
                  refine wpN_val (arrV l[k].slots[m].key) rfl (by kernel_rfl) (by kernel_rfl) (fun xw => growsTo_load_range (range_gr HRP.out xw.2 hbss) HSOK2.out.1 rfl rfl) ?_
                  simp only [Act.put, List.setIfInBounds_toArray, List.set_cons_succ, List.set_cons_zero]
                  refine wpN_quiet 1 (by kernel_rfl) ?_
                  simp only [List.take_succ_cons, List.take_zero, List.drop_succ_cons, List.drop_zero]
                  repeat (go_big_quiet_step (fail))
                  refine wpQuiet_nil ?_
                  refine wpN_val (arrV l[k].slots[m + 1].key) rfl (by kernel_rfl) (by kernel_rfl) (fun xw => growsTo_load_range (range_gr HRK.out xw.2 hls) HSOK.out.1 rfl rfl) ?_
                  simp only [Act.put, List.setIfInBounds_toArray, List.set_cons_succ, List.set_cons_zero]
                  refine wpN_val (.int .i64 (cmpB l[k].slots[m].key l[k].slots[m + 1].key)) rfl (by kernel_rfl) (by kernel_rfl) (fun xw => growsTo_call (by simp [go_sem]) ((trie_Compare _ _ HSOK2.out.1 HSOK.out.1 _).mono ?_)) ?_
                  · rintro e w' ⟨v, rfl, hg, hv⟩
                    exact ⟨_, rfl, hg, hv⟩
                  simp only [Act.put, List.setIfInBounds_toArray, List.set_cons_succ, List.set_cons_zero]
                  refine wpN_quiet 2 (by kernel_rfl) ?_
                  simp only [List.take_succ_cons, List.take_zero, List.drop_succ_cons, List.drop_zero]
                  repeat (go_big_quiet_step (fail))
                  refine wpQuiet_nil ?_
                  refine wpN_nil (by kernel_rfl) ?_
                  intro W hW
                  replace hW := hW.gr
                  unfold finN
                  go_wp2_with fail
                  go_meet
                  refine ⟨decide (0 ≤ cmpB l[k].slots[m].key l[k].slots[m + 1].key), rfl, ?_, ?_, Lib.hid hW⟩
                  · refine Lib.hid fun e => rises_bad _ m (by simpa using h2) ?_
                    have := of_decide_eq_true e
                    simp only [List.getElem_map]
                    show ¬ cmpB _ _ < 0
                    omega
                  · refine Lib.hid fun e => ?_
                    have := of_decide_eq_false e
                    rw [rises_take _ m (by simpa using h2), HRS.out]
                    simp only [List.getElem_map, Bool.true_and, decide_eq_true_eq]
                    show cmpB _ _ < 0
                    omega
              case rest =>
                obtain ⟨bad, rfl, HB1, HB2, HGX⟩ := hcut
                cases bad with
                | true =>
                  go_wp2_with fail
                  refine bodyPost_ret (results_tmp rfl _ _ _) rfl ⟨_, rfl, ((HGC.out.trans HGJ.out).trans HGs.out).trans HGX.out, ?_⟩
                  rw [may_badC l k h1 (by unfold mayC; rw [risesS_eq, HB1.out (by simp), Bool.and_false])]
                  rfl
                | false =>
                  go_wp2_with fail
                  go_roundw
                  case rel => exact ⟨j + 1, by omega, by go_num, Lib.hid (HB2.out (by simp)), Lib.hid ((HGJ.out.trans HGs.out).trans HGX.out)⟩
                  case measure => simp [intOf]; omega
            · have HMC : Hid (mayC l[k] = true) := Lib.hid (by
                have := HRS.out
                rw [List.take_of_length_le (by simp; omega)] at this
                unfold mayC
                rw [risesS_eq, this, decide_eq_true (HB2.out (by simp)).1]
                rfl)
              go_wp2_with fail
              go_roundw
              case rel =>
                refine ⟨k + 1, by omega, by go_num, Lib.hid ?_, Lib.hid (HGC.out.trans HGJ.out)⟩
                rcases k with _ | m
                · exact mayTo_one l h1 HMC.out
                · exact mayTo_succ l m h1 HM.out HMC.out ((HB2.out (by simp)).2 m rfl)
              case measure => simp [intOf]; omega
    · have HE : Hid (may l = true) := Lib.hid (by rw [← mayTo_all l k (by omega)]; exact HM.out)
      go_wp2_with fail
      refine bodyPost_ret (results_tmp rfl _ _ _) rfl ⟨_, rfl, HG.out, ?_⟩
      rw [HE.out]
      rfl
end Go.Proofs.Ytekacgocjplfjaa
