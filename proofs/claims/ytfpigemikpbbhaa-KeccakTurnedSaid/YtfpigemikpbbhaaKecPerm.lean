/-
  keccak's permutation.
  Conditions: none.
-/
import Derived.Test.YtfpigemikpbbhaaKecRound
import Derived.Laws.Rows
import Derived.Laws.Tables
import Derived.Deep.WholeRow
namespace Go.Proofs.Ytfpigemikpbbhaa
open Go.RowKit Mono
open Kec (L St rotl)

theorem ho3t {w w' : World} {g gt : Nat} {t : TypeId} (h : Only g w w') (ht : Turns w gt t) (hne : gt ≠ g) : Turns w' gt t := (h.block gt ht.lt (fun e => hne (by injection e))).trans ht
def rcCells : Array Value := ((List.range 24).map fun k => Value.int .u64 (u (Kec.rc k))).toArray
theorem wpList_build_to {P : Program} {ops : Array Oper} {rest : List Oper} {o : Oper} {a : Act} {w : World} {Q : Exit → Act → World → Prop} (cells : Array Value) (d : Tmp) (t : TypeId) (parts : Array (Nat × Operand)) (hg : o.guard = none) (ho : o.op = .build t parts) (hd : o.dst = some d)
    (hf : P.built t (parts.map fun (i, x) => (i, a.eval x)).toList = some cells) (h : wpList P ops Q rest (a.put (some d) (.agg cells)) w) : wpList P ops Q (o :: rest) a w := by
  refine wpList_build hg t parts ho (by rw [hf]; rfl) ?_
  rw [hf, hd]
  exact h
set_option maxRecDepth 20000 in
set_option maxHeartbeats 1000000 in
theorem kec_turns (w : World) : Calls Try.prog 69 #[] w (Ret (fun v _ => v = .agg turnCells) w) := by
  go_enter Try.func69, Try.ntmps69
  go_wp2_with first
    | refine wpList_build_to turnCells 1 98 _ rfl rfl rfl (by kernel_rfl) ?_
    | refine wpList_store_row rfl 98 (.tmp 0) (.tmp 1) rfl w.heap.size turnCells rfl rfl 98 _ (heap_alloc_new w _) (by kernel_rfl) (by kernel_rfl) (by kernel_rfl) ?_
  rw [World.setRow_alloc_new]
  exact bodyPost_ret (results_cell_row rfl _ _ w.heap.size 98 turnCells (0, 0) _ rfl (heap_alloc_new w _) rfl rfl (by kernel_rfl)) rfl ⟨_, rfl, gr_alloc w _, rfl⟩
set_option maxRecDepth 20000 in
set_option maxHeartbeats 1000000 in
theorem kec_consts (w : World) : Calls Try.prog 70 #[] w (Ret (fun v _ => v = .agg rcCells) w) := by
  go_enter Try.func70, Try.ntmps70
  go_wp2_with first
    | refine wpList_build_to rcCells 1 100 _ rfl rfl rfl (by kernel_rfl) ?_
    | refine wpList_store_row rfl 100 (.tmp 0) (.tmp 1) rfl w.heap.size rcCells rfl rfl 100 _ (heap_alloc_new w _) (by kernel_rfl) (by kernel_rfl) (by kernel_rfl) ?_
  rw [World.setRow_alloc_new]
  exact bodyPost_ret (results_cell_row rfl _ _ w.heap.size 100 rcCells (0, 0) _ rfl (heap_alloc_new w _) rfl rfl (by kernel_rfl)) rfl ⟨_, rfl, gr_alloc w _, rfl⟩
theorem rc_index0 (w : World) : (Instr.index 100 (.agg rcCells) (.int .i64 ((0 : Nat) : Int))).run Try.prog w = .ok (.int .u64 (u (Kec.rc 0))) w := by kernel_rfl
theorem rc_index1 (w : World) : (Instr.index 100 (.agg rcCells) (.int .i64 ((1 : Nat) : Int))).run Try.prog w = .ok (.int .u64 (u (Kec.rc 1))) w := by kernel_rfl
theorem rc_index2 (w : World) : (Instr.index 100 (.agg rcCells) (.int .i64 ((2 : Nat) : Int))).run Try.prog w = .ok (.int .u64 (u (Kec.rc 2))) w := by kernel_rfl
theorem rc_index3 (w : World) : (Instr.index 100 (.agg rcCells) (.int .i64 ((3 : Nat) : Int))).run Try.prog w = .ok (.int .u64 (u (Kec.rc 3))) w := by kernel_rfl
theorem rc_index4 (w : World) : (Instr.index 100 (.agg rcCells) (.int .i64 ((4 : Nat) : Int))).run Try.prog w = .ok (.int .u64 (u (Kec.rc 4))) w := by kernel_rfl
theorem rc_index5 (w : World) : (Instr.index 100 (.agg rcCells) (.int .i64 ((5 : Nat) : Int))).run Try.prog w = .ok (.int .u64 (u (Kec.rc 5))) w := by kernel_rfl
theorem rc_index6 (w : World) : (Instr.index 100 (.agg rcCells) (.int .i64 ((6 : Nat) : Int))).run Try.prog w = .ok (.int .u64 (u (Kec.rc 6))) w := by kernel_rfl
theorem rc_index7 (w : World) : (Instr.index 100 (.agg rcCells) (.int .i64 ((7 : Nat) : Int))).run Try.prog w = .ok (.int .u64 (u (Kec.rc 7))) w := by kernel_rfl
theorem rc_index8 (w : World) : (Instr.index 100 (.agg rcCells) (.int .i64 ((8 : Nat) : Int))).run Try.prog w = .ok (.int .u64 (u (Kec.rc 8))) w := by kernel_rfl
theorem rc_index9 (w : World) : (Instr.index 100 (.agg rcCells) (.int .i64 ((9 : Nat) : Int))).run Try.prog w = .ok (.int .u64 (u (Kec.rc 9))) w := by kernel_rfl
theorem rc_index10 (w : World) : (Instr.index 100 (.agg rcCells) (.int .i64 ((10 : Nat) : Int))).run Try.prog w = .ok (.int .u64 (u (Kec.rc 10))) w := by kernel_rfl
theorem rc_index11 (w : World) : (Instr.index 100 (.agg rcCells) (.int .i64 ((11 : Nat) : Int))).run Try.prog w = .ok (.int .u64 (u (Kec.rc 11))) w := by kernel_rfl
theorem rc_index12 (w : World) : (Instr.index 100 (.agg rcCells) (.int .i64 ((12 : Nat) : Int))).run Try.prog w = .ok (.int .u64 (u (Kec.rc 12))) w := by kernel_rfl
theorem rc_index13 (w : World) : (Instr.index 100 (.agg rcCells) (.int .i64 ((13 : Nat) : Int))).run Try.prog w = .ok (.int .u64 (u (Kec.rc 13))) w := by kernel_rfl
theorem rc_index14 (w : World) : (Instr.index 100 (.agg rcCells) (.int .i64 ((14 : Nat) : Int))).run Try.prog w = .ok (.int .u64 (u (Kec.rc 14))) w := by kernel_rfl
theorem rc_index15 (w : World) : (Instr.index 100 (.agg rcCells) (.int .i64 ((15 : Nat) : Int))).run Try.prog w = .ok (.int .u64 (u (Kec.rc 15))) w := by kernel_rfl
theorem rc_index16 (w : World) : (Instr.index 100 (.agg rcCells) (.int .i64 ((16 : Nat) : Int))).run Try.prog w = .ok (.int .u64 (u (Kec.rc 16))) w := by kernel_rfl
theorem rc_index17 (w : World) : (Instr.index 100 (.agg rcCells) (.int .i64 ((17 : Nat) : Int))).run Try.prog w = .ok (.int .u64 (u (Kec.rc 17))) w := by kernel_rfl
theorem rc_index18 (w : World) : (Instr.index 100 (.agg rcCells) (.int .i64 ((18 : Nat) : Int))).run Try.prog w = .ok (.int .u64 (u (Kec.rc 18))) w := by kernel_rfl
theorem rc_index19 (w : World) : (Instr.index 100 (.agg rcCells) (.int .i64 ((19 : Nat) : Int))).run Try.prog w = .ok (.int .u64 (u (Kec.rc 19))) w := by kernel_rfl
theorem rc_index20 (w : World) : (Instr.index 100 (.agg rcCells) (.int .i64 ((20 : Nat) : Int))).run Try.prog w = .ok (.int .u64 (u (Kec.rc 20))) w := by kernel_rfl
theorem rc_index21 (w : World) : (Instr.index 100 (.agg rcCells) (.int .i64 ((21 : Nat) : Int))).run Try.prog w = .ok (.int .u64 (u (Kec.rc 21))) w := by kernel_rfl
theorem rc_index22 (w : World) : (Instr.index 100 (.agg rcCells) (.int .i64 ((22 : Nat) : Int))).run Try.prog w = .ok (.int .u64 (u (Kec.rc 22))) w := by kernel_rfl
theorem rc_index23 (w : World) : (Instr.index 100 (.agg rcCells) (.int .i64 ((23 : Nat) : Int))).run Try.prog w = .ok (.int .u64 (u (Kec.rc 23))) w := by kernel_rfl
theorem rc_index (k : Nat) (hk : k < 24) (w : World) : (Instr.index 100 (.agg rcCells) (.int .i64 (k : Nat))).run Try.prog w = .ok (.int .u64 (u (Kec.rc k))) w := by
  match k, hk with
  | 0, _ => exact rc_index0 w
  | 1, _ => exact rc_index1 w
  | 2, _ => exact rc_index2 w
  | 3, _ => exact rc_index3 w
  | 4, _ => exact rc_index4 w
  | 5, _ => exact rc_index5 w
  | 6, _ => exact rc_index6 w
  | 7, _ => exact rc_index7 w
  | 8, _ => exact rc_index8 w
  | 9, _ => exact rc_index9 w
  | 10, _ => exact rc_index10 w
  | 11, _ => exact rc_index11 w
  | 12, _ => exact rc_index12 w
  | 13, _ => exact rc_index13 w
  | 14, _ => exact rc_index14 w
  | 15, _ => exact rc_index15 w
  | 16, _ => exact rc_index16 w
  | 17, _ => exact rc_index17 w
  | 18, _ => exact rc_index18 w
  | 19, _ => exact rc_index19 w
  | 20, _ => exact rc_index20 w
  | 21, _ => exact rc_index21 w
  | 22, _ => exact rc_index22 w
  | 23, _ => exact rc_index23 w
  | k + 24, h => omega
set_option maxRecDepth 20000 in
set_option maxHeartbeats 1000000 in
theorem kec_permute (g : Nat) (t : TypeId) (s : St) (w : World) (hl : Lanes w g t 25 s) :
    Calls Try.prog 52 #[.pointer (some ⟨g, 0, none⟩)] w (RetU fun w' => Lanes w' g t 25 (Kec.perm s 24) ∧ Only g w w') := by
  have HL := Lib.hid hl
  clear hl
  go_enter Try.func52, Try.ntmps52
  go_wp2_with fail
  refine (kec_turns _).mono ?_
  rintro e w1 ⟨_, rfl, hg1, rfl⟩
  go_wp2_with refine wpList_store_row rfl 98 (.tmp 2) (.tmp 5) rfl w1.heap.size turnCells rfl rfl 98 _ (heap_alloc_new w1 _) (by kernel_rfl) (by kernel_rfl) (by kernel_rfl) ?_
  rw [World.setRow_alloc_new]
  refine (kec_consts _).mono ?_
  rintro e w2 ⟨_, rfl, hg2, rfl⟩
  have HT : Hid (Turns w2 w1.heap.size 98) := Lib.hid (Turns.gr (w := w1.alloc (.cells turnCells 98)) (heap_alloc_new w1 _) hg2)
  have HG : Hid (Gr w w2) := Lib.hid ((hg1.trans (gr_alloc w1 _)).trans hg2)
  have hs1 := hg1.size
  have hs2 := HL.out.lt
  clear hg1 hg2
  go_wp2_with fail
  go_loopw [7] (fun i wr => ∃ k : Nat, k ≤ 24 ∧ i = .int .i64 k ∧ Lanes wr g t 25 (Kec.perm s k) ∧ Turns wr w1.heap.size 98 ∧ Only g w wr) (fun i _ => 24 - (intOf i).toNat)
  case atStart => exact ⟨0, by omega, rfl, HL.out.gr HG.out, HT.out, Only.of_gr HG.out g⟩
  case round =>
    clear HT HG
    obtain ⟨k, hk, rfl, hl, ht, ho⟩ := hrel
    have HM := Lib.hid hl
    have HT := Lib.hid ht
    have HO := Lib.hid ho
    clear hl ht ho
    by_cases h1 : k < 24
    · have hidx := rc_index k h1
      go_wp2_with fail
      refine (kec_round g _ t 98 _ _ _ HM.out HT.out).mono ?_
      rintro e w3 ⟨rfl, hl3, ho3⟩
      have H3 := Lib.hid hl3
      have HO3 := Lib.hid ho3
      clear hl3 ho3
      go_wp2_with fail
      go_roundw
      case rel => exact ⟨k + 1, by omega, by go_num, H3.out, (ho3t HO3.out HT.out (by omega)), HO.out.trans HO3.out⟩
      case measure => simp [intOf]; omega
    · have h5 : k = 24 := by omega
      subst h5
      go_wp2_with fail
      exact bodyPost_end (results_none rfl _ _ _) rfl ⟨rfl, HM.out, HO.out⟩
end Go.Proofs.Ytfpigemikpbbhaa
