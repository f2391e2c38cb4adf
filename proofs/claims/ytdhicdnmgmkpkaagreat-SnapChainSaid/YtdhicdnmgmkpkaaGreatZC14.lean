/-
  Merged (wip/tools/merge.py): SB, SU1, SU2, SU3.
  Conditions: none.
-/
import Derived.Test.YtdhicdnmgmkpkaaGreatZC13
import Derived.Test.YtdhicdnmgmkpkaaGreatZC7
import Derived.Lib.SliceRun
/-
  Small things of many walks: tests of addresses and strings, nil, numbers' last bytes.
  Conditions: none.
-/
namespace Go.Proofs.YtdhicdnmgmkpkaaGreat
set_option linter.unusedVariables false
open Go.RowKit Mono Rlp
namespace E
theorem bin_addr (l m : List UInt8) : Bin .eql 32 (.arr 20 l) (.arr 20 m) (.bool (l == m)) ∧ Bin .neq 32 (.arr 20 l) (.arr 20 m) (.bool (l != m)) :=
  bin_arr Tryz.underlying32 Tryz.underlying5 (fun w => by kernel_rfl) (by kernel_rfl) l m
abbrev nilS : Value := .slice none 0 0
abbrev rsO (g : Nat) (L k : Value) (n : Int) : Obj := .var g 119 (.tup [.v L, .v k, .v (.int .i64 n)])
theorem bin_strlt (l m : List UInt8) : Bin .lss 9 (.v (.string (Go.Proofs.YtdhicdnmgmkpkaaGreat.bs l))) (.v (.string (Go.Proofs.YtdhicdnmgmkpkaaGreat.bs m))) (.bool (Op.bytesLess l m)) := by
  refine ⟨rfl, fun ok w p q hp hq => ?_⟩
  obtain rfl := (readV_v.1 hp).2
  obtain rfl := (readV_v.1 hq).2
  refine ⟨fun x y => by simp [eqGuard], ?_⟩
  simp [binOp, Op.stringOp, bs_toList]
theorem bl_irr : ∀ l : List UInt8, Op.bytesLess l l = false
  | [] => rfl
  | a :: l => by simp [Op.bytesLess, bl_irr l]
theorem sl_addr : SliceA 32 20 := ⟨fun w g o => by
  have hn : Tryz.prog.arrayLen 32 = 20 := by kernel_rfl
  have hs : (sizeOf (Tryz.prog.elem 32)).run Tryz.prog w = .ok 1 w := by kernel_rfl
  rw [run_sliceAt_array_all (P := Tryz.prog) w 32 ⟨g, o, none⟩ (by kernel_rfl), hs]
  simp [slicedAt, hn, add_none, Result.andThen]⟩
theorem bv8 (n : Nat) : bv (UInt8.ofNat n) = .int .u8 ((n % 256 : Nat) : Int) := by
  unfold bv
  rw [show (UInt8.ofNat n).toNat = n % 256 from rfl]
abbrev n64 (n : Nat) : Value := .int .i64 (n : Int)
theorem n64_wrap (n : Nat) (h : n < 9223372036854775808) : IntKind.i64.wrap (n : Int) = (n : Int) := IntWalk.i64_in _ ⟨by omega, by omega⟩
theorem ofInt_n64 (a : Nat) (h : a < 18446744073709551616) : (BitVec.ofInt 64 (a : Int)).toNat = a := by
  rw [BitVec.toNat_ofInt]
  omega
theorem n64_and (a b : Nat) (ha : a < 9223372036854775808) (hb : b < 9223372036854775808) : bits .and .i64 (a : Int) (b : Int) = ((a &&& b : Nat) : Int) := by
  have h : a &&& b ≤ a := Nat.and_le_left
  show IntKind.i64.wrap (((BitVec.ofInt 64 (a : Int) &&& BitVec.ofInt 64 (b : Int)).toNat : Nat) : Int) = _
  rw [BitVec.toNat_and, ofInt_n64 a (by omega), ofInt_n64 b (by omega)]
  exact n64_wrap _ (by omega)
theorem binMask (T : TypeId) (x k : Nat) (hx : x < 9223372036854775808) (hk : k < 63) (m : Int) (hm : m = ((2 ^ k - 1 : Nat) : Int)) : Bin .and T (.v (n64 x)) (.v (.int .i64 m)) (n64 (x % 2 ^ k)) := bin_of rfl fun w => by
  subst hm
  have hp : 2 ^ k - 1 < 9223372036854775808 := by
    have : 2 ^ k < 2 ^ 63 := Nat.pow_lt_pow_right (by decide) hk
    omega
  show Result.ok (Value.int .i64 (bits .and .i64 (x : Int) ((2 ^ k - 1 : Nat) : Int))) w = _
  rw [n64_and x _ hx hp, Nat.and_two_pow_sub_one_eq_mod]
theorem binShr (T : TypeId) (x k : Nat) (hk : k < 64) : Bin .shr T (.v (n64 x)) (.v (.int .u64 (k : Int))) (n64 (x / 2 ^ k)) := bin_of rfl fun w => by
  have h1 : ¬ ((k : Int) < 0) := by omega
  have h2 : min ((k : Int)).toNat IntKind.i64.bits = k := by
    rw [Int.toNat_natCast]
    exact Nat.min_eq_left (Nat.le_of_lt hk)
  have h3 : (x : Int).fdiv (2 ^ k) = ((x / 2 ^ k : Nat) : Int) := by
    rw [Int.fdiv_eq_ediv_of_nonneg _ (Int.le_of_lt (Int.pow_pos (by decide)))]
    simp
  show (Op.shift .shr .i64 (x : Int) .u64 (k : Int)).run Tryz.prog w = _
  unfold Op.shift
  rw [if_neg h1]
  simp only [h2, h3, Sem.run_pure]
end E
end Go.Proofs.YtdhicdnmgmkpkaaGreat
/-
  The program's state, at accounts with code and slots: bytes.Clone, a slot that is told, a slot that is given a value.
  Conditions: none.
-/
namespace Go.Proofs.YtdhicdnmgmkpkaaGreat
set_option linter.unusedVariables false
open Go.RowKit Mono Rlp Wd
set_option maxHeartbeats 1000000 in
theorem clone0 (v : Value) (l : List UInt8) (w : World) (h : IsB w v l) (hl : l.length ≤ 140737488355328) : Calls Tryz.prog 59 #[v] w (Ret (fun v w' => OwnB w' w.heap.size v l) w) := by
  obtain ⟨A, c, rfl, hc1, hc2, hr⟩ := h
  cases A with
  | none =>
    have hl0 : l = [] := by
      by_cases hn : bvs l = []
      · simpa [bvs] using hn
      · obtain ⟨b, o, e, _⟩ := hr hn
        cases e
    subst hl0
    clear hr
    have hq := Lib.run_eql_slice_nil w 35 5 none 0 c 0 0 Tryz.underlying35
    go_enter Tryz.func59, Tryz.ntmps59
    go_wp2
    refine bodyPost_ret (results_tmp rfl _ _ _) rfl ?_
    exact ⟨_, rfl, Gr.refl _, OwnB.nil _ _⟩
  | some a =>
    have HR := Lib.hid hr
    clear hr
    have hq := Lib.run_eql_slice_nil w 35 5 (some a) l.length c 0 0 Tryz.underlying35
    go_enter Tryz.func59, Tryz.ntmps59
    go_wp2_with (at_builtin; refine wpL_append (.tmp 5) (.tmp 6) 35 slT_bytes (base := w.heap.size) _ 0 [] _ l.length c w.heap.size (bvs l) rfl rfl rfl rfl (own_lit w #[] 5 1 0 w.heap.size w.heap.size rfl (Nat.le_refl _) (by simp [maxLen]) rfl) (HR.out.below ((Below.refl _ _).alloc (Nat.le_refl _) _)) (by simp [bvs]) (bvs_one _) (by simp only [maxLen]; omega) (by omega) (by simp) ?_; intro A2 c2 w2 hown2 hg2 _)
    refine bodyPost_ret (results_tmp rfl _ _ _) rfl ?_
    refine ⟨_, rfl, ((Below.refl _ _).alloc (Nat.le_refl _) _).grown hg2 (by simp) (fun j hj => by cases hj; exact Nat.le_refl _), ?_⟩
    rw [Nat.zero_add, List.nil_append] at hown2
    exact hown2
namespace E
theorem f_Clone (l : List UInt8) (hl : l.length ≤ 140737488355328) : Fn 59 [.bs l] (· = .val (.bs l)) := ⟨fun ok w xs hok hr => by
  obtain ⟨x, _, rfl, hx, rfl⟩ := hr
  refine (clone0 x l w (isB_of hok hx) hl).mono ?_
  rintro e w' ⟨v, rfl, hg, ho⟩
  exact ⟨hg, v, .val (.bs l), rfl, rfl, (readV_one rfl).2 (by rw [Reads]; exact ⟨v, rfl, IsBP.mono (ownB_P ho) (fun b hb => ⟨.inr hb.1, hb.2⟩) fun _ _ => rfl⟩)⟩⟩
theorem Fn.toM {f : FuncId} {ds : List D} {Φ : R → Prop} (h : Fn f ds Φ) : FnM f ds [] (fun r os' => Φ r ∧ os' = []) := ⟨fun ok w xs hok hown hr => (h.go ok w xs hok hr).mono fun e w' ⟨hg, v, r, he, hΦ, hv⟩ => by
  have hz : okM ok [] w [] w' = fun b => (ok b ∨ w.heap.size ≤ b) ∧ b < w'.heap.size := by
    funext b
    refine propext ⟨fun h => ⟨?_, h.2.1⟩, fun h => ⟨?_, h.2, fun o ho => by simp at ho⟩⟩
    · rcases h.1 with h | ⟨o, ho, _⟩ | h
      · exact .inl h
      · simp at ho
      · exact .inr h
    · exact h.1.imp id .inr
  refine ⟨v, r, [], he, ⟨hΦ, rfl⟩, ⟨.of hg, .nil, fun o ho => by simp at ho⟩, ?_⟩
  rw [hz]
  exact hv⟩
def slE (ss : List Ent) (k : List UInt8) : D := (getE ss k).getD (.arr 32 zero32)
section
variable {g m c ga gs sc : Nat} {u k : Value} {n : Int} {es ss : List Ent} {a w cd q : List UInt8} {us ks : List D} {b : Int}
set_option maxRecDepth 20000 in
set_option maxHeartbeats 4000000 in
theorem slot_in {v : List UInt8} (h : getE es a = some (.v (ptr ga))) (hv : slE ss q = .arr 32 v) : FnM 108 [.v (ptr g), .arr 20 a, .arr 32 q] [stO g m u k n, smO m c es, acO ga b w cd (.map (some gs)), .map gs 32 sc ss] (fun r os' => r = .val (.arr 32 v) ∧ os' = [stO g m u k n, smO m c es, acO ga b w cd (.map (some gs)), .map gs 32 sc ss]) := by
  have h1 := of_in (g := g) (m := m) (c := c) (u := u) (k := k) (n := n) h
  have hg : (getE ss q).getD (.arr 32 zero32) = .arr 32 v := hv
  refine FnM.walk 15 Tryz.func108 rfl Tryz.ntmps108 (by simp) fun X => ?_
  repeat
    (first
     | (apply P_alloc; exact rfl; exact rfl; exact rfl; intro _) | (apply P_box; exact rfl; exact rfl; exact rfl; intro _) | apply EL.nil | ((with_reducible apply EK.then_normal); apply EK.code)
     | (with_reducible first | apply EC.seq | apply EC.region | apply EC.skip | apply EC.label | apply EC.block | apply EC.exit | apply EC.ret | apply EK.in_normal | apply EK.in_same | apply EK.in_ret | apply EK.then_ret | apply EK.then_exit))
  rename_i g1 g2 g3
  refine EC.le (Le.pick [3, 4, 5, 6, 0, 1, 2] [_, _, _, _, _, _, _] rfl (by decide) rfl) ?_
  refine EC.drawC 8 [0, 1, 6] [2, 3, 4, 5, 7] [_, _, _, _] _ (by kernel_rfl) (by kernel_rfl) rfl ?_
  simp only [pickL, List.filterMap_cons, List.filterMap_nil, List.getElem?_cons_zero, List.getElem?_cons_succ]
  repeat
    (first
     | (apply H_move; (iterate 3 exact rfl)) | (apply H_load; exact rfl; (first | exact I0 | exact I1 | exact I2 | exact I3 | exact I4 | exact I5 | exact I6); (iterate 4 exact rfl)))
  refine EM.nil ?_
  repeat (first | rw [List.cons_append] | rw [List.nil_append])
  refine CH.callM (rest := [_, _]) h1 rfl rfl (RefineL.refl _ _) (by intro _ _; simp [go_sem]) rfl rfl ?_
  rintro _ _ ⟨rfl, rfl⟩
  try simp only [St.put]
  repeat (first | rw [List.cons_append] | rw [List.nil_append])
  refine CH.cut 4 ?_
  simp only [List.take_succ_cons, List.take_zero, List.drop_succ_cons, List.drop_zero]
  repeat
    (first
     | (apply H_lookup; exact hg; exact rfl; (first | exact I0 | exact I1 | exact I2 | exact I3 | exact I4 | exact I5); (iterate 5 exact rfl)) | (apply H_field; (iterate 6 exact rfl))
     | (apply H_load; exact rfl; (first | exact I0 | exact I1 | exact I2 | exact I3 | exact I4 | exact I5 | exact I6); (iterate 4 exact rfl)) | (apply H_nilck; (iterate 3 exact rfl)))
  refine EM.nil ?_
  repeat (first | rw [List.cons_append] | rw [List.nil_append])
  refine CH.nil ?_
  try simp only [List.drop_succ_cons, List.drop_zero]
  repeat
    (first
     | (apply P_store; exact rfl; (focus (repeat first | exact .z | apply SetAt.s | apply SetAtF.s)); (iterate 4 exact rfl)) | apply EL.nil | ((with_reducible apply EK.then_normal); apply EK.code)
     | (with_reducible first | apply EC.seq | apply EC.region | apply EC.skip | apply EC.label | apply EC.block | apply EC.exit | apply EC.ret | apply EK.in_normal | apply EK.in_same | apply EK.in_ret | apply EK.then_ret | apply EK.then_exit))
  exact EK.retMc1s 4 [stO g m u k n, smO m c es, acO ga b w cd (.map (some gs)), .map gs 32 sc ss] rfl rfl rfl rfl (by repeat first | exact RefineL.refl _ _ | exact RL.nil | exact Rf.same) (by (repeat first | exact List.nil_sublist _ | apply List.Sublist.cons_cons | apply List.Sublist.cons)) ⟨rfl, rfl⟩
set_option maxRecDepth 20000 in
set_option maxHeartbeats 4000000 in
theorem slot_out (h : getE es a = none) : FnM 108 [.v (ptr g), .arr 20 a, .arr 32 q] [stO g m u k n, smO m c es] (fun r os' => r = .val (.arr 32 zero32) ∧ os' = [stO g m u k n, smO m c es]) := by
  have h1 := of_out (g := g) (m := m) (c := c) (u := u) (k := k) (n := n) h
  refine FnM.walk 15 Tryz.func108 rfl Tryz.ntmps108 (by simp) fun X => ?_
  repeat
    (first
     | (apply P_alloc; exact rfl; exact rfl; exact rfl; intro _) | (apply P_box; exact rfl; exact rfl; exact rfl; intro _) | apply EL.nil | ((with_reducible apply EK.then_normal); apply EK.code)
     | (with_reducible first | apply EC.seq | apply EC.region | apply EC.skip | apply EC.label | apply EC.block | apply EC.exit | apply EC.ret | apply EK.in_normal | apply EK.in_same | apply EK.in_ret | apply EK.then_ret | apply EK.then_exit))
  rename_i g1 g2 g3
  refine EC.le (Le.pick [3, 4, 0, 1, 2] [_, _, _, _, _] rfl (by decide) rfl) ?_
  refine EC.drawC 8 [0, 1, 6] [2, 3, 4, 5, 7] [_, _] _ (by kernel_rfl) (by kernel_rfl) rfl ?_
  simp only [pickL, List.filterMap_cons, List.filterMap_nil, List.getElem?_cons_zero, List.getElem?_cons_succ]
  repeat
    (first
     | (apply H_move; (iterate 3 exact rfl)) | (apply H_load; exact rfl; (first | exact I0 | exact I1 | exact I2 | exact I3 | exact I4 | exact I5 | exact I6); (iterate 4 exact rfl)))
  refine EM.nil ?_
  repeat (first | rw [List.cons_append] | rw [List.nil_append])
  refine CH.callM (rest := []) h1 rfl rfl (RefineL.refl _ _) (by intro _ _; simp [go_sem]) rfl rfl ?_
  rintro _ _ ⟨gz, rfl, rfl⟩
  try simp only [St.put]
  repeat (first | rw [List.cons_append] | rw [List.nil_append])
  refine CH.cut 4 ?_
  simp only [List.take_succ_cons, List.take_zero, List.drop_succ_cons, List.drop_zero]
  repeat
    (first
     | (apply H_lookupNil; (iterate 6 exact rfl)) | (apply H_field; (iterate 6 exact rfl))
     | (apply H_load; exact rfl; (first | exact I0 | exact I1 | exact I2 | exact I3 | exact I4 | exact I5 | exact I6); (iterate 4 exact rfl)) | (apply H_nilck; (iterate 3 exact rfl)))
  refine EM.nil ?_
  repeat (first | rw [List.cons_append] | rw [List.nil_append])
  refine CH.nil ?_
  try simp only [List.drop_succ_cons, List.drop_zero]
  repeat
    (first
     | (apply P_store; exact rfl; (focus (repeat first | exact .z | apply SetAt.s | apply SetAtF.s)); (iterate 4 exact rfl)) | apply EL.nil | ((with_reducible apply EK.then_normal); apply EK.code)
     | (with_reducible first | apply EC.seq | apply EC.region | apply EC.skip | apply EC.label | apply EC.block | apply EC.exit | apply EC.ret | apply EK.in_normal | apply EK.in_same | apply EK.in_ret | apply EK.then_ret | apply EK.then_exit))
  exact EK.retMc1s 3 [stO g m u k n, smO m c es] rfl rfl rfl rfl (by repeat first | exact RefineL.refl _ _ | exact RL.nil | exact Rf.same) (by (repeat first | exact List.nil_sublist _ | apply List.Sublist.cons_cons | apply List.Sublist.cons)) ⟨rfl, rfl⟩
set_option maxRecDepth 20000 in
set_option maxHeartbeats 4000000 in
theorem set_del : FnM 60 [.v (ptr ga), .arr 32 q, .arr 32 zero32] [acO ga b w cd (.map (some gs)), .map gs 32 sc ss] (fun r os' => r = .tpl [] ∧ os' = [acO ga b w cd (.map (some gs)), .map gs 32 sc (delE ss q)]) := by
  have hz := (bin_word zero32 zero32).1
  rw [beq_self_eq_true] at hz
  refine FnM.walk 20 Tryz.func60 rfl Tryz.ntmps60 (by simp) fun X => ?_
  repeat
    (first
     | (apply P_bin; (iterate 2 exact rfl); exact hz; (iterate 2 exact rfl))
     | (apply P_load; exact rfl; (first | exact I0 | exact I1 | exact I2 | exact I3 | exact I4 | exact I5 | exact I6); (iterate 4 exact rfl)) | (apply P_build0; (iterate 5 exact rfl))
     | (apply P_box; exact rfl; exact rfl; exact rfl; intro _) | apply EL.nil | ((with_reducible apply EK.then_normal); apply EK.code) | (apply EC.cond_true; exact rfl)
     | (with_reducible first | apply EC.seq | apply EC.region | apply EC.skip | apply EC.label | apply EC.block | apply EC.exit | apply EC.ret | apply EK.in_normal | apply EK.in_same | apply EK.in_ret | apply EK.then_ret | apply EK.then_exit))
  refine EC.draw 5 (by kernel_rfl) ?_
  simp only [List.take_succ_cons, List.take_zero, List.drop_succ_cons, List.drop_zero]
  repeat
    (first
     | (apply H_move; (iterate 3 exact rfl)) | (apply H_field; (iterate 6 exact rfl))
     | (apply H_load; exact rfl; (first | exact I0 | exact I1 | exact I2 | exact I3 | exact I4 | exact I5 | exact I6); (iterate 4 exact rfl)) | (apply H_nilck; (iterate 3 exact rfl))
     | ((with_reducible apply EH.nil); exact rfl))
  repeat
    (first
     | (apply P_delete; exact rfl; (focus (repeat first | exact .z | apply SetAt.s | apply SetAtF.s)); (iterate 3 exact rfl)) | apply EL.nil | ((with_reducible apply EK.then_normal); apply EK.code)
     | (with_reducible first | apply EC.seq | apply EC.region | apply EC.skip | apply EC.label | apply EC.block | apply EC.exit | apply EC.ret | apply EK.in_normal | apply EK.in_same | apply EK.in_ret | apply EK.then_ret | apply EK.then_exit))
  exact EK.retM0s [acO ga b w cd (.map (some gs)), .map gs 32 sc (delE ss q)] rfl (by (repeat first | exact List.nil_sublist _ | apply List.Sublist.cons_cons | apply List.Sublist.cons)) ⟨rfl, rfl⟩
set_option maxRecDepth 20000 in
set_option maxHeartbeats 4000000 in
theorem set_put {v : List UInt8} (hv : (v == zero32) = false) : FnM 60 [.v (ptr ga), .arr 32 q, .arr 32 v] [acO ga b w cd (.map (some gs)), .map gs 32 sc ss] (fun r os' => r = .tpl [] ∧ os' = [acO ga b w cd (.map (some gs)), .map gs 32 (tickE sc ss q) (putE sc ss q (.arr 32 v))]) := by
  have hz := (bin_word v zero32).1
  rw [hv] at hz
  refine FnM.walk 20 Tryz.func60 rfl Tryz.ntmps60 (by simp) fun X => ?_
  repeat
    (first
     | (apply P_bin; (iterate 2 exact rfl); exact hz; (iterate 2 exact rfl))
     | (apply P_load; exact rfl; (first | exact I0 | exact I1 | exact I2 | exact I3 | exact I4 | exact I5 | exact I6); (iterate 4 exact rfl)) | (apply P_build0; (iterate 5 exact rfl))
     | (apply P_box; exact rfl; exact rfl; exact rfl; intro _) | apply EL.nil | ((with_reducible apply EK.then_normal); apply EK.code) | (apply EC.cond_false; exact rfl)
     | (with_reducible first | apply EC.seq | apply EC.region | apply EC.skip | apply EC.label | apply EC.block | apply EC.exit | apply EC.ret | apply EK.in_normal | apply EK.in_same | apply EK.in_ret | apply EK.then_ret | apply EK.then_exit))
  refine EC.draw 6 (by kernel_rfl) ?_
  simp only [List.take_succ_cons, List.take_zero, List.drop_succ_cons, List.drop_zero]
  repeat
    (first
     | (apply H_move; (iterate 3 exact rfl)) | (apply H_field; (iterate 6 exact rfl))
     | (apply H_load; exact rfl; (first | exact I0 | exact I1 | exact I2 | exact I3 | exact I4 | exact I5 | exact I6); (iterate 4 exact rfl)) | (apply H_nilck; (iterate 3 exact rfl))
     | ((with_reducible apply EH.nil); exact rfl))
  repeat
    (first
     | (apply P_mapUpd; exact rfl; (focus (repeat first | exact .z | apply SetAt.s | apply SetAtF.s)); (iterate 4 exact rfl)) | apply EL.nil)
  exact EK.retM0n [acO ga b w cd (.map (some gs)), .map gs 32 (tickE sc ss q) (putE sc ss q (.arr 32 v))] rfl (by (repeat first | exact List.nil_sublist _ | apply List.Sublist.cons_cons | apply List.Sublist.cons)) ⟨rfl, rfl⟩
end
end E
end Go.Proofs.YtdhicdnmgmkpkaaGreat
/-
  The program's state, at accounts with code and slots: SetSlot, SetCode, Kill.
  Conditions: none.
-/
namespace Go.Proofs.YtdhicdnmgmkpkaaGreat
set_option linter.unusedVariables false
open Go.RowKit Mono Rlp Wd
namespace E
abbrev wasC (a c : List UInt8) : D := .ifc 179 (.tup [.arr 20 a, .bs c])
abbrev wasS (a q v : List UInt8) : D := .ifc 177 (.tup [.arr 20 a, .arr 32 q, .arr 32 v])
abbrev wasA (a : List UInt8) (p : Value) : D := .ifc 181 (.tup [.arr 20 a, .v p])
section
variable {g m c ga gs sc T : Nat} {u k : Value} {n : Int} {es ss : List Ent} {a w cd q v : List UInt8} {us ks : List D} {b : Int} {d : D}
theorem change_inB (h : getE es a = some (.v (ptr ga))) (hu : us.length < 1099511627776) : FnM 106 [.v (ptr g), .arr 20 a, .ifc T d] [stO g m u k n, smO m c es, acO ga b w cd (.map (some gs)), .map gs 32 sc ss, unO u us, mkO k ks] (fun r os' => ∃ u', r = .val (.v (ptr ga)) ∧ os' = [stO g m u' k n, smO m c es, unO u' (undid ks us (.ifc T d)), mkO k ks, acO ga b w cd (.map (some gs)), .map gs 32 sc ss]) := by
  have h1 := ((change_in (g := g) (m := m) (c := c) (u := u) (k := k) (n := n) (ks := ks) (T := T) (d := d) h hu).frame [acO ga b w cd (.map (some gs)), .map gs 32 sc ss]).pick [0, 1, 4, 5, 2, 3] rfl (by decide)
  refine FnM.mono h1 ?_
  rintro r _ ⟨_, ⟨u', rfl, rfl⟩, rfl⟩
  exact ⟨u', rfl, rfl⟩
theorem set_at {ss' : List Ent} {sc' : Nat} {o1 o2 o3 o4 : Obj} (h : FnM 60 [.v (ptr ga), .arr 32 q, .arr 32 v] [acO ga b w cd (.map (some gs)), .map gs 32 sc ss] (fun r os' => r = .tpl [] ∧ os' = [acO ga b w cd (.map (some gs)), .map gs 32 sc' ss'])) : FnM 60 [.v (ptr ga), .arr 32 q, .arr 32 v] [o1, o2, o3, o4, acO ga b w cd (.map (some gs)), .map gs 32 sc ss] (fun r os' => r = .tpl [] ∧ os' = [o1, o2, o3, o4, acO ga b w cd (.map (some gs)), .map gs 32 sc' ss']) := by
  refine FnM.out ((h.frame [o1, o2, o3, o4]).pick [2, 3, 4, 5, 0, 1] rfl (by decide)) ?_
  rintro r _ ⟨_, ⟨rfl, rfl⟩, rfl⟩
  exact ⟨_, pick_perm (os := [acO ga b w cd (.map (some gs)), .map gs 32 sc' ss', o1, o2, o3, o4]) [2, 3, 4, 5, 0, 1] rfl (by decide), rfl, rfl⟩
theorem set_at2 {ss' : List Ent} {sc' : Nat} {o1 o2 o3 o4 : Obj} (h : FnM 60 [.v (ptr ga), .arr 32 q, .arr 32 v] [acO ga b w cd (.map (some gs)), .map gs 32 sc ss] (fun r os' => r = .tpl [] ∧ os' = [acO ga b w cd (.map (some gs)), .map gs 32 sc' ss'])) : FnM 60 [.v (ptr ga), .arr 32 q, .arr 32 v] [acO ga b w cd (.map (some gs)), .map gs 32 sc ss, o1, o2, o3, o4] (fun r os' => r = .tpl [] ∧ os' = [acO ga b w cd (.map (some gs)), .map gs 32 sc' ss', o1, o2, o3, o4]) := by
  refine FnM.mono (h.frame [o1, o2, o3, o4]) ?_
  rintro r _ ⟨_, ⟨rfl, rfl⟩, rfl⟩
  exact ⟨rfl, rfl⟩
set_option maxRecDepth 20000 in
set_option maxHeartbeats 4000000 in
theorem setSlot_in {x : List UInt8} {ss' : List Ent} {sc' : Nat} (h : getE es a = some (.v (ptr ga))) (hv : slE ss q = .arr 32 x) (hu : us.length < 1099511627776) (hs : FnM 60 [.v (ptr ga), .arr 32 q, .arr 32 v] [acO ga b w cd (.map (some gs)), .map gs 32 sc ss] (fun r os' => r = .tpl [] ∧ os' = [acO ga b w cd (.map (some gs)), .map gs 32 sc' ss'])) : FnM 52 [.v (ptr g), .arr 20 a, .arr 32 q, .arr 32 v] [stO g m u k n, smO m c es, unO u us, mkO k ks, acO ga b w cd (.map (some gs)), .map gs 32 sc ss] (fun r os' => r = .tpl [] ∧ ∃ u', os' = [stO g m u' k n, smO m c es, unO u' (undid ks us (wasS a q x)), mkO k ks, acO ga b w cd (.map (some gs)), .map gs 32 sc' ss']) := by
  have h1 := slot_in (g := g) (m := m) (c := c) (u := u) (k := k) (n := n) (b := b) (w := w) (cd := cd) (gs := gs) (sc := sc) h hv
  have h2 := change_inB (g := g) (m := m) (c := c) (u := u) (k := k) (n := n) (ks := ks) (T := 177) (d := .tup [.arr 20 a, .arr 32 q, .arr 32 x]) (b := b) (w := w) (cd := cd) (gs := gs) (sc := sc) (ss := ss) h hu
  refine FnM.walk 22 Tryz.func52 rfl Tryz.ntmps52 (by simp) fun X => ?_
  repeat
    (first
     | (apply P_box; exact rfl; exact rfl; exact rfl; intro _) | apply EL.nil | ((with_reducible apply EK.then_normal); apply EK.code)
     | (with_reducible first | apply EC.seq | apply EC.region | apply EC.skip | apply EC.label | apply EC.block | apply EC.exit | apply EC.ret | apply EK.in_normal | apply EK.in_same | apply EK.in_ret | apply EK.then_ret | apply EK.then_exit))
  refine EC.le (Le.pick [3, 4, 7, 8, 5, 6, 0, 1, 2] [_, _, _, _, _, _, _, _, _] rfl (by decide) rfl) ?_
  refine EC.drawC 14 [0, 1, 2, 3, 4, 5, 6, 11, 12] [7, 8, 9, 10, 13] [_, _, _, _, _, _] _ (by kernel_rfl) (by kernel_rfl) rfl ?_
  simp only [pickL, List.filterMap_cons, List.filterMap_nil, List.getElem?_cons_zero, List.getElem?_cons_succ]
  repeat
    (first
     | (apply H_move; (iterate 3 exact rfl)) | (apply H_load; exact rfl; (first | exact I0 | exact I1 | exact I2 | exact I3 | exact I4 | exact I5 | exact I6); (iterate 4 exact rfl)))
  refine EM.nil ?_
  repeat (first | rw [List.cons_append] | rw [List.nil_append])
  refine CH.callM (rest := [_, _]) h1 rfl rfl (RefineL.refl _ _) (by intro _ _; simp [go_sem]) rfl rfl ?_
  rintro _ _ ⟨rfl, rfl⟩
  try simp only [St.put]
  repeat (first | rw [List.cons_append] | rw [List.nil_append])
  refine CH.cut 2 ?_
  simp only [List.take_succ_cons, List.take_zero, List.drop_succ_cons, List.drop_zero]
  repeat
    (first
     | (apply H_build; (iterate 7 exact rfl)) | (apply H_mkifc; (iterate 4 exact rfl)))
  refine EM.nil ?_
  repeat (first | rw [List.cons_append] | rw [List.nil_append])
  refine CH.callM (rest := []) h2 rfl rfl (RefineL.refl _ _) (by intro _ _; simp [go_sem]) rfl rfl ?_
  rintro _ _ ⟨u', rfl, rfl⟩
  try simp only [St.put]
  repeat (first | rw [List.cons_append] | rw [List.nil_append])
  refine CH.callM (rest := []) (set_at hs) rfl rfl (RefineL.refl _ _) (by intro _ _; simp [go_sem]) rfl rfl ?_
  rintro _ _ ⟨rfl, rfl⟩
  try simp only [St.put]
  repeat (first | rw [List.cons_append] | rw [List.nil_append])
  refine CH.nil ?_
  try simp only [List.drop_succ_cons, List.drop_zero]
  repeat
    (first
     | apply EL.nil)
  exact EK.retM0n [stO g m u' k n, smO m c es, unO u' (undid ks us (wasS a q x)), mkO k ks, acO ga b w cd (.map (some gs)), .map gs 32 sc' ss'] rfl (by (repeat first | exact List.nil_sublist _ | apply List.Sublist.cons_cons | apply List.Sublist.cons)) ⟨rfl, u', rfl⟩
set_option maxRecDepth 20000 in
set_option maxHeartbeats 4000000 in
theorem setSlot_out {ss' : Nat → List Ent} {sc' : Nat} (h : getE es a = none) (hu : us.length < 1099511627776) (hs : ∀ ga gs, FnM 60 [.v (ptr ga), .arr 32 q, .arr 32 v] [acO ga 0 zero32 [] (.map (some gs)), .map gs 32 0 []] (fun r os' => r = .tpl [] ∧ os' = [acO ga 0 zero32 [] (.map (some gs)), .map gs 32 sc' (ss' 0)])) : FnM 52 [.v (ptr g), .arr 20 a, .arr 32 q, .arr 32 v] [stO g m u k n, smO m c es, unO u us, mkO k ks] (fun r os' => r = .tpl [] ∧ ∃ u' ga gs, os' = [stO g m u' k n, smO m (tickE c es a) (putE c es a (.v (ptr ga))), unO u' (undid ks us (wasS a q zero32)), mkO k ks, acO ga 0 zero32 [] (.map (some gs)), .map gs 32 sc' (ss' 0)]) := by
  have h1 := slot_out (g := g) (m := m) (c := c) (u := u) (k := k) (n := n) (q := q) h
  have h2 := change_out (g := g) (m := m) (c := c) (u := u) (k := k) (n := n) (ks := ks) (T := 177) (d := .tup [.arr 20 a, .arr 32 q, .arr 32 zero32]) h hu
  refine FnM.walk 22 Tryz.func52 rfl Tryz.ntmps52 (by simp) fun X => ?_
  repeat
    (first
     | (apply P_box; exact rfl; exact rfl; exact rfl; intro _) | apply EL.nil | ((with_reducible apply EK.then_normal); apply EK.code)
     | (with_reducible first | apply EC.seq | apply EC.region | apply EC.skip | apply EC.label | apply EC.block | apply EC.exit | apply EC.ret | apply EK.in_normal | apply EK.in_same | apply EK.in_ret | apply EK.then_ret | apply EK.then_exit))
  refine EC.le (Le.pick [3, 4, 5, 6, 0, 1, 2] [_, _, _, _, _, _, _] rfl (by decide) rfl) ?_
  refine EC.drawC 14 [0, 1, 2, 3, 4, 5, 6, 11, 12] [7, 8, 9, 10, 13] [_, _, _, _] _ (by kernel_rfl) (by kernel_rfl) rfl ?_
  simp only [pickL, List.filterMap_cons, List.filterMap_nil, List.getElem?_cons_zero, List.getElem?_cons_succ]
  repeat
    (first
     | (apply H_move; (iterate 3 exact rfl)) | (apply H_load; exact rfl; (first | exact I0 | exact I1 | exact I2 | exact I3 | exact I4 | exact I5 | exact I6); (iterate 4 exact rfl)))
  refine EM.nil ?_
  repeat (first | rw [List.cons_append] | rw [List.nil_append])
  refine CH.callM (rest := [_, _]) h1 rfl rfl (RefineL.refl _ _) (by intro _ _; simp [go_sem]) rfl rfl ?_
  rintro _ _ ⟨rfl, rfl⟩
  try simp only [St.put]
  repeat (first | rw [List.cons_append] | rw [List.nil_append])
  refine CH.cut 2 ?_
  simp only [List.take_succ_cons, List.take_zero, List.drop_succ_cons, List.drop_zero]
  repeat
    (first
     | (apply H_build; (iterate 7 exact rfl)) | (apply H_mkifc; (iterate 4 exact rfl)))
  refine EM.nil ?_
  repeat (first | rw [List.cons_append] | rw [List.nil_append])
  refine CH.callM (rest := []) h2 rfl rfl (RefineL.refl _ _) (by intro _ _; simp [go_sem]) rfl rfl ?_
  rintro _ _ ⟨u', ga, gs, rfl, rfl⟩
  try simp only [St.put]
  repeat (first | rw [List.cons_append] | rw [List.nil_append])
  refine CH.callM (rest := []) (set_at2 (hs ga gs)) rfl rfl (RefineL.refl _ _) (by intro _ _; simp [go_sem]) rfl rfl ?_
  rintro _ _ ⟨rfl, rfl⟩
  try simp only [St.put]
  repeat (first | rw [List.cons_append] | rw [List.nil_append])
  refine CH.nil ?_
  try simp only [List.drop_succ_cons, List.drop_zero]
  repeat
    (first
     | apply EL.nil)
  refine EK.le (Le.pick [2, 3, 4, 5, 0, 1, 6, 7, 8] [_, _, _, _, _, _, _, _, _] rfl (by decide) rfl) ?_
  exact EK.retM0n [stO g m u' k n, smO m (tickE c es a) (putE c es a (.v (ptr ga))), unO u' (undid ks us (wasS a q zero32)), mkO k ks, acO ga 0 zero32 [] (.map (some gs)), .map gs 32 sc' (ss' 0)] rfl (by (repeat first | exact List.nil_sublist _ | apply List.Sublist.cons_cons | apply List.Sublist.cons)) ⟨rfl, u', ga, gs, rfl⟩
set_option maxRecDepth 20000 in
set_option maxHeartbeats 4000000 in
theorem setCode_in {e : List UInt8} {sv : Value} (h : getE es a = some (.v (ptr ga))) (hu : us.length < 1099511627776) (hl : e.length ≤ 140737488355328) : FnM 53 [.v (ptr g), .arr 20 a, .bs e] [stO g m u k n, smO m c es, unO u us, mkO k ks, acO ga b w cd sv] (fun r os' => r = .tpl [] ∧ ∃ u', os' = [stO g m u' k n, smO m c es, unO u' (undid ks us (wasC a cd)), mkO k ks, acO ga b w e sv]) := by
  have h1 := of_in (g := g) (m := m) (c := c) (u := u) (k := k) (n := n) h
  have h2 := change_inA (g := g) (m := m) (c := c) (u := u) (k := k) (n := n) (ks := ks) (T := 179) (d := .tup [.arr 20 a, .bs cd]) (b := b) (w := w) (cd := cd) (sv := sv) h hu
  have h3 := Fn.toM (f_Clone e hl)
  refine FnM.walk 22 Tryz.func53 rfl Tryz.ntmps53 (by simp) fun X => ?_
  repeat
    (first
     | (apply P_box; exact rfl; exact rfl; exact rfl; intro _) | apply EL.nil | ((with_reducible apply EK.then_normal); apply EK.code)
     | (with_reducible first | apply EC.seq | apply EC.region | apply EC.skip | apply EC.label | apply EC.block | apply EC.exit | apply EC.ret | apply EK.in_normal | apply EK.in_same | apply EK.in_ret | apply EK.then_ret | apply EK.then_exit))
  refine EC.le (Le.pick [1, 2, 5, 3, 4, 0] [_, _, _, _, _, _] rfl (by decide) rfl) ?_
  refine EC.drawC 14 [0, 1, 2, 3, 4, 12] [5, 6, 7, 8, 9, 10, 11, 13] [_, _, _, _, _] _ (by kernel_rfl) (by kernel_rfl) rfl ?_
  simp only [pickL, List.filterMap_cons, List.filterMap_nil, List.getElem?_cons_zero, List.getElem?_cons_succ]
  repeat
    (first
     | (apply H_move; (iterate 3 exact rfl)) | (apply H_load; exact rfl; (first | exact I0 | exact I1 | exact I2 | exact I3 | exact I4 | exact I5 | exact I6); (iterate 4 exact rfl)))
  refine EM.nil ?_
  repeat (first | rw [List.cons_append] | rw [List.nil_append])
  refine CH.callM (rest := [_, _, _]) h1 rfl rfl (RefineL.refl _ _) (by intro _ _; simp [go_sem]) rfl rfl ?_
  rintro _ _ ⟨rfl, rfl⟩
  try simp only [St.put]
  repeat (first | rw [List.cons_append] | rw [List.nil_append])
  refine CH.cut 5 ?_
  simp only [List.take_succ_cons, List.take_zero, List.drop_succ_cons, List.drop_zero]
  repeat
    (first
     | (apply H_field; (iterate 6 exact rfl)) | (apply H_load; exact rfl; (first | exact I0 | exact I1 | exact I2 | exact I3 | exact I4 | exact I5 | exact I6); (iterate 4 exact rfl))
     | (apply H_build; (iterate 7 exact rfl)) | (apply H_nilck; (iterate 3 exact rfl)) | (apply H_mkifc; (iterate 4 exact rfl)))
  refine EM.nil ?_
  repeat (first | rw [List.cons_append] | rw [List.nil_append])
  refine CH.callM (rest := []) h2 rfl rfl (RefineL.refl _ _) (by intro _ _; simp [go_sem]) rfl rfl ?_
  rintro _ _ ⟨u', rfl, rfl⟩
  try simp only [St.put]
  repeat (first | rw [List.cons_append] | rw [List.nil_append])
  refine CH.callM (rest := [_, _, _, _, _]) h3 rfl rfl (RefineL.refl _ _) (by intro _ _; simp [go_sem]) rfl rfl ?_
  rintro _ _ ⟨rfl, rfl⟩
  try simp only [St.put]
  repeat (first | rw [List.cons_append] | rw [List.nil_append])
  refine CH.nil ?_
  try simp only [List.drop_succ_cons, List.drop_zero]
  repeat
    (first
     | (apply P_field; (iterate 6 exact rfl)) | (apply P_nilck; (iterate 3 exact rfl)) | (apply P_store; exact rfl; (focus (repeat first | exact .z | apply SetAt.s | apply SetAtF.s)); (iterate 4 exact rfl))
     | apply EL.nil)
  exact EK.retM0n [stO g m u' k n, smO m c es, unO u' (undid ks us (wasC a cd)), mkO k ks, acO ga b w e sv] rfl (by (repeat first | exact List.nil_sublist _ | apply List.Sublist.cons_cons | apply List.Sublist.cons)) ⟨rfl, u', rfl⟩
set_option maxRecDepth 20000 in
set_option maxHeartbeats 4000000 in
theorem setCode_out {e : List UInt8} (h : getE es a = none) (hu : us.length < 1099511627776) (hl : e.length ≤ 140737488355328) : FnM 53 [.v (ptr g), .arr 20 a, .bs e] [stO g m u k n, smO m c es, unO u us, mkO k ks] (fun r os' => r = .tpl [] ∧ ∃ u' ga gs, os' = [stO g m u' k n, smO m (tickE c es a) (putE c es a (.v (ptr ga))), unO u' (undid ks us (.ifc 179 (.tup [.arr 20 a, .v nilS]))), mkO k ks, acO ga 0 zero32 e (.map (some gs)), .map gs 32 0 []]) := by
  have h1 := of_out (g := g) (m := m) (c := c) (u := u) (k := k) (n := n) h
  have h2 := change_out (g := g) (m := m) (c := c) (u := u) (k := k) (n := n) (ks := ks) (T := 179) (d := .tup [.arr 20 a, .v nilS]) h hu
  have h3 := Fn.toM (f_Clone e hl)
  refine FnM.walk 22 Tryz.func53 rfl Tryz.ntmps53 (by simp) fun X => ?_
  repeat
    (first
     | (apply P_box; exact rfl; exact rfl; exact rfl; intro _) | apply EL.nil | ((with_reducible apply EK.then_normal); apply EK.code)
     | (with_reducible first | apply EC.seq | apply EC.region | apply EC.skip | apply EC.label | apply EC.block | apply EC.exit | apply EC.ret | apply EK.in_normal | apply EK.in_same | apply EK.in_ret | apply EK.then_ret | apply EK.then_exit))
  refine EC.le (Le.pick [1, 2, 3, 4, 0] [_, _, _, _, _] rfl (by decide) rfl) ?_
  refine EC.drawC 14 [0, 1, 2, 3, 4, 12] [5, 6, 7, 8, 9, 10, 11, 13] [_, _, _, _] _ (by kernel_rfl) (by kernel_rfl) rfl ?_
  simp only [pickL, List.filterMap_cons, List.filterMap_nil, List.getElem?_cons_zero, List.getElem?_cons_succ]
  repeat
    (first
     | (apply H_move; (iterate 3 exact rfl)) | (apply H_load; exact rfl; (first | exact I0 | exact I1 | exact I2 | exact I3 | exact I4 | exact I5 | exact I6); (iterate 4 exact rfl)))
  refine EM.nil ?_
  repeat (first | rw [List.cons_append] | rw [List.nil_append])
  refine CH.callM (rest := [_, _]) h1 rfl rfl (RefineL.refl _ _) (by intro _ _; simp [go_sem]) rfl rfl ?_
  rintro _ _ ⟨gz, rfl, rfl⟩
  try simp only [St.put]
  repeat (first | rw [List.cons_append] | rw [List.nil_append])
  refine CH.cut 5 ?_
  simp only [List.take_succ_cons, List.take_zero, List.drop_succ_cons, List.drop_zero]
  repeat
    (first
     | (apply H_field; (iterate 6 exact rfl)) | (apply H_load; exact rfl; (first | exact I0 | exact I1 | exact I2 | exact I3 | exact I4 | exact I5 | exact I6); (iterate 4 exact rfl))
     | (apply H_build; (iterate 7 exact rfl)) | (apply H_nilck; (iterate 3 exact rfl)) | (apply H_mkifc; (iterate 4 exact rfl)))
  refine EM.nil ?_
  repeat (first | rw [List.cons_append] | rw [List.nil_append])
  refine CH.callM (rest := []) ((h2.frame [zaO gz]).pick [4, 0, 1, 2, 3] rfl (by decide)) rfl rfl (RefineL.refl _ _) (by intro _ _; simp [go_sem]) rfl rfl ?_
  rintro _ _ ⟨_, ⟨u', ga, gs, rfl, rfl⟩, rfl⟩
  try simp only [St.put]
  repeat (first | rw [List.cons_append] | rw [List.nil_append])
  refine CH.callM (rest := [_, _, _, _, _, _, _]) h3 rfl rfl (RefineL.refl _ _) (by intro _ _; simp [go_sem]) rfl rfl ?_
  rintro _ _ ⟨rfl, rfl⟩
  try simp only [St.put]
  repeat (first | rw [List.cons_append] | rw [List.nil_append])
  refine CH.nil ?_
  try simp only [List.drop_succ_cons, List.drop_zero]
  repeat
    (first
     | (apply P_field; (iterate 6 exact rfl)) | (apply P_nilck; (iterate 3 exact rfl)) | (apply P_store; exact rfl; (focus (repeat first | exact .z | apply SetAt.s | apply SetAtF.s)); (iterate 4 exact rfl))
     | apply EL.nil)
  refine EK.le (Le.pick [2, 3, 4, 5, 0, 1, 6, 7] [_, _, _, _, _, _, _, _] rfl (by decide) rfl) ?_
  exact EK.retM0n [stO g m u' k n, smO m (tickE c es a) (putE c es a (.v (ptr ga))), unO u' (undid ks us (.ifc 179 (.tup [.arr 20 a, .v nilS]))), mkO k ks, acO ga 0 zero32 e (.map (some gs)), .map gs 32 0 []] rfl (by (repeat first | exact List.nil_sublist _ | apply List.Sublist.cons_cons | apply List.Sublist.cons)) ⟨rfl, u', ga, gs, rfl⟩
set_option maxRecDepth 20000 in
set_option maxHeartbeats 4000000 in
theorem kill_in (h : getE es a = some (.v (ptr ga))) (hu : us.length < 1099511627776) : FnM 54 [.v (ptr g), .arr 20 a] [stO g m u k n, smO m c es, unO u us, mkO k ks] (fun r os' => r = .tpl [] ∧ ∃ u' ga' gs', os' = [stO g m u' k n, smO m (tickE c es a) (putE c es a (.v (ptr ga'))), unO u' (undid ks us (wasA a (ptr ga))), mkO k ks, acO ga' 0 zero32 [] (.map (some gs')), .map gs' 32 0 []]) := by
  have hg : (getE es a).getD (.v (.pointer none)) = .v (ptr ga) := by rw [h]; rfl
  have h2 := change_in (g := g) (m := m) (c := c) (u := u) (k := k) (n := n) (ks := ks) (T := 181) (d := .tup [.arr 20 a, .v (ptr ga)]) h hu
  refine FnM.walk 24 Tryz.func54 rfl Tryz.ntmps54 (by simp) fun X => ?_
  repeat
    (first
     | (apply P_box; exact rfl; exact rfl; exact rfl; intro _) | apply EL.nil | ((with_reducible apply EK.then_normal); apply EK.code)
     | (with_reducible first | apply EC.seq | apply EC.region | apply EC.skip | apply EC.label | apply EC.block | apply EC.exit | apply EC.ret | apply EK.in_normal | apply EK.in_same | apply EK.in_ret | apply EK.then_ret | apply EK.then_exit))
  refine EC.le (Le.pick [1, 2, 3, 4, 0] [_, _, _, _, _] rfl (by decide) rfl) ?_
  refine EC.drawC 12 [0, 1, 2, 3, 4, 5, 7] [6, 8, 9, 10, 11] [_, _, _, _] _ (by kernel_rfl) (by kernel_rfl) rfl ?_
  simp only [pickL, List.filterMap_cons, List.filterMap_nil, List.getElem?_cons_zero, List.getElem?_cons_succ]
  repeat
    (first
     | (apply H_move; (iterate 3 exact rfl)) | (apply H_field; (iterate 6 exact rfl))
     | (apply H_load; exact rfl; (first | exact I0 | exact I1 | exact I2 | exact I3 | exact I4 | exact I5 | exact I6); (iterate 4 exact rfl)) | (apply H_nilck; (iterate 3 exact rfl)))
  refine EM.nil ?_
  repeat (first | rw [List.cons_append] | rw [List.nil_append])
  refine CH.cut 4 ?_
  simp only [List.take_succ_cons, List.take_zero, List.drop_succ_cons, List.drop_zero]
  repeat
    (first
     | (apply H_lookup; exact hg; exact rfl; (first | exact I0 | exact I1 | exact I2 | exact I3); (iterate 5 exact rfl))
     | (apply H_load; exact rfl; (first | exact I0 | exact I1 | exact I2 | exact I3 | exact I4 | exact I5 | exact I6); (iterate 4 exact rfl)) | (apply H_build; (iterate 7 exact rfl))
     | (apply H_mkifc; (iterate 4 exact rfl)))
  refine EM.nil ?_
  repeat (first | rw [List.cons_append] | rw [List.nil_append])
  refine CH.callM (rest := []) h2 rfl rfl (RefineL.refl _ _) (by intro _ _; simp [go_sem]) rfl rfl ?_
  rintro _ _ ⟨u', rfl, rfl⟩
  try simp only [St.put]
  repeat (first | rw [List.cons_append] | rw [List.nil_append])
  refine CH.nil ?_
  try simp only [List.drop_succ_cons, List.drop_zero]
  repeat
    (first
     | apply EL.nil | ((with_reducible apply EK.then_normal); apply EK.code))
  refine EC.drawC 8 [0, 1, 2, 3, 4] [5, 6, 7] [] _ (by kernel_rfl) (by kernel_rfl) rfl ?_
  simp only [pickL, List.filterMap_cons, List.filterMap_nil, List.getElem?_cons_zero, List.getElem?_cons_succ]
  repeat
    (first
     | (apply H_move; (iterate 3 exact rfl)) | (apply H_field; (iterate 6 exact rfl))
     | (apply H_load; exact rfl; (first | exact I0 | exact I1 | exact I2 | exact I3 | exact I4 | exact I5 | exact I6); (iterate 4 exact rfl)) | (apply H_nilck; (iterate 3 exact rfl)))
  refine EM.nil ?_
  repeat (first | rw [List.cons_append] | rw [List.nil_append])
  refine CH.mut (os := []) (rest := []) rfl rfl (m_makeMap rfl rfl) ?_
  rintro _ _ ⟨gs', rfl, rfl⟩
  try simp only [St.put]
  repeat (first | rw [List.cons_append] | rw [List.nil_append])
  refine CH.cut 1 ?_
  simp only [List.take_succ_cons, List.take_zero, List.drop_succ_cons, List.drop_zero]
  repeat
    (first
     | (apply H_build; (iterate 7 exact rfl)))
  refine EM.nil ?_
  repeat (first | rw [List.cons_append] | rw [List.nil_append])
  refine CH.mut (os := []) (rest := [_]) rfl rfl (m_box rfl rfl) ?_
  rintro _ _ ⟨ga', rfl, rfl⟩
  try simp only [St.put]
  repeat (first | rw [List.cons_append] | rw [List.nil_append])
  refine CH.nil ?_
  try simp only [List.drop_succ_cons, List.drop_zero]
  repeat
    (first
     | (apply P_mapUpd; exact rfl; (focus (repeat first | exact .z | apply SetAt.s | apply SetAtF.s)); (iterate 4 exact rfl)) | apply EL.nil)
  refine EK.le (Le.varR (d' := .tup [.v (.int .i64 0), .arr 32 zero32, .bs [], .v (.map (some gs'))]) ?_) ?_
  · exact Rf.tup (RL.cons Rf.same (RL.cons Rf.same (RL.cons Rf.bs0 (RL.cons Rf.same RL.nil))))
  refine EK.le (Le.pick [2, 3, 4, 5, 0, 1, 6] [_, _, _, _, _, _, _] rfl (by decide) rfl) ?_
  exact EK.retM0n [stO g m u' k n, smO m (tickE c es a) (putE c es a (.v (ptr ga'))), unO u' (undid ks us (wasA a (ptr ga))), mkO k ks, acO ga' 0 zero32 [] (.map (some gs')), .map gs' 32 0 []] rfl (by (repeat first | exact List.nil_sublist _ | apply List.Sublist.cons_cons | apply List.Sublist.cons)) ⟨rfl, u', ga', gs', rfl⟩
set_option maxRecDepth 20000 in
set_option maxHeartbeats 4000000 in
theorem kill_out (h : getE es a = none) (hu : us.length < 1099511627776) : FnM 54 [.v (ptr g), .arr 20 a] [stO g m u k n, smO m c es, unO u us, mkO k ks] (fun r os' => r = .tpl [] ∧ ∃ u' ga ga' gs', os' = [stO g m u' k n, smO m (tickE (tickE c es a) (putE c es a (.v (ptr ga))) a) (putE (tickE c es a) (putE c es a (.v (ptr ga))) a (.v (ptr ga'))), unO u' (undid ks us (wasA a (.pointer none))), mkO k ks, acO ga' 0 zero32 [] (.map (some gs')), .map gs' 32 0 []]) := by
  have hg : (getE es a).getD (.v (.pointer none)) = .v (.pointer none) := by rw [h]; rfl
  have h2 := change_out (g := g) (m := m) (c := c) (u := u) (k := k) (n := n) (ks := ks) (T := 181) (d := .tup [.arr 20 a, .v (.pointer none)]) h hu
  refine FnM.walk 24 Tryz.func54 rfl Tryz.ntmps54 (by simp) fun X => ?_
  repeat
    (first
     | (apply P_box; exact rfl; exact rfl; exact rfl; intro _) | apply EL.nil | ((with_reducible apply EK.then_normal); apply EK.code)
     | (with_reducible first | apply EC.seq | apply EC.region | apply EC.skip | apply EC.label | apply EC.block | apply EC.exit | apply EC.ret | apply EK.in_normal | apply EK.in_same | apply EK.in_ret | apply EK.then_ret | apply EK.then_exit))
  refine EC.le (Le.pick [1, 2, 3, 4, 0] [_, _, _, _, _] rfl (by decide) rfl) ?_
  refine EC.drawC 12 [0, 1, 2, 3, 4, 5, 7] [6, 8, 9, 10, 11] [_, _, _, _] _ (by kernel_rfl) (by kernel_rfl) rfl ?_
  simp only [pickL, List.filterMap_cons, List.filterMap_nil, List.getElem?_cons_zero, List.getElem?_cons_succ]
  repeat
    (first
     | (apply H_move; (iterate 3 exact rfl)) | (apply H_field; (iterate 6 exact rfl))
     | (apply H_load; exact rfl; (first | exact I0 | exact I1 | exact I2 | exact I3 | exact I4 | exact I5 | exact I6); (iterate 4 exact rfl)) | (apply H_nilck; (iterate 3 exact rfl)))
  refine EM.nil ?_
  repeat (first | rw [List.cons_append] | rw [List.nil_append])
  refine CH.cut 4 ?_
  simp only [List.take_succ_cons, List.take_zero, List.drop_succ_cons, List.drop_zero]
  repeat
    (first
     | (apply H_lookup; exact hg; exact rfl; (first | exact I0 | exact I1 | exact I2 | exact I3); (iterate 5 exact rfl))
     | (apply H_load; exact rfl; (first | exact I0 | exact I1 | exact I2 | exact I3 | exact I4 | exact I5 | exact I6); (iterate 4 exact rfl)) | (apply H_build; (iterate 7 exact rfl))
     | (apply H_mkifc; (iterate 4 exact rfl)))
  refine EM.nil ?_
  repeat (first | rw [List.cons_append] | rw [List.nil_append])
  refine CH.callM (rest := []) h2 rfl rfl (RefineL.refl _ _) (by intro _ _; simp [go_sem]) rfl rfl ?_
  rintro _ _ ⟨u', ga, gs, rfl, rfl⟩
  try simp only [St.put]
  repeat (first | rw [List.cons_append] | rw [List.nil_append])
  refine CH.nil ?_
  try simp only [List.drop_succ_cons, List.drop_zero]
  repeat
    (first
     | apply EL.nil | ((with_reducible apply EK.then_normal); apply EK.code))
  refine EC.le (Le.pick [2, 3, 4, 5, 6, 0, 1] [_, _, _, _, _, _, _] rfl (by decide) rfl) ?_
  refine EC.drawC 8 [0, 1, 2, 3, 4] [5, 6, 7] [] _ (by kernel_rfl) (by kernel_rfl) rfl ?_
  simp only [pickL, List.filterMap_cons, List.filterMap_nil, List.getElem?_cons_zero, List.getElem?_cons_succ]
  repeat
    (first
     | (apply H_move; (iterate 3 exact rfl)) | (apply H_field; (iterate 6 exact rfl))
     | (apply H_load; exact rfl; (first | exact I0 | exact I1 | exact I2 | exact I3 | exact I4 | exact I5 | exact I6); (iterate 4 exact rfl)) | (apply H_nilck; (iterate 3 exact rfl)))
  refine EM.nil ?_
  repeat (first | rw [List.cons_append] | rw [List.nil_append])
  refine CH.mut (os := []) (rest := []) rfl rfl (m_makeMap rfl rfl) ?_
  rintro _ _ ⟨gs', rfl, rfl⟩
  try simp only [St.put]
  repeat (first | rw [List.cons_append] | rw [List.nil_append])
  refine CH.cut 1 ?_
  simp only [List.take_succ_cons, List.take_zero, List.drop_succ_cons, List.drop_zero]
  repeat
    (first
     | (apply H_build; (iterate 7 exact rfl)))
  refine EM.nil ?_
  repeat (first | rw [List.cons_append] | rw [List.nil_append])
  refine CH.mut (os := []) (rest := [_]) rfl rfl (m_box rfl rfl) ?_
  rintro _ _ ⟨ga', rfl, rfl⟩
  try simp only [St.put]
  repeat (first | rw [List.cons_append] | rw [List.nil_append])
  refine CH.nil ?_
  try simp only [List.drop_succ_cons, List.drop_zero]
  repeat
    (first
     | (apply P_mapUpd; exact rfl; (focus (repeat first | exact .z | apply SetAt.s | apply SetAtF.s)); (iterate 4 exact rfl)) | apply EL.nil)
  refine EK.le (Le.varR (d' := .tup [.v (.int .i64 0), .arr 32 zero32, .bs [], .v (.map (some gs'))]) ?_) ?_
  · exact Rf.tup (RL.cons Rf.same (RL.cons Rf.same (RL.cons Rf.bs0 (RL.cons Rf.same RL.nil))))
  refine EK.le (Le.pick [2, 3, 4, 5, 0, 1, 6, 7, 8] [_, _, _, _, _, _, _, _, _] rfl (by decide) rfl) ?_
  exact EK.retM0n [stO g m u' k n, smO m (tickE (tickE c es a) (putE c es a (.v (ptr ga))) a) (putE (tickE c es a) (putE c es a (.v (ptr ga))) a (.v (ptr ga'))), unO u' (undid ks us (wasA a (.pointer none))), mkO k ks, acO ga' 0 zero32 [] (.map (some gs')), .map gs' 32 0 []] rfl (by (repeat first | exact List.nil_sublist _ | apply List.Sublist.cons_cons | apply List.Sublist.cons)) ⟨rfl, u', ga, ga', gs', rfl⟩
end
end E
end Go.Proofs.YtdhicdnmgmkpkaaGreat
/-
  The program's state without marks, as what it tells of each address.
  Conditions: none.
-/
namespace Go.Proofs.YtdhicdnmgmkpkaaGreat
set_option linter.unusedVariables false
open Go.RowKit Mono Rlp Wd
namespace E
structure Ac where
  n : Int
  w : List UInt8
  cd : List UInt8
  sl : List UInt8 → List UInt8
def Ac.zero : Ac := ⟨0, zero32, [], fun _ => zero32⟩
abbrev As := List UInt8 → Ac
def As.upd (A : As) (a : List UInt8) (x : Ac) : As := fun b => if a = b then x else A b
structure PA where
  g : Nat
  n : Int
  w : List UInt8
  cd : List UInt8
  gs : Nat
  sc : Nat
  ss : List Ent
def PA.os (p : PA) : List Obj := [acO p.g p.n p.w p.cd (.map (some p.gs)), .map p.gs 32 p.sc p.ss]
structure PA.Is (p : PA) (x : Ac) (N : Nat) : Prop where
  n : p.n = x.n
  w : p.w = x.w
  cd : p.cd = x.cd
  sl : ∀ k, slE p.ss k = .arr 32 (x.sl k)
  ent : ∀ e ∈ p.ss, ∃ v, e.2.2 = .arr 32 v ∧ v ≠ zero32
  nod : (p.ss.map (·.2.1)).Nodup
  len : p.ss.length ≤ N
  cl : p.cd.length ≤ 140737488355328
structure PInv (es : List Ent) (ps : List PA) (A : As) (N : Nat) : Prop where
  out : ∀ a, getE es a = none → A a = Ac.zero
  inn : ∀ a d, getE es a = some d → ∃ p ∈ ps, d = .v (ptr p.g) ∧ p.Is (A a) N
  inj : ∀ a b d, getE es a = some d → getE es b = some d → a = b
  nod : (es.map (·.2.1)).Nodup
  len : es.length ≤ N
def psO (g m c : Nat) (es : List Ent) (u k : Value) (n : Int) (us : List D) (ps : List PA) : List Obj := [stO g m u k n, smO m c es, unO u us, mkO k []] ++ ps.flatMap PA.os
def PSt (g : Nat) (A : As) (N : Nat) (os : List Obj) : Prop := ∃ m c es u k n us ps, os = psO g m c es u k n us ps ∧ PInv es ps A N ∧ us.length < 1099511627776
theorem flat_perm (ps1 ps2 : List PA) (p : PA) : ((ps1 ++ p :: ps2).flatMap PA.os).Perm (p.os ++ (ps1 ++ ps2).flatMap PA.os) := by
  rw [List.flatMap_append, List.flatMap_cons, List.flatMap_append, ← List.append_assoc, ← List.append_assoc]
  exact List.Perm.append_right _ List.perm_append_comm
theorem FnM.lift {f : FuncId} {ds : List D} {hdr : List Obj} {p : PA} {Ψ : R → List Obj → PA → Prop} (ps1 ps2 : List PA) (h : FnM f ds (hdr ++ p.os) (fun r os' => ∃ hdr' p', Ψ r hdr' p' ∧ os' = hdr' ++ p'.os)) : FnM f ds (hdr ++ (ps1 ++ p :: ps2).flatMap PA.os) (fun r os' => ∃ hdr' p', Ψ r hdr' p' ∧ os' = hdr' ++ (ps1 ++ p' :: ps2).flatMap PA.os) := by
  have h1 := (h.frame ((ps1 ++ ps2).flatMap PA.os)).perm (os2 := hdr ++ (ps1 ++ p :: ps2).flatMap PA.os) (by
    rw [List.append_assoc]
    exact List.Perm.append_left _ (flat_perm ps1 ps2 p).symm)
  refine FnM.out h1 ?_
  rintro r _ ⟨_, ⟨hdr', p', hΨ, rfl⟩, rfl⟩
  refine ⟨_, ?_, hdr', p', hΨ, rfl⟩
  rw [List.append_assoc]
  exact List.Perm.append_left _ (flat_perm ps1 ps2 p').symm
theorem FnM.apart {f : FuncId} {ds : List D} {os : List Obj} {Φ : R → List Obj → Prop} (h : FnM f ds os Φ) : FnM f ds os (fun r os' => Φ r os' ∧ Apart os') := ⟨fun ok w xs h1 h2 h3 => (h.go ok w xs h1 h2 h3).mono fun e w' ⟨v, r, os', e1, e2, e3, e4⟩ => ⟨v, r, os', e1, ⟨e2, e3.apart⟩, e3, e4⟩⟩
theorem putE_length (c : Nat) (es : List Ent) (l : List UInt8) (d : D) : (putE c es l d).length ≤ es.length + 1 := by
  unfold putE
  split
  · have := congrArg List.length (setE_keys es l d)
    simp at this
    omega
  · simp
theorem putE_nodup (c : Nat) (es : List Ent) (l : List UInt8) (d : D) (h : (es.map (·.2.1)).Nodup) : ((putE c es l d).map (·.2.1)).Nodup := by
  unfold putE
  cases hh : hasE es l
  · rw [if_neg (by simp), List.map_append]
    have hn : l ∉ es.map (·.2.1) := by
      rw [hasE_iff] at hh
      exact (getE_none es l).1 (by simpa using hh)
    refine List.nodup_append.2 ⟨h, by simp, fun x hx y hy => ?_⟩
    obtain rfl : y = l := by simpa using hy
    exact fun e => hn (e ▸ hx)
  · rw [if_pos rfl, setE_keys]
    exact h
variable {es es' : List Ent} {ps ps1 ps2 : List PA} {A : As} {N : Nat} {a : List UInt8} {p p' : PA} {x : Ac}
theorem PInv.turned (h : PInv es (ps1 ++ p :: ps2) A N) (ha : getE es a = some (.v (ptr p.g))) (hg : p'.g = p.g) (hx : p'.Is x (N + 1)) : PInv es (ps1 ++ p' :: ps2) (A.upd a x) (N + 1) := by
  refine ⟨fun b hb => ?_, fun b d hb => ?_, h.inj, h.nod, Nat.le_succ_of_le h.len⟩
  · unfold As.upd
    rw [if_neg fun e => by rw [← e, ha] at hb; cases hb]
    exact h.out b hb
  · unfold As.upd
    by_cases e : a = b
    · subst e
      rw [if_pos rfl]
      rw [ha] at hb
      cases hb
      exact ⟨p', by simp, by rw [hg], hx⟩
    · rw [if_neg e]
      obtain ⟨q, hq, rfl, hi⟩ := h.inn b d hb
      have hne : q.g ≠ p.g := fun e' => e (h.inj a b _ ha (by rw [hb, e']))
      refine ⟨q, ?_, rfl, ⟨hi.n, hi.w, hi.cd, hi.sl, hi.ent, hi.nod, Nat.le_succ_of_le hi.len, hi.cl⟩⟩
      rcases List.mem_append.1 hq with hq | hq
      · exact List.mem_append_left _ hq
      · rcases List.mem_cons.1 hq with rfl | hq
        · exact absurd rfl hne
        · exact List.mem_append_right _ (List.mem_cons_of_mem _ hq)
theorem PInv.fresh (h : PInv es ps A N) (hes : ∀ b, getE es' b = if a = b then some (.v (ptr p'.g)) else getE es b) (hn : (es'.map (·.2.1)).Nodup) (hl : es'.length ≤ N + 1) (hx : p'.Is x (N + 1)) (hnew : ∀ q ∈ ps, q.g ≠ p'.g) : PInv es' (p' :: ps) (A.upd a x) (N + 1) := by
  refine ⟨fun b hb => ?_, fun b d hb => ?_, fun b b' d hb hb' => ?_, hn, hl⟩
  · rw [hes] at hb
    unfold As.upd
    by_cases e : a = b
    · rw [if_pos e] at hb
      cases hb
    · rw [if_neg e] at hb ⊢
      exact h.out b hb
  · rw [hes] at hb
    unfold As.upd
    by_cases e : a = b
    · rw [if_pos e] at hb ⊢
      cases hb
      exact ⟨p', by simp, rfl, hx⟩
    · rw [if_neg e] at hb ⊢
      obtain ⟨q, hq, rfl, hi⟩ := h.inn b d hb
      exact ⟨q, List.mem_cons_of_mem _ hq, rfl, ⟨hi.n, hi.w, hi.cd, hi.sl, hi.ent, hi.nod, Nat.le_succ_of_le hi.len, hi.cl⟩⟩
  · rw [hes] at hb hb'
    by_cases e : a = b
    · rw [if_pos e] at hb
      cases hb
      by_cases e' : a = b'
      · rw [← e, ← e']
      · rw [if_neg e'] at hb'
        obtain ⟨q, hq, hd, _⟩ := h.inn b' _ hb'
        have : q.g = p'.g := by simp at hd; exact hd.symm
        exact absurd this (hnew q hq)
    · rw [if_neg e] at hb
      by_cases e' : a = b'
      · rw [if_pos e'] at hb'
        cases hb'
        obtain ⟨q, hq, hd, _⟩ := h.inn b _ hb
        have : q.g = p'.g := by simp at hd; exact hd.symm
        exact absurd this (hnew q hq)
      · rw [if_neg e'] at hb'
        exact h.inj b b' d hb hb'
theorem apart_new {hdr : List Obj} (h : Apart (hdr ++ p'.os ++ ps.flatMap PA.os)) : ∀ q ∈ ps, q.g ≠ p'.g := fun q hq e => by
  rw [List.append_assoc] at h
  have h1 := (List.pairwise_append.1 h).2.1
  have h2 := (List.pairwise_append.1 h1).2.2 (acO p'.g p'.n p'.w p'.cd (.map (some p'.gs))) (by simp [PA.os]) (acO q.g q.n q.w q.cd (.map (some q.gs))) (List.mem_flatMap.2 ⟨q, hq, by simp [PA.os]⟩) p'.g rfl
  exact h2 (by simp [Obj.blk, e])
end E
end Go.Proofs.YtdhicdnmgmkpkaaGreat
