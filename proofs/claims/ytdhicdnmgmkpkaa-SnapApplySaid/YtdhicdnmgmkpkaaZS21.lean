/-
  Merged (wip/tools/merge.py): EO, SN5, RT1.
  Conditions: none.
-/
import Derived.Test.YtdhicdnmgmkpkaaZS14
import Derived.Lib.SliceRun
import Derived.Test.YtdhicdnmgmkpkaaZS20
import Derived.Test.YtdhicdnmgmkpkaaZS18
/-
  The abstract machine: what is behind the first of a row, and 'clear' of the last one.
  Conditions: none.
-/
namespace Go.Proofs.Ytdhicdnmgmkpkaa
set_option linter.unusedVariables false
open Go.RowKit Mono Rlp
namespace E
def sufV (k z : Nat) : Value → Value
  | .slice A n c => .slice (if c = k then A else A.map (·.add (k * z))) (n - k) (c - k)
  | v => v
section
variable {N : Nat} {X : Cx N} {S : St} {ops : Array Oper} {o : Oper} {Q : Exit → Act → World → Prop} {l : List Oper} {rs : List (Tmp × R)} {os os' : List Obj} {fs : List (Value × D)}
theorem g_rowsuf {x y : Operand} {T e z b : Nat} {k : Int} {v : Value} {ds : List D} (ho : o.op = .slice T x (some y) none none) (hx : ev S x = some (.val (.v v))) (i : Nat) (hi : S.objs[i]? = some (.row v e z ds)) (hy : ev S y = some (.val (.v (.int .i64 k)))) (hT : assoc slL T = some (e, z, b)) (hk : 0 ≤ k ∧ k.toNat ≤ ds.length) : Still ops S o (.val (.v (sufV k.toNat z v))) := fun base ok a w ha => by
  have hx' := ev_v ha hx (looks_op (by rw [ho]; simp [Op.operands]))
  have hy' := ev_v ha hy (looks_op (by rw [ho]; simp [Op.operands]))
  obtain ⟨rows, ⟨h1, _⟩, _⟩ := ha.objs _ (List.mem_of_getElem? hi)
  obtain ⟨hu, hs⟩ := elem_und hT
  have hf : ∃ A c, v = .slice A ds.length c ∧ ds.length ≤ c := by
    rcases h1.2 with ⟨e1, e2⟩ | ⟨g, c, cur, e1, _, _, e3, _⟩
    · exact ⟨none, 0, by rw [e1, e2], by omega⟩
    · exact ⟨_, c, e1, e3⟩
  obtain ⟨A, c, rfl, hc⟩ := hf
  refine ⟨sufV k.toNat z (.slice A ds.length c), ?_, v_mk (by unfold sufV; rfl)⟩
  unfold execOp
  have hr : (Instr.sliceAt T (.slice A ds.length c) (some (.int .i64 k)) none none).run Try.prog w = .ok (sufV k.toNat z (.slice A ds.length c)) w := by
    rw [run_sliceAt_slice (P := Try.prog) w T _ _ _ _ hu, run_slice_l (P := Try.prog) w T A ds.length c hu .i64 k hk.1 (by omega), hs]
    rfl
  simp only [ho, hx', hy', Option.map_none, Option.map_some, Sem.run_bind, hr, Result.andThen_ok, Sem.run_pure]
theorem P_rowsuf {t ty : Nat} {pos : String} {af : Array Edge} {gd : Option (Nat × Bool)} {x y : Operand} {T e z b i : Nat} {k : Int} {v : Value} {ds : List D} (hx : ev (⟨rs, os, fs⟩ : St) x = some (.val (.v v))) (hi : os[i]? = some (.row v e z ds)) (hy : ev (⟨rs, os, fs⟩ : St) y = some (.val (.v (.int .i64 k)))) (hT : assoc slL T = some (e, z, b)) (hk : 0 ≤ k ∧ k.toNat ≤ ds.length) (hg : guardOf ops ⟨rs, os, fs⟩ ⟨some t, .slice T x (some y) none none, ty, pos, af, gd⟩ = some true) (hN : Nat.blt t N = true) (kk : EL X ops Q l ⟨(t, .val (.v (sufV k.toNat z v))) :: rs, os, fs⟩) : EL X ops Q (⟨some t, .slice T x (some y) none none, ty, pos, af, gd⟩ :: l) ⟨rs, os, fs⟩ := ES.still (g_rowsuf rfl hx i hi hy hT hk) hg rfl hN kk
theorem EL.clear1 {T e z b k : Nat} {x : Operand} {v : Value} {ds : List D} {dz : D} (i : Nat) (ho : o.op = .call { callee := .builtin .clear, args := #[x], argTypes := #[T] }) (hg : guardOf ops S o = some true) (hd : o.dst = none) (hx : ev S x = some (.val (.v (sufV k z v)))) (hi : S.objs[i]? = some (.row v e z ds)) (hT : assoc slL T = some (e, z, b)) (hz : assoc zeroL e = some dz) (hag : dz.agg = true) (hsz : dz.size = z) (hpos : Nat.blt 0 dz.size = true) (hk : k + 1 = ds.length) (kk : EL X ops Q l ⟨S.regs, S.objs.set i (.row v e z (ds.set k dz)), S.facts⟩) : EL X ops Q (o :: l) S := by
  constructor
  intro a w ha
  have hkn := ha.kn fun t => t ∈ o.looksAt ops
  have h1 := ev_v hkn hx (looks_op (by rw [ho]; simp [Op.operands, Call.operands]))
  have hmem := List.mem_of_getElem? hi
  have hat := ha.mem.at_ _ hmem
  obtain ⟨hu, _⟩ := slTI hT (by rw [← hsz]; exact hpos)
  obtain ⟨g, c, cur, rows, H⟩ := row_in hat (by omega)
  have hkl : ds[k]? = some ds[k] := List.getElem?_eq_getElem (by omega)
  obtain ⟨r, A, B, g1, g2, g3, g4, g5, g6⟩ := H.elem hkl
  obtain ⟨zv, hz1, hz2⟩ := (zvI hz).get
  obtain ⟨cs, hcs, rfl⟩ := (readV_agg hag).1 (hz2 (X.ok S.objs w) w)
  have hcl : cs.length = z := by rw [← hsz]; exact Reads.len _ _ hcs
  have hcur : cur = (A ++ r ++ B).toArray := by rw [← g4]
  have hv : sufV k z v = .slice (some ⟨g, 0 + k * z, none⟩) 1 (c - k) := by
    rw [H.val]
    have hle := H.le
    unfold sufV
    dsimp only
    rw [if_neg (by omega), show ds.length - k = 1 by omega, Option.map_some, add_none]
  have hheap := H.heap
  rw [hcur] at hheap
  have hset := setCells_row cs A r B w (by rw [hcl, g2]) hheap
  rw [g5] at hset
  have hgr := grownBy_setCells g cs (k * z) w
  have hno : ∀ b, X.ok S.objs w b → b ≠ g := fun b' hb' e' => hb'.2.2 _ hmem (by rw [e']; show v.ownBlock = some g; rw [H.val]; rfl)
  have hcell : ∀ q : Addr, X.ok S.objs w q.block → (w.setCells g (k * z) cs).cell? q = w.cell? q := fun q hq => World.cell?_of_block (hgr.block _ hq.2.1 fun e' => hno _ hq (by injection e'))
  have hrows := ReadsRows.set ds rows k dz cs H.rows hcs hcl
  have hrows' := ReadsRows.mono (fun _ h => h) hcell z _ _ hrows
  have hat' : Obj.At X.mine (X.ok S.objs w) (w.setCells g (k * z) cs) (.row v e z (ds.set k dz)) := RowIn.at (g := g) (c := c) (cur := (A ++ cs ++ B).toArray) (rows := rows.set k cs) ⟨by rw [List.length_set]; exact H.val, hset, by rw [List.length_set]; exact g6 _ hcl, by
    have := congrArg List.length g4
    rw [Array.length_toList, H.size] at this
    simp only [List.size_toArray, List.length_append] at this ⊢
    omega, by rw [List.length_set]; exact H.le, H.max, hrows', H.mine⟩
  have hst : (storeCells ⟨g, 0 + k * z, none⟩ (Builtin.zeroCells (Value.agg cs.toArray).cells 1).toList).run Try.prog w = .ok () (w.setCells g (k * z) cs) := by
    have e1 : (Builtin.zeroCells (Value.agg cs.toArray).cells 1).toList = cs := by
      simp [Builtin.zeroCells, Value.cells]
      apply List.ext_getElem
      · simp
      · intro j h1 h2
        simp [Nat.mod_eq_of_lt h2, h2]
    rw [e1]
    have := run_storeCells_cells (P := Try.prog) g (k * z) cs 0 w (fun j hj => ?_) (fun j hj => ?_) (Reads.one _ _ hcs)
    · simpa using this
    · rw [cell_of_row w g _ _ _ _ hheap, Option.isSome_iff_exists]
      have hsz2 : k * z + 0 + j < (A ++ r ++ B).toArray.size := by
        simp only [List.size_toArray, List.length_append]
        omega
      exact ⟨_, Array.getElem?_eq_getElem hsz2⟩
    · simp [World.frozen?, hheap]
  have hrun : (Builtin.clear_ #[T] o.type #[sufV k z v]).run Try.prog w = .ok (.tuple #[]) (w.setCells g (k * z) cs) := by
    rw [hv]
    rw [Nat.zero_add] at hst ⊢
    simp [Builtin.clear_, run_underlying hu, hz1, hst]
  unfold wpList
  rw [if_pos (wanted_of ha hg)]
  refine .inl ?_
  unfold Oper.wp execOp
  simp only [ho, resolve, invoke, builtin, Sem.run_bind, Sem.run_pure, Result.andThen_ok, List.map_toArray, List.map_cons, List.map_nil, h1, hrun]
  simp only [Oper.upon_value, hd, Act.put]
  exact kk.go _ _ (ha.turn hi (by rw [show (Obj.row v e z ds).blk = some g by show v.ownBlock = some g; rw [H.val]; rfl]; exact hgr) (.inl rfl) fun hok hcell => hat'.move hok (fun _ _ => rfl) fun _ _ => rfl)
theorem P_clear1 {T e z b k ty : Nat} {pos : String} {af : Array Edge} {gd : Option (Nat × Bool)} {x : Operand} {v : Value} {ds : List D} {dz : D} (hx : ev (⟨rs, os, fs⟩ : St) x = some (.val (.v (sufV k z v)))) (hset : SetAt os (.row v e z ds) (.row v e z (ds.set k dz)) os') (hk : k + 1 = ds.length) (hT : assoc slL T = some (e, z, b)) (hz : assoc zeroL e = some dz) (hag : dz.agg = true) (hsz : dz.size = z) (hpos : Nat.blt 0 dz.size = true) (hg : guardOf ops ⟨rs, os, fs⟩ ⟨none, .call { callee := .builtin .clear, args := #[x], argTypes := #[T] }, ty, pos, af, gd⟩ = some true) (kk : EL X ops Q l ⟨rs, os', fs⟩) : EL X ops Q (⟨none, .call { callee := .builtin .clear, args := #[x], argTypes := #[T] }, ty, pos, af, gd⟩ :: l) ⟨rs, os, fs⟩ := by
  obtain ⟨i, hi, rfl⟩ := hset.ix
  exact EL.clear1 i rfl hg rfl hx hi hT hz hag hsz hpos hk kk
end
end E
end Go.Proofs.Ytdhicdnmgmkpkaa
/-
  The program's snap: Layers (slices.DeleteFunc of one word that stands once).
  Conditions: none.
-/
namespace Go.Proofs.Ytdhicdnmgmkpkaa
set_option linter.unusedVariables false
open Go.RowKit Mono Rlp Wd Go.Sort
namespace E
section
variable {g m c g1 : Nat} {base : List UInt8} {v : Value}
abbrev lyO (v : Value) (K : List (List UInt8)) : Obj := .row v 25 32 (K.map (D.arr 32))
abbrev lyF (g1 : Nat) : Value := .func (.func 86) #[] #[ptr g1]
abbrev lvO (g1 g : Nat) : Obj := .var g1 113 (.v (ptr g))
set_option maxRecDepth 20000 in
set_option maxHeartbeats 4000000 in
theorem isbase (x : List UInt8) : FnM 86 ([.arr 32 x] ++ [.v (ptr g1)]) [lvO g1 g, tO g m base] (fun r os' => r = .val (.v (.bool (x == base))) ∧ os' = [lvO g1 g, tO g m base]) := by
  have he := (bin_word x base).1
  refine FnM.walk 10 Try.func86 rfl Try.ntmps86 (by simp) fun X => ?_
  repeat
    (first
     | (apply P_assign; (iterate 3 exact rfl)) | (apply P_box; exact rfl; exact rfl; exact rfl; intro _) | apply EL.nil | ((with_reducible apply EK.then_normal); apply EK.code)
     | (with_reducible first | apply EC.seq | apply EC.region | apply EC.skip | apply EC.label | apply EC.block | apply EC.exit | apply EC.ret | apply EK.in_normal | apply EK.in_same | apply EK.in_ret | apply EK.then_ret | apply EK.then_exit))
  refine EC.draw 6 (by kernel_rfl) ?_
  simp only [List.take_succ_cons, List.take_zero, List.drop_succ_cons, List.drop_zero]
  repeat
    (first
     | (apply H_bin; (iterate 2 exact rfl); exact he; (iterate 2 exact rfl)) | (apply H_field; (iterate 6 exact rfl))
     | (apply H_load; exact rfl; (first | exact I0 | exact I1 | exact I2 | exact I3 | exact I4 | exact I5 | exact I6); (iterate 4 exact rfl)) | (apply H_nilck; (iterate 3 exact rfl))
     | ((with_reducible apply EH.nil); exact rfl))
  repeat
    (first
     | (apply P_assign; (iterate 3 exact rfl)) | apply EL.nil | ((with_reducible apply EK.then_normal); apply EK.code)
     | (with_reducible first | apply EC.seq | apply EC.region | apply EC.skip | apply EC.label | apply EC.block | apply EC.exit | apply EC.ret | apply EK.in_normal | apply EK.in_same | apply EK.in_ret | apply EK.then_ret | apply EK.then_exit))
  exact EK.retM1s [lvO g1 g, tO g m base] rfl rfl (by (repeat first | exact List.nil_sublist _ | apply List.Sublist.cons_cons | apply List.Sublist.cons)) ⟨rfl, rfl⟩
set_option maxRecDepth 20000 in
set_option maxHeartbeats 4000000 in
theorem index_ly (K1 K2 : List (List UInt8)) (h1 : ∀ k ∈ K1, k ≠ base) (hl : K1.length + K2.length < 1099511627776) : FnM 98 [.v v, .v (lyF g1)] [lvO g1 g, tO g m base, lyO v (K1 ++ base :: K2)] (fun r os' => r = .val (.v (.int .i64 (K1.length : Int))) ∧ os' = [lvO g1 g, tO g m base, lyO v (K1 ++ base :: K2)]) := by
  have hml : ((K1 ++ base :: K2).map (D.arr 32)).length = K1.length + 1 + K2.length := by simp; omega
  refine FnM.walk 19 Try.func98 rfl Try.ntmps98 (by simp) fun X => ?_
  repeat
    (first
     | (apply P_move; (iterate 3 exact rfl)) | (apply P_assign; (iterate 3 exact rfl))
     | (apply P_lenrow; exact rfl; (first | exact I0 | exact I1 | exact I2 | exact I3 | exact I4 | exact I5 | exact I6); (iterate 3 exact rfl)) | apply EL.nil
     | ((with_reducible apply EK.then_normal); apply EK.code)
     | (with_reducible first | apply EC.seq | apply EC.region | apply EC.skip | apply EC.label | apply EC.block | apply EC.exit | apply EC.ret | apply EK.in_normal | apply EK.in_same | apply EK.in_ret | apply EK.then_ret | apply EK.then_exit))
  refine EC.loop (ι := {i : Nat // i ≤ K1.length})
    (fun i => ⟨[(8, .val (.v (.int .i64 (i.1 : Int)))), (7, .val (.v (.int .i64 ((K1 ++ base :: K2).map (D.arr 32)).length))), (1, .val (.v (lyF g1))), (0, .val (.v v))], [lvO g1 g, tO g m base, lyO v (K1 ++ base :: K2)], []⟩)
    (fun i => K1.length - i.1) ⟨0, Nat.zero_le _⟩ ?_ ?_
  · exact (Le.keep (by repeat first | exact trivial | refine ⟨rfl, ?_⟩) (by repeat first | exact List.nil_sublist _ | apply List.Sublist.cons_cons | apply List.Sublist.cons) (by simp))
  rintro ⟨i, hi⟩
  dsimp only at hi ⊢
  by_cases hlt : i < K1.length
  · have hd : ((K1 ++ base :: K2).map (D.arr 32))[i]? = some (.arr 32 K1[i]) := by rw [List.getElem?_map, List.getElem?_append_left hlt, List.getElem?_eq_getElem hlt]; rfl
    have hb := isbase (g1 := g1) (g := g) (m := m) (base := base) K1[i]
    rw [show (K1[i] == base) = false by simpa using h1 _ (List.getElem_mem hlt)] at hb
    repeat
      (first
       | (apply P_rowload (k := i) (off := 0) (d := .arr 32 K1[i]); exact rfl; exact I2; exact ⟨by simp, hd⟩; (iterate 4 exact rfl))
       | (apply P_callMV (caps := [ptr g1]) hb; (exact fun base ok L a w _ => caps_v (caps := [ptr g1]) (by simp [Value.oneCell'])); (iterate 3 exact rfl); exact RefineL.refl _ _; (focus (intro _ _; simp [go_sem]; done)); (iterate 2 exact rfl); rintro _ _ ⟨rfl, rfl⟩)
       | (apply P_move; (iterate 3 exact rfl)) | (apply P_assign; (iterate 3 exact rfl))
       | (apply P_cmp (b := true); (iterate 2 exact rfl); (focus (first | (simp [cmpI]; done) | (simp [cmpI]; omega))); (iterate 2 exact rfl))
       | (apply P_ar; (iterate 3 exact rfl); (focus omega); (focus omega); (iterate 2 exact rfl))
       | (apply P_rowidx; exact rfl; (first | exact I0 | exact I1 | exact I2 | exact I3 | exact I4 | exact I5 | exact I6); (iterate 2 exact rfl); (focus (first | assumption | omega | (constructor <;> (first | (simp; done) | (simp; omega))))); (iterate 2 exact rfl))
       | apply EL.nil | ((with_reducible apply EK.then_normal); apply EK.code) | (apply EC.cond_true; exact rfl) | (apply EC.cond_false; exact rfl)
       | (with_reducible first | apply EC.seq | apply EC.region | apply EC.skip | apply EC.label | apply EC.block | apply EC.exit | apply EC.ret | apply EK.in_normal | apply EK.in_same | apply EK.in_ret | apply EK.then_ret | apply EK.then_exit))
    refine EK.again ⟨i + 1, hlt⟩ (by dsimp only; omega) ?_
    simp only [Int.natCast_add]
    exact (Le.keep (by repeat first | exact trivial | refine ⟨rfl, ?_⟩) (by repeat first | exact List.nil_sublist _ | apply List.Sublist.cons_cons | apply List.Sublist.cons) (by simp))
  · have hiE : i = K1.length := by omega
    subst hiE
    have hd : ((K1 ++ base :: K2).map (D.arr 32))[K1.length]? = some (.arr 32 base) := by simp
    have hb := isbase (g1 := g1) (g := g) (m := m) (base := base) base
    rw [beq_self_eq_true] at hb
    repeat
      (first
       | (apply P_rowload (k := K1.length) (off := 0) (d := .arr 32 base); exact rfl; exact I2; exact ⟨by simp, hd⟩; (iterate 4 exact rfl))
       | (apply P_callMV (caps := [ptr g1]) hb; (exact fun base ok L a w _ => caps_v (caps := [ptr g1]) (by simp [Value.oneCell'])); (iterate 3 exact rfl); exact RefineL.refl _ _; (focus (intro _ _; simp [go_sem]; done)); (iterate 2 exact rfl); rintro _ _ ⟨rfl, rfl⟩)
       | (apply P_move; (iterate 3 exact rfl)) | (apply P_assign; (iterate 3 exact rfl))
       | (apply P_cmp (b := true); (iterate 2 exact rfl); (focus (first | (simp [cmpI]; done) | (simp [cmpI]; omega))); (iterate 2 exact rfl))
       | (apply P_rowidx; exact rfl; (first | exact I0 | exact I1 | exact I2 | exact I3 | exact I4 | exact I5 | exact I6); (iterate 2 exact rfl); (focus (first | assumption | omega | (constructor <;> (first | (simp; done) | (simp; omega))))); (iterate 2 exact rfl))
       | apply EL.nil | ((with_reducible apply EK.then_normal); apply EK.code) | (apply EC.cond_true; exact rfl)
       | (with_reducible first | apply EC.seq | apply EC.region | apply EC.skip | apply EC.label | apply EC.block | apply EC.exit | apply EC.ret | apply EK.in_normal | apply EK.in_same | apply EK.in_ret | apply EK.then_ret | apply EK.then_exit))
    exact EK.retM1s [lvO g1 g, tO g m base, lyO v (K1 ++ base :: K2)] rfl rfl (by (repeat first | exact List.nil_sublist _ | apply List.Sublist.cons_cons | apply List.Sublist.cons)) ⟨rfl, rfl⟩
set_option maxRecDepth 20000 in
set_option maxHeartbeats 8000000 in
theorem delete_ly (K1 K2 : List (List UInt8)) (h1 : ∀ k ∈ K1, k ≠ base) (h2 : ∀ k ∈ K2, k ≠ base) (hl : K1.length + K2.length < 1099511627776) : FnM 85 [.v v, .v (lyF g1)] [lvO g1 g, tO g m base, lyO v (K1 ++ base :: K2)] (fun r os' => r = .val (.v (cutV v (K1.length + K2.length))) ∧ os' = [lvO g1 g, tO g m base, lyO (cutV v (K1.length + K2.length)) (K1 ++ K2)]) := by
  have hix := index_ly (v := v) (g := g) (m := m) (g1 := g1) K1 K2 h1 hl
  have hml : ((K1 ++ base :: K2).map (D.arr 32)).length = K1.length + 1 + K2.length := by simp; omega
  refine FnM.walk 42 Try.func85 rfl Try.ntmps85 (by simp) fun X => ?_
  repeat
    (first
     | ((apply P_callMD (hix); (iterate 2 exact rfl); (focus (repeat first | exact RefineL.refl _ _ | exact RL.nil | exact Rf.same | exact Rf.bs0 | exact Rf.sl0 | (apply Rf.fact; (focus (simp; done)); exact rfl) | apply Rf.tup | apply RL.cons)); (focus (intro _ _; simp [go_sem]; done)); (iterate 2 exact rfl)))
     | (apply P_move; (iterate 3 exact rfl)) | (apply P_assign; (iterate 3 exact rfl))
     | (apply P_cmp (b := false); (iterate 2 exact rfl); (focus (first | (simp [cmpI]; done) | (simp [cmpI]; omega))); (iterate 2 exact rfl))
     | (apply P_ar; (iterate 3 exact rfl); (focus omega); (focus omega); (iterate 2 exact rfl)) | apply EL.nil | ((with_reducible apply EK.then_normal); apply EK.code) | (apply EC.cond_false; exact rfl)
     | (with_reducible first | apply EC.seq | apply EC.region | apply EC.skip | apply EC.label | apply EC.block | apply EC.exit | apply EC.ret | apply EK.in_normal | apply EK.in_same | apply EK.in_ret | apply EK.then_ret | apply EK.then_exit))
  have hRl : ∀ i, i ≤ K2.length → ((K1 ++ K2.take i ++ (base :: K2).drop i).map (D.arr 32)).length = K1.length + 1 + K2.length := fun i hi => by
    simp only [List.length_map, List.length_append, List.length_take, List.length_drop, List.length_cons]
    omega
  refine EC.loop (ι := {i : Nat // i ≤ K2.length})
    (fun i => ⟨[(6, .val (.v (.int .i64 ((K1.length + 1 + i.1 : Nat) : Int)))), (5, .val (.v (.int .i64 ((K1.length + i.1 : Nat) : Int)))), (1, .val (.v (lyF g1))), (0, .val (.v v))], [lvO g1 g, tO g m base, lyO v (K1 ++ K2.take i.1 ++ (base :: K2).drop i.1)], []⟩)
    (fun i => K2.length - i.1) ⟨0, Nat.zero_le _⟩ ?_ ?_
  · simp only [Nat.add_zero, List.take_zero, List.append_nil, List.drop_zero, Int.natCast_add]
    exact (Le.keep (by repeat first | exact trivial | refine ⟨rfl, ?_⟩) (by repeat first | exact List.nil_sublist _ | apply List.Sublist.cons_cons | apply List.Sublist.cons) (by simp))
  rintro ⟨i, hi⟩
  dsimp only at hi ⊢
  have hRi := hRl i hi
  by_cases hlt : i < K2.length
  · have hl1 : (K1 ++ K2.take i).length = K1.length + i := by rw [List.length_append, List.length_take]; omega
    have hdr : (base :: K2).drop i = (base :: K2)[i]'(by simp; omega) :: K2.drop i := by rw [List.drop_eq_getElem_cons (by simp; omega), List.drop_succ_cons]
    have hdr2 : K2.drop i = K2[i] :: K2.drop (i + 1) := List.drop_eq_getElem_cons hlt
    have hget : (K1 ++ K2.take i ++ (base :: K2).drop i)[K1.length + 1 + i]? = some K2[i] := by
      rw [List.getElem?_append_right (by omega), hl1, hdr, show K1.length + 1 + i - (K1.length + i) = 1 by omega, hdr2]
      rfl
    have hset : (K1 ++ K2.take i ++ (base :: K2).drop i).set (K1.length + i) K2[i] = K1 ++ K2.take (i + 1) ++ (base :: K2).drop (i + 1) := by
      rw [List.set_append_right _ _ (by omega), hl1, Nat.sub_self, hdr, List.set_cons_zero, List.take_succ_eq_append_getElem hlt, List.drop_succ_cons]
      simp only [List.append_assoc, List.cons_append, List.nil_append]
    have hold : ∃ y, (K1 ++ K2.take i ++ (base :: K2).drop i)[K1.length + i]? = some y := by
      rw [List.getElem?_append_right (by omega), hl1, Nat.sub_self, hdr]
      exact ⟨_, rfl⟩
    obtain ⟨y, hy⟩ := hold
    have hR2 : (K1 ++ K2.take i ++ (base :: K2).drop i).length = K1.length + 1 + K2.length := by rw [← hRi, List.length_map]
    have hb := isbase (g1 := g1) (g := g) (m := m) (base := base) K2[i]
    rw [show (K2[i] == base) = false by simpa using h2 _ (List.getElem_mem hlt)] at hb
    clear hdr hdr2
    generalize K2[i] = x at hget hset hb
    generalize K1 ++ K2.take i ++ (base :: K2).drop i = R at hRi hR2 hget hset hy ⊢
    have hd : (R.map (D.arr 32))[K1.length + 1 + i]? = some (.arr 32 x) := by rw [List.getElem?_map, hget]; rfl
    have hd2 : (R.map (D.arr 32))[K1.length + i]? = some (.arr 32 y) := by rw [List.getElem?_map, hy]; rfl
    repeat
      (first
       | (apply P_rowload (k := K1.length + 1 + i) (off := 0) (d := .arr 32 x); exact rfl; exact I2; exact ⟨by rw [Int.toNat_natCast]; rfl, hd⟩; (iterate 4 exact rfl)) | (apply P_move; (iterate 3 exact rfl))
       | (apply P_load; exact rfl; (first | exact I0 | exact I1 | exact I2 | exact I3 | exact I4 | exact I5 | exact I6); (iterate 4 exact rfl))
       | (apply P_cmp (b := true); (iterate 2 exact rfl); (focus (first | (simp [cmpI]; done) | (simp [cmpI]; omega))); (iterate 2 exact rfl))
       | (apply P_lenrow; exact rfl; (first | exact I0 | exact I1 | exact I2 | exact I3 | exact I4 | exact I5 | exact I6); (iterate 3 exact rfl))
       | (apply P_rowidx; exact rfl; (first | exact I0 | exact I1 | exact I2 | exact I3 | exact I4 | exact I5 | exact I6); (iterate 2 exact rfl); (focus (first | assumption | omega | (constructor <;> (first | (simp; done) | (simp; omega))))); (iterate 2 exact rfl))
       | (apply P_alloc; exact rfl; exact rfl; exact rfl; intro _) | (apply P_store; exact rfl; (focus (repeat first | exact .z | apply SetAt.s | apply SetAtF.s)); (iterate 4 exact rfl)) | apply EL.nil
       | ((with_reducible apply EK.then_normal); apply EK.code) | (apply EC.cond_true; exact rfl)
       | (with_reducible first | apply EC.seq | apply EC.region | apply EC.skip | apply EC.label | apply EC.block | apply EC.exit | apply EC.ret | apply EK.in_normal | apply EK.in_same | apply EK.in_ret | apply EK.then_ret | apply EK.then_exit))
    refine EL.le (Le.pick [1, 2, 0, 3] [_, _, _, _] rfl (by decide) rfl) ?_
    repeat
      (first
       | (apply P_callMV (caps := [ptr g1]) hb; (exact fun base ok L a w _ => caps_v (caps := [ptr g1]) (by simp [Value.oneCell'])); (iterate 3 exact rfl); exact RefineL.refl _ _; (focus (intro _ _; simp [go_sem]; done)); (iterate 2 exact rfl); rintro _ _ ⟨rfl, rfl⟩; simp only [List.cons_append, List.nil_append])
       | (apply P_rowstore (k := K1.length + i) (off := 0) (d := .arr 32 y) (d'' := .arr 32 x); exact rfl; exact .s (.s (.s .z)); exact ⟨by rw [Int.toNat_natCast]; rfl, hd2⟩; (iterate 4 exact rfl))
       | (apply P_move; (iterate 3 exact rfl)) | (apply P_assign; (iterate 3 exact rfl)) | (apply P_not; (iterate 3 exact rfl))
       | (apply P_load; exact rfl; (first | exact I0 | exact I1 | exact I2 | exact I3 | exact I4 | exact I5 | exact I6); (iterate 4 exact rfl))
       | (apply P_ar; (iterate 3 exact rfl); (focus omega); (focus omega); (iterate 2 exact rfl))
       | (apply P_rowidx; exact rfl; (first | exact I0 | exact I1 | exact I2 | exact I3 | exact I4 | exact I5 | exact I6); (iterate 2 exact rfl); (focus (first | assumption | omega | (constructor <;> (first | (simp; done) | (simp; omega))))); (iterate 2 exact rfl))
       | apply EL.nil | ((with_reducible apply EK.then_normal); apply EK.code) | (apply EC.cond_true; exact rfl)
       | (with_reducible first | apply EC.seq | apply EC.region | apply EC.skip | apply EC.label | apply EC.block | apply EC.exit | apply EC.ret | apply EK.in_normal | apply EK.in_same | apply EK.in_ret | apply EK.then_ret | apply EK.then_exit))
    refine EK.again ⟨i + 1, hlt⟩ (by dsimp only; omega) ?_
    dsimp only
    rw [show (R.map (D.arr 32)).set (K1.length + i) (.arr 32 x) = (K1 ++ K2.take (i + 1) ++ (base :: K2).drop (i + 1)).map (D.arr 32) by rw [← hset, List.map_set]]
    rw [show ((K1.length + 1 + i : Nat) : Int) + 1 = ((K1.length + 1 + (i + 1) : Nat) : Int) by omega, show ((K1.length + i : Nat) : Int) + 1 = ((K1.length + (i + 1) : Nat) : Int) by omega]
    exact (Le.keep (by repeat first | exact trivial | refine ⟨rfl, ?_⟩) (by repeat first | exact List.nil_sublist _ | apply List.Sublist.cons_cons | apply List.Sublist.cons) (by simp))
  · have hiE : i = K2.length := by omega
    subst hiE
    rw [List.take_length]
    rw [List.take_length] at hRi
    have hR2 : (K1 ++ K2 ++ (base :: K2).drop K2.length).length = K1.length + 1 + K2.length := by rw [← hRi, List.length_map]
    have hcut : (((K1 ++ K2 ++ (base :: K2).drop K2.length).map (D.arr 32)).set (K1.length + K2.length) (.arr 32 zero32)).take (K1.length + K2.length) = (K1 ++ K2).map (D.arr 32) := by
      rw [List.take_set_of_le (Nat.le_refl _), ← List.map_take, List.take_left' (by rw [List.length_append])]
    generalize (K1 ++ K2 ++ (base :: K2).drop K2.length) = R at hRi hR2 hcut ⊢
    repeat
      (first
       | (apply P_rowsuf; exact rfl; exact I2; (iterate 2 exact rfl); exact ⟨by omega, by rw [Int.toNat_natCast, hRi]; omega⟩; (iterate 2 exact rfl)) | (apply P_move; (iterate 3 exact rfl))
       | (apply P_cmp (b := false); (iterate 2 exact rfl); (focus (first | (simp [cmpI]; done) | (simp [cmpI]; omega))); (iterate 2 exact rfl))
       | (apply P_lenrow; exact rfl; (first | exact I0 | exact I1 | exact I2 | exact I3 | exact I4 | exact I5 | exact I6); (iterate 3 exact rfl)) | apply EL.nil
       | ((with_reducible apply EK.then_normal); apply EK.code) | (apply EC.cond_false; exact rfl)
       | (with_reducible first | apply EC.seq | apply EC.region | apply EC.skip | apply EC.label | apply EC.block | apply EC.exit | apply EC.ret | apply EK.in_normal | apply EK.in_same | apply EK.in_ret | apply EK.then_ret | apply EK.then_exit))
    rw [Int.toNat_natCast]
    repeat
      (first
       | (apply P_clear1 (dz := .arr 32 zero32); exact rfl; exact .s (.s .z); (rw [hRi]; omega); (iterate 6 exact rfl))
       | (apply P_rowcut; exact rfl; exact I2; (iterate 2 exact rfl); exact ⟨by omega, by rw [Int.toNat_natCast, List.length_set, hRi]; omega⟩; (iterate 2 exact rfl)) | (apply P_move; (iterate 3 exact rfl))
       | (apply P_assign; (iterate 3 exact rfl)) | apply EL.nil | ((with_reducible apply EK.then_normal); apply EK.code)
       | (with_reducible first | apply EC.seq | apply EC.region | apply EC.skip | apply EC.label | apply EC.block | apply EC.exit | apply EC.ret | apply EK.in_normal | apply EK.in_same | apply EK.in_ret | apply EK.then_ret | apply EK.then_exit))
    rw [Int.toNat_natCast]
    refine EK.le (Le.cutRow (k := K1.length + K2.length) (v := v) (ds := (R.map (D.arr 32)).set (K1.length + K2.length) (.arr 32 zero32)) (by rw [List.length_set, hRi]; omega) (.s (.s .z))) ?_
    rw [hcut]
    exact EK.retM1s [lvO g1 g, tO g m base, lyO (cutV v (K1.length + K2.length)) (K1 ++ K2)] rfl rfl (by (repeat first | exact List.nil_sublist _ | apply List.Sublist.cons_cons | apply List.Sublist.cons)) ⟨rfl, rfl⟩
set_option maxRecDepth 20000 in
set_option maxHeartbeats 8000000 in
theorem slayers {es : List Ent} {K1 K2 : List (List UInt8)} (hK : sortL (es.map (·.2.1)) = K1 ++ base :: K2) (hn : (es.map (·.2.1)).Nodup) (hl : es.length ≤ 1000000) : FnM 62 [.v (ptr g)] [tO g m base, .map m 32 c es] (fun r os' => r = .val (.sl 32 ((K1 ++ K2).map (D.arr 32))) ∧ os' = [tO g m base, .map m 32 c es]) := by
  have hnd : (K1 ++ base :: K2).Nodup := by rw [← hK]; exact (sortL_perm _).nodup_iff.2 hn
  have hne1 : ∀ k ∈ K1, k ≠ base := fun k hk e => by
    have := (List.nodup_append.1 hnd).2.2 k hk base List.mem_cons_self
    exact this e
  have hne2 : ∀ k ∈ K2, k ≠ base := fun k hk e => by
    have := (List.nodup_cons.1 (List.nodup_append.1 hnd).2.1).1
    rw [← e] at this
    exact this hk
  have hKl : K1.length + 1 + K2.length = es.length := by
    have := (sortL_perm (es.map (·.2.1))).length_eq
    rw [hK, List.length_map] at this
    simp at this
    omega
  have hk := keys_lay m
  have hs := fun gk => sorted_lay 51 cmp_word enters_tc gk m c es (by omega)
  refine FnM.walk 13 Try.func62 rfl Try.ntmps62 (by simp) fun X => ?_
  repeat
    (first
     | (apply P_callM (os := []) hk; (iterate 2 exact rfl); exact RefineL.refl _ _; (focus (intro _ _; simp [go_sem]; done)); (iterate 2 exact rfl); rintro _ _ ⟨gk, rfl, rfl⟩; simp only [List.cons_append, List.nil_append])
     | (apply P_assign; (iterate 3 exact rfl)) | (apply P_field; (iterate 6 exact rfl))
     | (apply P_load; exact rfl; (first | exact I0 | exact I1 | exact I2 | exact I3 | exact I4 | exact I5 | exact I6); (iterate 4 exact rfl)) | (apply P_nilck; (iterate 3 exact rfl))
     | (apply P_box; exact rfl; exact rfl; exact rfl; intro _) | apply EL.nil | ((with_reducible apply EK.then_normal); apply EK.code)
     | (with_reducible first | apply EC.seq | apply EC.region | apply EC.skip | apply EC.label | apply EC.block | apply EC.exit | apply EC.ret | apply EK.in_normal | apply EK.in_same | apply EK.in_ret | apply EK.then_ret | apply EK.then_exit))
  rename_i g1
  refine EL.le (Le.pick [0, 3, 1, 2] [_, _, _, _] rfl (by decide) rfl) ?_
  repeat
    (first
     | (apply P_callM (os := [.var gk 148 (.v (.map (some m))), .map m 32 c es]) (hs gk); (iterate 2 exact rfl); exact RefineL.refl _ _; (focus (intro _ _; simp [go_sem]; done)); (iterate 2 exact rfl); rintro _ _ ⟨v, rfl, rfl⟩; rw [hK]; simp only [List.cons_append, List.nil_append])
     | (apply P_move; (iterate 3 exact rfl)) | (apply P_assign; (iterate 3 exact rfl)) | (apply P_mkfunc; (iterate 3 exact rfl)) | apply EL.nil | ((with_reducible apply EK.then_normal); apply EK.code)
     | (with_reducible first | apply EC.seq | apply EC.region | apply EC.skip | apply EC.label | apply EC.block | apply EC.exit | apply EC.ret | apply EK.in_normal | apply EK.in_same | apply EK.in_ret | apply EK.then_ret | apply EK.then_exit))
  refine EL.le (Le.pick [3, 4, 0, 1, 2] [_, _, _, _, _] rfl (by decide) rfl) ?_
  have hd := delete_ly (v := v) (g := g) (m := m) (g1 := g1) K1 K2 hne1 hne2 (by omega)
  repeat
    fail
  refine P_callM (os := [lvO g1 g, tO g m base, lyO v (K1 ++ base :: K2)]) hd rfl rfl (RefineL.refl _ _) (by intro _ _; simp [go_sem]) rfl rfl ?_
  rintro _ _ ⟨rfl, rfl⟩
  simp only [List.cons_append, List.nil_append]
  refine EL.le (Le.pick [2, 0, 1, 3, 4] [_, _, _, _, _] rfl (by decide) rfl) ?_
  refine EL.le (Le.freeze (pre := []) rfl) ?_
  refine EL.le (Le.refine (t := 12) (d' := .sl 32 ((K1 ++ K2).map (D.arr 32))) rfl (Rf.fact (by simp) rfl)) ?_
  simp only [List.nil_append]
  repeat
    (first
     | (apply P_assign; (iterate 3 exact rfl)) | apply EL.nil | ((with_reducible apply EK.then_normal); apply EK.code)
     | (with_reducible first | apply EC.seq | apply EC.region | apply EC.skip | apply EC.label | apply EC.block | apply EC.exit | apply EC.ret | apply EK.in_normal | apply EK.in_same | apply EK.in_ret | apply EK.then_ret | apply EK.then_exit))
  exact EK.retM1s [tO g m base, .map m 32 c es] rfl rfl (by (repeat first | exact List.nil_sublist _ | apply List.Sublist.cons_cons | apply List.Sublist.cons)) ⟨rfl, rfl⟩
end
end E
end Go.Proofs.Ytdhicdnmgmkpkaa
/-
  The reference's state at accounts with code and slots: at.
  Conditions: none.
-/
namespace Go.Proofs.Ytdhicdnmgmkpkaa
set_option linter.unusedVariables false
open Go.RowKit Mono Rlp Wd
namespace E
mutual
theorem RefineL.rows {ok : Nat → Prop} {w : World} {F : List (Value × D)} (hF : ∀ f ∈ F, Reads ok w f.2 [f.1]) {z : Nat} : ∀ (ds ds' : List D) (rows : List (List Value)), RefineL F ds ds' → ReadsRows ok w z ds rows → ReadsRows ok w z ds' rows
  | [], l, rows, h, hr => by rw [RefineL] at h; subst h; exact hr
  | d :: ds, l, rows, h, hr => by
    rw [RefineL] at h
    obtain ⟨d', ds', rfl, h1, h2⟩ := h
    rw [ReadsRows] at hr ⊢
    obtain ⟨r, rest, rfl, h3, h4, h5⟩ := hr
    exact ⟨r, rest, rfl, h3, (Refine.reads hF d d' r h1 h4).1, RefineL.rows hF ds ds' rest h2 h5⟩
end
theorem RefineL.length {F : List (Value × D)} : ∀ {ds ds' : List D}, RefineL F ds ds' → ds'.length = ds.length
  | [], l, h => by rw [RefineL] at h; subst h; rfl
  | d :: ds, l, h => by
    rw [RefineL] at h
    obtain ⟨d', ds', rfl, h1, h2⟩ := h
    rw [List.length_cons, List.length_cons, RefineL.length h2]
theorem RL.append {F : List (Value × D)} : ∀ {ds ds' es es' : List D}, RefineL F ds ds' → RefineL F es es' → RefineL F (ds ++ es) (ds' ++ es')
  | [], l, es, es', h, k => by rw [RefineL] at h; subst h; exact k
  | d :: ds, l, es, es', h, k => by
    rw [RefineL] at h
    obtain ⟨d', ds', rfl, h1, h2⟩ := h
    exact RL.cons h1 (RL.append h2 k)
theorem Le.rowR {N : Nat} {X : Cx N} {rs : List (Tmp × R)} {os : List Obj} {fs : List (Value × D)} {v : Value} {e z : Nat} {ds ds' : List D} (h : RefineL fs ds ds') : Le X ⟨rs, .row v e z ds :: os, fs⟩ ⟨rs, .row v e z ds' :: os, fs⟩ := fun a w ha => by
  have hok : ∀ b, X.ok (.row v e z ds :: os) w b ↔ X.ok (.row v e z ds' :: os) w b := fun b => ⟨fun hb => ⟨hb.1, hb.2.1, fun o ho => by
      rcases List.mem_cons.1 ho with rfl | ho
      · exact hb.2.2 (.row v e z ds) List.mem_cons_self
      · exact hb.2.2 o (List.mem_cons_of_mem _ ho)⟩, fun hb => ⟨hb.1, hb.2.1, fun o ho => by
      rcases List.mem_cons.1 ho with rfl | ho
      · exact hb.2.2 (.row v e z ds') List.mem_cons_self
      · exact hb.2.2 o (List.mem_cons_of_mem _ ho)⟩⟩
  have hap := List.pairwise_cons.1 ha.mem.apart
  have hf : ∀ f ∈ fs, Reads (X.ok (.row v e z ds' :: os) w) w f.2 [f.1] := fun f hf => Reads.mono (fun b hb => (hok b).1 hb) (fun _ _ => rfl) _ _ (ha.mem.fact f hf)
  refine ⟨⟨ha.mem.gr, List.pairwise_cons.2 ⟨fun p hp b e => hap.1 p hp b e, hap.2⟩, fun o ho => ?_, hf⟩, fun t' r hr => (ha.regs t' r hr).mono (fun b hb => (hok b).1 hb) fun _ _ => rfl, ha.size, ha.defers⟩
  rcases List.mem_cons.1 ho with rfl | ho
  · obtain ⟨rows, h1, h2⟩ := ha.mem.at_ (.row v e z ds) List.mem_cons_self
    refine ⟨rows, by rw [RefineL.length h]; exact h1, RefineL.rows hf _ _ _ h (ReadsRows.mono (fun b hb => (hok b).1 hb) (fun _ _ => rfl) _ _ _ h2)⟩
  · exact (ha.mem.at_ o (List.mem_cons_of_mem _ ho)).move (fun b hb => (hok b).1 hb) (fun _ _ => rfl) fun _ _ => rfl
abbrev raA (L : Value) (l : List AcL) : Obj := .row L 37 55 (l.map dAcL)
def AcL.none (a : List UInt8) : AcL := ⟨a, 0, zero32, [], []⟩
set_option maxRecDepth 20000 in
set_option maxHeartbeats 8000000 in
theorem rat_in {g : Nat} {L k : Value} {n : Int} (l : List AcL) (a : List UInt8) (hll : l.length < 1099511627776) (kk : Nat) (hkk : kk < l.length) (hlo : ∀ j (hj : j < l.length), j < kk → Op.bytesLess l[j].a a = true) (he : l[kk].a = a) : FnM 36 [.v (ptr g), .arr 20 a] [rsO g L k n, raA L l] (fun r os' => r = .val (.v (elemPtr L ((kk : Int).toNat * 55))) ∧ os' = [rsO g L k n, raA L l]) := by
  have hml : (l.map dAcL).length = l.length := List.length_map _
  refine FnM.walk 78 Try.func36 rfl Try.ntmps36 (by simp) fun X => ?_
  repeat
    (first
     | (apply P_assign; (iterate 3 exact rfl)) | (apply P_box; exact rfl; exact rfl; exact rfl; intro _) | apply EL.nil | ((with_reducible apply EK.then_normal); apply EK.code)
     | (with_reducible first | apply EC.seq | apply EC.region | apply EC.skip | apply EC.label | apply EC.block | apply EC.exit | apply EC.ret | apply EK.in_normal | apply EK.in_same | apply EK.in_ret | apply EK.then_ret | apply EK.then_exit))
  rename_i g3
  refine EC.loop (ι := {i : Nat // i ≤ kk})
    (fun i => ⟨[(5, .val (.v (.int .i64 (i.1 : Int)))), (3, .val (.v (.pointer (some ⟨g3, 0, none⟩)))), (0, .val (.v (ptr g)))], [.var g3 23 (.arr 20 a), rsO g L k n, raA L l], []⟩)
    (fun i => kk - i.1) ⟨0, by omega⟩ ?_ ?_
  · exact (Le.keep (by repeat first | exact trivial | refine ⟨rfl, ?_⟩) (by repeat first | exact List.nil_sublist _ | apply List.Sublist.cons_cons | apply List.Sublist.cons) (by simp))
  rintro ⟨i, hi⟩
  dsimp only at hi ⊢
  have hil : i < l.length := by omega
  have hd : (l.map dAcL)[i]? = some (dAcL l[i]) := by rw [List.getElem?_map, List.getElem?_eq_getElem hil]; rfl
  have hb := bin_strlt l[i].a a
  by_cases hlt : i < kk
  · rw [hlo i hil hlt] at hb
    repeat
      (first
       | (with_reducible first | apply EC.seq | apply EC.region | apply EC.skip | apply EC.label | apply EC.block | apply EC.exit | apply EC.ret | apply EK.in_normal | apply EK.in_same | apply EK.in_ret | apply EK.then_ret | apply EK.then_exit))
    refine EC.draw 21 (by kernel_rfl) ?_
    simp only [List.take_succ_cons, List.take_zero, List.drop_succ_cons, List.drop_zero]
    repeat
      (first
       | (apply H_slrow; exact sl_addr; exact rfl; exact I2; (rw [hml]; omega); (iterate 2 exact rfl))
       | (apply H_strrow (k := i) (off := 0) (d := dAcL l[i]); exact rfl; exact I2; exact ⟨by simp, hd⟩; (iterate 4 exact rfl)) | (apply H_slarr; exact sl_addr; (iterate 3 exact rfl))
       | (apply H_strvar; exact rfl; exact I0; (iterate 4 exact rfl)) | (apply H_bin; (iterate 2 exact rfl); exact hb; (iterate 2 exact rfl)) | (apply H_move; (iterate 3 exact rfl))
       | (apply H_field; (iterate 6 exact rfl)) | (apply H_pick; (iterate 4 exact rfl))
       | (apply H_load; exact rfl; (first | exact I0 | exact I1 | exact I2 | exact I3 | exact I4 | exact I5 | exact I6); (iterate 4 exact rfl))
       | (apply H_cmp (b := true); (iterate 2 exact rfl); (focus (first | (simp [cmpI]; done) | (simp [cmpI]; omega))); (iterate 2 exact rfl))
       | (apply H_lenrow; exact rfl; (first | exact I0 | exact I1 | exact I2 | exact I3 | exact I4 | exact I5 | exact I6); (iterate 3 exact rfl)) | (apply H_nilck; (iterate 3 exact rfl))
       | (apply H_rowfield; exact rfl; (first | exact I0 | exact I1 | exact I2 | exact I3 | exact I4 | exact I5 | exact I6); (focus (first | omega | (simp; done) | (simp; omega))); (iterate 5 exact rfl))
       | (apply H_rowidx; exact rfl; (first | exact I0 | exact I1 | exact I2 | exact I3 | exact I4 | exact I5 | exact I6); (iterate 2 exact rfl); (focus (first | assumption | omega | (constructor <;> (first | (simp; done) | (simp; omega))))); (iterate 2 exact rfl))
       | ((with_reducible apply EH.nil); exact rfl))
    repeat
      (first
       | (apply P_move; (iterate 3 exact rfl)) | (apply P_assign; (iterate 3 exact rfl)) | (apply P_ar; (iterate 3 exact rfl); (focus omega); (focus omega); (iterate 2 exact rfl)) | apply EL.nil
       | ((with_reducible apply EK.then_normal); apply EK.code) | (apply EC.cond_true; exact rfl)
       | (with_reducible first | apply EC.seq | apply EC.region | apply EC.skip | apply EC.label | apply EC.block | apply EC.exit | apply EC.ret | apply EK.in_normal | apply EK.in_same | apply EK.in_ret | apply EK.then_ret | apply EK.then_exit))
    refine EK.again ⟨i + 1, by omega⟩ (by dsimp only; omega) ?_
    simp only [Int.natCast_add]
    exact (Le.keep (by repeat first | exact trivial | refine ⟨rfl, ?_⟩) (by repeat first | exact List.nil_sublist _ | apply List.Sublist.cons_cons | apply List.Sublist.cons) (by simp))
  · obtain rfl : i = kk := by omega
    rw [show Op.bytesLess l[i].a a = false by rw [he]; exact bl_irr _] at hb
    have hne := (bin_addr l[i].a a).2
    rw [show (l[i].a != a) = false by rw [he]; simp] at hne
    repeat
      (first
       | (with_reducible first | apply EC.seq | apply EC.region | apply EC.skip | apply EC.label | apply EC.block | apply EC.exit | apply EC.ret | apply EK.in_normal | apply EK.in_same | apply EK.in_ret | apply EK.then_ret | apply EK.then_exit))
    refine EC.draw 21 (by kernel_rfl) ?_
    simp only [List.take_succ_cons, List.take_zero, List.drop_succ_cons, List.drop_zero]
    repeat
      (first
       | (apply H_slrow; exact sl_addr; exact rfl; exact I2; (rw [hml]; omega); (iterate 2 exact rfl))
       | (apply H_strrow (k := i) (off := 0) (d := dAcL l[i]); exact rfl; exact I2; exact ⟨by simp, hd⟩; (iterate 4 exact rfl)) | (apply H_slarr; exact sl_addr; (iterate 3 exact rfl))
       | (apply H_strvar; exact rfl; exact I0; (iterate 4 exact rfl)) | (apply H_bin; (iterate 2 exact rfl); exact hb; (iterate 2 exact rfl)) | (apply H_move; (iterate 3 exact rfl))
       | (apply H_field; (iterate 6 exact rfl)) | (apply H_pick; (iterate 4 exact rfl))
       | (apply H_load; exact rfl; (first | exact I0 | exact I1 | exact I2 | exact I3 | exact I4 | exact I5 | exact I6); (iterate 4 exact rfl))
       | (apply H_cmp (b := true); (iterate 2 exact rfl); (focus (first | (simp [cmpI]; done) | (simp [cmpI]; omega))); (iterate 2 exact rfl))
       | (apply H_lenrow; exact rfl; (first | exact I0 | exact I1 | exact I2 | exact I3 | exact I4 | exact I5 | exact I6); (iterate 3 exact rfl)) | (apply H_nilck; (iterate 3 exact rfl))
       | (apply H_rowfield; exact rfl; (first | exact I0 | exact I1 | exact I2 | exact I3 | exact I4 | exact I5 | exact I6); (focus (first | omega | (simp; done) | (simp; omega))); (iterate 5 exact rfl))
       | (apply H_rowidx; exact rfl; (first | exact I0 | exact I1 | exact I2 | exact I3 | exact I4 | exact I5 | exact I6); (iterate 2 exact rfl); (focus (first | assumption | omega | (constructor <;> (first | (simp; done) | (simp; omega))))); (iterate 2 exact rfl))
       | ((with_reducible apply EH.nil); exact rfl))
    repeat
      (first
       | apply EL.nil | ((with_reducible apply EK.then_normal); apply EK.code) | (apply EC.cond_false; exact rfl)
       | (with_reducible first | apply EC.seq | apply EC.region | apply EC.skip | apply EC.label | apply EC.block | apply EC.exit | apply EC.ret | apply EK.in_normal | apply EK.in_same | apply EK.in_ret | apply EK.then_ret | apply EK.then_exit))
    refine EC.draw 19 (by kernel_rfl) ?_
    simp only [List.take_succ_cons, List.take_zero, List.drop_succ_cons, List.drop_zero]
    repeat
      (first
       | (apply H_rowload (k := i) (off := 0) (d := dAcL l[i]); exact rfl; exact I2; exact ⟨by simp, hd⟩; (iterate 4 exact rfl)) | (apply H_bin; (iterate 2 exact rfl); exact hne; (iterate 2 exact rfl))
       | (apply H_move; (iterate 3 exact rfl)) | (apply H_field; (iterate 6 exact rfl)) | (apply H_pick; (iterate 4 exact rfl))
       | (apply H_load; exact rfl; (first | exact I0 | exact I1 | exact I2 | exact I3 | exact I4 | exact I5 | exact I6); (iterate 4 exact rfl))
       | (apply H_cmp (b := false); (iterate 2 exact rfl); (focus (first | (simp [cmpI]; done) | (simp [cmpI]; omega))); (iterate 2 exact rfl))
       | (apply H_lenrow; exact rfl; (first | exact I0 | exact I1 | exact I2 | exact I3 | exact I4 | exact I5 | exact I6); (iterate 3 exact rfl)) | (apply H_nilck; (iterate 3 exact rfl))
       | (apply H_rowfield; exact rfl; (first | exact I0 | exact I1 | exact I2 | exact I3 | exact I4 | exact I5 | exact I6); (focus (first | omega | (simp; done) | (simp; omega))); (iterate 5 exact rfl))
       | (apply H_rowidx; exact rfl; (first | exact I0 | exact I1 | exact I2 | exact I3 | exact I4 | exact I5 | exact I6); (iterate 2 exact rfl); (focus (first | assumption | omega | (constructor <;> (first | (simp; done) | (simp; omega))))); (iterate 2 exact rfl))
       | ((with_reducible apply EH.nil); exact rfl))
    repeat
      (first
       | (apply P_move; (iterate 3 exact rfl)) | (apply P_assign; (iterate 3 exact rfl)) | (apply P_field; (iterate 6 exact rfl))
       | (apply P_load; exact rfl; (first | exact I0 | exact I1 | exact I2 | exact I3 | exact I4 | exact I5 | exact I6); (iterate 4 exact rfl)) | (apply P_nilck; (iterate 3 exact rfl))
       | (apply P_rowidx; exact rfl; (first | exact I0 | exact I1 | exact I2 | exact I3 | exact I4 | exact I5 | exact I6); (iterate 2 exact rfl); (focus (first | assumption | omega | (constructor <;> (first | (simp; done) | (simp; omega))))); (iterate 2 exact rfl))
       | apply EL.nil | ((with_reducible apply EK.then_normal); apply EK.code) | (apply EC.cond_false; exact rfl)
       | (with_reducible first | apply EC.seq | apply EC.region | apply EC.skip | apply EC.label | apply EC.block | apply EC.exit | apply EC.ret | apply EK.in_normal | apply EK.in_same | apply EK.in_ret | apply EK.then_ret | apply EK.then_exit))
    exact EK.retM1s [rsO g L k n, raA L l] rfl rfl (by (repeat first | exact List.nil_sublist _ | apply List.Sublist.cons_cons | apply List.Sublist.cons)) ⟨rfl, rfl⟩
set_option maxRecDepth 20000 in
set_option maxHeartbeats 8000000 in
theorem rat_out {g : Nat} {L k : Value} {n : Int} (l : List AcL) (a : List UInt8) (hll : l.length < 1099511627) (kk : Nat) (hkk : kk ≤ l.length) (hlo : ∀ j (hj : j < l.length), j < kk → Op.bytesLess l[j].a a = true) (hhi : ∀ hj : kk < l.length, Op.bytesLess l[kk].a a = false ∧ (l[kk].a != a) = true) : FnM 36 [.v (ptr g), .arr 20 a] [rsO g L k n, raA L l] (fun r os' => ∃ L', r = .val (.v (elemPtr L' ((kk : Int).toNat * 55))) ∧ os' = [rsO g L' k n, raA L' (l.take kk ++ AcL.none a :: l.drop kk)]) := by
  have hml : (l.map dAcL).length = l.length := List.length_map _
  refine FnM.walk 78 Try.func36 rfl Try.ntmps36 (by simp) fun X => ?_
  repeat
    (first
     | (apply P_assign; (iterate 3 exact rfl)) | (apply P_box; exact rfl; exact rfl; exact rfl; intro _) | apply EL.nil | ((with_reducible apply EK.then_normal); apply EK.code)
     | (with_reducible first | apply EC.seq | apply EC.region | apply EC.skip | apply EC.label | apply EC.block | apply EC.exit | apply EC.ret | apply EK.in_normal | apply EK.in_same | apply EK.in_ret | apply EK.then_ret | apply EK.then_exit))
  rename_i g3
  refine EC.loop (ι := {i : Nat // i ≤ kk})
    (fun i => ⟨[(5, .val (.v (.int .i64 (i.1 : Int)))), (3, .val (.v (.pointer (some ⟨g3, 0, none⟩)))), (0, .val (.v (ptr g)))], [.var g3 23 (.arr 20 a), rsO g L k n, raA L l], []⟩)
    (fun i => kk - i.1) ⟨0, by omega⟩ ?_ ?_
  · exact (Le.keep (by repeat first | exact trivial | refine ⟨rfl, ?_⟩) (by repeat first | exact List.nil_sublist _ | apply List.Sublist.cons_cons | apply List.Sublist.cons) (by simp))
  rintro ⟨i, hi⟩
  dsimp only at hi ⊢
  by_cases hlt : i < kk
  · have hil : i < l.length := by omega
    have hd : (l.map dAcL)[i]? = some (dAcL l[i]) := by rw [List.getElem?_map, List.getElem?_eq_getElem hil]; rfl
    have hb := bin_strlt l[i].a a
    rw [hlo i hil hlt] at hb
    repeat
      (first
       | (with_reducible first | apply EC.seq | apply EC.region | apply EC.skip | apply EC.label | apply EC.block | apply EC.exit | apply EC.ret | apply EK.in_normal | apply EK.in_same | apply EK.in_ret | apply EK.then_ret | apply EK.then_exit))
    refine EC.draw 21 (by kernel_rfl) ?_
    simp only [List.take_succ_cons, List.take_zero, List.drop_succ_cons, List.drop_zero]
    repeat
      (first
       | (apply H_slrow; exact sl_addr; exact rfl; exact I2; (rw [hml]; omega); (iterate 2 exact rfl))
       | (apply H_strrow (k := i) (off := 0) (d := dAcL l[i]); exact rfl; exact I2; exact ⟨by simp, hd⟩; (iterate 4 exact rfl)) | (apply H_slarr; exact sl_addr; (iterate 3 exact rfl))
       | (apply H_strvar; exact rfl; exact I0; (iterate 4 exact rfl)) | (apply H_bin; (iterate 2 exact rfl); exact hb; (iterate 2 exact rfl)) | (apply H_move; (iterate 3 exact rfl))
       | (apply H_field; (iterate 6 exact rfl)) | (apply H_pick; (iterate 4 exact rfl))
       | (apply H_load; exact rfl; (first | exact I0 | exact I1 | exact I2 | exact I3 | exact I4 | exact I5 | exact I6); (iterate 4 exact rfl))
       | (apply H_cmp (b := true); (iterate 2 exact rfl); (focus (first | (simp [cmpI]; done) | (simp [cmpI]; omega))); (iterate 2 exact rfl))
       | (apply H_lenrow; exact rfl; (first | exact I0 | exact I1 | exact I2 | exact I3 | exact I4 | exact I5 | exact I6); (iterate 3 exact rfl)) | (apply H_nilck; (iterate 3 exact rfl))
       | (apply H_rowfield; exact rfl; (first | exact I0 | exact I1 | exact I2 | exact I3 | exact I4 | exact I5 | exact I6); (focus (first | omega | (simp; done) | (simp; omega))); (iterate 5 exact rfl))
       | (apply H_rowidx; exact rfl; (first | exact I0 | exact I1 | exact I2 | exact I3 | exact I4 | exact I5 | exact I6); (iterate 2 exact rfl); (focus (first | assumption | omega | (constructor <;> (first | (simp; done) | (simp; omega))))); (iterate 2 exact rfl))
       | ((with_reducible apply EH.nil); exact rfl))
    repeat
      (first
       | (apply P_move; (iterate 3 exact rfl)) | (apply P_assign; (iterate 3 exact rfl)) | (apply P_ar; (iterate 3 exact rfl); (focus omega); (focus omega); (iterate 2 exact rfl)) | apply EL.nil
       | ((with_reducible apply EK.then_normal); apply EK.code) | (apply EC.cond_true; exact rfl)
       | (with_reducible first | apply EC.seq | apply EC.region | apply EC.skip | apply EC.label | apply EC.block | apply EC.exit | apply EC.ret | apply EK.in_normal | apply EK.in_same | apply EK.in_ret | apply EK.then_ret | apply EK.then_exit))
    refine EK.again ⟨i + 1, by omega⟩ (by dsimp only; omega) ?_
    simp only [Int.natCast_add]
    exact (Le.keep (by repeat first | exact trivial | refine ⟨rfl, ?_⟩) (by repeat first | exact List.nil_sublist _ | apply List.Sublist.cons_cons | apply List.Sublist.cons) (by simp))
  · obtain rfl : i = kk := by omega
    have hFr : ∀ F : List (Value × D), (L, D.sl 55 (l.map dAcL)) ∈ F → Refine F (.v L) (.sl 55 (l.map dAcL)) := fun F h => Rf.fact h rfl
    have hlen1 : ((l.map dAcL).drop i).length ≤ l.length := by rw [List.length_drop, hml]; omega
    have hlen2 : ((l.map dAcL).take i).length ≤ l.length := by rw [List.length_take, hml]; omega
    have hres : [] ++ (l.map dAcL).take i ++ [dAcL (AcL.none a)] ++ (l.map dAcL).drop i = (l.take i ++ AcL.none a :: l.drop i).map dAcL := by simp
    have hilen : i < ([] ++ (l.map dAcL).take i ++ [dAcL (AcL.none a)] ++ (l.map dAcL).drop i).length := by simp; omega
    by_cases hil : i < l.length
    · have hd : (l.map dAcL)[i]? = some (dAcL l[i]) := by rw [List.getElem?_map, List.getElem?_eq_getElem hil]; rfl
      have hb := bin_strlt l[i].a a
      rw [(hhi hil).1] at hb
      have hne := (bin_addr l[i].a a).2
      rw [(hhi hil).2] at hne
      repeat
        (first
         | (with_reducible first | apply EC.seq | apply EC.region | apply EC.skip | apply EC.label | apply EC.block | apply EC.exit | apply EC.ret | apply EK.in_normal | apply EK.in_same | apply EK.in_ret | apply EK.then_ret | apply EK.then_exit))
      refine EC.draw 21 (by kernel_rfl) ?_
      simp only [List.take_succ_cons, List.take_zero, List.drop_succ_cons, List.drop_zero]
      repeat
        (first
         | (apply H_slrow; exact sl_addr; exact rfl; exact I2; (rw [hml]; omega); (iterate 2 exact rfl))
         | (apply H_strrow (k := i) (off := 0) (d := dAcL l[i]); exact rfl; exact I2; exact ⟨by simp, hd⟩; (iterate 4 exact rfl)) | (apply H_slarr; exact sl_addr; (iterate 3 exact rfl))
         | (apply H_strvar; exact rfl; exact I0; (iterate 4 exact rfl)) | (apply H_bin; (iterate 2 exact rfl); exact hb; (iterate 2 exact rfl)) | (apply H_move; (iterate 3 exact rfl))
         | (apply H_field; (iterate 6 exact rfl)) | (apply H_pick; (iterate 4 exact rfl))
         | (apply H_load; exact rfl; (first | exact I0 | exact I1 | exact I2 | exact I3 | exact I4 | exact I5 | exact I6); (iterate 4 exact rfl))
         | (apply H_cmp (b := true); (iterate 2 exact rfl); (focus (first | (simp [cmpI]; done) | (simp [cmpI]; omega))); (iterate 2 exact rfl))
         | (apply H_lenrow; exact rfl; (first | exact I0 | exact I1 | exact I2 | exact I3 | exact I4 | exact I5 | exact I6); (iterate 3 exact rfl)) | (apply H_nilck; (iterate 3 exact rfl))
         | (apply H_rowfield; exact rfl; (first | exact I0 | exact I1 | exact I2 | exact I3 | exact I4 | exact I5 | exact I6); (focus (first | omega | (simp; done) | (simp; omega))); (iterate 5 exact rfl))
         | (apply H_rowidx; exact rfl; (first | exact I0 | exact I1 | exact I2 | exact I3 | exact I4 | exact I5 | exact I6); (iterate 2 exact rfl); (focus (first | assumption | omega | (constructor <;> (first | (simp; done) | (simp; omega))))); (iterate 2 exact rfl))
         | ((with_reducible apply EH.nil); exact rfl))
      repeat
        (first
         | apply EL.nil | ((with_reducible apply EK.then_normal); apply EK.code) | (apply EC.cond_false; exact rfl)
         | (with_reducible first | apply EC.seq | apply EC.region | apply EC.skip | apply EC.label | apply EC.block | apply EC.exit | apply EC.ret | apply EK.in_normal | apply EK.in_same | apply EK.in_ret | apply EK.then_ret | apply EK.then_exit))
      refine EC.draw 19 (by kernel_rfl) ?_
      simp only [List.take_succ_cons, List.take_zero, List.drop_succ_cons, List.drop_zero]
      repeat
        (first
         | (apply H_rowload (k := i) (off := 0) (d := dAcL l[i]); exact rfl; exact I2; exact ⟨by simp, hd⟩; (iterate 4 exact rfl)) | (apply H_bin; (iterate 2 exact rfl); exact hne; (iterate 2 exact rfl))
         | (apply H_move; (iterate 3 exact rfl)) | (apply H_field; (iterate 6 exact rfl)) | (apply H_pick; (iterate 4 exact rfl))
         | (apply H_load; exact rfl; (first | exact I0 | exact I1 | exact I2 | exact I3 | exact I4 | exact I5 | exact I6); (iterate 4 exact rfl))
         | (apply H_cmp (b := false); (iterate 2 exact rfl); (focus (first | (simp [cmpI]; done) | (simp [cmpI]; omega))); (iterate 2 exact rfl))
         | (apply H_lenrow; exact rfl; (first | exact I0 | exact I1 | exact I2 | exact I3 | exact I4 | exact I5 | exact I6); (iterate 3 exact rfl)) | (apply H_nilck; (iterate 3 exact rfl))
         | (apply H_rowfield; exact rfl; (first | exact I0 | exact I1 | exact I2 | exact I3 | exact I4 | exact I5 | exact I6); (focus (first | omega | (simp; done) | (simp; omega))); (iterate 5 exact rfl))
         | (apply H_rowidx; exact rfl; (first | exact I0 | exact I1 | exact I2 | exact I3 | exact I4 | exact I5 | exact I6); (iterate 2 exact rfl); (focus (first | assumption | omega | (constructor <;> (first | (simp; done) | (simp; omega))))); (iterate 2 exact rfl))
         | ((with_reducible apply EH.nil); exact rfl))
      repeat
        (first
         | (apply P_move; (iterate 3 exact rfl)) | (apply P_field; (iterate 6 exact rfl))
         | (apply P_load; exact rfl; (first | exact I0 | exact I1 | exact I2 | exact I3 | exact I4 | exact I5 | exact I6); (iterate 4 exact rfl)) | (apply P_nilck; (iterate 3 exact rfl)) | apply EL.nil
         | ((with_reducible apply EK.then_normal); apply EK.code) | (apply EC.cond_true; exact rfl)
         | (with_reducible first | apply EC.seq | apply EC.region | apply EC.skip | apply EC.label | apply EC.block | apply EC.exit | apply EC.ret | apply EK.in_normal | apply EK.in_same | apply EK.in_ret | apply EK.then_ret | apply EK.then_exit))
      refine EL.le (Le.freeze (pre := [_, _]) rfl) ?_
      refine EL.le (Le.pick [1, 0] [_, _] rfl (by decide) rfl) ?_
      refine EL.le (Le.varR (d' := .tup [.sl 55 (l.map dAcL), .v k, .v (.int .i64 n)]) (Rf.tup (RL.cons (hFr _ List.mem_cons_self) (RL.cons Rf.same (RL.cons Rf.same RL.nil))))) ?_
      refine EL.le (Le.refine (t := 52) rfl (hFr _ List.mem_cons_self)) ?_
      refine EL.le (Le.row 37 55) ?_
      repeat
        (first
         | (apply P_slfrom; (iterate 3 exact rfl); exact ⟨by omega, by rw [hml, Int.toNat_natCast]; omega⟩; (iterate 2 exact rfl)) | (apply P_assign; (iterate 3 exact rfl))
         | ((apply P_append; exact rfl; (focus (repeat first | exact .z | apply SetAt.s | apply SetAtF.s)); (iterate 5 exact rfl); (focus (constructor <;> (first | (simp; done) | (simp; omega))))); intro _)
         | apply EL.nil | ((with_reducible apply EK.then_normal); apply EK.code))
      rename_i v1
      dsimp only
      refine EC.le (Le.freeze (pre := []) rfl) ?_
      refine EC.le (Le.refine (t := 6) rfl (Rf.fact List.mem_cons_self rfl)) ?_
      refine EC.le (Le.row 37 55) ?_
      dsimp only
      refine EC.drawC 14 [0, 1, 2, 3, 4, 5, 6, 8, 9, 10, 12] [7, 11, 13] [_] _ (by kernel_rfl) (by kernel_rfl) rfl ?_
      simp only [pickL, List.filterMap_cons, List.filterMap_nil, List.getElem?_cons_zero, List.getElem?_cons_succ]
      repeat
        (first
         | (apply H_slto; (iterate 3 exact rfl); exact ⟨by omega, by rw [hml, Int.toNat_natCast]; omega⟩; (iterate 2 exact rfl)) | (apply H_move; (iterate 3 exact rfl)) | (apply H_field; (iterate 6 exact rfl))
         | (apply H_load; exact rfl; (first | exact I0 | exact I1 | exact I2 | exact I3 | exact I4 | exact I5 | exact I6); (iterate 4 exact rfl)) | (apply H_build; (iterate 7 exact rfl))
         | (apply H_lit; (iterate 9 exact rfl)) | (apply H_nilck; (iterate 3 exact rfl)))
      refine EM.nil ?_
      repeat (first | rw [List.cons_append] | rw [List.nil_append])
      refine CH.mut (os := [_]) (rest := []) rfl rfl (m_append rfl rfl rfl rfl rfl ⟨by simp; omega, by simp; omega⟩) ?_
      rintro _ _ ⟨v2, rfl, rfl⟩
      try simp only [St.put]
      repeat (first | rw [List.cons_append] | rw [List.nil_append])
      refine CH.mut (os := [_]) (rest := []) rfl rfl (m_append rfl rfl rfl rfl rfl ⟨by simp; omega, by simp; omega⟩) ?_
      rintro _ _ ⟨v3, rfl, rfl⟩
      try simp only [St.put]
      repeat (first | rw [List.cons_append] | rw [List.nil_append])
      refine CH.mut (os := [_]) (rest := []) rfl rfl (m_append rfl rfl rfl rfl rfl ⟨by simp; omega, by simp; omega⟩) ?_
      rintro _ _ ⟨v4, rfl, rfl⟩
      try simp only [St.put]
      repeat (first | rw [List.cons_append] | rw [List.nil_append])
      refine CH.nil ?_
      try simp only [List.drop_succ_cons, List.drop_zero]
      repeat
        (first
         | (apply P_move; (iterate 3 exact rfl)) | (apply P_assign; (iterate 3 exact rfl)) | (apply P_field; (iterate 6 exact rfl))
         | (apply P_load; exact rfl; (first | exact I0 | exact I1 | exact I2 | exact I3 | exact I4 | exact I5 | exact I6); (iterate 4 exact rfl)) | (apply P_nilck; (iterate 3 exact rfl))
         | (apply P_rowidx; exact rfl; (first | exact I0 | exact I1 | exact I2 | exact I3 | exact I4 | exact I5 | exact I6); (iterate 2 exact rfl); (focus (first | assumption | omega | (constructor <;> (first | (simp; done) | (simp; omega))))); (iterate 2 exact rfl))
         | (apply P_store; exact rfl; (focus (repeat first | exact .z | apply SetAt.s | apply SetAtF.s)); (iterate 4 exact rfl)) | apply EL.nil | ((with_reducible apply EK.then_normal); apply EK.code)
         | (with_reducible first | apply EC.seq | apply EC.region | apply EC.skip | apply EC.label | apply EC.block | apply EC.exit | apply EC.ret | apply EK.in_normal | apply EK.in_same | apply EK.in_ret | apply EK.then_ret | apply EK.then_exit))
      refine EK.le (Le.rowR (ds' := [] ++ (l.map dAcL).take i ++ [dAcL (AcL.none a)] ++ (l.map dAcL).drop i) (RL.append (RL.append (RefineL.refl _ _) (RL.cons (Rf.tup (RL.cons Rf.same (RL.cons Rf.same (RL.cons Rf.same (RL.cons Rf.bs0 (RL.cons Rf.sl0 RL.nil)))))) RL.nil)) (RefineL.refl _ _))) ?_
      refine EK.le (Le.pick [1, 0, 2] [_, _, _] rfl (by decide) rfl) ?_
      exact EK.retM1s [rsO g v4 k n, .row v4 37 55 ([] ++ (l.map dAcL).take i ++ [dAcL (AcL.none a)] ++ (l.map dAcL).drop i)] rfl rfl (by (repeat first | exact List.nil_sublist _ | apply List.Sublist.cons_cons | apply List.Sublist.cons)) ⟨v4, rfl, by rw [hres]⟩
    · skip
      repeat
        (first
         | (with_reducible first | apply EC.seq | apply EC.region | apply EC.skip | apply EC.label | apply EC.block | apply EC.exit | apply EC.ret | apply EK.in_normal | apply EK.in_same | apply EK.in_ret | apply EK.then_ret | apply EK.then_exit))
      refine EC.draw 21 (by kernel_rfl) ?_
      simp only [List.take_succ_cons, List.take_zero, List.drop_succ_cons, List.drop_zero]
      repeat
        (first
         | (apply H_skip; (iterate 2 exact rfl)) | (apply H_move; (iterate 3 exact rfl)) | (apply H_field; (iterate 6 exact rfl)) | (apply H_pick; (iterate 4 exact rfl))
         | (apply H_load; exact rfl; (first | exact I0 | exact I1 | exact I2 | exact I3 | exact I4 | exact I5 | exact I6); (iterate 4 exact rfl))
         | (apply H_cmp (b := false); (iterate 2 exact rfl); (focus (first | (simp [cmpI]; done) | (simp [cmpI]; omega))); (iterate 2 exact rfl))
         | (apply H_lenrow; exact rfl; (first | exact I0 | exact I1 | exact I2 | exact I3 | exact I4 | exact I5 | exact I6); (iterate 3 exact rfl)) | (apply H_nilck; (iterate 3 exact rfl))
         | ((with_reducible apply EH.nil); exact rfl))
      repeat
        (first
         | apply EL.nil | ((with_reducible apply EK.then_normal); apply EK.code) | (apply EC.cond_false; exact rfl)
         | (with_reducible first | apply EC.seq | apply EC.region | apply EC.skip | apply EC.label | apply EC.block | apply EC.exit | apply EC.ret | apply EK.in_normal | apply EK.in_same | apply EK.in_ret | apply EK.then_ret | apply EK.then_exit))
      refine EC.draw 19 (by kernel_rfl) ?_
      simp only [List.take_succ_cons, List.take_zero, List.drop_succ_cons, List.drop_zero]
      repeat
        (first
         | (apply H_skip; (iterate 2 exact rfl)) | (apply H_move; (iterate 3 exact rfl)) | (apply H_field; (iterate 6 exact rfl)) | (apply H_pick; (iterate 4 exact rfl))
         | (apply H_load; exact rfl; (first | exact I0 | exact I1 | exact I2 | exact I3 | exact I4 | exact I5 | exact I6); (iterate 4 exact rfl))
         | (apply H_cmp (b := true); (iterate 2 exact rfl); (focus (first | (simp [cmpI]; done) | (simp [cmpI]; omega))); (iterate 2 exact rfl))
         | (apply H_lenrow; exact rfl; (first | exact I0 | exact I1 | exact I2 | exact I3 | exact I4 | exact I5 | exact I6); (iterate 3 exact rfl)) | (apply H_nilck; (iterate 3 exact rfl))
         | ((with_reducible apply EH.nil); exact rfl))
      repeat
        (first
         | (apply P_move; (iterate 3 exact rfl)) | (apply P_field; (iterate 6 exact rfl))
         | (apply P_load; exact rfl; (first | exact I0 | exact I1 | exact I2 | exact I3 | exact I4 | exact I5 | exact I6); (iterate 4 exact rfl)) | (apply P_nilck; (iterate 3 exact rfl)) | apply EL.nil
         | ((with_reducible apply EK.then_normal); apply EK.code) | (apply EC.cond_true; exact rfl)
         | (with_reducible first | apply EC.seq | apply EC.region | apply EC.skip | apply EC.label | apply EC.block | apply EC.exit | apply EC.ret | apply EK.in_normal | apply EK.in_same | apply EK.in_ret | apply EK.then_ret | apply EK.then_exit))
      refine EL.le (Le.freeze (pre := [_, _]) rfl) ?_
      refine EL.le (Le.pick [1, 0] [_, _] rfl (by decide) rfl) ?_
      refine EL.le (Le.varR (d' := .tup [.sl 55 (l.map dAcL), .v k, .v (.int .i64 n)]) (Rf.tup (RL.cons (hFr _ List.mem_cons_self) (RL.cons Rf.same (RL.cons Rf.same RL.nil))))) ?_
      refine EL.le (Le.refine (t := 52) rfl (hFr _ List.mem_cons_self)) ?_
      refine EL.le (Le.row 37 55) ?_
      repeat
        (first
         | (apply P_slfrom; (iterate 3 exact rfl); exact ⟨by omega, by rw [hml, Int.toNat_natCast]; omega⟩; (iterate 2 exact rfl)) | (apply P_assign; (iterate 3 exact rfl))
         | ((apply P_append; exact rfl; (focus (repeat first | exact .z | apply SetAt.s | apply SetAtF.s)); (iterate 5 exact rfl); (focus (constructor <;> (first | (simp; done) | (simp; omega))))); intro _)
         | apply EL.nil | ((with_reducible apply EK.then_normal); apply EK.code))
      rename_i v1
      dsimp only
      refine EC.le (Le.freeze (pre := []) rfl) ?_
      refine EC.le (Le.refine (t := 6) rfl (Rf.fact List.mem_cons_self rfl)) ?_
      refine EC.le (Le.row 37 55) ?_
      dsimp only
      refine EC.drawC 14 [0, 1, 2, 3, 4, 5, 6, 8, 9, 10, 12] [7, 11, 13] [_] _ (by kernel_rfl) (by kernel_rfl) rfl ?_
      simp only [pickL, List.filterMap_cons, List.filterMap_nil, List.getElem?_cons_zero, List.getElem?_cons_succ]
      repeat
        (first
         | (apply H_slto; (iterate 3 exact rfl); exact ⟨by omega, by rw [hml, Int.toNat_natCast]; omega⟩; (iterate 2 exact rfl)) | (apply H_move; (iterate 3 exact rfl)) | (apply H_field; (iterate 6 exact rfl))
         | (apply H_load; exact rfl; (first | exact I0 | exact I1 | exact I2 | exact I3 | exact I4 | exact I5 | exact I6); (iterate 4 exact rfl)) | (apply H_build; (iterate 7 exact rfl))
         | (apply H_lit; (iterate 9 exact rfl)) | (apply H_nilck; (iterate 3 exact rfl)))
      refine EM.nil ?_
      repeat (first | rw [List.cons_append] | rw [List.nil_append])
      refine CH.mut (os := [_]) (rest := []) rfl rfl (m_append rfl rfl rfl rfl rfl ⟨by simp; omega, by simp; omega⟩) ?_
      rintro _ _ ⟨v2, rfl, rfl⟩
      try simp only [St.put]
      repeat (first | rw [List.cons_append] | rw [List.nil_append])
      refine CH.mut (os := [_]) (rest := []) rfl rfl (m_append rfl rfl rfl rfl rfl ⟨by simp; omega, by simp; omega⟩) ?_
      rintro _ _ ⟨v3, rfl, rfl⟩
      try simp only [St.put]
      repeat (first | rw [List.cons_append] | rw [List.nil_append])
      refine CH.mut (os := [_]) (rest := []) rfl rfl (m_append rfl rfl rfl rfl rfl ⟨by simp; omega, by simp; omega⟩) ?_
      rintro _ _ ⟨v4, rfl, rfl⟩
      try simp only [St.put]
      repeat (first | rw [List.cons_append] | rw [List.nil_append])
      refine CH.nil ?_
      try simp only [List.drop_succ_cons, List.drop_zero]
      repeat
        (first
         | (apply P_move; (iterate 3 exact rfl)) | (apply P_assign; (iterate 3 exact rfl)) | (apply P_field; (iterate 6 exact rfl))
         | (apply P_load; exact rfl; (first | exact I0 | exact I1 | exact I2 | exact I3 | exact I4 | exact I5 | exact I6); (iterate 4 exact rfl)) | (apply P_nilck; (iterate 3 exact rfl))
         | (apply P_rowidx; exact rfl; (first | exact I0 | exact I1 | exact I2 | exact I3 | exact I4 | exact I5 | exact I6); (iterate 2 exact rfl); (focus (first | assumption | omega | (constructor <;> (first | (simp; done) | (simp; omega))))); (iterate 2 exact rfl))
         | (apply P_store; exact rfl; (focus (repeat first | exact .z | apply SetAt.s | apply SetAtF.s)); (iterate 4 exact rfl)) | apply EL.nil | ((with_reducible apply EK.then_normal); apply EK.code)
         | (with_reducible first | apply EC.seq | apply EC.region | apply EC.skip | apply EC.label | apply EC.block | apply EC.exit | apply EC.ret | apply EK.in_normal | apply EK.in_same | apply EK.in_ret | apply EK.then_ret | apply EK.then_exit))
      refine EK.le (Le.rowR (ds' := [] ++ (l.map dAcL).take i ++ [dAcL (AcL.none a)] ++ (l.map dAcL).drop i) (RL.append (RL.append (RefineL.refl _ _) (RL.cons (Rf.tup (RL.cons Rf.same (RL.cons Rf.same (RL.cons Rf.same (RL.cons Rf.bs0 (RL.cons Rf.sl0 RL.nil)))))) RL.nil)) (RefineL.refl _ _))) ?_
      refine EK.le (Le.pick [1, 0, 2] [_, _, _] rfl (by decide) rfl) ?_
      exact EK.retM1s [rsO g v4 k n, .row v4 37 55 ([] ++ (l.map dAcL).take i ++ [dAcL (AcL.none a)] ++ (l.map dAcL).drop i)] rfl rfl (by (repeat first | exact List.nil_sublist _ | apply List.Sublist.cons_cons | apply List.Sublist.cons)) ⟨v4, rfl, by rw [hres]⟩
end E
end Go.Proofs.Ytdhicdnmgmkpkaa
