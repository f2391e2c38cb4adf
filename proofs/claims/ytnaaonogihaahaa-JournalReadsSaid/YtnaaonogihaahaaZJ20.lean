/-
  Merged (wip/tools/merge.py): E14, EJ7.
  Conditions: none.
-/
import Derived.Test.YtnaaonogihaahaaZJ16
import Derived.Test.YtnaaonogihaahaaZJ11
import Derived.Test.YtnaaonogihaahaaZJ15
import Derived.Laws.IdiomCopy
import Derived.Test.YtnaaonogihaahaaZJ19
/-
  The abstract machine: an array seen as a slice, copy into a variable's array, a copy of bytes in new memory.
  Conditions: none.
-/
namespace Go.Proofs.Ytnaaonogihaahaa
set_option linter.unusedVariables false
open Go.RowKit Mono Rlp
namespace E
/-- Arrays of n bytes. -/
structure SliceA (T n : Nat) : Prop where
  ok : ∀ w g o, (Instr.sliceAt T (.pointer (some ⟨g, o, none⟩)) none none none).run Try.prog w = .ok (.slice (some ⟨g, o, none⟩) n n) w
section
variable {N : Nat} {X : Cx N} {S : St} {ops : Array Oper} {o : Oper} {Q : Exit → Act → World → Prop} {l : List Oper} {TT : St → List Fr → Prop} {EE : List Fr} {rs : List (Tmp × R)} {os : List Obj} {fs : List (Value × D)}
theorem g_slarr {x : Operand} {T n g k : Nat} (hA : SliceA T n) (ho : o.op = .slice T x none none none) (hx : ev S x = some (.val (.v (.pointer (some ⟨g, k, none⟩))))) : Still ops S o (.val (.v (.slice (some ⟨g, k, none⟩) n n))) := fun base ok a w ha => by
  have hx' := ev_v ha hx fun t e => looks_of e (by rw [ho]; simp [Op.operands])
  refine ⟨_, ?_, v_mk rfl⟩
  unfold execOp
  simp only [ho, hx', Option.map_none, Sem.run_bind, hA.ok w g k, Result.andThen_ok, Sem.run_pure]
theorem P_slarr {t ty : Nat} {pos : String} {af : Array Edge} {gd : Option (Nat × Bool)} {x : Operand} {T n g k : Nat} (hA : SliceA T n) (hx : ev (⟨rs, os, fs⟩ : St) x = some (.val (.v (.pointer (some ⟨g, k, none⟩))))) (hg : guardOf ops ⟨rs, os, fs⟩ ⟨some t, .slice T x none none none, ty, pos, af, gd⟩ = some true) (hN : Nat.blt t N = true) (kk : EL X ops Q l ⟨(t, .val (.v (.slice (some ⟨g, k, none⟩) n n))) :: rs, os, fs⟩) : EL X ops Q (⟨some t, .slice T x none none none, ty, pos, af, gd⟩ :: l) ⟨rs, os, fs⟩ := ES.still (g_slarr hA rfl hx) hg rfl hN kk
theorem H_slarr {t ty : Nat} {pos : String} {af : Array Edge} {gd : Option (Nat × Bool)} {x : Operand} {T n g k : Nat} (hA : SliceA T n) (hx : ev (⟨rs, os, fs⟩ : St) x = some (.val (.v (.pointer (some ⟨g, k, none⟩))))) (hg : guardOf ops ⟨rs, os, fs⟩ ⟨some t, .slice T x none none none, ty, pos, af, gd⟩ = some true) (hoff : offB N (some t) EE = true) (kk : EM N ops TT l ⟨(t, .val (.v (.slice (some ⟨g, k, none⟩) n n))) :: rs, os, fs⟩ EE) : EM N ops TT (⟨some t, .slice T x none none none, ty, pos, af, gd⟩ :: l) ⟨rs, os, fs⟩ EE := EH.still (g_slarr hA rfl hx) hg rfl hoff kk
/-- 'copy' of as many bytes as the array has, into a variable's array. -/
theorem EL.copy {T U e b g n k c : Nat} {x y : Operand} {t : TypeId} {d d'' : D} {m : List UInt8} (i : Nat) (ho : o.op = .call { callee := .builtin .copy, args := #[x, y], argTypes := #[T, U] }) (hg : guardOf ops S o = some true) (hd : ∀ t, o.dst = some t → t < N) (hT : assoc slL T = some (e, 1, b))
    (hx : ev S x = some (.val (.v (.slice (some ⟨g, n, none⟩) k c)))) (hi : S.objs[i]? = some (.var g t d)) (hy : ev S y = some (.val (.bs m))) (hm : m.length = k) (h0 : Nat.blt 0 k = true) (hu : d.upd n (.arr k m) = some d'')
    (kk : EL X ops Q l (St.put ⟨S.regs, S.objs.set i (.var g t d''), S.facts⟩ o.dst (.val (.v (.int .i64 (k : Int)))))) : EL X ops Q (o :: l) S := by
  constructor
  intro a w ha
  have hk := ha.kn fun t => t ∈ o.looksAt ops
  have hx' := ev_v hk hx fun t e => looks_of e (by rw [ho]; simp [Op.operands, Call.operands])
  obtain ⟨A, c', h1, h2, h3, h4⟩ := bs_ex (hk.ev hy fun t e => looks_of e (by rw [ho]; simp [Op.operands, Call.operands]))
  have h0' : 0 < k := by simpa using h0
  obtain ⟨bl, o', rfl, hb, hc⟩ := h4 (fun e => by have := congrArg List.length e; rw [bvs_length] at this; simp at this; rw [this] at hm; simp at hm; omega)
  obtain ⟨hge, cs, h5, h6⟩ := ha.mem.var hi
  have hnew : Reads (X.ok S.objs w) w (.arr k m) (bvs m) := by rw [Reads]; exact ⟨hm, rfl⟩
  obtain ⟨e1, e2, pre, mid, post, rfl, h7, h8, h9⟩ := upd_spec d n (.arr k m) d'' cs (bvs m) hu h6 hnew
  have hcell : ∀ j, j < (bvs m).length → (w.cell? ⟨g, n + j, none⟩).isSome = true := fun j hj => by
    rw [cell_of_row w g (n + j) _ t (0, 0) h5]
    simp only [List.getElem?_toArray, List.append_assoc]
    rw [List.getElem?_append_right (by omega), List.getElem?_append_left (by omega)]
    simp
    omega
  have hf : ∀ j, j < (bvs m).length → w.frozen? ⟨g, n + j, none⟩ = false := fun j _ => by simp [World.frozen?, h5]
  have hsl := slI hT
  have hrun := run_copy_cells (P := Try.prog) w T U o.type e g n k c ⟨bl, o', none⟩ m.length c' (bvs m) hsl.und hsl.size (by rw [bvs_length, hm]; simp) (fun j v hv => by rw [add_none]; exact hc j v hv) hcell hf (bvs_one m)
  unfold wpList
  rw [if_pos (wanted_of ha hg)]
  refine .inl ?_
  unfold Oper.wp execOp
  simp only [ho, resolve, invoke, builtin, Sem.run_bind, Sem.run_pure, Result.andThen_ok, List.map_toArray, List.map_cons, List.map_nil, hx', h1, hrun]
  have ht := ha.turn (q := .var g t d'') (w' := w.setCells g n (bvs m)) hi (grownBy_setCells g (bvs m) n w) (.inl rfl) fun hok hcell => ⟨hge, pre ++ bvs m ++ post, by
    have := setCells_row (bvs m) pre mid post w h8 h5
    rwa [h7] at this, Reads.mono hok hcell _ _ h9⟩
  rw [bvs_length, hm]
  exact kk.go _ _ (ht.put hd (v_mk rfl))
/-- A copy of bytes. -/
theorem g_apnew {x : Operand} {m : List UInt8} (ho : o.op = .call { callee := .builtin .append, args := #[.const (.slice none 0 0), x], argTypes := #[29, 29] }) (hx : ev S x = some (.val (.bs m))) (hl : m.length ≤ 140737488355328) : Grows ops S o (· = .val (.bs m)) := fun base ok a w ha => by
  have hr := ha.ev hx fun t e => looks_of e (by rw [ho]; simp [Op.operands, Call.operands])
  refine growsTo_mono (fun v w' hg hv => ⟨_, rfl, (readV_one rfl).2 (by rw [Reads]; exact ⟨v, rfl, IsBP.mono hv (fun b hb => ⟨.inr hb.1, hb.2⟩) fun _ _ => rfl⟩)⟩) (growsTo_append_new (B := w.heap.size) (Nat.le_refl _) ho rfl (isB_of ha.lt hr) hl)
theorem P_apnew {t ty : Nat} {pos : String} {af : Array Edge} {gd : Option (Nat × Bool)} {x : Operand} {m : List UInt8} (hl : m.length ≤ 140737488355328) (hx : ev (⟨rs, os, fs⟩ : St) x = some (.val (.bs m))) (hg : guardOf ops ⟨rs, os, fs⟩ ⟨some t, .call { callee := .builtin .append, args := #[.const (.slice none 0 0), x], argTypes := #[29, 29] }, ty, pos, af, gd⟩ = some true) (hN : Nat.blt t N = true) (kk : EL X ops Q l ⟨(t, .val (.bs m)) :: rs, os, fs⟩) : EL X ops Q (⟨some t, .call { callee := .builtin .append, args := #[.const (.slice none 0 0), x], argTypes := #[29, 29] }, ty, pos, af, gd⟩ :: l) ⟨rs, os, fs⟩ := ES.grow (g_apnew rfl hx hl) hg rfl hN kk
theorem P_copy {t ty : Nat} {pos : String} {af : Array Edge} {gd : Option (Nat × Bool)} {T U e b g n k c : Nat} {x y : Operand} {tv : TypeId} {d d'' : D} {m : List UInt8} (i : Nat) (hm : m.length = k) (hx : ev (⟨rs, os, fs⟩ : St) x = some (.val (.v (.slice (some ⟨g, n, none⟩) k c)))) (hy : ev (⟨rs, os, fs⟩ : St) y = some (.val (.bs m))) (hi : os[i]? = some (.var g tv d)) (hT : assoc slL T = some (e, 1, b)) (h0 : Nat.blt 0 k = true) (hu : d.upd n (.arr k m) = some d'') (hg : guardOf ops ⟨rs, os, fs⟩ ⟨some t, .call { callee := .builtin .copy, args := #[x, y], argTypes := #[T, U] }, ty, pos, af, gd⟩ = some true) (hN : Nat.blt t N = true) (kk : EL X ops Q l ⟨(t, .val (.v (.int .i64 (k : Int)))) :: rs, os.set i (.var g tv d''), fs⟩) : EL X ops Q (⟨some t, .call { callee := .builtin .copy, args := #[x, y], argTypes := #[T, U] }, ty, pos, af, gd⟩ :: l) ⟨rs, os, fs⟩ :=
  EL.copy i rfl hg (dst_lt rfl hN) hT hx hi hy hm h0 hu kk
end
theorem sl_word : SliceA 23 32 := ⟨fun w g o => slice_word_off w g o⟩
end E
end Go.Proofs.Ytnaaonogihaahaa
/-
  journal's reference: slotsOf, changeOf.
  Conditions: none.
-/
namespace Go.Proofs.Ytnaaonogihaahaa
set_option linter.unusedVariables false
open Go.RowKit Mono Rlp Jn
namespace E
def slR (x : Raw) : Option (List Sl) := match isL x with
  | some xs => allR slotR xs
  | none => none
def slotsD (x : Raw) : R := match slR x with
  | some ss => .tpl [.sl 64 (ss.map dSl), .v (.bool true)]
  | none => .tpl [.v (.slice none 0 0), .v (.bool false)]
theorem slotsD_some {x : Raw} {ss : List Sl} (h : slR x = some ss) : slotsD x = .tpl [.sl 64 (ss.map dSl), .v (.bool true)] := by unfold slotsD; rw [h]
theorem slotsD_none {x : Raw} (h : slR x = none) : slotsD x = .tpl [.v (.slice none 0 0), .v (.bool false)] := by unfold slotsD; rw [h]
theorem slotR_two {yb : List UInt8} {a b : Raw} : slotR (.mk true yb [a, b]) = match wordR a, wordR b with | some k, some v => some ⟨k, v⟩ | _, _ => none := by
  unfold slotR
  rfl
theorem slotR_len {yb : List UInt8} {yx : List Raw} (h : ¬ yx.length = 2) : slotR (.mk true yb yx) = none := by
  unfold slotR isL
  match yx, h with
  | [], _ => rfl
  | [a], _ => rfl
  | [a, b], h => exact absurd rfl h
  | a :: b :: c :: l, _ => rfl
set_option maxRecDepth 20000 in
set_option maxHeartbeats 8000000 in
theorem f_slotsOf (x : Raw) (hE : (E x).length ≤ 16777216) : Fn 49 [dItem x] (· = slotsD x) := by
  obtain ⟨f, bs, xs⟩ := x
  have hlen := dItems_length xs
  cases f with
  | false =>
    rw [slotsD_none (x := .mk false bs xs) rfl]
    refine Fn.walk 64 Try.func49 rfl Try.ntmps49 (by simp) fun X => ?_
    simp only [dItem]
    repeat
      (first
       | (apply P_skip; exact rfl) | (apply P_move; (iterate 3 exact rfl)) | (apply P_assign; (iterate 3 exact rfl)) | (apply P_field; (iterate 6 exact rfl)) | (apply P_fieldpd; (iterate 7 exact rfl))
       | (apply P_extract; (iterate 4 exact rfl)) | (apply P_loadpd; (iterate 5 exact rfl)) | (apply P_pick; (iterate 4 exact rfl)) | (apply P_not; (iterate 3 exact rfl))
       | (apply P_load; exact rfl; (first | exact I0 | exact I1 | exact I2 | exact I3 | exact I4 | exact I5 | exact I6); (iterate 4 exact rfl))
       | (apply P_cmp (b := true); (iterate 2 exact rfl); (focus (first | (simp [cmpI]; done) | (simp [cmpI]; omega))); (iterate 2 exact rfl))
       | (apply P_cmp (b := false); (iterate 2 exact rfl); (focus (first | (simp [cmpI]; done) | (simp [cmpI]; omega))); (iterate 2 exact rfl)) | (apply P_cmp; (iterate 5 exact rfl))
       | (apply P_ar; (iterate 3 exact rfl); (focus omega); (focus omega); (iterate 2 exact rfl)) | (apply P_lenbs; (iterate 4 exact rfl)) | (apply P_lensl; (iterate 4 exact rfl))
       | (apply P_lenrow; exact rfl; (first | exact I0 | exact I1 | exact I2 | exact I3 | exact I4 | exact I5 | exact I6); (iterate 3 exact rfl)) | (apply P_lenv; (iterate 4 exact rfl))
       | (apply P_index; (iterate 4 exact rfl); (focus (first | exact ⟨by decide, rfl⟩ | (refine ⟨by omega, ?_⟩; rw [Int.toNat_natCast]; assumption))); (iterate 2 exact rfl))
       | (apply P_indexbs; (iterate 3 exact rfl); (focus (first | exact ⟨by decide, rfl⟩ | (refine ⟨by omega, ?_⟩; rw [Int.toNat_natCast]; assumption))); (iterate 2 exact rfl))
       | (apply P_str; (iterate 3 exact rfl)) | (apply P_build; (iterate 7 exact rfl)) | (apply P_build0; (iterate 5 exact rfl)) | (apply P_lit; (iterate 9 exact rfl))
       | (apply P_s2a; (iterate 2 exact rfl); (focus (first | assumption | omega)); (iterate 3 exact rfl)) | (apply P_alloc; exact rfl; exact rfl; exact rfl; intro _)
       | (apply P_box; exact rfl; exact rfl; exact rfl; intro _) | (apply P_store; exact rfl; (focus (repeat first | exact .z | apply SetAt.s | apply SetAtF.s)); (iterate 4 exact rfl))
       | ((apply P_append; exact rfl; (focus (repeat first | exact .z | apply SetAt.s | apply SetAtF.s)); (iterate 5 exact rfl); (focus (constructor <;> (first | (simp; done) | (simp; omega))))); intro _)
       | apply EL.nil | ((with_reducible apply EK.then_normal); apply EK.code) | with_reducible apply EC.seq | with_reducible apply EC.region | (apply EC.cond_true; exact rfl)
       | (apply EC.cond_false; exact rfl) | with_reducible apply EC.skip | with_reducible apply EC.label | with_reducible apply EC.block | with_reducible apply EC.exit | with_reducible apply EC.ret
       | with_reducible apply EK.in_normal | with_reducible apply EK.in_same | ((with_reducible apply EK.in_other); exact rfl) | with_reducible apply EK.in_ret | with_reducible apply EK.then_ret
       | with_reducible apply EK.then_exit)
    refine EK.ret2r rfl rfl rfl ?_ rfl
    (repeat first | exact RefineL.refl _ _ | exact RL.nil | exact Rf.same | exact Rf.bs0 | exact Rf.sl0 | (apply Rf.fact; (focus (simp; done)); exact rfl) | apply Rf.tup | apply RL.cons)
  | true =>
    have hx : xs.length ≤ 16777216 := by
      have h3 := E_list_len bs xs
      have h4 := EL_len xs
      omega
    clear hE
    have hsl : slR (.mk true bs xs) = allR slotR xs := rfl
    refine Fn.walk 64 Try.func49 rfl Try.ntmps49 (by simp) fun X => ?_
    simp only [dItem]
    repeat
      (first
       | (apply P_skip; exact rfl) | (apply P_move; (iterate 3 exact rfl)) | (apply P_assign; (iterate 3 exact rfl)) | (apply P_field; (iterate 6 exact rfl)) | (apply P_fieldpd; (iterate 7 exact rfl))
       | (apply P_extract; (iterate 4 exact rfl)) | (apply P_loadpd; (iterate 5 exact rfl)) | (apply P_pick; (iterate 4 exact rfl)) | (apply P_not; (iterate 3 exact rfl))
       | (apply P_load; exact rfl; (first | exact I0 | exact I1 | exact I2 | exact I3 | exact I4 | exact I5 | exact I6); (iterate 4 exact rfl))
       | (apply P_cmp (b := true); (iterate 2 exact rfl); (focus (first | (simp [cmpI]; done) | (simp [cmpI]; omega))); (iterate 2 exact rfl))
       | (apply P_cmp (b := false); (iterate 2 exact rfl); (focus (first | (simp [cmpI]; done) | (simp [cmpI]; omega))); (iterate 2 exact rfl)) | (apply P_cmp; (iterate 5 exact rfl))
       | (apply P_ar; (iterate 3 exact rfl); (focus omega); (focus omega); (iterate 2 exact rfl)) | (apply P_lenbs; (iterate 4 exact rfl)) | (apply P_lensl; (iterate 4 exact rfl))
       | (apply P_lenrow; exact rfl; (first | exact I0 | exact I1 | exact I2 | exact I3 | exact I4 | exact I5 | exact I6); (iterate 3 exact rfl)) | (apply P_lenv; (iterate 4 exact rfl))
       | (apply P_index; (iterate 4 exact rfl); (focus (first | exact ⟨by decide, rfl⟩ | (refine ⟨by omega, ?_⟩; rw [Int.toNat_natCast]; assumption))); (iterate 2 exact rfl))
       | (apply P_indexbs; (iterate 3 exact rfl); (focus (first | exact ⟨by decide, rfl⟩ | (refine ⟨by omega, ?_⟩; rw [Int.toNat_natCast]; assumption))); (iterate 2 exact rfl))
       | (apply P_str; (iterate 3 exact rfl)) | (apply P_build; (iterate 7 exact rfl)) | (apply P_build0; (iterate 5 exact rfl)) | (apply P_lit; (iterate 9 exact rfl))
       | (apply P_s2a; (iterate 2 exact rfl); (focus (first | assumption | omega)); (iterate 3 exact rfl)) | (apply P_alloc; exact rfl; exact rfl; exact rfl; intro _)
       | (apply P_box; exact rfl; exact rfl; exact rfl; intro _) | (apply P_store; exact rfl; (focus (repeat first | exact .z | apply SetAt.s | apply SetAtF.s)); (iterate 4 exact rfl))
       | ((apply P_append; exact rfl; (focus (repeat first | exact .z | apply SetAt.s | apply SetAtF.s)); (iterate 5 exact rfl); (focus (constructor <;> (first | (simp; done) | (simp; omega))))); intro _)
       | apply EL.nil | ((with_reducible apply EK.then_normal); apply EK.code) | with_reducible apply EC.seq | with_reducible apply EC.region | (apply EC.cond_true; exact rfl)
       | (apply EC.cond_false; exact rfl) | with_reducible apply EC.skip | with_reducible apply EC.label | with_reducible apply EC.block | with_reducible apply EC.exit | with_reducible apply EC.ret
       | with_reducible apply EK.in_normal | with_reducible apply EK.in_same | ((with_reducible apply EK.in_other); exact rfl) | with_reducible apply EK.in_ret | with_reducible apply EK.then_ret
       | with_reducible apply EK.then_exit)
    rename_i g1
    refine EC.le (Le.row 48 64) ?_
    refine EC.loop (ι := {p : Value × List Sl // p.2.length ≤ xs.length ∧ allR slotR (xs.take p.2.length) = some p.2})
      (fun p => ⟨[(4, .val (.v p.1.1)), (5, .val (.v (.int .i64 (p.1.2.length : Int)))), (1, .val (.v (.pointer (some ⟨g1, 0, none⟩))))], [.row p.1.1 48 64 (p.1.2.map dSl), .var g1 56 (.tup [.v (.bool true), .bs bs, .sl 3 (dItems xs)])], []⟩)
      (fun p => xs.length - p.1.2.length) ⟨(.slice none 0 0, []), by simp, by simp [allR]⟩ ?_ ?_
    · exact (Le.keep (by repeat first | exact trivial | refine ⟨rfl, ?_⟩) (by repeat first | exact List.nil_sublist _ | apply List.Sublist.cons_cons | apply List.Sublist.cons) (by simp))
    rintro ⟨⟨sv, done⟩, hdl, hd⟩
    dsimp only at hdl hd ⊢
    by_cases hlt : done.length < xs.length
    · have hy : (dItems xs)[done.length]? = some (dItem xs[done.length]) := by rw [dItems_get, List.getElem?_eq_getElem hlt]; rfl
      have ht : ∀ s, slotR xs[done.length] = some s → allR slotR (xs.take (done.length + 1)) = some (done ++ [s]) := fun s h => allR_take hd hlt h
      have hno : slotR xs[done.length] = none → allR slotR xs = none := fun h => allR_none h xs (List.getElem_mem hlt)
      generalize xs[done.length] = y at hy ht hno
      obtain ⟨yf, yb, yx⟩ := y
      simp only [dItem] at hy
      have hyl := dItems_length yx
      cases yf with
      | false =>
        rw [slotsD_none (hsl.trans (hno rfl))]
        repeat
          (first
           | (apply P_skip; exact rfl) | (apply P_move; (iterate 3 exact rfl)) | (apply P_assign; (iterate 3 exact rfl)) | (apply P_field; (iterate 6 exact rfl)) | (apply P_fieldpd; (iterate 7 exact rfl))
           | (apply P_extract; (iterate 4 exact rfl)) | (apply P_loadpd; (iterate 5 exact rfl)) | (apply P_pick; (iterate 4 exact rfl)) | (apply P_not; (iterate 3 exact rfl))
           | (apply P_load; exact rfl; (first | exact I0 | exact I1 | exact I2 | exact I3 | exact I4 | exact I5 | exact I6); (iterate 4 exact rfl))
           | (apply P_cmp (b := true); (iterate 2 exact rfl); (focus (first | (simp [cmpI]; done) | (simp [cmpI]; omega))); (iterate 2 exact rfl))
           | (apply P_cmp (b := false); (iterate 2 exact rfl); (focus (first | (simp [cmpI]; done) | (simp [cmpI]; omega))); (iterate 2 exact rfl)) | (apply P_cmp; (iterate 5 exact rfl))
           | (apply P_ar; (iterate 3 exact rfl); (focus omega); (focus omega); (iterate 2 exact rfl)) | (apply P_lenbs; (iterate 4 exact rfl)) | (apply P_lensl; (iterate 4 exact rfl))
           | (apply P_lenrow; exact rfl; (first | exact I0 | exact I1 | exact I2 | exact I3 | exact I4 | exact I5 | exact I6); (iterate 3 exact rfl)) | (apply P_lenv; (iterate 4 exact rfl))
           | (apply P_index; (iterate 4 exact rfl); (focus (first | exact ⟨by decide, rfl⟩ | (refine ⟨by omega, ?_⟩; rw [Int.toNat_natCast]; assumption))); (iterate 2 exact rfl))
           | (apply P_indexbs; (iterate 3 exact rfl); (focus (first | exact ⟨by decide, rfl⟩ | (refine ⟨by omega, ?_⟩; rw [Int.toNat_natCast]; assumption))); (iterate 2 exact rfl))
           | (apply P_str; (iterate 3 exact rfl)) | (apply P_build; (iterate 7 exact rfl)) | (apply P_build0; (iterate 5 exact rfl)) | (apply P_lit; (iterate 9 exact rfl))
           | (apply P_s2a; (iterate 2 exact rfl); (focus (first | assumption | omega)); (iterate 3 exact rfl)) | (apply P_alloc; exact rfl; exact rfl; exact rfl; intro _)
           | (apply P_box; exact rfl; exact rfl; exact rfl; intro _) | (apply P_store; exact rfl; (focus (repeat first | exact .z | apply SetAt.s | apply SetAtF.s)); (iterate 4 exact rfl))
           | ((apply P_append; exact rfl; (focus (repeat first | exact .z | apply SetAt.s | apply SetAtF.s)); (iterate 5 exact rfl); (focus (constructor <;> (first | (simp; done) | (simp; omega))))); intro _)
           | apply EL.nil | ((with_reducible apply EK.then_normal); apply EK.code) | with_reducible apply EC.seq | with_reducible apply EC.region | (apply EC.cond_true; exact rfl)
           | (apply EC.cond_false; exact rfl) | with_reducible apply EC.skip | with_reducible apply EC.label | with_reducible apply EC.block | with_reducible apply EC.exit | with_reducible apply EC.ret
           | with_reducible apply EK.in_normal | with_reducible apply EK.in_same | ((with_reducible apply EK.in_other); exact rfl) | with_reducible apply EK.in_ret | with_reducible apply EK.then_ret
           | with_reducible apply EK.then_exit)
        refine EK.ret2r rfl rfl rfl ?_ rfl
        (repeat first | exact RefineL.refl _ _ | exact RL.nil | exact Rf.same | exact Rf.bs0 | exact Rf.sl0 | (apply Rf.fact; (focus (simp; done)); exact rfl) | apply Rf.tup | apply RL.cons)
      | true =>
        by_cases h2 : yx.length = 2
        · obtain ⟨a, b, rfl⟩ : ∃ a b, yx = [a, b] := by
            match yx, h2 with
            | [a, b], _ => exact ⟨a, b, rfl⟩
          have ha := f_WordOf a
          have hb := f_WordOf b
          rw [slotR_two] at ht hno
          simp only [dItems] at hy
          unfold wordD at ha hb
          obtain ⟨af, ab, ax⟩ := a
          obtain ⟨bf, bb, bx⟩ := b
          simp only [dItem] at hy
          have hwa := word_lenD (.mk af ab ax)
          have hwb := word_lenD (.mk bf bb bx)
          cases ea : wordR (.mk af ab ax) with
          | none =>
            rw [slotsD_none (hsl.trans (hno (by rw [ea])))]
            simp only [ea, Option.getD, Option.isSome] at ha
            clear ht hno
            repeat
              (first
               | (apply P_skip; exact rfl)
               | (apply P_call (ha); exact rfl; (focus (repeat first | exact RefineL.refl _ _ | exact RL.nil | exact Rf.same | exact Rf.bs0 | exact Rf.sl0 | (apply Rf.fact; (focus (simp; done)); exact rfl) | apply Rf.tup | apply RL.cons)); (focus (intro _ _; simp [go_sem]; done)); (iterate 2 exact rfl))
               | (apply P_call (hb); exact rfl; (focus (repeat first | exact RefineL.refl _ _ | exact RL.nil | exact Rf.same | exact Rf.bs0 | exact Rf.sl0 | (apply Rf.fact; (focus (simp; done)); exact rfl) | apply Rf.tup | apply RL.cons)); (focus (intro _ _; simp [go_sem]; done)); (iterate 2 exact rfl))
               | (apply P_move; (iterate 3 exact rfl)) | (apply P_assign; (iterate 3 exact rfl)) | (apply P_field; (iterate 6 exact rfl)) | (apply P_fieldpd; (iterate 7 exact rfl))
               | (apply P_extract; (iterate 4 exact rfl)) | (apply P_loadpd; (iterate 5 exact rfl)) | (apply P_pick; (iterate 4 exact rfl)) | (apply P_not; (iterate 3 exact rfl))
               | (apply P_load; exact rfl; (first | exact I0 | exact I1 | exact I2 | exact I3 | exact I4 | exact I5 | exact I6); (iterate 4 exact rfl))
               | (apply P_cmp (b := true); (iterate 2 exact rfl); (focus (first | (simp [cmpI]; done) | (simp [cmpI]; omega))); (iterate 2 exact rfl))
               | (apply P_cmp (b := false); (iterate 2 exact rfl); (focus (first | (simp [cmpI]; done) | (simp [cmpI]; omega))); (iterate 2 exact rfl)) | (apply P_cmp; (iterate 5 exact rfl))
               | (apply P_ar; (iterate 3 exact rfl); (focus omega); (focus omega); (iterate 2 exact rfl)) | (apply P_lenbs; (iterate 4 exact rfl)) | (apply P_lensl; (iterate 4 exact rfl))
               | (apply P_lenrow; exact rfl; (first | exact I0 | exact I1 | exact I2 | exact I3 | exact I4 | exact I5 | exact I6); (iterate 3 exact rfl)) | (apply P_lenv; (iterate 4 exact rfl))
               | (apply P_index; (iterate 4 exact rfl); (focus (first | exact ⟨by decide, rfl⟩ | (refine ⟨by omega, ?_⟩; rw [Int.toNat_natCast]; assumption))); (iterate 2 exact rfl))
               | (apply P_indexbs; (iterate 3 exact rfl); (focus (first | exact ⟨by decide, rfl⟩ | (refine ⟨by omega, ?_⟩; rw [Int.toNat_natCast]; assumption))); (iterate 2 exact rfl))
               | (apply P_str; (iterate 3 exact rfl)) | (apply P_build; (iterate 7 exact rfl)) | (apply P_build0; (iterate 5 exact rfl)) | (apply P_lit; (iterate 9 exact rfl))
               | (apply P_s2a; (iterate 2 exact rfl); (focus (first | assumption | omega)); (iterate 3 exact rfl)) | (apply P_alloc; exact rfl; exact rfl; exact rfl; intro _)
               | (apply P_box; exact rfl; exact rfl; exact rfl; intro _) | (apply P_store; exact rfl; (focus (repeat first | exact .z | apply SetAt.s | apply SetAtF.s)); (iterate 4 exact rfl))
               | ((apply P_append; exact rfl; (focus (repeat first | exact .z | apply SetAt.s | apply SetAtF.s)); (iterate 5 exact rfl); (focus (constructor <;> (first | (simp; done) | (simp; omega))))); intro _)
               | apply EL.nil | ((with_reducible apply EK.then_normal); apply EK.code) | with_reducible apply EC.seq | with_reducible apply EC.region | (apply EC.cond_true; exact rfl)
               | (apply EC.cond_false; exact rfl) | with_reducible apply EC.skip | with_reducible apply EC.label | with_reducible apply EC.block | with_reducible apply EC.exit | with_reducible apply EC.ret
               | with_reducible apply EK.in_normal | with_reducible apply EK.in_same | ((with_reducible apply EK.in_other); exact rfl) | with_reducible apply EK.in_ret | with_reducible apply EK.then_ret
               | with_reducible apply EK.then_exit)
            refine EK.ret2r rfl rfl rfl ?_ rfl
            (repeat first | exact RefineL.refl _ _ | exact RL.nil | exact Rf.same | exact Rf.bs0 | exact Rf.sl0 | (apply Rf.fact; (focus (simp; done)); exact rfl) | apply Rf.tup | apply RL.cons)
          | some k =>
            cases eb : wordR (.mk bf bb bx) with
            | none =>
              rw [slotsD_none (hsl.trans (hno (by rw [ea, eb])))]
              simp only [ea, eb, Option.getD, Option.isSome] at ha hb
              clear ht hno
              repeat
                (first
                 | (apply P_skip; exact rfl)
                 | (apply P_call (ha); exact rfl; (focus (repeat first | exact RefineL.refl _ _ | exact RL.nil | exact Rf.same | exact Rf.bs0 | exact Rf.sl0 | (apply Rf.fact; (focus (simp; done)); exact rfl) | apply Rf.tup | apply RL.cons)); (focus (intro _ _; simp [go_sem]; done)); (iterate 2 exact rfl))
                 | (apply P_call (hb); exact rfl; (focus (repeat first | exact RefineL.refl _ _ | exact RL.nil | exact Rf.same | exact Rf.bs0 | exact Rf.sl0 | (apply Rf.fact; (focus (simp; done)); exact rfl) | apply Rf.tup | apply RL.cons)); (focus (intro _ _; simp [go_sem]; done)); (iterate 2 exact rfl))
                 | (apply P_move; (iterate 3 exact rfl)) | (apply P_assign; (iterate 3 exact rfl)) | (apply P_field; (iterate 6 exact rfl)) | (apply P_fieldpd; (iterate 7 exact rfl))
                 | (apply P_extract; (iterate 4 exact rfl)) | (apply P_loadpd; (iterate 5 exact rfl)) | (apply P_pick; (iterate 4 exact rfl)) | (apply P_not; (iterate 3 exact rfl))
                 | (apply P_load; exact rfl; (first | exact I0 | exact I1 | exact I2 | exact I3 | exact I4 | exact I5 | exact I6); (iterate 4 exact rfl))
                 | (apply P_cmp (b := true); (iterate 2 exact rfl); (focus (first | (simp [cmpI]; done) | (simp [cmpI]; omega))); (iterate 2 exact rfl))
                 | (apply P_cmp (b := false); (iterate 2 exact rfl); (focus (first | (simp [cmpI]; done) | (simp [cmpI]; omega))); (iterate 2 exact rfl)) | (apply P_cmp; (iterate 5 exact rfl))
                 | (apply P_ar; (iterate 3 exact rfl); (focus omega); (focus omega); (iterate 2 exact rfl)) | (apply P_lenbs; (iterate 4 exact rfl)) | (apply P_lensl; (iterate 4 exact rfl))
                 | (apply P_lenrow; exact rfl; (first | exact I0 | exact I1 | exact I2 | exact I3 | exact I4 | exact I5 | exact I6); (iterate 3 exact rfl)) | (apply P_lenv; (iterate 4 exact rfl))
                 | (apply P_index; (iterate 4 exact rfl); (focus (first | exact ⟨by decide, rfl⟩ | (refine ⟨by omega, ?_⟩; rw [Int.toNat_natCast]; assumption))); (iterate 2 exact rfl))
                 | (apply P_indexbs; (iterate 3 exact rfl); (focus (first | exact ⟨by decide, rfl⟩ | (refine ⟨by omega, ?_⟩; rw [Int.toNat_natCast]; assumption))); (iterate 2 exact rfl))
                 | (apply P_str; (iterate 3 exact rfl)) | (apply P_build; (iterate 7 exact rfl)) | (apply P_build0; (iterate 5 exact rfl)) | (apply P_lit; (iterate 9 exact rfl))
                 | (apply P_s2a; (iterate 2 exact rfl); (focus (first | assumption | omega)); (iterate 3 exact rfl)) | (apply P_alloc; exact rfl; exact rfl; exact rfl; intro _)
                 | (apply P_box; exact rfl; exact rfl; exact rfl; intro _) | (apply P_store; exact rfl; (focus (repeat first | exact .z | apply SetAt.s | apply SetAtF.s)); (iterate 4 exact rfl))
                 | ((apply P_append; exact rfl; (focus (repeat first | exact .z | apply SetAt.s | apply SetAtF.s)); (iterate 5 exact rfl); (focus (constructor <;> (first | (simp; done) | (simp; omega))))); intro _)
                 | apply EL.nil | ((with_reducible apply EK.then_normal); apply EK.code) | with_reducible apply EC.seq | with_reducible apply EC.region | (apply EC.cond_true; exact rfl)
                 | (apply EC.cond_false; exact rfl) | with_reducible apply EC.skip | with_reducible apply EC.label | with_reducible apply EC.block | with_reducible apply EC.exit | with_reducible apply EC.ret
                 | with_reducible apply EK.in_normal | with_reducible apply EK.in_same | ((with_reducible apply EK.in_other); exact rfl) | with_reducible apply EK.in_ret | with_reducible apply EK.then_ret
                 | with_reducible apply EK.then_exit)
              refine EK.ret2r rfl rfl rfl ?_ rfl
              (repeat first | exact RefineL.refl _ _ | exact RL.nil | exact Rf.same | exact Rf.bs0 | exact Rf.sl0 | (apply Rf.fact; (focus (simp; done)); exact rfl) | apply Rf.tup | apply RL.cons)
            | some v =>
              have ht := ht ⟨k, v⟩ (by rw [ea, eb])
              simp only [ea, eb, Option.getD, Option.isSome] at ha hb hwa hwb
              clear hno
              repeat
                (first
                 | (apply P_skip; exact rfl)
                 | (apply P_call (ha); exact rfl; (focus (repeat first | exact RefineL.refl _ _ | exact RL.nil | exact Rf.same | exact Rf.bs0 | exact Rf.sl0 | (apply Rf.fact; (focus (simp; done)); exact rfl) | apply Rf.tup | apply RL.cons)); (focus (intro _ _; simp [go_sem]; done)); (iterate 2 exact rfl))
                 | (apply P_call (hb); exact rfl; (focus (repeat first | exact RefineL.refl _ _ | exact RL.nil | exact Rf.same | exact Rf.bs0 | exact Rf.sl0 | (apply Rf.fact; (focus (simp; done)); exact rfl) | apply Rf.tup | apply RL.cons)); (focus (intro _ _; simp [go_sem]; done)); (iterate 2 exact rfl))
                 | (apply P_move; (iterate 3 exact rfl)) | (apply P_assign; (iterate 3 exact rfl)) | (apply P_field; (iterate 6 exact rfl)) | (apply P_fieldpd; (iterate 7 exact rfl))
                 | (apply P_extract; (iterate 4 exact rfl)) | (apply P_loadpd; (iterate 5 exact rfl)) | (apply P_pick; (iterate 4 exact rfl)) | (apply P_not; (iterate 3 exact rfl))
                 | (apply P_load; exact rfl; (first | exact I0 | exact I1 | exact I2 | exact I3 | exact I4 | exact I5 | exact I6); (iterate 4 exact rfl))
                 | (apply P_cmp (b := true); (iterate 2 exact rfl); (focus (first | (simp [cmpI]; done) | (simp [cmpI]; omega))); (iterate 2 exact rfl))
                 | (apply P_cmp (b := false); (iterate 2 exact rfl); (focus (first | (simp [cmpI]; done) | (simp [cmpI]; omega))); (iterate 2 exact rfl)) | (apply P_cmp; (iterate 5 exact rfl))
                 | (apply P_ar; (iterate 3 exact rfl); (focus omega); (focus omega); (iterate 2 exact rfl)) | (apply P_lenbs; (iterate 4 exact rfl)) | (apply P_lensl; (iterate 4 exact rfl))
                 | (apply P_lenrow; exact rfl; (first | exact I0 | exact I1 | exact I2 | exact I3 | exact I4 | exact I5 | exact I6); (iterate 3 exact rfl)) | (apply P_lenv; (iterate 4 exact rfl))
                 | (apply P_index; (iterate 4 exact rfl); (focus (first | exact ⟨by decide, rfl⟩ | (refine ⟨by omega, ?_⟩; rw [Int.toNat_natCast]; assumption))); (iterate 2 exact rfl))
                 | (apply P_indexbs; (iterate 3 exact rfl); (focus (first | exact ⟨by decide, rfl⟩ | (refine ⟨by omega, ?_⟩; rw [Int.toNat_natCast]; assumption))); (iterate 2 exact rfl))
                 | (apply P_str; (iterate 3 exact rfl)) | (apply P_build; (iterate 7 exact rfl)) | (apply P_build0; (iterate 5 exact rfl)) | (apply P_lit; (iterate 9 exact rfl))
                 | (apply P_s2a; (iterate 2 exact rfl); (focus (first | assumption | omega)); (iterate 3 exact rfl)) | (apply P_alloc; exact rfl; exact rfl; exact rfl; intro _)
                 | (apply P_box; exact rfl; exact rfl; exact rfl; intro _) | (apply P_store; exact rfl; (focus (repeat first | exact .z | apply SetAt.s | apply SetAtF.s)); (iterate 4 exact rfl))
                 | ((apply P_append; exact rfl; (focus (repeat first | exact .z | apply SetAt.s | apply SetAtF.s)); (iterate 5 exact rfl); (focus (constructor <;> (first | (simp; done) | (simp; omega))))); intro _)
                 | apply EL.nil | ((with_reducible apply EK.then_normal); apply EK.code) | with_reducible apply EC.seq | with_reducible apply EC.region | (apply EC.cond_true; exact rfl)
                 | (apply EC.cond_false; exact rfl) | with_reducible apply EC.skip | with_reducible apply EC.label | with_reducible apply EC.block | with_reducible apply EC.exit | with_reducible apply EC.ret
                 | with_reducible apply EK.in_normal | with_reducible apply EK.in_same | ((with_reducible apply EK.in_other); exact rfl) | with_reducible apply EK.in_ret | with_reducible apply EK.then_ret
                 | with_reducible apply EK.then_exit)
              rename_i sv'
              refine EK.again ⟨(sv', done ++ [⟨k, v⟩]), by simp; omega, by simpa using ht⟩ (by simp; omega) ?_
              simp only [List.length_append, List.length_cons, List.length_nil, List.map_append, List.map_cons, List.map_nil, Int.natCast_add]
              exact (Le.keep (by repeat first | exact trivial | refine ⟨rfl, ?_⟩) (by repeat first | exact List.nil_sublist _ | apply List.Sublist.cons_cons | apply List.Sublist.cons) (by simp))
        · rw [slotsD_none (hsl.trans (hno (slotR_len h2)))]
          repeat
            (first
             | (apply P_skip; exact rfl) | (apply P_move; (iterate 3 exact rfl)) | (apply P_assign; (iterate 3 exact rfl)) | (apply P_field; (iterate 6 exact rfl)) | (apply P_fieldpd; (iterate 7 exact rfl))
             | (apply P_extract; (iterate 4 exact rfl)) | (apply P_loadpd; (iterate 5 exact rfl)) | (apply P_pick; (iterate 4 exact rfl)) | (apply P_not; (iterate 3 exact rfl))
             | (apply P_load; exact rfl; (first | exact I0 | exact I1 | exact I2 | exact I3 | exact I4 | exact I5 | exact I6); (iterate 4 exact rfl))
             | (apply P_cmp (b := true); (iterate 2 exact rfl); (focus (first | (simp [cmpI]; done) | (simp [cmpI]; omega))); (iterate 2 exact rfl))
             | (apply P_cmp (b := false); (iterate 2 exact rfl); (focus (first | (simp [cmpI]; done) | (simp [cmpI]; omega))); (iterate 2 exact rfl)) | (apply P_cmp; (iterate 5 exact rfl))
             | (apply P_ar; (iterate 3 exact rfl); (focus omega); (focus omega); (iterate 2 exact rfl)) | (apply P_lenbs; (iterate 4 exact rfl)) | (apply P_lensl; (iterate 4 exact rfl))
             | (apply P_lenrow; exact rfl; (first | exact I0 | exact I1 | exact I2 | exact I3 | exact I4 | exact I5 | exact I6); (iterate 3 exact rfl)) | (apply P_lenv; (iterate 4 exact rfl))
             | (apply P_index; (iterate 4 exact rfl); (focus (first | exact ⟨by decide, rfl⟩ | (refine ⟨by omega, ?_⟩; rw [Int.toNat_natCast]; assumption))); (iterate 2 exact rfl))
             | (apply P_indexbs; (iterate 3 exact rfl); (focus (first | exact ⟨by decide, rfl⟩ | (refine ⟨by omega, ?_⟩; rw [Int.toNat_natCast]; assumption))); (iterate 2 exact rfl))
             | (apply P_str; (iterate 3 exact rfl)) | (apply P_build; (iterate 7 exact rfl)) | (apply P_build0; (iterate 5 exact rfl)) | (apply P_lit; (iterate 9 exact rfl))
             | (apply P_s2a; (iterate 2 exact rfl); (focus (first | assumption | omega)); (iterate 3 exact rfl)) | (apply P_alloc; exact rfl; exact rfl; exact rfl; intro _)
             | (apply P_box; exact rfl; exact rfl; exact rfl; intro _) | (apply P_store; exact rfl; (focus (repeat first | exact .z | apply SetAt.s | apply SetAtF.s)); (iterate 4 exact rfl))
             | ((apply P_append; exact rfl; (focus (repeat first | exact .z | apply SetAt.s | apply SetAtF.s)); (iterate 5 exact rfl); (focus (constructor <;> (first | (simp; done) | (simp; omega))))); intro _)
             | apply EL.nil | ((with_reducible apply EK.then_normal); apply EK.code) | with_reducible apply EC.seq | with_reducible apply EC.region | (apply EC.cond_true; exact rfl)
             | (apply EC.cond_false; exact rfl) | with_reducible apply EC.skip | with_reducible apply EC.label | with_reducible apply EC.block | with_reducible apply EC.exit | with_reducible apply EC.ret
             | with_reducible apply EK.in_normal | with_reducible apply EK.in_same | ((with_reducible apply EK.in_other); exact rfl) | with_reducible apply EK.in_ret | with_reducible apply EK.then_ret
             | with_reducible apply EK.then_exit)
          refine EK.ret2r rfl rfl rfl ?_ rfl
          (repeat first | exact RefineL.refl _ _ | exact RL.nil | exact Rf.same | exact Rf.bs0 | exact Rf.sl0 | (apply Rf.fact; (focus (simp; done)); exact rfl) | apply Rf.tup | apply RL.cons)
    · have e : allR slotR xs = some done := by rw [← hd, List.take_of_length_le (by omega)]
      rw [slotsD_some (hsl.trans e)]
      repeat
        (first
         | (apply P_skip; exact rfl) | (apply P_move; (iterate 3 exact rfl)) | (apply P_assign; (iterate 3 exact rfl)) | (apply P_field; (iterate 6 exact rfl)) | (apply P_fieldpd; (iterate 7 exact rfl))
         | (apply P_extract; (iterate 4 exact rfl)) | (apply P_loadpd; (iterate 5 exact rfl)) | (apply P_pick; (iterate 4 exact rfl)) | (apply P_not; (iterate 3 exact rfl))
         | (apply P_load; exact rfl; (first | exact I0 | exact I1 | exact I2 | exact I3 | exact I4 | exact I5 | exact I6); (iterate 4 exact rfl))
         | (apply P_cmp (b := true); (iterate 2 exact rfl); (focus (first | (simp [cmpI]; done) | (simp [cmpI]; omega))); (iterate 2 exact rfl))
         | (apply P_cmp (b := false); (iterate 2 exact rfl); (focus (first | (simp [cmpI]; done) | (simp [cmpI]; omega))); (iterate 2 exact rfl)) | (apply P_cmp; (iterate 5 exact rfl))
         | (apply P_ar; (iterate 3 exact rfl); (focus omega); (focus omega); (iterate 2 exact rfl)) | (apply P_lenbs; (iterate 4 exact rfl)) | (apply P_lensl; (iterate 4 exact rfl))
         | (apply P_lenrow; exact rfl; (first | exact I0 | exact I1 | exact I2 | exact I3 | exact I4 | exact I5 | exact I6); (iterate 3 exact rfl)) | (apply P_lenv; (iterate 4 exact rfl))
         | (apply P_index; (iterate 4 exact rfl); (focus (first | exact ⟨by decide, rfl⟩ | (refine ⟨by omega, ?_⟩; rw [Int.toNat_natCast]; assumption))); (iterate 2 exact rfl))
         | (apply P_indexbs; (iterate 3 exact rfl); (focus (first | exact ⟨by decide, rfl⟩ | (refine ⟨by omega, ?_⟩; rw [Int.toNat_natCast]; assumption))); (iterate 2 exact rfl))
         | (apply P_str; (iterate 3 exact rfl)) | (apply P_build; (iterate 7 exact rfl)) | (apply P_build0; (iterate 5 exact rfl)) | (apply P_lit; (iterate 9 exact rfl))
         | (apply P_s2a; (iterate 2 exact rfl); (focus (first | assumption | omega)); (iterate 3 exact rfl)) | (apply P_alloc; exact rfl; exact rfl; exact rfl; intro _)
         | (apply P_box; exact rfl; exact rfl; exact rfl; intro _) | (apply P_store; exact rfl; (focus (repeat first | exact .z | apply SetAt.s | apply SetAtF.s)); (iterate 4 exact rfl))
         | ((apply P_append; exact rfl; (focus (repeat first | exact .z | apply SetAt.s | apply SetAtF.s)); (iterate 5 exact rfl); (focus (constructor <;> (first | (simp; done) | (simp; omega))))); intro _)
         | apply EL.nil | ((with_reducible apply EK.then_normal); apply EK.code) | with_reducible apply EC.seq | with_reducible apply EC.region | (apply EC.cond_true; exact rfl)
         | (apply EC.cond_false; exact rfl) | with_reducible apply EC.skip | with_reducible apply EC.label | with_reducible apply EC.block | with_reducible apply EC.exit | with_reducible apply EC.ret
         | with_reducible apply EK.in_normal | with_reducible apply EK.in_same | ((with_reducible apply EK.in_other); exact rfl) | with_reducible apply EK.in_ret | with_reducible apply EK.then_ret
         | with_reducible apply EK.then_exit)
      refine EK.le (Le.freeze (pre := []) rfl) ?_
      refine EK.ret2r rfl rfl rfl ?_ rfl
      (repeat first | exact RefineL.refl _ _ | exact RL.nil | exact Rf.same | exact Rf.bs0 | exact Rf.sl0 | (apply Rf.fact; (focus (simp; done)); exact rfl) | apply Rf.tup | apply RL.cons)
end E
end Go.Proofs.Ytnaaonogihaahaa
