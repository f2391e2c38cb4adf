/-
 Merged (wip/tools/merge.py): PF9, RHa.
 Conditions: none.
-/
import Derived.Test.YtiledgojbpmoiaaZC25
import Derived.Test.YtiledgojbpmoiaaZC16
import Derived.Test.YtiledgojbpmoiaaZC13
/-
 munimentsref6.down.
 Conditions: none.
-/
namespace Go.Proofs.Ytiledgojbpmoiaa
set_option linter.unusedVariables false
open Go.RowKit Mono Rlp
namespace E
theorem EK.retMc4 {N : Nat} {X : Cx N} {S : St} {fn : Func} {Φ : R → List Obj → Prop} {p u q s : Tmp} {g ty : Nat} {t : TypeId} {d d' e e' k k' m m' : D} (i : Nat) (os' : List Obj) (hres : fn.results = #[.cell p ty, .tmp u, .tmp q, .tmp s]) (hl : look S.regs p = some (.val (.v (.pointer (some ⟨g, 0, none⟩))))) (hi : S.objs[i]? = some (.var g t d)) (hT : assoc tyL ty = some (d.size, d.agg)) (hu : look S.regs u = some (.val e)) (hq : look S.regs q = some (.val k)) (hs : look S.regs s = some (.val m)) (hR : RefineL S.facts [d] [d']) (hR2 : RefineL S.facts [e] [e']) (hR3 : RefineL S.facts [k] [k']) (hR4 : RefineL S.facts [m] [m']) (ho : os'.Sublist S.objs) (hΦ : Φ (.tpl [d', e', k', m']) os') : EK X (bodyPost Try.prog fn (OutM X Φ) .ret) S := by
 constructor
 intro a w ha
 obtain ⟨x, h1, h2⟩ := run_cell ha.mem hi (tyI hT)
 have hp := (readV_v.1 (ha.regs p _ hl)).2
 have hp' : a.tmps[p]?.getD undef = .pointer (some ⟨g, 0, none⟩) := by simpa using hp
 have h3 : ReadR (X.ok S.objs w) w (.tpl [d', e', k', m']) (.tuple #[x, a.tmps.getD u undef, a.tmps.getD q undef, a.tmps.getD s undef]) := ⟨[x, a.tmps.getD u undef, a.tmps.getD q undef, a.tmps.getD s undef], rfl, _, _, rfl, Refine1.readV ha.mem.fact hR h2, _, _, rfl, Refine1.readV ha.mem.fact hR2 (ha.regs u _ hu), _, _, rfl, Refine1.readV ha.mem.fact hR3 (ha.regs q _ hq), _, _, rfl, Refine1.readV ha.mem.fact hR4 (ha.regs s _ hs), rfl⟩
 refine bodyPost_ret (v := .tuple #[x, a.tmps.getD u undef, a.tmps.getD q undef, a.tmps.getD s undef]) ?_ ha.defers ⟨_, _, os', rfl, hΦ, ha.mem.less ho (fun f hf => by cases hf), h3.mono (fun b hb => ok_less ho hb) fun _ _ => rfl⟩
 simp [results, hres, hp', asAddr, h1]
section
variable {N : Nat} {X : Cx N} {S : St} {ops : Array Oper} {o : Oper} {Q : Exit → Act → World → Prop} {l : List Oper} {TT : St → List Fr → Prop} {EE : List Fr} {rs : List (Tmp × R)} {os : List Obj} {fs : List (Value × D)}
theorem g_index8 {x y : Operand} {T e z b k : Nat} {ds : List D} {d : D} (ho : o.op = .indexAddr T x y) (hx : ev S x = some (.val (.sl z ds))) (hy : ev S y = some (.val (.v (.int .u8 (k : Int))))) (hT : assoc slL T = some (e, z, b)) (hz : Nat.blt 0 z = true) (hk : ds[k]? = some d) : Still ops S o (.val (.pd d)) := fun base ok a w ha => by
 obtain ⟨A, c, rows, h1, h2, h3, h4, h5, h6⟩ := sl_ex (ha.ev hx fun t e => looks_of e (by rw [ho]; simp [Op.operands]))
 have hy' := ev_v ha hy fun t e => looks_of e (by rw [ho]; simp [Op.operands])
 obtain ⟨hk', rfl⟩ := List.getElem?_eq_some_iff.1 hk
 have hz' : 0 < z := by simpa using hz
 have hT := slI hT
 obtain ⟨b, n, r, rfl, hb, hrg, hrd⟩ := rows_at h5 h6 hz' _ hk'
 refine ⟨.pointer (some ⟨b, n + k * z, none⟩), ?_, (readV_one rfl).2 (by rw [Reads]; exact ⟨b, _, r, rfl, hb, hrg, hrd⟩)⟩
 have h0 : (0 : Int) ≤ (k : Int) := by omega
 have hlt : (k : Int) < (ds.length : Int) := by omega
 unfold execOp
 simp [ho, h1, hy', Instr.indexAt, run_underlying hT.und, asIntOf, h0, run_size hT.size, add_none, hk']
theorem H_index8 {t ty : Nat} {pos : String} {af : Array Edge} {gd : Option (Nat × Bool)} {x y : Operand} {T e z b k : Nat} {ds : List D} {d : D} (hx : ev (⟨rs, os, fs⟩ : St) x = some (.val (.sl z ds))) (hy : ev (⟨rs, os, fs⟩ : St) y = some (.val (.v (.int .u8 (k : Int))))) (hT : assoc slL T = some (e, z, b)) (hz : Nat.blt 0 z = true) (hk : ds[k]? = some d) (hg : guardOf ops ⟨rs, os, fs⟩ ⟨some t, .indexAddr T x y, ty, pos, af, gd⟩ = some true) (hoff : offB N (some t) EE = true) (kk : EM N ops TT l ⟨(t, .val (.pd d)) :: rs, os, fs⟩ EE) : EM N ops TT (⟨some t, .indexAddr T x y, ty, pos, af, gd⟩ :: l) ⟨rs, os, fs⟩ EE := EH.still (g_index8 rfl hx hy hT hz hk) hg rfl hoff kk
end
def downD (r : Raw × List UInt8 × List UInt8 × Bool) : R := .tpl [dItem r.1, .bs r.2.1, .bs r.2.2.1, .v (.bool r.2.2.2)]
theorem dwn_two0 (b : List UInt8) (a y : Raw) (p : List UInt8) : dwn (.mk true b [a, y]) p = match rdP (bts a) with
  | some (q, true) => if p = q then (rawE, [], bts y, false) else (rawE, [], [], false)
  | some (q, false) => if common p q < q.length then (rawE, [], [], false) else (y, p.drop q.length, [], true)
  | none => if common p [] < ([] : List UInt8).length then (rawE, [], [], false) else (y, p.drop 0, [], true) := by
 unfold dwn
 exact if_neg (show ¬ 2 = 17 by decide)
theorem dwn_end0 (b : List UInt8) (xs : List Raw) (h : xs.length = 17) : dwn (.mk true b xs) [] = (rawE, [], bts (xs.getD 16 rawE), false) := by
 unfold dwn
 exact if_pos h
theorem dwn_on0 (b : List UInt8) (xs : List Raw) (h : xs.length = 17) (c : UInt8) (r : List UInt8) : dwn (.mk true b xs) (c :: r) = if !isL (xs.getD c.toNat rawE) && decide ((bts (xs.getD c.toNat rawE)).length = 0) then (rawE, [], [], false) else (xs.getD c.toNat rawE, r, [], true) := by
 unfold dwn
 exact if_pos h
set_option maxRecDepth 20000 in
set_option maxHeartbeats 16000000 in
theorem f_down {f : Nat} {x : Raw} (hx : Gd x) (hn : isN f x = true) (p : List UInt8) (hp : ∀ c ∈ p, c.toNat < 16) : Fn 22 [dItem x, .bs p] (· = downD (dwn x p)) := by
 have hz : dItem rawE = .tup [.v (.bool false), .bs [], .sl 3 []] := rfl
 refine FnM.toFn ?_
 unfold downD
 match f, x with
 | 0, x => cases hn
 | _ + 1, .mk false _ _ => cases hn
 | f + 1, .mk true b xs =>
  rw [isN] at hn
  by_cases h17 : xs.length = 17
  ·
   have hml : (dItems xs).length = 17 := by rw [dItems_map, List.length_map, h17]
   have hat : ∀ k, (hk : k < xs.length) → (dItems xs)[k]? = some (dItem xs[k]) := fun k hk => by rw [dItems_map, List.getElem?_map, List.getElem?_eq_getElem hk]; rfl
   have h16 := hat 16 (by omega)
   cases p with
   | nil =>
    rw [dwn_end0 b xs h17, getD_mem (show 16 < xs.length by omega), hz]
    generalize xs[16]'(by omega) = y at h16 ⊢
    obtain ⟨yl, yb, yx⟩ := y
    rw [show bts (.mk yl yb yx) = yb from rfl]
    rw [dItem] at h16 ⊢
    clear hat
    generalize dItems xs = Ds at *
    refine FnM.walk 83 Try.func22 rfl Try.ntmps22 (by simp) fun X => ?_
    repeat
     (first
      | (apply P_move; iterate 3 rfl) | (apply P_assign; iterate 3 rfl) | (apply P_field; iterate 6 rfl)
      | (apply P_load; rfl; (first | exact I0 | exact I1 | exact I2 | exact I3 | exact I4 | exact I5 | exact I6); iterate 4 rfl)
      | (apply P_cmp (b := true); (iterate 2 rfl); (focus (first | (simp [cmpI]; done) | (simp [cmpI]; omega))); iterate 2 rfl) | (apply P_lenbs; iterate 4 rfl)
      | (apply P_lensl; iterate 4 rfl) | (apply P_alloc; rfl; rfl; rfl; intro _) | (apply P_box; rfl; rfl; rfl; intro _) | apply EL.nil
      | ((with_reducible apply EK.then_normal); apply EK.code) | (apply EC.cond_true; rfl) | (with_reducible first | apply EC.seq | apply EC.region))
    refine EC.drawC 8 [0, 1, 2, 3, 4, 5, 7] [6] [_] _ (by kernel_rfl) (by kernel_rfl) rfl ?_
    simp only [pickL, List.filterMap_cons, List.filterMap_nil, List.getElem?_cons_zero, List.getElem?_cons_succ]
    repeat
     (first
      | (apply H_index (d := .tup [.v (.bool yl), .bs yb, .sl 3 (dItems yx)]); (iterate 4 rfl); exact ⟨by decide, h16⟩; iterate 2 rfl) | (apply H_assign; iterate 3 rfl)
      | (apply H_field; iterate 6 rfl) | (apply H_fieldpd; iterate 7 rfl) | (apply H_loadpd; iterate 5 rfl)
      | (apply H_load; rfl; (first | exact I0 | exact I1 | exact I2 | exact I3 | exact I4 | exact I5 | exact I6); iterate 4 rfl) | (apply H_build; iterate 7 rfl))
    refine EM.nil ?_
    repeat (first | rw [List.cons_append] | rw [List.nil_append])
    refine CH.mut (os := [_]) (rest := []) rfl rfl (m_put (put_store rfl rfl rfl rfl rfl)) ?_
    rintro _ _ ⟨rfl, rfl⟩
    try simp only [St.put]
    repeat (first | rw [List.cons_append] | rw [List.nil_append])
    refine CH.nil ?_
    try simp only [List.drop_succ_cons, List.drop_zero]
    repeat
     (first
      | (apply P_assign; iterate 3 rfl) | apply EL.nil | ((with_reducible apply EK.then_normal); apply EK.code) | (with_reducible first | apply EC.ret | apply EK.then_ret))
    exact EK.retMc4 0 [] rfl rfl rfl rfl rfl rfl rfl (by (repeat first | exact RefineL.refl _ _ | exact RL.nil | exact Rf.same | exact Rf.bs0 | exact Rf.sl0 | (apply Rf.fact; (focus (simp; done)); rfl) | apply Rf.tup | apply RL.cons)) (by (repeat first | exact RefineL.refl _ _ | exact RL.nil | exact Rf.same | exact Rf.bs0 | exact Rf.sl0 | (apply Rf.fact; (focus (simp; done)); rfl) | apply Rf.tup | apply RL.cons)) (by (repeat first | exact RefineL.refl _ _ | exact RL.nil | exact Rf.same | exact Rf.bs0 | exact Rf.sl0 | (apply Rf.fact; (focus (simp; done)); rfl) | apply Rf.tup | apply RL.cons)) (by (repeat first | exact RefineL.refl _ _ | exact RL.nil | exact Rf.same | exact Rf.bs0 | exact Rf.sl0 | (apply Rf.fact; (focus (simp; done)); rfl) | apply Rf.tup | apply RL.cons)) (List.nil_sublist _) ⟨rfl, rfl⟩
   | cons c r =>
    have hc := hp c List.mem_cons_self
    have hcx : c.toNat < xs.length := by omega
    have hd := hat c.toNat hcx
    have hl1 : (c :: r).length = r.length + 1 := rfl
    rw [dwn_on0 b xs h17, getD_mem hcx]
    generalize xs[c.toNat]'hcx = y at hd ⊢
    obtain ⟨yl, yb, yx⟩ := y
    rw [show isL (.mk yl yb yx) = yl from rfl, show bts (.mk yl yb yx) = yb from rfl]
    rw [dItem] at hd
    clear hat h16
    rw [dItem]
    generalize dItems xs = Ds at *
    have hcz : cmpI .eql ((c :: r).length : Int) 0 = some false := by
     simp only [cmpI, Option.some.injEq, beq_eq_false_iff_ne]
     omega
    refine FnM.walk 83 Try.func22 rfl Try.ntmps22 (by simp) fun X => ?_
    repeat
     (first
      | (apply P_cmp (b := false); (iterate 2 rfl); exact hcz; iterate 2 rfl) | (apply P_move; iterate 3 rfl) | (apply P_assign; iterate 3 rfl)
      | (apply P_field; iterate 6 rfl) | (apply P_load; rfl; (first | exact I0 | exact I1 | exact I2 | exact I3 | exact I4 | exact I5 | exact I6); iterate 4 rfl)
      | (apply P_cmp (b := true); (iterate 2 rfl); (focus (first | (simp [cmpI]; done) | (simp [cmpI]; omega))); iterate 2 rfl) | (apply P_lenbs; iterate 4 rfl)
      | (apply P_lensl; iterate 4 rfl) | (apply P_alloc; rfl; rfl; rfl; intro _) | (apply P_box; rfl; rfl; rfl; intro _) | apply EL.nil
      | ((with_reducible apply EK.then_normal); apply EK.code) | (apply EC.cond_true; rfl) | (apply EC.cond_false; rfl) | (with_reducible first | apply EC.seq | apply EC.region | apply EC.skip))
    refine EC.draw 8 (by kernel_rfl) ?_
    simp only [List.take_succ_cons, List.take_zero, List.drop_succ_cons, List.drop_zero]
    repeat
     (first
      | (apply H_index8 (d := .tup [.v (.bool yl), .bs yb, .sl 3 (dItems yx)]); (iterate 4 rfl); exact hd; iterate 2 rfl) | (apply H_move; iterate 3 rfl)
      | (apply H_field; iterate 6 rfl) | (apply H_loadpd; iterate 5 rfl)
      | (apply H_load; rfl; (first | exact I0 | exact I1 | exact I2 | exact I3 | exact I4 | exact I5 | exact I6); iterate 4 rfl)
      | (apply H_indexbs; (iterate 3 rfl); (focus (first | exact ⟨by decide, rfl⟩ | (refine ⟨by omega, ?_⟩; rw [Int.toNat_natCast]; assumption))); iterate 2 rfl)
      | (apply H_alloc; iterate 3 rfl) | ((with_reducible apply EH.nil1); rfl; intro _))
    cases yl with
    | true =>
     rw [Bool.not_true, Bool.false_and, if_neg Bool.false_ne_true, dItem]
     repeat
      (first
       | (apply P_skip; iterate 2 rfl) | (apply P_move; iterate 3 rfl) | (apply P_field; iterate 6 rfl) | (apply P_pick; iterate 4 rfl) | (apply P_not; iterate 3 rfl)
       | (apply P_load; rfl; (first | exact I0 | exact I1 | exact I2 | exact I3 | exact I4 | exact I5 | exact I6); iterate 4 rfl)
       | (apply P_store; rfl; (focus (repeat first | exact .z | apply SetAt.s | apply SetAtF.s)); iterate 4 rfl) | apply EL.nil | ((with_reducible apply EK.then_normal); apply EK.code)
       | (apply EC.cond_false; rfl) | (with_reducible first | apply EC.seq | apply EC.region | apply EC.skip))
     refine EC.le (Le.pick [1, 0, 2] [_, _, _] rfl (by decide) rfl) ?_
     refine EC.drawC 4 [0, 1, 2] [3] [_] _ (by kernel_rfl) (by kernel_rfl) rfl ?_
     simp only [pickL, List.filterMap_cons, List.filterMap_nil, List.getElem?_cons_zero, List.getElem?_cons_succ]
     repeat
      (first
       | (apply H_bsfrom; (iterate 3 rfl); exact ⟨by decide, by rw [hl1]; show 1 ≤ _; omega⟩; iterate 2 rfl) | (apply H_move; iterate 3 rfl)
       | (apply H_load; rfl; (first | exact I0 | exact I1 | exact I2 | exact I3 | exact I4 | exact I5 | exact I6); iterate 4 rfl))
     refine EM.nil ?_
     repeat (first | rw [List.cons_append] | rw [List.nil_append])
     refine CH.mut (os := [_]) (rest := []) rfl rfl (m_put (put_store rfl rfl rfl rfl rfl)) ?_
     rintro _ _ ⟨rfl, rfl⟩
     try simp only [St.put]
     repeat (first | rw [List.cons_append] | rw [List.nil_append])
     refine CH.nil ?_
     try simp only [List.drop_succ_cons, List.drop_zero]
     repeat
      (first
       | (apply P_assign; iterate 3 rfl) | apply EL.nil | ((with_reducible apply EK.then_normal); apply EK.code) | (with_reducible first | apply EC.ret | apply EK.then_ret))
     exact EK.retMc4 0 [] rfl rfl rfl rfl rfl rfl rfl (by (repeat first | exact RefineL.refl _ _ | exact RL.nil | exact Rf.same | exact Rf.bs0 | exact Rf.sl0 | (apply Rf.fact; (focus (simp; done)); rfl) | apply Rf.tup | apply RL.cons)) (by (repeat first | exact RefineL.refl _ _ | exact RL.nil | exact Rf.same | exact Rf.bs0 | exact Rf.sl0 | (apply Rf.fact; (focus (simp; done)); rfl) | apply Rf.tup | apply RL.cons)) (by (repeat first | exact RefineL.refl _ _ | exact RL.nil | exact Rf.same | exact Rf.bs0 | exact Rf.sl0 | (apply Rf.fact; (focus (simp; done)); rfl) | apply Rf.tup | apply RL.cons)) (by (repeat first | exact RefineL.refl _ _ | exact RL.nil | exact Rf.same | exact Rf.bs0 | exact Rf.sl0 | (apply Rf.fact; (focus (simp; done)); rfl) | apply Rf.tup | apply RL.cons)) (List.nil_sublist _) ⟨rfl, rfl⟩
    | false =>
     rw [Bool.not_false, Bool.true_and]
     by_cases h0 : yb.length = 0
     ·
      have hc0 : cmpI .eql (yb.length : Int) 0 = some true := by rw [h0]; rfl
      rw [decide_eq_true h0, if_pos rfl, hz]
      repeat
       (first
        | (apply P_cmp (b := true); (iterate 2 rfl); exact hc0; iterate 2 rfl) | (apply P_move; iterate 3 rfl) | (apply P_assign; iterate 3 rfl)
        | (apply P_field; iterate 6 rfl) | (apply P_pick; iterate 4 rfl) | (apply P_not; iterate 3 rfl)
        | (apply P_load; rfl; (first | exact I0 | exact I1 | exact I2 | exact I3 | exact I4 | exact I5 | exact I6); iterate 4 rfl) | (apply P_lenbs; iterate 4 rfl)
        | (apply P_build; iterate 7 rfl) | (apply P_store; rfl; (focus (repeat first | exact .z | apply SetAt.s | apply SetAtF.s)); iterate 4 rfl) | apply EL.nil
        | ((with_reducible apply EK.then_normal); apply EK.code) | (apply EC.cond_true; rfl) | (with_reducible first | apply EC.seq | apply EC.region | apply EC.ret | apply EK.then_ret))
      exact EK.retMc4 1 [] rfl rfl rfl rfl rfl rfl rfl (by (repeat first | exact RefineL.refl _ _ | exact RL.nil | exact Rf.same | exact Rf.bs0 | exact Rf.sl0 | (apply Rf.fact; (focus (simp; done)); rfl) | apply Rf.tup | apply RL.cons)) (by (repeat first | exact RefineL.refl _ _ | exact RL.nil | exact Rf.same | exact Rf.bs0 | exact Rf.sl0 | (apply Rf.fact; (focus (simp; done)); rfl) | apply Rf.tup | apply RL.cons)) (by (repeat first | exact RefineL.refl _ _ | exact RL.nil | exact Rf.same | exact Rf.bs0 | exact Rf.sl0 | (apply Rf.fact; (focus (simp; done)); rfl) | apply Rf.tup | apply RL.cons)) (by (repeat first | exact RefineL.refl _ _ | exact RL.nil | exact Rf.same | exact Rf.bs0 | exact Rf.sl0 | (apply Rf.fact; (focus (simp; done)); rfl) | apply Rf.tup | apply RL.cons)) (List.nil_sublist _) ⟨rfl, rfl⟩
     ·
      have hc0 : cmpI .eql (yb.length : Int) 0 = some false := by
       simp only [cmpI, Option.some.injEq, beq_eq_false_iff_ne]
       omega
      rw [decide_eq_false h0, if_neg Bool.false_ne_true, dItem]
      repeat
       (first
        | (apply P_cmp (b := false); (iterate 2 rfl); exact hc0; iterate 2 rfl) | (apply P_move; iterate 3 rfl) | (apply P_field; iterate 6 rfl)
        | (apply P_pick; iterate 4 rfl) | (apply P_not; iterate 3 rfl)
        | (apply P_load; rfl; (first | exact I0 | exact I1 | exact I2 | exact I3 | exact I4 | exact I5 | exact I6); iterate 4 rfl) | (apply P_lenbs; iterate 4 rfl)
        | (apply P_store; rfl; (focus (repeat first | exact .z | apply SetAt.s | apply SetAtF.s)); iterate 4 rfl) | apply EL.nil | ((with_reducible apply EK.then_normal); apply EK.code)
        | (apply EC.cond_false; rfl) | (with_reducible first | apply EC.seq | apply EC.region | apply EC.skip))
      refine EC.le (Le.pick [1, 0, 2] [_, _, _] rfl (by decide) rfl) ?_
      refine EC.drawC 4 [0, 1, 2] [3] [_] _ (by kernel_rfl) (by kernel_rfl) rfl ?_
      simp only [pickL, List.filterMap_cons, List.filterMap_nil, List.getElem?_cons_zero, List.getElem?_cons_succ]
      repeat
       (first
        | (apply H_bsfrom; (iterate 3 rfl); exact ⟨by decide, by rw [hl1]; show 1 ≤ _; omega⟩; iterate 2 rfl) | (apply H_move; iterate 3 rfl)
        | (apply H_load; rfl; (first | exact I0 | exact I1 | exact I2 | exact I3 | exact I4 | exact I5 | exact I6); iterate 4 rfl))
      refine EM.nil ?_
      repeat (first | rw [List.cons_append] | rw [List.nil_append])
      refine CH.mut (os := [_]) (rest := []) rfl rfl (m_put (put_store rfl rfl rfl rfl rfl)) ?_
      rintro _ _ ⟨rfl, rfl⟩
      try simp only [St.put]
      repeat (first | rw [List.cons_append] | rw [List.nil_append])
      refine CH.nil ?_
      try simp only [List.drop_succ_cons, List.drop_zero]
      repeat
       (first
        | (apply P_assign; iterate 3 rfl) | apply EL.nil | ((with_reducible apply EK.then_normal); apply EK.code) | (with_reducible first | apply EC.ret | apply EK.then_ret))
      exact EK.retMc4 0 [] rfl rfl rfl rfl rfl rfl rfl (by (repeat first | exact RefineL.refl _ _ | exact RL.nil | exact Rf.same | exact Rf.bs0 | exact Rf.sl0 | (apply Rf.fact; (focus (simp; done)); rfl) | apply Rf.tup | apply RL.cons)) (by (repeat first | exact RefineL.refl _ _ | exact RL.nil | exact Rf.same | exact Rf.bs0 | exact Rf.sl0 | (apply Rf.fact; (focus (simp; done)); rfl) | apply Rf.tup | apply RL.cons)) (by (repeat first | exact RefineL.refl _ _ | exact RL.nil | exact Rf.same | exact Rf.bs0 | exact Rf.sl0 | (apply Rf.fact; (focus (simp; done)); rfl) | apply Rf.tup | apply RL.cons)) (by (repeat first | exact RefineL.refl _ _ | exact RL.nil | exact Rf.same | exact Rf.bs0 | exact Rf.sl0 | (apply Rf.fact; (focus (simp; done)); rfl) | apply Rf.tup | apply RL.cons)) (List.nil_sublist _) ⟨rfl, rfl⟩
  ·
   rw [if_neg h17] at hn
   by_cases h2 : xs.length = 2
   ·
    match xs, h2 with
    | [a, y], _ =>
     have hga := hx.kid (y := a) List.mem_cons_self
     have ha0 : (bts a).length ≤ 536870912 := by
      obtain ⟨xl, xb, xx⟩ := a
      show xb.length ≤ _
      cases xl with
      | false =>
       have h1 := hga.len
       rw [Rlp.E] at h1
       have := EB_ge xb
       simp only [most] at h1
       omega
      | true =>
       have h1 := hga.nrm
       rw [norm] at h1
       injection h1 with _ h1 _
       rw [← h1]
       exact Nat.zero_le _
     have hP := f_rReadPath (bts a) ha0
     rw [if_pos (show [a, y].length = 2 from rfl)] at hn
     clear hga hx h17
     rw [show [a, y].getD 0 rawE = a from rfl, show [a, y].getD 1 rawE = y from rfl] at hn
     unfold prB at hn
     have hn := (Bool.and_eq_true_iff.1 hn).2
     rw [dwn_two0]
     unfold rpD at hP
     obtain ⟨xl, xb, xx⟩ := a
     obtain ⟨yl, yb, yx⟩ := y
     rw [show bts (.mk xl xb xx) = xb from rfl] at hP hn ⊢
     rw [show bts (.mk yl yb yx) = yb from rfl] at hn ⊢
     cases hr : rdP xb with
     | none =>
      rw [hr] at hn
      cases hn
     | some ql =>
      obtain ⟨q, lf⟩ := ql
      rw [hr] at hP
      dsimp only at hP ⊢
      clear hn hr
      rw [dItem, dItems, dItem, dItems, dItem, dItems]
      cases lf with
      | true =>
       have hB := (bin_string p q).1
       refine FnM.walk 83 Try.func22 rfl Try.ntmps22 (by simp) fun X => ?_
       dsimp only
       by_cases hq : p = q
       ·
        rw [if_pos hq, hz]
        rw [show (p == q) = true by simp [hq]] at hB
        repeat
         (first
          | (apply P_call (hP); rfl; exact RefineL.refl _ _; (focus (intro _ _; simp [go_sem]; done)); iterate 2 rfl) | (apply P_bin; (iterate 2 rfl); exact hB; iterate 2 rfl)
          | (apply P_move; iterate 3 rfl) | (apply P_assign; iterate 3 rfl) | (apply P_field; iterate 6 rfl) | (apply P_fieldpd; iterate 7 rfl)
          | (apply P_extract; iterate 4 rfl) | (apply P_loadpd; iterate 5 rfl)
          | (apply P_load; rfl; (first | exact I0 | exact I1 | exact I2 | exact I3 | exact I4 | exact I5 | exact I6); iterate 4 rfl)
          | (apply P_cmp (b := false); (iterate 2 rfl); (focus (first | (simp [cmpI]; done) | (simp [cmpI]; omega))); iterate 2 rfl) | (apply P_lensl; iterate 4 rfl)
          | (apply P_index; (iterate 4 rfl); (focus (first | exact ⟨by decide, rfl⟩ | (refine ⟨by omega, ?_⟩; rw [Int.toNat_natCast]; assumption))); iterate 2 rfl)
          | (apply P_str; iterate 3 rfl) | (apply P_alloc; rfl; rfl; rfl; intro _) | (apply P_box; rfl; rfl; rfl; intro _) | apply EL.nil
          | ((with_reducible apply EK.then_normal); apply EK.code) | (apply EC.cond_true; rfl) | (apply EC.cond_false; rfl) | (with_reducible first | apply EC.seq | apply EC.region | apply EC.skip))
        refine EC.drawC 8 [0, 1, 2, 3, 4, 5, 7] [6] [_] _ (by kernel_rfl) (by kernel_rfl) rfl ?_
        simp only [pickL, List.filterMap_cons, List.filterMap_nil, List.getElem?_cons_zero, List.getElem?_cons_succ]
        repeat
         (first
          | (apply H_assign; iterate 3 rfl) | (apply H_field; iterate 6 rfl) | (apply H_fieldpd; iterate 7 rfl) | (apply H_loadpd; iterate 5 rfl)
          | (apply H_load; rfl; (first | exact I0 | exact I1 | exact I2 | exact I3 | exact I4 | exact I5 | exact I6); iterate 4 rfl)
          | (apply H_index; (iterate 4 rfl); (focus (first | exact ⟨by decide, rfl⟩ | (refine ⟨by omega, ?_⟩; rw [Int.toNat_natCast]; assumption))); iterate 2 rfl)
          | (apply H_build; iterate 7 rfl))
        refine EM.nil ?_
        repeat (first | rw [List.cons_append] | rw [List.nil_append])
        refine CH.mut (os := [_]) (rest := []) rfl rfl (m_put (put_store rfl rfl rfl rfl rfl)) ?_
        rintro _ _ ⟨rfl, rfl⟩
        try simp only [St.put]
        repeat (first | rw [List.cons_append] | rw [List.nil_append])
        refine CH.nil ?_
        try simp only [List.drop_succ_cons, List.drop_zero]
        repeat
         (first
          | (apply P_assign; iterate 3 rfl) | apply EL.nil | ((with_reducible apply EK.then_normal); apply EK.code) | (with_reducible first | apply EC.ret | apply EK.then_ret))
        exact EK.retMc4 0 [] rfl rfl rfl rfl rfl rfl rfl (by (repeat first | exact RefineL.refl _ _ | exact RL.nil | exact Rf.same | exact Rf.bs0 | exact Rf.sl0 | (apply Rf.fact; (focus (simp; done)); rfl) | apply Rf.tup | apply RL.cons)) (by (repeat first | exact RefineL.refl _ _ | exact RL.nil | exact Rf.same | exact Rf.bs0 | exact Rf.sl0 | (apply Rf.fact; (focus (simp; done)); rfl) | apply Rf.tup | apply RL.cons)) (by (repeat first | exact RefineL.refl _ _ | exact RL.nil | exact Rf.same | exact Rf.bs0 | exact Rf.sl0 | (apply Rf.fact; (focus (simp; done)); rfl) | apply Rf.tup | apply RL.cons)) (by (repeat first | exact RefineL.refl _ _ | exact RL.nil | exact Rf.same | exact Rf.bs0 | exact Rf.sl0 | (apply Rf.fact; (focus (simp; done)); rfl) | apply Rf.tup | apply RL.cons)) (List.nil_sublist _) ⟨rfl, rfl⟩
       ·
        rw [if_neg hq, hz]
        rw [show (p == q) = false by simp [hq]] at hB
        repeat
         (first
          | (apply P_call (hP); rfl; exact RefineL.refl _ _; (focus (intro _ _; simp [go_sem]; done)); iterate 2 rfl) | (apply P_bin; (iterate 2 rfl); exact hB; iterate 2 rfl)
          | (apply P_move; iterate 3 rfl) | (apply P_assign; iterate 3 rfl) | (apply P_field; iterate 6 rfl) | (apply P_fieldpd; iterate 7 rfl)
          | (apply P_extract; iterate 4 rfl) | (apply P_loadpd; iterate 5 rfl)
          | (apply P_load; rfl; (first | exact I0 | exact I1 | exact I2 | exact I3 | exact I4 | exact I5 | exact I6); iterate 4 rfl)
          | (apply P_cmp (b := false); (iterate 2 rfl); (focus (first | (simp [cmpI]; done) | (simp [cmpI]; omega))); iterate 2 rfl) | (apply P_lensl; iterate 4 rfl)
          | (apply P_index; (iterate 4 rfl); (focus (first | exact ⟨by decide, rfl⟩ | (refine ⟨by omega, ?_⟩; rw [Int.toNat_natCast]; assumption))); iterate 2 rfl)
          | (apply P_str; iterate 3 rfl) | (apply P_build; iterate 7 rfl) | (apply P_alloc; rfl; rfl; rfl; intro _) | (apply P_box; rfl; rfl; rfl; intro _)
          | (apply P_store; rfl; (focus (repeat first | exact .z | apply SetAt.s | apply SetAtF.s)); iterate 4 rfl) | apply EL.nil | ((with_reducible apply EK.then_normal); apply EK.code)
          | (apply EC.cond_true; rfl) | (apply EC.cond_false; rfl) | (with_reducible first | apply EC.seq | apply EC.region | apply EC.skip | apply EC.ret | apply EK.then_ret))
        exact EK.retMc4 0 [] rfl rfl rfl rfl rfl rfl rfl (by (repeat first | exact RefineL.refl _ _ | exact RL.nil | exact Rf.same | exact Rf.bs0 | exact Rf.sl0 | (apply Rf.fact; (focus (simp; done)); rfl) | apply Rf.tup | apply RL.cons)) (by (repeat first | exact RefineL.refl _ _ | exact RL.nil | exact Rf.same | exact Rf.bs0 | exact Rf.sl0 | (apply Rf.fact; (focus (simp; done)); rfl) | apply Rf.tup | apply RL.cons)) (by (repeat first | exact RefineL.refl _ _ | exact RL.nil | exact Rf.same | exact Rf.bs0 | exact Rf.sl0 | (apply Rf.fact; (focus (simp; done)); rfl) | apply Rf.tup | apply RL.cons)) (by (repeat first | exact RefineL.refl _ _ | exact RL.nil | exact Rf.same | exact Rf.bs0 | exact Rf.sl0 | (apply Rf.fact; (focus (simp; done)); rfl) | apply Rf.tup | apply RL.cons)) (List.nil_sublist _) ⟨rfl, rfl⟩
      | false =>
       have hC := f_rCommon p q
       obtain ⟨_, hcl, hcr⟩ := common_take p q
       refine FnM.walk 83 Try.func22 rfl Try.ntmps22 (by simp) fun X => ?_
       dsimp only
       by_cases hc : common p q < q.length
       ·
        rw [if_pos hc, hz]
        repeat
         (first
          | (apply P_call (hP); rfl; exact RefineL.refl _ _; (focus (intro _ _; simp [go_sem]; done)); iterate 2 rfl)
          | (apply P_call (hC); rfl; exact RefineL.refl _ _; (focus (intro _ _; simp [go_sem]; done)); iterate 2 rfl) | (apply P_move; iterate 3 rfl)
          | (apply P_assign; iterate 3 rfl) | (apply P_field; iterate 6 rfl) | (apply P_fieldpd; iterate 7 rfl) | (apply P_extract; iterate 4 rfl)
          | (apply P_loadpd; iterate 5 rfl) | (apply P_load; rfl; (first | exact I0 | exact I1 | exact I2 | exact I3 | exact I4 | exact I5 | exact I6); iterate 4 rfl)
          | (apply P_cmp (b := true); (iterate 2 rfl); (focus (first | (simp [cmpI]; done) | (simp [cmpI]; omega))); iterate 2 rfl)
          | (apply P_cmp (b := false); (iterate 2 rfl); (focus (first | (simp [cmpI]; done) | (simp [cmpI]; omega))); iterate 2 rfl) | (apply P_lenbs; iterate 4 rfl)
          | (apply P_lensl; iterate 4 rfl)
          | (apply P_index; (iterate 4 rfl); (focus (first | exact ⟨by decide, rfl⟩ | (refine ⟨by omega, ?_⟩; rw [Int.toNat_natCast]; assumption))); iterate 2 rfl)
          | (apply P_build; iterate 7 rfl) | (apply P_alloc; rfl; rfl; rfl; intro _) | (apply P_box; rfl; rfl; rfl; intro _)
          | (apply P_store; rfl; (focus (repeat first | exact .z | apply SetAt.s | apply SetAtF.s)); iterate 4 rfl) | apply EL.nil | ((with_reducible apply EK.then_normal); apply EK.code)
          | (apply EC.cond_true; rfl) | (apply EC.cond_false; rfl) | (with_reducible first | apply EC.seq | apply EC.region | apply EC.skip | apply EC.ret | apply EK.then_ret))
        exact EK.retMc4 0 [] rfl rfl rfl rfl rfl rfl rfl (by (repeat first | exact RefineL.refl _ _ | exact RL.nil | exact Rf.same | exact Rf.bs0 | exact Rf.sl0 | (apply Rf.fact; (focus (simp; done)); rfl) | apply Rf.tup | apply RL.cons)) (by (repeat first | exact RefineL.refl _ _ | exact RL.nil | exact Rf.same | exact Rf.bs0 | exact Rf.sl0 | (apply Rf.fact; (focus (simp; done)); rfl) | apply Rf.tup | apply RL.cons)) (by (repeat first | exact RefineL.refl _ _ | exact RL.nil | exact Rf.same | exact Rf.bs0 | exact Rf.sl0 | (apply Rf.fact; (focus (simp; done)); rfl) | apply Rf.tup | apply RL.cons)) (by (repeat first | exact RefineL.refl _ _ | exact RL.nil | exact Rf.same | exact Rf.bs0 | exact Rf.sl0 | (apply Rf.fact; (focus (simp; done)); rfl) | apply Rf.tup | apply RL.cons)) (List.nil_sublist _) ⟨rfl, rfl⟩
       ·
        rw [if_neg hc, dItem]
        repeat
         (first
          | (apply P_call (hP); rfl; exact RefineL.refl _ _; (focus (intro _ _; simp [go_sem]; done)); iterate 2 rfl)
          | (apply P_call (hC); rfl; exact RefineL.refl _ _; (focus (intro _ _; simp [go_sem]; done)); iterate 2 rfl) | (apply P_move; iterate 3 rfl)
          | (apply P_assign; iterate 3 rfl) | (apply P_field; iterate 6 rfl) | (apply P_fieldpd; iterate 7 rfl) | (apply P_extract; iterate 4 rfl)
          | (apply P_loadpd; iterate 5 rfl) | (apply P_load; rfl; (first | exact I0 | exact I1 | exact I2 | exact I3 | exact I4 | exact I5 | exact I6); iterate 4 rfl)
          | (apply P_cmp (b := false); (iterate 2 rfl); (focus (first | (simp [cmpI]; done) | (simp [cmpI]; omega))); iterate 2 rfl) | (apply P_lenbs; iterate 4 rfl)
          | (apply P_lensl; iterate 4 rfl)
          | (apply P_index; (iterate 4 rfl); (focus (first | exact ⟨by decide, rfl⟩ | (refine ⟨by omega, ?_⟩; rw [Int.toNat_natCast]; assumption))); iterate 2 rfl)
          | (apply P_alloc; rfl; rfl; rfl; intro _) | (apply P_box; rfl; rfl; rfl; intro _) | apply EL.nil | ((with_reducible apply EK.then_normal); apply EK.code)
          | (apply EC.cond_false; rfl) | (with_reducible first | apply EC.seq | apply EC.region | apply EC.skip))
        refine EC.drawC 9 [0, 1, 2, 3, 4, 5, 6, 7] [8] [_] _ (by kernel_rfl) (by kernel_rfl) rfl ?_
        simp only [pickL, List.filterMap_cons, List.filterMap_nil, List.getElem?_cons_zero, List.getElem?_cons_succ]
        repeat
         (first
          | (apply H_bsfrom; (iterate 3 rfl); exact ⟨by omega, by rw [Int.toNat_natCast]; omega⟩; iterate 2 rfl) | (apply H_move; iterate 3 rfl) | (apply H_field; iterate 6 rfl)
          | (apply H_loadpd; iterate 5 rfl) | (apply H_load; rfl; (first | exact I0 | exact I1 | exact I2 | exact I3 | exact I4 | exact I5 | exact I6); iterate 4 rfl)
          | (apply H_lenbs; iterate 4 rfl)
          | (apply H_index; (iterate 4 rfl); (focus (first | exact ⟨by decide, rfl⟩ | (refine ⟨by omega, ?_⟩; rw [Int.toNat_natCast]; assumption))); iterate 2 rfl))
        refine EM.nil ?_
        repeat (first | rw [List.cons_append] | rw [List.nil_append])
        refine CH.mut (os := [_]) (rest := []) rfl rfl (m_put (put_store rfl rfl rfl rfl rfl)) ?_
        rintro _ _ ⟨rfl, rfl⟩
        try simp only [St.put]
        repeat (first | rw [List.cons_append] | rw [List.nil_append])
        refine CH.nil ?_
        try simp only [List.drop_succ_cons, List.drop_zero]
        repeat
         (first
          | (apply P_assign; iterate 3 rfl) | apply EL.nil | ((with_reducible apply EK.then_normal); apply EK.code) | (with_reducible apply EC.ret))
        exact EK.retMc4 0 [] rfl rfl rfl rfl rfl rfl rfl (by (repeat first | exact RefineL.refl _ _ | exact RL.nil | exact Rf.same | exact Rf.bs0 | exact Rf.sl0 | (apply Rf.fact; (focus (simp; done)); rfl) | apply Rf.tup | apply RL.cons)) (by (repeat first | exact RefineL.refl _ _ | exact RL.nil | exact Rf.same | exact Rf.bs0 | exact Rf.sl0 | (apply Rf.fact; (focus (simp; done)); rfl) | apply Rf.tup | apply RL.cons)) (by (repeat first | exact RefineL.refl _ _ | exact RL.nil | exact Rf.same | exact Rf.bs0 | exact Rf.sl0 | (apply Rf.fact; (focus (simp; done)); rfl) | apply Rf.tup | apply RL.cons)) (by (repeat first | exact RefineL.refl _ _ | exact RL.nil | exact Rf.same | exact Rf.bs0 | exact Rf.sl0 | (apply Rf.fact; (focus (simp; done)); rfl) | apply Rf.tup | apply RL.cons)) (List.nil_sublist _) ⟨rfl, rfl⟩
   ·
    rw [if_neg h2] at hn
    cases hn
end E
end Go.Proofs.Ytiledgojbpmoiaa
/-
 The reference's hash.
 Conditions: none.
-/
namespace Go.Proofs.Ytiledgojbpmoiaa
set_option linter.unusedVariables false
open Go.RowKit Mono Rlp
namespace E
set_option maxRecDepth 20000 in
theorem f_rHash (l : List UInt8) (hl : l.length ≤ 1099511627776) : Fn 19 [.bs l] (· = .val (.bs (hash l))) := by
 have hK := f_Keccak l hl
 refine Fn.walk 7 Try.func19 rfl Try.ntmps19 (by simp) fun X => ?_
 repeat
  (first
   | (apply P_call (hK); rfl; exact RefineL.refl _ _; (focus (intro _ _; simp [go_sem]; done)); iterate 2 rfl) | (apply P_move; iterate 3 rfl)
   | (apply P_assign; iterate 3 rfl) | (apply P_alloc; rfl; rfl; rfl; intro _)
   | (apply P_store; rfl; (focus (repeat first | exact .z | apply SetAt.s | apply SetAtF.s)); iterate 4 rfl) | apply EL.nil | ((with_reducible apply EK.then_normal); apply EK.code)
   | (with_reducible first | apply EC.seq | apply EC.region))
 refine EL.le (Le.pin (p := 3) (pre := []) rfl rfl) ?_
 simp only [List.nil_append]
 repeat
  (first
   | (apply P_slpd sl_word; iterate 6 rfl) | (apply P_assign; iterate 3 rfl) | apply EL.nil | ((with_reducible apply EK.then_normal); apply EK.code) | (with_reducible apply EC.ret))
 exact EK.ret1 rfl rfl rfl
end E
end Go.Proofs.Ytiledgojbpmoiaa
