/-
 Merged (wip/tools/merge.py): PF8, PF9, RHa, PFA.
 Conditions: none.
-/
import Derived.Test.YtiledgojbpmoiaaGreatZR23
import Derived.Test.YtiledgojbpmoiaaGreatZR19
import Derived.Test.YtiledgojbpmoiaaGreatZR17
import Derived.Test.YtiledgojbpmoiaaGreatZR14
namespace Go.Proofs.YtiledgojbpmoiaaGreat
set_option linter.unusedVariables false
set_option maxRecDepth 20000
set_option maxHeartbeats 8000000
open Go.RowKit Mono Rlp
namespace E
section
variable {N : Nat} {X : Cx N} {S : St} {ops : Array Oper} {o : Oper} {Q : Exit → Act → World → Prop} {l : List Oper} {TT : St → List Fr → Prop} {EE : List Fr} {rs : List (Tmp × R)} {os : List Obj} {fs : List (Value × D)}
theorem I9 {x y : Operand} {T n e z k : Nat} {ds : List D} {d : D} (ho : o.op = .indexAddr T x y) (hx : ev S x = some (.val (.pd (.tup ds)))) (hy : ev S y = some (.val (.v (.int .u8 (k : Int))))) (hT : assoc arL T = some (n, e, z)) (hz : z = 1) (hs : ∀ d ∈ ds, d.size = 1 ∧ d.agg = false) (hn : ds.length = n) (hk : ds[k]? = some d) : Still ops S o (.val (.pd d)) := fun base ok a w ha => by
 subst hz
 have h1 := (bP rfl).1 (ha.ev hx (dA (by rw [ho]; simp [Op.operands])))
 rw [Reads] at h1
 obtain ⟨g, off, cs, e1, hg, hr, h2⟩ := h1
 rw [Reads] at h2
 have hx' : a.eval x = .pointer (some ⟨g, off, none⟩) := List.singleton_inj.1 e1
 have hy' := iP ha hy (dA (by rw [ho]; simp [Op.operands]))
 obtain ⟨hk', rfl⟩ := List.getElem?_eq_some_iff.1 hk
 have hcs : ∀ (ds : List D) (cs : List Value), (∀ d ∈ ds, d.size = 1 ∧ d.agg = false) → bK ok w ds cs → ∀ (i : Nat) (hi : i < ds.length), ∃ u, cs[i]? = some u ∧ Reads ok w ds[i] [u] := by
  intro ds
  induction ds with
  | nil =>
   intro cs _ h i hi
   exact absurd hi (Nat.not_lt_zero _)
  | cons d ds ih =>
   intro cs hd h
   rw [bK] at h
   obtain ⟨c1, c2, rfl, g1, g2⟩ := h
   obtain ⟨u, rfl⟩ : ∃ u, c1 = [u] := List.length_eq_one_iff.1 ((Reads.len _ _ g1).trans (hd d (by simp)).1)
   have i2 := ih c2 (fun d hd' => hd d (by simp [hd'])) g2
   intro i hi
   cases i with
   | zero => exact ⟨u, rfl, g1⟩
   | succ i => simpa using i2 i (by simpa using hi)
 obtain ⟨u, hu, hr2⟩ := hcs ds cs hs h2 k hk'
 have hA := NQ hT
 have h0 : (0 : Int) ≤ (k : Int) := by omega
 have hkn : k < n := by omega
 refine ⟨.pointer (some ⟨g, off + k * 1, none⟩), ?_, (bP rfl).2 ?_⟩
 ·
  unfold execOp
  simp [ho, hx', hy', Instr.indexAt, run_underlying hA.und, asIntOf, h0, jQ hA.size, eF, Instr.sureAddr, hkn]
 ·
  rw [Reads]
  refine ⟨g, off + k * 1, [u], rfl, hg, fun j v hv => ?_, hr2⟩
  cases j with
  | zero =>
   have : u = v := by simpa using hv
   subst this
   rw [Nat.mul_one, Nat.add_zero]
   exact hr k u hu
  | succ j => simp at hv
theorem Jr {t ty : Nat} {pos : String} {af : Array Edge} {gd : Option (Nat × Bool)} {x y : Operand} {T n e z k : Nat} {ds : List D} {d : D} (hx : ev (⟨rs, os, fs⟩ : St) x = some (.val (.pd (.tup ds)))) (hy : ev (⟨rs, os, fs⟩ : St) y = some (.val (.v (.int .u8 (k : Int))))) (hT : assoc arL T = some (n, e, z)) (hz : z = 1) (hs : ∀ d ∈ ds, d.size = 1 ∧ d.agg = false) (hn : ds.length = n) (hk : ds[k]? = some d) (hg : guardOf ops ⟨rs, os, fs⟩ ⟨some t, .indexAddr T x y, ty, pos, af, gd⟩ = some true) (hoff : fE N (some t) EE = true) (kk : EM N ops TT l ⟨(t, .val (.pd d)) :: rs, os, fs⟩ EE) : EM N ops TT (⟨some t, .indexAddr T x y, ty, pos, af, gd⟩ :: l) ⟨rs, os, fs⟩ EE := EH.still (I9 rfl hx hy hT hz hs hn hk) hg rfl hoff kk
end
theorem Qc (l m : List UInt8) : Fn 180 [.bs l, .bs m] (· = .val (.v (.bool (l.take m.length == m)))) := by
 have hE := zF (l.take m.length) m
 refine Fn.walk 18 Tryz.func180 rfl Tryz.ntmps180 (by simp) fun X => ?_
 by_cases h : m.length ≤ l.length
 ·
  have hc : dL .geq (l.length : Int) (m.length : Int) = some true := by
   simp only [dL, Option.some.injEq, decide_eq_true_eq]
   omega
  repeat
   (first
    | (apply aA (hE); rfl; exact aj.refl _ _; exact enA; iterate 2 rfl) | (apply aC (b := true); (iterate 2 rfl); exact hc; iterate 2 rfl)
    | (apply QM; (iterate 3 rfl); exact ⟨by omega, by rw [Int.toNat_natCast]; exact h⟩; iterate 2 rfl) | (apply au; iterate 3 rfl) | (apply ak; iterate 3 rfl)
    | (apply aT; iterate 4 rfl) | (apply aU; iterate 4 rfl) | apply EL.nil | ((with_reducible apply EK.ah); apply EK.code)
    | (with_reducible first | apply EC.seq | apply EC.region | apply EC.ret))
  exact EK.kC rfl rfl rfl
 ·
  have hc : dL .geq (l.length : Int) (m.length : Int) = some false := by
   simp only [dL, Option.some.injEq, decide_eq_false_iff_not]
   omega
  have hb : (l.take m.length == m) = false := beq_eq_false_iff_ne.2 fun e => by
   have := congrArg List.length e
   rw [List.length_take] at this
   omega
  rw [hb]
  repeat
   (first
    | (apply fF; iterate 2 rfl) | (apply aC (b := false); (iterate 2 rfl); exact hc; iterate 2 rfl) | (apply au; iterate 3 rfl)
    | (apply ak; iterate 3 rfl) | (apply aT; iterate 4 rfl) | (apply aU; iterate 4 rfl) | apply EL.nil | ((with_reducible apply EK.ah); apply EK.code)
    | (with_reducible first | apply EC.seq | apply EC.region | apply EC.ret))
  exact EK.kC rfl rfl rfl
theorem Qd (l m : List UInt8) : Fn 136 [.bs l, .bs m] (· = .tpl [.bs (if m = l.take m.length then l.drop m.length else l), .v (.bool (l.take m.length == m))]) := by
 have hP := Qc l m
 refine FnM.toFn ?_
 by_cases h : m = l.take m.length
 ·
  have hb : (l.take m.length == m) = true := by rw [← h]; exact beq_self_eq_true m
  have hle : m.length ≤ l.length := by
   have := congrArg List.length h
   rw [List.length_take] at this
   omega
  rw [if_pos h]
  rw [hb] at hP ⊢
  refine FnM.walk 15 Tryz.func136 rfl Tryz.ntmps136 (by simp) fun X => ?_
  repeat
   (first
    | (apply aA (hP); rfl; exact aj.refl _ _; exact enA; iterate 2 rfl)
    | (apply qL; (iterate 3 rfl); exact ⟨by omega, by rw [Int.toNat_natCast]; exact hle⟩; iterate 2 rfl) | (apply au; iterate 3 rfl) | (apply ak; iterate 3 rfl)
    | (apply dP; iterate 3 rfl) | (apply aU; iterate 4 rfl) | apply EL.nil | ((with_reducible apply EK.ah); apply EK.code) | (apply EC.cond_false; rfl)
    | (with_reducible first | apply EC.seq | apply EC.region | apply EC.skip | apply EC.ret))
  exact EK.bT [] rfl rfl rfl (RL.cons Rf.same (RL.cons Rf.same RL.nil)) (List.nil_sublist _) ⟨rfl, rfl⟩
 ·
  have hb : (l.take m.length == m) = false := beq_eq_false_iff_ne.2 fun e => h e.symm
  rw [if_neg h]
  rw [hb] at hP ⊢
  refine FnM.walk 15 Tryz.func136 rfl Tryz.ntmps136 (by simp) fun X => ?_
  repeat
   (first
    | (apply aA (hP); rfl; exact aj.refl _ _; exact enA; iterate 2 rfl) | (apply au; iterate 3 rfl) | (apply ak; iterate 3 rfl)
    | (apply dP; iterate 3 rfl) | apply EL.nil | ((with_reducible apply EK.ah); apply EK.code) | (apply EC.cond_true; rfl)
    | (with_reducible first | apply EC.seq | apply EC.region | apply EC.ret | apply EK.aH))
  exact EK.bT [] rfl rfl rfl (RL.cons Rf.same (RL.cons Rf.same RL.nil)) (List.nil_sublist _) ⟨rfl, rfl⟩
def stepD (r : Nd × List UInt8 × List UInt8) : R := .tpl [dN r.1, .bs r.2.1, .bs r.2.2]
theorem x9 (k : Nd) : (dN k).sub 0 1 false = some (dN k) := by
 cases k <;> (rw [dN]; simp [D.sub])
theorem Lm (p : List UInt8) (k : Nd) : (D.tup [.bs p, dN k]).sub 1 1 false = some (dN k) := by
 have := x9 k
 simp [D.sub, D.yc, D.size, (lZ k).1, this]
theorem Lp (p : List UInt8) (k : Nd) : (D.tup [.bs p, dN k]).sub 0 1 false = some (.bs p) := by
 simp [D.sub, D.yc, D.size]
theorem vO (t : Nd) (p : List UInt8) (hp : ∀ c ∈ p, c.toNat < 16) : Fn 89 [dN t, .bs p] (· = stepD (gB t p)) := by
 refine FnM.toFn ?_
 unfold stepD
 cases t with
 | nil =>
  rw [show gB .nil p = (.nil, [], []) by cases p <;> rfl, dN]
  refine FnM.walk 64 Tryz.func89 rfl Tryz.ntmps89 (by simp) fun X => ?_
  repeat
   (first
    | (apply au; iterate 3 rfl) | (apply ak; iterate 3 rfl) | (apply aF; iterate 4 rfl) | (apply KP; iterate 5 rfl) | apply EL.nil
    | ((with_reducible apply EK.ah); apply EK.code) | (apply EC.cond_false; rfl)
    | (with_reducible first | apply EC.seq | apply EC.region | apply EC.skip | apply EC.block | apply EC.ret | apply EK.aI))
  exact EK.iK [] rfl rfl rfl rfl RL.a RL.a RL.a (List.nil_sublist _) ⟨rfl, rfl⟩
 | hash w =>
  rw [show gB (.hash w) p = (.nil, [], []) by cases p <;> rfl, dN]
  refine FnM.walk 64 Tryz.func89 rfl Tryz.ntmps89 (by simp) fun X => ?_
  repeat
   (first
    | (apply au; iterate 3 rfl) | (apply ak; iterate 3 rfl) | (apply aF; iterate 4 rfl) | (apply iC; iterate 6 rfl) | apply EL.nil
    | ((with_reducible apply EK.ah); apply EK.code) | (apply EC.cond_false; rfl)
    | (with_reducible first | apply EC.seq | apply EC.region | apply EC.skip | apply EC.block | apply EC.ret | apply EK.aI))
  exact EK.iK [] rfl rfl rfl rfl RL.a RL.a RL.a (List.nil_sublist _) ⟨rfl, rfl⟩
 | leaf q v =>
  have hE := zF q p
  rw [kG, dN]
  refine FnM.walk 64 Tryz.func89 rfl Tryz.ntmps89 (by simp) fun X => ?_
  by_cases h : q = p
  ·
   rw [if_pos h]
   rw [show (q == p) = true by simp [h]] at hE
   repeat
    (first
     | (apply aA (hE); rfl; exact aj.refl _ _; exact enA; iterate 2 rfl) | (apply au; iterate 3 rfl) | (apply ak; iterate 3 rfl)
     | (apply bf; iterate 7 rfl) | (apply aF; iterate 4 rfl) | (apply aK; iterate 5 rfl) | (apply kN; iterate 3 rfl)
     | (apply eX; iterate 4 rfl) | apply EL.nil | ((with_reducible apply EK.ah); apply EK.code) | (apply EC.cond_true; rfl)
     | (with_reducible first | apply EC.seq | apply EC.region | apply EC.block))
   refine EC.draw 6 (by kernel_rfl) ?_
   simp only [List.take_succ_cons, List.take_zero, List.drop_succ_cons, List.drop_zero]
   repeat
    (first
     | (apply aY; iterate 3 rfl) | (apply gy; iterate 3 rfl) | (apply dn; iterate 7 rfl) | (apply bM; iterate 5 rfl)
     | (apply oh; iterate 3 rfl) | ((with_reducible apply EH.nil); rfl))
   repeat
    (first
     | (apply ak; iterate 3 rfl) | apply EL.nil | ((with_reducible apply EK.ah); apply EK.code) | (with_reducible first | apply EC.ret | apply EK.dV | apply EK.aH))
   exact EK.iK [] rfl rfl rfl rfl RL.a RL.a RL.a (List.nil_sublist _) ⟨rfl, rfl⟩
  ·
   rw [if_neg h]
   rw [show (q == p) = false by simp [h]] at hE
   repeat
    (first
     | (apply aA (hE); rfl; exact aj.refl _ _; exact enA; iterate 2 rfl) | (apply au; iterate 3 rfl) | (apply ak; iterate 3 rfl)
     | (apply bf; iterate 7 rfl) | (apply aF; iterate 4 rfl) | (apply aK; iterate 5 rfl) | (apply kN; iterate 3 rfl)
     | (apply eX; iterate 4 rfl) | apply EL.nil | ((with_reducible apply EK.ah); apply EK.code) | (apply EC.cond_true; rfl) | (apply EC.cond_false; rfl)
     | (with_reducible first | apply EC.seq | apply EC.region | apply EC.skip | apply EC.block | apply EC.ret | apply EK.aI))
   exact EK.iK [] rfl rfl rfl rfl RL.a RL.a RL.a (List.nil_sublist _) ⟨rfl, rfl⟩
 | ext q k =>
  have hC := Qd p q
  have s0 := Lp q k
  have s1 := Lm q k
  have s2 := x9 k
  rw [nD, dN]
  by_cases h : q = p.take q.length
  ·
   rw [if_pos h] at hC ⊢
   rw [show (p.take q.length == q) = true by rw [← h]; exact beq_self_eq_true q] at hC
   dsimp only
   generalize dN k = dk at *
   refine FnM.walk 64 Tryz.func89 rfl Tryz.ntmps89 (by simp) fun X => ?_
   repeat
    (first
     | (apply aA (hC); rfl; exact aj.refl _ _; exact enA; iterate 2 rfl) | (apply bf; (iterate 4 rfl); (first | exact s0 | exact s1); iterate 2 rfl)
     | (apply aK; (iterate 2 rfl); exact s2; iterate 2 rfl) | (apply au; iterate 3 rfl) | (apply ak; iterate 3 rfl) | (apply aF; iterate 4 rfl)
     | (apply aK; iterate 5 rfl) | (apply kN; iterate 3 rfl) | (apply eX; iterate 4 rfl) | (apply iC; iterate 6 rfl) | apply EL.nil
     | ((with_reducible apply EK.ah); apply EK.code) | (apply EC.cond_true; rfl) | (apply EC.cond_false; rfl)
     | (with_reducible first | apply EC.seq | apply EC.region | apply EC.block | apply EC.ret | apply EK.dV | apply EK.aH))
   exact EK.iK [] rfl rfl rfl rfl RL.a RL.a RL.a (List.nil_sublist _) ⟨rfl, rfl⟩
  ·
   rw [if_neg h] at hC ⊢
   rw [show (p.take q.length == q) = false from beq_eq_false_iff_ne.2 fun e => h e.symm] at hC
   rw [dN]
   generalize dN k = dk at *
   refine FnM.walk 64 Tryz.func89 rfl Tryz.ntmps89 (by simp) fun X => ?_
   repeat
    (first
     | (apply aA (hC); rfl; exact aj.refl _ _; exact enA; iterate 2 rfl) | (apply bf; (iterate 4 rfl); (first | exact s0 | exact s1); iterate 2 rfl)
     | (apply au; iterate 3 rfl) | (apply ak; iterate 3 rfl) | (apply aF; iterate 4 rfl) | (apply aK; iterate 5 rfl)
     | (apply kN; iterate 3 rfl) | (apply eX; iterate 4 rfl) | (apply iC; iterate 6 rfl) | apply EL.nil | ((with_reducible apply EK.ah); apply EK.code)
     | (apply EC.cond_true; rfl) | (apply EC.cond_false; rfl) | (with_reducible first | apply EC.seq | apply EC.region | apply EC.skip | apply EC.block | apply EC.ret | apply EK.aI))
   exact EK.iK [] rfl rfl rfl rfl RL.a RL.a RL.a (List.nil_sublist _) ⟨rfl, rfl⟩
 | br ks v =>
  have hK : (∀ e ∈ (List.range 16).map (fun i => dN (ks i)), ∃ s : Nd, e = dN s) ∧ ((List.range 16).map fun i => dN (ks i)).length = 16 := ⟨fun e he => by
   obtain ⟨i, _, rfl⟩ := List.mem_map.1 he
   exact ⟨_, rfl⟩, by simp⟩
  have hsz := (CO hK.1).trans hK.2
  have h0 := Jw v hsz
  have h1 := Jv v hsz
  have hall : ∀ d ∈ (List.range 16).map (fun i => dN (ks i)), d.size = 1 ∧ d.agg = false := fun d hd => by
   obtain ⟨s, rfl⟩ := hK.1 d hd
   exact lZ s
  rw [dN]
  cases p with
  | nil =>
   rw [show gB (.br ks v) [] = (.nil, [], v) from rfl]
   generalize (List.range 16).map (fun i => dN (ks i)) = K at *
   refine FnM.walk 64 Tryz.func89 rfl Tryz.ntmps89 (by simp) fun X => ?_
   repeat
    (first
     | (apply au; iterate 3 rfl) | (apply ak; iterate 3 rfl) | (apply aF; iterate 4 rfl)
     | (apply aC (b := true); (iterate 2 rfl); exact aO; iterate 2 rfl) | (apply aU; iterate 4 rfl) | (apply eX; iterate 4 rfl)
     | (apply iC; iterate 6 rfl) | apply EL.nil | ((with_reducible apply EK.ah); apply EK.code) | (apply EC.cond_true; rfl) | (apply EC.cond_false; rfl)
     | (with_reducible first | apply EC.seq | apply EC.region | apply EC.block))
   refine EC.draw 6 (by kernel_rfl) ?_
   simp only [List.take_succ_cons, List.take_zero, List.drop_succ_cons, List.drop_zero]
   repeat
    (first
     | (apply dn; (iterate 4 rfl); (first | exact h0 | exact h1); iterate 2 rfl) | (apply aY; iterate 3 rfl) | (apply gy; iterate 3 rfl)
     | (apply bM; iterate 5 rfl) | (apply oh; iterate 3 rfl) | ((with_reducible apply EH.nil); rfl))
   repeat
    (first
     | (apply ak; iterate 3 rfl) | apply EL.nil | ((with_reducible apply EK.ah); apply EK.code) | (with_reducible first | apply EC.ret | apply EK.dV | apply EK.aH))
   exact EK.iK [] rfl rfl rfl rfl RL.a RL.a RL.a (List.nil_sublist _) ⟨rfl, rfl⟩
  | cons c r =>
   have hc := hp c List.mem_cons_self
   have hat : ((List.range 16).map (fun i => dN (ks i)))[c.toNat]? = some (dN (ks c.toNat)) := by rw [List.getElem?_map, List.getElem?_range hc]; rfl
   have s2 := x9 (ks c.toNat)
   rw [Ee]
   dsimp only
   have hl1 : (c :: r).length = r.length + 1 := rfl
   generalize dN (ks c.toNat) = dk at *
   generalize (List.range 16).map (fun i => dN (ks i)) = K at *
   refine FnM.walk 64 Tryz.func89 rfl Tryz.ntmps89 (by simp) fun X => ?_
   have hcz : dL .eql ((c :: r).length : Int) 0 = some false := by
    simp only [dL, Option.some.injEq, beq_eq_false_iff_ne]
    omega
   repeat
    (first
     | (apply aC (b := false); (iterate 2 rfl); exact hcz; iterate 2 rfl) | (apply au; iterate 3 rfl) | (apply ak; iterate 3 rfl)
     | (apply aF; iterate 4 rfl) | (apply aU; iterate 4 rfl) | (apply eX; iterate 4 rfl) | (apply iC; iterate 6 rfl) | apply EL.nil
     | ((with_reducible apply EK.ah); apply EK.code) | (apply EC.cond_true; rfl) | (apply EC.cond_false; rfl)
     | (with_reducible first | apply EC.seq | apply EC.region | apply EC.skip | apply EC.block))
   refine EC.draw 11 (by kernel_rfl) ?_
   simp only [List.take_succ_cons, List.take_zero, List.drop_succ_cons, List.drop_zero]
   repeat
    (first
     | (apply dn; (iterate 4 rfl); (first | exact h0 | exact h1); iterate 2 rfl) | (apply Jr; (iterate 4 rfl); exact hall; exact hK.2; exact hat; iterate 2 rfl)
     | (apply bM; (iterate 2 rfl); exact s2; iterate 2 rfl) | (apply ou; (iterate 3 rfl); exact ⟨by decide, by rw [hl1]; show 1 ≤ _; omega⟩; iterate 2 rfl)
     | (apply aY; iterate 3 rfl) | (apply gy; iterate 3 rfl) | (apply bM; iterate 5 rfl)
     | (apply NV; (iterate 3 rfl); (focus (first | exact ⟨by decide, rfl⟩ | (refine ⟨by omega, ?_⟩; rw [Int.toNat_natCast]; assumption))); iterate 2 rfl)
     | (apply oh; iterate 3 rfl) | ((with_reducible apply EH.nil); rfl))
   repeat
    (first
     | (apply ak; iterate 3 rfl) | apply EL.nil | ((with_reducible apply EK.ah); apply EK.code) | (with_reducible first | apply EC.ret | apply EK.dV | apply EK.aH))
   exact EK.iK [] rfl rfl rfl rfl RL.a RL.a RL.a (List.nil_sublist _) ⟨rfl, rfl⟩


def Rt (r : List UInt8 × Nat) : R := .tpl [.bs r.1, .v (.bool (decide (0 < r.1.length))), .v (.int .i64 (r.2 : Int))]
theorem Nh {f : Nat} {root : List UInt8} (h : root.length = 32) : KT f (.mk false root []) := by
 refine ⟨⟨by rw [norm], fun m => by rw [dO]; omega, by rw [dep, Aj]; omega, ?_⟩, .inr ⟨rfl, h⟩⟩
 rw [Rlp.E, oC]
 unfold szE szB
 simp only [most]
 split
 · omega
 ·
  split
  · omega
  · omega
end E
end Go.Proofs.YtiledgojbpmoiaaGreat
