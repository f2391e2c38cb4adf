/-
 Merged: lemmas of this claim.
 Conditions: none.
-/
import Derived.Test.YtelbhdobjdnglaaGreatZT26
import Derived.Test.YtelbhdobjdnglaaGreatZT18
import Derived.Test.YtelbhdobjdnglaaGreatZT22
import Derived.Test.YtelbhdobjdnglaaGreatZT14
import Derived.Test.YtelbhdobjdnglaaGreatZT0
namespace Go.Proofs.YtelbhdobjdnglaaGreat
set_option linter.unusedVariables false
set_option maxRecDepth 20000
set_option maxHeartbeats 16000000
open Go.RowKit Mono Rlp
namespace E
section
variable {N : Nat} {X : Cx N} {S : St} {ops : Array Oper} {o : Oper} {Q : Exit → Act → World → Prop} {l : List Oper} {TT : St → List Fr → Prop} {EE : List Fr} {rs : List (Tmp × R)} {os : List Obj} {fs : List (Value × D)}
theorem IX {x y : Operand} {T n e z k : Nat} {ds : List D} {d : D} (ho : o.op = .indexAddr T x y) (hx : ev S x = some (.val (.pd (.tup ds)))) (hy : ev S y = some (.val (.v (.int .u8 (k : Int))))) (hT : assoc arL T = some (n, e, z)) (hz : z = 1) (hs : ∀ d ∈ ds, d.size = 1 ∧ d.agg = false) (hn : ds.length = n) (hk : ds[k]? = some d) : Still ops S o (.val (.pd d)) := fun base ok a w ha => by
 subst hz
 have h1 := (bM rfl).1 (ha.ev hx (dG (by rw [ho]; simp [Op.operands])))
 rw [Reads] at h1
 obtain ⟨g, off, cs, e1, hg, hr, h2⟩ := h1
 rw [Reads] at h2
 have hx' : a.eval x = .pointer (some ⟨g, off, none⟩) := Zn.1 e1
 have hy' := iT ha hy (dG (by rw [ho]; simp [Op.operands]))
 obtain ⟨hk', rfl⟩ := XC.1 hk
 have hcs : ∀ (ds : List D) (cs : List Value), (∀ d ∈ ds, d.size = 1 ∧ d.agg = false) → bU ok w ds cs → ∀ (i : Nat) (hi : i < ds.length), ∃ u, cs[i]? = some u ∧ Reads ok w ds[i] [u] := by
  intro ds
  induction ds with
  | nil =>
   intro cs _ h i hi
   exact absurd hi (Yc _)
  | cons d ds ih =>
   intro cs hd h
   rw [bU] at h
   obtain ⟨c1, c2, rfl, g1, g2⟩ := h
   obtain ⟨u, rfl⟩ : ∃ u, c1 = [u] := Yv.1 ((Reads.len _ _ g1).trans (hd d (by simp)).1)
   have i2 := ih c2 (fun d hd' => hd d (by simp [hd'])) g2
   intro i hi
   cases i with
   | zero => exact ⟨u, rfl, g1⟩
   | succ i => simpa using i2 i (by simpa using hi)
 obtain ⟨u, hu, hr2⟩ := hcs ds cs hs h2 k hk'
 have hA := QE hT
 have h0 : (0 : Int) ≤ (k : Int) := by omega
 have hkn : k < n := by omega
 refine ⟨.pointer (some ⟨g, off + k * 1, none⟩), ?_, (bM rfl).2 ?_⟩
 ·
  unfold execOp
  simp [ho, hx', hy', Instr.indexAt, run_underlying hA.und, asIntOf, h0, jZ hA.size, eu, Instr.sureAddr, hkn]
 ·
  rw [Reads]
  refine ⟨g, off + k * 1, [u], rfl, hg, fun j v hv => ?_, hr2⟩
  cases j with
  | zero =>
   have : u = v := by simpa using hv
   subst this
   rw [ZG, Yk]
   exact hr k u hu
  | succ j => simp at hv
theorem Jo {t ty : Nat} {pos : String} {af : Array Edge} {gd : Option (Nat × Bool)} {x y : Operand} {T n e z k : Nat} {ds : List D} {d : D} (hx : ev (⟨rs, os, fs⟩ : St) x = some (.val (.pd (.tup ds)))) (hy : ev (⟨rs, os, fs⟩ : St) y = some (.val (.v (.int .u8 (k : Int))))) (hT : assoc arL T = some (n, e, z)) (hz : z = 1) (hs : ∀ d ∈ ds, d.size = 1 ∧ d.agg = false) (hn : ds.length = n) (hk : ds[k]? = some d) (hg : guardOf ops ⟨rs, os, fs⟩ ⟨some t, .indexAddr T x y, ty, pos, af, gd⟩ = some true) (hoff : fF N (some t) EE = true) (kk : EM N ops TT l ⟨(t, .val (.pd d)) :: rs, os, fs⟩ EE) : EM N ops TT (⟨some t, .indexAddr T x y, ty, pos, af, gd⟩ :: l) ⟨rs, os, fs⟩ EE := EH.still (IX rfl hx hy hT hz hs hn hk) hg rfl hoff kk
end
theorem P7 (l m : List UInt8) : Fn 172 [.bs l, .bs m] (· = .val (.v (.bool (l.take m.length == m)))) := by
 have hE := zL (l.take m.length) m
 refine Fn.walk 18 Tryz.func172 rfl Tryz.ntmps172 (by simp) fun X => ?_
 by_cases h : m.length ≤ l.length
 ·
  have hc : fM .geq (l.length : Int) (m.length : Int) = some true := by
   simp only [fM, XT, decide_eq_true_eq]
   omega
  repeat
   (first
    | (apply aA (hE); rfl; exact aj.refl _ _; exact enA; iterate 2 rfl) | (apply aC (b := true); (iterate 2 rfl); exact hc; iterate 2 rfl)
    | (apply QN; (iterate 3 rfl); exact ⟨by omega, by rw [XL]; exact h⟩; iterate 2 rfl) | (apply ak; iterate 3 rfl) | (apply ah; iterate 3 rfl)
    | (apply aS; iterate 4 rfl) | (apply aP; iterate 4 rfl) | apply EL.nil
    | (with_reducible first | apply EK.nc | apply EC.seq | apply EC.r0 | apply EC.ret))
  exact EK.lZ rfl rfl rfl
 ·
  have hc : fM .geq (l.length : Int) (m.length : Int) = some false := by
   simp only [fM, XT, decide_eq_false_iff_not]
   omega
  have hb : (l.take m.length == m) = false := beq_eq_false_iff_ne.2 fun e => by
   have := congrArg List.length e
   rw [List.length_take] at this
   omega
  rw [hb]
  repeat
   (first
    | (apply eX; iterate 2 rfl) | (apply aC (b := false); (iterate 2 rfl); exact hc; iterate 2 rfl) | (apply ak; iterate 3 rfl)
    | (apply ah; iterate 3 rfl) | (apply aS; iterate 4 rfl) | (apply aP; iterate 4 rfl) | apply EL.nil
    | (with_reducible first | apply EK.nc | apply EC.seq | apply EC.r0 | apply EC.ret))
  exact EK.lZ rfl rfl rfl
theorem P9 (l m : List UInt8) : Fn 138 [.bs l, .bs m] (· = .tpl [.bs (if m = l.take m.length then l.drop m.length else l), .v (.bool (l.take m.length == m))]) := by
 have hP := P7 l m
 refine FnM.toFn ?_
 by_cases h : m = l.take m.length
 ·
  have hb : (l.take m.length == m) = true := by rw [← h]; exact beq_self_eq_true m
  have hle : m.length ≤ l.length := by
   have := congrArg List.length h
   rw [List.length_take] at this
   omega
  rw [if_pos h]
  rw [hb] at hP ⊢
  refine FnM.walk 15 Tryz.func138 rfl Tryz.ntmps138 (by simp) fun X => ?_
  repeat
   (first
    | (apply aA (hP); rfl; exact aj.refl _ _; exact enA; iterate 2 rfl)
    | (apply ru; (iterate 3 rfl); exact ⟨by omega, by rw [XL]; exact hle⟩; iterate 2 rfl) | (apply ak; iterate 3 rfl) | (apply ah; iterate 3 rfl)
    | (apply dI; iterate 3 rfl) | (apply aP; iterate 4 rfl) | apply EL.nil | (apply EC.f0; rfl)
    | (with_reducible first | apply EK.nc | apply EC.seq | apply EC.r0 | apply EC.k0 | apply EC.ret))
  exact EK.bV [] rfl rfl rfl RL.a (Xt _) ⟨rfl, rfl⟩
 ·
  have hb : (l.take m.length == m) = false := beq_eq_false_iff_ne.2 fun e => h e.symm
  rw [if_neg h]
  rw [hb] at hP ⊢
  refine FnM.walk 15 Tryz.func138 rfl Tryz.ntmps138 (by simp) fun X => ?_
  repeat
   (first
    | (apply aA (hP); rfl; exact aj.refl _ _; exact enA; iterate 2 rfl) | (apply ak; iterate 3 rfl) | (apply ah; iterate 3 rfl)
    | (apply dI; iterate 3 rfl) | apply EL.nil | (apply EC.t0; rfl)
    | (with_reducible first | apply EK.nc | apply EC.seq | apply EC.r0 | apply EC.ret | apply EK.aG))
  exact EK.bV [] rfl rfl rfl RL.a (Xt _) ⟨rfl, rfl⟩
def stepD (r : Nd × List UInt8 × List UInt8) : R := .tpl [dN r.1, .bs r.2.1, .bs r.2.2]
theorem yA (k : Nd) : (dN k).sub 0 1 false = some (dN k) := by
 cases k <;> (rw [dN]; simp [D.sub])
theorem Ll (p : List UInt8) (k : Nd) : (D.tup [.bs p, dN k]).sub 1 1 false = some (dN k) := by
 have := yA k
 simp [D.sub, D.yB, D.size, (mJ k).1, this]
theorem Lm (p : List UInt8) (k : Nd) : (D.tup [.bs p, dN k]).sub 0 1 false = some (.bs p) := by
 simp [D.sub, D.yB, D.size]
theorem zJ (t : Nd) (p : List UInt8) (hp : ∀ c ∈ p, c.toNat < 16) : Fn 92 [dN t, .bs p] (· = stepD (iW t p)) := by
 refine FnM.toFn ?_
 unfold stepD
 cases t with
 | nil =>
  rw [show iW .nil p = (.nil, [], []) by cases p <;> rfl, dN]
  refine FnM.walk 64 Tryz.func92 rfl Tryz.ntmps92 (by simp) fun X => ?_
  repeat
   (first
    | (apply ak; iterate 3 rfl) | (apply ah; iterate 3 rfl) | (apply aF; iterate 4 rfl) | (apply KP; iterate 5 rfl) | apply EL.nil
    | (apply EC.f0; rfl)
    | (with_reducible first | apply EK.nc | apply EC.seq | apply EC.r0 | apply EC.k0 | apply EC.b0 | apply EC.ret | apply EK.n0))
  exact EK.gy [] rfl rfl rfl rfl RL.a RL.a RL.a (Xt _) ⟨rfl, rfl⟩
 | hash w =>
  rw [show iW (.hash w) p = (.nil, [], []) by cases p <;> rfl, dN]
  refine FnM.walk 64 Tryz.func92 rfl Tryz.ntmps92 (by simp) fun X => ?_
  repeat
   (first
    | (apply ak; iterate 3 rfl) | (apply ah; iterate 3 rfl) | (apply aF; iterate 4 rfl) | (apply iC; iterate 6 rfl) | apply EL.nil
    | (apply EC.f0; rfl)
    | (with_reducible first | apply EK.nc | apply EC.seq | apply EC.r0 | apply EC.k0 | apply EC.b0 | apply EC.ret | apply EK.n0))
  exact EK.gy [] rfl rfl rfl rfl RL.a RL.a RL.a (Xt _) ⟨rfl, rfl⟩
 | leaf q v =>
  have hE := zL q p
  rw [oQ, dN]
  refine FnM.walk 64 Tryz.func92 rfl Tryz.ntmps92 (by simp) fun X => ?_
  by_cases h : q = p
  ·
   rw [if_pos h]
   rw [show (q == p) = true by simp [h]] at hE
   repeat
    (first
     | (apply aA (hE); rfl; exact aj.refl _ _; exact enA; iterate 2 rfl) | (apply ak; iterate 3 rfl) | (apply ah; iterate 3 rfl)
     | (apply bC; iterate 7 rfl) | (apply aF; iterate 4 rfl) | (apply aH; iterate 5 rfl) | (apply kU; iterate 3 rfl)
     | (apply eP; iterate 4 rfl) | apply EL.nil | (apply EC.t0; rfl)
     | (with_reducible first | apply EK.nc | apply EC.seq | apply EC.r0 | apply EC.b0))
   refine EC.draw 6 (by kernel_rfl) ?_
   simp only [Xp, Xu, mP, Xq]
   repeat
    (first
     | (apply aX; iterate 3 rfl) | (apply fA; iterate 3 rfl) | (apply dA; iterate 7 rfl) | (apply bD; iterate 5 rfl)
     | (apply oM; iterate 3 rfl) | ((with_reducible apply EH.nil); rfl))
   repeat
    (first
     | (apply ah; iterate 3 rfl) | apply EL.nil | (with_reducible first | apply EK.nc | apply EC.ret | apply EK.dK | apply EK.aG))
   exact EK.gy [] rfl rfl rfl rfl RL.a RL.a RL.a (Xt _) ⟨rfl, rfl⟩
  ·
   rw [if_neg h]
   rw [show (q == p) = false by simp [h]] at hE
   repeat
    (first
     | (apply aA (hE); rfl; exact aj.refl _ _; exact enA; iterate 2 rfl) | (apply ak; iterate 3 rfl) | (apply ah; iterate 3 rfl)
     | (apply bC; iterate 7 rfl) | (apply aF; iterate 4 rfl) | (apply aH; iterate 5 rfl) | (apply kU; iterate 3 rfl)
     | (apply eP; iterate 4 rfl) | apply EL.nil | (apply EC.t0; rfl) | (apply EC.f0; rfl)
     | (with_reducible first | apply EK.nc | apply EC.seq | apply EC.r0 | apply EC.k0 | apply EC.b0 | apply EC.ret | apply EK.n0))
   exact EK.gy [] rfl rfl rfl rfl RL.a RL.a RL.a (Xt _) ⟨rfl, rfl⟩
 | ext q k =>
  have hC := P9 p q
  have s0 := Lm q k
  have s1 := Ll q k
  have s2 := yA k
  rw [vP, dN]
  by_cases h : q = p.take q.length
  ·
   rw [if_pos h] at hC ⊢
   rw [show (p.take q.length == q) = true by rw [← h]; exact beq_self_eq_true q] at hC
   dsimp only
   generalize dN k = dk at *
   refine FnM.walk 64 Tryz.func92 rfl Tryz.ntmps92 (by simp) fun X => ?_
   repeat
    (first
     | (apply aA (hC); rfl; exact aj.refl _ _; exact enA; iterate 2 rfl) | (apply bC; (iterate 4 rfl); (first | exact s0 | exact s1); iterate 2 rfl)
     | (apply aH; (iterate 2 rfl); exact s2; iterate 2 rfl) | (apply ak; iterate 3 rfl) | (apply ah; iterate 3 rfl) | (apply aF; iterate 4 rfl)
     | (apply aH; iterate 5 rfl) | (apply kU; iterate 3 rfl) | (apply eP; iterate 4 rfl) | (apply iC; iterate 6 rfl) | apply EL.nil
     | (apply EC.t0; rfl) | (apply EC.f0; rfl)
     | (with_reducible first | apply EK.nc | apply EC.seq | apply EC.r0 | apply EC.b0 | apply EC.ret | apply EK.dK | apply EK.aG))
   exact EK.gy [] rfl rfl rfl rfl RL.a RL.a RL.a (Xt _) ⟨rfl, rfl⟩
  ·
   rw [if_neg h] at hC ⊢
   rw [show (p.take q.length == q) = false from beq_eq_false_iff_ne.2 fun e => h e.symm] at hC
   rw [dN]
   generalize dN k = dk at *
   refine FnM.walk 64 Tryz.func92 rfl Tryz.ntmps92 (by simp) fun X => ?_
   repeat
    (first
     | (apply aA (hC); rfl; exact aj.refl _ _; exact enA; iterate 2 rfl) | (apply bC; (iterate 4 rfl); (first | exact s0 | exact s1); iterate 2 rfl)
     | (apply ak; iterate 3 rfl) | (apply ah; iterate 3 rfl) | (apply aF; iterate 4 rfl) | (apply aH; iterate 5 rfl)
     | (apply kU; iterate 3 rfl) | (apply eP; iterate 4 rfl) | (apply iC; iterate 6 rfl) | apply EL.nil
     | (apply EC.t0; rfl) | (apply EC.f0; rfl) | (with_reducible first | apply EK.nc | apply EC.seq | apply EC.r0 | apply EC.k0 | apply EC.b0 | apply EC.ret | apply EK.n0))
   exact EK.gy [] rfl rfl rfl rfl RL.a RL.a RL.a (Xt _) ⟨rfl, rfl⟩
 | br ks v =>
  have hK : (∀ e ∈ (List.range 16).map (fun i => dN (ks i)), ∃ s : Nd, e = dN s) ∧ ((List.range 16).map fun i => dN (ks i)).length = 16 := ⟨fun e he => by
   obtain ⟨i, _, rfl⟩ := XA.1 he
   exact ⟨_, rfl⟩, by simp⟩
  have hsz := (CW hK.1).trans hK.2
  have h0 := Jv v hsz
  have h1 := Ju v hsz
  have hall : ∀ d ∈ (List.range 16).map (fun i => dN (ks i)), d.size = 1 ∧ d.agg = false := fun d hd => by
   obtain ⟨s, rfl⟩ := hK.1 d hd
   exact mJ s
  rw [dN]
  cases p with
  | nil =>
   rw [show iW (.br ks v) [] = (.nil, [], v) from rfl]
   generalize (List.range 16).map (fun i => dN (ks i)) = K at *
   refine FnM.walk 64 Tryz.func92 rfl Tryz.ntmps92 (by simp) fun X => ?_
   repeat
    (first
     | (apply ak; iterate 3 rfl) | (apply ah; iterate 3 rfl) | (apply aF; iterate 4 rfl)
     | (apply aC (b := true); (iterate 2 rfl); exact aK; iterate 2 rfl) | (apply aP; iterate 4 rfl) | (apply eP; iterate 4 rfl)
     | (apply iC; iterate 6 rfl) | apply EL.nil | (apply EC.t0; rfl) | (apply EC.f0; rfl)
     | (with_reducible first | apply EK.nc | apply EC.seq | apply EC.r0 | apply EC.b0))
   refine EC.draw 6 (by kernel_rfl) ?_
   simp only [Xp, Xu, mP, Xq]
   repeat
    (first
     | (apply dA; (iterate 4 rfl); (first | exact h0 | exact h1); iterate 2 rfl) | (apply aX; iterate 3 rfl) | (apply fA; iterate 3 rfl)
     | (apply bD; iterate 5 rfl) | (apply oM; iterate 3 rfl) | ((with_reducible apply EH.nil); rfl))
   repeat
    (first
     | (apply ah; iterate 3 rfl) | apply EL.nil | (with_reducible first | apply EK.nc | apply EC.ret | apply EK.dK | apply EK.aG))
   exact EK.gy [] rfl rfl rfl rfl RL.a RL.a RL.a (Xt _) ⟨rfl, rfl⟩
  | cons c r =>
   have hc := hp c List.mem_cons_self
   have hat : ((List.range 16).map (fun i => dN (ks i)))[c.toNat]? = some (dN (ks c.toNat)) := by rw [XK, YN hc]; rfl
   have s2 := yA (ks c.toNat)
   rw [Em]
   dsimp only
   have hl1 : (c :: r).length = r.length + 1 := rfl
   generalize dN (ks c.toNat) = dk at *
   generalize (List.range 16).map (fun i => dN (ks i)) = K at *
   refine FnM.walk 64 Tryz.func92 rfl Tryz.ntmps92 (by simp) fun X => ?_
   have hcz : fM .eql ((c :: r).length : Int) 0 = some false := by
    simp only [fM, XT, beq_eq_false_iff_ne]
    omega
   repeat
    (first
     | (apply aC (b := false); (iterate 2 rfl); exact hcz; iterate 2 rfl) | (apply ak; iterate 3 rfl) | (apply ah; iterate 3 rfl)
     | (apply aF; iterate 4 rfl) | (apply aP; iterate 4 rfl) | (apply eP; iterate 4 rfl) | (apply iC; iterate 6 rfl) | apply EL.nil
     | (apply EC.t0; rfl) | (apply EC.f0; rfl)
     | (with_reducible first | apply EK.nc | apply EC.seq | apply EC.r0 | apply EC.k0 | apply EC.b0))
   refine EC.draw 11 (by kernel_rfl) ?_
   simp only [Xp, Xu, mP, Xq]
   repeat
    (first
     | (apply dA; (iterate 4 rfl); (first | exact h0 | exact h1); iterate 2 rfl) | (apply Jo; (iterate 4 rfl); exact hall; exact hK.2; exact hat; iterate 2 rfl)
     | (apply bD; (iterate 2 rfl); exact s2; iterate 2 rfl) | (apply jQ; (iterate 3 rfl); exact ⟨by decide, by rw [hl1]; show 1 ≤ _; omega⟩; iterate 2 rfl)
     | (apply aX; iterate 3 rfl) | (apply fA; iterate 3 rfl) | (apply bD; iterate 5 rfl)
     | (apply lW; (iterate 3 rfl); exact ixA; iterate 2 rfl)
     | (apply oM; iterate 3 rfl) | ((with_reducible apply EH.nil); rfl))
   repeat
    (first
     | (apply ah; iterate 3 rfl) | apply EL.nil | (with_reducible first | apply EK.nc | apply EC.ret | apply EK.dK | apply EK.aG))
   exact EK.gy [] rfl rfl rfl rfl RL.a RL.a RL.a (Xt _) ⟨rfl, rfl⟩
theorem EK.qC {N : Nat} {X : Cx N} {S : St} {fn : Func} {Φ : R → List Obj → Prop} {p u q s : Tmp} {g ty : Nat} {t : TypeId} {d d' e e' k k' m m' : D} (i : Nat) (os' : List Obj) (hres : fn.results = #[.cell p ty, .tmp u, .tmp q, .tmp s]) (hl : look S.regs p = some (.val (.v (.pointer (some ⟨g, 0, none⟩))))) (hi : S.objs[i]? = some (.var g t d)) (hT : assoc tyL ty = some (d.size, d.agg)) (hu : look S.regs u = some (.val e)) (hq : look S.regs q = some (.val k)) (hs : look S.regs s = some (.val m)) (hR : aj S.facts [d] [d']) (hR2 : aj S.facts [e] [e']) (hR3 : aj S.facts [k] [k']) (hR4 : aj S.facts [m] [m']) (ho : os'.Sublist S.objs) (hΦ : Φ (.tpl [d', e', k', m']) os') : EK X (bodyPost Tryz.prog fn (Ai X Φ) .ret) S := by
 constructor
 intro a w ha
 obtain ⟨x, h1, h2⟩ := qB ha.mem hi (tyI hT)
 have hp := (bg.1 (ha.regs p _ hl)).2
 have hp' : a.tmps[p]?.getD undef = .pointer (some ⟨g, 0, none⟩) := by simpa using hp
 have h3 : cO (X.ok S.objs w) w (.tpl [d', e', k', m']) (.tuple #[x, a.tmps.getD u undef, a.tmps.getD q undef, a.tmps.getD s undef]) := ⟨[x, a.tmps.getD u undef, a.tmps.getD q undef, a.tmps.getD s undef], rfl, _, _, rfl, Refine1.jk ha.mem.fact hR h2, _, _, rfl, Refine1.jk ha.mem.fact hR2 (ha.regs u _ hu), _, _, rfl, Refine1.jk ha.mem.fact hR3 (ha.regs q _ hq), _, _, rfl, Refine1.jk ha.mem.fact hR4 (ha.regs s _ hs), rfl⟩
 refine bodyPost_ret (v := .tuple #[x, a.tmps.getD u undef, a.tmps.getD q undef, a.tmps.getD s undef]) ?_ ha.defers ⟨_, _, os', rfl, hΦ, ha.mem.less ho (fun f hf => by cases hf), h3.mono (fun b hb => pq ho hb) fun _ _ => rfl⟩
 simp [results, hres, hp', asAddr, h1]
section
variable {N : Nat} {X : Cx N} {S : St} {ops : Array Oper} {o : Oper} {Q : Exit → Act → World → Prop} {l : List Oper} {TT : St → List Fr → Prop} {EE : List Fr} {rs : List (Tmp × R)} {os : List Obj} {fs : List (Value × D)}
theorem PL {x y : Operand} {T e z b k : Nat} {ds : List D} {d : D} (ho : o.op = .indexAddr T x y) (hx : ev S x = some (.val (.sl z ds))) (hy : ev S y = some (.val (.v (.int .u8 (k : Int))))) (hT : assoc slL T = some (e, z, b)) (hz : Nat.blt 0 z = true) (hk : ds[k]? = some d) : Still ops S o (.val (.pd d)) := fun base ok a w ha => by
 obtain ⟨A, c, rows, h1, h2, h3, h4, h5, h6⟩ := wR (ha.ev hx fun t e => aQ e (by rw [ho]; simp [Op.operands]))
 have hy' := iT ha hy fun t e => aQ e (by rw [ho]; simp [Op.operands])
 obtain ⟨hk', rfl⟩ := XC.1 hk
 have hz' : 0 < z := by simpa using hz
 have hT := slI hT
 obtain ⟨b, n, r, rfl, hb, hrg, hrd⟩ := JC h5 h6 hz' _ hk'
 refine ⟨.pointer (some ⟨b, n + k * z, none⟩), ?_, (bM rfl).2 (by rw [Reads]; exact ⟨b, _, r, rfl, hb, hrg, hrd⟩)⟩
 have h0 : (0 : Int) ≤ (k : Int) := by omega
 have hlt : (k : Int) < (ds.length : Int) := by omega
 unfold execOp
 simp [ho, h1, hy', Instr.indexAt, run_underlying hT.und, asIntOf, h0, jZ hT.size, eu, hk']
theorem QT {t ty : Nat} {pos : String} {af : Array Edge} {gd : Option (Nat × Bool)} {x y : Operand} {T e z b k : Nat} {ds : List D} {d : D} (hx : ev (⟨rs, os, fs⟩ : St) x = some (.val (.sl z ds))) (hy : ev (⟨rs, os, fs⟩ : St) y = some (.val (.v (.int .u8 (k : Int))))) (hT : assoc slL T = some (e, z, b)) (hz : Nat.blt 0 z = true) (hk : ds[k]? = some d) (hg : guardOf ops ⟨rs, os, fs⟩ ⟨some t, .indexAddr T x y, ty, pos, af, gd⟩ = some true) (hoff : fF N (some t) EE = true) (kk : EM N ops TT l ⟨(t, .val (.pd d)) :: rs, os, fs⟩ EE) : EM N ops TT (⟨some t, .indexAddr T x y, ty, pos, af, gd⟩ :: l) ⟨rs, os, fs⟩ EE := EH.still (PL rfl hx hy hT hz hk) hg rfl hoff kk
end
def Kt (r : Raw × List UInt8 × List UInt8 × Bool) : R := .tpl [aO r.1, .bs r.2.1, .bs r.2.2.1, .v (.bool r.2.2.2)]
theorem Qj (b : List UInt8) (a y : Raw) (p : List UInt8) : dwn (.mk true b [a, y]) p = match rdP (bts a) with
  | some (q, true) => if p = q then (eF, [], bts y, false) else (eF, [], [], false)
  | some (q, false) => if common p q < q.length then (eF, [], [], false) else (y, p.drop q.length, [], true)
  | none => if common p [] < ([] : List UInt8).length then (eF, [], [], false) else (y, p.drop 0, [], true) := by
 unfold dwn
 exact if_neg (show ¬ 2 = 17 by decide)
theorem Qk (b : List UInt8) (xs : List Raw) (h : xs.length = 17) : dwn (.mk true b xs) [] = (eF, [], bts (xs.getD 16 eF), false) := by
 unfold dwn
 exact if_pos h
theorem S9 (b : List UInt8) (xs : List Raw) (h : xs.length = 17) (c : UInt8) (r : List UInt8) : dwn (.mk true b xs) (c :: r) = if !isL (xs.getD c.toNat eF) && decide ((bts (xs.getD c.toNat eF)).length = 0) then (eF, [], [], false) else (xs.getD c.toNat eF, r, [], true) := by
 unfold dwn
 exact if_pos h
theorem P8 {f : Nat} {x : Raw} (hx : Gd x) (hn : isN f x = true) (p : List UInt8) (hp : ∀ c ∈ p, c.toNat < 16) : Fn 87 [aO x, .bs p] (· = Kt (dwn x p)) := by
 have hz : aO eF = .tup [.v (.bool false), .bs [], .sl 3 []] := rfl
 refine FnM.toFn ?_
 unfold Kt
 match f, x with
 | 0, x => cases hn
 | _ + 1, .mk false _ _ => cases hn
 | f + 1, .mk true b xs =>
  rw [isN] at hn
  by_cases h17 : xs.length = 17
  ·
   have hml : (dL xs).length = 17 := by rw [jd, List.length_map, h17]
   have hat : ∀ k, (hk : k < xs.length) → (dL xs)[k]? = some (aO xs[k]) := fun k hk => by rw [jd, XK, List.getElem?_eq_getElem hk]; rfl
   have h16 := hat 16 (by omega)
   cases p with
   | nil =>
    rw [Qk b xs h17, getD_mem (show 16 < xs.length by omega), hz]
    generalize xs[16]'(by omega) = y at h16 ⊢
    obtain ⟨yl, yb, yx⟩ := y
    rw [show bts (.mk yl yb yx) = yb from rfl]
    rw [aO] at h16 ⊢
    clear hat
    generalize dL xs = Ds at *
    refine FnM.walk 83 Tryz.func87 rfl Tryz.ntmps87 (by simp) fun X => ?_
    repeat
     (first
      | (apply ak; iterate 3 rfl) | (apply ah; iterate 3 rfl) | (apply bn; iterate 6 rfl) | (apply bH; rfl; exact I.a; iterate 4 rfl)
      | (apply aC (b := true); (iterate 2 rfl); exact aK; iterate 2 rfl) | (apply aP; iterate 4 rfl) | (apply aJ; iterate 4 rfl)
      | (apply aT; rfl; rfl; rfl; intro _) | (apply fU; rfl; rfl; rfl; intro _) | apply EL.nil
      | (apply EC.t0; rfl) | (with_reducible first | apply EK.nc | apply EC.seq | apply EC.r0))
    refine EC.iU 8 [0, 1, 2, 3, 4, 5, 7] [6] [_] _ (by kernel_rfl) (by kernel_rfl) rfl ?_
    simp only [bJ, XD, XG, Xz, Xy]
    repeat
     (first
      | (apply dJ (d := .tup [.v (.bool yl), .bs yb, .sl 3 (dL yx)]); (iterate 4 rfl); exact ⟨by decide, h16⟩; iterate 2 rfl) | (apply fA; iterate 3 rfl)
      | (apply dH; iterate 6 rfl) | (apply dA; iterate 7 rfl) | (apply bD; iterate 5 rfl) | (apply dw; rfl; exact I.a; iterate 4 rfl)
      | (apply iM; iterate 7 rfl))
    refine EM.nil ?_
    repeat (first | rw [Xr] | rw [List.nil_append])
    refine CH.mut (os := [_]) (rest := []) rfl rfl (l9 (iQ rfl rfl rfl rfl rfl)) ?_
    rintro _ _ ⟨rfl, rfl⟩
    try simp only [St.put]
    repeat (first | rw [Xr] | rw [List.nil_append])
    refine CH.nil ?_
    try simp only [mP, Xq]
    repeat
     (first
      | (apply ah; iterate 3 rfl) | apply EL.nil | (with_reducible first | apply EK.nc | apply EC.ret | apply EK.aG))
    exact EK.qC 0 [] rfl rfl rfl rfl rfl rfl rfl RL.a RL.a RL.a RL.a (Xt _) ⟨rfl, rfl⟩
   | cons c r =>
    have hc := hp c List.mem_cons_self
    have hcx : c.toNat < xs.length := by omega
    have hd := hat c.toNat hcx
    have hl1 : (c :: r).length = r.length + 1 := rfl
    rw [S9 b xs h17, getD_mem hcx]
    generalize xs[c.toNat]'hcx = y at hd ⊢
    obtain ⟨yl, yb, yx⟩ := y
    rw [show isL (.mk yl yb yx) = yl from rfl, show bts (.mk yl yb yx) = yb from rfl]
    rw [aO] at hd
    clear hat h16
    rw [aO]
    generalize dL xs = Ds at *
    have hcz : fM .eql ((c :: r).length : Int) 0 = some false := by
     simp only [fM, XT, beq_eq_false_iff_ne]
     omega
    refine FnM.walk 83 Tryz.func87 rfl Tryz.ntmps87 (by simp) fun X => ?_
    repeat
     (first
      | (apply aC (b := false); (iterate 2 rfl); exact hcz; iterate 2 rfl) | (apply ak; iterate 3 rfl) | (apply ah; iterate 3 rfl)
      | (apply bn; iterate 6 rfl) | (apply bH; rfl; exact I.a; iterate 4 rfl) | (apply aC (b := true); (iterate 2 rfl); exact aK; iterate 2 rfl)
      | (apply aP; iterate 4 rfl) | (apply aJ; iterate 4 rfl) | (apply aT; rfl; rfl; rfl; intro _) | (apply fU; rfl; rfl; rfl; intro _)
      | apply EL.nil | (apply EC.t0; rfl) | (apply EC.f0; rfl)
      | (with_reducible first | apply EK.nc | apply EC.seq | apply EC.r0 | apply EC.k0))
    refine EC.draw 8 (by kernel_rfl) ?_
    simp only [Xp, Xu, mP, Xq]
    repeat
     (first
      | (apply QT (d := .tup [.v (.bool yl), .bs yb, .sl 3 (dL yx)]); (iterate 4 rfl); exact hd; iterate 2 rfl) | (apply aX; iterate 3 rfl)
      | (apply dH; iterate 6 rfl) | (apply bD; iterate 5 rfl) | (apply dw; rfl; exact I.a; iterate 4 rfl)
      | (apply lW; (iterate 3 rfl); exact ixA; iterate 2 rfl)
      | (apply TK; iterate 3 rfl) | ((with_reducible apply EH.Wn); rfl; intro _))
    cases yl with
    | true =>
     rw [Bool.not_true, ZO, if_neg Xv, aO]
     repeat
      (first
       | (apply eX; iterate 2 rfl) | (apply ak; iterate 3 rfl) | (apply bn; iterate 6 rfl) | (apply aS; iterate 4 rfl) | (apply dI; iterate 3 rfl)
       | (apply bH; rfl; exact I.a; iterate 4 rfl) | (apply aI; rfl; exact saA; iterate 4 rfl) | apply EL.nil
       | (apply EC.f0; rfl) | (with_reducible first | apply EK.nc | apply EC.seq | apply EC.r0 | apply EC.k0))
     refine EC.le (Le.pick [1, 0, 2] [_, _, _] rfl (by decide) rfl) ?_
     refine EC.iU 4 [0, 1, 2] [3] [_] _ (by kernel_rfl) (by kernel_rfl) rfl ?_
     simp only [bJ, XD, XG, Xz, Xy]
     repeat
      (first
       | (apply jQ; (iterate 3 rfl); exact ⟨by decide, by rw [hl1]; show 1 ≤ _; omega⟩; iterate 2 rfl) | (apply aX; iterate 3 rfl)
       | (apply dw; rfl; exact I.a; iterate 4 rfl))
     refine EM.nil ?_
     repeat (first | rw [Xr] | rw [List.nil_append])
     refine CH.mut (os := [_]) (rest := []) rfl rfl (l9 (iQ rfl rfl rfl rfl rfl)) ?_
     rintro _ _ ⟨rfl, rfl⟩
     try simp only [St.put]
     repeat (first | rw [Xr] | rw [List.nil_append])
     refine CH.nil ?_
     try simp only [mP, Xq]
     repeat
      (first
       | (apply ah; iterate 3 rfl) | apply EL.nil | (with_reducible first | apply EK.nc | apply EC.ret | apply EK.aG))
     exact EK.qC 0 [] rfl rfl rfl rfl rfl rfl rfl RL.a RL.a RL.a RL.a (Xt _) ⟨rfl, rfl⟩
    | false =>
     rw [ZP, Y4]
     by_cases h0 : yb.length = 0
     ·
      have hc0 : fM .eql (yb.length : Int) 0 = some true := by rw [h0]; rfl
      rw [decide_eq_true h0, if_pos rfl, hz]
      repeat
       (first
        | (apply aC (b := true); (iterate 2 rfl); exact hc0; iterate 2 rfl) | (apply ak; iterate 3 rfl) | (apply ah; iterate 3 rfl)
        | (apply bn; iterate 6 rfl) | (apply aS; iterate 4 rfl) | (apply dI; iterate 3 rfl) | (apply bH; rfl; exact I.a; iterate 4 rfl)
        | (apply aP; iterate 4 rfl) | (apply eH; iterate 7 rfl) | (apply aI; rfl; exact saA; iterate 4 rfl)
        | apply EL.nil | (apply EC.t0; rfl) | (with_reducible first | apply EK.nc | apply EC.seq | apply EC.r0 | apply EC.ret | apply EK.aG))
      exact EK.qC 1 [] rfl rfl rfl rfl rfl rfl rfl RL.a RL.a RL.a RL.a (Xt _) ⟨rfl, rfl⟩
     ·
      have hc0 : fM .eql (yb.length : Int) 0 = some false := by
       simp only [fM, XT, beq_eq_false_iff_ne]
       omega
      rw [decide_eq_false h0, if_neg Xv, aO]
      repeat
       (first
        | (apply aC (b := false); (iterate 2 rfl); exact hc0; iterate 2 rfl) | (apply ak; iterate 3 rfl) | (apply bn; iterate 6 rfl)
        | (apply aS; iterate 4 rfl) | (apply dI; iterate 3 rfl) | (apply bH; rfl; exact I.a; iterate 4 rfl) | (apply aP; iterate 4 rfl)
        | (apply aI; rfl; exact saA; iterate 4 rfl) | apply EL.nil
        | (apply EC.f0; rfl) | (with_reducible first | apply EK.nc | apply EC.seq | apply EC.r0 | apply EC.k0))
      refine EC.le (Le.pick [1, 0, 2] [_, _, _] rfl (by decide) rfl) ?_
      refine EC.iU 4 [0, 1, 2] [3] [_] _ (by kernel_rfl) (by kernel_rfl) rfl ?_
      simp only [bJ, XD, XG, Xz, Xy]
      repeat
       (first
        | (apply jQ; (iterate 3 rfl); exact ⟨by decide, by rw [hl1]; show 1 ≤ _; omega⟩; iterate 2 rfl) | (apply aX; iterate 3 rfl)
        | (apply dw; rfl; exact I.a; iterate 4 rfl))
      refine EM.nil ?_
      repeat (first | rw [Xr] | rw [List.nil_append])
      refine CH.mut (os := [_]) (rest := []) rfl rfl (l9 (iQ rfl rfl rfl rfl rfl)) ?_
      rintro _ _ ⟨rfl, rfl⟩
      try simp only [St.put]
      repeat (first | rw [Xr] | rw [List.nil_append])
      refine CH.nil ?_
      try simp only [mP, Xq]
      repeat
       (first
        | (apply ah; iterate 3 rfl) | apply EL.nil | (with_reducible first | apply EK.nc | apply EC.ret | apply EK.aG))
      exact EK.qC 0 [] rfl rfl rfl rfl rfl rfl rfl RL.a RL.a RL.a RL.a (Xt _) ⟨rfl, rfl⟩
  ·
   rw [if_neg h17] at hn
   by_cases h2 : xs.length = 2
   ·
    match xs, h2 with
    | [a, y], _ =>
     have hga := hx.kid (y := a) List.mem_cons_self
     have ha0 : (bts a).length ≤ 536870912 := by
      obtain ⟨xl, xb, xx⟩ := a
      show xb.length ≤ _
      cases xl with
      | false =>
       have h1 := hga.len
       rw [Rlp.E] at h1
       have := QV xb
       simp only [most] at h1
       omega
      | true =>
       have h1 := hga.nrm
       rw [norm] at h1
       injection h1 with _ h1 _
       rw [← h1]
       exact XQ _
     have hP := Gl (bts a) ha0
     rw [if_pos (show [a, y].length = 2 from rfl)] at hn
     clear hga hx h17
     rw [show [a, y].getD 0 eF = a from rfl, show [a, y].getD 1 eF = y from rfl] at hn
     unfold prB at hn
     have hn := (YC.1 hn).2
     rw [Qj]
     unfold rpD at hP
     obtain ⟨xl, xb, xx⟩ := a
     obtain ⟨yl, yb, yx⟩ := y
     rw [show bts (.mk xl xb xx) = xb from rfl] at hP hn ⊢
     rw [show bts (.mk yl yb yx) = yb from rfl] at hn ⊢
     cases hr : rdP xb with
     | none =>
      rw [hr] at hn
      cases hn
     | some ql =>
      obtain ⟨q, lf⟩ := ql
      rw [hr] at hP
      dsimp only at hP ⊢
      clear hn hr
      rw [aO, dL, aO, dL, aO, dL]
      cases lf with
      | true =>
       have hB := (jT p q).1
       refine FnM.walk 83 Tryz.func87 rfl Tryz.ntmps87 (by simp) fun X => ?_
       dsimp only
       by_cases hq : p = q
       ·
        rw [if_pos hq, hz]
        rw [show (p == q) = true by simp [hq]] at hB
        repeat
         (first
          | (apply aA (hP); rfl; exact aj.refl _ _; exact enA; iterate 2 rfl) | (apply dW; (iterate 2 rfl); exact hB; iterate 2 rfl) | (apply ak; iterate 3 rfl)
          | (apply ah; iterate 3 rfl) | (apply bn; iterate 6 rfl) | (apply bC; iterate 7 rfl) | (apply aF; iterate 4 rfl)
          | (apply aH; iterate 5 rfl) | (apply bH; rfl; exact I.a; iterate 4 rfl) | (apply aC (b := false); (iterate 2 rfl); exact aK; iterate 2 rfl)
          | (apply aJ; iterate 4 rfl)
          | (apply bT; (iterate 4 rfl); exact ixA; iterate 2 rfl)
          | (apply KN; iterate 3 rfl) | (apply aT; rfl; rfl; rfl; intro _) | (apply fU; rfl; rfl; rfl; intro _) | apply EL.nil
          | (apply EC.t0; rfl) | (apply EC.f0; rfl) | (with_reducible first | apply EK.nc | apply EC.seq | apply EC.r0 | apply EC.k0))
        refine EC.iU 8 [0, 1, 2, 3, 4, 5, 7] [6] [_] _ (by kernel_rfl) (by kernel_rfl) rfl ?_
        simp only [bJ, XD, XG, Xz, Xy]
        repeat
         (first
          | (apply fA; iterate 3 rfl) | (apply dH; iterate 6 rfl) | (apply dA; iterate 7 rfl) | (apply bD; iterate 5 rfl)
          | (apply dw; rfl; exact I.a; iterate 4 rfl)
          | (apply dJ; (iterate 4 rfl); exact ixA; iterate 2 rfl)
          | (apply iM; iterate 7 rfl))
        refine EM.nil ?_
        repeat (first | rw [Xr] | rw [List.nil_append])
        refine CH.mut (os := [_]) (rest := []) rfl rfl (l9 (iQ rfl rfl rfl rfl rfl)) ?_
        rintro _ _ ⟨rfl, rfl⟩
        try simp only [St.put]
        repeat (first | rw [Xr] | rw [List.nil_append])
        refine CH.nil ?_
        try simp only [mP, Xq]
        repeat
         (first
          | (apply ah; iterate 3 rfl) | apply EL.nil | (with_reducible first | apply EK.nc | apply EC.ret | apply EK.aG))
        exact EK.qC 0 [] rfl rfl rfl rfl rfl rfl rfl RL.a RL.a RL.a RL.a (Xt _) ⟨rfl, rfl⟩
       ·
        rw [if_neg hq, hz]
        rw [show (p == q) = false by simp [hq]] at hB
        repeat
         (first
          | (apply aA (hP); rfl; exact aj.refl _ _; exact enA; iterate 2 rfl) | (apply dW; (iterate 2 rfl); exact hB; iterate 2 rfl) | (apply ak; iterate 3 rfl)
          | (apply ah; iterate 3 rfl) | (apply bn; iterate 6 rfl) | (apply bC; iterate 7 rfl) | (apply aF; iterate 4 rfl)
          | (apply aH; iterate 5 rfl) | (apply bH; rfl; exact I.a; iterate 4 rfl) | (apply aC (b := false); (iterate 2 rfl); exact aK; iterate 2 rfl)
          | (apply aJ; iterate 4 rfl)
          | (apply bT; (iterate 4 rfl); exact ixA; iterate 2 rfl)
          | (apply KN; iterate 3 rfl) | (apply eH; iterate 7 rfl) | (apply aT; rfl; rfl; rfl; intro _) | (apply fU; rfl; rfl; rfl; intro _)
          | (apply aI; rfl; exact saA; iterate 4 rfl) | apply EL.nil
          | (apply EC.t0; rfl) | (apply EC.f0; rfl) | (with_reducible first | apply EK.nc | apply EC.seq | apply EC.r0 | apply EC.k0 | apply EC.ret | apply EK.aG))
        exact EK.qC 0 [] rfl rfl rfl rfl rfl rfl rfl RL.a RL.a RL.a RL.a (Xt _) ⟨rfl, rfl⟩
      | false =>
       have hC := Cb p q
       obtain ⟨_, hcl, hcr⟩ := eY p q
       refine FnM.walk 83 Tryz.func87 rfl Tryz.ntmps87 (by simp) fun X => ?_
       dsimp only
       by_cases hc : common p q < q.length
       ·
        rw [if_pos hc, hz]
        repeat
         (first
          | (apply aA (hP); rfl; exact aj.refl _ _; exact enA; iterate 2 rfl) | (apply aA (hC); rfl; exact aj.refl _ _; exact enA; iterate 2 rfl)
          | (apply ak; iterate 3 rfl) | (apply ah; iterate 3 rfl) | (apply bn; iterate 6 rfl) | (apply bC; iterate 7 rfl)
          | (apply aF; iterate 4 rfl) | (apply aH; iterate 5 rfl) | (apply bH; rfl; exact I.a; iterate 4 rfl)
          | (apply aC (b := true); (iterate 2 rfl); exact aK; iterate 2 rfl) | (apply aC (b := false); (iterate 2 rfl); exact aK; iterate 2 rfl)
          | (apply aP; iterate 4 rfl) | (apply aJ; iterate 4 rfl)
          | (apply bT; (iterate 4 rfl); exact ixA; iterate 2 rfl)
          | (apply eH; iterate 7 rfl) | (apply aT; rfl; rfl; rfl; intro _) | (apply fU; rfl; rfl; rfl; intro _)
          | (apply aI; rfl; exact saA; iterate 4 rfl) | apply EL.nil
          | (apply EC.t0; rfl) | (apply EC.f0; rfl) | (with_reducible first | apply EK.nc | apply EC.seq | apply EC.r0 | apply EC.k0 | apply EC.ret | apply EK.aG))
        exact EK.qC 0 [] rfl rfl rfl rfl rfl rfl rfl RL.a RL.a RL.a RL.a (Xt _) ⟨rfl, rfl⟩
       ·
        rw [if_neg hc, aO]
        repeat
         (first
          | (apply aA (hP); rfl; exact aj.refl _ _; exact enA; iterate 2 rfl) | (apply aA (hC); rfl; exact aj.refl _ _; exact enA; iterate 2 rfl)
          | (apply ak; iterate 3 rfl) | (apply ah; iterate 3 rfl) | (apply bn; iterate 6 rfl) | (apply bC; iterate 7 rfl)
          | (apply aF; iterate 4 rfl) | (apply aH; iterate 5 rfl) | (apply bH; rfl; exact I.a; iterate 4 rfl)
          | (apply aC (b := false); (iterate 2 rfl); exact aK; iterate 2 rfl) | (apply aP; iterate 4 rfl) | (apply aJ; iterate 4 rfl)
          | (apply bT; (iterate 4 rfl); exact ixA; iterate 2 rfl)
          | (apply aT; rfl; rfl; rfl; intro _) | (apply fU; rfl; rfl; rfl; intro _) | apply EL.nil
          | (apply EC.f0; rfl) | (with_reducible first | apply EK.nc | apply EC.seq | apply EC.r0 | apply EC.k0))
        refine EC.iU 9 [0, 1, 2, 3, 4, 5, 6, 7] [8] [_] _ (by kernel_rfl) (by kernel_rfl) rfl ?_
        simp only [bJ, XD, XG, Xz, Xy]
        repeat
         (first
          | (apply jQ; (iterate 3 rfl); exact ⟨by omega, by rw [XL]; omega⟩; iterate 2 rfl) | (apply aX; iterate 3 rfl) | (apply dH; iterate 6 rfl)
          | (apply bD; iterate 5 rfl) | (apply dw; rfl; exact I.a; iterate 4 rfl) | (apply Ee; iterate 4 rfl)
          | (apply dJ; (iterate 4 rfl); exact ixA; iterate 2 rfl))
        refine EM.nil ?_
        repeat (first | rw [Xr] | rw [List.nil_append])
        refine CH.mut (os := [_]) (rest := []) rfl rfl (l9 (iQ rfl rfl rfl rfl rfl)) ?_
        rintro _ _ ⟨rfl, rfl⟩
        try simp only [St.put]
        repeat (first | rw [Xr] | rw [List.nil_append])
        refine CH.nil ?_
        try simp only [mP, Xq]
        repeat
         (first
          | (apply ah; iterate 3 rfl) | apply EL.nil | ((with_reducible apply EK.h0); apply EK.code) | (with_reducible apply EC.ret))
        exact EK.qC 0 [] rfl rfl rfl rfl rfl rfl rfl RL.a RL.a RL.a RL.a (Xt _) ⟨rfl, rfl⟩
   ·
    rw [if_neg h2] at hn
    cases hn

def Rx (r : List UInt8 × Nat) : R := .tpl [.bs r.1, .v (.bool (decide (0 < r.1.length))), .v (.int .i64 (r.2 : Int))]
theorem BN {f : Nat} {root : List UInt8} (h : root.length = 32) : G9 f (.mk false root []) := by
 refine ⟨⟨by rw [norm], fun m => by rw [dP]; omega, by rw [dep, Az]; omega, ?_⟩, .inr ⟨rfl, h⟩⟩
 rw [Rlp.E, oO]
 unfold szE szB
 simp only [most]
 split
 · omega
 ·
  split
  · omega
  · omega
end E
end Go.Proofs.YtelbhdobjdnglaaGreat
