/-
 Merged: lemmas of this claim.
 Conditions: none.
-/
import Derived.Test.YtaoicebcdmpemaaGreatZB5
import Derived.Stop.BytesEq
import Derived.Test.YtaoicebcdmpemaaGreatZB0
namespace Go.Proofs.YtaoicebcdmpemaaGreat
set_option linter.unusedVariables false
open Go.RowKit Mono Rlp
namespace E
def Fa (N : Nat) (d : Option Tmp) : Bool :=
 match d with
 | some t => decide (t < N)
 | none => true
section
variable {N : Nat} {X : Cx N} {S S' : St} {a : Act} {w w' : World} {ops : Array Oper} {o : Oper} {Q : Exit → Act → World → Prop} {l : List Oper} {T : St → List Fr → Prop} {E : List Fr}
theorem Ig (h : Fa N o.dst = true) : ∀ t, o.dst = some t → t < N := fun t ht => by
 rw [ht] at h
 simpa [Fa] using h
theorem tyI {T sz : Nat} {ag : Bool} (h : assoc tyL T = some (sz, ag)) : Ty Tryz.prog T sz ag := IZ (by
 have := KQ.1 Gu _ (dJ _ _ _ h)
 simpa using this)
theorem slI {T e z y : Nat} (h : assoc slL T = some (e, z, y)) : Dj T e z := by
 have := KQ.1 AA _ (dJ _ _ _ h)
 exact I8 (y := y) (y' := z) (by simpa using this)
theorem I9 {T e z y : Nat} (h : assoc slL T = some (e, z, y)) (h0 : Nat.blt 0 z = true) : SlT Tryz.prog T e z y := by
 have := KQ.1 AA _ (dJ _ _ _ h)
 exact Gw (by simpa using this) (by simpa using h0)
theorem JX {T n e z : Nat} (h : assoc arL T = some (n, e, z)) : IU T n e z := by
 have := KQ.1 Ir _ (dJ _ _ _ h)
 exact JC (by simpa using this)
theorem H8 {T k off sz : Nat} {ag : Bool} {l : List (Nat × Nat × Bool)} (h : assoc stL T = some l) (hk : l[k]? = some (off, sz, ag)) (h0 : Nat.blt 0 sz = true) : Fld Tryz.prog T k off sz ag := by
 have := KQ.1 Az _ (dJ _ _ _ h)
 exact Gv (by simpa using this) hk (by simpa using h0)
theorem stI {T : Nat} {l : List (Nat × Nat × Bool)} (h : assoc stL T = some l) : Fp T (l.map fun x => (x.1, x.2.1)) := by
 have := KQ.1 Az _ (dJ _ _ _ h)
 exact I7 (by simpa using this)
theorem sW {T : Nat} {d : D} (h : assoc bY T = some d) : Zero T d := Aj.get _ _ _ Ak h
variable {rs : List (Tmp × R)} {os : List Obj} {fs : List (Value × D)}
theorem fJ {t : Tmp} (hd : o.dst = some t) (hN : Nat.blt t N = true) : ∀ u, o.dst = some u → u < N := fun u hu => by
 rw [hd] at hu
 cases hu
 simpa using hN
theorem ES.still {t : Tmp} {r : R} (hO : Still ops ⟨rs, os, fs⟩ o r) (hg : guardOf ops ⟨rs, os, fs⟩ o = some true) (hd : o.dst = some t) (hN : Nat.blt t N = true) (k : EL X ops Q l ⟨(t, r) :: rs, os, fs⟩) : EL X ops Q (o :: l) ⟨rs, os, fs⟩ :=
 EL.still hg (fJ hd hN) hO (by rw [hd]; exact k)
theorem ES.skip {t : Tmp} (hg : guardOf ops ⟨rs, os, fs⟩ o = some false) (hd : o.dst = some t) (hN : Nat.blt t N = true) (k : EL X ops Q l ⟨(t, .tpl []) :: rs, os, fs⟩) : EL X ops Q (o :: l) ⟨rs, os, fs⟩ := EL.skip hg (fJ hd hN) (by rw [hd]; exact k)
theorem ES.alloc {t : Tmp} {T : TypeId} {d : D} (ho : o.op = .alloc T) (hz : assoc bY T = some d) (hg : guardOf ops ⟨rs, os, fs⟩ o = some true) (hd : o.dst = some t) (hN : Nat.blt t N = true)
  (k : ∀ g, EL X ops Q l ⟨(t, .val (.v (.pointer (some ⟨g, 0, none⟩)))) :: rs, .var g T d :: os, fs⟩) : EL X ops Q (o :: l) ⟨rs, os, fs⟩ := EL.alloc ho hg (fJ hd hN) (sW hz) fun g => by rw [hd]; exact k g
theorem ES.box {t : Tmp} {T : TypeId} {x : Operand} {d : D} (ho : o.op = .box T x) (hx : ev ⟨rs, os, fs⟩ x = some (.val d)) (hg : guardOf ops ⟨rs, os, fs⟩ o = some true) (hd : o.dst = some t) (hN : Nat.blt t N = true)
  (k : ∀ g, EL X ops Q l ⟨(t, .val (.v (.pointer (some ⟨g, 0, none⟩)))) :: rs, .var g T d :: os, fs⟩) : EL X ops Q (o :: l) ⟨rs, os, fs⟩ := EL.box ho hg (fJ hd hN) hx fun g => by rw [hd]; exact k g
theorem aj.refl (F : List (Value × D)) : ∀ ds : List D, aj F ds ds
 | [] => by rw [aj]
 | d :: ds => by
  rw [aj]
  refine ⟨d, ds, rfl, ?_, aj.refl F ds⟩
  exact Refine.refl F d
where Refine.refl (F : List (Value × D)) : ∀ d : D, Refine F d d
 | .v x => by rw [Refine]; exact .inl rfl
 | .tup ds => by rw [Refine]; exact ⟨ds, rfl, aj.refl F ds⟩
 | .arr n l => by rw [Refine]
 | .bs l => by rw [Refine]
 | .sl z ds => by rw [Refine]
 | .pd d => by rw [Refine]
 | .ifc t d => by rw [Refine]
theorem aj.nN {ok : Nat → Prop} {F : List (Value × D)} (hF : ∀ f ∈ F, Reads ok w f.2 [f.1]) : ∀ (ds l : List D) (xs : List Value), aj F ds l → bC ok w ds xs → bC ok w l xs
 | [], l, xs, h, hr => by rw [aj] at h; subst h; exact hr
 | d :: ds, l, xs, h, hr => by
  rw [aj] at h
  obtain ⟨d', ds', rfl, h1, h2⟩ := h
  obtain ⟨x, rest, rfl, h3, h4⟩ := hr
  exact ⟨x, rest, rfl, h1.gJ hF h3, aj.nN hF ds ds' rest h2 h4⟩
theorem rY {f : FuncId} {args : Array Operand} {tys : Array TypeId} {ds ds' : List D} {Φ : R → Prop} (hF : Fn f ds' Φ) (ho : o.op = .call { callee := .value (.func f), args := args, argTypes := tys }) (hx : evs S args.toList = some ds) (hf : Enters f) (hR : aj S.facts ds ds') : ig ops S o Φ := fun base ok a w ha => by
 have hr := aj.nN ha.facts _ _ _ hR (ha.evs _ _ hx fun t ht => ak (x := .tmp t) rfl (by rw [ho]; simp only [Op.operands, Call.operands]; simp; simpa using ht))
 have hrun : (execOp a.eval o).run Tryz.prog w = .ok (.enter f (args.map a.eval)) w := by
  unfold execOp
  simp [ho, resolve, Act.eval, Deferred.ofValue, invoke, hf (args.map a.eval) w]
 rw [hrun]
 refine ⟨Gr.refl w, ?_⟩
 have := hF.go ok w _ ha.lt hr
 have he : (args.toList.map a.eval).toArray = args.map a.eval := by
  apply Array.ext'
  simp
 rw [he] at this
 refine this.mono ?_
 rintro e w' ⟨hg, v, r, rfl, hr, hv⟩
 exact ⟨v, rfl, hg, r, hr, hv⟩
theorem ES.call {t : Tmp} {f : FuncId} {args : Array Operand} {tys : Array TypeId} {ds ds' : List D} {r : R} (hF : Fn f ds' (· = r)) (ho : o.op = .call { callee := .value (.func f), args := args, argTypes := tys }) (hx : evs ⟨rs, os, fs⟩ args.toList = some ds) (hf : Enters f) (hR : aj fs ds ds') (hg : guardOf ops ⟨rs, os, fs⟩ o = some true) (hd : o.dst = some t) (hN : Nat.blt t N = true) (k : EL X ops Q l ⟨(t, r) :: rs, os, fs⟩) : EL X ops Q (o :: l) ⟨rs, os, fs⟩ :=
 EL.grow hg (fJ hd hN) (rY hF ho hx hf hR) (by rw [hd]; exact k)
theorem ES.grow {t : Tmp} {r : R} (hO : ig ops ⟨rs, os, fs⟩ o (· = r)) (hg : guardOf ops ⟨rs, os, fs⟩ o = some true) (hd : o.dst = some t) (hN : Nat.blt t N = true) (k : EL X ops Q l ⟨(t, r) :: rs, os, fs⟩) : EL X ops Q (o :: l) ⟨rs, os, fs⟩ := EL.grow hg (fJ hd hN) hO (by rw [hd]; exact k)
theorem EH.still {t : Tmp} {r : R} (hO : Still ops ⟨rs, os, fs⟩ o r) (hg : guardOf ops ⟨rs, os, fs⟩ o = some true) (ht : o.dst = some t) (hd : dL N (some t) E = true) (k : EM N ops T l ⟨(t, r) :: rs, os, fs⟩ E) : EM N ops T (o :: l) ⟨rs, os, fs⟩ E := EM.still hg (by rw [ht]; exact hd) hO (by rw [ht]; exact k)
theorem EH.skip {t : Tmp} (hg : guardOf ops ⟨rs, os, fs⟩ o = some false) (ht : o.dst = some t) (hd : dL N (some t) E = true) (k : EM N ops T l ⟨(t, .tpl []) :: rs, os, fs⟩ E) : EM N ops T (o :: l) ⟨rs, os, fs⟩ E := EM.skip hg (by rw [ht]; exact hd) (by rw [ht]; exact k)
theorem EH.grow {t : Tmp} {r : R} (hO : ig ops ⟨rs, os, fs⟩ o (· = r)) (hg : guardOf ops ⟨rs, os, fs⟩ o = some true) (ht : o.dst = some t) (hd : dL N (some t) E = true) (k : EM N ops T l ⟨(t, r) :: rs, os, fs⟩ E) : EM N ops T (o :: l) ⟨rs, os, fs⟩ E := EM.grow hg (by rw [ht]; exact hd) hO (by rw [ht]; exact k)
theorem EH.call {t : Tmp} {f : FuncId} {args : Array Operand} {tys : Array TypeId} {ds ds' : List D} {r : R} (hF : Fn f ds' (· = r)) (ho : o.op = .call { callee := .value (.func f), args := args, argTypes := tys }) (hx : evs ⟨rs, os, fs⟩ args.toList = some ds) (hf : Enters f) (hR : aj fs ds ds') (hg : guardOf ops ⟨rs, os, fs⟩ o = some true) (ht : o.dst = some t) (hd : dL N (some t) E = true) (k : EM N ops T l ⟨(t, r) :: rs, os, fs⟩ E) : EM N ops T (o :: l) ⟨rs, os, fs⟩ E :=
 EM.grow hg (by rw [ht]; exact hd) (rY hF ho hx hf hR) (by rw [ht]; exact k)
theorem EH.alloc {t : Tmp} {Ty : TypeId} {d : D} (ho : o.op = .alloc Ty) (hz : assoc bY Ty = some d) (ht : o.dst = some t) (hg : guardOf ops ⟨rs, os, fs⟩ o = some true) (hd : dL N (some t) E = true) (k : EM N ops T l ⟨(t, .any) :: rs, os, fs⟩ (E ++ [(t, Ty, d)])) : EM N ops T (o :: l) ⟨rs, os, fs⟩ E := EM.new hg ht hd (rO ho (sW hz)) k
theorem EH.box {t : Tmp} {Ty : TypeId} {x : Operand} {d : D} (ho : o.op = .box Ty x) (hx : ev ⟨rs, os, fs⟩ x = some (.val d)) (ht : o.dst = some t) (hg : guardOf ops ⟨rs, os, fs⟩ o = some true) (hd : dL N (some t) E = true) (k : EM N ops T l ⟨(t, .any) :: rs, os, fs⟩ (E ++ [(t, Ty, d)])) : EM N ops T (o :: l) ⟨rs, os, fs⟩ E := EM.new hg ht hd (Bf ho hx) k
theorem uO {T : Nat} {parts : Array (Nat × Operand)} {l : List (Nat × Nat × Bool)} {d0 d : D} {ps : List (Nat × D)} (ho : o.op = .build T parts) (hx : jJ S parts.toList = some ps) (hT : assoc stL T = some l) (hz : assoc bY T = some d0) (hd0 : d0.agg = true) (hf : mg (l.map fun x => (x.1, x.2.1)) d0 ps = some d) : Still ops S o (.val d) := ED ho hx (stI hT) (sW hz) hd0 hf
theorem qI {T n e z : Nat} {d : D} (ho : o.op = .build T #[]) (hT : assoc arL T = some (n, e, z)) (hz : assoc bY T = some d) (hd : d.agg = true) : Still ops S o (.val d) := BQ ho (JX hT) (sW hz) hd
def Ej (n z : Nat) : Bool := Nat.blt 0 n && Nat.blt 0 z && Nat.ble (n * z) 16777216
def allB (z : Nat) (ps : List (Nat × D)) : Bool := ps.all fun p => p.2.size == z
theorem kN {T e z y n : Nat} {parts : Array (Nat × Operand)} {ps : List (Nat × D)} {ds : List D} {d0 : D} (ho : o.op = .buildSlice T n parts) (hx : jJ S parts.toList = some ps) (hT : assoc slL T = some (e, z, y)) (hz : assoc bY e = some d0) (hin : jg 0 ps = some ds) (hsz : allB z ps = true) (hn : ps.length = n) (h0 : Ej n z = true) : ig ops S o (· = .val (.sl z ds)) := by
 simp only [Ej, LM, Nat.blt_eq, Nat.ble_eq] at h0
 exact uF ho hx (slI hT) (sW hz) hin (fun p hp => by simpa using KQ.1 hsz p hp) hn h0.1 h0.2
theorem uN {x : Operand} {T k off sz g n : Nat} {ag : Bool} {l : List (Nat × Nat × Bool)} (ho : o.op = .fieldAddr T x k) (hx : ev S x = some (.val (.v (.pointer (some ⟨g, n, none⟩))))) (h : assoc stL T = some l) (hk : l[k]? = some (off, sz, ag)) (h0 : Nat.blt 0 sz = true) : Still ops S o (.val (.v (.pointer (some ⟨g, n + off, none⟩)))) := Ez ho hx (H8 h hk h0)
theorem l7 {x : Operand} {T k off sz : Nat} {ag : Bool} {d d' : D} {l : List (Nat × Nat × Bool)} (ho : o.op = .fieldAddr T x k) (hx : ev S x = some (.val (.pd d))) (h : assoc stL T = some l) (hk : l[k]? = some (off, sz, ag)) (h0 : Nat.blt 0 sz = true) (hs : d.sub off sz ag = some d') : Still ops S o (.val (.pd d')) := xE ho hx (H8 h hk h0) hs
theorem yE {x : Operand} {T sz g n : Nat} {ag : Bool} {t : TypeId} {d d' : D} (i : Nat) (ho : o.op = .load T x) (hx : ev S x = some (.val (.v (.pointer (some ⟨g, n, none⟩))))) (hi : S.objs[i]? = some (.var g t d)) (hT : assoc tyL T = some (sz, ag)) (hs : d.sub n sz ag = some d') : Still ops S o (.val d') := H6 i ho hx hi (tyI hT) hs
theorem oG {x : Operand} {T sz : Nat} {ag : Bool} {d d' : D} (ho : o.op = .load T x) (hx : ev S x = some (.val (.pd d))) (hT : assoc tyL T = some (sz, ag)) (hs : d.sub 0 sz ag = some d') : Still ops S o (.val d') := zI ho hx (tyI hT) hs
theorem BP {x y : Operand} {T e z b : Nat} {k : Int} {ds : List D} (ho : o.op = .indexAddr T x y) (hx : ev S x = some (.val (.sl z ds))) (hy : ev S y = some (.val (.v (.int .i64 k)))) (hT : assoc slL T = some (e, z, b)) (hz : Nat.blt 0 z = true) (h0 : 0 ≤ k) (hk : k.toNat < ds.length) : Still ops S o (.val (.pd ds[k.toNat])) := Ey ho hx hy (slI hT) (by simpa using hz) h0 hk
theorem uK {x y : Operand} {T e b : Nat} {k : Int} {l : List UInt8} (ho : o.op = .indexAddr T x y) (hx : ev S x = some (.val (.bs l))) (hy : ev S y = some (.val (.v (.int .i64 k)))) (hT : assoc slL T = some (e, 1, b)) (h0 : 0 ≤ k) (hk : k.toNat < l.length) : Still ops S o (.val (.pd (.v (bv l[k.toNat])))) := xC ho hx hy (slI hT) h0 hk
theorem qG {x : Operand} {T e z y : Nat} {l : List UInt8} (ho : o.op = .call { callee := .builtin .len, args := #[x], argTypes := #[T] }) (hx : ev S x = some (.val (.bs l))) (hT : assoc slL T = some (e, z, y)) : Still ops S o (.val (.v (.int .i64 l.length))) := BO ho hx (slI hT).und
theorem qF {x : Operand} {T e z y z' : Nat} {ds : List D} (ho : o.op = .call { callee := .builtin .len, args := #[x], argTypes := #[T] }) (hx : ev S x = some (.val (.sl z' ds))) (hT : assoc slL T = some (e, z, y)) : Still ops S o (.val (.v (.int .i64 ds.length))) := BN ho hx (slI hT).und
theorem oI {x : Operand} {T e n c z y : Nat} {A : Option Addr} (ho : o.op = .call { callee := .builtin .len, args := #[x], argTypes := #[T] }) (hx : ev S x = some (.val (.v (.slice A n c)))) (hT : assoc slL T = some (e, z, y)) : Still ops S o (.val (.v (.int .i64 n))) := zK ho hx (slI hT).und
theorem oH {x : Operand} {T e e' z z' y : Nat} {v : Value} {ds : List D} (i : Nat) (ho : o.op = .call { callee := .builtin .len, args := #[x], argTypes := #[T] }) (hx : ev S x = some (.val (.v v))) (hi : S.objs[i]? = some (.row v e' z ds)) (hT : assoc slL T = some (e, z', y)) : Still ops S o (.val (.v (.int .i64 ds.length))) := zJ i ho hx hi (slI hT).und
theorem ES.append {t : Tmp} {T e z y : Nat} {s x : Operand} {v : Value} {ds es : List D} (i : Nat) (ho : o.op = .call { callee := .builtin .append, args := #[s, x], argTypes := #[T, T] }) (hT : assoc slL T = some (e, z, y)) (hz : Nat.blt 0 z = true)
  (hs : ev ⟨rs, os, fs⟩ s = some (.val (.v v))) (hi : os[i]? = some (.row v e z ds)) (hx : ev ⟨rs, os, fs⟩ x = some (.val (.sl z es))) (hg : guardOf ops ⟨rs, os, fs⟩ o = some true) (hd : o.dst = some t) (hN : Nat.blt t N = true) (hlen : (ds.length + es.length) * y ≤ 140737488355328 ∧ ds.length + es.length ≤ 9223372036854775807)
  (k : ∀ v', EL X ops Q l ⟨(t, .val (.v v')) :: rs, os.set i (.row v' e z (ds ++ es)), fs⟩) : EL X ops Q (o :: l) ⟨rs, os, fs⟩ := EL.append i ho hg (fJ hd hN) (I9 hT hz) hs hi hx hlen fun v' => by rw [hd]; exact k v'
theorem EH.nil {l' : List Oper} {F : List Fr} (hF : F = []) (h : EL X ops Q l' S) : EM N ops (fun S' E => nV (EL X ops Q l') E S') [] S F := by
 subst hF
 exact h
theorem EH.Jg {l' : List Oper} {t : Tmp} {Ty : TypeId} {d : D} {F : List Fr} (hF : F = [(t, Ty, d)]) (h : ∀ g, EL X ops Q l' ⟨(t, .val (.v (.pointer (some ⟨g, 0, none⟩)))) :: rs, .var g Ty d :: os, fs⟩) : EM N ops (fun S' E => nV (EL X ops Q l') E S') [] ⟨rs, os, fs⟩ F := by
 subst hF
 exact h
theorem EH.JQ {l' : List Oper} {t t' : Tmp} {Ty Ty' : TypeId} {d d' : D} {F : List Fr} (hF : F = [(t, Ty, d), (t', Ty', d')]) (h : ∀ g g', EL X ops Q l' ⟨(t', .val (.v (.pointer (some ⟨g', 0, none⟩)))) :: (t, .val (.v (.pointer (some ⟨g, 0, none⟩)))) :: rs, .var g' Ty' d' :: .var g Ty d :: os, fs⟩) : EM N ops (fun S' E => nV (EL X ops Q l') E S') [] ⟨rs, os, fs⟩ F := by
 subst hF
 exact h
end
section
variable {N : Nat} {X : Cx N} {S S' : St} {ops : Array Oper} {o : Oper} {Q : Exit → Act → World → Prop} {l : List Oper} {TT : St → List Fr → Prop} {EE : List Fr} {rs : List (Tmp × R)} {os : List Obj} {fs : List (Value × D)}
abbrev PS {N : Nat} (X : Cx N) (ops : Array Oper) (Q : Exit → Act → World → Prop) (l : List Oper) (rs : List (Tmp × R)) (os : List Obj) (fs : List (Value × D)) (t ty : Nat) (pos : String) (af : Array Edge) (gd : Option (Nat × Bool)) (op : Op) (r : R) : Prop := guardOf ops ⟨rs, os, fs⟩ ⟨some t, op, ty, pos, af, gd⟩ = some true → Nat.blt t N = true → EL X ops Q l ⟨(t, r) :: rs, os, fs⟩ → EL X ops Q (⟨some t, op, ty, pos, af, gd⟩ :: l) ⟨rs, os, fs⟩
abbrev HS (N : Nat) (ops : Array Oper) (TT : St → List Fr → Prop) (l : List Oper) (rs : List (Tmp × R)) (os : List Obj) (fs : List (Value × D)) (EE : List Fr) (t ty : Nat) (pos : String) (af : Array Edge) (gd : Option (Nat × Bool)) (op : Op) (r : R) : Prop := guardOf ops ⟨rs, os, fs⟩ ⟨some t, op, ty, pos, af, gd⟩ = some true → dL N (some t) EE = true → EM N ops TT l ⟨(t, r) :: rs, os, fs⟩ EE → EM N ops TT (⟨some t, op, ty, pos, af, gd⟩ :: l) ⟨rs, os, fs⟩ EE
abbrev eV (rs : List (Tmp × R)) (os : List Obj) (fs : List (Value × D)) (x : Operand) (d : D) : Prop := ev (⟨rs, os, fs⟩ : St) x = some (.val d)
variable {t ty : Nat} {pos : String} {af : Array Edge} {gd : Option (Nat × Bool)}
inductive jP : List Obj → Obj → Obj → List Obj → Prop where
 | z {p q : Obj} {m : List Obj} : jP (p :: m) p q (q :: m)
 | s {a p q : Obj} {m m' : List Obj} (h : jP m p q m') : jP (a :: m) p q (a :: m')
theorem jP.ix {p q : Obj} {m m' : List Obj} (h : jP m p q m') : ∃ i : Nat, m[i]? = some p ∧ m' = m.set i q := by
 induction h with
 | z => exact ⟨0, rfl, rfl⟩
 | s h ih =>
  obtain ⟨i, h1, h2⟩ := ih
  exact ⟨i + 1, by simpa using h1, by rw [h2]; rfl⟩
inductive jY : List Obj → Obj → (Value → Obj) → (Value → List Obj) → Prop where
 | z {p : Obj} {q : Value → Obj} {m : List Obj} : jY (p :: m) p q (fun v => q v :: m)
 | s {a p : Obj} {q : Value → Obj} {m : List Obj} {m' : Value → List Obj} (h : jY m p q m') : jY (a :: m) p q (fun v => a :: m' v)
theorem jY.ix {p : Obj} {q : Value → Obj} {m : List Obj} {m' : Value → List Obj} (h : jY m p q m') : ∃ i : Nat, m[i]? = some p ∧ ∀ v, m' v = m.set i (q v) := by
 induction h with
 | z => exact ⟨0, rfl, fun v => rfl⟩
 | s h ih =>
  obtain ⟨i, h1, h2⟩ := ih
  exact ⟨i + 1, by simpa using h1, fun v => congrArg (List.cons _) (h2 v)⟩
theorem I0 {α : Type} {a : α} {m : List α} : (a :: m)[0]? = some a := rfl
theorem I1 {α : Type} {o0 a : α} {m : List α} : (o0 :: a :: m)[1]? = some a := rfl
theorem I2 {α : Type} {o0 o1 a : α} {m : List α} : (o0 :: o1 :: a :: m)[2]? = some a := rfl
theorem I3 {α : Type} {o0 o1 o2 a : α} {m : List α} : (o0 :: o1 :: o2 :: a :: m)[3]? = some a := rfl
theorem I4 {α : Type} {o0 o1 o2 o3 a : α} {m : List α} : (o0 :: o1 :: o2 :: o3 :: a :: m)[4]? = some a := rfl
theorem I5 {α : Type} {o0 o1 o2 o3 o4 a : α} {m : List α} : (o0 :: o1 :: o2 :: o3 :: o4 :: a :: m)[5]? = some a := rfl
theorem I6 {α : Type} {o0 o1 o2 o3 o4 o5 a : α} {m : List α} : (o0 :: o1 :: o2 :: o3 :: o4 :: o5 :: a :: m)[6]? = some a := rfl
def Bin (op : BinOp) (T : TypeId) (d e : D) (c : Value) : Prop := c.oneCell' = true ∧ ∀ ok w p q, aP ok w d p → aP ok w e q → (∀ x y, (eqGuard op T x y p q).run Tryz.prog w = .ok () w) ∧ (binOp op T p q).run Tryz.prog w = .ok c w
theorem BR {x y : Operand} {op : BinOp} {T U : TypeId} {d e : D} {c : Value} (ho : o.op = .binOp op T x y U) (hx : ev S x = some (.val d)) (hy : ev S y = some (.val e)) (h : Bin op T d e c) : Still ops S o (.val (.v c)) :=
 Ju ho hx hy h.1 fun ok w p q hp hq => ⟨(h.2 ok w p q hp hq).1 x y, (h.2 ok w p q hp hq).2⟩
theorem uM {x y : Operand} {T e z b : Nat} {k : Int} {ds : List D} {d : D} (ho : o.op = .indexAddr T x y) (hx : ev S x = some (.val (.sl z ds))) (hy : ev S y = some (.val (.v (.int .i64 k)))) (hT : assoc slL T = some (e, z, b)) (hz : Nat.blt 0 z = true) (hk : 0 ≤ k ∧ ds[k.toNat]? = some d) : Still ops S o (.val (.pd d)) := by
 obtain ⟨h1, h2⟩ := Kw.1 hk.2
 subst h2
 exact BP ho hx hy hT hz hk.1 h1
theorem lZ {x y : Operand} {T e b : Nat} {k : Int} {l1 : List UInt8} {c : UInt8} (ho : o.op = .indexAddr T x y) (hx : ev S x = some (.val (.bs l1))) (hy : ev S y = some (.val (.v (.int .i64 k)))) (hT : assoc slL T = some (e, 1, b)) (hk : 0 ≤ k ∧ l1[k.toNat]? = some c) : Still ops S o (.val (.pd (.v (bv c)))) := by
 obtain ⟨h1, h2⟩ := Kw.1 hk.2
 subst h2
 exact uK ho hx hy hT hk.1 h1
theorem Iz {x : Operand} {r : R} (hx : ev (⟨rs, os, fs⟩ : St) x = some r) : PS X ops Q l rs os fs t ty pos af gd (.move x) (r) := fun hg hN kk => ES.still (BL rfl hx) hg rfl hN kk
theorem IK {x : Operand} {r : R} (hx : ev (⟨rs, os, fs⟩ : St) x = some r) : HS N ops TT l rs os fs EE t ty pos af gd (.move x) (r) := fun hg hoff kk => EH.still (BL rfl hx) hg rfl hoff kk
theorem Dy {x : Operand} {r : R} (hx : ev (⟨rs, os, fs⟩ : St) x = some r) : PS X ops Q l rs os fs t ty pos af gd (.assign x) (r) := fun hg hN kk => ES.still (uP rfl hx) hg rfl hN kk
theorem DU {x : Operand} {r : R} (hx : ev (⟨rs, os, fs⟩ : St) x = some r) : HS N ops TT l rs os fs EE t ty pos af gd (.assign x) (r) := fun hg hoff kk => EH.still (uP rfl hx) hg rfl hoff kk
theorem Ad {x : Operand} {i : Nat} {ds : List D} {d : D} (hx : ev (⟨rs, os, fs⟩ : St) x = some (.tpl ds)) (hd : ds[i]? = some d) : PS X ops Q l rs os fs t ty pos af gd (.extract x i) (.val d) := fun hg hN kk => ES.still (qH rfl hx hd) hg rfl hN kk
theorem Ai {x : Operand} {i : Nat} {ds : List D} {d : D} (hx : ev (⟨rs, os, fs⟩ : St) x = some (.tpl ds)) (hd : ds[i]? = some d) : HS N ops TT l rs os fs EE t ty pos af gd (.extract x i) (.val d) := fun hg hoff kk => EH.still (qH rfl hx hd) hg rfl hoff kk
theorem Iy {c x y : Operand} {b : Bool} {r : R} (hc : eV rs os fs c (.v (.bool b))) (hx : ev (⟨rs, os, fs⟩ : St) (if b then x else y) = some r) : PS X ops Q l rs os fs t ty pos af gd (.pick c x y) (r) := fun hg hN kk => ES.still (BK rfl hc hx) hg rfl hN kk
theorem IJ {c x y : Operand} {b : Bool} {r : R} (hc : eV rs os fs c (.v (.bool b))) (hx : ev (⟨rs, os, fs⟩ : St) (if b then x else y) = some r) : HS N ops TT l rs os fs EE t ty pos af gd (.pick c x y) (r) := fun hg hoff kk => EH.still (BK rfl hc hx) hg rfl hoff kk
theorem FK {x : Operand} {T k off sz g n : Nat} {ag : Bool} {lf : List (Nat × Nat × Bool)} (hx : ev (⟨rs, os, fs⟩ : St) x = some (.val (.v (.pointer (some ⟨g, n, none⟩))))) (h : assoc stL T = some lf) (hk : lf[k]? = some (off, sz, ag)) (h0 : Nat.blt 0 sz = true) : PS X ops Q l rs os fs t ty pos af gd (.fieldAddr T x k) (.val (.v (.pointer (some ⟨g, n + off, none⟩)))) := fun hg hN kk => ES.still (uN rfl hx h hk h0) hg rfl hN kk
theorem FZ {x : Operand} {T k off sz g n : Nat} {ag : Bool} {lf : List (Nat × Nat × Bool)} (hx : ev (⟨rs, os, fs⟩ : St) x = some (.val (.v (.pointer (some ⟨g, n, none⟩))))) (h : assoc stL T = some lf) (hk : lf[k]? = some (off, sz, ag)) (h0 : Nat.blt 0 sz = true) : HS N ops TT l rs os fs EE t ty pos af gd (.fieldAddr T x k) (.val (.v (.pointer (some ⟨g, n + off, none⟩)))) := fun hg hoff kk => EH.still (uN rfl hx h hk h0) hg rfl hoff kk
theorem Ac {x : Operand} {T k off sz : Nat} {ag : Bool} {d d' : D} {lf : List (Nat × Nat × Bool)} (hx : eV rs os fs x (.pd d)) (h : assoc stL T = some lf) (hk : lf[k]? = some (off, sz, ag)) (h0 : Nat.blt 0 sz = true) (hs : d.sub off sz ag = some d') : PS X ops Q l rs os fs t ty pos af gd (.fieldAddr T x k) (.val (.pd d')) := fun hg hN kk => ES.still (l7 rfl hx h hk h0 hs) hg rfl hN kk
theorem Ah {x : Operand} {T k off sz : Nat} {ag : Bool} {d d' : D} {lf : List (Nat × Nat × Bool)} (hx : eV rs os fs x (.pd d)) (h : assoc stL T = some lf) (hk : lf[k]? = some (off, sz, ag)) (h0 : Nat.blt 0 sz = true) (hs : d.sub off sz ag = some d') : HS N ops TT l rs os fs EE t ty pos af gd (.fieldAddr T x k) (.val (.pd d')) := fun hg hoff kk => EH.still (l7 rfl hx h hk h0 hs) hg rfl hoff kk
theorem Dq {x : Operand} {T sz : Nat} {ag : Bool} {d d' : D} (hx : eV rs os fs x (.pd d)) (hT : assoc tyL T = some (sz, ag)) (hs : d.sub 0 sz ag = some d') : PS X ops Q l rs os fs t ty pos af gd (.load T x) (.val d') := fun hg hN kk => ES.still (oG rfl hx hT hs) hg rfl hN kk
theorem DK {x : Operand} {T sz : Nat} {ag : Bool} {d d' : D} (hx : eV rs os fs x (.pd d)) (hT : assoc tyL T = some (sz, ag)) (hs : d.sub 0 sz ag = some d') : HS N ops TT l rs os fs EE t ty pos af gd (.load T x) (.val d') := fun hg hoff kk => EH.still (oG rfl hx hT hs) hg rfl hoff kk
theorem FH {x : Operand} {T e z y : Nat} {b : List UInt8} (hx : eV rs os fs x (.bs b)) (hT : assoc slL T = some (e, z, y)) : PS X ops Q l rs os fs t ty pos af gd (.call { callee := .builtin .len, args := #[x], argTypes := #[T] }) (.val (.v (.int .i64 b.length))) := fun hg hN kk => ES.still (qG rfl hx hT) hg rfl hN kk
theorem FX {x : Operand} {T e z y : Nat} {b : List UInt8} (hx : eV rs os fs x (.bs b)) (hT : assoc slL T = some (e, z, y)) : HS N ops TT l rs os fs EE t ty pos af gd (.call { callee := .builtin .len, args := #[x], argTypes := #[T] }) (.val (.v (.int .i64 b.length))) := fun hg hoff kk => EH.still (qG rfl hx hT) hg rfl hoff kk
theorem FD {x : Operand} {T e z y z' : Nat} {ds : List D} (hx : eV rs os fs x (.sl z' ds)) (hT : assoc slL T = some (e, z, y)) : PS X ops Q l rs os fs t ty pos af gd (.call { callee := .builtin .len, args := #[x], argTypes := #[T] }) (.val (.v (.int .i64 ds.length))) := fun hg hN kk => ES.still (qF rfl hx hT) hg rfl hN kk
theorem FW {x : Operand} {T e z y z' : Nat} {ds : List D} (hx : eV rs os fs x (.sl z' ds)) (hT : assoc slL T = some (e, z, y)) : HS N ops TT l rs os fs EE t ty pos af gd (.call { callee := .builtin .len, args := #[x], argTypes := #[T] }) (.val (.v (.int .i64 ds.length))) := fun hg hoff kk => EH.still (qF rfl hx hT) hg rfl hoff kk
theorem IC {x : Operand} {T e n c z y : Nat} {A : Option Addr} (hx : eV rs os fs x (.v (.slice A n c))) (hT : assoc slL T = some (e, z, y)) : PS X ops Q l rs os fs t ty pos af gd (.call { callee := .builtin .len, args := #[x], argTypes := #[T] }) (.val (.v (.int .i64 n))) := fun hg hN kk => ES.still (oI rfl hx hT) hg rfl hN kk
theorem IQ {x : Operand} {T e n c z y : Nat} {A : Option Addr} (hx : eV rs os fs x (.v (.slice A n c))) (hT : assoc slL T = some (e, z, y)) : HS N ops TT l rs os fs EE t ty pos af gd (.call { callee := .builtin .len, args := #[x], argTypes := #[T] }) (.val (.v (.int .i64 n))) := fun hg hoff kk => EH.still (oI rfl hx hT) hg rfl hoff kk
theorem qU {x y : Operand} {op : BinOp} {T U : TypeId} {k : IntKind} {m n : Int} {b : Bool} (hx : eV rs os fs x (.v (.int k m))) (hy : eV rs os fs y (.v (.int k n))) (hb : kT op m n = some b) : PS X ops Q l rs os fs t ty pos af gd (.binOp op T x y U) (.val (.v (.bool b))) := fun hg hN kk => ES.still (Gn rfl hx hy hb) hg rfl hN kk
theorem DR {x y : Operand} {op : BinOp} {T U : TypeId} {k : IntKind} {m n : Int} {b : Bool} (hx : eV rs os fs x (.v (.int k m))) (hy : eV rs os fs y (.v (.int k n))) (hb : kT op m n = some b) : HS N ops TT l rs os fs EE t ty pos af gd (.binOp op T x y U) (.val (.v (.bool b))) := fun hg hoff kk => EH.still (Gn rfl hx hy hb) hg rfl hoff kk
theorem JY {x y : Operand} {op : BinOp} {T U : TypeId} {m n s : Int} (hx : eV rs os fs x (.v (.int .i64 m))) (hy : eV rs os fs y (.v (.int .i64 n))) (hb : arI op m n = some s) (h1 : -9223372036854775808 ≤ s) (h2 : s ≤ 9223372036854775807) : PS X ops Q l rs os fs t ty pos af gd (.binOp op T x y U) (.val (.v (.int .i64 s))) := fun hg hN kk => ES.still (Jv rfl hx hy hb h1 h2) hg rfl hN kk
theorem J3 {x y : Operand} {op : BinOp} {T U : TypeId} {m n s : Int} (hx : eV rs os fs x (.v (.int .i64 m))) (hy : eV rs os fs y (.v (.int .i64 n))) (hb : arI op m n = some s) (h1 : -9223372036854775808 ≤ s) (h2 : s ≤ 9223372036854775807) : HS N ops TT l rs os fs EE t ty pos af gd (.binOp op T x y U) (.val (.v (.int .i64 s))) := fun hg hoff kk => EH.still (Jv rfl hx hy hb h1 h2) hg rfl hoff kk
theorem JF {x : Operand} {T : TypeId} {b : Bool} (hx : eV rs os fs x (.v (.bool b))) : PS X ops Q l rs os fs t ty pos af gd (.unOp .not T x) (.val (.v (.bool (!b)))) := fun hg hN kk => ES.still (Gl rfl hx) hg rfl hN kk
theorem JH {x : Operand} {T : TypeId} {b : Bool} (hx : eV rs os fs x (.v (.bool b))) : HS N ops TT l rs os fs EE t ty pos af gd (.unOp .not T x) (.val (.v (.bool (!b)))) := fun hg hoff kk => EH.still (Gl rfl hx) hg rfl hoff kk
theorem JE {x : Operand} {b : List UInt8} (hx : eV rs os fs x (.bs b)) : PS X ops Q l rs os fs t ty pos af gd (.convert 41 9 x) (.val (.v (.string (Go.Proofs.YtaoicebcdmpemaaGreat.bs b)))) := fun hg hN kk => ES.still (Gj rfl hx) hg rfl hN kk
theorem JG {x : Operand} {b : List UInt8} (hx : eV rs os fs x (.bs b)) : HS N ops TT l rs os fs EE t ty pos af gd (.convert 41 9 x) (.val (.v (.string (Go.Proofs.YtaoicebcdmpemaaGreat.bs b)))) := fun hg hoff kk => EH.still (Gj rfl hx) hg rfl hoff kk
theorem mJ {t ty : Nat} {pos : String} {af : Array Edge} {gd : Option (Nat × Bool)} {x y : Operand} {op : BinOp} {T U : TypeId} {d e : D} {c : Value} (hx : ev (⟨rs, os, fs⟩ : St) x = some (.val d) := by rfl) (hy : ev (⟨rs, os, fs⟩ : St) y = some (.val e) := by rfl) (hrun : Bin op T d e c) (hg : guardOf ops ⟨rs, os, fs⟩ ⟨some t, .binOp op T x y U, ty, pos, af, gd⟩ = some true := by rfl) (hN : Nat.blt t N = true := by rfl) (kk : EL X ops Q l ⟨(t, (.val (.v c))) :: rs, os, fs⟩) : EL X ops Q (⟨some t, .binOp op T x y U, ty, pos, af, gd⟩ :: l) ⟨rs, os, fs⟩ := ES.still (BR rfl hx hy hrun) hg rfl hN kk
theorem dR {t ty : Nat} {pos : String} {af : Array Edge} {gd : Option (Nat × Bool)} {x y : Operand} {op : BinOp} {T U : TypeId} {d e : D} {c : Value} (hx : ev (⟨rs, os, fs⟩ : St) x = some (.val d) := by rfl) (hy : ev (⟨rs, os, fs⟩ : St) y = some (.val e) := by rfl) (hrun : Bin op T d e c) (hg : guardOf ops ⟨rs, os, fs⟩ ⟨some t, .binOp op T x y U, ty, pos, af, gd⟩ = some true := by rfl) (hoff : dL N (some t) EE = true := by rfl) (kk : EM N ops TT l ⟨(t, (.val (.v c))) :: rs, os, fs⟩ EE) : EM N ops TT (⟨some t, .binOp op T x y U, ty, pos, af, gd⟩ :: l) ⟨rs, os, fs⟩ EE := EH.still (BR rfl hx hy hrun) hg rfl hoff kk
theorem FM {T : Nat} {parts : Array (Nat × Operand)} {lf : List (Nat × Nat × Bool)} {d0 d : D} {ps : List (Nat × D)} (hx : jJ (⟨rs, os, fs⟩ : St) parts.toList = some ps) (hT : assoc stL T = some lf) (hz : assoc bY T = some d0) (hd0 : d0.agg = true) (hf : mg (lf.map fun x => (x.1, x.2.1)) d0 ps = some d) : PS X ops Q l rs os fs t ty pos af gd (.build T parts) (.val d) := fun hg hN kk => ES.still (uO rfl hx hT hz hd0 hf) hg rfl hN kk
theorem F5 {T : Nat} {parts : Array (Nat × Operand)} {lf : List (Nat × Nat × Bool)} {d0 d : D} {ps : List (Nat × D)} (hx : jJ (⟨rs, os, fs⟩ : St) parts.toList = some ps) (hT : assoc stL T = some lf) (hz : assoc bY T = some d0) (hd0 : d0.agg = true) (hf : mg (lf.map fun x => (x.1, x.2.1)) d0 ps = some d) : HS N ops TT l rs os fs EE t ty pos af gd (.build T parts) (.val d) := fun hg hoff kk => EH.still (uO rfl hx hT hz hd0 hf) hg rfl hoff kk
theorem Dx {T n e z : Nat} {d : D} (hT : assoc arL T = some (n, e, z)) (hz : assoc bY T = some d) (hd : d.agg = true) : PS X ops Q l rs os fs t ty pos af gd (.build T #[]) (.val d) := fun hg hN kk => ES.still (qI rfl hT hz hd) hg rfl hN kk
theorem DT {T n e z : Nat} {d : D} (hT : assoc arL T = some (n, e, z)) (hz : assoc bY T = some d) (hd : d.agg = true) : HS N ops TT l rs os fs EE t ty pos af gd (.build T #[]) (.val d) := fun hg hoff kk => EH.still (qI rfl hT hz hd) hg rfl hoff kk
theorem FI {x y : Operand} {T e z b : Nat} {k : Int} {ds : List D} {d : D} (hx : eV rs os fs x (.sl z ds)) (hy : eV rs os fs y (.v (.int .i64 k))) (hT : assoc slL T = some (e, z, b)) (hz : Nat.blt 0 z = true) (hk : 0 ≤ k ∧ ds[k.toNat]? = some d) : PS X ops Q l rs os fs t ty pos af gd (.indexAddr T x y) (.val (.pd d)) := fun hg hN kk => ES.still (uM rfl hx hy hT hz hk) hg rfl hN kk
theorem FY {x y : Operand} {T e z b : Nat} {k : Int} {ds : List D} {d : D} (hx : eV rs os fs x (.sl z ds)) (hy : eV rs os fs y (.v (.int .i64 k))) (hT : assoc slL T = some (e, z, b)) (hz : Nat.blt 0 z = true) (hk : 0 ≤ k ∧ ds[k.toNat]? = some d) : HS N ops TT l rs os fs EE t ty pos af gd (.indexAddr T x y) (.val (.pd d)) := fun hg hoff kk => EH.still (uM rfl hx hy hT hz hk) hg rfl hoff kk
theorem Aa {x y : Operand} {T e b : Nat} {k : Int} {l1 : List UInt8} {c : UInt8} (hx : eV rs os fs x (.bs l1)) (hy : eV rs os fs y (.v (.int .i64 k))) (hT : assoc slL T = some (e, 1, b)) (hk : 0 ≤ k ∧ l1[k.toNat]? = some c) : PS X ops Q l rs os fs t ty pos af gd (.indexAddr T x y) (.val (.pd (.v (bv c)))) := fun hg hN kk => ES.still (lZ rfl hx hy hT hk) hg rfl hN kk
theorem Af {x y : Operand} {T e b : Nat} {k : Int} {l1 : List UInt8} {c : UInt8} (hx : eV rs os fs x (.bs l1)) (hy : eV rs os fs y (.v (.int .i64 k))) (hT : assoc slL T = some (e, 1, b)) (hk : 0 ≤ k ∧ l1[k.toNat]? = some c) : HS N ops TT l rs os fs EE t ty pos af gd (.indexAddr T x y) (.val (.pd (.v (bv c)))) := fun hg hoff kk => EH.still (lZ rfl hx hy hT hk) hg rfl hoff kk
theorem IB {x : Operand} {T sz g n i : Nat} {ag : Bool} {t0 : TypeId} {d d' : D} (hx : ev (⟨rs, os, fs⟩ : St) x = some (.val (.v (.pointer (some ⟨g, n, none⟩))))) (hi : os[i]? = some (.var g t0 d)) (hT : assoc tyL T = some (sz, ag)) (hs : d.sub n sz ag = some d') : PS X ops Q l rs os fs t ty pos af gd (.load T x) (.val d') := fun hg hN kk => ES.still (yE i rfl hx hi hT hs) hg rfl hN kk
theorem IL {x : Operand} {T sz g n i : Nat} {ag : Bool} {t0 : TypeId} {d d' : D} (hx : ev (⟨rs, os, fs⟩ : St) x = some (.val (.v (.pointer (some ⟨g, n, none⟩))))) (hi : os[i]? = some (.var g t0 d)) (hT : assoc tyL T = some (sz, ag)) (hs : d.sub n sz ag = some d') : HS N ops TT l rs os fs EE t ty pos af gd (.load T x) (.val d') := fun hg hoff kk => EH.still (yE i rfl hx hi hT hs) hg rfl hoff kk
theorem jv {x : Operand} {T e e' z z' y i : Nat} {v : Value} {ds : List D} (hx : eV rs os fs x (.v v)) (hi : os[i]? = some (.row v e' z ds)) (hT : assoc slL T = some (e, z', y)) : PS X ops Q l rs os fs t ty pos af gd (.call { callee := .builtin .len, args := #[x], argTypes := #[T] }) (.val (.v (.int .i64 ds.length))) := fun hg hN kk => ES.still (oH i rfl hx hi hT) hg rfl hN kk
theorem DL {x : Operand} {T e e' z z' y i : Nat} {v : Value} {ds : List D} (hx : eV rs os fs x (.v v)) (hi : os[i]? = some (.row v e' z ds)) (hT : assoc slL T = some (e, z', y)) : HS N ops TT l rs os fs EE t ty pos af gd (.call { callee := .builtin .len, args := #[x], argTypes := #[T] }) (.val (.v (.int .i64 ds.length))) := fun hg hoff kk => EH.still (oH i rfl hx hi hT) hg rfl hoff kk
set_option maxRecDepth 100000 in
theorem Dt {T n e z y : Nat} {parts : Array (Nat × Operand)} {ps : List (Nat × D)} {ds : List D} {d0 : D} (hx : jJ (⟨rs, os, fs⟩ : St) parts.toList = some ps) (hT : assoc slL T = some (e, z, y)) (hz : assoc bY e = some d0) (hin : jg 0 ps = some ds) (hsz : allB z ps = true) (hn : ps.length = n) (h0 : Ej n z = true) : PS X ops Q l rs os fs t ty pos af gd (.buildSlice T n parts) (.val (.sl z ds)) := fun hg hN kk => ES.grow (kN (T := T) (n := n) (z := z) (parts := parts) rfl hx hT hz hin hsz hn h0) hg rfl hN kk
set_option maxRecDepth 100000 in
theorem JI {T n e z y : Nat} {parts : Array (Nat × Operand)} {ps : List (Nat × D)} {ds : List D} {d0 : D} (hx : jJ (⟨rs, os, fs⟩ : St) parts.toList = some ps) (hT : assoc slL T = some (e, z, y)) (hz : assoc bY e = some d0) (hin : jg 0 ps = some ds) (hsz : allB z ps = true) (hn : ps.length = n) (h0 : Ej n z = true) : HS N ops TT l rs os fs EE t ty pos af gd (.buildSlice T n parts) (.val (.sl z ds)) := fun hg hoff kk => EH.grow (kN (T := T) (n := n) (z := z) (parts := parts) rfl hx hT hz hin hsz hn h0) hg rfl hoff kk
theorem bG {t ty f : Nat} {pos : String} {af : Array Edge} {gd : Option (Nat × Bool)} {args : Array Operand} {tys : Array TypeId} {ds ds' : List D} {r : R} (hF : Fn f ds' (· = r)) (hx : evs (⟨rs, os, fs⟩ : St) args.toList = some ds := by rfl) (hR : aj fs ds ds' := by exact RL.a) (hf : Enters f := by exact enA) (hg : guardOf ops ⟨rs, os, fs⟩ ⟨some t, .call { callee := .value (.func f), args := args, argTypes := tys }, ty, pos, af, gd⟩ = some true := by rfl) (hN : Nat.blt t N = true := by rfl) (kk : EL X ops Q l ⟨(t, r) :: rs, os, fs⟩) : EL X ops Q (⟨some t, .call { callee := .value (.func f), args := args, argTypes := tys }, ty, pos, af, gd⟩ :: l) ⟨rs, os, fs⟩ := ES.call hF rfl hx hf hR hg rfl hN kk
theorem bP {t ty f : Nat} {pos : String} {af : Array Edge} {gd : Option (Nat × Bool)} {args : Array Operand} {tys : Array TypeId} {ds ds' : List D} {r : R} (hF : Fn f ds' (· = r)) (hx : evs (⟨rs, os, fs⟩ : St) args.toList = some ds := by rfl) (hR : aj fs ds ds' := by exact RL.a) (hf : Enters f := by exact enA) (hg : guardOf ops ⟨rs, os, fs⟩ ⟨some t, .call { callee := .value (.func f), args := args, argTypes := tys }, ty, pos, af, gd⟩ = some true := by rfl) (hoff : dL N (some t) EE = true := by rfl) (kk : EM N ops TT l ⟨(t, r) :: rs, os, fs⟩ EE) : EM N ops TT (⟨some t, .call { callee := .value (.func f), args := args, argTypes := tys }, ty, pos, af, gd⟩ :: l) ⟨rs, os, fs⟩ EE := EH.call hF rfl hx hf hR hg rfl hoff kk
theorem Iw {t ty : Nat} {op : Op} {pos : String} {af : Array Edge} {gd : Nat × Bool} (hg : guardOf ops ⟨rs, os, fs⟩ ⟨some t, op, ty, pos, af, some gd⟩ = some false) (hN : Nat.blt t N = true) (kk : EL X ops Q l ⟨(t, .tpl []) :: rs, os, fs⟩) : EL X ops Q (⟨some t, op, ty, pos, af, some gd⟩ :: l) ⟨rs, os, fs⟩ := ES.skip hg rfl hN kk
theorem II {t ty : Nat} {op : Op} {pos : String} {af : Array Edge} {gd : Nat × Bool} (hg : guardOf ops ⟨rs, os, fs⟩ ⟨some t, op, ty, pos, af, some gd⟩ = some false) (hoff : dL N (some t) EE = true) (kk : EM N ops TT l ⟨(t, .tpl []) :: rs, os, fs⟩ EE) : EM N ops TT (⟨some t, op, ty, pos, af, some gd⟩ :: l) ⟨rs, os, fs⟩ EE := EH.skip hg rfl hoff kk
theorem FQ {t ty T : Nat} {pos : String} {af : Array Edge} {gd : Option (Nat × Bool)} {d : D} (hz : assoc bY T = some d) (hg : guardOf ops ⟨rs, os, fs⟩ ⟨some t, .alloc T, ty, pos, af, gd⟩ = some true) (hN : Nat.blt t N = true) (kk : ∀ g, EL X ops Q l ⟨(t, .val (.v (.pointer (some ⟨g, 0, none⟩)))) :: rs, .var g T d :: os, fs⟩) : EL X ops Q (⟨some t, .alloc T, ty, pos, af, gd⟩ :: l) ⟨rs, os, fs⟩ := ES.alloc rfl hz hg rfl hN kk
theorem F6 {t ty T : Nat} {pos : String} {af : Array Edge} {gd : Option (Nat × Bool)} {d : D} (hz : assoc bY T = some d) (hg : guardOf ops ⟨rs, os, fs⟩ ⟨some t, .alloc T, ty, pos, af, gd⟩ = some true) (hoff : dL N (some t) EE = true) (kk : EM N ops TT l ⟨(t, .any) :: rs, os, fs⟩ (EE ++ [(t, T, d)])) : EM N ops TT (⟨some t, .alloc T, ty, pos, af, gd⟩ :: l) ⟨rs, os, fs⟩ EE := EH.alloc rfl hz rfl hg hoff kk
theorem qV {t ty T : Nat} {pos : String} {af : Array Edge} {gd : Option (Nat × Bool)} {x : Operand} {d : D} (hx : ev (⟨rs, os, fs⟩ : St) x = some (.val d)) (hg : guardOf ops ⟨rs, os, fs⟩ ⟨some t, .box T x, ty, pos, af, gd⟩ = some true) (hN : Nat.blt t N = true) (kk : ∀ g, EL X ops Q l ⟨(t, .val (.v (.pointer (some ⟨g, 0, none⟩)))) :: rs, .var g T d :: os, fs⟩) : EL X ops Q (⟨some t, .box T x, ty, pos, af, gd⟩ :: l) ⟨rs, os, fs⟩ := ES.box rfl hx hg rfl hN kk
theorem JJ {t ty T : Nat} {pos : String} {af : Array Edge} {gd : Option (Nat × Bool)} {x : Operand} {d : D} (hx : ev (⟨rs, os, fs⟩ : St) x = some (.val d)) (hg : guardOf ops ⟨rs, os, fs⟩ ⟨some t, .box T x, ty, pos, af, gd⟩ = some true) (hoff : dL N (some t) EE = true) (kk : EM N ops TT l ⟨(t, .any) :: rs, os, fs⟩ (EE ++ [(t, T, d)])) : EM N ops TT (⟨some t, .box T x, ty, pos, af, gd⟩ :: l) ⟨rs, os, fs⟩ EE := EH.box rfl hx rfl hg hoff kk
theorem Fv {T g n ty : Nat} {pos : String} {af : Array Edge} {gd : Option (Nat × Bool)} {x y : Operand} {t0 : TypeId} {d d' d'' : D} {os' : List Obj} (hx : ev (⟨rs, os, fs⟩ : St) x = some (.val (.v (.pointer (some ⟨g, n, none⟩))))) (hset : jP os (.var g t0 d) (.var g t0 d'') os') (hy : ev (⟨rs, os, fs⟩ : St) y = some (.val d')) (hT : assoc tyL T = some (d'.size, d'.agg)) (hu : d.upd n d' = some d'') (hg : guardOf ops ⟨rs, os, fs⟩ ⟨none, .store T x y, ty, pos, af, gd⟩ = some true) (kk : EL X ops Q l ⟨rs, os', fs⟩) : EL X ops Q (⟨none, .store T x y, ty, pos, af, gd⟩ :: l) ⟨rs, os, fs⟩ := by
 obtain ⟨i, hi, rfl⟩ := hset.ix
 exact EL.store i rfl rfl hg hx hi hy (tyI hT) hu kk
theorem Dz {t T e z y ty : Nat} {pos : String} {af : Array Edge} {gd : Option (Nat × Bool)} {s x : Operand} {v : Value} {ds es : List D} {os' : Value → List Obj} (hs : ev (⟨rs, os, fs⟩ : St) s = some (.val (.v v))) (hset : jY os (.row v e z ds) (fun v' => .row v' e z (ds ++ es)) os') (hx : ev (⟨rs, os, fs⟩ : St) x = some (.val (.sl z es))) (hT : assoc slL T = some (e, z, y)) (hz : Nat.blt 0 z = true) (hg : guardOf ops ⟨rs, os, fs⟩ ⟨some t, .call { callee := .builtin .append, args := #[s, x], argTypes := #[T, T] }, ty, pos, af, gd⟩ = some true) (hN : Nat.blt t N = true) (hlen : (ds.length + es.length) * y ≤ 140737488355328 ∧ ds.length + es.length ≤ 9223372036854775807) (kk : ∀ v', EL X ops Q l ⟨(t, .val (.v v')) :: rs, os' v', fs⟩) : EL X ops Q (⟨some t, .call { callee := .builtin .append, args := #[s, x], argTypes := #[T, T] }, ty, pos, af, gd⟩ :: l) ⟨rs, os, fs⟩ := by
 obtain ⟨i, hi, hl'⟩ := hset.ix
 exact ES.append (v := v) (ds := ds) i rfl hT hz hs hi hx hg rfl hN hlen fun v' => by rw [← hl' v']; exact kk v'
end
section
variable {ok : Nat → Prop} {w : World}
theorem jU (hok : ∀ b, ok b → b < w.heap.size) {l : List UInt8} {v : Value} (h : aP ok w (.bs l) v) : IsB w v l := by
 obtain ⟨A, c, h1, h2, h3, h4⟩ := vw h
 exact ⟨A, c, h1, h2, h3, fun hn => by
  obtain ⟨b, n, e, hb, hc⟩ := h4 hn
  exact ⟨b, n, e, hok b hb, hc⟩⟩
theorem jD {n : Nat} {l : List UInt8} {v : Value} (h : aP ok w (.arr n l) v) : l.length = n ∧ v = bg l := by
 obtain ⟨cs, h1, rfl⟩ := (jB rfl).1 h
 rw [Reads] at h1
 rw [h1.2]
 exact ⟨h1.1, rfl⟩
theorem yO {n : Nat} {l : List UInt8} (h : l.length = n) : aP ok w (.arr n l) (bg l) := (jB rfl).2 ⟨bvs l, by rw [Reads]; exact ⟨h, rfl⟩, rfl⟩
theorem mP {d : D} {xs : List Value} (h : bC ok w [d] xs) : ∃ v, xs = [v] ∧ aP ok w d v := by
 obtain ⟨x, rest, rfl, h1, h2⟩ := h
 cases h2
 exact ⟨x, rfl, h1⟩
end
section
variable {T e n : Nat}
theorem CZ (hT : Tryz.prog.underlying T = some (.array n e)) (he : Tryz.prog.underlying e = some (.int .u8)) (hs : ∀ w, (sizeOf e).run Tryz.prog w = .ok 1 w) (w : World) (l m : List UInt8) (hl : l.length = n) (hm : m.length = n) : (Op.equalIn 10000 T (bg l) (bg m)).run Tryz.prog w = .ok (l == m) w := by
 have h2 := run_equalIn_bytes w 9998 T e n hT he hs l m hl hm
 rw [show (Op.equalIn 10000 T (bg l) (bg m)) = (Op.equalIn (9998 + 2) T (.agg (l.map Extern.Stop.cell).toArray) (.agg (m.map Extern.Stop.cell).toArray)) from rfl, h2]
theorem Fj (hT : Tryz.prog.underlying T = some (.array n e)) (he : Tryz.prog.underlying e = some (.int .u8)) (hs : ∀ w, (sizeOf e).run Tryz.prog w = .ok 1 w) (hg : Tryz.prog.eqGuardType Tryz.prog.depth T = false) (l m : List UInt8) : Bin .eql T (.arr n l) (.arr n m) (.bool (l == m)) ∧ Bin .neq T (.arr n l) (.arr n m) (.bool (l != m)) := by
 refine ⟨⟨rfl, fun ok w p q hp hq => ?_⟩, ⟨rfl, fun ok w p q hp hq => ?_⟩⟩ <;> (obtain ⟨e1, rfl⟩ := jD hp; obtain ⟨e2, rfl⟩ := jD hq; refine ⟨fun x y => run_eqGuard_agg w _ _ _ _ _ _ hg, ?_⟩)
 · exact run_eql_bytes w T e n hT he hs l m e1 e2
 ·
  have h1 : (binOp .neq T (bg l) (bg m)).run Tryz.prog w = ((Op.equalIn 10000 T (bg l) (bg m)).run Tryz.prog w).andThen fun b w' => .ok (.bool (!b)) w' := by
   simp only [bg, binOp, Op.equal, Op.maxDepth, Kq, Ku]
  rw [h1, CZ hT he hs w l m e1 e2]
  rfl
end
theorem gW (l m : List UInt8) : Bin .eql 36 (.arr 32 l) (.arr 32 m) (.bool (l == m)) ∧ Bin .neq 36 (.arr 32 l) (.arr 32 m) (.bool (l != m)) :=
 Fj Tryz.underlying36 Tryz.underlying5 (fun w => by kernel_rfl) (by kernel_rfl) l m
theorem Di (a b : Bool) : Bin .eql 4 (.v (.bool a)) (.v (.bool b)) (.bool (a == b)) ∧ Bin .neq 4 (.v (.bool a)) (.v (.bool b)) (.bool (a != b)) := by
 refine ⟨⟨rfl, fun ok w p q hp hq => ?_⟩, ⟨rfl, fun ok w p q hp hq => ?_⟩⟩ <;> (obtain rfl := (ay.1 hp).2; obtain rfl := (ay.1 hq).2; refine ⟨fun x y => by simp [eqGuard], ?_⟩)
 · simp [binOp, run_equal_bool w _ a b Tryz.underlying4]
 · simp [binOp, run_equal_bool w _ a b Tryz.underlying4, bne]
theorem fK (l m : List UInt8) : Bin .eql 9 (.v (.string (Go.Proofs.YtaoicebcdmpemaaGreat.bs l))) (.v (.string (Go.Proofs.YtaoicebcdmpemaaGreat.bs m))) (.bool (l == m)) ∧ Bin .neq 9 (.v (.string (Go.Proofs.YtaoicebcdmpemaaGreat.bs l))) (.v (.string (Go.Proofs.YtaoicebcdmpemaaGreat.bs m))) (.bool (l != m)) := by
 refine ⟨⟨rfl, fun ok w p q hp hq => ?_⟩, ⟨rfl, fun ok w p q hp hq => ?_⟩⟩ <;> (obtain rfl := (ay.1 hp).2; obtain rfl := (ay.1 hq).2; refine ⟨fun x y => by simp [eqGuard], ?_⟩)
 · simp [binOp, Op.stringOp, lH]
 · simp [binOp, Op.stringOp, lH, bne]
theorem EC.lenOf {N : Nat} {X : Cx N} {S : St} {Q : Exit → Act → World → Prop} {c : Code} {t : Tmp} {z : Nat} {ds : List D} (hl : look S.regs t = some (.val (.sl z ds))) (k : ds.length ≤ maxLen → EC X Q c S) : EC X Q c S := ⟨fun a w ha => by
 obtain ⟨A, c', rows, h1, h2, h3, _⟩ := ny (ha.regs t _ hl)
 exact (k (by omega)).go a w ha⟩
end E
end Go.Proofs.YtaoicebcdmpemaaGreat
