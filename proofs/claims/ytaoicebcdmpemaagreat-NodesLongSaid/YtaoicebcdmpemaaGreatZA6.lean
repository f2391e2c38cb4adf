/-
 Merged: lemmas of this claim.
 Conditions: none.
-/
import Derived.Test.YtaoicebcdmpemaaGreatZA5
import Derived.Stop.BytesEq
import Derived.Test.YtaoicebcdmpemaaGreatZA0
namespace Go.Proofs.YtaoicebcdmpemaaGreat
set_option linter.unusedVariables false
open Go.RowKit Mono Rlp
namespace E
def BZ (N : Nat) (d : Option Tmp) : Bool :=
 match d with
 | some t => decide (t < N)
 | none => true
section
variable {N : Nat} {X : Cx N} {S S' : St} {a : Act} {w w' : World} {ops : Array Oper} {o : Oper} {Q : Exit → Act → World → Prop} {l : List Oper} {T : St → List Fr → Prop} {E : List Fr}
theorem EG (h : BZ N o.dst = true) : ∀ t, o.dst = some t → t < N := fun t ht => by
 rw [ht] at h
 simpa [BZ] using h
theorem tyI {T sz : Nat} {ag : Bool} (h : assoc tyL T = some (sz, ag)) : Ty Tryz.prog T sz ag := Fv (by
 have := Ho.1 DI _ (dB _ _ _ h)
 simpa using this)
theorem slI {T e z y : Nat} (h : assoc slL T = some (e, z, y)) : Aa T e z := by
 have := Ho.1 yF _ (dB _ _ _ h)
 exact FB (y := y) (y' := z) (by simpa using this)
theorem DL {T e z y : Nat} (h : assoc slL T = some (e, z, y)) (h0 : Nat.blt 0 z = true) : SlT Tryz.prog T e z y := by
 have := Ho.1 yF _ (dB _ _ _ h)
 exact DK (by simpa using this) (by simpa using h0)
theorem Gz {T n e z : Nat} (h : assoc arL T = some (n, e, z)) : Fh T n e z := by
 have := Ho.1 EP _ (dB _ _ _ h)
 exact Gi (by simpa using this)
theorem Ew {T k off sz : Nat} {ag : Bool} {l : List (Nat × Nat × Bool)} (h : assoc stL T = some l) (hk : l[k]? = some (off, sz, ag)) (h0 : Nat.blt 0 sz = true) : Fld Tryz.prog T k off sz ag := by
 have := Ho.1 yD _ (dB _ _ _ h)
 exact DJ (by simpa using this) hk (by simpa using h0)
theorem stI {T : Nat} {l : List (Nat × Nat × Bool)} (h : assoc stL T = some l) : Cj T (l.map fun x => (x.1, x.2.1)) := by
 have := Ho.1 yD _ (dB _ _ _ h)
 exact Fz (by simpa using this)
theorem nH {T : Nat} {d : D} (h : assoc bP T = some d) : Zero T d := yj.get _ _ _ yt h
variable {rs : List (Tmp × R)} {os : List Obj} {fs : List (Value × D)}
theorem dR {t : Tmp} (hd : o.dst = some t) (hN : Nat.blt t N = true) : ∀ u, o.dst = some u → u < N := fun u hu => by
 rw [hd] at hu
 cases hu
 simpa using hN
theorem ES.still {t : Tmp} {r : R} (hO : Still ops ⟨rs, os, fs⟩ o r) (hg : guardOf ops ⟨rs, os, fs⟩ o = some true) (hd : o.dst = some t) (hN : Nat.blt t N = true) (k : EL X ops Q l ⟨(t, r) :: rs, os, fs⟩) : EL X ops Q (o :: l) ⟨rs, os, fs⟩ :=
 EL.still hg (dR hd hN) hO (by rw [hd]; exact k)
theorem ES.skip {t : Tmp} (hg : guardOf ops ⟨rs, os, fs⟩ o = some false) (hd : o.dst = some t) (hN : Nat.blt t N = true) (k : EL X ops Q l ⟨(t, .tpl []) :: rs, os, fs⟩) : EL X ops Q (o :: l) ⟨rs, os, fs⟩ := EL.skip hg (dR hd hN) (by rw [hd]; exact k)
theorem ES.alloc {t : Tmp} {T : TypeId} {d : D} (ho : o.op = .alloc T) (hz : assoc bP T = some d) (hg : guardOf ops ⟨rs, os, fs⟩ o = some true) (hd : o.dst = some t) (hN : Nat.blt t N = true)
  (k : ∀ g, EL X ops Q l ⟨(t, .val (.v (.pointer (some ⟨g, 0, none⟩)))) :: rs, .var g T d :: os, fs⟩) : EL X ops Q (o :: l) ⟨rs, os, fs⟩ := EL.alloc ho hg (dR hd hN) (nH hz) fun g => by rw [hd]; exact k g
theorem ES.box {t : Tmp} {T : TypeId} {x : Operand} {d : D} (ho : o.op = .box T x) (hx : ev ⟨rs, os, fs⟩ x = some (.val d)) (hg : guardOf ops ⟨rs, os, fs⟩ o = some true) (hd : o.dst = some t) (hN : Nat.blt t N = true)
  (k : ∀ g, EL X ops Q l ⟨(t, .val (.v (.pointer (some ⟨g, 0, none⟩)))) :: rs, .var g T d :: os, fs⟩) : EL X ops Q (o :: l) ⟨rs, os, fs⟩ := EL.box ho hg (dR hd hN) hx fun g => by rw [hd]; exact k g
theorem aj.refl (F : List (Value × D)) : ∀ ds : List D, aj F ds ds
 | [] => by rw [aj]
 | d :: ds => by
  rw [aj]
  refine ⟨d, ds, rfl, ?_, aj.refl F ds⟩
  exact Refine.refl F d
where Refine.refl (F : List (Value × D)) : ∀ d : D, Refine F d d
 | .v x => by rw [Refine]; exact .inl rfl
 | .tup ds => by rw [Refine]; exact ⟨ds, rfl, aj.refl F ds⟩
 | .arr n l => by rw [Refine]
 | .bs l => by rw [Refine]
 | .sl z ds => by rw [Refine]
 | .pd d => by rw [Refine]
 | .ifc t d => by rw [Refine]
theorem aj.lD {ok : Nat → Prop} {F : List (Value × D)} (hF : ∀ f ∈ F, Reads ok w f.2 [f.1]) : ∀ (ds l : List D) (xs : List Value), aj F ds l → aZ ok w ds xs → aZ ok w l xs
 | [], l, xs, h, hr => by rw [aj] at h; subst h; exact hr
 | d :: ds, l, xs, h, hr => by
  rw [aj] at h
  obtain ⟨d', ds', rfl, h1, h2⟩ := h
  obtain ⟨x, rest, rfl, h3, h4⟩ := hr
  exact ⟨x, rest, rfl, h1.iw hF h3, aj.lD hF ds ds' rest h2 h4⟩
theorem vK {f : FuncId} {args : Array Operand} {tys : Array TypeId} {ds ds' : List D} {Φ : R → Prop} (hF : Fn f ds' Φ) (ho : o.op = .call { callee := .value (.func f), args := args, argTypes := tys }) (hx : evs S args.toList = some ds) (hf : Enters f) (hR : aj S.facts ds ds') : iP ops S o Φ := fun base ok a w ha => by
 have hr := aj.lD ha.facts _ _ _ hR (ha.evs _ _ hx fun t ht => ak (x := .tmp t) rfl (by rw [ho]; simp only [Op.operands, Call.operands]; simp; simpa using ht))
 have hrun : (execOp a.eval o).run Tryz.prog w = .ok (.enter f (args.map a.eval)) w := by
  unfold execOp
  simp [ho, resolve, Act.eval, Deferred.ofValue, invoke, hf (args.map a.eval) w]
 rw [hrun]
 refine ⟨Gr.refl w, ?_⟩
 have := hF.go ok w _ ha.lt hr
 have he : (args.toList.map a.eval).toArray = args.map a.eval := by
  apply IV
  simp
 rw [he] at this
 refine this.mono ?_
 rintro e w' ⟨hg, v, r, rfl, hr, hv⟩
 exact ⟨v, rfl, hg, r, hr, hv⟩
theorem ES.call {t : Tmp} {f : FuncId} {args : Array Operand} {tys : Array TypeId} {ds ds' : List D} {r : R} (hF : Fn f ds' (· = r)) (ho : o.op = .call { callee := .value (.func f), args := args, argTypes := tys }) (hx : evs ⟨rs, os, fs⟩ args.toList = some ds) (hf : Enters f) (hR : aj fs ds ds') (hg : guardOf ops ⟨rs, os, fs⟩ o = some true) (hd : o.dst = some t) (hN : Nat.blt t N = true) (k : EL X ops Q l ⟨(t, r) :: rs, os, fs⟩) : EL X ops Q (o :: l) ⟨rs, os, fs⟩ :=
 EL.grow hg (dR hd hN) (vK hF ho hx hf hR) (by rw [hd]; exact k)
theorem ES.grow {t : Tmp} {r : R} (hO : iP ops ⟨rs, os, fs⟩ o (· = r)) (hg : guardOf ops ⟨rs, os, fs⟩ o = some true) (hd : o.dst = some t) (hN : Nat.blt t N = true) (k : EL X ops Q l ⟨(t, r) :: rs, os, fs⟩) : EL X ops Q (o :: l) ⟨rs, os, fs⟩ := EL.grow hg (dR hd hN) hO (by rw [hd]; exact k)
theorem EH.still {t : Tmp} {r : R} (hO : Still ops ⟨rs, os, fs⟩ o r) (hg : guardOf ops ⟨rs, os, fs⟩ o = some true) (ht : o.dst = some t) (hd : dF N (some t) E = true) (k : EM N ops T l ⟨(t, r) :: rs, os, fs⟩ E) : EM N ops T (o :: l) ⟨rs, os, fs⟩ E := EM.still hg (by rw [ht]; exact hd) hO (by rw [ht]; exact k)
theorem EH.skip {t : Tmp} (hg : guardOf ops ⟨rs, os, fs⟩ o = some false) (ht : o.dst = some t) (hd : dF N (some t) E = true) (k : EM N ops T l ⟨(t, .tpl []) :: rs, os, fs⟩ E) : EM N ops T (o :: l) ⟨rs, os, fs⟩ E := EM.skip hg (by rw [ht]; exact hd) (by rw [ht]; exact k)
theorem EH.grow {t : Tmp} {r : R} (hO : iP ops ⟨rs, os, fs⟩ o (· = r)) (hg : guardOf ops ⟨rs, os, fs⟩ o = some true) (ht : o.dst = some t) (hd : dF N (some t) E = true) (k : EM N ops T l ⟨(t, r) :: rs, os, fs⟩ E) : EM N ops T (o :: l) ⟨rs, os, fs⟩ E := EM.grow hg (by rw [ht]; exact hd) hO (by rw [ht]; exact k)
theorem EH.call {t : Tmp} {f : FuncId} {args : Array Operand} {tys : Array TypeId} {ds ds' : List D} {r : R} (hF : Fn f ds' (· = r)) (ho : o.op = .call { callee := .value (.func f), args := args, argTypes := tys }) (hx : evs ⟨rs, os, fs⟩ args.toList = some ds) (hf : Enters f) (hR : aj fs ds ds') (hg : guardOf ops ⟨rs, os, fs⟩ o = some true) (ht : o.dst = some t) (hd : dF N (some t) E = true) (k : EM N ops T l ⟨(t, r) :: rs, os, fs⟩ E) : EM N ops T (o :: l) ⟨rs, os, fs⟩ E :=
 EM.grow hg (by rw [ht]; exact hd) (vK hF ho hx hf hR) (by rw [ht]; exact k)
theorem EH.alloc {t : Tmp} {Ty : TypeId} {d : D} (ho : o.op = .alloc Ty) (hz : assoc bP Ty = some d) (ht : o.dst = some t) (hg : guardOf ops ⟨rs, os, fs⟩ o = some true) (hd : dF N (some t) E = true) (k : EM N ops T l ⟨(t, .any) :: rs, os, fs⟩ (E ++ [(t, Ty, d)])) : EM N ops T (o :: l) ⟨rs, os, fs⟩ E := EM.new hg ht hd (o7 ho (nH hz)) k
theorem EH.box {t : Tmp} {Ty : TypeId} {x : Operand} {d : D} (ho : o.op = .box Ty x) (hx : ev ⟨rs, os, fs⟩ x = some (.val d)) (ht : o.dst = some t) (hg : guardOf ops ⟨rs, os, fs⟩ o = some true) (hd : dF N (some t) E = true) (k : EM N ops T l ⟨(t, .any) :: rs, os, fs⟩ (E ++ [(t, Ty, d)])) : EM N ops T (o :: l) ⟨rs, os, fs⟩ E := EM.new hg ht hd (yT ho hx) k
theorem qY {T : Nat} {parts : Array (Nat × Operand)} {l : List (Nat × Nat × Bool)} {d0 d : D} {ps : List (Nat × D)} (ho : o.op = .build T parts) (hx : jc S parts.toList = some ps) (hT : assoc stL T = some l) (hz : assoc bP T = some d0) (hd0 : d0.agg = true) (hf : kH (l.map fun x => (x.1, x.2.1)) d0 ps = some d) : Still ops S o (.val d) := BL ho hx (stI hT) (nH hz) hd0 hf
theorem ou {T n e z : Nat} {d : D} (ho : o.op = .build T #[]) (hT : assoc arL T = some (n, e, z)) (hz : assoc bP T = some d) (hd : d.agg = true) : Still ops S o (.val d) := zC ho (Gz hT) (nH hz) hd
def Bz (n z : Nat) : Bool := Nat.blt 0 n && Nat.blt 0 z && Nat.ble (n * z) 16777216
def allB (z : Nat) (ps : List (Nat × D)) : Bool := ps.all fun p => p.2.size == z
theorem jE {T e z y n : Nat} {parts : Array (Nat × Operand)} {ps : List (Nat × D)} {ds : List D} {d0 : D} (ho : o.op = .buildSlice T n parts) (hx : jc S parts.toList = some ps) (hT : assoc slL T = some (e, z, y)) (hz : assoc bP e = some d0) (hin : iD 0 ps = some ds) (hsz : allB z ps = true) (hn : ps.length = n) (h0 : Bz n z = true) : iP ops S o (· = .val (.sl z ds)) := by
 simp only [Bz, Ik, Nat.blt_eq, Nat.ble_eq] at h0
 exact qP ho hx (slI hT) (nH hz) hin (fun p hp => by simpa using Ho.1 hsz p hp) hn h0.1 h0.2
theorem qX {x : Operand} {T k off sz g n : Nat} {ag : Bool} {l : List (Nat × Nat × Bool)} (ho : o.op = .fieldAddr T x k) (hx : ev S x = some (.val (.v (.pointer (some ⟨g, n, none⟩))))) (h : assoc stL T = some l) (hk : l[k]? = some (off, sz, ag)) (h0 : Nat.blt 0 sz = true) : Still ops S o (.val (.v (.pointer (some ⟨g, n + off, none⟩)))) := BK ho hx (Ew h hk h0)
theorem kF {x : Operand} {T k off sz : Nat} {ag : Bool} {d d' : D} {l : List (Nat × Nat × Bool)} (ho : o.op = .fieldAddr T x k) (hx : ev S x = some (.val (.pd d))) (h : assoc stL T = some l) (hk : l[k]? = some (off, sz, ag)) (h0 : Nat.blt 0 sz = true) (hs : d.sub off sz ag = some d') : Still ops S o (.val (.pd d')) := uF ho hx (Ew h hk h0) hs
theorem vJ {x : Operand} {T sz g n : Nat} {ag : Bool} {t : TypeId} {d d' : D} (i : Nat) (ho : o.op = .load T x) (hx : ev S x = some (.val (.v (.pointer (some ⟨g, n, none⟩))))) (hi : S.objs[i]? = some (.var g t d)) (hT : assoc tyL T = some (sz, ag)) (hs : d.sub n sz ag = some d') : Still ops S o (.val d') := Et i ho hx hi (tyI hT) hs
theorem lX {x : Operand} {T sz : Nat} {ag : Bool} {d d' : D} (ho : o.op = .load T x) (hx : ev S x = some (.val (.pd d))) (hT : assoc tyL T = some (sz, ag)) (hs : d.sub 0 sz ag = some d') : Still ops S o (.val d') := xJ ho hx (tyI hT) hs
theorem zB {x y : Operand} {T e z b : Nat} {k : Int} {ds : List D} (ho : o.op = .indexAddr T x y) (hx : ev S x = some (.val (.sl z ds))) (hy : ev S y = some (.val (.v (.int .i64 k)))) (hT : assoc slL T = some (e, z, b)) (hz : Nat.blt 0 z = true) (h0 : 0 ≤ k) (hk : k.toNat < ds.length) : Still ops S o (.val (.pd ds[k.toNat])) := BJ ho hx hy (slI hT) (by simpa using hz) h0 hk
theorem qW {x y : Operand} {T e b : Nat} {k : Int} {l : List UInt8} (ho : o.op = .indexAddr T x y) (hx : ev S x = some (.val (.bs l))) (hy : ev S y = some (.val (.v (.int .i64 k)))) (hT : assoc slL T = some (e, 1, b)) (h0 : 0 ≤ k) (hk : k.toNat < l.length) : Still ops S o (.val (.pd (.v (bv l[k.toNat])))) := uD ho hx hy (slI hT) h0 hk
theorem og {x : Operand} {T e z y : Nat} {l : List UInt8} (ho : o.op = .call { callee := .builtin .len, args := #[x], argTypes := #[T] }) (hx : ev S x = some (.val (.bs l))) (hT : assoc slL T = some (e, z, y)) : Still ops S o (.val (.v (.int .i64 l.length))) := zy ho hx (slI hT).und
theorem nZ {x : Operand} {T e z y z' : Nat} {ds : List D} (ho : o.op = .call { callee := .builtin .len, args := #[x], argTypes := #[T] }) (hx : ev S x = some (.val (.sl z' ds))) (hT : assoc slL T = some (e, z, y)) : Still ops S o (.val (.v (.int .i64 ds.length))) := zx ho hx (slI hT).und
theorem lZ {x : Operand} {T e n c z y : Nat} {A : Option Addr} (ho : o.op = .call { callee := .builtin .len, args := #[x], argTypes := #[T] }) (hx : ev S x = some (.val (.v (.slice A n c)))) (hT : assoc slL T = some (e, z, y)) : Still ops S o (.val (.v (.int .i64 n))) := xM ho hx (slI hT).und
theorem lY {x : Operand} {T e e' z z' y : Nat} {v : Value} {ds : List D} (i : Nat) (ho : o.op = .call { callee := .builtin .len, args := #[x], argTypes := #[T] }) (hx : ev S x = some (.val (.v v))) (hi : S.objs[i]? = some (.row v e' z ds)) (hT : assoc slL T = some (e, z', y)) : Still ops S o (.val (.v (.int .i64 ds.length))) := xK i ho hx hi (slI hT).und
theorem ES.append {t : Tmp} {T e z y : Nat} {s x : Operand} {v : Value} {ds es : List D} (i : Nat) (ho : o.op = .call { callee := .builtin .append, args := #[s, x], argTypes := #[T, T] }) (hT : assoc slL T = some (e, z, y)) (hz : Nat.blt 0 z = true)
  (hs : ev ⟨rs, os, fs⟩ s = some (.val (.v v))) (hi : os[i]? = some (.row v e z ds)) (hx : ev ⟨rs, os, fs⟩ x = some (.val (.sl z es))) (hg : guardOf ops ⟨rs, os, fs⟩ o = some true) (hd : o.dst = some t) (hN : Nat.blt t N = true) (hlen : (ds.length + es.length) * y ≤ 140737488355328 ∧ ds.length + es.length ≤ 9223372036854775807)
  (k : ∀ v', EL X ops Q l ⟨(t, .val (.v v')) :: rs, os.set i (.row v' e z (ds ++ es)), fs⟩) : EL X ops Q (o :: l) ⟨rs, os, fs⟩ := EL.append i ho hg (dR hd hN) (DL hT hz) hs hi hx hlen fun v' => by rw [hd]; exact k v'
theorem EH.nil {l' : List Oper} {F : List Fr} (hF : F = []) (h : EL X ops Q l' S) : EM N ops (fun S' E => lI (EL X ops Q l') E S') [] S F := by
 subst hF
 exact h
theorem EH.FK {l' : List Oper} {t : Tmp} {Ty : TypeId} {d : D} {F : List Fr} (hF : F = [(t, Ty, d)]) (h : ∀ g, EL X ops Q l' ⟨(t, .val (.v (.pointer (some ⟨g, 0, none⟩)))) :: rs, .var g Ty d :: os, fs⟩) : EM N ops (fun S' E => lI (EL X ops Q l') E S') [] ⟨rs, os, fs⟩ F := by
 subst hF
 exact h
theorem EH.Gu {l' : List Oper} {t t' : Tmp} {Ty Ty' : TypeId} {d d' : D} {F : List Fr} (hF : F = [(t, Ty, d), (t', Ty', d')]) (h : ∀ g g', EL X ops Q l' ⟨(t', .val (.v (.pointer (some ⟨g', 0, none⟩)))) :: (t, .val (.v (.pointer (some ⟨g, 0, none⟩)))) :: rs, .var g' Ty' d' :: .var g Ty d :: os, fs⟩) : EM N ops (fun S' E => lI (EL X ops Q l') E S') [] ⟨rs, os, fs⟩ F := by
 subst hF
 exact h
end
section
variable {N : Nat} {X : Cx N} {S S' : St} {ops : Array Oper} {o : Oper} {Q : Exit → Act → World → Prop} {l : List Oper} {TT : St → List Fr → Prop} {EE : List Fr} {rs : List (Tmp × R)} {os : List Obj} {fs : List (Value × D)}
abbrev PS {N : Nat} (X : Cx N) (ops : Array Oper) (Q : Exit → Act → World → Prop) (l : List Oper) (rs : List (Tmp × R)) (os : List Obj) (fs : List (Value × D)) (t ty : Nat) (pos : String) (af : Array Edge) (gd : Option (Nat × Bool)) (op : Op) (r : R) : Prop := guardOf ops ⟨rs, os, fs⟩ ⟨some t, op, ty, pos, af, gd⟩ = some true → Nat.blt t N = true → EL X ops Q l ⟨(t, r) :: rs, os, fs⟩ → EL X ops Q (⟨some t, op, ty, pos, af, gd⟩ :: l) ⟨rs, os, fs⟩
abbrev HS (N : Nat) (ops : Array Oper) (TT : St → List Fr → Prop) (l : List Oper) (rs : List (Tmp × R)) (os : List Obj) (fs : List (Value × D)) (EE : List Fr) (t ty : Nat) (pos : String) (af : Array Edge) (gd : Option (Nat × Bool)) (op : Op) (r : R) : Prop := guardOf ops ⟨rs, os, fs⟩ ⟨some t, op, ty, pos, af, gd⟩ = some true → dF N (some t) EE = true → EM N ops TT l ⟨(t, r) :: rs, os, fs⟩ EE → EM N ops TT (⟨some t, op, ty, pos, af, gd⟩ :: l) ⟨rs, os, fs⟩ EE
abbrev eV (rs : List (Tmp × R)) (os : List Obj) (fs : List (Value × D)) (x : Operand) (d : D) : Prop := ev (⟨rs, os, fs⟩ : St) x = some (.val d)
variable {t ty : Nat} {pos : String} {af : Array Edge} {gd : Option (Nat × Bool)}
inductive kK : List Obj → Obj → Obj → List Obj → Prop where
 | z {p q : Obj} {m : List Obj} : kK (p :: m) p q (q :: m)
 | s {a p q : Obj} {m m' : List Obj} (h : kK m p q m') : kK (a :: m) p q (a :: m')
theorem kK.ix {p q : Obj} {m m' : List Obj} (h : kK m p q m') : ∃ i : Nat, m[i]? = some p ∧ m' = m.set i q := by
 induction h with
 | z => exact ⟨0, rfl, rfl⟩
 | s h ih =>
  obtain ⟨i, h1, h2⟩ := ih
  exact ⟨i + 1, by simpa using h1, by rw [h2]; rfl⟩
inductive jo : List Obj → Obj → (Value → Obj) → (Value → List Obj) → Prop where
 | z {p : Obj} {q : Value → Obj} {m : List Obj} : jo (p :: m) p q (fun v => q v :: m)
 | s {a p : Obj} {q : Value → Obj} {m : List Obj} {m' : Value → List Obj} (h : jo m p q m') : jo (a :: m) p q (fun v => a :: m' v)
theorem jo.ix {p : Obj} {q : Value → Obj} {m : List Obj} {m' : Value → List Obj} (h : jo m p q m') : ∃ i : Nat, m[i]? = some p ∧ ∀ v, m' v = m.set i (q v) := by
 induction h with
 | z => exact ⟨0, rfl, fun v => rfl⟩
 | s h ih =>
  obtain ⟨i, h1, h2⟩ := ih
  exact ⟨i + 1, by simpa using h1, fun v => congrArg (List.cons _) (h2 v)⟩
theorem I0 {α : Type} {a : α} {m : List α} : (a :: m)[0]? = some a := rfl
theorem I1 {α : Type} {o0 a : α} {m : List α} : (o0 :: a :: m)[1]? = some a := rfl
theorem I2 {α : Type} {o0 o1 a : α} {m : List α} : (o0 :: o1 :: a :: m)[2]? = some a := rfl
theorem I3 {α : Type} {o0 o1 o2 a : α} {m : List α} : (o0 :: o1 :: o2 :: a :: m)[3]? = some a := rfl
theorem I4 {α : Type} {o0 o1 o2 o3 a : α} {m : List α} : (o0 :: o1 :: o2 :: o3 :: a :: m)[4]? = some a := rfl
theorem I5 {α : Type} {o0 o1 o2 o3 o4 a : α} {m : List α} : (o0 :: o1 :: o2 :: o3 :: o4 :: a :: m)[5]? = some a := rfl
theorem I6 {α : Type} {o0 o1 o2 o3 o4 o5 a : α} {m : List α} : (o0 :: o1 :: o2 :: o3 :: o4 :: o5 :: a :: m)[6]? = some a := rfl
def Bin (op : BinOp) (T : TypeId) (d e : D) (c : Value) : Prop := c.oneCell' = true ∧ ∀ ok w p q, aW ok w d p → aW ok w e q → (∀ x y, (eqGuard op T x y p q).run Tryz.prog w = .ok () w) ∧ (binOp op T p q).run Tryz.prog w = .ok c w
theorem zD {x y : Operand} {op : BinOp} {T U : TypeId} {d e : D} {c : Value} (ho : o.op = .binOp op T x y U) (hx : ev S x = some (.val d)) (hy : ev S y = some (.val e)) (h : Bin op T d e c) : Still ops S o (.val (.v c)) :=
 F6 ho hx hy h.1 fun ok w p q hp hq => ⟨(h.2 ok w p q hp hq).1 x y, (h.2 ok w p q hp hq).2⟩
theorem zA {x y : Operand} {T e z b : Nat} {k : Int} {ds : List D} {d : D} (ho : o.op = .indexAddr T x y) (hx : ev S x = some (.val (.sl z ds))) (hy : ev S y = some (.val (.v (.int .i64 k)))) (hT : assoc slL T = some (e, z, b)) (hz : Nat.blt 0 z = true) (hk : 0 ≤ k ∧ ds[k.toNat]? = some d) : Still ops S o (.val (.pd d)) := by
 obtain ⟨h1, h2⟩ := G5.1 hk.2
 subst h2
 exact zB ho hx hy hT hz hk.1 h1
theorem qV {x y : Operand} {T e b : Nat} {k : Int} {l1 : List UInt8} {c : UInt8} (ho : o.op = .indexAddr T x y) (hx : ev S x = some (.val (.bs l1))) (hy : ev S y = some (.val (.v (.int .i64 k)))) (hT : assoc slL T = some (e, 1, b)) (hk : 0 ≤ k ∧ l1[k.toNat]? = some c) : Still ops S o (.val (.pd (.v (bv c)))) := by
 obtain ⟨h1, h2⟩ := G5.1 hk.2
 subst h2
 exact qW ho hx hy hT hk.1 h1
theorem EU {x : Operand} {r : R} (hx : ev (⟨rs, os, fs⟩ : St) x = some r) : PS X ops Q l rs os fs t ty pos af gd (.move x) (r) := fun hg hN kk => ES.still (zq rfl hx) hg rfl hN kk
theorem Fb {x : Operand} {r : R} (hx : ev (⟨rs, os, fs⟩ : St) x = some r) : HS N ops TT l rs os fs EE t ty pos af gd (.move x) (r) := fun hg hoff kk => EH.still (zq rfl hx) hg rfl hoff kk
theorem Au {x : Operand} {r : R} (hx : ev (⟨rs, os, fs⟩ : St) x = some r) : PS X ops Q l rs os fs t ty pos af gd (.assign x) (r) := fun hg hN kk => ES.still (qZ rfl hx) hg rfl hN kk
theorem AV {x : Operand} {r : R} (hx : ev (⟨rs, os, fs⟩ : St) x = some r) : HS N ops TT l rs os fs EE t ty pos af gd (.assign x) (r) := fun hg hoff kk => EH.still (qZ rfl hx) hg rfl hoff kk
theorem x9 {x : Operand} {i : Nat} {ds : List D} {d : D} (hx : ev (⟨rs, os, fs⟩ : St) x = some (.tpl ds)) (hd : ds[i]? = some d) : PS X ops Q l rs os fs t ty pos af gd (.extract x i) (.val d) := fun hg hN kk => ES.still (oh rfl hx hd) hg rfl hN kk
theorem yh {x : Operand} {i : Nat} {ds : List D} {d : D} (hx : ev (⟨rs, os, fs⟩ : St) x = some (.tpl ds)) (hd : ds[i]? = some d) : HS N ops TT l rs os fs EE t ty pos af gd (.extract x i) (.val d) := fun hg hoff kk => EH.still (oh rfl hx hd) hg rfl hoff kk
theorem ET {c x y : Operand} {b : Bool} {r : R} (hc : eV rs os fs c (.v (.bool b))) (hx : ev (⟨rs, os, fs⟩ : St) (if b then x else y) = some r) : PS X ops Q l rs os fs t ty pos af gd (.pick c x y) (r) := fun hg hN kk => ES.still (zo rfl hc hx) hg rfl hN kk
theorem Fa {c x y : Operand} {b : Bool} {r : R} (hc : eV rs os fs c (.v (.bool b))) (hx : ev (⟨rs, os, fs⟩ : St) (if b then x else y) = some r) : HS N ops TT l rs os fs EE t ty pos af gd (.pick c x y) (r) := fun hg hoff kk => EH.still (zo rfl hc hx) hg rfl hoff kk
theorem CU {x : Operand} {T k off sz g n : Nat} {ag : Bool} {lf : List (Nat × Nat × Bool)} (hx : ev (⟨rs, os, fs⟩ : St) x = some (.val (.v (.pointer (some ⟨g, n, none⟩))))) (h : assoc stL T = some lf) (hk : lf[k]? = some (off, sz, ag)) (h0 : Nat.blt 0 sz = true) : PS X ops Q l rs os fs t ty pos af gd (.fieldAddr T x k) (.val (.v (.pointer (some ⟨g, n + off, none⟩)))) := fun hg hN kk => ES.still (qX rfl hx h hk h0) hg rfl hN kk
theorem Dh {x : Operand} {T k off sz g n : Nat} {ag : Bool} {lf : List (Nat × Nat × Bool)} (hx : ev (⟨rs, os, fs⟩ : St) x = some (.val (.v (.pointer (some ⟨g, n, none⟩))))) (h : assoc stL T = some lf) (hk : lf[k]? = some (off, sz, ag)) (h0 : Nat.blt 0 sz = true) : HS N ops TT l rs os fs EE t ty pos af gd (.fieldAddr T x k) (.val (.v (.pointer (some ⟨g, n + off, none⟩)))) := fun hg hoff kk => EH.still (qX rfl hx h hk h0) hg rfl hoff kk
theorem xZ {x : Operand} {T k off sz : Nat} {ag : Bool} {d d' : D} {lf : List (Nat × Nat × Bool)} (hx : eV rs os fs x (.pd d)) (h : assoc stL T = some lf) (hk : lf[k]? = some (off, sz, ag)) (h0 : Nat.blt 0 sz = true) (hs : d.sub off sz ag = some d') : PS X ops Q l rs os fs t ty pos af gd (.fieldAddr T x k) (.val (.pd d')) := fun hg hN kk => ES.still (kF rfl hx h hk h0 hs) hg rfl hN kk
theorem yg {x : Operand} {T k off sz : Nat} {ag : Bool} {d d' : D} {lf : List (Nat × Nat × Bool)} (hx : eV rs os fs x (.pd d)) (h : assoc stL T = some lf) (hk : lf[k]? = some (off, sz, ag)) (h0 : Nat.blt 0 sz = true) (hs : d.sub off sz ag = some d') : HS N ops TT l rs os fs EE t ty pos af gd (.fieldAddr T x k) (.val (.pd d')) := fun hg hoff kk => EH.still (kF rfl hx h hk h0 hs) hg rfl hoff kk
theorem Aj {x : Operand} {T sz : Nat} {ag : Bool} {d d' : D} (hx : eV rs os fs x (.pd d)) (hT : assoc tyL T = some (sz, ag)) (hs : d.sub 0 sz ag = some d') : PS X ops Q l rs os fs t ty pos af gd (.load T x) (.val d') := fun hg hN kk => ES.still (lX rfl hx hT hs) hg rfl hN kk
theorem AL {x : Operand} {T sz : Nat} {ag : Bool} {d d' : D} (hx : eV rs os fs x (.pd d)) (hT : assoc tyL T = some (sz, ag)) (hs : d.sub 0 sz ag = some d') : HS N ops TT l rs os fs EE t ty pos af gd (.load T x) (.val d') := fun hg hoff kk => EH.still (lX rfl hx hT hs) hg rfl hoff kk
theorem CQ {x : Operand} {T e z y : Nat} {b : List UInt8} (hx : eV rs os fs x (.bs b)) (hT : assoc slL T = some (e, z, y)) : PS X ops Q l rs os fs t ty pos af gd (.call { callee := .builtin .len, args := #[x], argTypes := #[T] }) (.val (.v (.int .i64 b.length))) := fun hg hN kk => ES.still (og rfl hx hT) hg rfl hN kk
theorem Df {x : Operand} {T e z y : Nat} {b : List UInt8} (hx : eV rs os fs x (.bs b)) (hT : assoc slL T = some (e, z, y)) : HS N ops TT l rs os fs EE t ty pos af gd (.call { callee := .builtin .len, args := #[x], argTypes := #[T] }) (.val (.v (.int .i64 b.length))) := fun hg hoff kk => EH.still (og rfl hx hT) hg rfl hoff kk
theorem CP {x : Operand} {T e z y z' : Nat} {ds : List D} (hx : eV rs os fs x (.sl z' ds)) (hT : assoc slL T = some (e, z, y)) : PS X ops Q l rs os fs t ty pos af gd (.call { callee := .builtin .len, args := #[x], argTypes := #[T] }) (.val (.v (.int .i64 ds.length))) := fun hg hN kk => ES.still (nZ rfl hx hT) hg rfl hN kk
theorem Dc {x : Operand} {T e z y z' : Nat} {ds : List D} (hx : eV rs os fs x (.sl z' ds)) (hT : assoc slL T = some (e, z, y)) : HS N ops TT l rs os fs EE t ty pos af gd (.call { callee := .builtin .len, args := #[x], argTypes := #[T] }) (.val (.v (.int .i64 ds.length))) := fun hg hoff kk => EH.still (nZ rfl hx hT) hg rfl hoff kk
theorem EY {x : Operand} {T e n c z y : Nat} {A : Option Addr} (hx : eV rs os fs x (.v (.slice A n c))) (hT : assoc slL T = some (e, z, y)) : PS X ops Q l rs os fs t ty pos af gd (.call { callee := .builtin .len, args := #[x], argTypes := #[T] }) (.val (.v (.int .i64 n))) := fun hg hN kk => ES.still (lZ rfl hx hT) hg rfl hN kk
theorem Fg {x : Operand} {T e n c z y : Nat} {A : Option Addr} (hx : eV rs os fs x (.v (.slice A n c))) (hT : assoc slL T = some (e, z, y)) : HS N ops TT l rs os fs EE t ty pos af gd (.call { callee := .builtin .len, args := #[x], argTypes := #[T] }) (.val (.v (.int .i64 n))) := fun hg hoff kk => EH.still (lZ rfl hx hT) hg rfl hoff kk
theorem vZ {x y : Operand} {op : BinOp} {T U : TypeId} {k : IntKind} {m n : Int} {b : Bool} (hx : eV rs os fs x (.v (.int k m))) (hy : eV rs os fs y (.v (.int k n))) (hb : nC op m n = some b) : PS X ops Q l rs os fs t ty pos af gd (.binOp op T x y U) (.val (.v (.bool b))) := fun hg hN kk => ES.still (Dv rfl hx hy hb) hg rfl hN kk
theorem AQ {x y : Operand} {op : BinOp} {T U : TypeId} {k : IntKind} {m n : Int} {b : Bool} (hx : eV rs os fs x (.v (.int k m))) (hy : eV rs os fs y (.v (.int k n))) (hb : nC op m n = some b) : HS N ops TT l rs os fs EE t ty pos af gd (.binOp op T x y U) (.val (.v (.bool b))) := fun hg hoff kk => EH.still (Dv rfl hx hy hb) hg rfl hoff kk
theorem GH {x y : Operand} {op : BinOp} {T U : TypeId} {m n s : Int} (hx : eV rs os fs x (.v (.int .i64 m))) (hy : eV rs os fs y (.v (.int .i64 n))) (hb : arI op m n = some s) (h1 : -9223372036854775808 ≤ s) (h2 : s ≤ 9223372036854775807) : PS X ops Q l rs os fs t ty pos af gd (.binOp op T x y U) (.val (.v (.int .i64 s))) := fun hg hN kk => ES.still (F7 rfl hx hy hb h1 h2) hg rfl hN kk
theorem GI {x y : Operand} {op : BinOp} {T U : TypeId} {m n s : Int} (hx : eV rs os fs x (.v (.int .i64 m))) (hy : eV rs os fs y (.v (.int .i64 n))) (hb : arI op m n = some s) (h1 : -9223372036854775808 ≤ s) (h2 : s ≤ 9223372036854775807) : HS N ops TT l rs os fs EE t ty pos af gd (.binOp op T x y U) (.val (.v (.int .i64 s))) := fun hg hoff kk => EH.still (F7 rfl hx hy hb h1 h2) hg rfl hoff kk
theorem Gm {x : Operand} {T : TypeId} {b : Bool} (hx : eV rs os fs x (.v (.bool b))) : PS X ops Q l rs os fs t ty pos af gd (.unOp .not T x) (.val (.v (.bool (!b)))) := fun hg hN kk => ES.still (F5 rfl hx) hg rfl hN kk
theorem Gl {x : Operand} {b : List UInt8} (hx : eV rs os fs x (.bs b)) : PS X ops Q l rs os fs t ty pos af gd (.convert 41 9 x) (.val (.v (.string (Go.Proofs.YtaoicebcdmpemaaGreat.bs b)))) := fun hg hN kk => ES.still (Dt rfl hx) hg rfl hN kk
theorem Gn {x : Operand} {b : List UInt8} (hx : eV rs os fs x (.bs b)) : HS N ops TT l rs os fs EE t ty pos af gd (.convert 41 9 x) (.val (.v (.string (Go.Proofs.YtaoicebcdmpemaaGreat.bs b)))) := fun hg hoff kk => EH.still (Dt rfl hx) hg rfl hoff kk
theorem kL {t ty : Nat} {pos : String} {af : Array Edge} {gd : Option (Nat × Bool)} {x y : Operand} {op : BinOp} {T U : TypeId} {d e : D} {c : Value} (hx : ev (⟨rs, os, fs⟩ : St) x = some (.val d) := by rfl) (hy : ev (⟨rs, os, fs⟩ : St) y = some (.val e) := by rfl) (hrun : Bin op T d e c) (hg : guardOf ops ⟨rs, os, fs⟩ ⟨some t, .binOp op T x y U, ty, pos, af, gd⟩ = some true := by rfl) (hN : Nat.blt t N = true := by rfl) (kk : EL X ops Q l ⟨(t, (.val (.v c))) :: rs, os, fs⟩) : EL X ops Q (⟨some t, .binOp op T x y U, ty, pos, af, gd⟩ :: l) ⟨rs, os, fs⟩ := ES.still (zD rfl hx hy hrun) hg rfl hN kk
theorem rW {t ty : Nat} {pos : String} {af : Array Edge} {gd : Option (Nat × Bool)} {x y : Operand} {op : BinOp} {T U : TypeId} {d e : D} {c : Value} (hx : ev (⟨rs, os, fs⟩ : St) x = some (.val d) := by rfl) (hy : ev (⟨rs, os, fs⟩ : St) y = some (.val e) := by rfl) (hrun : Bin op T d e c) (hg : guardOf ops ⟨rs, os, fs⟩ ⟨some t, .binOp op T x y U, ty, pos, af, gd⟩ = some true := by rfl) (hoff : dF N (some t) EE = true := by rfl) (kk : EM N ops TT l ⟨(t, (.val (.v c))) :: rs, os, fs⟩ EE) : EM N ops TT (⟨some t, .binOp op T x y U, ty, pos, af, gd⟩ :: l) ⟨rs, os, fs⟩ EE := EH.still (zD rfl hx hy hrun) hg rfl hoff kk
theorem CV {T : Nat} {parts : Array (Nat × Operand)} {lf : List (Nat × Nat × Bool)} {d0 d : D} {ps : List (Nat × D)} (hx : jc (⟨rs, os, fs⟩ : St) parts.toList = some ps) (hT : assoc stL T = some lf) (hz : assoc bP T = some d0) (hd0 : d0.agg = true) (hf : kH (lf.map fun x => (x.1, x.2.1)) d0 ps = some d) : PS X ops Q l rs os fs t ty pos af gd (.build T parts) (.val d) := fun hg hN kk => ES.still (qY rfl hx hT hz hd0 hf) hg rfl hN kk
theorem Di {T : Nat} {parts : Array (Nat × Operand)} {lf : List (Nat × Nat × Bool)} {d0 d : D} {ps : List (Nat × D)} (hx : jc (⟨rs, os, fs⟩ : St) parts.toList = some ps) (hT : assoc stL T = some lf) (hz : assoc bP T = some d0) (hd0 : d0.agg = true) (hf : kH (lf.map fun x => (x.1, x.2.1)) d0 ps = some d) : HS N ops TT l rs os fs EE t ty pos af gd (.build T parts) (.val d) := fun hg hoff kk => EH.still (qY rfl hx hT hz hd0 hf) hg rfl hoff kk
theorem Ar {T n e z : Nat} {d : D} (hT : assoc arL T = some (n, e, z)) (hz : assoc bP T = some d) (hd : d.agg = true) : PS X ops Q l rs os fs t ty pos af gd (.build T #[]) (.val d) := fun hg hN kk => ES.still (ou rfl hT hz hd) hg rfl hN kk
theorem AU {T n e z : Nat} {d : D} (hT : assoc arL T = some (n, e, z)) (hz : assoc bP T = some d) (hd : d.agg = true) : HS N ops TT l rs os fs EE t ty pos af gd (.build T #[]) (.val d) := fun hg hoff kk => EH.still (ou rfl hT hz hd) hg rfl hoff kk
theorem CS {x y : Operand} {T e z b : Nat} {k : Int} {ds : List D} {d : D} (hx : eV rs os fs x (.sl z ds)) (hy : eV rs os fs y (.v (.int .i64 k))) (hT : assoc slL T = some (e, z, b)) (hz : Nat.blt 0 z = true) (hk : 0 ≤ k ∧ ds[k.toNat]? = some d) : PS X ops Q l rs os fs t ty pos af gd (.indexAddr T x y) (.val (.pd d)) := fun hg hN kk => ES.still (zA rfl hx hy hT hz hk) hg rfl hN kk
theorem xY {x y : Operand} {T e b : Nat} {k : Int} {l1 : List UInt8} {c : UInt8} (hx : eV rs os fs x (.bs l1)) (hy : eV rs os fs y (.v (.int .i64 k))) (hT : assoc slL T = some (e, 1, b)) (hk : 0 ≤ k ∧ l1[k.toNat]? = some c) : PS X ops Q l rs os fs t ty pos af gd (.indexAddr T x y) (.val (.pd (.v (bv c)))) := fun hg hN kk => ES.still (qV rfl hx hy hT hk) hg rfl hN kk
theorem EX {x : Operand} {T sz g n i : Nat} {ag : Bool} {t0 : TypeId} {d d' : D} (hx : ev (⟨rs, os, fs⟩ : St) x = some (.val (.v (.pointer (some ⟨g, n, none⟩))))) (hi : os[i]? = some (.var g t0 d)) (hT : assoc tyL T = some (sz, ag)) (hs : d.sub n sz ag = some d') : PS X ops Q l rs os fs t ty pos af gd (.load T x) (.val d') := fun hg hN kk => ES.still (vJ i rfl hx hi hT hs) hg rfl hN kk
theorem Fe {x : Operand} {T sz g n i : Nat} {ag : Bool} {t0 : TypeId} {d d' : D} (hx : ev (⟨rs, os, fs⟩ : St) x = some (.val (.v (.pointer (some ⟨g, n, none⟩))))) (hi : os[i]? = some (.var g t0 d)) (hT : assoc tyL T = some (sz, ag)) (hs : d.sub n sz ag = some d') : HS N ops TT l rs os fs EE t ty pos af gd (.load T x) (.val d') := fun hg hoff kk => EH.still (vJ i rfl hx hi hT hs) hg rfl hoff kk
theorem Am {x : Operand} {T e e' z z' y i : Nat} {v : Value} {ds : List D} (hx : eV rs os fs x (.v v)) (hi : os[i]? = some (.row v e' z ds)) (hT : assoc slL T = some (e, z', y)) : PS X ops Q l rs os fs t ty pos af gd (.call { callee := .builtin .len, args := #[x], argTypes := #[T] }) (.val (.v (.int .i64 ds.length))) := fun hg hN kk => ES.still (lY i rfl hx hi hT) hg rfl hN kk
theorem AO {x : Operand} {T e e' z z' y i : Nat} {v : Value} {ds : List D} (hx : eV rs os fs x (.v v)) (hi : os[i]? = some (.row v e' z ds)) (hT : assoc slL T = some (e, z', y)) : HS N ops TT l rs os fs EE t ty pos af gd (.call { callee := .builtin .len, args := #[x], argTypes := #[T] }) (.val (.v (.int .i64 ds.length))) := fun hg hoff kk => EH.still (lY i rfl hx hi hT) hg rfl hoff kk
set_option maxRecDepth 100000 in
theorem Ak {T n e z y : Nat} {parts : Array (Nat × Operand)} {ps : List (Nat × D)} {ds : List D} {d0 : D} (hx : jc (⟨rs, os, fs⟩ : St) parts.toList = some ps) (hT : assoc slL T = some (e, z, y)) (hz : assoc bP e = some d0) (hin : iD 0 ps = some ds) (hsz : allB z ps = true) (hn : ps.length = n) (h0 : Bz n z = true) : PS X ops Q l rs os fs t ty pos af gd (.buildSlice T n parts) (.val (.sl z ds)) := fun hg hN kk => ES.grow (jE (T := T) (n := n) (z := z) (parts := parts) rfl hx hT hz hin hsz hn h0) hg rfl hN kk
set_option maxRecDepth 100000 in
theorem Gp {T n e z y : Nat} {parts : Array (Nat × Operand)} {ps : List (Nat × D)} {ds : List D} {d0 : D} (hx : jc (⟨rs, os, fs⟩ : St) parts.toList = some ps) (hT : assoc slL T = some (e, z, y)) (hz : assoc bP e = some d0) (hin : iD 0 ps = some ds) (hsz : allB z ps = true) (hn : ps.length = n) (h0 : Bz n z = true) : HS N ops TT l rs os fs EE t ty pos af gd (.buildSlice T n parts) (.val (.sl z ds)) := fun hg hoff kk => EH.grow (jE (T := T) (n := n) (z := z) (parts := parts) rfl hx hT hz hin hsz hn h0) hg rfl hoff kk
theorem aH {t ty f : Nat} {pos : String} {af : Array Edge} {gd : Option (Nat × Bool)} {args : Array Operand} {tys : Array TypeId} {ds ds' : List D} {r : R} (hF : Fn f ds' (· = r)) (hx : evs (⟨rs, os, fs⟩ : St) args.toList = some ds := by rfl) (hR : aj fs ds ds' := by exact RL.a) (hf : Enters f := by exact enA) (hg : guardOf ops ⟨rs, os, fs⟩ ⟨some t, .call { callee := .value (.func f), args := args, argTypes := tys }, ty, pos, af, gd⟩ = some true := by rfl) (hN : Nat.blt t N = true := by rfl) (kk : EL X ops Q l ⟨(t, r) :: rs, os, fs⟩) : EL X ops Q (⟨some t, .call { callee := .value (.func f), args := args, argTypes := tys }, ty, pos, af, gd⟩ :: l) ⟨rs, os, fs⟩ := ES.call hF rfl hx hf hR hg rfl hN kk
theorem dJ {t ty f : Nat} {pos : String} {af : Array Edge} {gd : Option (Nat × Bool)} {args : Array Operand} {tys : Array TypeId} {ds ds' : List D} {r : R} (hF : Fn f ds' (· = r)) (hx : evs (⟨rs, os, fs⟩ : St) args.toList = some ds := by rfl) (hR : aj fs ds ds' := by exact RL.a) (hf : Enters f := by exact enA) (hg : guardOf ops ⟨rs, os, fs⟩ ⟨some t, .call { callee := .value (.func f), args := args, argTypes := tys }, ty, pos, af, gd⟩ = some true := by rfl) (hoff : dF N (some t) EE = true := by rfl) (kk : EM N ops TT l ⟨(t, r) :: rs, os, fs⟩ EE) : EM N ops TT (⟨some t, .call { callee := .value (.func f), args := args, argTypes := tys }, ty, pos, af, gd⟩ :: l) ⟨rs, os, fs⟩ EE := EH.call hF rfl hx hf hR hg rfl hoff kk
theorem ER {t ty : Nat} {op : Op} {pos : String} {af : Array Edge} {gd : Nat × Bool} (hg : guardOf ops ⟨rs, os, fs⟩ ⟨some t, op, ty, pos, af, some gd⟩ = some false) (hN : Nat.blt t N = true) (kk : EL X ops Q l ⟨(t, .tpl []) :: rs, os, fs⟩) : EL X ops Q (⟨some t, op, ty, pos, af, some gd⟩ :: l) ⟨rs, os, fs⟩ := ES.skip hg rfl hN kk
theorem E8 {t ty : Nat} {op : Op} {pos : String} {af : Array Edge} {gd : Nat × Bool} (hg : guardOf ops ⟨rs, os, fs⟩ ⟨some t, op, ty, pos, af, some gd⟩ = some false) (hoff : dF N (some t) EE = true) (kk : EM N ops TT l ⟨(t, .tpl []) :: rs, os, fs⟩ EE) : EM N ops TT (⟨some t, op, ty, pos, af, some gd⟩ :: l) ⟨rs, os, fs⟩ EE := EH.skip hg rfl hoff kk
theorem CY {t ty T : Nat} {pos : String} {af : Array Edge} {gd : Option (Nat × Bool)} {d : D} (hz : assoc bP T = some d) (hg : guardOf ops ⟨rs, os, fs⟩ ⟨some t, .alloc T, ty, pos, af, gd⟩ = some true) (hN : Nat.blt t N = true) (kk : ∀ g, EL X ops Q l ⟨(t, .val (.v (.pointer (some ⟨g, 0, none⟩)))) :: rs, .var g T d :: os, fs⟩) : EL X ops Q (⟨some t, .alloc T, ty, pos, af, gd⟩ :: l) ⟨rs, os, fs⟩ := ES.alloc rfl hz hg rfl hN kk
theorem Dj {t ty T : Nat} {pos : String} {af : Array Edge} {gd : Option (Nat × Bool)} {d : D} (hz : assoc bP T = some d) (hg : guardOf ops ⟨rs, os, fs⟩ ⟨some t, .alloc T, ty, pos, af, gd⟩ = some true) (hoff : dF N (some t) EE = true) (kk : EM N ops TT l ⟨(t, .any) :: rs, os, fs⟩ (EE ++ [(t, T, d)])) : EM N ops TT (⟨some t, .alloc T, ty, pos, af, gd⟩ :: l) ⟨rs, os, fs⟩ EE := EH.alloc rfl hz rfl hg hoff kk
theorem wu {t ty T : Nat} {pos : String} {af : Array Edge} {gd : Option (Nat × Bool)} {x : Operand} {d : D} (hx : ev (⟨rs, os, fs⟩ : St) x = some (.val d)) (hg : guardOf ops ⟨rs, os, fs⟩ ⟨some t, .box T x, ty, pos, af, gd⟩ = some true) (hN : Nat.blt t N = true) (kk : ∀ g, EL X ops Q l ⟨(t, .val (.v (.pointer (some ⟨g, 0, none⟩)))) :: rs, .var g T d :: os, fs⟩) : EL X ops Q (⟨some t, .box T x, ty, pos, af, gd⟩ :: l) ⟨rs, os, fs⟩ := ES.box rfl hx hg rfl hN kk
theorem Gq {t ty T : Nat} {pos : String} {af : Array Edge} {gd : Option (Nat × Bool)} {x : Operand} {d : D} (hx : ev (⟨rs, os, fs⟩ : St) x = some (.val d)) (hg : guardOf ops ⟨rs, os, fs⟩ ⟨some t, .box T x, ty, pos, af, gd⟩ = some true) (hoff : dF N (some t) EE = true) (kk : EM N ops TT l ⟨(t, .any) :: rs, os, fs⟩ (EE ++ [(t, T, d)])) : EM N ops TT (⟨some t, .box T x, ty, pos, af, gd⟩ :: l) ⟨rs, os, fs⟩ EE := EH.box rfl hx rfl hg hoff kk
theorem CB {T g n ty : Nat} {pos : String} {af : Array Edge} {gd : Option (Nat × Bool)} {x y : Operand} {t0 : TypeId} {d d' d'' : D} {os' : List Obj} (hx : ev (⟨rs, os, fs⟩ : St) x = some (.val (.v (.pointer (some ⟨g, n, none⟩))))) (hset : kK os (.var g t0 d) (.var g t0 d'') os') (hy : ev (⟨rs, os, fs⟩ : St) y = some (.val d')) (hT : assoc tyL T = some (d'.size, d'.agg)) (hu : d.upd n d' = some d'') (hg : guardOf ops ⟨rs, os, fs⟩ ⟨none, .store T x y, ty, pos, af, gd⟩ = some true) (kk : EL X ops Q l ⟨rs, os', fs⟩) : EL X ops Q (⟨none, .store T x y, ty, pos, af, gd⟩ :: l) ⟨rs, os, fs⟩ := by
 obtain ⟨i, hi, rfl⟩ := hset.ix
 exact EL.store i rfl rfl hg hx hi hy (tyI hT) hu kk
theorem Aw {t T e z y ty : Nat} {pos : String} {af : Array Edge} {gd : Option (Nat × Bool)} {s x : Operand} {v : Value} {ds es : List D} {os' : Value → List Obj} (hs : ev (⟨rs, os, fs⟩ : St) s = some (.val (.v v))) (hset : jo os (.row v e z ds) (fun v' => .row v' e z (ds ++ es)) os') (hx : ev (⟨rs, os, fs⟩ : St) x = some (.val (.sl z es))) (hT : assoc slL T = some (e, z, y)) (hz : Nat.blt 0 z = true) (hg : guardOf ops ⟨rs, os, fs⟩ ⟨some t, .call { callee := .builtin .append, args := #[s, x], argTypes := #[T, T] }, ty, pos, af, gd⟩ = some true) (hN : Nat.blt t N = true) (hlen : (ds.length + es.length) * y ≤ 140737488355328 ∧ ds.length + es.length ≤ 9223372036854775807) (kk : ∀ v', EL X ops Q l ⟨(t, .val (.v v')) :: rs, os' v', fs⟩) : EL X ops Q (⟨some t, .call { callee := .builtin .append, args := #[s, x], argTypes := #[T, T] }, ty, pos, af, gd⟩ :: l) ⟨rs, os, fs⟩ := by
 obtain ⟨i, hi, hl'⟩ := hset.ix
 exact ES.append (v := v) (ds := ds) i rfl hT hz hs hi hx hg rfl hN hlen fun v' => by rw [← hl' v']; exact kk v'
end
section
variable {ok : Nat → Prop} {w : World}
theorem lU (hok : ∀ b, ok b → b < w.heap.size) {l : List UInt8} {v : Value} (h : aW ok w (.bs l) v) : IsB w v l := by
 obtain ⟨A, c, h1, h2, h3, h4⟩ := rJ h
 exact ⟨A, c, h1, h2, h3, fun hn => by
  obtain ⟨b, n, e, hb, hc⟩ := h4 hn
  exact ⟨b, n, e, hok b hb, hc⟩⟩
theorem kT {n : Nat} {l : List UInt8} {v : Value} (h : aW ok w (.arr n l) v) : l.length = n ∧ v = aX l := by
 obtain ⟨cs, h1, rfl⟩ := (iT rfl).1 h
 rw [Reads] at h1
 rw [h1.2]
 exact ⟨h1.1, rfl⟩
theorem vX {n : Nat} {l : List UInt8} (h : l.length = n) : aW ok w (.arr n l) (aX l) := (iT rfl).2 ⟨bvs l, by rw [Reads]; exact ⟨h, rfl⟩, rfl⟩
theorem oW {d : D} {xs : List Value} (h : aZ ok w [d] xs) : ∃ v, xs = [v] ∧ aW ok w d v := by
 obtain ⟨x, rest, rfl, h1, h2⟩ := h
 cases h2
 exact ⟨x, rfl, h1⟩
end
section
variable {T e n : Nat}
theorem zW (hT : Tryz.prog.underlying T = some (.array n e)) (he : Tryz.prog.underlying e = some (.int .u8)) (hs : ∀ w, (sizeOf e).run Tryz.prog w = .ok 1 w) (w : World) (l m : List UInt8) (hl : l.length = n) (hm : m.length = n) : (Op.equalIn 10000 T (aX l) (aX m)).run Tryz.prog w = .ok (l == m) w := by
 have h2 := run_equalIn_bytes w 9998 T e n hT he hs l m hl hm
 rw [show (Op.equalIn 10000 T (aX l) (aX m)) = (Op.equalIn (9998 + 2) T (.agg (l.map Extern.Stop.cell).toArray) (.agg (m.map Extern.Stop.cell).toArray)) from rfl, h2]
theorem Ci (hT : Tryz.prog.underlying T = some (.array n e)) (he : Tryz.prog.underlying e = some (.int .u8)) (hs : ∀ w, (sizeOf e).run Tryz.prog w = .ok 1 w) (hg : Tryz.prog.eqGuardType Tryz.prog.depth T = false) (l m : List UInt8) : Bin .eql T (.arr n l) (.arr n m) (.bool (l == m)) ∧ Bin .neq T (.arr n l) (.arr n m) (.bool (l != m)) := by
 refine ⟨⟨rfl, fun ok w p q hp hq => ?_⟩, ⟨rfl, fun ok w p q hp hq => ?_⟩⟩ <;> (obtain ⟨e1, rfl⟩ := kT hp; obtain ⟨e2, rfl⟩ := kT hq; refine ⟨fun x y => run_eqGuard_agg w _ _ _ _ _ _ hg, ?_⟩)
 · exact run_eql_bytes w T e n hT he hs l m e1 e2
 ·
  have h1 : (binOp .neq T (aX l) (aX m)).run Tryz.prog w = ((Op.equalIn 10000 T (aX l) (aX m)).run Tryz.prog w).andThen fun b w' => .ok (.bool (!b)) w' := by
   simp only [aX, binOp, Op.equal, Op.maxDepth, GR, GY]
  rw [h1, zW hT he hs w l m e1 e2]
  rfl
end
theorem mO (l m : List UInt8) : Bin .eql 36 (.arr 32 l) (.arr 32 m) (.bool (l == m)) ∧ Bin .neq 36 (.arr 32 l) (.arr 32 m) (.bool (l != m)) :=
 Ci Tryz.underlying36 Tryz.underlying5 (fun w => by kernel_rfl) (by kernel_rfl) l m
theorem mP (l m : List UInt8) : Bin .eql 9 (.v (.string (Go.Proofs.YtaoicebcdmpemaaGreat.bs l))) (.v (.string (Go.Proofs.YtaoicebcdmpemaaGreat.bs m))) (.bool (l == m)) ∧ Bin .neq 9 (.v (.string (Go.Proofs.YtaoicebcdmpemaaGreat.bs l))) (.v (.string (Go.Proofs.YtaoicebcdmpemaaGreat.bs m))) (.bool (l != m)) := by
 refine ⟨⟨rfl, fun ok w p q hp hq => ?_⟩, ⟨rfl, fun ok w p q hp hq => ?_⟩⟩ <;> (obtain rfl := (ay.1 hp).2; obtain rfl := (ay.1 hq).2; refine ⟨fun x y => by simp [eqGuard], ?_⟩)
 · simp [binOp, Op.stringOp, oG]
 · simp [binOp, Op.stringOp, oG, bne]
theorem EC.lenOf {N : Nat} {X : Cx N} {S : St} {Q : Exit → Act → World → Prop} {c : Code} {t : Tmp} {z : Nat} {ds : List D} (hl : look S.regs t = some (.val (.sl z ds))) (k : ds.length ≤ maxLen → EC X Q c S) : EC X Q c S := ⟨fun a w ha => by
 obtain ⟨A, c', rows, h1, h2, h3, _⟩ := qo (ha.regs t _ hl)
 exact (k (by omega)).go a w ha⟩
end E
end Go.Proofs.YtaoicebcdmpemaaGreat
