/-
 Merged: lemmas of this claim.
 Conditions: none.
-/
import Derived.Test.YtohlgnfachkmaaaGreatZA5
import Derived.Stop.BytesEq
import Derived.Test.YtohlgnfachkmaaaGreatZA0
namespace Go.Proofs.YtohlgnfachkmaaaGreat
set_option linter.unusedVariables false
open Go.RowKit Mono Rlp
namespace E
def G6 (N : Nat) (d : Option Tmp) : Bool :=
 match d with
 | some t => decide (t < N)
 | none => true
section
variable {N : Nat} {X : Cx N} {S S' : St} {a : Act} {w w' : World} {ops : Array Oper} {o : Oper} {Q : Exit → Act → World → Prop} {l : List Oper} {T : St → List Fr → Prop} {E : List Fr}
theorem Jh (h : G6 N o.dst = true) : ∀ t, o.dst = some t → t < N := fun t ht => by
 rw [ht] at h
 simpa [G6] using h
theorem tyI {T sz : Nat} {ag : Bool} (h : assoc tyL T = some (sz, ag)) : Ty Tryz.prog T sz ag := JG (by
 have := Md.1 IC _ (fE _ _ _ h)
 simpa using this)
theorem slI {T e z y : Nat} (h : assoc slL T = some (e, z, y)) : EI T e z := by
 have := Md.1 CW _ (fE _ _ _ h)
 exact JJ (y := y) (y' := z) (by simpa using this)
theorem CS {T e z y : Nat} (h : assoc slL T = some (e, z, y)) (h0 : Nat.blt 0 z = true) : SlT Tryz.prog T e z y := by
 have := Md.1 CW _ (fE _ _ _ h)
 exact II (by simpa using this) (by simpa using h0)
theorem J9 {T n e z : Nat} (h : assoc arL T = some (n, e, z)) : Ie T n e z := by
 have := Md.1 Jp _ (fE _ _ _ h)
 exact J8 (by simpa using this)
theorem GU {T k off sz : Nat} {ag : Bool} {l : List (Nat × Nat × Bool)} (h : assoc stL T = some l) (hk : l[k]? = some (off, sz, ag)) (h0 : Nat.blt 0 sz = true) : Fld Tryz.prog T k off sz ag := by
 have := Md.1 CO _ (fE _ _ _ h)
 exact IG (by simpa using this) hk (by simpa using h0)
theorem stI {T : Nat} {l : List (Nat × Nat × Bool)} (h : assoc stL T = some l) : Hf T (l.map fun x => (x.1, x.2.1)) := by
 have := Md.1 CO _ (fE _ _ _ h)
 exact JH (by simpa using this)
theorem pI {T : Nat} {d : D} (h : assoc dI T = some d) : Zero T d := BU.get _ _ _ BX h
variable {rs : List (Tmp × R)} {os : List Obj} {fs : List (Value × D)}
theorem fK {t : Tmp} (hd : o.dst = some t) (hN : Nat.blt t N = true) : ∀ u, o.dst = some u → u < N := fun u hu => by
 rw [hd] at hu
 cases hu
 simpa using hN
theorem ES.still {t : Tmp} {r : R} (hO : Still ops ⟨rs, os, fs⟩ o r) (hg : guardOf ops ⟨rs, os, fs⟩ o = some true) (hd : o.dst = some t) (hN : Nat.blt t N = true) (k : EL X ops Q l ⟨(t, r) :: rs, os, fs⟩) : EL X ops Q (o :: l) ⟨rs, os, fs⟩ :=
 EL.still hg (fK hd hN) hO (by rw [hd]; exact k)
theorem ES.skip {t : Tmp} (hg : guardOf ops ⟨rs, os, fs⟩ o = some false) (hd : o.dst = some t) (hN : Nat.blt t N = true) (k : EL X ops Q l ⟨(t, .tpl []) :: rs, os, fs⟩) : EL X ops Q (o :: l) ⟨rs, os, fs⟩ := EL.skip hg (fK hd hN) (by rw [hd]; exact k)
theorem ES.alloc {t : Tmp} {T : TypeId} {d : D} (ho : o.op = .alloc T) (hz : assoc dI T = some d) (hg : guardOf ops ⟨rs, os, fs⟩ o = some true) (hd : o.dst = some t) (hN : Nat.blt t N = true)
  (k : ∀ g, EL X ops Q l ⟨(t, .val (.v (.pointer (some ⟨g, 0, none⟩)))) :: rs, .var g T d :: os, fs⟩) : EL X ops Q (o :: l) ⟨rs, os, fs⟩ := EL.alloc ho hg (fK hd hN) (pI hz) fun g => by rw [hd]; exact k g
theorem ES.box {t : Tmp} {T : TypeId} {x : Operand} {d : D} (ho : o.op = .box T x) (hx : ev ⟨rs, os, fs⟩ x = some (.val d)) (hg : guardOf ops ⟨rs, os, fs⟩ o = some true) (hd : o.dst = some t) (hN : Nat.blt t N = true)
  (k : ∀ g, EL X ops Q l ⟨(t, .val (.v (.pointer (some ⟨g, 0, none⟩)))) :: rs, .var g T d :: os, fs⟩) : EL X ops Q (o :: l) ⟨rs, os, fs⟩ := EL.box ho hg (fK hd hN) hx fun g => by rw [hd]; exact k g
theorem ah.refl (F : List (Value × D)) : ∀ ds : List D, ah F ds ds
 | [] => by rw [ah]
 | d :: ds => by
  rw [ah]
  refine ⟨d, ds, rfl, ?_, ah.refl F ds⟩
  exact Refine.refl F d
where Refine.refl (F : List (Value × D)) : ∀ d : D, Refine F d d
 | .v x => by rw [Refine]; exact .inl rfl
 | .tup ds => by rw [Refine]; exact ⟨ds, rfl, ah.refl F ds⟩
 | .arr n l => by rw [Refine]
 | .bs l => by rw [Refine]
 | .sl z ds => by rw [Refine]
 | .pd d => by rw [Refine]
 | .ifc t d => by rw [Refine]
theorem ah.ny {ok : Nat → Prop} {F : List (Value × D)} (hF : ∀ f ∈ F, Reads ok w f.2 [f.1]) : ∀ (ds l : List D) (xs : List Value), ah F ds l → bJ ok w ds xs → bJ ok w l xs
 | [], l, xs, h, hr => by rw [ah] at h; subst h; exact hr
 | d :: ds, l, xs, h, hr => by
  rw [ah] at h
  obtain ⟨d', ds', rfl, h1, h2⟩ := h
  obtain ⟨x, rest, rfl, h3, h4⟩ := hr
  exact ⟨x, rest, rfl, h1.ku hF h3, ah.ny hF ds ds' rest h2 h4⟩
theorem zS {f : FuncId} {args : Array Operand} {tys : Array TypeId} {ds ds' : List D} {Φ : R → Prop} (hF : Fn f ds' Φ) (ho : o.op = .call { callee := .value (.func f), args := args, argTypes := tys }) (hx : evs S args.toList = some ds) (hf : Enters f) (hR : ah S.facts ds ds') : iR ops S o Φ := fun base ok a w ha => by
 have hr := ah.ny ha.facts _ _ _ hR (ha.evs _ _ hx fun t ht => ay (x := .tmp t) rfl (by rw [ho]; simp only [Op.operands, Call.operands]; simp; simpa using ht))
 have hrun : (execOp a.eval o).run Tryz.prog w = .ok (.enter f (args.map a.eval)) w := by
  unfold execOp
  simp [ho, resolve, Act.eval, Deferred.ofValue, invoke, hf (args.map a.eval) w]
 rw [hrun]
 refine ⟨Gr.refl w, ?_⟩
 have := hF.go ok w _ ha.lt hr
 have he : (args.toList.map a.eval).toArray = args.map a.eval := by
  apply NY
  simp
 rw [he] at this
 refine this.mono ?_
 rintro e w' ⟨hg, v, r, rfl, hr, hv⟩
 exact ⟨v, rfl, hg, r, hr, hv⟩
theorem ES.call {t : Tmp} {f : FuncId} {args : Array Operand} {tys : Array TypeId} {ds ds' : List D} {r : R} (hF : Fn f ds' (· = r)) (ho : o.op = .call { callee := .value (.func f), args := args, argTypes := tys }) (hx : evs ⟨rs, os, fs⟩ args.toList = some ds) (hf : Enters f) (hR : ah fs ds ds') (hg : guardOf ops ⟨rs, os, fs⟩ o = some true) (hd : o.dst = some t) (hN : Nat.blt t N = true) (k : EL X ops Q l ⟨(t, r) :: rs, os, fs⟩) : EL X ops Q (o :: l) ⟨rs, os, fs⟩ :=
 EL.grow hg (fK hd hN) (zS hF ho hx hf hR) (by rw [hd]; exact k)
theorem ES.grow {t : Tmp} {r : R} (hO : iR ops ⟨rs, os, fs⟩ o (· = r)) (hg : guardOf ops ⟨rs, os, fs⟩ o = some true) (hd : o.dst = some t) (hN : Nat.blt t N = true) (k : EL X ops Q l ⟨(t, r) :: rs, os, fs⟩) : EL X ops Q (o :: l) ⟨rs, os, fs⟩ := EL.grow hg (fK hd hN) hO (by rw [hd]; exact k)
theorem EH.still {t : Tmp} {r : R} (hO : Still ops ⟨rs, os, fs⟩ o r) (hg : guardOf ops ⟨rs, os, fs⟩ o = some true) (ht : o.dst = some t) (hd : bf N (some t) E = true) (k : EM N ops T l ⟨(t, r) :: rs, os, fs⟩ E) : EM N ops T (o :: l) ⟨rs, os, fs⟩ E := EM.still hg (by rw [ht]; exact hd) hO (by rw [ht]; exact k)
theorem EH.skip {t : Tmp} (hg : guardOf ops ⟨rs, os, fs⟩ o = some false) (ht : o.dst = some t) (hd : bf N (some t) E = true) (k : EM N ops T l ⟨(t, .tpl []) :: rs, os, fs⟩ E) : EM N ops T (o :: l) ⟨rs, os, fs⟩ E := EM.skip hg (by rw [ht]; exact hd) (by rw [ht]; exact k)
theorem EH.grow {t : Tmp} {r : R} (hO : iR ops ⟨rs, os, fs⟩ o (· = r)) (hg : guardOf ops ⟨rs, os, fs⟩ o = some true) (ht : o.dst = some t) (hd : bf N (some t) E = true) (k : EM N ops T l ⟨(t, r) :: rs, os, fs⟩ E) : EM N ops T (o :: l) ⟨rs, os, fs⟩ E := EM.grow hg (by rw [ht]; exact hd) hO (by rw [ht]; exact k)
theorem EH.call {t : Tmp} {f : FuncId} {args : Array Operand} {tys : Array TypeId} {ds ds' : List D} {r : R} (hF : Fn f ds' (· = r)) (ho : o.op = .call { callee := .value (.func f), args := args, argTypes := tys }) (hx : evs ⟨rs, os, fs⟩ args.toList = some ds) (hf : Enters f) (hR : ah fs ds ds') (hg : guardOf ops ⟨rs, os, fs⟩ o = some true) (ht : o.dst = some t) (hd : bf N (some t) E = true) (k : EM N ops T l ⟨(t, r) :: rs, os, fs⟩ E) : EM N ops T (o :: l) ⟨rs, os, fs⟩ E :=
 EM.grow hg (by rw [ht]; exact hd) (zS hF ho hx hf hR) (by rw [ht]; exact k)
theorem EH.alloc {t : Tmp} {Ty : TypeId} {d : D} (ho : o.op = .alloc Ty) (hz : assoc dI Ty = some d) (ht : o.dst = some t) (hg : guardOf ops ⟨rs, os, fs⟩ o = some true) (hd : bf N (some t) E = true) (k : EM N ops T l ⟨(t, .any) :: rs, os, fs⟩ (E ++ [(t, Ty, d)])) : EM N ops T (o :: l) ⟨rs, os, fs⟩ E := EM.new hg ht hd (o8 ho (pI hz)) k
theorem EH.box {t : Tmp} {Ty : TypeId} {x : Operand} {d : D} (ho : o.op = .box Ty x) (hx : ev ⟨rs, os, fs⟩ x = some (.val d)) (ht : o.dst = some t) (hg : guardOf ops ⟨rs, os, fs⟩ o = some true) (hd : bf N (some t) E = true) (k : EM N ops T l ⟨(t, .any) :: rs, os, fs⟩ (E ++ [(t, Ty, d)])) : EM N ops T (o :: l) ⟨rs, os, fs⟩ E := EM.new hg ht hd (zI ho hx) k
theorem xA {T : Nat} {parts : Array (Nat × Operand)} {l : List (Nat × Nat × Bool)} {d0 d : D} {ps : List (Nat × D)} (ho : o.op = .build T parts) (hx : jP S parts.toList = some ps) (hT : assoc stL T = some l) (hz : assoc dI T = some d0) (hd0 : d0.agg = true) (hf : oN (l.map fun x => (x.1, x.2.1)) d0 ps = some d) : Still ops S o (.val d) := GN ho hx (stI hT) (pI hz) hd0 hf
theorem sQ {T n e z : Nat} {d : D} (ho : o.op = .build T #[]) (hT : assoc arL T = some (n, e, z)) (hz : assoc dI T = some d) (hd : d.agg = true) : Still ops S o (.val d) := Ed ho (J9 hT) (pI hz) hd
def AP (n z : Nat) : Bool := Nat.blt 0 n && Nat.blt 0 z && Nat.ble (n * z) 16777216
def allB (z : Nat) (ps : List (Nat × D)) : Bool := ps.all fun p => p.2.size == z
theorem mG {T e z y n : Nat} {parts : Array (Nat × Operand)} {ps : List (Nat × D)} {ds : List D} {d0 : D} (ho : o.op = .buildSlice T n parts) (hx : jP S parts.toList = some ps) (hT : assoc slL T = some (e, z, y)) (hz : assoc dI e = some d0) (hin : iC 0 ps = some ds) (hsz : allB z ps = true) (hn : ps.length = n) (h0 : AP n z = true) : iR ops S o (· = .val (.sl z ds)) := by
 simp only [AP, MI, Nat.blt_eq, Nat.ble_eq] at h0
 exact wU ho hx (slI hT) (pI hz) hin (fun p hp => by simpa using Md.1 hsz p hp) hn h0.1 h0.2
theorem xq {x : Operand} {T k off sz g n : Nat} {ag : Bool} {l : List (Nat × Nat × Bool)} (ho : o.op = .fieldAddr T x k) (hx : ev S x = some (.val (.v (.pointer (some ⟨g, n, none⟩))))) (h : assoc stL T = some l) (hk : l[k]? = some (off, sz, ag)) (h0 : Nat.blt 0 sz = true) : Still ops S o (.val (.v (.pointer (some ⟨g, n + off, none⟩)))) := GK ho hx (GU h hk h0)
theorem oL {x : Operand} {T k off sz : Nat} {ag : Bool} {d d' : D} {l : List (Nat × Nat × Bool)} (ho : o.op = .fieldAddr T x k) (hx : ev S x = some (.val (.pd d))) (h : assoc stL T = some l) (hk : l[k]? = some (off, sz, ag)) (h0 : Nat.blt 0 sz = true) (hs : d.sub off sz ag = some d') : Still ops S o (.val (.pd d')) := yT ho hx (GU h hk h0) hs
theorem zQ {x : Operand} {T sz g n : Nat} {ag : Bool} {t : TypeId} {d d' : D} (i : Nat) (ho : o.op = .load T x) (hx : ev S x = some (.val (.v (.pointer (some ⟨g, n, none⟩))))) (hi : S.objs[i]? = some (.var g t d)) (hT : assoc tyL T = some (sz, ag)) (hs : d.sub n sz ag = some d') : Still ops S o (.val d') := Je i ho hx hi (tyI hT) hs
theorem qH {x : Operand} {T sz : Nat} {ag : Bool} {d d' : D} (ho : o.op = .load T x) (hx : ev S x = some (.val (.pd d))) (hT : assoc tyL T = some (sz, ag)) (hs : d.sub 0 sz ag = some d') : Still ops S o (.val d') := Ba ho hx (tyI hT) hs
theorem Eb {x y : Operand} {T e z b : Nat} {k : Int} {ds : List D} (ho : o.op = .indexAddr T x y) (hx : ev S x = some (.val (.sl z ds))) (hy : ev S y = some (.val (.v (.int .i64 k)))) (hT : assoc slL T = some (e, z, b)) (hz : Nat.blt 0 z = true) (h0 : 0 ≤ k) (hk : k.toNat < ds.length) : Still ops S o (.val (.pd ds[k.toNat])) := GI ho hx hy (slI hT) (by simpa using hz) h0 hk
theorem xg {x y : Operand} {T e b : Nat} {k : Int} {l : List UInt8} (ho : o.op = .indexAddr T x y) (hx : ev S x = some (.val (.bs l))) (hy : ev S y = some (.val (.v (.int .i64 k)))) (hT : assoc slL T = some (e, 1, b)) (h0 : 0 ≤ k) (hk : k.toNat < l.length) : Still ops S o (.val (.pd (.v (bv l[k.toNat])))) := yS ho hx hy (slI hT) h0 hk
theorem sN {x : Operand} {T e z y : Nat} {l : List UInt8} (ho : o.op = .call { callee := .builtin .len, args := #[x], argTypes := #[T] }) (hx : ev S x = some (.val (.bs l))) (hT : assoc slL T = some (e, z, y)) : Still ops S o (.val (.v (.int .i64 l.length))) := Ea ho hx (slI hT).und
theorem sK {x : Operand} {T e z y z' : Nat} {ds : List D} (ho : o.op = .call { callee := .builtin .len, args := #[x], argTypes := #[T] }) (hx : ev S x = some (.val (.sl z' ds))) (hT : assoc slL T = some (e, z, y)) : Still ops S o (.val (.v (.int .i64 ds.length))) := D9 ho hx (slI hT).und
theorem qJ {x : Operand} {T e n c z y : Nat} {A : Option Addr} (ho : o.op = .call { callee := .builtin .len, args := #[x], argTypes := #[T] }) (hx : ev S x = some (.val (.v (.slice A n c)))) (hT : assoc slL T = some (e, z, y)) : Still ops S o (.val (.v (.int .i64 n))) := Bd ho hx (slI hT).und
theorem qI {x : Operand} {T e e' z z' y : Nat} {v : Value} {ds : List D} (i : Nat) (ho : o.op = .call { callee := .builtin .len, args := #[x], argTypes := #[T] }) (hx : ev S x = some (.val (.v v))) (hi : S.objs[i]? = some (.row v e' z ds)) (hT : assoc slL T = some (e, z', y)) : Still ops S o (.val (.v (.int .i64 ds.length))) := Bc i ho hx hi (slI hT).und
theorem ES.append {t : Tmp} {T e z y : Nat} {s x : Operand} {v : Value} {ds es : List D} (i : Nat) (ho : o.op = .call { callee := .builtin .append, args := #[s, x], argTypes := #[T, T] }) (hT : assoc slL T = some (e, z, y)) (hz : Nat.blt 0 z = true)
  (hs : ev ⟨rs, os, fs⟩ s = some (.val (.v v))) (hi : os[i]? = some (.row v e z ds)) (hx : ev ⟨rs, os, fs⟩ x = some (.val (.sl z es))) (hg : guardOf ops ⟨rs, os, fs⟩ o = some true) (hd : o.dst = some t) (hN : Nat.blt t N = true) (hlen : (ds.length + es.length) * y ≤ 140737488355328 ∧ ds.length + es.length ≤ 9223372036854775807)
  (k : ∀ v', EL X ops Q l ⟨(t, .val (.v v')) :: rs, os.set i (.row v' e z (ds ++ es)), fs⟩) : EL X ops Q (o :: l) ⟨rs, os, fs⟩ := EL.append i ho hg (fK hd hN) (CS hT hz) hs hi hx hlen fun v' => by rw [hd]; exact k v'
theorem EH.nil {l' : List Oper} {F : List Fr} (hF : F = []) (h : EL X ops Q l' S) : EM N ops (fun S' E => lD (EL X ops Q l') E S') [] S F := by
 subst hF
 exact h
theorem EH.JW {l' : List Oper} {t : Tmp} {Ty : TypeId} {d : D} {F : List Fr} (hF : F = [(t, Ty, d)]) (h : ∀ g, EL X ops Q l' ⟨(t, .val (.v (.pointer (some ⟨g, 0, none⟩)))) :: rs, .var g Ty d :: os, fs⟩) : EM N ops (fun S' E => lD (EL X ops Q l') E S') [] ⟨rs, os, fs⟩ F := by
 subst hF
 exact h
theorem EH.KG {l' : List Oper} {t t' : Tmp} {Ty Ty' : TypeId} {d d' : D} {F : List Fr} (hF : F = [(t, Ty, d), (t', Ty', d')]) (h : ∀ g g', EL X ops Q l' ⟨(t', .val (.v (.pointer (some ⟨g', 0, none⟩)))) :: (t, .val (.v (.pointer (some ⟨g, 0, none⟩)))) :: rs, .var g' Ty' d' :: .var g Ty d :: os, fs⟩) : EM N ops (fun S' E => lD (EL X ops Q l') E S') [] ⟨rs, os, fs⟩ F := by
 subst hF
 exact h
end
section
variable {N : Nat} {X : Cx N} {S S' : St} {ops : Array Oper} {o : Oper} {Q : Exit → Act → World → Prop} {l : List Oper} {TT : St → List Fr → Prop} {EE : List Fr} {rs : List (Tmp × R)} {os : List Obj} {fs : List (Value × D)}
inductive jw : List Obj → Obj → Obj → List Obj → Prop where
 | z {p q : Obj} {m : List Obj} : jw (p :: m) p q (q :: m)
 | s {a p q : Obj} {m m' : List Obj} (h : jw m p q m') : jw (a :: m) p q (a :: m')
theorem jw.ix {p q : Obj} {m m' : List Obj} (h : jw m p q m') : ∃ i : Nat, m[i]? = some p ∧ m' = m.set i q := by
 induction h with
 | z => exact ⟨0, rfl, rfl⟩
 | s h ih =>
  obtain ⟨i, h1, h2⟩ := ih
  exact ⟨i + 1, by simpa using h1, by rw [h2]; rfl⟩
inductive lY : List Obj → Obj → (Value → Obj) → (Value → List Obj) → Prop where
 | z {p : Obj} {q : Value → Obj} {m : List Obj} : lY (p :: m) p q (fun v => q v :: m)
 | s {a p : Obj} {q : Value → Obj} {m : List Obj} {m' : Value → List Obj} (h : lY m p q m') : lY (a :: m) p q (fun v => a :: m' v)
theorem lY.ix {p : Obj} {q : Value → Obj} {m : List Obj} {m' : Value → List Obj} (h : lY m p q m') : ∃ i : Nat, m[i]? = some p ∧ ∀ v, m' v = m.set i (q v) := by
 induction h with
 | z => exact ⟨0, rfl, fun v => rfl⟩
 | s h ih =>
  obtain ⟨i, h1, h2⟩ := ih
  exact ⟨i + 1, by simpa using h1, fun v => congrArg (List.cons _) (h2 v)⟩
theorem I0 {α : Type} {a : α} {m : List α} : (a :: m)[0]? = some a := rfl
theorem I1 {α : Type} {o0 a : α} {m : List α} : (o0 :: a :: m)[1]? = some a := rfl
theorem I2 {α : Type} {o0 o1 a : α} {m : List α} : (o0 :: o1 :: a :: m)[2]? = some a := rfl
theorem I3 {α : Type} {o0 o1 o2 a : α} {m : List α} : (o0 :: o1 :: o2 :: a :: m)[3]? = some a := rfl
theorem I4 {α : Type} {o0 o1 o2 o3 a : α} {m : List α} : (o0 :: o1 :: o2 :: o3 :: a :: m)[4]? = some a := rfl
theorem I5 {α : Type} {o0 o1 o2 o3 o4 a : α} {m : List α} : (o0 :: o1 :: o2 :: o3 :: o4 :: a :: m)[5]? = some a := rfl
theorem I6 {α : Type} {o0 o1 o2 o3 o4 o5 a : α} {m : List α} : (o0 :: o1 :: o2 :: o3 :: o4 :: o5 :: a :: m)[6]? = some a := rfl
def Bin (op : BinOp) (T : TypeId) (d e : D) (c : Value) : Prop := c.oneCell' = true ∧ ∀ ok w p q, bF ok w d p → bF ok w e q → (∀ x y, (eqGuard op T x y p q).run Tryz.prog w = .ok () w) ∧ (binOp op T p q).run Tryz.prog w = .ok c w
theorem Ee {x y : Operand} {op : BinOp} {T U : TypeId} {d e : D} {c : Value} (ho : o.op = .binOp op T x y U) (hx : ev S x = some (.val d)) (hy : ev S y = some (.val e)) (h : Bin op T d e c) : Still ops S o (.val (.v c)) :=
 J3 ho hx hy h.1 fun ok w p q hp hq => ⟨(h.2 ok w p q hp hq).1 x y, (h.2 ok w p q hp hq).2⟩
theorem xk {x y : Operand} {T e z b : Nat} {k : Int} {ds : List D} {d : D} (ho : o.op = .indexAddr T x y) (hx : ev S x = some (.val (.sl z ds))) (hy : ev S y = some (.val (.v (.int .i64 k)))) (hT : assoc slL T = some (e, z, b)) (hz : Nat.blt 0 z = true) (hk : 0 ≤ k ∧ ds[k.toNat]? = some d) : Still ops S o (.val (.pd d)) := by
 obtain ⟨h1, h2⟩ := Lp.1 hk.2
 subst h2
 exact Eb ho hx hy hT hz hk.1 h1
theorem oK {x y : Operand} {T e b : Nat} {k : Int} {l1 : List UInt8} {c : UInt8} (ho : o.op = .indexAddr T x y) (hx : ev S x = some (.val (.bs l1))) (hy : ev S y = some (.val (.v (.int .i64 k)))) (hT : assoc slL T = some (e, 1, b)) (hk : 0 ≤ k ∧ l1[k.toNat]? = some c) : Still ops S o (.val (.pd (.v (bv c)))) := by
 obtain ⟨h1, h2⟩ := Lp.1 hk.2
 subst h2
 exact xg ho hx hy hT hk.1 h1
theorem Jv {t ty : Nat} {pos : String} {af : Array Edge} {gd : Option (Nat × Bool)} {x : Operand} {r : R} (hx : ev (⟨rs, os, fs⟩ : St) x = some r) (hg : guardOf ops ⟨rs, os, fs⟩ ⟨some t, .move x, ty, pos, af, gd⟩ = some true) (hN : Nat.blt t N = true) (kk : EL X ops Q l ⟨(t, r) :: rs, os, fs⟩) : EL X ops Q (⟨some t, .move x, ty, pos, af, gd⟩ :: l) ⟨rs, os, fs⟩ := ES.still (D6 rfl hx) hg rfl hN kk
theorem JB {t ty : Nat} {pos : String} {af : Array Edge} {gd : Option (Nat × Bool)} {x : Operand} {r : R} (hx : ev (⟨rs, os, fs⟩ : St) x = some r) (hg : guardOf ops ⟨rs, os, fs⟩ ⟨some t, .move x, ty, pos, af, gd⟩ = some true) (hoff : bf N (some t) EE = true) (kk : EM N ops TT l ⟨(t, r) :: rs, os, fs⟩ EE) : EM N ops TT (⟨some t, .move x, ty, pos, af, gd⟩ :: l) ⟨rs, os, fs⟩ EE := EH.still (D6 rfl hx) hg rfl hoff kk
theorem Fa {t ty : Nat} {pos : String} {af : Array Edge} {gd : Option (Nat × Bool)} {x : Operand} {r : R} (hx : ev (⟨rs, os, fs⟩ : St) x = some r) (hg : guardOf ops ⟨rs, os, fs⟩ ⟨some t, .assign x, ty, pos, af, gd⟩ = some true) (hN : Nat.blt t N = true) (kk : EL X ops Q l ⟨(t, r) :: rs, os, fs⟩) : EL X ops Q (⟨some t, .assign x, ty, pos, af, gd⟩ :: l) ⟨rs, os, fs⟩ := ES.still (xB rfl hx) hg rfl hN kk
theorem FC {t ty : Nat} {pos : String} {af : Array Edge} {gd : Option (Nat × Bool)} {x : Operand} {r : R} (hx : ev (⟨rs, os, fs⟩ : St) x = some r) (hg : guardOf ops ⟨rs, os, fs⟩ ⟨some t, .assign x, ty, pos, af, gd⟩ = some true) (hoff : bf N (some t) EE = true) (kk : EM N ops TT l ⟨(t, r) :: rs, os, fs⟩ EE) : EM N ops TT (⟨some t, .assign x, ty, pos, af, gd⟩ :: l) ⟨rs, os, fs⟩ EE := EH.still (xB rfl hx) hg rfl hoff kk
theorem BL {t ty : Nat} {pos : String} {af : Array Edge} {gd : Option (Nat × Bool)} {x : Operand} {i : Nat} {ds : List D} {d : D} (hx : ev (⟨rs, os, fs⟩ : St) x = some (.tpl ds)) (hd : ds[i]? = some d) (hg : guardOf ops ⟨rs, os, fs⟩ ⟨some t, .extract x i, ty, pos, af, gd⟩ = some true) (hN : Nat.blt t N = true) (kk : EL X ops Q l ⟨(t, (.val d)) :: rs, os, fs⟩) : EL X ops Q (⟨some t, .extract x i, ty, pos, af, gd⟩ :: l) ⟨rs, os, fs⟩ := ES.still (sO rfl hx hd) hg rfl hN kk
theorem BQ {t ty : Nat} {pos : String} {af : Array Edge} {gd : Option (Nat × Bool)} {x : Operand} {i : Nat} {ds : List D} {d : D} (hx : ev (⟨rs, os, fs⟩ : St) x = some (.tpl ds)) (hd : ds[i]? = some d) (hg : guardOf ops ⟨rs, os, fs⟩ ⟨some t, .extract x i, ty, pos, af, gd⟩ = some true) (hoff : bf N (some t) EE = true) (kk : EM N ops TT l ⟨(t, (.val d)) :: rs, os, fs⟩ EE) : EM N ops TT (⟨some t, .extract x i, ty, pos, af, gd⟩ :: l) ⟨rs, os, fs⟩ EE := EH.still (sO rfl hx hd) hg rfl hoff kk
theorem Jt {t ty : Nat} {pos : String} {af : Array Edge} {gd : Option (Nat × Bool)} {c x y : Operand} {b : Bool} {r : R} (hc : ev (⟨rs, os, fs⟩ : St) c = some (.val (.v (.bool b)))) (hx : ev (⟨rs, os, fs⟩ : St) (if b then x else y) = some r) (hg : guardOf ops ⟨rs, os, fs⟩ ⟨some t, .pick c x y, ty, pos, af, gd⟩ = some true) (hN : Nat.blt t N = true) (kk : EL X ops Q l ⟨(t, r) :: rs, os, fs⟩) : EL X ops Q (⟨some t, .pick c x y, ty, pos, af, gd⟩ :: l) ⟨rs, os, fs⟩ := ES.still (D5 rfl hc hx) hg rfl hN kk
theorem JA {t ty : Nat} {pos : String} {af : Array Edge} {gd : Option (Nat × Bool)} {c x y : Operand} {b : Bool} {r : R} (hc : ev (⟨rs, os, fs⟩ : St) c = some (.val (.v (.bool b)))) (hx : ev (⟨rs, os, fs⟩ : St) (if b then x else y) = some r) (hg : guardOf ops ⟨rs, os, fs⟩ ⟨some t, .pick c x y, ty, pos, af, gd⟩ = some true) (hoff : bf N (some t) EE = true) (kk : EM N ops TT l ⟨(t, r) :: rs, os, fs⟩ EE) : EM N ops TT (⟨some t, .pick c x y, ty, pos, af, gd⟩ :: l) ⟨rs, os, fs⟩ EE := EH.still (D5 rfl hc hx) hg rfl hoff kk
theorem Hw {t ty : Nat} {pos : String} {af : Array Edge} {gd : Option (Nat × Bool)} {x : Operand} {T k off sz g n : Nat} {ag : Bool} {lf : List (Nat × Nat × Bool)} (hx : ev (⟨rs, os, fs⟩ : St) x = some (.val (.v (.pointer (some ⟨g, n, none⟩))))) (h : assoc stL T = some lf) (hk : lf[k]? = some (off, sz, ag)) (h0 : Nat.blt 0 sz = true) (hg : guardOf ops ⟨rs, os, fs⟩ ⟨some t, .fieldAddr T x k, ty, pos, af, gd⟩ = some true) (hN : Nat.blt t N = true) (kk : EL X ops Q l ⟨(t, (.val (.v (.pointer (some ⟨g, n + off, none⟩))))) :: rs, os, fs⟩) : EL X ops Q (⟨some t, .fieldAddr T x k, ty, pos, af, gd⟩ :: l) ⟨rs, os, fs⟩ := ES.still (xq rfl hx h hk h0) hg rfl hN kk
theorem H9 {t ty : Nat} {pos : String} {af : Array Edge} {gd : Option (Nat × Bool)} {x : Operand} {T k off sz g n : Nat} {ag : Bool} {lf : List (Nat × Nat × Bool)} (hx : ev (⟨rs, os, fs⟩ : St) x = some (.val (.v (.pointer (some ⟨g, n, none⟩))))) (h : assoc stL T = some lf) (hk : lf[k]? = some (off, sz, ag)) (h0 : Nat.blt 0 sz = true) (hg : guardOf ops ⟨rs, os, fs⟩ ⟨some t, .fieldAddr T x k, ty, pos, af, gd⟩ = some true) (hoff : bf N (some t) EE = true) (kk : EM N ops TT l ⟨(t, (.val (.v (.pointer (some ⟨g, n + off, none⟩))))) :: rs, os, fs⟩ EE) : EM N ops TT (⟨some t, .fieldAddr T x k, ty, pos, af, gd⟩ :: l) ⟨rs, os, fs⟩ EE := EH.still (xq rfl hx h hk h0) hg rfl hoff kk
theorem BK {t ty : Nat} {pos : String} {af : Array Edge} {gd : Option (Nat × Bool)} {x : Operand} {T k off sz : Nat} {ag : Bool} {d d' : D} {lf : List (Nat × Nat × Bool)} (hx : ev (⟨rs, os, fs⟩ : St) x = some (.val (.pd d))) (h : assoc stL T = some lf) (hk : lf[k]? = some (off, sz, ag)) (h0 : Nat.blt 0 sz = true) (hs : d.sub off sz ag = some d') (hg : guardOf ops ⟨rs, os, fs⟩ ⟨some t, .fieldAddr T x k, ty, pos, af, gd⟩ = some true) (hN : Nat.blt t N = true) (kk : EL X ops Q l ⟨(t, (.val (.pd d'))) :: rs, os, fs⟩) : EL X ops Q (⟨some t, .fieldAddr T x k, ty, pos, af, gd⟩ :: l) ⟨rs, os, fs⟩ := ES.still (oL rfl hx h hk h0 hs) hg rfl hN kk
theorem BP {t ty : Nat} {pos : String} {af : Array Edge} {gd : Option (Nat × Bool)} {x : Operand} {T k off sz : Nat} {ag : Bool} {d d' : D} {lf : List (Nat × Nat × Bool)} (hx : ev (⟨rs, os, fs⟩ : St) x = some (.val (.pd d))) (h : assoc stL T = some lf) (hk : lf[k]? = some (off, sz, ag)) (h0 : Nat.blt 0 sz = true) (hs : d.sub off sz ag = some d') (hg : guardOf ops ⟨rs, os, fs⟩ ⟨some t, .fieldAddr T x k, ty, pos, af, gd⟩ = some true) (hoff : bf N (some t) EE = true) (kk : EM N ops TT l ⟨(t, (.val (.pd d'))) :: rs, os, fs⟩ EE) : EM N ops TT (⟨some t, .fieldAddr T x k, ty, pos, af, gd⟩ :: l) ⟨rs, os, fs⟩ EE := EH.still (oL rfl hx h hk h0 hs) hg rfl hoff kk
theorem EW {t ty : Nat} {pos : String} {af : Array Edge} {gd : Option (Nat × Bool)} {x : Operand} {T sz : Nat} {ag : Bool} {d d' : D} (hx : ev (⟨rs, os, fs⟩ : St) x = some (.val (.pd d))) (hT : assoc tyL T = some (sz, ag)) (hs : d.sub 0 sz ag = some d') (hg : guardOf ops ⟨rs, os, fs⟩ ⟨some t, .load T x, ty, pos, af, gd⟩ = some true) (hN : Nat.blt t N = true) (kk : EL X ops Q l ⟨(t, (.val d')) :: rs, os, fs⟩) : EL X ops Q (⟨some t, .load T x, ty, pos, af, gd⟩ :: l) ⟨rs, os, fs⟩ := ES.still (qH rfl hx hT hs) hg rfl hN kk
theorem Fj {t ty : Nat} {pos : String} {af : Array Edge} {gd : Option (Nat × Bool)} {x : Operand} {T sz : Nat} {ag : Bool} {d d' : D} (hx : ev (⟨rs, os, fs⟩ : St) x = some (.val (.pd d))) (hT : assoc tyL T = some (sz, ag)) (hs : d.sub 0 sz ag = some d') (hg : guardOf ops ⟨rs, os, fs⟩ ⟨some t, .load T x, ty, pos, af, gd⟩ = some true) (hoff : bf N (some t) EE = true) (kk : EM N ops TT l ⟨(t, (.val d')) :: rs, os, fs⟩ EE) : EM N ops TT (⟨some t, .load T x, ty, pos, af, gd⟩ :: l) ⟨rs, os, fs⟩ EE := EH.still (qH rfl hx hT hs) hg rfl hoff kk
theorem Ht {t ty : Nat} {pos : String} {af : Array Edge} {gd : Option (Nat × Bool)} {x : Operand} {T e z y : Nat} {b : List UInt8} (hx : ev (⟨rs, os, fs⟩ : St) x = some (.val (.bs b))) (hT : assoc slL T = some (e, z, y)) (hg : guardOf ops ⟨rs, os, fs⟩ ⟨some t, .call { callee := .builtin .len, args := #[x], argTypes := #[T] }, ty, pos, af, gd⟩ = some true) (hN : Nat.blt t N = true) (kk : EL X ops Q l ⟨(t, (.val (.v (.int .i64 b.length)))) :: rs, os, fs⟩) : EL X ops Q (⟨some t, .call { callee := .builtin .len, args := #[x], argTypes := #[T] }, ty, pos, af, gd⟩ :: l) ⟨rs, os, fs⟩ := ES.still (sN rfl hx hT) hg rfl hN kk
theorem H8 {t ty : Nat} {pos : String} {af : Array Edge} {gd : Option (Nat × Bool)} {x : Operand} {T e z y : Nat} {b : List UInt8} (hx : ev (⟨rs, os, fs⟩ : St) x = some (.val (.bs b))) (hT : assoc slL T = some (e, z, y)) (hg : guardOf ops ⟨rs, os, fs⟩ ⟨some t, .call { callee := .builtin .len, args := #[x], argTypes := #[T] }, ty, pos, af, gd⟩ = some true) (hoff : bf N (some t) EE = true) (kk : EM N ops TT l ⟨(t, (.val (.v (.int .i64 b.length)))) :: rs, os, fs⟩ EE) : EM N ops TT (⟨some t, .call { callee := .builtin .len, args := #[x], argTypes := #[T] }, ty, pos, af, gd⟩ :: l) ⟨rs, os, fs⟩ EE := EH.still (sN rfl hx hT) hg rfl hoff kk
theorem Hr {t ty : Nat} {pos : String} {af : Array Edge} {gd : Option (Nat × Bool)} {x : Operand} {T e z y z' : Nat} {ds : List D} (hx : ev (⟨rs, os, fs⟩ : St) x = some (.val (.sl z' ds))) (hT : assoc slL T = some (e, z, y)) (hg : guardOf ops ⟨rs, os, fs⟩ ⟨some t, .call { callee := .builtin .len, args := #[x], argTypes := #[T] }, ty, pos, af, gd⟩ = some true) (hN : Nat.blt t N = true) (kk : EL X ops Q l ⟨(t, (.val (.v (.int .i64 ds.length)))) :: rs, os, fs⟩) : EL X ops Q (⟨some t, .call { callee := .builtin .len, args := #[x], argTypes := #[T] }, ty, pos, af, gd⟩ :: l) ⟨rs, os, fs⟩ := ES.still (sK rfl hx hT) hg rfl hN kk
theorem H7 {t ty : Nat} {pos : String} {af : Array Edge} {gd : Option (Nat × Bool)} {x : Operand} {T e z y z' : Nat} {ds : List D} (hx : ev (⟨rs, os, fs⟩ : St) x = some (.val (.sl z' ds))) (hT : assoc slL T = some (e, z, y)) (hg : guardOf ops ⟨rs, os, fs⟩ ⟨some t, .call { callee := .builtin .len, args := #[x], argTypes := #[T] }, ty, pos, af, gd⟩ = some true) (hoff : bf N (some t) EE = true) (kk : EM N ops TT l ⟨(t, (.val (.v (.int .i64 ds.length)))) :: rs, os, fs⟩ EE) : EM N ops TT (⟨some t, .call { callee := .builtin .len, args := #[x], argTypes := #[T] }, ty, pos, af, gd⟩ :: l) ⟨rs, os, fs⟩ EE := EH.still (sK rfl hx hT) hg rfl hoff kk
theorem Jy {t ty : Nat} {pos : String} {af : Array Edge} {gd : Option (Nat × Bool)} {x : Operand} {T e n c z y : Nat} {A : Option Addr} (hx : ev (⟨rs, os, fs⟩ : St) x = some (.val (.v (.slice A n c)))) (hT : assoc slL T = some (e, z, y)) (hg : guardOf ops ⟨rs, os, fs⟩ ⟨some t, .call { callee := .builtin .len, args := #[x], argTypes := #[T] }, ty, pos, af, gd⟩ = some true) (hN : Nat.blt t N = true) (kk : EL X ops Q l ⟨(t, (.val (.v (.int .i64 n)))) :: rs, os, fs⟩) : EL X ops Q (⟨some t, .call { callee := .builtin .len, args := #[x], argTypes := #[T] }, ty, pos, af, gd⟩ :: l) ⟨rs, os, fs⟩ := ES.still (qJ rfl hx hT) hg rfl hN kk
theorem JD {t ty : Nat} {pos : String} {af : Array Edge} {gd : Option (Nat × Bool)} {x : Operand} {T e n c z y : Nat} {A : Option Addr} (hx : ev (⟨rs, os, fs⟩ : St) x = some (.val (.v (.slice A n c)))) (hT : assoc slL T = some (e, z, y)) (hg : guardOf ops ⟨rs, os, fs⟩ ⟨some t, .call { callee := .builtin .len, args := #[x], argTypes := #[T] }, ty, pos, af, gd⟩ = some true) (hoff : bf N (some t) EE = true) (kk : EM N ops TT l ⟨(t, (.val (.v (.int .i64 n)))) :: rs, os, fs⟩ EE) : EM N ops TT (⟨some t, .call { callee := .builtin .len, args := #[x], argTypes := #[T] }, ty, pos, af, gd⟩ :: l) ⟨rs, os, fs⟩ EE := EH.still (qJ rfl hx hT) hg rfl hoff kk
theorem xZ {t ty : Nat} {pos : String} {af : Array Edge} {gd : Option (Nat × Bool)} {x y : Operand} {op : BinOp} {T U : TypeId} {k : IntKind} {m n : Int} {b : Bool} (hx : ev (⟨rs, os, fs⟩ : St) x = some (.val (.v (.int k m)))) (hy : ev (⟨rs, os, fs⟩ : St) y = some (.val (.v (.int k n)))) (hb : oW op m n = some b) (hg : guardOf ops ⟨rs, os, fs⟩ ⟨some t, .binOp op T x y U, ty, pos, af, gd⟩ = some true) (hN : Nat.blt t N = true) (kk : EL X ops Q l ⟨(t, (.val (.v (.bool b)))) :: rs, os, fs⟩) : EL X ops Q (⟨some t, .binOp op T x y U, ty, pos, af, gd⟩ :: l) ⟨rs, os, fs⟩ := ES.still (Iy rfl hx hy hb) hg rfl hN kk
theorem Fz {t ty : Nat} {pos : String} {af : Array Edge} {gd : Option (Nat × Bool)} {x y : Operand} {op : BinOp} {T U : TypeId} {k : IntKind} {m n : Int} {b : Bool} (hx : ev (⟨rs, os, fs⟩ : St) x = some (.val (.v (.int k m)))) (hy : ev (⟨rs, os, fs⟩ : St) y = some (.val (.v (.int k n)))) (hb : oW op m n = some b) (hg : guardOf ops ⟨rs, os, fs⟩ ⟨some t, .binOp op T x y U, ty, pos, af, gd⟩ = some true) (hoff : bf N (some t) EE = true) (kk : EM N ops TT l ⟨(t, (.val (.v (.bool b)))) :: rs, os, fs⟩ EE) : EM N ops TT (⟨some t, .binOp op T x y U, ty, pos, af, gd⟩ :: l) ⟨rs, os, fs⟩ EE := EH.still (Iy rfl hx hy hb) hg rfl hoff kk
theorem KH {t ty : Nat} {pos : String} {af : Array Edge} {gd : Option (Nat × Bool)} {x y : Operand} {op : BinOp} {T U : TypeId} {m n s : Int} (hx : ev (⟨rs, os, fs⟩ : St) x = some (.val (.v (.int .i64 m)))) (hy : ev (⟨rs, os, fs⟩ : St) y = some (.val (.v (.int .i64 n)))) (hb : arI op m n = some s) (h1 : -9223372036854775808 ≤ s) (h2 : s ≤ 9223372036854775807) (hg : guardOf ops ⟨rs, os, fs⟩ ⟨some t, .binOp op T x y U, ty, pos, af, gd⟩ = some true) (hN : Nat.blt t N = true) (kk : EL X ops Q l ⟨(t, (.val (.v (.int .i64 s)))) :: rs, os, fs⟩) : EL X ops Q (⟨some t, .binOp op T x y U, ty, pos, af, gd⟩ :: l) ⟨rs, os, fs⟩ := ES.still (J4 rfl hx hy hb h1 h2) hg rfl hN kk
theorem KJ {t ty : Nat} {pos : String} {af : Array Edge} {gd : Option (Nat × Bool)} {x y : Operand} {op : BinOp} {T U : TypeId} {m n s : Int} (hx : ev (⟨rs, os, fs⟩ : St) x = some (.val (.v (.int .i64 m)))) (hy : ev (⟨rs, os, fs⟩ : St) y = some (.val (.v (.int .i64 n)))) (hb : arI op m n = some s) (h1 : -9223372036854775808 ≤ s) (h2 : s ≤ 9223372036854775807) (hg : guardOf ops ⟨rs, os, fs⟩ ⟨some t, .binOp op T x y U, ty, pos, af, gd⟩ = some true) (hoff : bf N (some t) EE = true) (kk : EM N ops TT l ⟨(t, (.val (.v (.int .i64 s)))) :: rs, os, fs⟩ EE) : EM N ops TT (⟨some t, .binOp op T x y U, ty, pos, af, gd⟩ :: l) ⟨rs, os, fs⟩ EE := EH.still (J4 rfl hx hy hb h1 h2) hg rfl hoff kk
theorem Kt {t ty : Nat} {pos : String} {af : Array Edge} {gd : Option (Nat × Bool)} {x : Operand} {T : TypeId} {b : Bool} (hx : ev (⟨rs, os, fs⟩ : St) x = some (.val (.v (.bool b)))) (hg : guardOf ops ⟨rs, os, fs⟩ ⟨some t, .unOp .not T x, ty, pos, af, gd⟩ = some true) (hN : Nat.blt t N = true) (kk : EL X ops Q l ⟨(t, (.val (.v (.bool (!b))))) :: rs, os, fs⟩) : EL X ops Q (⟨some t, .unOp .not T x, ty, pos, af, gd⟩ :: l) ⟨rs, os, fs⟩ := ES.still (Iu rfl hx) hg rfl hN kk
theorem Kz {t ty : Nat} {pos : String} {af : Array Edge} {gd : Option (Nat × Bool)} {x : Operand} {T : TypeId} {b : Bool} (hx : ev (⟨rs, os, fs⟩ : St) x = some (.val (.v (.bool b)))) (hg : guardOf ops ⟨rs, os, fs⟩ ⟨some t, .unOp .not T x, ty, pos, af, gd⟩ = some true) (hoff : bf N (some t) EE = true) (kk : EM N ops TT l ⟨(t, (.val (.v (.bool (!b))))) :: rs, os, fs⟩ EE) : EM N ops TT (⟨some t, .unOp .not T x, ty, pos, af, gd⟩ :: l) ⟨rs, os, fs⟩ EE := EH.still (Iu rfl hx) hg rfl hoff kk
theorem Kr {t ty : Nat} {pos : String} {af : Array Edge} {gd : Option (Nat × Bool)} {x : Operand} {b : List UInt8} (hx : ev (⟨rs, os, fs⟩ : St) x = some (.val (.bs b))) (hg : guardOf ops ⟨rs, os, fs⟩ ⟨some t, .convert 54 9 x, ty, pos, af, gd⟩ = some true) (hN : Nat.blt t N = true) (kk : EL X ops Q l ⟨(t, (.val (.v (.string (Go.Proofs.YtohlgnfachkmaaaGreat.bs b))))) :: rs, os, fs⟩) : EL X ops Q (⟨some t, .convert 54 9 x, ty, pos, af, gd⟩ :: l) ⟨rs, os, fs⟩ := ES.still (Ir rfl hx) hg rfl hN kk
theorem Kw {t ty : Nat} {pos : String} {af : Array Edge} {gd : Option (Nat × Bool)} {x : Operand} {b : List UInt8} (hx : ev (⟨rs, os, fs⟩ : St) x = some (.val (.bs b))) (hg : guardOf ops ⟨rs, os, fs⟩ ⟨some t, .convert 54 9 x, ty, pos, af, gd⟩ = some true) (hoff : bf N (some t) EE = true) (kk : EM N ops TT l ⟨(t, (.val (.v (.string (Go.Proofs.YtohlgnfachkmaaaGreat.bs b))))) :: rs, os, fs⟩ EE) : EM N ops TT (⟨some t, .convert 54 9 x, ty, pos, af, gd⟩ :: l) ⟨rs, os, fs⟩ EE := EH.still (Ir rfl hx) hg rfl hoff kk
theorem bH {t ty : Nat} {pos : String} {af : Array Edge} {gd : Option (Nat × Bool)} {x y : Operand} {op : BinOp} {T U : TypeId} {d e : D} {c : Value} (hx : ev (⟨rs, os, fs⟩ : St) x = some (.val d) := by rfl) (hy : ev (⟨rs, os, fs⟩ : St) y = some (.val e) := by rfl) (hrun : Bin op T d e c) (hg : guardOf ops ⟨rs, os, fs⟩ ⟨some t, .binOp op T x y U, ty, pos, af, gd⟩ = some true := by rfl) (hN : Nat.blt t N = true := by rfl) (kk : EL X ops Q l ⟨(t, (.val (.v c))) :: rs, os, fs⟩) : EL X ops Q (⟨some t, .binOp op T x y U, ty, pos, af, gd⟩ :: l) ⟨rs, os, fs⟩ := ES.still (Ee rfl hx hy hrun) hg rfl hN kk
theorem bM {t ty : Nat} {pos : String} {af : Array Edge} {gd : Option (Nat × Bool)} {x y : Operand} {op : BinOp} {T U : TypeId} {d e : D} {c : Value} (hx : ev (⟨rs, os, fs⟩ : St) x = some (.val d) := by rfl) (hy : ev (⟨rs, os, fs⟩ : St) y = some (.val e) := by rfl) (hrun : Bin op T d e c) (hg : guardOf ops ⟨rs, os, fs⟩ ⟨some t, .binOp op T x y U, ty, pos, af, gd⟩ = some true := by rfl) (hoff : bf N (some t) EE = true := by rfl) (kk : EM N ops TT l ⟨(t, (.val (.v c))) :: rs, os, fs⟩ EE) : EM N ops TT (⟨some t, .binOp op T x y U, ty, pos, af, gd⟩ :: l) ⟨rs, os, fs⟩ EE := EH.still (Ee rfl hx hy hrun) hg rfl hoff kk
theorem Hy {t ty : Nat} {pos : String} {af : Array Edge} {gd : Option (Nat × Bool)} {T : Nat} {parts : Array (Nat × Operand)} {lf : List (Nat × Nat × Bool)} {d0 d : D} {ps : List (Nat × D)} (hx : jP (⟨rs, os, fs⟩ : St) parts.toList = some ps) (hT : assoc stL T = some lf) (hz : assoc dI T = some d0) (hd0 : d0.agg = true) (hf : oN (lf.map fun x => (x.1, x.2.1)) d0 ps = some d) (hg : guardOf ops ⟨rs, os, fs⟩ ⟨some t, .build T parts, ty, pos, af, gd⟩ = some true) (hN : Nat.blt t N = true) (kk : EL X ops Q l ⟨(t, (.val d)) :: rs, os, fs⟩) : EL X ops Q (⟨some t, .build T parts, ty, pos, af, gd⟩ :: l) ⟨rs, os, fs⟩ := ES.still (xA rfl hx hT hz hd0 hf) hg rfl hN kk
theorem Ia {t ty : Nat} {pos : String} {af : Array Edge} {gd : Option (Nat × Bool)} {T : Nat} {parts : Array (Nat × Operand)} {lf : List (Nat × Nat × Bool)} {d0 d : D} {ps : List (Nat × D)} (hx : jP (⟨rs, os, fs⟩ : St) parts.toList = some ps) (hT : assoc stL T = some lf) (hz : assoc dI T = some d0) (hd0 : d0.agg = true) (hf : oN (lf.map fun x => (x.1, x.2.1)) d0 ps = some d) (hg : guardOf ops ⟨rs, os, fs⟩ ⟨some t, .build T parts, ty, pos, af, gd⟩ = some true) (hoff : bf N (some t) EE = true) (kk : EM N ops TT l ⟨(t, (.val d)) :: rs, os, fs⟩ EE) : EM N ops TT (⟨some t, .build T parts, ty, pos, af, gd⟩ :: l) ⟨rs, os, fs⟩ EE := EH.still (xA rfl hx hT hz hd0 hf) hg rfl hoff kk
theorem E8 {t ty : Nat} {pos : String} {af : Array Edge} {gd : Option (Nat × Bool)} {T n e z : Nat} {d : D} (hT : assoc arL T = some (n, e, z)) (hz : assoc dI T = some d) (hd : d.agg = true) (hg : guardOf ops ⟨rs, os, fs⟩ ⟨some t, .build T #[], ty, pos, af, gd⟩ = some true) (hN : Nat.blt t N = true) (kk : EL X ops Q l ⟨(t, (.val d)) :: rs, os, fs⟩) : EL X ops Q (⟨some t, .build T #[], ty, pos, af, gd⟩ :: l) ⟨rs, os, fs⟩ := ES.still (sQ rfl hT hz hd) hg rfl hN kk
theorem FB {t ty : Nat} {pos : String} {af : Array Edge} {gd : Option (Nat × Bool)} {T n e z : Nat} {d : D} (hT : assoc arL T = some (n, e, z)) (hz : assoc dI T = some d) (hd : d.agg = true) (hg : guardOf ops ⟨rs, os, fs⟩ ⟨some t, .build T #[], ty, pos, af, gd⟩ = some true) (hoff : bf N (some t) EE = true) (kk : EM N ops TT l ⟨(t, (.val d)) :: rs, os, fs⟩ EE) : EM N ops TT (⟨some t, .build T #[], ty, pos, af, gd⟩ :: l) ⟨rs, os, fs⟩ EE := EH.still (sQ rfl hT hz hd) hg rfl hoff kk
theorem Hu {t ty : Nat} {pos : String} {af : Array Edge} {gd : Option (Nat × Bool)} {x y : Operand} {T e z b : Nat} {k : Int} {ds : List D} {d : D} (hx : ev (⟨rs, os, fs⟩ : St) x = some (.val (.sl z ds))) (hy : ev (⟨rs, os, fs⟩ : St) y = some (.val (.v (.int .i64 k)))) (hT : assoc slL T = some (e, z, b)) (hz : Nat.blt 0 z = true) (hk : 0 ≤ k ∧ ds[k.toNat]? = some d) (hg : guardOf ops ⟨rs, os, fs⟩ ⟨some t, .indexAddr T x y, ty, pos, af, gd⟩ = some true) (hN : Nat.blt t N = true) (kk : EL X ops Q l ⟨(t, (.val (.pd d))) :: rs, os, fs⟩) : EL X ops Q (⟨some t, .indexAddr T x y, ty, pos, af, gd⟩ :: l) ⟨rs, os, fs⟩ := ES.still (xk rfl hx hy hT hz hk) hg rfl hN kk
theorem mZ {t ty : Nat} {pos : String} {af : Array Edge} {gd : Option (Nat × Bool)} {x y : Operand} {T e z b : Nat} {k : Int} {ds : List D} {d : D} (hx : ev (⟨rs, os, fs⟩ : St) x = some (.val (.sl z ds))) (hy : ev (⟨rs, os, fs⟩ : St) y = some (.val (.v (.int .i64 k)))) (hT : assoc slL T = some (e, z, b)) (hz : Nat.blt 0 z = true) (hk : 0 ≤ k ∧ ds[k.toNat]? = some d) (hg : guardOf ops ⟨rs, os, fs⟩ ⟨some t, .indexAddr T x y, ty, pos, af, gd⟩ = some true) (hoff : bf N (some t) EE = true) (kk : EM N ops TT l ⟨(t, (.val (.pd d))) :: rs, os, fs⟩ EE) : EM N ops TT (⟨some t, .indexAddr T x y, ty, pos, af, gd⟩ :: l) ⟨rs, os, fs⟩ EE := EH.still (xk rfl hx hy hT hz hk) hg rfl hoff kk
theorem BJ {t ty : Nat} {pos : String} {af : Array Edge} {gd : Option (Nat × Bool)} {x y : Operand} {T e b : Nat} {k : Int} {l1 : List UInt8} {c : UInt8} (hx : ev (⟨rs, os, fs⟩ : St) x = some (.val (.bs l1))) (hy : ev (⟨rs, os, fs⟩ : St) y = some (.val (.v (.int .i64 k)))) (hT : assoc slL T = some (e, 1, b)) (hk : 0 ≤ k ∧ l1[k.toNat]? = some c) (hg : guardOf ops ⟨rs, os, fs⟩ ⟨some t, .indexAddr T x y, ty, pos, af, gd⟩ = some true) (hN : Nat.blt t N = true) (kk : EL X ops Q l ⟨(t, (.val (.pd (.v (bv c))))) :: rs, os, fs⟩) : EL X ops Q (⟨some t, .indexAddr T x y, ty, pos, af, gd⟩ :: l) ⟨rs, os, fs⟩ := ES.still (oK rfl hx hy hT hk) hg rfl hN kk
theorem BO {t ty : Nat} {pos : String} {af : Array Edge} {gd : Option (Nat × Bool)} {x y : Operand} {T e b : Nat} {k : Int} {l1 : List UInt8} {c : UInt8} (hx : ev (⟨rs, os, fs⟩ : St) x = some (.val (.bs l1))) (hy : ev (⟨rs, os, fs⟩ : St) y = some (.val (.v (.int .i64 k)))) (hT : assoc slL T = some (e, 1, b)) (hk : 0 ≤ k ∧ l1[k.toNat]? = some c) (hg : guardOf ops ⟨rs, os, fs⟩ ⟨some t, .indexAddr T x y, ty, pos, af, gd⟩ = some true) (hoff : bf N (some t) EE = true) (kk : EM N ops TT l ⟨(t, (.val (.pd (.v (bv c))))) :: rs, os, fs⟩ EE) : EM N ops TT (⟨some t, .indexAddr T x y, ty, pos, af, gd⟩ :: l) ⟨rs, os, fs⟩ EE := EH.still (oK rfl hx hy hT hk) hg rfl hoff kk
theorem Jw {t ty : Nat} {pos : String} {af : Array Edge} {gd : Option (Nat × Bool)} {x : Operand} {T sz g n i : Nat} {ag : Bool} {t0 : TypeId} {d d' : D} (hx : ev (⟨rs, os, fs⟩ : St) x = some (.val (.v (.pointer (some ⟨g, n, none⟩))))) (hi : os[i]? = some (.var g t0 d)) (hT : assoc tyL T = some (sz, ag)) (hs : d.sub n sz ag = some d') (hg : guardOf ops ⟨rs, os, fs⟩ ⟨some t, .load T x, ty, pos, af, gd⟩ = some true) (hN : Nat.blt t N = true) (kk : EL X ops Q l ⟨(t, (.val d')) :: rs, os, fs⟩) : EL X ops Q (⟨some t, .load T x, ty, pos, af, gd⟩ :: l) ⟨rs, os, fs⟩ := ES.still (zQ i rfl hx hi hT hs) hg rfl hN kk
theorem JC {t ty : Nat} {pos : String} {af : Array Edge} {gd : Option (Nat × Bool)} {x : Operand} {T sz g n i : Nat} {ag : Bool} {t0 : TypeId} {d d' : D} (hx : ev (⟨rs, os, fs⟩ : St) x = some (.val (.v (.pointer (some ⟨g, n, none⟩))))) (hi : os[i]? = some (.var g t0 d)) (hT : assoc tyL T = some (sz, ag)) (hs : d.sub n sz ag = some d') (hg : guardOf ops ⟨rs, os, fs⟩ ⟨some t, .load T x, ty, pos, af, gd⟩ = some true) (hoff : bf N (some t) EE = true) (kk : EM N ops TT l ⟨(t, (.val d')) :: rs, os, fs⟩ EE) : EM N ops TT (⟨some t, .load T x, ty, pos, af, gd⟩ :: l) ⟨rs, os, fs⟩ EE := EH.still (zQ i rfl hx hi hT hs) hg rfl hoff kk
theorem EX {t ty : Nat} {pos : String} {af : Array Edge} {gd : Option (Nat × Bool)} {x : Operand} {T e e' z z' y i : Nat} {v : Value} {ds : List D} (hx : ev (⟨rs, os, fs⟩ : St) x = some (.val (.v v))) (hi : os[i]? = some (.row v e' z ds)) (hT : assoc slL T = some (e, z', y)) (hg : guardOf ops ⟨rs, os, fs⟩ ⟨some t, .call { callee := .builtin .len, args := #[x], argTypes := #[T] }, ty, pos, af, gd⟩ = some true) (hN : Nat.blt t N = true) (kk : EL X ops Q l ⟨(t, (.val (.v (.int .i64 ds.length)))) :: rs, os, fs⟩) : EL X ops Q (⟨some t, .call { callee := .builtin .len, args := #[x], argTypes := #[T] }, ty, pos, af, gd⟩ :: l) ⟨rs, os, fs⟩ := ES.still (qI i rfl hx hi hT) hg rfl hN kk
theorem Fp {t ty : Nat} {pos : String} {af : Array Edge} {gd : Option (Nat × Bool)} {x : Operand} {T e e' z z' y i : Nat} {v : Value} {ds : List D} (hx : ev (⟨rs, os, fs⟩ : St) x = some (.val (.v v))) (hi : os[i]? = some (.row v e' z ds)) (hT : assoc slL T = some (e, z', y)) (hg : guardOf ops ⟨rs, os, fs⟩ ⟨some t, .call { callee := .builtin .len, args := #[x], argTypes := #[T] }, ty, pos, af, gd⟩ = some true) (hoff : bf N (some t) EE = true) (kk : EM N ops TT l ⟨(t, (.val (.v (.int .i64 ds.length)))) :: rs, os, fs⟩ EE) : EM N ops TT (⟨some t, .call { callee := .builtin .len, args := #[x], argTypes := #[T] }, ty, pos, af, gd⟩ :: l) ⟨rs, os, fs⟩ EE := EH.still (qI i rfl hx hi hT) hg rfl hoff kk
set_option maxRecDepth 100000 in
theorem Ku {t ty T n e z y : Nat} {pos : String} {af : Array Edge} {gd : Option (Nat × Bool)} {parts : Array (Nat × Operand)} {ps : List (Nat × D)} {ds : List D} {d0 : D} (hx : jP (⟨rs, os, fs⟩ : St) parts.toList = some ps) (hT : assoc slL T = some (e, z, y)) (hz : assoc dI e = some d0) (hin : iC 0 ps = some ds) (hsz : allB z ps = true) (hn : ps.length = n) (h0 : AP n z = true) (hg : guardOf ops ⟨rs, os, fs⟩ ⟨some t, .buildSlice T n parts, ty, pos, af, gd⟩ = some true) (hN : Nat.blt t N = true) (kk : EL X ops Q l ⟨(t, .val (.sl z ds)) :: rs, os, fs⟩) : EL X ops Q (⟨some t, .buildSlice T n parts, ty, pos, af, gd⟩ :: l) ⟨rs, os, fs⟩ := ES.grow (mG (T := T) (n := n) (z := z) (parts := parts) rfl hx hT hz hin hsz hn h0) hg rfl hN kk
set_option maxRecDepth 100000 in
theorem KC {t ty T n e z y : Nat} {pos : String} {af : Array Edge} {gd : Option (Nat × Bool)} {parts : Array (Nat × Operand)} {ps : List (Nat × D)} {ds : List D} {d0 : D} (hx : jP (⟨rs, os, fs⟩ : St) parts.toList = some ps) (hT : assoc slL T = some (e, z, y)) (hz : assoc dI e = some d0) (hin : iC 0 ps = some ds) (hsz : allB z ps = true) (hn : ps.length = n) (h0 : AP n z = true) (hg : guardOf ops ⟨rs, os, fs⟩ ⟨some t, .buildSlice T n parts, ty, pos, af, gd⟩ = some true) (hoff : bf N (some t) EE = true) (kk : EM N ops TT l ⟨(t, .val (.sl z ds)) :: rs, os, fs⟩ EE) : EM N ops TT (⟨some t, .buildSlice T n parts, ty, pos, af, gd⟩ :: l) ⟨rs, os, fs⟩ EE := EH.grow (mG (T := T) (n := n) (z := z) (parts := parts) rfl hx hT hz hin hsz hn h0) hg rfl hoff kk
theorem dQ {t ty f : Nat} {pos : String} {af : Array Edge} {gd : Option (Nat × Bool)} {args : Array Operand} {tys : Array TypeId} {ds ds' : List D} {r : R} (hF : Fn f ds' (· = r)) (hx : evs (⟨rs, os, fs⟩ : St) args.toList = some ds := by rfl) (hR : ah fs ds ds' := by exact RL.a) (hf : Enters f := by exact enA) (hg : guardOf ops ⟨rs, os, fs⟩ ⟨some t, .call { callee := .value (.func f), args := args, argTypes := tys }, ty, pos, af, gd⟩ = some true := by rfl) (hN : Nat.blt t N = true := by rfl) (kk : EL X ops Q l ⟨(t, r) :: rs, os, fs⟩) : EL X ops Q (⟨some t, .call { callee := .value (.func f), args := args, argTypes := tys }, ty, pos, af, gd⟩ :: l) ⟨rs, os, fs⟩ := ES.call hF rfl hx hf hR hg rfl hN kk
theorem dB {t ty f : Nat} {pos : String} {af : Array Edge} {gd : Option (Nat × Bool)} {args : Array Operand} {tys : Array TypeId} {ds ds' : List D} {r : R} (hF : Fn f ds' (· = r)) (hx : evs (⟨rs, os, fs⟩ : St) args.toList = some ds := by rfl) (hR : ah fs ds ds' := by exact RL.a) (hf : Enters f := by exact enA) (hg : guardOf ops ⟨rs, os, fs⟩ ⟨some t, .call { callee := .value (.func f), args := args, argTypes := tys }, ty, pos, af, gd⟩ = some true := by rfl) (hoff : bf N (some t) EE = true := by rfl) (kk : EM N ops TT l ⟨(t, r) :: rs, os, fs⟩ EE) : EM N ops TT (⟨some t, .call { callee := .value (.func f), args := args, argTypes := tys }, ty, pos, af, gd⟩ :: l) ⟨rs, os, fs⟩ EE := EH.call hF rfl hx hf hR hg rfl hoff kk
theorem Js {t ty : Nat} {op : Op} {pos : String} {af : Array Edge} {gd : Nat × Bool} (hg : guardOf ops ⟨rs, os, fs⟩ ⟨some t, op, ty, pos, af, some gd⟩ = some false) (hN : Nat.blt t N = true) (kk : EL X ops Q l ⟨(t, .tpl []) :: rs, os, fs⟩) : EL X ops Q (⟨some t, op, ty, pos, af, some gd⟩ :: l) ⟨rs, os, fs⟩ := ES.skip hg rfl hN kk
theorem Jz {t ty : Nat} {op : Op} {pos : String} {af : Array Edge} {gd : Nat × Bool} (hg : guardOf ops ⟨rs, os, fs⟩ ⟨some t, op, ty, pos, af, some gd⟩ = some false) (hoff : bf N (some t) EE = true) (kk : EM N ops TT l ⟨(t, .tpl []) :: rs, os, fs⟩ EE) : EM N ops TT (⟨some t, op, ty, pos, af, some gd⟩ :: l) ⟨rs, os, fs⟩ EE := EH.skip hg rfl hoff kk
theorem Hz {t ty T : Nat} {pos : String} {af : Array Edge} {gd : Option (Nat × Bool)} {d : D} (hz : assoc dI T = some d) (hg : guardOf ops ⟨rs, os, fs⟩ ⟨some t, .alloc T, ty, pos, af, gd⟩ = some true) (hN : Nat.blt t N = true) (kk : ∀ g, EL X ops Q l ⟨(t, .val (.v (.pointer (some ⟨g, 0, none⟩)))) :: rs, .var g T d :: os, fs⟩) : EL X ops Q (⟨some t, .alloc T, ty, pos, af, gd⟩ :: l) ⟨rs, os, fs⟩ := ES.alloc rfl hz hg rfl hN kk
theorem Ib {t ty T : Nat} {pos : String} {af : Array Edge} {gd : Option (Nat × Bool)} {d : D} (hz : assoc dI T = some d) (hg : guardOf ops ⟨rs, os, fs⟩ ⟨some t, .alloc T, ty, pos, af, gd⟩ = some true) (hoff : bf N (some t) EE = true) (kk : EM N ops TT l ⟨(t, .any) :: rs, os, fs⟩ (EE ++ [(t, T, d)])) : EM N ops TT (⟨some t, .alloc T, ty, pos, af, gd⟩ :: l) ⟨rs, os, fs⟩ EE := EH.alloc rfl hz rfl hg hoff kk
theorem Kv {t ty T : Nat} {pos : String} {af : Array Edge} {gd : Option (Nat × Bool)} {x : Operand} {d : D} (hx : ev (⟨rs, os, fs⟩ : St) x = some (.val d)) (hg : guardOf ops ⟨rs, os, fs⟩ ⟨some t, .box T x, ty, pos, af, gd⟩ = some true) (hN : Nat.blt t N = true) (kk : ∀ g, EL X ops Q l ⟨(t, .val (.v (.pointer (some ⟨g, 0, none⟩)))) :: rs, .var g T d :: os, fs⟩) : EL X ops Q (⟨some t, .box T x, ty, pos, af, gd⟩ :: l) ⟨rs, os, fs⟩ := ES.box rfl hx hg rfl hN kk
theorem KD {t ty T : Nat} {pos : String} {af : Array Edge} {gd : Option (Nat × Bool)} {x : Operand} {d : D} (hx : ev (⟨rs, os, fs⟩ : St) x = some (.val d)) (hg : guardOf ops ⟨rs, os, fs⟩ ⟨some t, .box T x, ty, pos, af, gd⟩ = some true) (hoff : bf N (some t) EE = true) (kk : EM N ops TT l ⟨(t, .any) :: rs, os, fs⟩ (EE ++ [(t, T, d)])) : EM N ops TT (⟨some t, .box T x, ty, pos, af, gd⟩ :: l) ⟨rs, os, fs⟩ EE := EH.box rfl hx rfl hg hoff kk
theorem Hg {T g n ty : Nat} {pos : String} {af : Array Edge} {gd : Option (Nat × Bool)} {x y : Operand} {t0 : TypeId} {d d' d'' : D} {os' : List Obj} (hx : ev (⟨rs, os, fs⟩ : St) x = some (.val (.v (.pointer (some ⟨g, n, none⟩))))) (hset : jw os (.var g t0 d) (.var g t0 d'') os') (hy : ev (⟨rs, os, fs⟩ : St) y = some (.val d')) (hT : assoc tyL T = some (d'.size, d'.agg)) (hu : d.upd n d' = some d'') (hg : guardOf ops ⟨rs, os, fs⟩ ⟨none, .store T x y, ty, pos, af, gd⟩ = some true) (kk : EL X ops Q l ⟨rs, os', fs⟩) : EL X ops Q (⟨none, .store T x y, ty, pos, af, gd⟩ :: l) ⟨rs, os, fs⟩ := by
 obtain ⟨i, hi, rfl⟩ := hset.ix
 exact EL.store i rfl rfl hg hx hi hy (tyI hT) hu kk
theorem Fb {t T e z y ty : Nat} {pos : String} {af : Array Edge} {gd : Option (Nat × Bool)} {s x : Operand} {v : Value} {ds es : List D} {os' : Value → List Obj} (hs : ev (⟨rs, os, fs⟩ : St) s = some (.val (.v v))) (hset : lY os (.row v e z ds) (fun v' => .row v' e z (ds ++ es)) os') (hx : ev (⟨rs, os, fs⟩ : St) x = some (.val (.sl z es))) (hT : assoc slL T = some (e, z, y)) (hz : Nat.blt 0 z = true) (hg : guardOf ops ⟨rs, os, fs⟩ ⟨some t, .call { callee := .builtin .append, args := #[s, x], argTypes := #[T, T] }, ty, pos, af, gd⟩ = some true) (hN : Nat.blt t N = true) (hlen : (ds.length + es.length) * y ≤ 140737488355328 ∧ ds.length + es.length ≤ 9223372036854775807) (kk : ∀ v', EL X ops Q l ⟨(t, .val (.v v')) :: rs, os' v', fs⟩) : EL X ops Q (⟨some t, .call { callee := .builtin .append, args := #[s, x], argTypes := #[T, T] }, ty, pos, af, gd⟩ :: l) ⟨rs, os, fs⟩ := by
 obtain ⟨i, hi, hl'⟩ := hset.ix
 exact ES.append (v := v) (ds := ds) i rfl hT hz hs hi hx hg rfl hN hlen fun v' => by rw [← hl' v']; exact kk v'
end
section
variable {ok : Nat → Prop} {w : World}
theorem DL (hok : ∀ b, ok b → b < w.heap.size) {l : List UInt8} {v : Value} (h : bF ok w (.bs l) v) : IsB w v l := by
 obtain ⟨A, c, h1, h2, h3, h4⟩ := xM h
 exact ⟨A, c, h1, h2, h3, fun hn => by
  obtain ⟨b, n, e, hb, hc⟩ := h4 hn
  exact ⟨b, n, e, hok b hb, hc⟩⟩
theorem iP {n : Nat} {l : List UInt8} {v : Value} (h : bF ok w (.arr n l) v) : l.length = n ∧ v = aT l := by
 obtain ⟨cs, h1, rfl⟩ := (fP rfl).1 h
 rw [Reads] at h1
 rw [h1.2]
 exact ⟨h1.1, rfl⟩
theorem Ad {n : Nat} {l : List UInt8} (h : l.length = n) : bF ok w (.arr n l) (aT l) := (fP rfl).2 ⟨bvs l, by rw [Reads]; exact ⟨h, rfl⟩, rfl⟩
end
section
variable {T e n : Nat}
theorem Ej (hT : Tryz.prog.underlying T = some (.array n e)) (he : Tryz.prog.underlying e = some (.int .u8)) (hs : ∀ w, (sizeOf e).run Tryz.prog w = .ok 1 w) (w : World) (l m : List UInt8) (hl : l.length = n) (hm : m.length = n) : (Op.equalIn 10000 T (aT l) (aT m)).run Tryz.prog w = .ok (l == m) w := by
 have h2 := run_equalIn_bytes w 9998 T e n hT he hs l m hl hm
 rw [show (Op.equalIn 10000 T (aT l) (aT m)) = (Op.equalIn (9998 + 2) T (.agg (l.map Extern.Stop.cell).toArray) (.agg (m.map Extern.Stop.cell).toArray)) from rfl, h2]
theorem G5 (d : Nat) (hT : Tryz.prog.underlying T = some (.array n e)) (he : Tryz.prog.underlying e = some (.int .u8)) (hs : ∀ w, (sizeOf e).run Tryz.prog w = .ok 1 w) (w : World) (l m : List UInt8) (hl : l.length = n) (hm : m.length = n) : (Op.equalIn (d + 2) T (aT l) (aT m)).run Tryz.prog w = .ok (l == m) w :=
 run_equalIn_bytes w d T e n hT he hs l m hl hm
theorem zZ (hT : Tryz.prog.underlying T = some (.array n e)) (he : Tryz.prog.underlying e = some (.int .u8)) (hs : ∀ w, (sizeOf e).run Tryz.prog w = .ok 1 w) (hg : Tryz.prog.eqGuardType Tryz.prog.depth T = false) (l m : List UInt8) : Bin .eql T (.arr n l) (.arr n m) (.bool (l == m)) ∧ Bin .neq T (.arr n l) (.arr n m) (.bool (l != m)) := by
 refine ⟨⟨rfl, fun ok w p q hp hq => ?_⟩, ⟨rfl, fun ok w p q hp hq => ?_⟩⟩ <;> (obtain ⟨e1, rfl⟩ := iP hp; obtain ⟨e2, rfl⟩ := iP hq; refine ⟨fun x y => run_eqGuard_agg w _ _ _ _ _ _ hg, ?_⟩)
 · exact run_eql_bytes w T e n hT he hs l m e1 e2
 ·
  have h1 : (binOp .neq T (aT l) (aT m)).run Tryz.prog w = ((Op.equalIn 10000 T (aT l) (aT m)).run Tryz.prog w).andThen fun b w' => .ok (.bool (!b)) w' := by
   simp only [aT, binOp, Op.equal, Op.maxDepth, Lr, LD]
  rw [h1, Ej hT he hs w l m e1 e2]
  rfl
end
theorem aP (l m : List UInt8) : Bin .eql 23 (.arr 32 l) (.arr 32 m) (.bool (l == m)) ∧ Bin .neq 23 (.arr 32 l) (.arr 32 m) (.bool (l != m)) :=
 zZ Tryz.underlying23 Tryz.underlying5 (fun w => by kernel_rfl) (by kernel_rfl) l m
theorem y8 (l m : List UInt8) : Bin .eql 9 (.v (.string (Go.Proofs.YtohlgnfachkmaaaGreat.bs l))) (.v (.string (Go.Proofs.YtohlgnfachkmaaaGreat.bs m))) (.bool (l == m)) ∧ Bin .neq 9 (.v (.string (Go.Proofs.YtohlgnfachkmaaaGreat.bs l))) (.v (.string (Go.Proofs.YtohlgnfachkmaaaGreat.bs m))) (.bool (l != m)) := by
 refine ⟨⟨rfl, fun ok w p q hp hq => ?_⟩, ⟨rfl, fun ok w p q hp hq => ?_⟩⟩ <;> (obtain rfl := (aG.1 hp).2; obtain rfl := (aG.1 hq).2; refine ⟨fun x y => by simp [eqGuard], ?_⟩)
 · simp [binOp, Op.stringOp, nS]
 · simp [binOp, Op.stringOp, nS, bne]
theorem EC.lenOf {N : Nat} {X : Cx N} {S : St} {Q : Exit → Act → World → Prop} {c : Code} {t : Tmp} {z : Nat} {ds : List D} (hl : look S.regs t = some (.val (.sl z ds))) (k : ds.length ≤ maxLen → EC X Q c S) : EC X Q c S := ⟨fun a w ha => by
 obtain ⟨A, c', rows, h1, h2, h3, _⟩ := og (ha.regs t _ hl)
 exact (k (by omega)).go a w ha⟩
end E
end Go.Proofs.YtohlgnfachkmaaaGreat
