/-
  Merged (wip/tools/merge.py): E9, E10, E11.
  Conditions: none.
-/
import Derived.Test.YtekacgocjplfjaaZJ5
/-
  The abstract machine: the rules as the walk takes them.
  Conditions: none.
-/
namespace Go.Proofs.Ytekacgocjplfjaa
set_option linter.unusedVariables false
open Go.RowKit Mono Rlp
namespace E
def dstB (N : Nat) (d : Option Tmp) : Bool :=
  match d with
  | some t => decide (t < N)
  | none => true
section
variable {N : Nat} {X : Cx N} {S S' : St} {a : Act} {w w' : World} {ops : Array Oper} {o : Oper} {Q : Exit → Act → World → Prop} {l : List Oper} {T : St → List Fr → Prop} {E : List Fr}
theorem dst_of (h : dstB N o.dst = true) : ∀ t, o.dst = some t → t < N := fun t ht => by
  rw [ht] at h
  simpa [dstB] using h
theorem tyI {T sz : Nat} {ag : Bool} (h : assoc tyL T = some (sz, ag)) : Ty Try.prog T sz ag := ty_of (by
  have := List.all_eq_true.1 tyL_ok _ (assoc_mem _ _ _ h)
  simpa using this)
theorem slI {T e z y : Nat} (h : assoc slL T = some (e, z, y)) : SlTy T e z := by
  have := List.all_eq_true.1 slL_ok _ (assoc_mem _ _ _ h)
  exact sl_of (y := y) (y' := z) (by simpa using this)
theorem slTI {T e z y : Nat} (h : assoc slL T = some (e, z, y)) (h0 : Nat.blt 0 z = true) : SlT Try.prog T e z y := by
  have := List.all_eq_true.1 slL_ok _ (assoc_mem _ _ _ h)
  exact slT_of (by simpa using this) (by simpa using h0)
theorem arI' {T n e z : Nat} (h : assoc arL T = some (n, e, z)) : ArTy T n e z := by
  have := List.all_eq_true.1 arL_ok _ (assoc_mem _ _ _ h)
  exact ar_of (by simpa using this)
theorem fldI {T k off sz : Nat} {ag : Bool} {l : List (Nat × Nat × Bool)} (h : assoc stL T = some l) (hk : l[k]? = some (off, sz, ag)) (h0 : Nat.blt 0 sz = true) : Fld Try.prog T k off sz ag := by
  have := List.all_eq_true.1 stL_ok _ (assoc_mem _ _ _ h)
  exact st_fld (by simpa using this) hk (by simpa using h0)
theorem stI {T : Nat} {l : List (Nat × Nat × Bool)} (h : assoc stL T = some l) : StTy T (l.map fun x => (x.1, x.2.1)) := by
  have := List.all_eq_true.1 stL_ok _ (assoc_mem _ _ _ h)
  exact st_of (by simpa using this)
theorem zeroI {T : Nat} {d : D} (h : assoc zeroL T = some d) : Zero T d := AllZ.get _ _ _ zeroL_ok h
variable {rs : List (Tmp × R)} {os : List Obj} {fs : List (Value × D)}
theorem dst_lt {t : Tmp} (hd : o.dst = some t) (hN : Nat.blt t N = true) : ∀ u, o.dst = some u → u < N := fun u hu => by
  rw [hd] at hu
  cases hu
  simpa using hN
theorem ES.still {t : Tmp} {r : R} (hO : Still ops ⟨rs, os, fs⟩ o r) (hg : guardOf ops ⟨rs, os, fs⟩ o = some true) (hd : o.dst = some t) (hN : Nat.blt t N = true) (k : EL X ops Q l ⟨(t, r) :: rs, os, fs⟩) : EL X ops Q (o :: l) ⟨rs, os, fs⟩ :=
  EL.still hg (dst_lt hd hN) hO (by rw [hd]; exact k)
theorem ES.skip {t : Tmp} (hg : guardOf ops ⟨rs, os, fs⟩ o = some false) (hd : o.dst = some t) (k : EL X ops Q l ⟨(t, .any) :: rs, os, fs⟩) : EL X ops Q (o :: l) ⟨rs, os, fs⟩ := EL.skip hg (by rw [hd]; exact k)
theorem ES.alloc {t : Tmp} {T : TypeId} {d : D} (ho : o.op = .alloc T) (hz : assoc zeroL T = some d) (hg : guardOf ops ⟨rs, os, fs⟩ o = some true) (hd : o.dst = some t) (hN : Nat.blt t N = true)
    (k : ∀ g, EL X ops Q l ⟨(t, .val (.v (.pointer (some ⟨g, 0, none⟩)))) :: rs, .var g T d :: os, fs⟩) : EL X ops Q (o :: l) ⟨rs, os, fs⟩ := EL.alloc ho hg (dst_lt hd hN) (zeroI hz) fun g => by rw [hd]; exact k g
theorem ES.box {t : Tmp} {T : TypeId} {x : Operand} {d : D} (ho : o.op = .box T x) (hx : ev ⟨rs, os, fs⟩ x = some (.val d)) (hg : guardOf ops ⟨rs, os, fs⟩ o = some true) (hd : o.dst = some t) (hN : Nat.blt t N = true)
    (k : ∀ g, EL X ops Q l ⟨(t, .val (.v (.pointer (some ⟨g, 0, none⟩)))) :: rs, .var g T d :: os, fs⟩) : EL X ops Q (o :: l) ⟨rs, os, fs⟩ := EL.box ho hg (dst_lt hd hN) hx fun g => by rw [hd]; exact k g
theorem ES.store0 {T g n : Nat} {x y : Operand} {t : TypeId} {d d' d'' : D} (ho : o.op = .store T x y) (hx : ev ⟨rs, .var g t d :: os, fs⟩ x = some (.val (.v (.pointer (some ⟨g, n, none⟩))))) (hy : ev ⟨rs, .var g t d :: os, fs⟩ y = some (.val d'))
    (hT : assoc tyL T = some (d'.size, d'.agg)) (hu : d.upd n d' = some d'') (hdst : o.dst = none) (hg : guardOf ops ⟨rs, .var g t d :: os, fs⟩ o = some true) (k : EL X ops Q l ⟨rs, .var g t d'' :: os, fs⟩) : EL X ops Q (o :: l) ⟨rs, .var g t d :: os, fs⟩ := EL.store (t := t) (d := d) 0 ho hdst hg hx rfl hy (tyI hT) hu k
theorem ES.store1 {T g n : Nat} {x y : Operand} {t : TypeId} {d d' d'' : D} {o0 : Obj} (ho : o.op = .store T x y) (hx : ev ⟨rs, o0 :: .var g t d :: os, fs⟩ x = some (.val (.v (.pointer (some ⟨g, n, none⟩))))) (hy : ev ⟨rs, o0 :: .var g t d :: os, fs⟩ y = some (.val d'))
    (hT : assoc tyL T = some (d'.size, d'.agg)) (hu : d.upd n d' = some d'') (hdst : o.dst = none) (hg : guardOf ops ⟨rs, o0 :: .var g t d :: os, fs⟩ o = some true) (k : EL X ops Q l ⟨rs, o0 :: .var g t d'' :: os, fs⟩) : EL X ops Q (o :: l) ⟨rs, o0 :: .var g t d :: os, fs⟩ := EL.store (t := t) (d := d) 1 ho hdst hg hx rfl hy (tyI hT) hu k
theorem ES.store2 {T g n : Nat} {x y : Operand} {t : TypeId} {d d' d'' : D} {o0 : Obj} {o1 : Obj} (ho : o.op = .store T x y) (hx : ev ⟨rs, o0 :: o1 :: .var g t d :: os, fs⟩ x = some (.val (.v (.pointer (some ⟨g, n, none⟩))))) (hy : ev ⟨rs, o0 :: o1 :: .var g t d :: os, fs⟩ y = some (.val d'))
    (hT : assoc tyL T = some (d'.size, d'.agg)) (hu : d.upd n d' = some d'') (hdst : o.dst = none) (hg : guardOf ops ⟨rs, o0 :: o1 :: .var g t d :: os, fs⟩ o = some true) (k : EL X ops Q l ⟨rs, o0 :: o1 :: .var g t d'' :: os, fs⟩) : EL X ops Q (o :: l) ⟨rs, o0 :: o1 :: .var g t d :: os, fs⟩ := EL.store (t := t) (d := d) 2 ho hdst hg hx rfl hy (tyI hT) hu k
theorem ES.store3 {T g n : Nat} {x y : Operand} {t : TypeId} {d d' d'' : D} {o0 : Obj} {o1 : Obj} {o2 : Obj} (ho : o.op = .store T x y) (hx : ev ⟨rs, o0 :: o1 :: o2 :: .var g t d :: os, fs⟩ x = some (.val (.v (.pointer (some ⟨g, n, none⟩))))) (hy : ev ⟨rs, o0 :: o1 :: o2 :: .var g t d :: os, fs⟩ y = some (.val d'))
    (hT : assoc tyL T = some (d'.size, d'.agg)) (hu : d.upd n d' = some d'') (hdst : o.dst = none) (hg : guardOf ops ⟨rs, o0 :: o1 :: o2 :: .var g t d :: os, fs⟩ o = some true) (k : EL X ops Q l ⟨rs, o0 :: o1 :: o2 :: .var g t d'' :: os, fs⟩) : EL X ops Q (o :: l) ⟨rs, o0 :: o1 :: o2 :: .var g t d :: os, fs⟩ := EL.store (t := t) (d := d) 3 ho hdst hg hx rfl hy (tyI hT) hu k
theorem ES.store4 {T g n : Nat} {x y : Operand} {t : TypeId} {d d' d'' : D} {o0 : Obj} {o1 : Obj} {o2 : Obj} {o3 : Obj} (ho : o.op = .store T x y) (hx : ev ⟨rs, o0 :: o1 :: o2 :: o3 :: .var g t d :: os, fs⟩ x = some (.val (.v (.pointer (some ⟨g, n, none⟩))))) (hy : ev ⟨rs, o0 :: o1 :: o2 :: o3 :: .var g t d :: os, fs⟩ y = some (.val d'))
    (hT : assoc tyL T = some (d'.size, d'.agg)) (hu : d.upd n d' = some d'') (hdst : o.dst = none) (hg : guardOf ops ⟨rs, o0 :: o1 :: o2 :: o3 :: .var g t d :: os, fs⟩ o = some true) (k : EL X ops Q l ⟨rs, o0 :: o1 :: o2 :: o3 :: .var g t d'' :: os, fs⟩) : EL X ops Q (o :: l) ⟨rs, o0 :: o1 :: o2 :: o3 :: .var g t d :: os, fs⟩ := EL.store (t := t) (d := d) 4 ho hdst hg hx rfl hy (tyI hT) hu k
theorem ES.store5 {T g n : Nat} {x y : Operand} {t : TypeId} {d d' d'' : D} {o0 : Obj} {o1 : Obj} {o2 : Obj} {o3 : Obj} {o4 : Obj} (ho : o.op = .store T x y) (hx : ev ⟨rs, o0 :: o1 :: o2 :: o3 :: o4 :: .var g t d :: os, fs⟩ x = some (.val (.v (.pointer (some ⟨g, n, none⟩))))) (hy : ev ⟨rs, o0 :: o1 :: o2 :: o3 :: o4 :: .var g t d :: os, fs⟩ y = some (.val d'))
    (hT : assoc tyL T = some (d'.size, d'.agg)) (hu : d.upd n d' = some d'') (hdst : o.dst = none) (hg : guardOf ops ⟨rs, o0 :: o1 :: o2 :: o3 :: o4 :: .var g t d :: os, fs⟩ o = some true) (k : EL X ops Q l ⟨rs, o0 :: o1 :: o2 :: o3 :: o4 :: .var g t d'' :: os, fs⟩) : EL X ops Q (o :: l) ⟨rs, o0 :: o1 :: o2 :: o3 :: o4 :: .var g t d :: os, fs⟩ := EL.store (t := t) (d := d) 5 ho hdst hg hx rfl hy (tyI hT) hu k
theorem ES.store6 {T g n : Nat} {x y : Operand} {t : TypeId} {d d' d'' : D} {o0 : Obj} {o1 : Obj} {o2 : Obj} {o3 : Obj} {o4 : Obj} {o5 : Obj} (ho : o.op = .store T x y) (hx : ev ⟨rs, o0 :: o1 :: o2 :: o3 :: o4 :: o5 :: .var g t d :: os, fs⟩ x = some (.val (.v (.pointer (some ⟨g, n, none⟩))))) (hy : ev ⟨rs, o0 :: o1 :: o2 :: o3 :: o4 :: o5 :: .var g t d :: os, fs⟩ y = some (.val d'))
    (hT : assoc tyL T = some (d'.size, d'.agg)) (hu : d.upd n d' = some d'') (hdst : o.dst = none) (hg : guardOf ops ⟨rs, o0 :: o1 :: o2 :: o3 :: o4 :: o5 :: .var g t d :: os, fs⟩ o = some true) (k : EL X ops Q l ⟨rs, o0 :: o1 :: o2 :: o3 :: o4 :: o5 :: .var g t d'' :: os, fs⟩) : EL X ops Q (o :: l) ⟨rs, o0 :: o1 :: o2 :: o3 :: o4 :: o5 :: .var g t d :: os, fs⟩ := EL.store (t := t) (d := d) 6 ho hdst hg hx rfl hy (tyI hT) hu k
theorem ES.store7 {T g n : Nat} {x y : Operand} {t : TypeId} {d d' d'' : D} {o0 : Obj} {o1 : Obj} {o2 : Obj} {o3 : Obj} {o4 : Obj} {o5 : Obj} {o6 : Obj} (ho : o.op = .store T x y) (hx : ev ⟨rs, o0 :: o1 :: o2 :: o3 :: o4 :: o5 :: o6 :: .var g t d :: os, fs⟩ x = some (.val (.v (.pointer (some ⟨g, n, none⟩))))) (hy : ev ⟨rs, o0 :: o1 :: o2 :: o3 :: o4 :: o5 :: o6 :: .var g t d :: os, fs⟩ y = some (.val d'))
    (hT : assoc tyL T = some (d'.size, d'.agg)) (hu : d.upd n d' = some d'') (hdst : o.dst = none) (hg : guardOf ops ⟨rs, o0 :: o1 :: o2 :: o3 :: o4 :: o5 :: o6 :: .var g t d :: os, fs⟩ o = some true) (k : EL X ops Q l ⟨rs, o0 :: o1 :: o2 :: o3 :: o4 :: o5 :: o6 :: .var g t d'' :: os, fs⟩) : EL X ops Q (o :: l) ⟨rs, o0 :: o1 :: o2 :: o3 :: o4 :: o5 :: o6 :: .var g t d :: os, fs⟩ := EL.store (t := t) (d := d) 7 ho hdst hg hx rfl hy (tyI hT) hu k
/-- What a call's arguments read as, if a fact or nil is told otherwise. -/
theorem RefineL.refl (F : List (Value × D)) : ∀ ds : List D, RefineL F ds ds
  | [] => by rw [RefineL]
  | d :: ds => by
    rw [RefineL]
    refine ⟨d, ds, rfl, ?_, RefineL.refl F ds⟩
    exact Refine.refl F d
where Refine.refl (F : List (Value × D)) : ∀ d : D, Refine F d d
  | .v x => by rw [Refine]; exact .inl rfl
  | .tup ds => by rw [Refine]; exact ⟨ds, rfl, RefineL.refl F ds⟩
  | .arr n l => by rw [Refine]
  | .bs l => by rw [Refine]
  | .sl z ds => by rw [Refine]
  | .pd d => by rw [Refine]
  | .ifc t d => by rw [Refine]
theorem RefineL.readVs {ok : Nat → Prop} {F : List (Value × D)} (hF : ∀ f ∈ F, Reads ok w f.2 [f.1]) : ∀ (ds l : List D) (xs : List Value), RefineL F ds l → ReadVs ok w ds xs → ReadVs ok w l xs
  | [], l, xs, h, hr => by rw [RefineL] at h; subst h; exact hr
  | d :: ds, l, xs, h, hr => by
    rw [RefineL] at h
    obtain ⟨d', ds', rfl, h1, h2⟩ := h
    obtain ⟨x, rest, rfl, h3, h4⟩ := hr
    exact ⟨x, rest, rfl, h1.readV hF h3, RefineL.readVs hF ds ds' rest h2 h4⟩
theorem g_callR {f : FuncId} {args : Array Operand} {tys : Array TypeId} {ds ds' : List D} {Φ : R → Prop} (hF : Fn f ds' Φ) (ho : o.op = .call { callee := .value (.func f), args := args, argTypes := tys }) (hx : evs S args.toList = some ds) (hf : Enters f) (hR : RefineL S.facts ds ds') : Grows ops S o Φ := fun base ok a w ha => by
  have hr := RefineL.readVs ha.facts _ _ _ hR (ha.evs _ _ hx fun t ht => looks_of (x := .tmp t) rfl (by rw [ho]; simp only [Op.operands, Call.operands]; simp; simpa using ht))
  have hrun : (execOp a.eval o).run Try.prog w = .ok (.enter f (args.map a.eval)) w := by
    unfold execOp
    simp [ho, resolve, Act.eval, Deferred.ofValue, invoke, hf (args.map a.eval) w]
  rw [hrun]
  refine ⟨Gr.refl w, ?_⟩
  have := hF.go ok w _ ha.lt hr
  have he : (args.toList.map a.eval).toArray = args.map a.eval := by
    apply Array.ext'
    simp
  rw [he] at this
  refine this.mono ?_
  rintro e w' ⟨hg, v, r, rfl, hr, hv⟩
  exact ⟨v, rfl, hg, r, hr, hv⟩
theorem ES.call {t : Tmp} {f : FuncId} {args : Array Operand} {tys : Array TypeId} {ds ds' : List D} {r : R} (hF : Fn f ds' (· = r)) (ho : o.op = .call { callee := .value (.func f), args := args, argTypes := tys }) (hx : evs ⟨rs, os, fs⟩ args.toList = some ds) (hf : Enters f) (hR : RefineL fs ds ds') (hg : guardOf ops ⟨rs, os, fs⟩ o = some true) (hd : o.dst = some t) (hN : Nat.blt t N = true) (k : EL X ops Q l ⟨(t, r) :: rs, os, fs⟩) : EL X ops Q (o :: l) ⟨rs, os, fs⟩ :=
  EL.grow hg (dst_lt hd hN) (g_callR hF ho hx hf hR) (by rw [hd]; exact k)
theorem ES.callE {t : Tmp} {f : FuncId} {args : Array Operand} {tys : Array TypeId} {ds ds' : List D} {Φ : R → Prop} (hF : Fn f ds' Φ) (ho : o.op = .call { callee := .value (.func f), args := args, argTypes := tys }) (hx : evs ⟨rs, os, fs⟩ args.toList = some ds) (hf : Enters f) (hR : RefineL fs ds ds') (hg : guardOf ops ⟨rs, os, fs⟩ o = some true) (hd : o.dst = some t) (hN : Nat.blt t N = true) (k : ∀ r, Φ r → EL X ops Q l ⟨(t, r) :: rs, os, fs⟩) : EL X ops Q (o :: l) ⟨rs, os, fs⟩ :=
  EL.growE hg (dst_lt hd hN) (g_callR hF ho hx hf hR) fun r hr => by rw [hd]; exact k r hr
theorem ES.grow {t : Tmp} {r : R} (hO : Grows ops ⟨rs, os, fs⟩ o (· = r)) (hg : guardOf ops ⟨rs, os, fs⟩ o = some true) (hd : o.dst = some t) (hN : Nat.blt t N = true) (k : EL X ops Q l ⟨(t, r) :: rs, os, fs⟩) : EL X ops Q (o :: l) ⟨rs, os, fs⟩ := EL.grow hg (dst_lt hd hN) hO (by rw [hd]; exact k)
theorem EH.still {t : Tmp} {r : R} (hO : Still ops ⟨rs, os, fs⟩ o r) (hg : guardOf ops ⟨rs, os, fs⟩ o = some true) (ht : o.dst = some t) (hd : offB N (some t) E = true) (k : EM N ops T l ⟨(t, r) :: rs, os, fs⟩ E) : EM N ops T (o :: l) ⟨rs, os, fs⟩ E := EM.still hg (by rw [ht]; exact hd) hO (by rw [ht]; exact k)
theorem EH.skip {t : Tmp} (hg : guardOf ops ⟨rs, os, fs⟩ o = some false) (ht : o.dst = some t) (hd : offB N (some t) E = true) (k : EM N ops T l ⟨(t, .any) :: rs, os, fs⟩ E) : EM N ops T (o :: l) ⟨rs, os, fs⟩ E := EM.skip hg (by rw [ht]; exact hd) (by rw [ht]; exact k)
theorem EH.grow {t : Tmp} {r : R} (hO : Grows ops ⟨rs, os, fs⟩ o (· = r)) (hg : guardOf ops ⟨rs, os, fs⟩ o = some true) (ht : o.dst = some t) (hd : offB N (some t) E = true) (k : EM N ops T l ⟨(t, r) :: rs, os, fs⟩ E) : EM N ops T (o :: l) ⟨rs, os, fs⟩ E := EM.grow hg (by rw [ht]; exact hd) hO (by rw [ht]; exact k)
theorem EH.call {t : Tmp} {f : FuncId} {args : Array Operand} {tys : Array TypeId} {ds ds' : List D} {r : R} (hF : Fn f ds' (· = r)) (ho : o.op = .call { callee := .value (.func f), args := args, argTypes := tys }) (hx : evs ⟨rs, os, fs⟩ args.toList = some ds) (hf : Enters f) (hR : RefineL fs ds ds') (hg : guardOf ops ⟨rs, os, fs⟩ o = some true) (ht : o.dst = some t) (hd : offB N (some t) E = true) (k : EM N ops T l ⟨(t, r) :: rs, os, fs⟩ E) : EM N ops T (o :: l) ⟨rs, os, fs⟩ E :=
  EM.grow hg (by rw [ht]; exact hd) (g_callR hF ho hx hf hR) (by rw [ht]; exact k)
theorem EH.alloc {t : Tmp} {Ty : TypeId} {d : D} (ho : o.op = .alloc Ty) (hz : assoc zeroL Ty = some d) (ht : o.dst = some t) (hg : guardOf ops ⟨rs, os, fs⟩ o = some true) (hd : offB N (some t) E = true) (k : EM N ops T l ⟨(t, .any) :: rs, os, fs⟩ (E ++ [(t, Ty, d)])) : EM N ops T (o :: l) ⟨rs, os, fs⟩ E := EM.new hg ht hd (n_alloc ho (zeroI hz)) k
theorem EH.box {t : Tmp} {Ty : TypeId} {x : Operand} {d : D} (ho : o.op = .box Ty x) (hx : ev ⟨rs, os, fs⟩ x = some (.val d)) (ht : o.dst = some t) (hg : guardOf ops ⟨rs, os, fs⟩ o = some true) (hd : offB N (some t) E = true) (k : EM N ops T l ⟨(t, .any) :: rs, os, fs⟩ (E ++ [(t, Ty, d)])) : EM N ops T (o :: l) ⟨rs, os, fs⟩ E := EM.new hg ht hd (n_box ho hx) k
/-- A literal of a struct. -/
theorem g_buildI {T : Nat} {parts : Array (Nat × Operand)} {l : List (Nat × Nat × Bool)} {d0 d : D} {ps : List (Nat × D)} (ho : o.op = .build T parts) (hx : evps S parts.toList = some ps) (hT : assoc stL T = some l) (hz : assoc zeroL T = some d0) (hd0 : d0.agg = true) (hf : fillD (l.map fun x => (x.1, x.2.1)) d0 ps = some d) : Still ops S o (.val d) := g_build ho hx (stI hT) (zeroI hz) hd0 hf
theorem g_build0I {T n e z : Nat} {d : D} (ho : o.op = .build T #[]) (hT : assoc arL T = some (n, e, z)) (hz : assoc zeroL T = some d) (hd : d.agg = true) : Still ops S o (.val d) := g_build0 ho (arI' hT) (zeroI hz) hd
def litB (n z : Nat) : Bool := Nat.blt 0 n && Nat.blt 0 z && Nat.ble (n * z) 16777216
def allB (z : Nat) (ps : List (Nat × D)) : Bool := ps.all fun p => p.2.size == z
theorem g_slice_litI {T e z y n : Nat} {parts : Array (Nat × Operand)} {ps : List (Nat × D)} {ds : List D} {d0 : D} (ho : o.op = .buildSlice T n parts) (hx : evps S parts.toList = some ps) (hT : assoc slL T = some (e, z, y)) (hz : assoc zeroL e = some d0) (hin : inRow 0 ps = some ds) (hsz : allB z ps = true) (hn : ps.length = n) (h0 : litB n z = true) : Grows ops S o (· = .val (.sl z ds)) := by
  simp only [litB, Bool.and_eq_true, Nat.blt_eq, Nat.ble_eq] at h0
  exact g_slice_lit ho hx (slI hT) (zeroI hz) hin (fun p hp => by simpa using List.all_eq_true.1 hsz p hp) hn h0.1 h0.2
theorem g_fieldI {x : Operand} {T k off sz g n : Nat} {ag : Bool} {l : List (Nat × Nat × Bool)} (ho : o.op = .fieldAddr T x k) (hx : ev S x = some (.val (.v (.pointer (some ⟨g, n, none⟩))))) (h : assoc stL T = some l) (hk : l[k]? = some (off, sz, ag)) (h0 : Nat.blt 0 sz = true) : Still ops S o (.val (.v (.pointer (some ⟨g, n + off, none⟩)))) := g_field ho hx (fldI h hk h0)
theorem g_field_pdI {x : Operand} {T k off sz : Nat} {ag : Bool} {d d' : D} {l : List (Nat × Nat × Bool)} (ho : o.op = .fieldAddr T x k) (hx : ev S x = some (.val (.pd d))) (h : assoc stL T = some l) (hk : l[k]? = some (off, sz, ag)) (h0 : Nat.blt 0 sz = true) (hs : d.sub off sz ag = some d') : Still ops S o (.val (.pd d')) := g_field_pd ho hx (fldI h hk h0) hs
theorem g_loadI {x : Operand} {T sz g n : Nat} {ag : Bool} {t : TypeId} {d d' : D} (i : Nat) (ho : o.op = .load T x) (hx : ev S x = some (.val (.v (.pointer (some ⟨g, n, none⟩))))) (hi : S.objs[i]? = some (.var g t d)) (hT : assoc tyL T = some (sz, ag)) (hs : d.sub n sz ag = some d') : Still ops S o (.val d') := g_load i ho hx hi (tyI hT) hs
theorem g_load_pdI {x : Operand} {T sz : Nat} {ag : Bool} {d d' : D} (ho : o.op = .load T x) (hx : ev S x = some (.val (.pd d))) (hT : assoc tyL T = some (sz, ag)) (hs : d.sub 0 sz ag = some d') : Still ops S o (.val d') := g_load_pd ho hx (tyI hT) hs
theorem g_indexI {x y : Operand} {T e z b : Nat} {k : Int} {ds : List D} (ho : o.op = .indexAddr T x y) (hx : ev S x = some (.val (.sl z ds))) (hy : ev S y = some (.val (.v (.int .i64 k)))) (hT : assoc slL T = some (e, z, b)) (hz : Nat.blt 0 z = true) (h0 : 0 ≤ k) (hk : k.toNat < ds.length) : Still ops S o (.val (.pd ds[k.toNat])) := g_index ho hx hy (slI hT) (by simpa using hz) h0 hk
theorem g_index_bsI {x y : Operand} {T e b : Nat} {k : Int} {l : List UInt8} (ho : o.op = .indexAddr T x y) (hx : ev S x = some (.val (.bs l))) (hy : ev S y = some (.val (.v (.int .i64 k)))) (hT : assoc slL T = some (e, 1, b)) (h0 : 0 ≤ k) (hk : k.toNat < l.length) : Still ops S o (.val (.pd (.v (bv l[k.toNat])))) := g_index_bs ho hx hy (slI hT) h0 hk
theorem g_len_bsI {x : Operand} {T e z y : Nat} {l : List UInt8} (ho : o.op = .call { callee := .builtin .len, args := #[x], argTypes := #[T] }) (hx : ev S x = some (.val (.bs l))) (hT : assoc slL T = some (e, z, y)) : Still ops S o (.val (.v (.int .i64 l.length))) := g_len_bs ho hx (slI hT).und
theorem g_len_slI {x : Operand} {T e z y z' : Nat} {ds : List D} (ho : o.op = .call { callee := .builtin .len, args := #[x], argTypes := #[T] }) (hx : ev S x = some (.val (.sl z' ds))) (hT : assoc slL T = some (e, z, y)) : Still ops S o (.val (.v (.int .i64 ds.length))) := g_len_sl ho hx (slI hT).und
theorem g_len_nilI {x : Operand} {T e n c z y : Nat} {A : Option Addr} (ho : o.op = .call { callee := .builtin .len, args := #[x], argTypes := #[T] }) (hx : ev S x = some (.val (.v (.slice A n c)))) (hT : assoc slL T = some (e, z, y)) : Still ops S o (.val (.v (.int .i64 n))) := g_len_nil ho hx (slI hT).und
theorem g_len_rowI {x : Operand} {T e e' z z' y : Nat} {v : Value} {ds : List D} (i : Nat) (ho : o.op = .call { callee := .builtin .len, args := #[x], argTypes := #[T] }) (hx : ev S x = some (.val (.v v))) (hi : S.objs[i]? = some (.row v e' z ds)) (hT : assoc slL T = some (e, z', y)) : Still ops S o (.val (.v (.int .i64 ds.length))) := g_len_row i ho hx hi (slI hT).und
theorem ES.append {t : Tmp} {T e z y : Nat} {s x : Operand} {v : Value} {ds es : List D} (i : Nat) (ho : o.op = .call { callee := .builtin .append, args := #[s, x], argTypes := #[T, T] }) (hT : assoc slL T = some (e, z, y)) (hz : Nat.blt 0 z = true)
    (hs : ev ⟨rs, os, fs⟩ s = some (.val (.v v))) (hi : os[i]? = some (.row v e z ds)) (hx : ev ⟨rs, os, fs⟩ x = some (.val (.sl z es))) (hg : guardOf ops ⟨rs, os, fs⟩ o = some true) (hd : o.dst = some t) (hN : Nat.blt t N = true) (hlen : (ds.length + es.length) * y ≤ 140737488355328 ∧ ds.length + es.length ≤ 9223372036854775807)
    (k : ∀ v', EL X ops Q l ⟨(t, .val (.v v')) :: rs, os.set i (.row v' e z (ds ++ es)), fs⟩) : EL X ops Q (o :: l) ⟨rs, os, fs⟩ := EL.append i ho hg (dst_lt hd hN) (slTI hT hz) hs hi hx hlen fun v' => by rw [hd]; exact k v'
/-- The end of a region's head. -/
theorem EH.nil {l' : List Oper} {F : List Fr} (hF : F = []) (h : EL X ops Q l' S) : EM N ops (fun S' E => openF (EL X ops Q l') E S') [] S F := by
  subst hF
  exact h
theorem EH.nil1 {l' : List Oper} {t : Tmp} {Ty : TypeId} {d : D} {F : List Fr} (hF : F = [(t, Ty, d)]) (h : ∀ g, EL X ops Q l' ⟨(t, .val (.v (.pointer (some ⟨g, 0, none⟩)))) :: rs, .var g Ty d :: os, fs⟩) : EM N ops (fun S' E => openF (EL X ops Q l') E S') [] ⟨rs, os, fs⟩ F := by
  subst hF
  exact h
theorem EH.nil2 {l' : List Oper} {t t' : Tmp} {Ty Ty' : TypeId} {d d' : D} {F : List Fr} (hF : F = [(t, Ty, d), (t', Ty', d')]) (h : ∀ g g', EL X ops Q l' ⟨(t', .val (.v (.pointer (some ⟨g', 0, none⟩)))) :: (t, .val (.v (.pointer (some ⟨g, 0, none⟩)))) :: rs, .var g' Ty' d' :: .var g Ty d :: os, fs⟩) : EM N ops (fun S' E => openF (EL X ops Q l') E S') [] ⟨rs, os, fs⟩ F := by
  subst hF
  exact h
end
end E
end Go.Proofs.Ytekacgocjplfjaa
/-
  The abstract machine's rules, the operation written out. (Printed by wip/tools/erules.py.)
  Conditions: none.
-/
namespace Go.Proofs.Ytekacgocjplfjaa
set_option linter.unusedVariables false
open Go.RowKit Mono Rlp
namespace E
section
variable {N : Nat} {X : Cx N} {S S' : St} {ops : Array Oper} {o : Oper} {Q : Exit → Act → World → Prop} {l : List Oper} {TT : St → List Fr → Prop} {EE : List Fr} {rs : List (Tmp × R)} {os : List Obj} {fs : List (Value × D)}
/-- A piece is put in another's place. -/
inductive SetAt : List Obj → Obj → Obj → List Obj → Prop where
  | z {p q : Obj} {m : List Obj} : SetAt (p :: m) p q (q :: m)
  | s {a p q : Obj} {m m' : List Obj} (h : SetAt m p q m') : SetAt (a :: m) p q (a :: m')
theorem SetAt.ix {p q : Obj} {m m' : List Obj} (h : SetAt m p q m') : ∃ i : Nat, m[i]? = some p ∧ m' = m.set i q := by
  induction h with
  | z => exact ⟨0, rfl, rfl⟩
  | s h ih =>
    obtain ⟨i, h1, h2⟩ := ih
    exact ⟨i + 1, by simpa using h1, by rw [h2]; rfl⟩
inductive SetAtF : List Obj → Obj → (Value → Obj) → (Value → List Obj) → Prop where
  | z {p : Obj} {q : Value → Obj} {m : List Obj} : SetAtF (p :: m) p q (fun v => q v :: m)
  | s {a p : Obj} {q : Value → Obj} {m : List Obj} {m' : Value → List Obj} (h : SetAtF m p q m') : SetAtF (a :: m) p q (fun v => a :: m' v)
theorem SetAtF.ix {p : Obj} {q : Value → Obj} {m : List Obj} {m' : Value → List Obj} (h : SetAtF m p q m') : ∃ i : Nat, m[i]? = some p ∧ ∀ v, m' v = m.set i (q v) := by
  induction h with
  | z => exact ⟨0, rfl, fun v => rfl⟩
  | s h ih =>
    obtain ⟨i, h1, h2⟩ := ih
    exact ⟨i + 1, by simpa using h1, fun v => congrArg (List.cons _) (h2 v)⟩
theorem I0 {α : Type} {a : α} {m : List α} : (a :: m)[0]? = some a := rfl
theorem I1 {α : Type} {o0 a : α} {m : List α} : (o0 :: a :: m)[1]? = some a := rfl
theorem I2 {α : Type} {o0 o1 a : α} {m : List α} : (o0 :: o1 :: a :: m)[2]? = some a := rfl
theorem I3 {α : Type} {o0 o1 o2 a : α} {m : List α} : (o0 :: o1 :: o2 :: a :: m)[3]? = some a := rfl
theorem I4 {α : Type} {o0 o1 o2 o3 a : α} {m : List α} : (o0 :: o1 :: o2 :: o3 :: a :: m)[4]? = some a := rfl
theorem I5 {α : Type} {o0 o1 o2 o3 o4 a : α} {m : List α} : (o0 :: o1 :: o2 :: o3 :: o4 :: a :: m)[5]? = some a := rfl
theorem I6 {α : Type} {o0 o1 o2 o3 o4 o5 a : α} {m : List α} : (o0 :: o1 :: o2 :: o3 :: o4 :: o5 :: a :: m)[6]? = some a := rfl
/-- What a test of values gives, whatever memory there is. -/
def Bin (op : BinOp) (T : TypeId) (d e : D) (c : Value) : Prop := c.oneCell' = true ∧ ∀ ok w p q, ReadV ok w d p → ReadV ok w e q → (∀ x y, (eqGuard op T x y p q).run Try.prog w = .ok () w) ∧ (binOp op T p q).run Try.prog w = .ok c w
theorem g_binI {x y : Operand} {op : BinOp} {T U : TypeId} {d e : D} {c : Value} (ho : o.op = .binOp op T x y U) (hx : ev S x = some (.val d)) (hy : ev S y = some (.val e)) (h : Bin op T d e c) : Still ops S o (.val (.v c)) :=
  g_bin ho hx hy h.1 fun ok w p q hp hq => ⟨(h.2 ok w p q hp hq).1 x y, (h.2 ok w p q hp hq).2⟩
theorem g_indexJ {x y : Operand} {T e z b : Nat} {k : Int} {ds : List D} {d : D} (ho : o.op = .indexAddr T x y) (hx : ev S x = some (.val (.sl z ds))) (hy : ev S y = some (.val (.v (.int .i64 k)))) (hT : assoc slL T = some (e, z, b)) (hz : Nat.blt 0 z = true) (hk : 0 ≤ k ∧ ds[k.toNat]? = some d) : Still ops S o (.val (.pd d)) := by
  obtain ⟨h1, h2⟩ := List.getElem?_eq_some_iff.1 hk.2
  subst h2
  exact g_indexI ho hx hy hT hz hk.1 h1
theorem g_index_bsJ {x y : Operand} {T e b : Nat} {k : Int} {l1 : List UInt8} {c : UInt8} (ho : o.op = .indexAddr T x y) (hx : ev S x = some (.val (.bs l1))) (hy : ev S y = some (.val (.v (.int .i64 k)))) (hT : assoc slL T = some (e, 1, b)) (hk : 0 ≤ k ∧ l1[k.toNat]? = some c) : Still ops S o (.val (.pd (.v (bv c)))) := by
  obtain ⟨h1, h2⟩ := List.getElem?_eq_some_iff.1 hk.2
  subst h2
  exact g_index_bsI ho hx hy hT hk.1 h1
theorem P_move {t ty : Nat} {pos : String} {af : Array Edge} {gd : Option (Nat × Bool)} {x : Operand} {r : R} (hx : ev (⟨rs, os, fs⟩ : St) x = some r) (hg : guardOf ops ⟨rs, os, fs⟩ ⟨some t, .move x, ty, pos, af, gd⟩ = some true) (hN : Nat.blt t N = true) (kk : EL X ops Q l ⟨(t, r) :: rs, os, fs⟩) : EL X ops Q (⟨some t, .move x, ty, pos, af, gd⟩ :: l) ⟨rs, os, fs⟩ := ES.still (g_move rfl hx) hg rfl hN kk
theorem H_move {t ty : Nat} {pos : String} {af : Array Edge} {gd : Option (Nat × Bool)} {x : Operand} {r : R} (hx : ev (⟨rs, os, fs⟩ : St) x = some r) (hg : guardOf ops ⟨rs, os, fs⟩ ⟨some t, .move x, ty, pos, af, gd⟩ = some true) (hoff : offB N (some t) EE = true) (kk : EM N ops TT l ⟨(t, r) :: rs, os, fs⟩ EE) : EM N ops TT (⟨some t, .move x, ty, pos, af, gd⟩ :: l) ⟨rs, os, fs⟩ EE := EH.still (g_move rfl hx) hg rfl hoff kk
theorem P_assign {t ty : Nat} {pos : String} {af : Array Edge} {gd : Option (Nat × Bool)} {x : Operand} {r : R} (hx : ev (⟨rs, os, fs⟩ : St) x = some r) (hg : guardOf ops ⟨rs, os, fs⟩ ⟨some t, .assign x, ty, pos, af, gd⟩ = some true) (hN : Nat.blt t N = true) (kk : EL X ops Q l ⟨(t, r) :: rs, os, fs⟩) : EL X ops Q (⟨some t, .assign x, ty, pos, af, gd⟩ :: l) ⟨rs, os, fs⟩ := ES.still (g_assign rfl hx) hg rfl hN kk
theorem H_assign {t ty : Nat} {pos : String} {af : Array Edge} {gd : Option (Nat × Bool)} {x : Operand} {r : R} (hx : ev (⟨rs, os, fs⟩ : St) x = some r) (hg : guardOf ops ⟨rs, os, fs⟩ ⟨some t, .assign x, ty, pos, af, gd⟩ = some true) (hoff : offB N (some t) EE = true) (kk : EM N ops TT l ⟨(t, r) :: rs, os, fs⟩ EE) : EM N ops TT (⟨some t, .assign x, ty, pos, af, gd⟩ :: l) ⟨rs, os, fs⟩ EE := EH.still (g_assign rfl hx) hg rfl hoff kk
theorem P_extract {t ty : Nat} {pos : String} {af : Array Edge} {gd : Option (Nat × Bool)} {x : Operand} {i : Nat} {ds : List D} {d : D} (hx : ev (⟨rs, os, fs⟩ : St) x = some (.tpl ds)) (hd : ds[i]? = some d) (hg : guardOf ops ⟨rs, os, fs⟩ ⟨some t, .extract x i, ty, pos, af, gd⟩ = some true) (hN : Nat.blt t N = true) (kk : EL X ops Q l ⟨(t, (.val d)) :: rs, os, fs⟩) : EL X ops Q (⟨some t, .extract x i, ty, pos, af, gd⟩ :: l) ⟨rs, os, fs⟩ := ES.still (g_extract rfl hx hd) hg rfl hN kk
theorem H_extract {t ty : Nat} {pos : String} {af : Array Edge} {gd : Option (Nat × Bool)} {x : Operand} {i : Nat} {ds : List D} {d : D} (hx : ev (⟨rs, os, fs⟩ : St) x = some (.tpl ds)) (hd : ds[i]? = some d) (hg : guardOf ops ⟨rs, os, fs⟩ ⟨some t, .extract x i, ty, pos, af, gd⟩ = some true) (hoff : offB N (some t) EE = true) (kk : EM N ops TT l ⟨(t, (.val d)) :: rs, os, fs⟩ EE) : EM N ops TT (⟨some t, .extract x i, ty, pos, af, gd⟩ :: l) ⟨rs, os, fs⟩ EE := EH.still (g_extract rfl hx hd) hg rfl hoff kk
theorem P_pick {t ty : Nat} {pos : String} {af : Array Edge} {gd : Option (Nat × Bool)} {c x y : Operand} {b : Bool} {r : R} (hc : ev (⟨rs, os, fs⟩ : St) c = some (.val (.v (.bool b)))) (hx : ev (⟨rs, os, fs⟩ : St) (if b then x else y) = some r) (hg : guardOf ops ⟨rs, os, fs⟩ ⟨some t, .pick c x y, ty, pos, af, gd⟩ = some true) (hN : Nat.blt t N = true) (kk : EL X ops Q l ⟨(t, r) :: rs, os, fs⟩) : EL X ops Q (⟨some t, .pick c x y, ty, pos, af, gd⟩ :: l) ⟨rs, os, fs⟩ := ES.still (g_pick rfl hc hx) hg rfl hN kk
theorem H_pick {t ty : Nat} {pos : String} {af : Array Edge} {gd : Option (Nat × Bool)} {c x y : Operand} {b : Bool} {r : R} (hc : ev (⟨rs, os, fs⟩ : St) c = some (.val (.v (.bool b)))) (hx : ev (⟨rs, os, fs⟩ : St) (if b then x else y) = some r) (hg : guardOf ops ⟨rs, os, fs⟩ ⟨some t, .pick c x y, ty, pos, af, gd⟩ = some true) (hoff : offB N (some t) EE = true) (kk : EM N ops TT l ⟨(t, r) :: rs, os, fs⟩ EE) : EM N ops TT (⟨some t, .pick c x y, ty, pos, af, gd⟩ :: l) ⟨rs, os, fs⟩ EE := EH.still (g_pick rfl hc hx) hg rfl hoff kk
theorem P_field {t ty : Nat} {pos : String} {af : Array Edge} {gd : Option (Nat × Bool)} {x : Operand} {T k off sz g n : Nat} {ag : Bool} {lf : List (Nat × Nat × Bool)} (hx : ev (⟨rs, os, fs⟩ : St) x = some (.val (.v (.pointer (some ⟨g, n, none⟩))))) (h : assoc stL T = some lf) (hk : lf[k]? = some (off, sz, ag)) (h0 : Nat.blt 0 sz = true) (hg : guardOf ops ⟨rs, os, fs⟩ ⟨some t, .fieldAddr T x k, ty, pos, af, gd⟩ = some true) (hN : Nat.blt t N = true) (kk : EL X ops Q l ⟨(t, (.val (.v (.pointer (some ⟨g, n + off, none⟩))))) :: rs, os, fs⟩) : EL X ops Q (⟨some t, .fieldAddr T x k, ty, pos, af, gd⟩ :: l) ⟨rs, os, fs⟩ := ES.still (g_fieldI rfl hx h hk h0) hg rfl hN kk
theorem H_field {t ty : Nat} {pos : String} {af : Array Edge} {gd : Option (Nat × Bool)} {x : Operand} {T k off sz g n : Nat} {ag : Bool} {lf : List (Nat × Nat × Bool)} (hx : ev (⟨rs, os, fs⟩ : St) x = some (.val (.v (.pointer (some ⟨g, n, none⟩))))) (h : assoc stL T = some lf) (hk : lf[k]? = some (off, sz, ag)) (h0 : Nat.blt 0 sz = true) (hg : guardOf ops ⟨rs, os, fs⟩ ⟨some t, .fieldAddr T x k, ty, pos, af, gd⟩ = some true) (hoff : offB N (some t) EE = true) (kk : EM N ops TT l ⟨(t, (.val (.v (.pointer (some ⟨g, n + off, none⟩))))) :: rs, os, fs⟩ EE) : EM N ops TT (⟨some t, .fieldAddr T x k, ty, pos, af, gd⟩ :: l) ⟨rs, os, fs⟩ EE := EH.still (g_fieldI rfl hx h hk h0) hg rfl hoff kk
theorem P_fieldpd {t ty : Nat} {pos : String} {af : Array Edge} {gd : Option (Nat × Bool)} {x : Operand} {T k off sz : Nat} {ag : Bool} {d d' : D} {lf : List (Nat × Nat × Bool)} (hx : ev (⟨rs, os, fs⟩ : St) x = some (.val (.pd d))) (h : assoc stL T = some lf) (hk : lf[k]? = some (off, sz, ag)) (h0 : Nat.blt 0 sz = true) (hs : d.sub off sz ag = some d') (hg : guardOf ops ⟨rs, os, fs⟩ ⟨some t, .fieldAddr T x k, ty, pos, af, gd⟩ = some true) (hN : Nat.blt t N = true) (kk : EL X ops Q l ⟨(t, (.val (.pd d'))) :: rs, os, fs⟩) : EL X ops Q (⟨some t, .fieldAddr T x k, ty, pos, af, gd⟩ :: l) ⟨rs, os, fs⟩ := ES.still (g_field_pdI rfl hx h hk h0 hs) hg rfl hN kk
theorem H_fieldpd {t ty : Nat} {pos : String} {af : Array Edge} {gd : Option (Nat × Bool)} {x : Operand} {T k off sz : Nat} {ag : Bool} {d d' : D} {lf : List (Nat × Nat × Bool)} (hx : ev (⟨rs, os, fs⟩ : St) x = some (.val (.pd d))) (h : assoc stL T = some lf) (hk : lf[k]? = some (off, sz, ag)) (h0 : Nat.blt 0 sz = true) (hs : d.sub off sz ag = some d') (hg : guardOf ops ⟨rs, os, fs⟩ ⟨some t, .fieldAddr T x k, ty, pos, af, gd⟩ = some true) (hoff : offB N (some t) EE = true) (kk : EM N ops TT l ⟨(t, (.val (.pd d'))) :: rs, os, fs⟩ EE) : EM N ops TT (⟨some t, .fieldAddr T x k, ty, pos, af, gd⟩ :: l) ⟨rs, os, fs⟩ EE := EH.still (g_field_pdI rfl hx h hk h0 hs) hg rfl hoff kk
theorem P_loadpd {t ty : Nat} {pos : String} {af : Array Edge} {gd : Option (Nat × Bool)} {x : Operand} {T sz : Nat} {ag : Bool} {d d' : D} (hx : ev (⟨rs, os, fs⟩ : St) x = some (.val (.pd d))) (hT : assoc tyL T = some (sz, ag)) (hs : d.sub 0 sz ag = some d') (hg : guardOf ops ⟨rs, os, fs⟩ ⟨some t, .load T x, ty, pos, af, gd⟩ = some true) (hN : Nat.blt t N = true) (kk : EL X ops Q l ⟨(t, (.val d')) :: rs, os, fs⟩) : EL X ops Q (⟨some t, .load T x, ty, pos, af, gd⟩ :: l) ⟨rs, os, fs⟩ := ES.still (g_load_pdI rfl hx hT hs) hg rfl hN kk
theorem H_loadpd {t ty : Nat} {pos : String} {af : Array Edge} {gd : Option (Nat × Bool)} {x : Operand} {T sz : Nat} {ag : Bool} {d d' : D} (hx : ev (⟨rs, os, fs⟩ : St) x = some (.val (.pd d))) (hT : assoc tyL T = some (sz, ag)) (hs : d.sub 0 sz ag = some d') (hg : guardOf ops ⟨rs, os, fs⟩ ⟨some t, .load T x, ty, pos, af, gd⟩ = some true) (hoff : offB N (some t) EE = true) (kk : EM N ops TT l ⟨(t, (.val d')) :: rs, os, fs⟩ EE) : EM N ops TT (⟨some t, .load T x, ty, pos, af, gd⟩ :: l) ⟨rs, os, fs⟩ EE := EH.still (g_load_pdI rfl hx hT hs) hg rfl hoff kk
theorem P_lenbs {t ty : Nat} {pos : String} {af : Array Edge} {gd : Option (Nat × Bool)} {x : Operand} {T e z y : Nat} {b : List UInt8} (hx : ev (⟨rs, os, fs⟩ : St) x = some (.val (.bs b))) (hT : assoc slL T = some (e, z, y)) (hg : guardOf ops ⟨rs, os, fs⟩ ⟨some t, .call { callee := .builtin .len, args := #[x], argTypes := #[T] }, ty, pos, af, gd⟩ = some true) (hN : Nat.blt t N = true) (kk : EL X ops Q l ⟨(t, (.val (.v (.int .i64 b.length)))) :: rs, os, fs⟩) : EL X ops Q (⟨some t, .call { callee := .builtin .len, args := #[x], argTypes := #[T] }, ty, pos, af, gd⟩ :: l) ⟨rs, os, fs⟩ := ES.still (g_len_bsI rfl hx hT) hg rfl hN kk
theorem H_lenbs {t ty : Nat} {pos : String} {af : Array Edge} {gd : Option (Nat × Bool)} {x : Operand} {T e z y : Nat} {b : List UInt8} (hx : ev (⟨rs, os, fs⟩ : St) x = some (.val (.bs b))) (hT : assoc slL T = some (e, z, y)) (hg : guardOf ops ⟨rs, os, fs⟩ ⟨some t, .call { callee := .builtin .len, args := #[x], argTypes := #[T] }, ty, pos, af, gd⟩ = some true) (hoff : offB N (some t) EE = true) (kk : EM N ops TT l ⟨(t, (.val (.v (.int .i64 b.length)))) :: rs, os, fs⟩ EE) : EM N ops TT (⟨some t, .call { callee := .builtin .len, args := #[x], argTypes := #[T] }, ty, pos, af, gd⟩ :: l) ⟨rs, os, fs⟩ EE := EH.still (g_len_bsI rfl hx hT) hg rfl hoff kk
theorem P_lensl {t ty : Nat} {pos : String} {af : Array Edge} {gd : Option (Nat × Bool)} {x : Operand} {T e z y z' : Nat} {ds : List D} (hx : ev (⟨rs, os, fs⟩ : St) x = some (.val (.sl z' ds))) (hT : assoc slL T = some (e, z, y)) (hg : guardOf ops ⟨rs, os, fs⟩ ⟨some t, .call { callee := .builtin .len, args := #[x], argTypes := #[T] }, ty, pos, af, gd⟩ = some true) (hN : Nat.blt t N = true) (kk : EL X ops Q l ⟨(t, (.val (.v (.int .i64 ds.length)))) :: rs, os, fs⟩) : EL X ops Q (⟨some t, .call { callee := .builtin .len, args := #[x], argTypes := #[T] }, ty, pos, af, gd⟩ :: l) ⟨rs, os, fs⟩ := ES.still (g_len_slI rfl hx hT) hg rfl hN kk
theorem H_lensl {t ty : Nat} {pos : String} {af : Array Edge} {gd : Option (Nat × Bool)} {x : Operand} {T e z y z' : Nat} {ds : List D} (hx : ev (⟨rs, os, fs⟩ : St) x = some (.val (.sl z' ds))) (hT : assoc slL T = some (e, z, y)) (hg : guardOf ops ⟨rs, os, fs⟩ ⟨some t, .call { callee := .builtin .len, args := #[x], argTypes := #[T] }, ty, pos, af, gd⟩ = some true) (hoff : offB N (some t) EE = true) (kk : EM N ops TT l ⟨(t, (.val (.v (.int .i64 ds.length)))) :: rs, os, fs⟩ EE) : EM N ops TT (⟨some t, .call { callee := .builtin .len, args := #[x], argTypes := #[T] }, ty, pos, af, gd⟩ :: l) ⟨rs, os, fs⟩ EE := EH.still (g_len_slI rfl hx hT) hg rfl hoff kk
theorem P_lenv {t ty : Nat} {pos : String} {af : Array Edge} {gd : Option (Nat × Bool)} {x : Operand} {T e n c z y : Nat} {A : Option Addr} (hx : ev (⟨rs, os, fs⟩ : St) x = some (.val (.v (.slice A n c)))) (hT : assoc slL T = some (e, z, y)) (hg : guardOf ops ⟨rs, os, fs⟩ ⟨some t, .call { callee := .builtin .len, args := #[x], argTypes := #[T] }, ty, pos, af, gd⟩ = some true) (hN : Nat.blt t N = true) (kk : EL X ops Q l ⟨(t, (.val (.v (.int .i64 n)))) :: rs, os, fs⟩) : EL X ops Q (⟨some t, .call { callee := .builtin .len, args := #[x], argTypes := #[T] }, ty, pos, af, gd⟩ :: l) ⟨rs, os, fs⟩ := ES.still (g_len_nilI rfl hx hT) hg rfl hN kk
theorem H_lenv {t ty : Nat} {pos : String} {af : Array Edge} {gd : Option (Nat × Bool)} {x : Operand} {T e n c z y : Nat} {A : Option Addr} (hx : ev (⟨rs, os, fs⟩ : St) x = some (.val (.v (.slice A n c)))) (hT : assoc slL T = some (e, z, y)) (hg : guardOf ops ⟨rs, os, fs⟩ ⟨some t, .call { callee := .builtin .len, args := #[x], argTypes := #[T] }, ty, pos, af, gd⟩ = some true) (hoff : offB N (some t) EE = true) (kk : EM N ops TT l ⟨(t, (.val (.v (.int .i64 n)))) :: rs, os, fs⟩ EE) : EM N ops TT (⟨some t, .call { callee := .builtin .len, args := #[x], argTypes := #[T] }, ty, pos, af, gd⟩ :: l) ⟨rs, os, fs⟩ EE := EH.still (g_len_nilI rfl hx hT) hg rfl hoff kk
theorem P_cmp {t ty : Nat} {pos : String} {af : Array Edge} {gd : Option (Nat × Bool)} {x y : Operand} {op : BinOp} {T U : TypeId} {k : IntKind} {m n : Int} {b : Bool} (hx : ev (⟨rs, os, fs⟩ : St) x = some (.val (.v (.int k m)))) (hy : ev (⟨rs, os, fs⟩ : St) y = some (.val (.v (.int k n)))) (hb : cmpI op m n = some b) (hg : guardOf ops ⟨rs, os, fs⟩ ⟨some t, .binOp op T x y U, ty, pos, af, gd⟩ = some true) (hN : Nat.blt t N = true) (kk : EL X ops Q l ⟨(t, (.val (.v (.bool b)))) :: rs, os, fs⟩) : EL X ops Q (⟨some t, .binOp op T x y U, ty, pos, af, gd⟩ :: l) ⟨rs, os, fs⟩ := ES.still (g_cmp rfl hx hy hb) hg rfl hN kk
theorem H_cmp {t ty : Nat} {pos : String} {af : Array Edge} {gd : Option (Nat × Bool)} {x y : Operand} {op : BinOp} {T U : TypeId} {k : IntKind} {m n : Int} {b : Bool} (hx : ev (⟨rs, os, fs⟩ : St) x = some (.val (.v (.int k m)))) (hy : ev (⟨rs, os, fs⟩ : St) y = some (.val (.v (.int k n)))) (hb : cmpI op m n = some b) (hg : guardOf ops ⟨rs, os, fs⟩ ⟨some t, .binOp op T x y U, ty, pos, af, gd⟩ = some true) (hoff : offB N (some t) EE = true) (kk : EM N ops TT l ⟨(t, (.val (.v (.bool b)))) :: rs, os, fs⟩ EE) : EM N ops TT (⟨some t, .binOp op T x y U, ty, pos, af, gd⟩ :: l) ⟨rs, os, fs⟩ EE := EH.still (g_cmp rfl hx hy hb) hg rfl hoff kk
theorem P_ar {t ty : Nat} {pos : String} {af : Array Edge} {gd : Option (Nat × Bool)} {x y : Operand} {op : BinOp} {T U : TypeId} {m n s : Int} (hx : ev (⟨rs, os, fs⟩ : St) x = some (.val (.v (.int .i64 m)))) (hy : ev (⟨rs, os, fs⟩ : St) y = some (.val (.v (.int .i64 n)))) (hb : arI op m n = some s) (h1 : -9223372036854775808 ≤ s) (h2 : s ≤ 9223372036854775807) (hg : guardOf ops ⟨rs, os, fs⟩ ⟨some t, .binOp op T x y U, ty, pos, af, gd⟩ = some true) (hN : Nat.blt t N = true) (kk : EL X ops Q l ⟨(t, (.val (.v (.int .i64 s)))) :: rs, os, fs⟩) : EL X ops Q (⟨some t, .binOp op T x y U, ty, pos, af, gd⟩ :: l) ⟨rs, os, fs⟩ := ES.still (g_ar rfl hx hy hb h1 h2) hg rfl hN kk
theorem H_ar {t ty : Nat} {pos : String} {af : Array Edge} {gd : Option (Nat × Bool)} {x y : Operand} {op : BinOp} {T U : TypeId} {m n s : Int} (hx : ev (⟨rs, os, fs⟩ : St) x = some (.val (.v (.int .i64 m)))) (hy : ev (⟨rs, os, fs⟩ : St) y = some (.val (.v (.int .i64 n)))) (hb : arI op m n = some s) (h1 : -9223372036854775808 ≤ s) (h2 : s ≤ 9223372036854775807) (hg : guardOf ops ⟨rs, os, fs⟩ ⟨some t, .binOp op T x y U, ty, pos, af, gd⟩ = some true) (hoff : offB N (some t) EE = true) (kk : EM N ops TT l ⟨(t, (.val (.v (.int .i64 s)))) :: rs, os, fs⟩ EE) : EM N ops TT (⟨some t, .binOp op T x y U, ty, pos, af, gd⟩ :: l) ⟨rs, os, fs⟩ EE := EH.still (g_ar rfl hx hy hb h1 h2) hg rfl hoff kk
theorem P_not {t ty : Nat} {pos : String} {af : Array Edge} {gd : Option (Nat × Bool)} {x : Operand} {T : TypeId} {b : Bool} (hx : ev (⟨rs, os, fs⟩ : St) x = some (.val (.v (.bool b)))) (hg : guardOf ops ⟨rs, os, fs⟩ ⟨some t, .unOp .not T x, ty, pos, af, gd⟩ = some true) (hN : Nat.blt t N = true) (kk : EL X ops Q l ⟨(t, (.val (.v (.bool (!b))))) :: rs, os, fs⟩) : EL X ops Q (⟨some t, .unOp .not T x, ty, pos, af, gd⟩ :: l) ⟨rs, os, fs⟩ := ES.still (g_not rfl hx) hg rfl hN kk
theorem H_not {t ty : Nat} {pos : String} {af : Array Edge} {gd : Option (Nat × Bool)} {x : Operand} {T : TypeId} {b : Bool} (hx : ev (⟨rs, os, fs⟩ : St) x = some (.val (.v (.bool b)))) (hg : guardOf ops ⟨rs, os, fs⟩ ⟨some t, .unOp .not T x, ty, pos, af, gd⟩ = some true) (hoff : offB N (some t) EE = true) (kk : EM N ops TT l ⟨(t, (.val (.v (.bool (!b))))) :: rs, os, fs⟩ EE) : EM N ops TT (⟨some t, .unOp .not T x, ty, pos, af, gd⟩ :: l) ⟨rs, os, fs⟩ EE := EH.still (g_not rfl hx) hg rfl hoff kk
theorem P_str {t ty : Nat} {pos : String} {af : Array Edge} {gd : Option (Nat × Bool)} {x : Operand} {b : List UInt8} (hx : ev (⟨rs, os, fs⟩ : St) x = some (.val (.bs b))) (hg : guardOf ops ⟨rs, os, fs⟩ ⟨some t, .convert 29 9 x, ty, pos, af, gd⟩ = some true) (hN : Nat.blt t N = true) (kk : EL X ops Q l ⟨(t, (.val (.v (.string (Go.Proofs.Ytekacgocjplfjaa.bs b))))) :: rs, os, fs⟩) : EL X ops Q (⟨some t, .convert 29 9 x, ty, pos, af, gd⟩ :: l) ⟨rs, os, fs⟩ := ES.still (g_str rfl hx) hg rfl hN kk
theorem H_str {t ty : Nat} {pos : String} {af : Array Edge} {gd : Option (Nat × Bool)} {x : Operand} {b : List UInt8} (hx : ev (⟨rs, os, fs⟩ : St) x = some (.val (.bs b))) (hg : guardOf ops ⟨rs, os, fs⟩ ⟨some t, .convert 29 9 x, ty, pos, af, gd⟩ = some true) (hoff : offB N (some t) EE = true) (kk : EM N ops TT l ⟨(t, (.val (.v (.string (Go.Proofs.Ytekacgocjplfjaa.bs b))))) :: rs, os, fs⟩ EE) : EM N ops TT (⟨some t, .convert 29 9 x, ty, pos, af, gd⟩ :: l) ⟨rs, os, fs⟩ EE := EH.still (g_str rfl hx) hg rfl hoff kk
theorem P_bin {t ty : Nat} {pos : String} {af : Array Edge} {gd : Option (Nat × Bool)} {x y : Operand} {op : BinOp} {T U : TypeId} {d e : D} {c : Value} (hx : ev (⟨rs, os, fs⟩ : St) x = some (.val d)) (hy : ev (⟨rs, os, fs⟩ : St) y = some (.val e)) (hrun : Bin op T d e c) (hg : guardOf ops ⟨rs, os, fs⟩ ⟨some t, .binOp op T x y U, ty, pos, af, gd⟩ = some true) (hN : Nat.blt t N = true) (kk : EL X ops Q l ⟨(t, (.val (.v c))) :: rs, os, fs⟩) : EL X ops Q (⟨some t, .binOp op T x y U, ty, pos, af, gd⟩ :: l) ⟨rs, os, fs⟩ := ES.still (g_binI rfl hx hy hrun) hg rfl hN kk
theorem H_bin {t ty : Nat} {pos : String} {af : Array Edge} {gd : Option (Nat × Bool)} {x y : Operand} {op : BinOp} {T U : TypeId} {d e : D} {c : Value} (hx : ev (⟨rs, os, fs⟩ : St) x = some (.val d)) (hy : ev (⟨rs, os, fs⟩ : St) y = some (.val e)) (hrun : Bin op T d e c) (hg : guardOf ops ⟨rs, os, fs⟩ ⟨some t, .binOp op T x y U, ty, pos, af, gd⟩ = some true) (hoff : offB N (some t) EE = true) (kk : EM N ops TT l ⟨(t, (.val (.v c))) :: rs, os, fs⟩ EE) : EM N ops TT (⟨some t, .binOp op T x y U, ty, pos, af, gd⟩ :: l) ⟨rs, os, fs⟩ EE := EH.still (g_binI rfl hx hy hrun) hg rfl hoff kk
theorem P_build {t ty : Nat} {pos : String} {af : Array Edge} {gd : Option (Nat × Bool)} {T : Nat} {parts : Array (Nat × Operand)} {lf : List (Nat × Nat × Bool)} {d0 d : D} {ps : List (Nat × D)} (hx : evps (⟨rs, os, fs⟩ : St) parts.toList = some ps) (hT : assoc stL T = some lf) (hz : assoc zeroL T = some d0) (hd0 : d0.agg = true) (hf : fillD (lf.map fun x => (x.1, x.2.1)) d0 ps = some d) (hg : guardOf ops ⟨rs, os, fs⟩ ⟨some t, .build T parts, ty, pos, af, gd⟩ = some true) (hN : Nat.blt t N = true) (kk : EL X ops Q l ⟨(t, (.val d)) :: rs, os, fs⟩) : EL X ops Q (⟨some t, .build T parts, ty, pos, af, gd⟩ :: l) ⟨rs, os, fs⟩ := ES.still (g_buildI rfl hx hT hz hd0 hf) hg rfl hN kk
theorem H_build {t ty : Nat} {pos : String} {af : Array Edge} {gd : Option (Nat × Bool)} {T : Nat} {parts : Array (Nat × Operand)} {lf : List (Nat × Nat × Bool)} {d0 d : D} {ps : List (Nat × D)} (hx : evps (⟨rs, os, fs⟩ : St) parts.toList = some ps) (hT : assoc stL T = some lf) (hz : assoc zeroL T = some d0) (hd0 : d0.agg = true) (hf : fillD (lf.map fun x => (x.1, x.2.1)) d0 ps = some d) (hg : guardOf ops ⟨rs, os, fs⟩ ⟨some t, .build T parts, ty, pos, af, gd⟩ = some true) (hoff : offB N (some t) EE = true) (kk : EM N ops TT l ⟨(t, (.val d)) :: rs, os, fs⟩ EE) : EM N ops TT (⟨some t, .build T parts, ty, pos, af, gd⟩ :: l) ⟨rs, os, fs⟩ EE := EH.still (g_buildI rfl hx hT hz hd0 hf) hg rfl hoff kk
theorem P_build0 {t ty : Nat} {pos : String} {af : Array Edge} {gd : Option (Nat × Bool)} {T n e z : Nat} {d : D} (hT : assoc arL T = some (n, e, z)) (hz : assoc zeroL T = some d) (hd : d.agg = true) (hg : guardOf ops ⟨rs, os, fs⟩ ⟨some t, .build T #[], ty, pos, af, gd⟩ = some true) (hN : Nat.blt t N = true) (kk : EL X ops Q l ⟨(t, (.val d)) :: rs, os, fs⟩) : EL X ops Q (⟨some t, .build T #[], ty, pos, af, gd⟩ :: l) ⟨rs, os, fs⟩ := ES.still (g_build0I rfl hT hz hd) hg rfl hN kk
theorem H_build0 {t ty : Nat} {pos : String} {af : Array Edge} {gd : Option (Nat × Bool)} {T n e z : Nat} {d : D} (hT : assoc arL T = some (n, e, z)) (hz : assoc zeroL T = some d) (hd : d.agg = true) (hg : guardOf ops ⟨rs, os, fs⟩ ⟨some t, .build T #[], ty, pos, af, gd⟩ = some true) (hoff : offB N (some t) EE = true) (kk : EM N ops TT l ⟨(t, (.val d)) :: rs, os, fs⟩ EE) : EM N ops TT (⟨some t, .build T #[], ty, pos, af, gd⟩ :: l) ⟨rs, os, fs⟩ EE := EH.still (g_build0I rfl hT hz hd) hg rfl hoff kk
theorem P_index {t ty : Nat} {pos : String} {af : Array Edge} {gd : Option (Nat × Bool)} {x y : Operand} {T e z b : Nat} {k : Int} {ds : List D} {d : D} (hx : ev (⟨rs, os, fs⟩ : St) x = some (.val (.sl z ds))) (hy : ev (⟨rs, os, fs⟩ : St) y = some (.val (.v (.int .i64 k)))) (hT : assoc slL T = some (e, z, b)) (hz : Nat.blt 0 z = true) (hk : 0 ≤ k ∧ ds[k.toNat]? = some d) (hg : guardOf ops ⟨rs, os, fs⟩ ⟨some t, .indexAddr T x y, ty, pos, af, gd⟩ = some true) (hN : Nat.blt t N = true) (kk : EL X ops Q l ⟨(t, (.val (.pd d))) :: rs, os, fs⟩) : EL X ops Q (⟨some t, .indexAddr T x y, ty, pos, af, gd⟩ :: l) ⟨rs, os, fs⟩ := ES.still (g_indexJ rfl hx hy hT hz hk) hg rfl hN kk
theorem H_index {t ty : Nat} {pos : String} {af : Array Edge} {gd : Option (Nat × Bool)} {x y : Operand} {T e z b : Nat} {k : Int} {ds : List D} {d : D} (hx : ev (⟨rs, os, fs⟩ : St) x = some (.val (.sl z ds))) (hy : ev (⟨rs, os, fs⟩ : St) y = some (.val (.v (.int .i64 k)))) (hT : assoc slL T = some (e, z, b)) (hz : Nat.blt 0 z = true) (hk : 0 ≤ k ∧ ds[k.toNat]? = some d) (hg : guardOf ops ⟨rs, os, fs⟩ ⟨some t, .indexAddr T x y, ty, pos, af, gd⟩ = some true) (hoff : offB N (some t) EE = true) (kk : EM N ops TT l ⟨(t, (.val (.pd d))) :: rs, os, fs⟩ EE) : EM N ops TT (⟨some t, .indexAddr T x y, ty, pos, af, gd⟩ :: l) ⟨rs, os, fs⟩ EE := EH.still (g_indexJ rfl hx hy hT hz hk) hg rfl hoff kk
theorem P_indexbs {t ty : Nat} {pos : String} {af : Array Edge} {gd : Option (Nat × Bool)} {x y : Operand} {T e b : Nat} {k : Int} {l1 : List UInt8} {c : UInt8} (hx : ev (⟨rs, os, fs⟩ : St) x = some (.val (.bs l1))) (hy : ev (⟨rs, os, fs⟩ : St) y = some (.val (.v (.int .i64 k)))) (hT : assoc slL T = some (e, 1, b)) (hk : 0 ≤ k ∧ l1[k.toNat]? = some c) (hg : guardOf ops ⟨rs, os, fs⟩ ⟨some t, .indexAddr T x y, ty, pos, af, gd⟩ = some true) (hN : Nat.blt t N = true) (kk : EL X ops Q l ⟨(t, (.val (.pd (.v (bv c))))) :: rs, os, fs⟩) : EL X ops Q (⟨some t, .indexAddr T x y, ty, pos, af, gd⟩ :: l) ⟨rs, os, fs⟩ := ES.still (g_index_bsJ rfl hx hy hT hk) hg rfl hN kk
theorem H_indexbs {t ty : Nat} {pos : String} {af : Array Edge} {gd : Option (Nat × Bool)} {x y : Operand} {T e b : Nat} {k : Int} {l1 : List UInt8} {c : UInt8} (hx : ev (⟨rs, os, fs⟩ : St) x = some (.val (.bs l1))) (hy : ev (⟨rs, os, fs⟩ : St) y = some (.val (.v (.int .i64 k)))) (hT : assoc slL T = some (e, 1, b)) (hk : 0 ≤ k ∧ l1[k.toNat]? = some c) (hg : guardOf ops ⟨rs, os, fs⟩ ⟨some t, .indexAddr T x y, ty, pos, af, gd⟩ = some true) (hoff : offB N (some t) EE = true) (kk : EM N ops TT l ⟨(t, (.val (.pd (.v (bv c))))) :: rs, os, fs⟩ EE) : EM N ops TT (⟨some t, .indexAddr T x y, ty, pos, af, gd⟩ :: l) ⟨rs, os, fs⟩ EE := EH.still (g_index_bsJ rfl hx hy hT hk) hg rfl hoff kk
theorem P_load {t ty : Nat} {pos : String} {af : Array Edge} {gd : Option (Nat × Bool)} {x : Operand} {T sz g n i : Nat} {ag : Bool} {t0 : TypeId} {d d' : D} (hx : ev (⟨rs, os, fs⟩ : St) x = some (.val (.v (.pointer (some ⟨g, n, none⟩))))) (hi : os[i]? = some (.var g t0 d)) (hT : assoc tyL T = some (sz, ag)) (hs : d.sub n sz ag = some d') (hg : guardOf ops ⟨rs, os, fs⟩ ⟨some t, .load T x, ty, pos, af, gd⟩ = some true) (hN : Nat.blt t N = true) (kk : EL X ops Q l ⟨(t, (.val d')) :: rs, os, fs⟩) : EL X ops Q (⟨some t, .load T x, ty, pos, af, gd⟩ :: l) ⟨rs, os, fs⟩ := ES.still (g_loadI i rfl hx hi hT hs) hg rfl hN kk
theorem H_load {t ty : Nat} {pos : String} {af : Array Edge} {gd : Option (Nat × Bool)} {x : Operand} {T sz g n i : Nat} {ag : Bool} {t0 : TypeId} {d d' : D} (hx : ev (⟨rs, os, fs⟩ : St) x = some (.val (.v (.pointer (some ⟨g, n, none⟩))))) (hi : os[i]? = some (.var g t0 d)) (hT : assoc tyL T = some (sz, ag)) (hs : d.sub n sz ag = some d') (hg : guardOf ops ⟨rs, os, fs⟩ ⟨some t, .load T x, ty, pos, af, gd⟩ = some true) (hoff : offB N (some t) EE = true) (kk : EM N ops TT l ⟨(t, (.val d')) :: rs, os, fs⟩ EE) : EM N ops TT (⟨some t, .load T x, ty, pos, af, gd⟩ :: l) ⟨rs, os, fs⟩ EE := EH.still (g_loadI i rfl hx hi hT hs) hg rfl hoff kk
theorem P_lenrow {t ty : Nat} {pos : String} {af : Array Edge} {gd : Option (Nat × Bool)} {x : Operand} {T e e' z z' y i : Nat} {v : Value} {ds : List D} (hx : ev (⟨rs, os, fs⟩ : St) x = some (.val (.v v))) (hi : os[i]? = some (.row v e' z ds)) (hT : assoc slL T = some (e, z', y)) (hg : guardOf ops ⟨rs, os, fs⟩ ⟨some t, .call { callee := .builtin .len, args := #[x], argTypes := #[T] }, ty, pos, af, gd⟩ = some true) (hN : Nat.blt t N = true) (kk : EL X ops Q l ⟨(t, (.val (.v (.int .i64 ds.length)))) :: rs, os, fs⟩) : EL X ops Q (⟨some t, .call { callee := .builtin .len, args := #[x], argTypes := #[T] }, ty, pos, af, gd⟩ :: l) ⟨rs, os, fs⟩ := ES.still (g_len_rowI i rfl hx hi hT) hg rfl hN kk
theorem H_lenrow {t ty : Nat} {pos : String} {af : Array Edge} {gd : Option (Nat × Bool)} {x : Operand} {T e e' z z' y i : Nat} {v : Value} {ds : List D} (hx : ev (⟨rs, os, fs⟩ : St) x = some (.val (.v v))) (hi : os[i]? = some (.row v e' z ds)) (hT : assoc slL T = some (e, z', y)) (hg : guardOf ops ⟨rs, os, fs⟩ ⟨some t, .call { callee := .builtin .len, args := #[x], argTypes := #[T] }, ty, pos, af, gd⟩ = some true) (hoff : offB N (some t) EE = true) (kk : EM N ops TT l ⟨(t, (.val (.v (.int .i64 ds.length)))) :: rs, os, fs⟩ EE) : EM N ops TT (⟨some t, .call { callee := .builtin .len, args := #[x], argTypes := #[T] }, ty, pos, af, gd⟩ :: l) ⟨rs, os, fs⟩ EE := EH.still (g_len_rowI i rfl hx hi hT) hg rfl hoff kk
set_option maxRecDepth 100000 in
theorem P_lit {t ty T n e z y : Nat} {pos : String} {af : Array Edge} {gd : Option (Nat × Bool)} {parts : Array (Nat × Operand)} {ps : List (Nat × D)} {ds : List D} {d0 : D} (hx : evps (⟨rs, os, fs⟩ : St) parts.toList = some ps) (hT : assoc slL T = some (e, z, y)) (hz : assoc zeroL e = some d0) (hin : inRow 0 ps = some ds) (hsz : allB z ps = true) (hn : ps.length = n) (h0 : litB n z = true) (hg : guardOf ops ⟨rs, os, fs⟩ ⟨some t, .buildSlice T n parts, ty, pos, af, gd⟩ = some true) (hN : Nat.blt t N = true) (kk : EL X ops Q l ⟨(t, .val (.sl z ds)) :: rs, os, fs⟩) : EL X ops Q (⟨some t, .buildSlice T n parts, ty, pos, af, gd⟩ :: l) ⟨rs, os, fs⟩ := ES.grow (g_slice_litI (T := T) (n := n) (z := z) (parts := parts) rfl hx hT hz hin hsz hn h0) hg rfl hN kk
set_option maxRecDepth 100000 in
theorem H_lit {t ty T n e z y : Nat} {pos : String} {af : Array Edge} {gd : Option (Nat × Bool)} {parts : Array (Nat × Operand)} {ps : List (Nat × D)} {ds : List D} {d0 : D} (hx : evps (⟨rs, os, fs⟩ : St) parts.toList = some ps) (hT : assoc slL T = some (e, z, y)) (hz : assoc zeroL e = some d0) (hin : inRow 0 ps = some ds) (hsz : allB z ps = true) (hn : ps.length = n) (h0 : litB n z = true) (hg : guardOf ops ⟨rs, os, fs⟩ ⟨some t, .buildSlice T n parts, ty, pos, af, gd⟩ = some true) (hoff : offB N (some t) EE = true) (kk : EM N ops TT l ⟨(t, .val (.sl z ds)) :: rs, os, fs⟩ EE) : EM N ops TT (⟨some t, .buildSlice T n parts, ty, pos, af, gd⟩ :: l) ⟨rs, os, fs⟩ EE := EH.grow (g_slice_litI (T := T) (n := n) (z := z) (parts := parts) rfl hx hT hz hin hsz hn h0) hg rfl hoff kk
theorem P_call {t ty f : Nat} {pos : String} {af : Array Edge} {gd : Option (Nat × Bool)} {args : Array Operand} {tys : Array TypeId} {ds ds' : List D} {r : R} (hF : Fn f ds' (· = r)) (hx : evs (⟨rs, os, fs⟩ : St) args.toList = some ds) (hR : RefineL fs ds ds') (hf : Enters f) (hg : guardOf ops ⟨rs, os, fs⟩ ⟨some t, .call { callee := .value (.func f), args := args, argTypes := tys }, ty, pos, af, gd⟩ = some true) (hN : Nat.blt t N = true) (kk : EL X ops Q l ⟨(t, r) :: rs, os, fs⟩) : EL X ops Q (⟨some t, .call { callee := .value (.func f), args := args, argTypes := tys }, ty, pos, af, gd⟩ :: l) ⟨rs, os, fs⟩ := ES.call hF rfl hx hf hR hg rfl hN kk
theorem H_call {t ty f : Nat} {pos : String} {af : Array Edge} {gd : Option (Nat × Bool)} {args : Array Operand} {tys : Array TypeId} {ds ds' : List D} {r : R} (hF : Fn f ds' (· = r)) (hx : evs (⟨rs, os, fs⟩ : St) args.toList = some ds) (hR : RefineL fs ds ds') (hf : Enters f) (hg : guardOf ops ⟨rs, os, fs⟩ ⟨some t, .call { callee := .value (.func f), args := args, argTypes := tys }, ty, pos, af, gd⟩ = some true) (hoff : offB N (some t) EE = true) (kk : EM N ops TT l ⟨(t, r) :: rs, os, fs⟩ EE) : EM N ops TT (⟨some t, .call { callee := .value (.func f), args := args, argTypes := tys }, ty, pos, af, gd⟩ :: l) ⟨rs, os, fs⟩ EE := EH.call hF rfl hx hf hR hg rfl hoff kk
theorem P_callE {t ty f : Nat} {pos : String} {af : Array Edge} {gd : Option (Nat × Bool)} {args : Array Operand} {tys : Array TypeId} {ds ds' : List D} {Φ : R → Prop} (hF : Fn f ds' Φ) (hx : evs (⟨rs, os, fs⟩ : St) args.toList = some ds) (hR : RefineL fs ds ds') (hf : Enters f) (hg : guardOf ops ⟨rs, os, fs⟩ ⟨some t, .call { callee := .value (.func f), args := args, argTypes := tys }, ty, pos, af, gd⟩ = some true) (hN : Nat.blt t N = true) (kk : ∀ r, Φ r → EL X ops Q l ⟨(t, r) :: rs, os, fs⟩) : EL X ops Q (⟨some t, .call { callee := .value (.func f), args := args, argTypes := tys }, ty, pos, af, gd⟩ :: l) ⟨rs, os, fs⟩ := ES.callE hF rfl hx hf hR hg rfl hN kk
theorem P_skip {t ty : Nat} {op : Op} {pos : String} {af : Array Edge} {gd : Nat × Bool} (hg : guardOf ops ⟨rs, os, fs⟩ ⟨some t, op, ty, pos, af, some gd⟩ = some false) (kk : EL X ops Q l ⟨(t, .any) :: rs, os, fs⟩) : EL X ops Q (⟨some t, op, ty, pos, af, some gd⟩ :: l) ⟨rs, os, fs⟩ := ES.skip hg rfl kk
theorem H_skip {t ty : Nat} {op : Op} {pos : String} {af : Array Edge} {gd : Nat × Bool} (hg : guardOf ops ⟨rs, os, fs⟩ ⟨some t, op, ty, pos, af, some gd⟩ = some false) (hoff : offB N (some t) EE = true) (kk : EM N ops TT l ⟨(t, .any) :: rs, os, fs⟩ EE) : EM N ops TT (⟨some t, op, ty, pos, af, some gd⟩ :: l) ⟨rs, os, fs⟩ EE := EH.skip hg rfl hoff kk
theorem P_alloc {t ty T : Nat} {pos : String} {af : Array Edge} {gd : Option (Nat × Bool)} {d : D} (hz : assoc zeroL T = some d) (hg : guardOf ops ⟨rs, os, fs⟩ ⟨some t, .alloc T, ty, pos, af, gd⟩ = some true) (hN : Nat.blt t N = true) (kk : ∀ g, EL X ops Q l ⟨(t, .val (.v (.pointer (some ⟨g, 0, none⟩)))) :: rs, .var g T d :: os, fs⟩) : EL X ops Q (⟨some t, .alloc T, ty, pos, af, gd⟩ :: l) ⟨rs, os, fs⟩ := ES.alloc rfl hz hg rfl hN kk
theorem H_alloc {t ty T : Nat} {pos : String} {af : Array Edge} {gd : Option (Nat × Bool)} {d : D} (hz : assoc zeroL T = some d) (hg : guardOf ops ⟨rs, os, fs⟩ ⟨some t, .alloc T, ty, pos, af, gd⟩ = some true) (hoff : offB N (some t) EE = true) (kk : EM N ops TT l ⟨(t, .any) :: rs, os, fs⟩ (EE ++ [(t, T, d)])) : EM N ops TT (⟨some t, .alloc T, ty, pos, af, gd⟩ :: l) ⟨rs, os, fs⟩ EE := EH.alloc rfl hz rfl hg hoff kk
theorem P_box {t ty T : Nat} {pos : String} {af : Array Edge} {gd : Option (Nat × Bool)} {x : Operand} {d : D} (hx : ev (⟨rs, os, fs⟩ : St) x = some (.val d)) (hg : guardOf ops ⟨rs, os, fs⟩ ⟨some t, .box T x, ty, pos, af, gd⟩ = some true) (hN : Nat.blt t N = true) (kk : ∀ g, EL X ops Q l ⟨(t, .val (.v (.pointer (some ⟨g, 0, none⟩)))) :: rs, .var g T d :: os, fs⟩) : EL X ops Q (⟨some t, .box T x, ty, pos, af, gd⟩ :: l) ⟨rs, os, fs⟩ := ES.box rfl hx hg rfl hN kk
theorem H_box {t ty T : Nat} {pos : String} {af : Array Edge} {gd : Option (Nat × Bool)} {x : Operand} {d : D} (hx : ev (⟨rs, os, fs⟩ : St) x = some (.val d)) (hg : guardOf ops ⟨rs, os, fs⟩ ⟨some t, .box T x, ty, pos, af, gd⟩ = some true) (hoff : offB N (some t) EE = true) (kk : EM N ops TT l ⟨(t, .any) :: rs, os, fs⟩ (EE ++ [(t, T, d)])) : EM N ops TT (⟨some t, .box T x, ty, pos, af, gd⟩ :: l) ⟨rs, os, fs⟩ EE := EH.box rfl hx rfl hg hoff kk
theorem P_store {T g n ty : Nat} {pos : String} {af : Array Edge} {gd : Option (Nat × Bool)} {x y : Operand} {t0 : TypeId} {d d' d'' : D} {os' : List Obj} (hx : ev (⟨rs, os, fs⟩ : St) x = some (.val (.v (.pointer (some ⟨g, n, none⟩))))) (hset : SetAt os (.var g t0 d) (.var g t0 d'') os') (hy : ev (⟨rs, os, fs⟩ : St) y = some (.val d')) (hT : assoc tyL T = some (d'.size, d'.agg)) (hu : d.upd n d' = some d'') (hg : guardOf ops ⟨rs, os, fs⟩ ⟨none, .store T x y, ty, pos, af, gd⟩ = some true) (kk : EL X ops Q l ⟨rs, os', fs⟩) : EL X ops Q (⟨none, .store T x y, ty, pos, af, gd⟩ :: l) ⟨rs, os, fs⟩ := by
  obtain ⟨i, hi, rfl⟩ := hset.ix
  exact EL.store i rfl rfl hg hx hi hy (tyI hT) hu kk
theorem P_append {t T e z y ty : Nat} {pos : String} {af : Array Edge} {gd : Option (Nat × Bool)} {s x : Operand} {v : Value} {ds es : List D} {os' : Value → List Obj} (hs : ev (⟨rs, os, fs⟩ : St) s = some (.val (.v v))) (hset : SetAtF os (.row v e z ds) (fun v' => .row v' e z (ds ++ es)) os') (hx : ev (⟨rs, os, fs⟩ : St) x = some (.val (.sl z es))) (hT : assoc slL T = some (e, z, y)) (hz : Nat.blt 0 z = true) (hg : guardOf ops ⟨rs, os, fs⟩ ⟨some t, .call { callee := .builtin .append, args := #[s, x], argTypes := #[T, T] }, ty, pos, af, gd⟩ = some true) (hN : Nat.blt t N = true) (hlen : (ds.length + es.length) * y ≤ 140737488355328 ∧ ds.length + es.length ≤ 9223372036854775807) (kk : ∀ v', EL X ops Q l ⟨(t, .val (.v v')) :: rs, os' v', fs⟩) : EL X ops Q (⟨some t, .call { callee := .builtin .append, args := #[s, x], argTypes := #[T, T] }, ty, pos, af, gd⟩ :: l) ⟨rs, os, fs⟩ := by
  obtain ⟨i, hi, hl'⟩ := hset.ix
  exact ES.append (v := v) (ds := ds) i rfl hT hz hs hi hx hg rfl hN hlen fun v' => by rw [← hl' v']; exact kk v'
end
end E
end Go.Proofs.Ytekacgocjplfjaa
/-
  The abstract machine: ends whose results read otherwise; arrays out of slices; forgetting.
  Conditions: none.
-/
namespace Go.Proofs.Ytekacgocjplfjaa
set_option linter.unusedVariables false
open Go.RowKit Mono Rlp
namespace E
section
variable {N : Nat} {X : Cx N} {S S' : St} {ops : Array Oper} {o : Oper} {Q : Exit → Act → World → Prop} {l : List Oper} {T : St → List Fr → Prop} {EE : List Fr} {rs : List (Tmp × R)} {os : List Obj} {fs : List (Value × D)} {fn : Func} {Φ : R → Prop} {w : World}
theorem Refine1.readV {ok : Nat → Prop} {F : List (Value × D)} (hF : ∀ f ∈ F, Reads ok w f.2 [f.1]) {d d' : D} {x : Value} (h : RefineL F [d] [d']) (hr : ReadV ok w d x) : ReadV ok w d' x := by
  have := RefineL.readVs hF [d] [d'] [x] h ⟨x, [], rfl, hr, rfl⟩
  obtain ⟨y, rest, e, h1, _⟩ := this
  cases e
  exact h1
theorem RefineL.cons {F : List (Value × D)} {d d' : D} {ds ds' : List D} (h : RefineL F (d :: ds) (d' :: ds')) : RefineL F [d] [d'] ∧ RefineL F ds ds' := by
  rw [RefineL] at h
  obtain ⟨_, _, e, h1, h2⟩ := h
  cases e
  refine ⟨?_, h2⟩
  rw [RefineL]
  exact ⟨_, _, rfl, h1, by rw [RefineL]⟩
theorem EK.ret1r {t : Tmp} {d d' : D} (hres : fn.results = #[.tmp t]) (hl : look S.regs t = some (.val d)) (hR : RefineL S.facts [d] [d']) (hΦ : Φ (.val d')) : EK X (bodyPost Try.prog fn (Out X Φ) .ret) S := by
  constructor
  intro a w ha
  exact bodyPost_ret (results_tmp hres a.tmps Try.prog w) ha.defers ⟨ha.mem.gr, _, _, rfl, hΦ, ReadV.mono (fun b hb => ⟨hb.1, hb.2.1⟩) (fun _ _ => rfl) (Refine1.readV ha.mem.fact hR (ha.regs t _ hl))⟩
theorem EK.ret2r {t u : Tmp} {d e d' e' : D} (hres : fn.results = #[.tmp t, .tmp u]) (hl : look S.regs t = some (.val d)) (hk : look S.regs u = some (.val e)) (hR : RefineL S.facts [d, e] [d', e']) (hΦ : Φ (.tpl [d', e'])) : EK X (bodyPost Try.prog fn (Out X Φ) .ret) S := by
  constructor
  intro a w ha
  obtain ⟨h1, h2⟩ := hR.cons
  exact bodyPost_ret (results_tmp2 hres a.tmps Try.prog w) ha.defers ⟨ha.mem.gr, _, _, rfl, hΦ, [a.tmps.getD t undef, a.tmps.getD u undef], rfl, _, _, rfl, ReadV.mono (fun b hb => ⟨hb.1, hb.2.1⟩) (fun _ _ => rfl) (Refine1.readV ha.mem.fact h1 (ha.regs t _ hl)), _, _, rfl, ReadV.mono (fun b hb => ⟨hb.1, hb.2.1⟩) (fun _ _ => rfl) (Refine1.readV ha.mem.fact h2 (ha.regs u _ hk)), rfl⟩
theorem EK.retc1r {p : Tmp} {g ty : Nat} {t : TypeId} {d d' : D} (i : Nat) (hres : fn.results = #[.cell p ty]) (hl : look S.regs p = some (.val (.v (.pointer (some ⟨g, 0, none⟩))))) (hi : S.objs[i]? = some (.var g t d)) (hT : assoc tyL ty = some (d.size, d.agg)) (hR : RefineL S.facts [d] [d']) (hΦ : Φ (.val d')) : EK X (bodyPost Try.prog fn (Out X Φ) .ret) S := by
  constructor
  intro a w ha
  obtain ⟨x, h1, h2⟩ := run_cell ha.mem hi (tyI hT)
  have hp := (readV_v.1 (ha.regs p _ hl)).2
  have hp' : a.tmps[p]?.getD undef = .pointer (some ⟨g, 0, none⟩) := by simpa using hp
  refine bodyPost_ret (v := x) ?_ ha.defers ⟨ha.mem.gr, _, _, rfl, hΦ, ReadV.mono (fun b hb => ⟨hb.1, hb.2.1⟩) (fun _ _ => rfl) (Refine1.readV ha.mem.fact hR h2)⟩
  simp [results, hres, hp', asAddr, h1]
theorem EK.retc2r {p u : Tmp} {g ty : Nat} {t : TypeId} {d e d' e' : D} (i : Nat) (hres : fn.results = #[.cell p ty, .tmp u]) (hl : look S.regs p = some (.val (.v (.pointer (some ⟨g, 0, none⟩))))) (hi : S.objs[i]? = some (.var g t d)) (hT : assoc tyL ty = some (d.size, d.agg)) (hk : look S.regs u = some (.val e)) (hR : RefineL S.facts [d, e] [d', e']) (hΦ : Φ (.tpl [d', e'])) : EK X (bodyPost Try.prog fn (Out X Φ) .ret) S := by
  constructor
  intro a w ha
  obtain ⟨x, h1, h2⟩ := run_cell ha.mem hi (tyI hT)
  obtain ⟨hR1, hR2⟩ := hR.cons
  have hp := (readV_v.1 (ha.regs p _ hl)).2
  have hp' : a.tmps[p]?.getD undef = .pointer (some ⟨g, 0, none⟩) := by simpa using hp
  refine bodyPost_ret (v := .tuple #[x, a.tmps.getD u undef]) ?_ ha.defers ⟨ha.mem.gr, _, _, rfl, hΦ, [x, a.tmps.getD u undef], rfl, _, _, rfl, ReadV.mono (fun b hb => ⟨hb.1, hb.2.1⟩) (fun _ _ => rfl) (Refine1.readV ha.mem.fact hR1 h2), _, _, rfl, ReadV.mono (fun b hb => ⟨hb.1, hb.2.1⟩) (fun _ _ => rfl) (Refine1.readV ha.mem.fact hR2 (ha.regs u _ hk)), rfl⟩
  simp [results, hres, hp', asAddr, h1]
/-- '[20]byte(b)': a pointer to the array in the slice. -/
theorem g_s2a {x : Operand} {T n e z : Nat} {b : List UInt8} (ho : o.op = .sliceToArrayPointer T x) (hx : ev S x = some (.val (.bs b))) (hT : assoc arL T = some (n, e, z)) (hn : b.length = n) (h0 : Nat.blt 0 n = true) : Still ops S o (.val (.pd (.arr n b))) := fun base ok a w ha => by
  obtain ⟨A, c, h1, h2, h3, h4⟩ := bs_ex (ha.ev hx fun t e => looks_of e (by rw [ho]; simp [Op.operands]))
  have h0' : 0 < n := by simpa using h0
  obtain ⟨bl, m, rfl, hb, hc⟩ := h4 (fun e => by have := congrArg List.length e; rw [bvs_length] at this; simp at this; rw [this] at hn; simp at hn; omega)
  refine ⟨.pointer (some ⟨bl, m, none⟩), ?_, (readV_one rfl).2 (by rw [Reads]; exact ⟨bl, m, bvs b, rfl, hb, hc, by rw [Reads]; exact ⟨hn, rfl⟩⟩)⟩
  unfold execOp
  simp only [ho, h1, Sem.run_bind]
  rw [run_arrayAt _ _ _ n (some ⟨bl, m, none⟩) b.length c (arI' hT).und (by omega)]
  simp
theorem P_s2a {t ty : Nat} {pos : String} {af : Array Edge} {gd : Option (Nat × Bool)} {x : Operand} {T n e z : Nat} {b : List UInt8} (hx : ev ⟨rs, os, fs⟩ x = some (.val (.bs b))) (hT : assoc arL T = some (n, e, z)) (hn : b.length = n) (h0 : Nat.blt 0 n = true) (hg : guardOf ops ⟨rs, os, fs⟩ ⟨some t, .sliceToArrayPointer T x, ty, pos, af, gd⟩ = some true) (hN : Nat.blt t N = true) (kk : EL X ops Q l ⟨(t, .val (.pd (.arr n b))) :: rs, os, fs⟩) : EL X ops Q (⟨some t, .sliceToArrayPointer T x, ty, pos, af, gd⟩ :: l) ⟨rs, os, fs⟩ := ES.still (g_s2a rfl hx hT hn h0) hg rfl hN kk
theorem H_s2a {t ty : Nat} {pos : String} {af : Array Edge} {gd : Option (Nat × Bool)} {x : Operand} {T' n e z : Nat} {b : List UInt8} (hx : ev ⟨rs, os, fs⟩ x = some (.val (.bs b))) (hT : assoc arL T' = some (n, e, z)) (hn : b.length = n) (h0 : Nat.blt 0 n = true) (hg : guardOf ops ⟨rs, os, fs⟩ ⟨some t, .sliceToArrayPointer T' x, ty, pos, af, gd⟩ = some true) (hoff : offB N (some t) EE = true) (kk : EM N ops T l ⟨(t, .val (.pd (.arr n b))) :: rs, os, fs⟩ EE) : EM N ops T (⟨some t, .sliceToArrayPointer T' x, ty, pos, af, gd⟩ :: l) ⟨rs, os, fs⟩ EE := EH.still (g_s2a rfl hx hT hn h0) hg rfl hoff kk
theorem RL.nil {F : List (Value × D)} : RefineL F [] [] := by rw [RefineL]
theorem RL.cons {F : List (Value × D)} {d d' : D} {ds ds' : List D} (h : Refine F d d') (k : RefineL F ds ds') : RefineL F (d :: ds) (d' :: ds') := by
  rw [RefineL]
  exact ⟨d', ds', rfl, h, k⟩
theorem Rf.same {F : List (Value × D)} {d : D} : Refine F d d := by
  have := RefineL.refl F [d]
  rw [RefineL] at this
  obtain ⟨_, _, e, h, _⟩ := this
  cases e
  exact h
theorem Rf.bs0 {F : List (Value × D)} : Refine F (.v (.slice none 0 0)) (.bs []) := by
  rw [Refine]
  exact .inr (.inr ⟨rfl, .inl rfl⟩)
theorem Rf.sl0 {F : List (Value × D)} {z : Nat} : Refine F (.v (.slice none 0 0)) (.sl z []) := by
  rw [Refine]
  exact .inr (.inr ⟨rfl, .inr ⟨z, rfl⟩⟩)
theorem Rf.fact {F : List (Value × D)} {x : Value} {d : D} (h : (x, d) ∈ F) (hd : d.agg = false) : Refine F (.v x) d := by
  rw [Refine]
  exact .inr (.inl ⟨h, hd⟩)
theorem Rf.tup {F : List (Value × D)} {ds ds' : List D} (h : RefineL F ds ds') : Refine F (.tup ds) (.tup ds') := by
  rw [Refine]
  exact ⟨ds', rfl, h⟩
/-- What is kept: these slots, these pieces (in their order). -/
theorem Le.keep {rs' : List (Tmp × R)} {os' : List Obj} {fs' : List (Value × D)} (hr : Sub rs rs') (ho : os'.Sublist os) (hf : ∀ f ∈ fs', f ∈ fs) : Le X ⟨rs, os, fs⟩ ⟨rs', os', fs'⟩ := Le.less ho hf hr
end
end E
end Go.Proofs.Ytekacgocjplfjaa
