/-
  Merged (wip/tools/merge.py): E11, E12, E13, New, E14, E15.
  Conditions: none.
-/
import Derived.Test.YtdhicdnmgmkpkaaZS7
import Derived.Test.YtdhicdnmgmkpkaaZS2
import Derived.Laws.IdiomCopy
/-
  The abstract machine: ends whose results read otherwise; arrays out of slices; forgetting.
  Conditions: none.
-/
namespace Go.Proofs.Ytdhicdnmgmkpkaa
set_option linter.unusedVariables false
open Go.RowKit Mono Rlp
namespace E
section
variable {N : Nat} {X : Cx N} {S S' : St} {ops : Array Oper} {o : Oper} {Q : Exit → Act → World → Prop} {l : List Oper} {T : St → List Fr → Prop} {EE : List Fr} {rs : List (Tmp × R)} {os : List Obj} {fs : List (Value × D)} {fn : Func} {Φ : R → Prop} {w : World}
theorem Refine1.readV {ok : Nat → Prop} {F : List (Value × D)} (hF : ∀ f ∈ F, Reads ok w f.2 [f.1]) {d d' : D} {x : Value} (h : RefineL F [d] [d']) (hr : ReadV ok w d x) : ReadV ok w d' x := by
  have := RefineL.readVs hF [d] [d'] [x] h ⟨x, [], rfl, hr, rfl⟩
  obtain ⟨y, rest, e, h1, _⟩ := this
  cases e
  exact h1
theorem RefineL.cons {F : List (Value × D)} {d d' : D} {ds ds' : List D} (h : RefineL F (d :: ds) (d' :: ds')) : RefineL F [d] [d'] ∧ RefineL F ds ds' := by
  rw [RefineL] at h
  obtain ⟨_, _, e, h1, h2⟩ := h
  cases e
  refine ⟨?_, h2⟩
  rw [RefineL]
  exact ⟨_, _, rfl, h1, by rw [RefineL]⟩
theorem EK.ret1r {t : Tmp} {d d' : D} (hres : fn.results = #[.tmp t]) (hl : look S.regs t = some (.val d)) (hR : RefineL S.facts [d] [d']) (hΦ : Φ (.val d')) : EK X (bodyPost Try.prog fn (Out X Φ) .ret) S := by
  constructor
  intro a w ha
  exact bodyPost_ret (results_tmp hres a.tmps Try.prog w) ha.defers ⟨ha.mem.gr, _, _, rfl, hΦ, ReadV.mono (fun b hb => ⟨hb.1, hb.2.1⟩) (fun _ _ => rfl) (Refine1.readV ha.mem.fact hR (ha.regs t _ hl))⟩
theorem EK.ret2r {t u : Tmp} {d e d' e' : D} (hres : fn.results = #[.tmp t, .tmp u]) (hl : look S.regs t = some (.val d)) (hk : look S.regs u = some (.val e)) (hR : RefineL S.facts [d, e] [d', e']) (hΦ : Φ (.tpl [d', e'])) : EK X (bodyPost Try.prog fn (Out X Φ) .ret) S := by
  constructor
  intro a w ha
  obtain ⟨h1, h2⟩ := hR.cons
  exact bodyPost_ret (results_tmp2 hres a.tmps Try.prog w) ha.defers ⟨ha.mem.gr, _, _, rfl, hΦ, [a.tmps.getD t undef, a.tmps.getD u undef], rfl, _, _, rfl, ReadV.mono (fun b hb => ⟨hb.1, hb.2.1⟩) (fun _ _ => rfl) (Refine1.readV ha.mem.fact h1 (ha.regs t _ hl)), _, _, rfl, ReadV.mono (fun b hb => ⟨hb.1, hb.2.1⟩) (fun _ _ => rfl) (Refine1.readV ha.mem.fact h2 (ha.regs u _ hk)), rfl⟩
theorem EK.retc1r {p : Tmp} {g ty : Nat} {t : TypeId} {d d' : D} (i : Nat) (hres : fn.results = #[.cell p ty]) (hl : look S.regs p = some (.val (.v (.pointer (some ⟨g, 0, none⟩))))) (hi : S.objs[i]? = some (.var g t d)) (hT : assoc tyL ty = some (d.size, d.agg)) (hR : RefineL S.facts [d] [d']) (hΦ : Φ (.val d')) : EK X (bodyPost Try.prog fn (Out X Φ) .ret) S := by
  constructor
  intro a w ha
  obtain ⟨x, h1, h2⟩ := run_cell ha.mem hi (tyI hT)
  have hp := (readV_v.1 (ha.regs p _ hl)).2
  have hp' : a.tmps[p]?.getD undef = .pointer (some ⟨g, 0, none⟩) := by simpa using hp
  refine bodyPost_ret (v := x) ?_ ha.defers ⟨ha.mem.gr, _, _, rfl, hΦ, ReadV.mono (fun b hb => ⟨hb.1, hb.2.1⟩) (fun _ _ => rfl) (Refine1.readV ha.mem.fact hR h2)⟩
  simp [results, hres, hp', asAddr, h1]
theorem EK.retc2r {p u : Tmp} {g ty : Nat} {t : TypeId} {d e d' e' : D} (i : Nat) (hres : fn.results = #[.cell p ty, .tmp u]) (hl : look S.regs p = some (.val (.v (.pointer (some ⟨g, 0, none⟩))))) (hi : S.objs[i]? = some (.var g t d)) (hT : assoc tyL ty = some (d.size, d.agg)) (hk : look S.regs u = some (.val e)) (hR : RefineL S.facts [d, e] [d', e']) (hΦ : Φ (.tpl [d', e'])) : EK X (bodyPost Try.prog fn (Out X Φ) .ret) S := by
  constructor
  intro a w ha
  obtain ⟨x, h1, h2⟩ := run_cell ha.mem hi (tyI hT)
  obtain ⟨hR1, hR2⟩ := hR.cons
  have hp := (readV_v.1 (ha.regs p _ hl)).2
  have hp' : a.tmps[p]?.getD undef = .pointer (some ⟨g, 0, none⟩) := by simpa using hp
  refine bodyPost_ret (v := .tuple #[x, a.tmps.getD u undef]) ?_ ha.defers ⟨ha.mem.gr, _, _, rfl, hΦ, [x, a.tmps.getD u undef], rfl, _, _, rfl, ReadV.mono (fun b hb => ⟨hb.1, hb.2.1⟩) (fun _ _ => rfl) (Refine1.readV ha.mem.fact hR1 h2), _, _, rfl, ReadV.mono (fun b hb => ⟨hb.1, hb.2.1⟩) (fun _ _ => rfl) (Refine1.readV ha.mem.fact hR2 (ha.regs u _ hk)), rfl⟩
  simp [results, hres, hp', asAddr, h1]
theorem g_s2a {x : Operand} {T n e z : Nat} {b : List UInt8} (ho : o.op = .sliceToArrayPointer T x) (hx : ev S x = some (.val (.bs b))) (hT : assoc arL T = some (n, e, z)) (hn : b.length = n) (h0 : Nat.blt 0 n = true) : Still ops S o (.val (.pd (.arr n b))) := fun base ok a w ha => by
  obtain ⟨A, c, h1, h2, h3, h4⟩ := bs_ex (ha.ev hx fun t e => looks_of e (by rw [ho]; simp [Op.operands]))
  have h0' : 0 < n := by simpa using h0
  obtain ⟨bl, m, rfl, hb, hc⟩ := h4 (fun e => by have := congrArg List.length e; rw [bvs_length] at this; simp at this; rw [this] at hn; simp at hn; omega)
  refine ⟨.pointer (some ⟨bl, m, none⟩), ?_, (readV_one rfl).2 (by rw [Reads]; exact ⟨bl, m, bvs b, rfl, hb, hc, by rw [Reads]; exact ⟨hn, rfl⟩⟩)⟩
  unfold execOp
  simp only [ho, h1, Sem.run_bind]
  rw [run_arrayAt _ _ _ n (some ⟨bl, m, none⟩) b.length c (arI' hT).und (by omega)]
  simp
theorem P_s2a {t ty : Nat} {pos : String} {af : Array Edge} {gd : Option (Nat × Bool)} {x : Operand} {T n e z : Nat} {b : List UInt8} (hx : ev ⟨rs, os, fs⟩ x = some (.val (.bs b))) (hT : assoc arL T = some (n, e, z)) (hn : b.length = n) (h0 : Nat.blt 0 n = true) (hg : guardOf ops ⟨rs, os, fs⟩ ⟨some t, .sliceToArrayPointer T x, ty, pos, af, gd⟩ = some true) (hN : Nat.blt t N = true) (kk : EL X ops Q l ⟨(t, .val (.pd (.arr n b))) :: rs, os, fs⟩) : EL X ops Q (⟨some t, .sliceToArrayPointer T x, ty, pos, af, gd⟩ :: l) ⟨rs, os, fs⟩ := ES.still (g_s2a rfl hx hT hn h0) hg rfl hN kk
theorem H_s2a {t ty : Nat} {pos : String} {af : Array Edge} {gd : Option (Nat × Bool)} {x : Operand} {T' n e z : Nat} {b : List UInt8} (hx : ev ⟨rs, os, fs⟩ x = some (.val (.bs b))) (hT : assoc arL T' = some (n, e, z)) (hn : b.length = n) (h0 : Nat.blt 0 n = true) (hg : guardOf ops ⟨rs, os, fs⟩ ⟨some t, .sliceToArrayPointer T' x, ty, pos, af, gd⟩ = some true) (hoff : offB N (some t) EE = true) (kk : EM N ops T l ⟨(t, .val (.pd (.arr n b))) :: rs, os, fs⟩ EE) : EM N ops T (⟨some t, .sliceToArrayPointer T' x, ty, pos, af, gd⟩ :: l) ⟨rs, os, fs⟩ EE := EH.still (g_s2a rfl hx hT hn h0) hg rfl hoff kk
theorem RL.nil {F : List (Value × D)} : RefineL F [] [] := by rw [RefineL]
theorem RL.cons {F : List (Value × D)} {d d' : D} {ds ds' : List D} (h : Refine F d d') (k : RefineL F ds ds') : RefineL F (d :: ds) (d' :: ds') := by
  rw [RefineL]
  exact ⟨d', ds', rfl, h, k⟩
theorem Rf.same {F : List (Value × D)} {d : D} : Refine F d d := by
  have := RefineL.refl F [d]
  rw [RefineL] at this
  obtain ⟨_, _, e, h, _⟩ := this
  cases e
  exact h
theorem Rf.bs0 {F : List (Value × D)} : Refine F (.v (.slice none 0 0)) (.bs []) := by
  rw [Refine]
  exact .inr (.inr ⟨rfl, .inl rfl⟩)
theorem Rf.sl0 {F : List (Value × D)} {z : Nat} : Refine F (.v (.slice none 0 0)) (.sl z []) := by
  rw [Refine]
  exact .inr (.inr ⟨rfl, .inr ⟨z, rfl⟩⟩)
theorem Rf.fact {F : List (Value × D)} {x : Value} {d : D} (h : (x, d) ∈ F) (hd : d.agg = false) : Refine F (.v x) d := by
  rw [Refine]
  exact .inr (.inl ⟨h, hd⟩)
theorem Rf.tup {F : List (Value × D)} {ds ds' : List D} (h : RefineL F ds ds') : Refine F (.tup ds) (.tup ds') := by
  rw [Refine]
  exact ⟨ds', rfl, h⟩
theorem Le.keep {rs' : List (Tmp × R)} {os' : List Obj} {fs' : List (Value × D)} (hr : Sub rs rs') (ho : os'.Sublist os) (hf : ∀ f ∈ fs', f ∈ fs) : Le X ⟨rs, os, fs⟩ ⟨rs', os', fs'⟩ := Le.less ho hf hr
end
end E
end Go.Proofs.Ytdhicdnmgmkpkaa
/-
  The abstract machine at the top: all that is below may be read; functions whose result may lie anywhere; a variable that is written no more.
  Conditions: none.
-/
namespace Go.Proofs.Ytdhicdnmgmkpkaa
set_option linter.unusedVariables false
open Go.RowKit Mono Rlp
namespace E
structure FnA (f : FuncId) (ds : List D) (Φ : R → Prop) : Prop where
  go : ∀ (w : World) (xs : List Value), ReadVs (fun b => b < w.heap.size) w ds xs →
    Calls Try.prog f xs.toArray w fun e w' => Gr w w' ∧ ∃ v r, e = .returned v ∧ Φ r ∧ ReadR (fun b => b < w'.heap.size) w' r v
theorem Fn.all {f : FuncId} {ds : List D} {Φ : R → Prop} (h : Fn f ds Φ) : FnA f ds Φ := ⟨fun w xs hr => (h.go _ w xs (fun _ hb => hb) hr).mono fun e w' ⟨h1, v, r, h2, h3, h4⟩ => ⟨h1, v, r, h2, h3, h4.mono (fun b hb => hb.2) fun _ _ => rfl⟩⟩
theorem FnA.mono {f : FuncId} {ds : List D} {Φ Ψ : R → Prop} (h : FnA f ds Φ) (k : ∀ r, Φ r → Ψ r) : FnA f ds Ψ := ⟨fun w xs hr => (h.go w xs hr).mono fun e w' ⟨h1, v, r, h2, h3, h4⟩ => ⟨h1, v, r, h2, k r h3, h4⟩⟩
def All {N : Nat} (X : Cx N) : Prop := ∀ b, b < X.w0.heap.size → X.ok0 b
section
variable {N : Nat} {X : Cx N} {S : St} {ops : Array Oper} {o : Oper} {Q : Exit → Act → World → Prop} {l : List Oper} {rs : List (Tmp × R)} {os : List Obj} {fs : List (Value × D)}
theorem FnA.walk {f : FuncId} {fn : Func} {c : Code} {ds : List D} {Φ : R → Prop} (N : Nat) (hf : Try.prog.funcs[f]? = some fn) (hb : fn.body = some c) (hN : fn.ntmps = N) (hl : ds.length ≤ N)
    (h : ∀ X : Cx N, All X → EC X (bodyPost Try.prog fn (Out X Φ)) c ⟨regsOf 0 ds, [], []⟩) : FnA f ds Φ := by
  constructor
  intro w xs hr
  have hxl := readVs_len ds xs hr
  refine Calls.mono (calls_of_wp hf hb ((h ⟨w, fun b => b < w.heap.size, fun _ => False, fun _ hb => hb⟩ fun _ hb => hb).go _ w ⟨⟨.refl w, List.Pairwise.nil, (fun o ho => by cases ho), (fun f hf => by cases hf)⟩, fun t r ht => ?_, ?_, rfl⟩)) ?_
  · refine regs_read ds xs 0 _ (ReadVs.mono (fun b hb => ⟨.inl hb, hb, (fun o ho => by cases ho)⟩) (fun _ _ => rfl) ds xs hr) (fun j x hx => ?_) t r ht
    have hj := (List.getElem?_eq_some_iff.1 hx).1
    have : (xs.toArray ++ Array.replicate (fn.ntmps - xs.toArray.size) undef)[j]? = some x := by
      rw [Array.getElem?_append_left (by simpa using hj)]
      simpa using hx
    rw [Nat.zero_add, Array.getD_eq_getD_getElem?, this]
    rfl
  · simp [hN]
    omega
  · rintro e w' ⟨h1, v, r, h2, h3, h4⟩
    exact ⟨h1.gr (fun _ h => h), v, r, h2, h3, h4.mono (fun b hb => hb.2) fun _ _ => rfl⟩
theorem P_callA {t ty f : Nat} {pos : String} {af : Array Edge} {gd : Option (Nat × Bool)} {args : Array Operand} {tys : Array TypeId} {ds ds' : List D} {Φ : R → Prop} (hX : All X) (hF : FnA f ds' Φ) (hx : evs (⟨rs, os, fs⟩ : St) args.toList = some ds) (hR : RefineL fs ds ds') (hf : Enters f) (hos : os = []) (hg : guardOf ops ⟨rs, os, fs⟩ ⟨some t, .call { callee := .value (.func f), args := args, argTypes := tys }, ty, pos, af, gd⟩ = some true) (hN : Nat.blt t N = true) (kk : ∀ r, Φ r → EL X ops Q l ⟨(t, r) :: rs, os, fs⟩) : EL X ops Q (⟨some t, .call { callee := .value (.func f), args := args, argTypes := tys }, ty, pos, af, gd⟩ :: l) ⟨rs, os, fs⟩ := by
  subst hos
  constructor
  intro a w ha
  have hz : ∀ b, b < w.heap.size → X.ok [] w b := fun b hb => ⟨by
    by_cases h : b < X.w0.heap.size
    · exact .inl (hX b h)
    · exact .inr (.inr (by omega)), hb, (fun o ho => by cases ho)⟩
  unfold wpList
  rw [if_pos (wanted_of ha hg)]
  refine .inl ?_
  have hk := ha.kn fun _ => True
  have hr := hk.evs _ _ hx fun _ _ => trivial
  have hrun : (execOp a.eval ⟨some t, .call { callee := .value (.func f), args := args, argTypes := tys }, ty, pos, af, gd⟩).run Try.prog w = .ok (.enter f (args.map a.eval)) w := by
    unfold execOp
    simp [resolve, Act.eval, Deferred.ofValue, invoke, hf (args.map a.eval) w]
  unfold Oper.wp
  rw [hrun]
  have hr1 := RefineL.readVs hk.facts ds ds' _ hR hr
  have hr' : ReadVs (fun b => b < w.heap.size) w ds' (args.toList.map a.eval) := ReadVs.mono (fun b (hb : X.ok [] w b) => hb.2.1) (fun _ _ => rfl) _ _ hr1
  have hc := hF.go w _ hr'
  have he : (args.toList.map a.eval).toArray = args.map a.eval := by
    apply Array.ext'
    simp
  rw [he] at hc
  simp only [Oper.upon]
  refine hc.mono ?_
  rintro e w' ⟨hgr, v, r, rfl, hr1, hv⟩
  exact (kk r hr1).go _ _ (At.put (d := some t) (ha.gr hgr) (fun u hu => by cases hu; simpa using hN) (hv.mono (fun b hb => ⟨by
    by_cases h : b < X.w0.heap.size
    · exact .inl (hX b h)
    · exact .inr (.inr (by omega)), hb, (fun o ho => by cases ho)⟩) fun _ _ => rfl))
theorem Le.pin {p : Tmp} {g : Nat} {t : TypeId} {d : D} {pre post : List Obj} (hl : look S.regs p = some (.val (.v (.pointer (some ⟨g, 0, none⟩))))) (ho : S.objs = pre ++ .var g t d :: post) : Le X S ⟨(p, .val (.pd d)) :: S.regs, pre ++ post, S.facts⟩ := by
  intro a w h
  have hm := h.mem
  rw [ho] at hm
  have hsub : (pre ++ post).Sublist S.objs := by rw [ho]; exact List.Sublist.append (List.Sublist.refl _) (List.sublist_cons_self _ _)
  have hl' : At X ⟨S.regs, pre ++ post, S.facts⟩ a w := ⟨h.mem.less hsub (fun _ hf => hf), fun t r ht => ReadR.mono (fun b hb => ⟨hb.1, hb.2.1, fun o hm => hb.2.2 o (hsub.subset hm)⟩) (fun _ _ => rfl) (h.regs t r ht), h.size, h.defers⟩
  refine ⟨hl'.mem, fun u r hu => ?_, hl'.size, hl'.defers⟩
  rw [look] at hu
  split at hu
  · rename_i e
    cases hu
    subst e
    obtain ⟨h1, cs, h2, h3⟩ := hm.at_ (.var g t d) (by simp)
    have hp := (readV_v.1 (h.regs _ _ hl)).2
    rw [hp]
    refine (readV_one rfl).2 ?_
    rw [Reads]
    refine ⟨g, 0, cs, rfl, ⟨.inr h1, lt_of_some h2, fun q hq => ?_⟩, range_of_row h2, Reads.mono (fun b hb => ⟨hb.1, hb.2.1, fun o hm => hb.2.2 o (by
      rcases List.mem_append.1 hm with hm | hm
      · simp [hm]
      · simp [hm])⟩) (fun _ _ => rfl) _ _ h3⟩
    have hap := hm.apart
    rcases List.mem_append.1 hq with hq | hq
    · exact fun e => (List.pairwise_append.1 hap).2.2 q hq _ (List.mem_cons_self) g e rfl
    · exact (List.pairwise_cons.1 (List.pairwise_append.1 hap).2.1).1 q hq g rfl
  · exact hl'.regs u r hu
end
end E
end Go.Proofs.Ytdhicdnmgmkpkaa
/-
  The abstract machine at regions that draw their order and write, meanwhile, variables of the call's own.
  Conditions: none.
-/
namespace Go.Proofs.Ytdhicdnmgmkpkaa
set_option linter.unusedVariables false
open Go.RowKit Mono Rlp
namespace E
def putOf : Inf → List (Obj × Obj)
  | .put p q => [(p, q)]
  | _ => []
def putsOf : List Inf → List (Obj × Obj)
  | [] => []
  | i :: l => putOf i ++ putsOf l
def EMS (N : Nat) (ops : Array Oper) (T : St → List Fr → Prop) : List Oper → List (Obj × Obj) → St → List Fr → Prop
  | [], ps, S, E => ps = [] ∧ T S E
  | o :: l, ps, S, E => ∃ (inf : Inf) (ps' : List (Obj × Obj)), ps = putOf inf ++ ps' ∧ offB N o.dst E = true ∧ ((∃ T d, inf = .new T d) → o.dst ≠ none) ∧ OkI N ops S o inf ∧ EMS N ops T l ps' (S.put o.dst inf.reg) (nextE E o.dst inf)
section
variable {N : Nat} {X : Cx N} {S S' : St} {a : Act} {w w' : World} {ops : Array Oper} {o : Oper} {Q : Exit → Act → World → Prop} {l : List Oper} {T : St → List Fr → Prop} {E : List Fr} {p q : Obj} {ps : List (Obj × Obj)}
theorem EMS.nil (h : T S E) : EMS N ops T [] [] S E := ⟨rfl, h⟩
theorem EMS.put (hg : guardOf ops S o = some true) (hd : o.dst = none) (hP : Puts ops S o p q) (k : EMS N ops T l ps S E) : EMS N ops T (o :: l) ((p, q) :: ps) S E :=
  ⟨.put p q, ps, rfl, by rw [hd]; rfl, (fun ⟨_, _, e⟩ => by cases e), ⟨hg, hd, hP⟩, by rw [hd]; exact k⟩
theorem EMS.seg {l2 : List Oper} : ∀ (l1 : List Oper) (S : St) (E : List Fr), EM N ops (fun S' E' => EMS N ops T l2 ps S' E') l1 S E → EMS N ops T (l1 ++ l2) ps S E
  | [], S, E, h => h
  | o :: l1, S, E, ⟨inf, h0, h1, h2, h3, h4⟩ => ⟨inf, ps, (by cases inf with
    | put _ _ => cases h0
    | _ => rfl), h1, h2, h3, EMS.seg l1 _ _ h4⟩
theorem EMS.cut (k : Nat) (h : EM N ops (fun S' E' => EMS N ops T (l.drop k) ps S' E') (l.take k) S E) : EMS N ops T l ps S E := by
  have := EMS.seg _ _ _ h
  rwa [List.take_append_drop] at this
theorem ems_list : ∀ (l : List Oper) (ps : List (Obj × Obj)) (S : St) (E : List Fr), EMS N ops T l ps S E → ∃ infs : List Inf, infs.length = l.length ∧
    (∀ k o i, l[k]? = some o → infs[k]? = some i → OkI N ops (stAt S l infs k) o i ∧ (∀ t, o.dst = some t → t < N ∧ (∀ x ∈ E, x.1 ≠ t) ∧ ∀ j oj T d, j < k → l[j]? = some oj → infs[j]? = some (.new T d) → oj.dst ≠ some t) ∧ ((∃ T d, i = .new T d) → o.dst ≠ none)) ∧
    T (stAt S l infs l.length) (frAt E l infs) ∧ putsOf infs = ps
  | [], ps, S, E, h => ⟨[], rfl, (fun k o i h => by simp at h), h.2, h.1.symm⟩
  | o :: l, ps, S, E, h => by
    obtain ⟨inf, ps', hps, h1, h1', h2, h3⟩ := h
    obtain ⟨infs, h4, h5, h6, h7⟩ := ems_list l _ _ _ h3
    have hoff : ∀ t, o.dst = some t → t < N ∧ ∀ x ∈ E, x.1 ≠ t := fun t ht => by
      rw [ht] at h1
      simp only [offB, Bool.and_eq_true, decide_eq_true_eq] at h1
      exact ⟨h1.1, fun x hx => by simpa using List.all_eq_true.1 h1.2 x hx⟩
    refine ⟨inf :: infs, by simp [h4], fun k o' i hk hi => ?_, h6, by rw [putsOf, h7, hps]⟩
    cases k with
    | zero =>
      cases hk
      cases hi
      exact ⟨h2, fun t ht => ⟨(hoff t ht).1, (hoff t ht).2, fun j _ _ _ hj => by omega⟩, h1'⟩
    | succ k =>
      obtain ⟨g1, g2, g3⟩ := h5 k o' i (by simpa using hk) (by simpa using hi)
      refine ⟨g1, fun t ht => ⟨(g2 t ht).1, fun x hx => (g2 t ht).2.1 x ?_, fun j oj T d hj hoj hij => ?_⟩, g3⟩
      · unfold nextE
        split
        · split
          · exact List.mem_append_left _ hx
          · exact hx
        · exact hx
      · cases j with
        | zero =>
          cases hoj
          cases hij
          intro e
          exact (g2 t ht).2.1 (t, T, d) (by unfold nextE; rw [e]; simp) rfl
        | succ j => exact (g2 t ht).2.2 j oj T d (by omega) (by simpa using hoj) (by simpa using hij)
theorem puts_mem : ∀ (infs : List Inf) (k : Nat) (p q : Obj), infs[k]? = some (.put p q) → (p, q) ∈ putsOf infs
  | [], k, p, q, h => by simp at h
  | i :: infs, 0, p, q, h => by
    cases h
    simp [putsOf, putOf]
  | i :: infs, k + 1, p, q, h => by
    rw [putsOf]
    exact List.mem_append_right _ (puts_mem infs k p q (by simpa using h))
theorem puts_ix : ∀ (infs : List Inf) (p q : Obj), (p, q) ∈ putsOf infs → ∃ k : Nat, infs[k]? = some (.put p q)
  | [], p, q, h => by simp [putsOf] at h
  | i :: infs, p, q, h => by
    rw [putsOf] at h
    rcases List.mem_append.1 h with h | h
    · cases i <;> simp [putOf] at h
      obtain ⟨rfl, rfl⟩ := h
      exact ⟨0, rfl⟩
    · obtain ⟨k, hk⟩ := puts_ix infs p q h
      exact ⟨k + 1, by simpa using hk⟩
theorem puts_apart : ∀ (infs : List Inf), ((putsOf infs).map (·.1)).Pairwise (fun o p : Obj => ∀ b, o.blk = some b → p.blk ≠ some b) → ∀ (k k' : Nat) (p q p' q' : Obj), infs[k]? = some (.put p q) → infs[k']? = some (.put p' q') → k ≠ k' → ∀ b, p.blk = some b → p'.blk ≠ some b
  | [], _, k, k', p, q, p', q', h, _, _ => by simp at h
  | i :: infs, hp, k, k', p, q, p', q', h, h', hne => by
    rw [putsOf, List.map_append] at hp
    obtain ⟨h1, h2, h3⟩ := List.pairwise_append.1 hp
    cases k with
    | zero =>
      cases h
      cases k' with
      | zero => exact absurd rfl hne
      | succ k' => exact h3 p (by simp [putOf]) p' (List.mem_map.2 ⟨_, puts_mem infs k' p' q' (by simpa using h'), rfl⟩)
    | succ k =>
      cases k' with
      | zero =>
        cases h'
        intro b hb e
        exact h3 p' (by simp [putOf]) p (List.mem_map.2 ⟨_, puts_mem infs k p q (by simpa using h), rfl⟩) b e hb
      | succ k' => exact puts_apart infs h2 k k' p q p' q' (by simpa using h) (by simpa using h') (by omega)
structure GP (X : Cx N) (S : St) (infs : List Inf) (ws : World) (F : Nat → Nat → Prop) (L : Nat → Prop) (vs : Nat → Value) (u : World) : Prop where
  gr : GrE (fun b => ∃ (k : Nat) (p q : Obj), infs[k]? = some (.put p q) ∧ p.blk = some b) ws u
  lo : ∀ j, L j → ∀ b, F j b → ws.heap.size ≤ b ∧ b < u.heap.size
  dis : ∀ i j b, L i → L j → i ≠ j → F i b → ¬ F j b
  val : ∀ j i, L j → infs[j]? = some i → (match (generalizing := false) i with
    | .new T d => ∃ g cs, vs j = .pointer (some ⟨g, 0, none⟩) ∧ (∀ b, F j b ↔ b = g) ∧ u.heap[g]? = some (.cells cs.toArray T (0, 0)) ∧ Reads (zone X S infs ws F L) u d cs
    | i => ReadR (zone X S infs ws F L) u i.reg (vs j))
  put : ∀ (k : Nat) (p q : Obj), infs[k]? = some (.put p q) → (L k → q.At X.mine (zone X S infs ws F L) u) ∧ (¬ L k → p.At X.mine (zone X S infs ws F L) u)
structure PutsOk (X : Cx N) (S : St) (infs : List Inf) (ws : World) : Prop where
  low : ∀ (k : Nat) (p q : Obj) (b : Nat), infs[k]? = some (.put p q) → p.blk = some b → ¬ X.ok S.objs ws b ∧ b < ws.heap.size
  apart : ∀ (k k' : Nat) (p q p' q' : Obj), infs[k]? = some (.put p q) → infs[k']? = some (.put p' q') → k ≠ k' → ∀ b, p.blk = some b → p'.blk ≠ some b
  same : ∀ (k : Nat) (p q : Obj), infs[k]? = some (.put p q) → q.blk = p.blk
theorem GP.lt {infs : List Inf} {ws : World} {F : Nat → Nat → Prop} {L : Nat → Prop} {vs : Nat → Value} {u : World} (h : GP X S infs ws F L vs u) {b : Nat} (hb : zone X S infs ws F L b) : b < u.heap.size := by
  rcases hb with hb | ⟨i, h1, _, h2⟩
  · exact Nat.lt_of_lt_of_le hb.2.1 h.gr.size
  · exact (h.lo i h1 b h2).2
theorem GP.off {infs : List Inf} {ws : World} {F : Nat → Nat → Prop} {L : Nat → Prop} {vs : Nat → Value} {u : World} (h : GP X S infs ws F L vs u) (hP : PutsOk X S infs ws) {k b : Nat} (hk : infs[k]? = some (.put p q)) (hp : p.blk = some b) : ¬ zone X S infs ws F L b := by
  have := hP.low k p q b hk hp
  rintro (hb | ⟨i, h1, _, h2⟩)
  · exact this.1 hb
  · have := (h.lo i h1 b h2).1
    omega
theorem GP.step {infs : List Inf} {ws : World} {F : Nat → Nat → Prop} {L : Nat → Prop} {vs : Nat → Value} {u u' : World} (h : GP X S infs ws F L vs u) (hP : PutsOk X S infs ws) {k : Nat} {i : Inf} (hi : infs[k]? = some i) (hk : ¬ L k) (H : Nat → Prop) (hH : ∀ b, H b → ∃ p q : Obj, i = .put p q ∧ p.blk = some b) (hg : GrE H u u') (v : Value) (f : Nat → Prop) (hf : ∀ b, f b → u.heap.size ≤ b ∧ b < u'.heap.size)
    (hv : (∀ b, zone X S infs ws F L b → zone X S infs ws (fun j => if j = k then f else F j) (fun j => j = k ∨ L j) b) → (match (generalizing := false) i with
      | .new T d => ∃ g cs, v = .pointer (some ⟨g, 0, none⟩) ∧ (∀ b, f b ↔ b = g) ∧ u'.heap[g]? = some (.cells cs.toArray T (0, 0)) ∧ Reads (zone X S infs ws (fun j => if j = k then f else F j) (fun j => j = k ∨ L j)) u' d cs
      | i => ReadR (zone X S infs ws (fun j => if j = k then f else F j) (fun j => j = k ∨ L j)) u' i.reg v))
    (hq : ∀ p q : Obj, i = .put p q → q.At X.mine (zone X S infs ws F L) u') :
    GP X S infs ws (fun j => if j = k then f else F j) (fun j => j = k ∨ L j) (fun j => if j = k then v else vs j) u' := by
  have hF : ∀ j, L j → (if j = k then f else F j) = F j := fun j hj => if_neg fun e => hk (by rw [← e]; exact hj)
  have hz : ∀ b, zone X S infs ws F L b → zone X S infs ws (fun j => if j = k then f else F j) (fun j => j = k ∨ L j) b := fun b hb => by
    rcases hb with hb | ⟨i, h1, h2, h3⟩
    · exact .inl hb
    · exact .inr ⟨i, .inr h1, h2, by show (if i = k then f else F i) b; rw [hF i h1]; exact h3⟩
  have hHz : ∀ b, H b → ¬ zone X S infs ws F L b := fun b hb => by
    obtain ⟨p, q, rfl, hp⟩ := hH b hb
    exact h.off hP hi hp
  have hc : ∀ p : Addr, zone X S infs ws F L p.block → u'.cell? p = u.cell? p := fun p hp => hg.cell (h.lt hp) fun hn => hHz _ hn hp
  refine ⟨⟨hg.os.trans h.gr.os, hg.tape.trans h.gr.tape, hg.output.trans h.gr.output, Nat.le_trans h.gr.size hg.size, fun b hb hn => ?_⟩, fun j hj b hb => ?_, fun i j b hi hj hij hb => ?_, fun j i' hj hi' => ?_, fun k' p' q' hk' => ?_⟩
  · rw [hg.block b (Nat.lt_of_lt_of_le hb h.gr.size) fun hn' => by
      obtain ⟨p, q, rfl, hp⟩ := hH b hn'
      exact hn ⟨k, p, q, hi, hp⟩]
    exact h.gr.block b hb hn
  · by_cases e : j = k
    · rw [if_pos e] at hb
      exact ⟨Nat.le_trans h.gr.size (hf b hb).1, (hf b hb).2⟩
    · rw [if_neg e] at hb
      have := h.lo j (hj.resolve_left e) b hb
      exact ⟨this.1, Nat.lt_of_lt_of_le this.2 hg.size⟩
  · by_cases e1 : i = k
    · by_cases e2 : j = k
      · exact absurd (e1.trans e2.symm) hij
      · rw [if_pos e1] at hb
        rw [if_neg e2]
        intro hb2
        have := (h.lo j (hj.resolve_left e2) b hb2).2
        have := (hf b hb).1
        omega
    · rw [if_neg e1] at hb
      by_cases e2 : j = k
      · rw [if_pos e2]
        intro hb2
        have := (h.lo i (hi.resolve_left e1) b hb).2
        have := (hf b hb2).1
        omega
      · rw [if_neg e2]
        exact h.dis i j b (hi.resolve_left e1) (hj.resolve_left e2) hij hb
  · by_cases e : j = k
    · subst e
      obtain rfl : i' = i := Option.some.inj (hi'.symm.trans hi)
      simp only [if_true]
      exact hv hz
    · have hj' := hj.resolve_left e
      have h0 := h.val j i' hj' hi'
      simp only [if_neg e]
      cases i' with
      | new T d =>
        obtain ⟨g, cs, g1, g2, g3, g4⟩ := h0
        have hlo := h.lo j hj' g ((g2 g).2 rfl)
        exact ⟨g, cs, g1, g2, (hg.block g (lt_of_some g3) fun hn => by
          obtain ⟨p, q, rfl, hp⟩ := hH g hn
          have := (hP.low k p q g hi hp).2
          omega).trans g3, Reads.mono hz hc _ _ g4⟩
      | still r => exact ReadR.mono hz hc h0
      | grow r => exact ReadR.mono hz hc h0
      | skip => trivial
      | put p q => trivial
  · by_cases e : k' = k
    · subst e
      obtain rfl : i = .put p' q' := Option.some.inj (hi.symm.trans hk')
      refine ⟨fun _ => (hq p' q' rfl).move hz (fun _ _ => rfl) (fun _ _ => rfl), fun hn => absurd (.inl rfl) hn⟩
    · have hb : ∀ g, p'.blk = some g → u'.heap[g]? = u.heap[g]? := fun g hg' => hg.block g (Nat.lt_of_lt_of_le (hP.low k' p' q' g hk' hg').2 h.gr.size) fun hn => by
        obtain ⟨p, q, rfl, hp⟩ := hH g hn
        exact hP.apart k k' p q p' q' hi hk' (fun e' => e e'.symm) g hp hg'
      obtain ⟨h1, h2⟩ := h.put k' p' q' hk'
      refine ⟨fun hL => (h1 (hL.resolve_left e)).move hz hc fun g hg' => hb g (by rw [← hP.same k' p' q' hk']; exact hg'), fun hn => (h2 fun hL => hn (.inr hL)).move hz hc hb⟩
set_option maxHeartbeats 2000000 in
theorem EC.drawS {id : Nat} (n : Nat) (ps : List (Obj × Obj)) (os1 : List Obj) (hB : monoB l.toArray n N = true) (hS : S.objs = ps.map (·.1) ++ os1) (h : EMS N l.toArray (fun S' E => openF (EL X l.toArray Q (l.drop n)) E ⟨S'.regs, ps.map (·.2) ++ S'.objs, S'.facts⟩) (l.take n) ps ⟨S.regs, os1, S.facts⟩ []) : EC X Q (.region id l.toArray true) S := by
  constructor
  intro a ws ha
  obtain ⟨infs, hlen, hok, hT, hps⟩ := ems_list _ _ _ _ h
  have hle : n ≤ l.length := by simpa using (facts_of_monoB hB).le
  have hln : (l.take n).length = n := by simp; omega
  rw [hln] at hlen hT
  have htake : ∀ k, k < n → (l.take n)[k]? = l[k]? := fun k hk => by rw [List.getElem?_take, if_pos hk]
  have hdst : ∀ k o, l[k]? = some o → dstOf l.toArray k = o.dst := fun k o ho => by unfold dstOf; simp [ho]
  have hks := ha.kn fun _ => True
  have hap := ha.mem.apart
  rw [hS, List.pairwise_append] at hap
  have hin : ∀ (k : Nat) (p q : Obj), infs[k]? = some (.put p q) → p ∈ S.objs := fun k p q hk => by
    rw [hS, ← hps]
    exact List.mem_append_left _ (List.mem_map.2 ⟨_, puts_mem infs k p q hk, rfl⟩)
  have hos : ∀ o ∈ os1, o ∈ S.objs := fun o ho => by rw [hS]; exact List.mem_append_right _ ho
  have hnn : ∀ (k : Nat) (i : Inf), infs[k]? = some i → k < n := fun k i hk => by have := (List.getElem?_eq_some_iff.1 hk).1; omega
  have hsame : ∀ (k : Nat) (p q : Obj), infs[k]? = some (.put p q) → q.blk = p.blk := fun k p q hk => by
    have hkn := hnn k _ hk
    have := (hok k l[k] _ (by rw [htake k hkn]; simp) hk).1
    exact this.2.2.1
  have hP : PutsOk X S infs ws := ⟨fun k p q b hk hb => ⟨fun hz => hz.2.2 p (hin k p q hk) hb, (Obj.blk_lt (ha.mem.at_ p (hin k p q hk)) hb).2⟩, puts_apart infs (by rw [hps]; exact hap.1), hsame⟩
  refine wp_region_set n (by kernel_rfl) (by rw [ha.size]; exact hB) (fun L vs u => ∃ F, GP X S infs ws F L vs u) ?_ ?_ ?_ ?_
  · rintro L L' vs vs' w hL hvs ⟨F, hG⟩
    obtain rfl : L = L' := funext fun j => propext (hL j)
    refine ⟨F, hG.gr, hG.lo, hG.dis, fun j i hj hi => ?_, hG.put⟩
    rw [← hvs j hj]
    exact hG.val j i hj hi
  · exact ⟨fun _ _ => False, ⟨⟨rfl, rfl, rfl, Nat.le_refl _, fun _ _ _ => rfl⟩, fun _ h => h.elim, fun _ _ _ h => h.elim, fun _ _ h => h.elim, fun k p q hk => ⟨fun h => h.elim, fun _ => (ha.mem.at_ p (hin k p q hk)).move (fun _ => .inl) (fun _ _ => rfl) fun _ _ => rfl⟩⟩⟩
  · intro k o L vs b u hk ho hL hLk ⟨F, hG⟩ hslot
    obtain ⟨i, hi⟩ : ∃ i, infs[k]? = some i := ⟨infs[k], by simp [hlen, hk]⟩
    obtain ⟨hO, hof, _⟩ := hok k o i (by rw [htake k hk]; exact ho) hi
    have hc : ∀ p : Addr, X.ok S.objs ws p.block → u.cell? p = ws.cell? p := fun p hp => hG.gr.cell hp.2.1 fun ⟨k, p', q', hk, hb⟩ => (hP.low k p' q' _ hk hb).1 hp
    have hmv : ∀ o ∈ os1, o.At X.mine (zone X S infs ws F L) u := fun o ho => (ha.mem.at_ o (hos o ho)).move (fun _ => .inl) hc fun g hg => hG.gr.block g (Obj.blk_lt (ha.mem.at_ o (hos o ho)) hg).2 fun ⟨k, p', q', hk, hb⟩ => hap.2.2 p' (List.mem_map.2 ⟨_, by rw [← hps]; exact puts_mem infs k p' q' hk, rfl⟩) o ho g hb hg
    have hkn : Kn X.mine (zone X S infs ws F L) (fun t => t ∈ o.looksAt l.toArray) (stAt ⟨S.regs, os1, S.facts⟩ (l.take n) infs k) b u := by
      refine ⟨fun p hp => ?_, fun f hf => ?_, fun b hb => hG.lt hb, fun t r ht hr => ?_⟩
      · rw [(stAt_objs _ _ _ _).1] at hp
        exact hmv p hp
      · rw [(stAt_objs _ _ _ _).2] at hf
        exact Reads.mono (fun _ => .inl) hc _ _ (hks.facts f hf)
      · have hlk := stAt_look (l.take n) infs k ⟨S.regs, os1, S.facts⟩ t (by rw [hlen, hln]) (by omega)
        rcases hslot t ht with ⟨j, h1, h2, h3, h4, h5⟩ | ⟨h1, h2⟩
        · have hjl : j < l.length := by omega
          have hoj : l[j]? = some l[j] := by simp
          have hij : infs[j]? = some infs[j] := by simp
          rw [hlk.1 j l[j] infs[j] h1 (by rw [htake j (by omega)]; exact hoj) hij (by rw [← hdst j _ hoj]; exact h2) fun m om h6 h7 hom => by
            rw [htake m (by omega)] at hom
            rw [← hdst m _ hom]
            exact h3 m h6 h7] at hr
          cases hr
          rw [h5]
          have := hG.val j _ h4 hij
          cases hinf : infs[j] with
          | new T d => trivial
          | still r => rw [hinf] at this; exact this
          | grow r => rw [hinf] at this; exact this
          | skip => trivial
          | put p q => trivial
        · rw [hlk.2 fun j oj hj hoj => by
            rw [htake j (by omega)] at hoj
            rw [← hdst j _ hoj]
            exact h1 j hj] at hr
          rw [h2]
          exact (ha.regs t r hr).mono (fun _ => .inl) hc
    have hstep : ∀ (H : Nat → Prop) (_ : ∀ b, H b → ∃ p q : Obj, i = .put p q ∧ p.blk = some b) v u', GrE H u u' → (∀ p q : Obj, i = .put p q → q.At X.mine (zone X S infs ws F L) u') → ∀ f : Nat → Prop, (∀ b, f b → u.heap.size ≤ b ∧ b < u'.heap.size) → ((∀ b, zone X S infs ws F L b → zone X S infs ws (fun j => if j = k then f else F j) (fun j => j = k ∨ L j) b) → (match (generalizing := false) i with
      | .new T d => ∃ g cs, v = .pointer (some ⟨g, 0, none⟩) ∧ (∀ b, f b ↔ b = g) ∧ u'.heap[g]? = some (.cells cs.toArray T (0, 0)) ∧ Reads (zone X S infs ws (fun j => if j = k then f else F j) (fun j => j = k ∨ L j)) u' d cs
      | i => ReadR (zone X S infs ws (fun j => if j = k then f else F j) (fun j => j = k ∨ L j)) u' i.reg v)) → ∃ F, GP X S infs ws F (fun j => j = k ∨ L j) (fun j => if j = k then v else vs j) u' := fun H hH v u' hg hq f hf hv =>
      ⟨_, hG.step hP hi hLk H hH hg v f hf hv hq⟩
    cases i with
    | still r =>
      obtain ⟨hg, hS⟩ := hO
      refine ⟨fun _ => ?_, fun hw => by rw [wanted_kn hkn hg] at hw; cases hw⟩
      obtain ⟨v, h1, h2⟩ := hS _ _ b u hkn
      rw [h1]
      exact (hstep (fun _ => False) (fun _ h => h.elim) v u (.of (Gr.refl u)) (fun _ _ e => by cases e) (fun _ => False) (fun _ h => h.elim) fun hz => ReadR.mono hz (fun _ _ => rfl) h2)
    | grow r =>
      obtain ⟨hg, hS⟩ := hO
      refine ⟨fun _ => setsTo_of_grows (hS _ _ b u hkn) (fun v w' hgr hv => ?_), fun hw => by rw [wanted_kn hkn hg] at hw; cases hw⟩
      obtain ⟨r', rfl, hv⟩ := hv
      refine hstep (fun _ => False) (fun _ h => h.elim) v w' (.of hgr) (fun _ _ e => by cases e) (fun b => u.heap.size ≤ b ∧ b < w'.heap.size) (fun _ h => h) fun hz => ReadR.mono (fun b hb => ?_) (fun _ _ => rfl) hv
      rcases hb.1 with h1 | h1
      · exact hz b h1
      · exact .inr ⟨k, .inl rfl, (fun T d e => by rw [hi] at e; cases e), by show (if k = k then _ else F k) b; rw [if_pos rfl]; exact ⟨h1, hb.2⟩⟩
    | put p q =>
      obtain ⟨hg, hd, _, hS'⟩ := hO
      refine ⟨fun _ => ?_, fun hw => by rw [wanted_kn hkn hg] at hw; cases hw⟩
      obtain ⟨u', g, h1, h2, h3, h4⟩ := hS' _ _ b u hkn (fun g hb => hG.off hP hi hb) ((hG.put k p q hi).2 hLk)
      rw [h1]
      refine hstep (fun b => b = g) (fun b e => ⟨p, q, rfl, by rw [e]; exact h2⟩) undef u' ⟨h3.os, h3.tape, h3.output, h3.size, fun j hj hn => h3.block j hj fun e => hn (by injection e)⟩ (fun p' q' e => by cases e; exact h4) (fun _ => False) (fun _ h => h.elim) fun _ => trivial
    | skip =>
      refine ⟨fun hw => (by rw [wanted_kn hkn hO] at hw; cases hw), fun _ => ?_⟩
      exact hstep (fun _ => False) (fun _ h => h.elim) undef u (.of (Gr.refl u)) (fun _ _ e => by cases e) (fun _ => False) (fun _ h => h.elim) fun _ => trivial
    | new T d =>
      obtain ⟨hg, hS⟩ := hO
      refine ⟨fun _ => ?_, fun hw => by rw [wanted_kn hkn hg] at hw; cases hw⟩
      obtain ⟨cs, h1, h2⟩ := hS _ _ b u hkn
      rw [h1]
      have hgr := gr_alloc u (.cells cs.toArray T)
      exact hstep (fun _ => False) (fun _ h => h.elim) _ _ (.of hgr) (fun _ _ e => by cases e) (fun b => b = u.heap.size) (fun b e => by subst e; simp) fun hz => ⟨u.heap.size, cs, rfl, fun b => Iff.rfl, heap_alloc_new u _, Reads.mono hz (fun p hp => hgr.cell (hG.lt hp)) _ _ h2⟩
  · intro vs u b ⟨F, hG⟩ hs hd hslot
    have hc : ∀ p : Addr, X.ok S.objs ws p.block → u.cell? p = ws.cell? p := fun p hp => hG.gr.cell hp.2.1 fun ⟨k, p', q', hk, hb⟩ => (hP.low k p' q' _ hk hb).1 hp
    have hmv : ∀ o ∈ os1, o.At X.mine (zone X S infs ws F (fun j => j < n)) u := fun o ho => (ha.mem.at_ o (hos o ho)).move (fun _ => .inl) hc fun g hg => hG.gr.block g (Obj.blk_lt (ha.mem.at_ o (hos o ho)) hg).2 fun ⟨k, p', q', hk, hb⟩ => hap.2.2 p' (List.mem_map.2 ⟨_, by rw [← hps]; exact puts_mem infs k p' q' hk, rfl⟩) o ho g hb hg
    have hsz := ha.mem.gr.size
    have hblk : (ps.map (·.2)).map Obj.blk = (ps.map (·.1)).map Obj.blk := by
      rw [List.map_map, List.map_map]
      refine List.map_congr_left fun e he => ?_
      obtain ⟨k, hk⟩ := puts_ix infs e.1 e.2 (by rw [hps]; exact he)
      exact hsame k _ _ hk
    have hobj : ∀ o ∈ ps.map (·.2) ++ os1, ∀ b, o.blk = some b → ∃ o' ∈ S.objs, o'.blk = some b := fun o ho b hb => by
      rcases List.mem_append.1 ho with ho | ho
      · obtain ⟨e, he, rfl⟩ := List.mem_map.1 ho
        obtain ⟨k, hk⟩ := puts_ix infs e.1 e.2 (by rw [hps]; exact he)
        exact ⟨e.1, hin k _ _ hk, by rw [← hsame k _ _ hk]; exact hb⟩
      · exact ⟨o, hos o ho, hb⟩
    have hgood : Good X (zone X S infs ws F fun j => j < n) ⟨(stAt ⟨S.regs, os1, S.facts⟩ (l.take n) infs n).regs, ps.map (·.2) ++ os1, (stAt ⟨S.regs, os1, S.facts⟩ (l.take n) infs n).facts⟩ b u := by
      refine ⟨fun p hp => ?_, ?_, fun p hp b hb e => ?_, fun f hf => ?_, fun t r hr => ?_⟩
      · rcases List.mem_append.1 hp with hp | hp
        · obtain ⟨e, he, rfl⟩ := List.mem_map.1 hp
          obtain ⟨k, hk⟩ := puts_ix infs e.1 e.2 (by rw [hps]; exact he)
          exact (hG.put k _ _ hk).1 (hnn k _ hk)
        · exact hmv p hp
      · have h0 := ha.mem.apart
        rw [hS] at h0
        have h1 : ((ps.map (·.1) ++ os1).map Obj.blk).Pairwise fun x y : Option Nat => ∀ b, x = some b → y ≠ some b := List.pairwise_map.2 h0
        rw [List.map_append, ← hblk, ← List.map_append] at h1
        exact List.pairwise_map.1 h1
      · obtain ⟨o', ho', e'⟩ := hobj p hp b e
        rcases hb with hb | ⟨i, h1, _, h2⟩
        · exact hb.2.2 o' ho' e'
        · have := (Obj.blk_lt (ha.mem.at_ o' ho') e').2
          have := (hG.lo i h1 b h2).1
          omega
      · rw [(stAt_objs _ _ _ _).2] at hf
        exact Reads.mono (fun _ => .inl) hc _ _ (hks.facts f hf)
      · have hlk := stAt_look (l.take n) infs n ⟨S.regs, os1, S.facts⟩ t (by rw [hlen, hln]) (by omega)
        rcases hslot t with ⟨j, h1, h2, h3, h4, h5⟩ | ⟨h1, h2⟩
        · have hjl : j < l.length := by omega
          have hoj : l[j]? = some l[j] := by simp
          have hij : infs[j]? = some infs[j] := by simp
          rw [hlk.1 j l[j] infs[j] h1 (by rw [htake j (by omega)]; exact hoj) hij (by rw [← hdst j _ hoj]; exact h2) fun m om h6 h7 hom => by
            rw [htake m (by omega)] at hom
            rw [← hdst m _ hom]
            exact h3 m h6 h7] at hr
          cases hr
          rw [h5]
          have := hG.val j _ h4 hij
          cases hinf : infs[j] with
          | new T d => trivial
          | still r => rw [hinf] at this; exact this
          | grow r => rw [hinf] at this; exact this
          | skip => trivial
          | put p q => trivial
        · rw [hlk.2 fun j oj hj hoj => by
            rw [htake j (by omega)] at hoj
            rw [← hdst j _ hoj]
            exact h1 j hj] at hr
          rw [h2]
          exact (ha.regs t r hr).mono (fun _ => .inl) hc
    let gOf : Nat → Nat := fun j => match vs j with
      | .pointer (some p) => p.block
      | _ => 0
    have hfr : ∀ j T d, infs[j]? = some (.new T d) → ∃ cs, vs j = .pointer (some ⟨gOf j, 0, none⟩) ∧ (∀ b, F j b ↔ b = gOf j) ∧ u.heap[gOf j]? = some (.cells cs.toArray T (0, 0)) ∧ Reads (zone X S infs ws F fun j => j < n) u d cs := fun j T d hj => by
      have hjn : j < n := by
        have := (List.getElem?_eq_some_iff.1 hj).1
        omega
      obtain ⟨g, cs, g1, g2, g3, g4⟩ := hG.val j _ hjn hj
      have hg : gOf j = g := by simp only [gOf, g1]
      rw [hg]
      exact ⟨cs, g1, g2, g3, g4⟩
    have hE := frIx_map (l.take n) infs 0 []
    rw [List.nil_append] at hE
    rw [hE] at hT
    have hmm : (frIx 0 (l.take n) infs).map (·.1) = ((frIx 0 (l.take n) infs).map fun e => (e.1, gOf e.2)).map (·.1) := by simp [List.map_map, Function.comp_def]
    rw [hmm] at hT
    rw [(stAt_objs _ _ _ _).1] at hT
    have hEL := openF_ext _ _ hT
    refine hEL.go b u ((Good.ext _ _ hgood (fun e he => ?_) ?_ fun e he o ho => ?_).at (ha.mem.gr.step hG.gr fun k ⟨j, p', q', hj, hb⟩ => (Obj.blk_lt (ha.mem.at_ p' (hin j p' q' hj)) hb).1) (fun b hb => ?_) (hs.trans ha.size) (hd.trans ha.defers))
    · obtain ⟨e0, he0, rfl⟩ := List.mem_map.1 he
      obtain ⟨j, o, h1, h2, h3, h4⟩ := frIx_mem _ _ _ _ he0
      rw [Nat.zero_add] at h1
      have hjn : j < n := by
        have := (List.getElem?_eq_some_iff.1 h4).1
        omega
      obtain ⟨cs, g1, g2, g3, g4⟩ := hfr j _ _ h4
      rw [htake j hjn] at h2
      dsimp only
      rw [h1]
      refine ⟨.inr (Nat.le_trans hsz (hG.lo j hjn _ ((g2 _).2 rfl)).1), fun hz => ?_, ?_, cs, g3, g4⟩
      · rcases hz with hz | ⟨i, k1, k2, k3⟩
        · have := (hG.lo j hjn _ ((g2 _).2 rfl)).1
          have := hz.2.1
          omega
        · by_cases e : i = j
          · subst e
            exact k2 _ _ h4
          · exact hG.dis i j _ k1 hjn e k3 ((g2 _).2 rfl)
      · rcases hslot e0.1.1 with ⟨j', k1, k2, k3, k4, k5⟩ | ⟨k1, k2⟩
        · have hjj : j' = j := by
            rcases Nat.lt_trichotomy j' j with h | h | h
            · exact absurd ((hdst j o h2).trans h3) (k3 j h hjn)
            · exact h
            · exfalso
              have hoj' : l[j']? = some l[j'] := by simp
              have hij' : infs[j']? = some infs[j'] := by simp
              exact ((hok j' l[j'] infs[j'] (by rw [htake j' k1]; exact hoj') hij').2.1 e0.1.1 (by rw [← hdst j' _ hoj']; exact k2)).2.2 j o _ _ h (by rw [htake j hjn]; exact h2) h4 h3
          subst hjj
          rw [k5]
          exact g1
        · exact absurd ((hdst j o h2).trans h3) (k1 j hjn)
    · have hnd := frIx_nodup (l.take n) infs 0
      rw [List.map_map]
      have : ((fun e : Fr × Nat => e.2) ∘ fun e : Fr × Nat => (e.1, gOf e.2)) = gOf ∘ fun e => e.2 := rfl
      rw [show ((fun x : Fr × Nat => x.2) ∘ fun e : Fr × Nat => (e.1, gOf e.2)) = gOf ∘ (fun e => e.2) from rfl, ← List.map_map]
      have hinj : ∀ x ∈ (frIx 0 (l.take n) infs).map (·.2), ∀ y ∈ (frIx 0 (l.take n) infs).map (·.2), gOf x = gOf y → x = y := by
        intro x hx y hy e
        obtain ⟨ex, hex, rfl⟩ := List.mem_map.1 hx
        obtain ⟨ey, hey, rfl⟩ := List.mem_map.1 hy
        obtain ⟨jx, ox, a1, a2, a3, a4⟩ := frIx_mem _ _ _ _ hex
        obtain ⟨jy, oy, b1, b2, b3, b4⟩ := frIx_mem _ _ _ _ hey
        rw [Nat.zero_add] at a1 b1
        rw [a1, b1] at e ⊢
        obtain ⟨_, c1, c2, _⟩ := hfr jx _ _ a4
        obtain ⟨_, d1, d2, _⟩ := hfr jy _ _ b4
        by_cases hne : jx = jy
        · exact hne
        · exfalso
          have hx' : jx < n := by have := (List.getElem?_eq_some_iff.1 a4).1; omega
          have hy' : jy < n := by have := (List.getElem?_eq_some_iff.1 b4).1; omega
          exact hG.dis jx jy (gOf jx) hx' hy' hne ((c2 _).2 rfl) ((d2 _).2 e)
      clear hT hEL hmm hE
      revert hnd hinj
      generalize (frIx 0 (l.take n) infs).map (·.2) = m
      intro hnd hinj
      induction m with
      | nil => simp
      | cons x m ih =>
        simp only [List.map_cons, List.nodup_cons] at hnd ⊢
        refine ⟨fun hm => ?_, ih hnd.2 fun p hp q hq => hinj p (by simp [hp]) q (by simp [hq])⟩
        obtain ⟨y, hy, e⟩ := List.mem_map.1 hm
        have := hinj x (by simp) y (by simp [hy]) e.symm
        subst this
        exact hnd.1 hy
    · obtain ⟨e0, he0, rfl⟩ := List.mem_map.1 he
      obtain ⟨j, o', h1, h2, h3, h4⟩ := frIx_mem _ _ _ _ he0
      rw [Nat.zero_add] at h1
      have hjn : j < n := by
        have := (List.getElem?_eq_some_iff.1 h4).1
        omega
      obtain ⟨cs, g1, g2, g3, g4⟩ := hfr j _ _ h4
      dsimp only
      rw [h1]
      intro e
      obtain ⟨o', ho', e'⟩ := hobj o ho _ e
      have := (Obj.blk_lt (ha.mem.at_ o' ho') e').2
      have := (hG.lo j hjn _ ((g2 _).2 rfl)).1
      omega
    · refine ⟨?_, hG.lt hb⟩
      rcases hb with hb | ⟨i, k1, _, k3⟩
      · exact hb.1
      · exact .inr (.inr (Nat.le_trans hsz (hG.lo i k1 b k3).1))
theorem put_store {T g n : Nat} {x y : Operand} {t : TypeId} {d d' d'' : D} (ho : o.op = .store T x y) (hx : ev S x = some (.val (.v (.pointer (some ⟨g, n, none⟩))))) (hy : ev S y = some (.val d')) (hT : assoc tyL T = some (d'.size, d'.agg)) (hu : d.upd n d' = some d'') : Puts ops S o (.var g t d) (.var g t d'') := by
  refine ⟨rfl, fun base ok a w hk hno hat => ?_⟩
  have hx' := ev_v hk hx fun t e => looks_of e (by rw [ho]; simp [Op.operands])
  obtain ⟨cs', h1, h2⟩ := hk.ev hy fun t e => looks_of e (by rw [ho]; simp [Op.operands])
  obtain ⟨hge, cs, h3, h4⟩ := hat
  obtain ⟨e1, e2, pre, mid, post, rfl, h5, h6, h7⟩ := upd_spec d n d' d'' cs cs' hu h4 h1
  obtain ⟨_, _, _, hT'⟩ := tyI hT
  have hrun := run_storeAt (T := T) (by rw [hT', Reads.len _ _ h1]) h1 h3 h5 h6
  refine ⟨w.setCells g n cs', g, ?_, rfl, grownBy_setCells g cs' n w, hge, pre ++ cs' ++ post, ?_, Reads.mono (fun _ h => h) (fun p hp => ?_) _ _ h7⟩
  · unfold execOp
    simp only [ho, hx', h2, Sem.run_bind, hrun, Result.andThen_ok, Sem.run_pure]
  · have := setCells_row cs' pre mid post w h6 h3
    rwa [h5] at this
  · exact World.cell?_of_block ((grownBy_setCells g cs' n w).block _ (hk.lt _ hp) fun e => hno g rfl (by injection e with e; rw [← e]; exact hp))
theorem EMS.nil0 {l' : List Oper} {qs : List Obj} {F : List Fr} (hF : F = []) (h : EL X ops Q l' ⟨S.regs, qs ++ S.objs, S.facts⟩) : EMS N ops (fun S' E => openF (EL X ops Q l') E ⟨S'.regs, qs ++ S'.objs, S'.facts⟩) [] [] S F := by
  subst hF
  exact ⟨rfl, h⟩
theorem EM.put (hg : guardOf ops S o = some true) (hd : o.dst = none) (hP : Puts ops S o p q) (k : EMS N ops T l ps S E) : EM N ops (fun S' E' => EMS N ops T (o :: l) ((p, q) :: ps) S' E') [] S E := EMS.put hg hd hP k
theorem Le.perm {rs : List (Tmp × R)} {os os' : List Obj} {fs : List (Value × D)} (h : os.Perm os') : Le X ⟨rs, os, fs⟩ ⟨rs, os', fs⟩ := fun a w ha => by
  have hok : ∀ b, X.ok os w b → X.ok os' w b := fun b hb => ⟨hb.1, hb.2.1, fun o ho => hb.2.2 o (h.mem_iff.2 ho)⟩
  refine ⟨⟨ha.mem.gr, ?_, fun o ho => (ha.mem.at_ o (h.mem_iff.2 ho)).move hok (fun _ _ => rfl) fun _ _ => rfl, fun f hf => Reads.mono hok (fun _ _ => rfl) _ _ (ha.mem.fact f hf)⟩, fun t r hr => (ha.regs t r hr).mono hok fun _ _ => rfl, ha.size, ha.defers⟩
  exact h.pairwise ha.mem.apart fun {x y} hxy b hb e => hxy b e hb
end
end E
end Go.Proofs.Ytdhicdnmgmkpkaa
/-
  A copy of bytes in new memory; a word seen as a slice.
  Conditions: none.
-/
namespace Go.Proofs.Ytdhicdnmgmkpkaa
set_option linter.unusedVariables false
open Go.RowKit Mono Rlp
def NewB (B : Nat) (l : List UInt8) : VP := fun v w => IsBP (fun k => B ≤ k ∧ k < w.heap.size) w v l
theorem stable_newB (B : Nat) (l : List UInt8) : Stable (NewB B l) := fun _ _ _ hg h => IsBP.mono h (fun b hb => ⟨hb.1, Nat.lt_of_lt_of_le hb.2 hg.size⟩) fun p hp => hg.cell hp.2
theorem growsTo_append_new {w : World} {o : Oper} {a : Act} {x : Operand} {v : Value} {l : List UInt8} {B : Nat} (hB : B ≤ w.heap.size)
    (ho : o.op = .call { callee := .builtin .append, args := #[.const (.slice none 0 0), x], argTypes := #[34, 34] }) (hx : a.eval x = v) (h : IsB w v l) (hl : l.length ≤ 140737488355328) :
    growsTo Try.prog (NewB B l) w ((execOp a.eval o).run Try.prog w) := by
  obtain ⟨A, c, rfl, h1, h2, hr⟩ := h
  obtain ⟨A', c', w', hrun, hown, hg, hb⟩ := run_append_rd (P := Try.prog) (ty := o.type) slT_bytes (World.ownsRow_nil w w.heap.size _ _) (m := l.length) (c := c) (news := bvs l) (by rw [bvs_length]; omega) hr (bvs_one _) (by simp only [maxLen] at *; omega) (by omega) (Nat.le_refl _)
  have hs : a.eval (.const (.slice none 0 0)) = .slice none 0 0 := rfl
  unfold execOp
  simp only [ho, resolve, invoke, builtin, Sem.run_bind, Sem.run_pure, Result.andThen_ok, List.map_toArray, List.map_cons, List.map_nil, hs, hx, hrun]
  refine ⟨⟨hg.os, hg.tape, hg.output, hg.size, fun k hk => hg.block k hk (by simp [Value.ownBlock])⟩, ?_⟩
  have := ownB_P (w := w') (base := w.heap.size) (v := .slice A' (0 + l.length) c') (l := l) (by unfold OwnB; simpa using hown)
  exact IsBP.mono this (fun b hb => ⟨by have := hb.1; omega, hb.2⟩) fun _ _ => rfl
theorem own_block_lt {w : World} {base : Nat} {e : TypeId} {size : Nat} {v : Value} {n : Nat} {xs : List Value} (h : w.ownsRow base e size v n xs) (k : Nat) (hk : v.ownBlock = some k) : k < w.heap.size := (h.lt k hk).2
theorem slice_word_off (w : World) (g o : Nat) : (Instr.sliceAt 25 (.pointer (some ⟨g, o, none⟩)) none none none).run Try.prog w = .ok (.slice (some ⟨g, o, none⟩) 32 32) w := by
  have hn : Try.prog.arrayLen 25 = 32 := by kernel_rfl
  have hs : (sizeOf (Try.prog.elem 25)).run Try.prog w = .ok 1 w := by kernel_rfl
  rw [run_sliceAt_array_all (P := Try.prog) w 25 ⟨g, o, none⟩ (by kernel_rfl), hs]
  simp [slicedAt, hn, add_none, Result.andThen]
end Go.Proofs.Ytdhicdnmgmkpkaa
/-
  The abstract machine: an array seen as a slice, copy into a variable's array, a copy of bytes in new memory.
  Conditions: none.
-/
namespace Go.Proofs.Ytdhicdnmgmkpkaa
set_option linter.unusedVariables false
open Go.RowKit Mono Rlp
namespace E
structure SliceA (T n : Nat) : Prop where
  ok : ∀ w g o, (Instr.sliceAt T (.pointer (some ⟨g, o, none⟩)) none none none).run Try.prog w = .ok (.slice (some ⟨g, o, none⟩) n n) w
section
variable {N : Nat} {X : Cx N} {S : St} {ops : Array Oper} {o : Oper} {Q : Exit → Act → World → Prop} {l : List Oper} {TT : St → List Fr → Prop} {EE : List Fr} {rs : List (Tmp × R)} {os : List Obj} {fs : List (Value × D)}
theorem g_slarr {x : Operand} {T n g k : Nat} (hA : SliceA T n) (ho : o.op = .slice T x none none none) (hx : ev S x = some (.val (.v (.pointer (some ⟨g, k, none⟩))))) : Still ops S o (.val (.v (.slice (some ⟨g, k, none⟩) n n))) := fun base ok a w ha => by
  have hx' := ev_v ha hx fun t e => looks_of e (by rw [ho]; simp [Op.operands])
  refine ⟨_, ?_, v_mk rfl⟩
  unfold execOp
  simp only [ho, hx', Option.map_none, Sem.run_bind, hA.ok w g k, Result.andThen_ok, Sem.run_pure]
theorem P_slarr {t ty : Nat} {pos : String} {af : Array Edge} {gd : Option (Nat × Bool)} {x : Operand} {T n g k : Nat} (hA : SliceA T n) (hx : ev (⟨rs, os, fs⟩ : St) x = some (.val (.v (.pointer (some ⟨g, k, none⟩))))) (hg : guardOf ops ⟨rs, os, fs⟩ ⟨some t, .slice T x none none none, ty, pos, af, gd⟩ = some true) (hN : Nat.blt t N = true) (kk : EL X ops Q l ⟨(t, .val (.v (.slice (some ⟨g, k, none⟩) n n))) :: rs, os, fs⟩) : EL X ops Q (⟨some t, .slice T x none none none, ty, pos, af, gd⟩ :: l) ⟨rs, os, fs⟩ := ES.still (g_slarr hA rfl hx) hg rfl hN kk
theorem H_slarr {t ty : Nat} {pos : String} {af : Array Edge} {gd : Option (Nat × Bool)} {x : Operand} {T n g k : Nat} (hA : SliceA T n) (hx : ev (⟨rs, os, fs⟩ : St) x = some (.val (.v (.pointer (some ⟨g, k, none⟩))))) (hg : guardOf ops ⟨rs, os, fs⟩ ⟨some t, .slice T x none none none, ty, pos, af, gd⟩ = some true) (hoff : offB N (some t) EE = true) (kk : EM N ops TT l ⟨(t, .val (.v (.slice (some ⟨g, k, none⟩) n n))) :: rs, os, fs⟩ EE) : EM N ops TT (⟨some t, .slice T x none none none, ty, pos, af, gd⟩ :: l) ⟨rs, os, fs⟩ EE := EH.still (g_slarr hA rfl hx) hg rfl hoff kk
theorem EL.copy {T U e b g n k c : Nat} {x y : Operand} {t : TypeId} {d d'' : D} {m : List UInt8} (i : Nat) (ho : o.op = .call { callee := .builtin .copy, args := #[x, y], argTypes := #[T, U] }) (hg : guardOf ops S o = some true) (hd : ∀ t, o.dst = some t → t < N) (hT : assoc slL T = some (e, 1, b))
    (hx : ev S x = some (.val (.v (.slice (some ⟨g, n, none⟩) k c)))) (hi : S.objs[i]? = some (.var g t d)) (hy : ev S y = some (.val (.bs m))) (hm : m.length = k) (h0 : Nat.blt 0 k = true) (hu : d.upd n (.arr k m) = some d'')
    (kk : EL X ops Q l (St.put ⟨S.regs, S.objs.set i (.var g t d''), S.facts⟩ o.dst (.val (.v (.int .i64 (k : Int)))))) : EL X ops Q (o :: l) S := by
  constructor
  intro a w ha
  have hk := ha.kn fun t => t ∈ o.looksAt ops
  have hx' := ev_v hk hx fun t e => looks_of e (by rw [ho]; simp [Op.operands, Call.operands])
  obtain ⟨A, c', h1, h2, h3, h4⟩ := bs_ex (hk.ev hy fun t e => looks_of e (by rw [ho]; simp [Op.operands, Call.operands]))
  have h0' : 0 < k := by simpa using h0
  obtain ⟨bl, o', rfl, hb, hc⟩ := h4 (fun e => by have := congrArg List.length e; rw [bvs_length] at this; simp at this; rw [this] at hm; simp at hm; omega)
  obtain ⟨hge, cs, h5, h6⟩ := ha.mem.var hi
  have hnew : Reads (X.ok S.objs w) w (.arr k m) (bvs m) := by rw [Reads]; exact ⟨hm, rfl⟩
  obtain ⟨e1, e2, pre, mid, post, rfl, h7, h8, h9⟩ := upd_spec d n (.arr k m) d'' cs (bvs m) hu h6 hnew
  have hcell : ∀ j, j < (bvs m).length → (w.cell? ⟨g, n + j, none⟩).isSome = true := fun j hj => by
    rw [cell_of_row w g (n + j) _ t (0, 0) h5]
    simp only [List.getElem?_toArray, List.append_assoc]
    rw [List.getElem?_append_right (by omega), List.getElem?_append_left (by omega)]
    simp
    omega
  have hf : ∀ j, j < (bvs m).length → w.frozen? ⟨g, n + j, none⟩ = false := fun j _ => by simp [World.frozen?, h5]
  have hsl := slI hT
  have hrun := run_copy_cells (P := Try.prog) w T U o.type e g n k c ⟨bl, o', none⟩ m.length c' (bvs m) hsl.und hsl.size (by rw [bvs_length, hm]; simp) (fun j v hv => by rw [add_none]; exact hc j v hv) hcell hf (bvs_one m)
  unfold wpList
  rw [if_pos (wanted_of ha hg)]
  refine .inl ?_
  unfold Oper.wp execOp
  simp only [ho, resolve, invoke, builtin, Sem.run_bind, Sem.run_pure, Result.andThen_ok, List.map_toArray, List.map_cons, List.map_nil, hx', h1, hrun]
  have ht := ha.turn (q := .var g t d'') (w' := w.setCells g n (bvs m)) hi (grownBy_setCells g (bvs m) n w) (.inl rfl) fun hok hcell => ⟨hge, pre ++ bvs m ++ post, by
    have := setCells_row (bvs m) pre mid post w h8 h5
    rwa [h7] at this, Reads.mono hok hcell _ _ h9⟩
  rw [bvs_length, hm]
  exact kk.go _ _ (ht.put hd (v_mk rfl))
theorem g_apnew {x : Operand} {m : List UInt8} (ho : o.op = .call { callee := .builtin .append, args := #[.const (.slice none 0 0), x], argTypes := #[34, 34] }) (hx : ev S x = some (.val (.bs m))) (hl : m.length ≤ 140737488355328) : Grows ops S o (· = .val (.bs m)) := fun base ok a w ha => by
  have hr := ha.ev hx fun t e => looks_of e (by rw [ho]; simp [Op.operands, Call.operands])
  refine growsTo_mono (fun v w' hg hv => ⟨_, rfl, (readV_one rfl).2 (by rw [Reads]; exact ⟨v, rfl, IsBP.mono hv (fun b hb => ⟨.inr hb.1, hb.2⟩) fun _ _ => rfl⟩)⟩) (growsTo_append_new (B := w.heap.size) (Nat.le_refl _) ho rfl (isB_of ha.lt hr) hl)
theorem P_apnew {t ty : Nat} {pos : String} {af : Array Edge} {gd : Option (Nat × Bool)} {x : Operand} {m : List UInt8} (hl : m.length ≤ 140737488355328) (hx : ev (⟨rs, os, fs⟩ : St) x = some (.val (.bs m))) (hg : guardOf ops ⟨rs, os, fs⟩ ⟨some t, .call { callee := .builtin .append, args := #[.const (.slice none 0 0), x], argTypes := #[34, 34] }, ty, pos, af, gd⟩ = some true) (hN : Nat.blt t N = true) (kk : EL X ops Q l ⟨(t, .val (.bs m)) :: rs, os, fs⟩) : EL X ops Q (⟨some t, .call { callee := .builtin .append, args := #[.const (.slice none 0 0), x], argTypes := #[34, 34] }, ty, pos, af, gd⟩ :: l) ⟨rs, os, fs⟩ := ES.grow (g_apnew rfl hx hl) hg rfl hN kk
theorem P_copy {t ty : Nat} {pos : String} {af : Array Edge} {gd : Option (Nat × Bool)} {T U e b g n k c : Nat} {x y : Operand} {tv : TypeId} {d d'' : D} {m : List UInt8} (i : Nat) (hm : m.length = k) (hx : ev (⟨rs, os, fs⟩ : St) x = some (.val (.v (.slice (some ⟨g, n, none⟩) k c)))) (hy : ev (⟨rs, os, fs⟩ : St) y = some (.val (.bs m))) (hi : os[i]? = some (.var g tv d)) (hT : assoc slL T = some (e, 1, b)) (h0 : Nat.blt 0 k = true) (hu : d.upd n (.arr k m) = some d'') (hg : guardOf ops ⟨rs, os, fs⟩ ⟨some t, .call { callee := .builtin .copy, args := #[x, y], argTypes := #[T, U] }, ty, pos, af, gd⟩ = some true) (hN : Nat.blt t N = true) (kk : EL X ops Q l ⟨(t, .val (.v (.int .i64 (k : Int)))) :: rs, os.set i (.var g tv d''), fs⟩) : EL X ops Q (⟨some t, .call { callee := .builtin .copy, args := #[x, y], argTypes := #[T, U] }, ty, pos, af, gd⟩ :: l) ⟨rs, os, fs⟩ :=
  EL.copy i rfl hg (dst_lt rfl hN) hT hx hi hy hm h0 hu kk
end
theorem sl_word : SliceA 25 32 := ⟨fun w g o => slice_word_off w g o⟩
end E
end Go.Proofs.Ytdhicdnmgmkpkaa
/-
  The abstract machine: for a while, all that is may be read (and nothing of the call's own is written).
  Conditions: none.
-/
namespace Go.Proofs.Ytdhicdnmgmkpkaa
set_option linter.unusedVariables false
open Go.RowKit Mono Rlp
namespace E
def pinF : List Obj → List (Value × D)
  | [] => []
  | .var g t d :: os => (.pointer (some ⟨g, 0, none⟩), .pd d) :: pinF os
  | .row v e z ds :: os => (v, .sl z ds) :: pinF os
  | .map _ _ _ _ :: os => pinF os
  | .it _ _ :: os => pinF os
def VSub (l : List (Tmp × R)) : List (Tmp × R) → Prop
  | [] => True
  | (t, .val (.v x)) :: m => look l t = some (.val (.v x)) ∧ VSub l m
  | _ :: _ => False
section
variable {N : Nat} {X X' : Cx N} {S S1 : St} {ops : Array Oper} {o : Oper} {Q : Exit → Act → World → Prop} {K : Act → World → Prop} {l : List Oper} {c : Code} {TT : St → List Fr → Prop} {EE : List Fr} {rs : List (Tmp × R)} {os : List Obj} {fs : List (Value × D)} {a : Act} {w : World}
def Back (X : Cx N) (S : St) (X' : Cx N) : Prop := (∀ b, ¬ X'.own0 b) ∧ ∃ a, At X S a X'.w0
theorem pinF_reads {base ok ok' : Nat → Prop} {w : World} : ∀ (os : List Obj), (∀ o ∈ os, o.At base ok w) → (∀ b, ok b → ok' b) → (∀ b, b < w.heap.size → ok' b) → ∀ f ∈ pinF os, Reads ok' w f.2 [f.1]
  | [], _, _, _, f, hf => by simp [pinF] at hf
  | .var g t d :: os, h, h1, h2, f, hf => by
    rw [pinF] at hf
    rcases List.mem_cons.1 hf with rfl | hf
    · obtain ⟨_, cs, g1, g2⟩ := h (.var g t d) (by simp)
      rw [Reads]
      exact ⟨g, 0, cs, rfl, h2 g (lt_of_some g1), range_of_row g1, Reads.mono h1 (fun _ _ => rfl) _ _ g2⟩
    · exact pinF_reads os (fun o ho => h o (by simp [ho])) h1 h2 f hf
  | .row v e z ds :: os, h, h1, h2, f, hf => by
    rw [pinF] at hf
    rcases List.mem_cons.1 hf with rfl | hf
    · obtain ⟨rows, g1, g2⟩ := h (.row v e z ds) (by simp)
      obtain ⟨g1, _⟩ := g1
      obtain ⟨A, c, rfl, hc1, hc2⟩ := own_form g1
      show Reads _ _ (D.sl z ds) [.slice A ds.length c]
      rw [Reads]
      refine ⟨A, c, rows, rfl, hc1, hc2, fun e => by subst e; exact own_none g1, ?_, ReadsRows.mono h1 (fun _ _ => rfl) z ds rows g2⟩
      intro hn
      obtain ⟨b, o, rfl, hb, hc⟩ := own_RdP g1 hn
      exact ⟨b, o, rfl, h2 b hb.2, hc⟩
    · exact pinF_reads os (fun o ho => h o (by simp [ho])) h1 h2 f hf
  | .map g n c es :: os, h, h1, h2, f, hf => pinF_reads os (fun o ho => h o (by simp [ho])) h1 h2 f (by rw [pinF] at hf; exact hf)
  | .it g o :: os, h, h1, h2, f, hf => pinF_reads os (fun o ho => h o (by simp [ho])) h1 h2 f (by rw [pinF] at hf; exact hf)
theorem At.aside (h : At X S a w) : At (N := N) ⟨w, fun b => b < w.heap.size, fun _ => False, fun _ hb => hb⟩ ⟨S.regs, [], pinF S.objs ++ S.facts⟩ a w := by
  have hok : ∀ b, X.ok S.objs w b → Cx.ok (N := N) ⟨w, fun b => b < w.heap.size, fun _ => False, fun _ hb => hb⟩ [] w b := fun b hb => ⟨.inl hb.2.1, hb.2.1, fun o ho => by cases ho⟩
  refine ⟨⟨.refl w, List.Pairwise.nil, (fun o ho => by cases ho), fun f hf => ?_⟩, fun t r hr => (h.regs t r hr).mono hok fun _ _ => rfl, h.size, h.defers⟩
  rcases List.mem_append.1 hf with hf | hf
  · exact pinF_reads S.objs h.mem.at_ hok (fun b hb => ⟨.inl hb, hb, fun o ho => by cases ho⟩) f hf
  · exact Reads.mono hok (fun _ _ => rfl) _ _ (h.mem.fact f hf)
theorem EC.aside (h : ∀ X' : Cx N, All X' → Back X S X' → EC X' Q c ⟨S.regs, [], pinF S.objs ++ S.facts⟩) : EC X Q c S := ⟨fun a w ha => (h ⟨w, fun b => b < w.heap.size, fun _ => False, fun _ hb => hb⟩ (fun _ hb => hb) ⟨fun _ h => h, a, ha⟩).go a w ha.aside⟩
theorem EL.aside (h : ∀ X' : Cx N, All X' → Back X S X' → EL X' ops Q l ⟨S.regs, [], pinF S.objs ++ S.facts⟩) : EL X ops Q l S := ⟨fun a w ha => (h ⟨w, fun b => b < w.heap.size, fun _ => False, fun _ hb => hb⟩ (fun _ hb => hb) ⟨fun _ h => h, a, ha⟩).go a w ha.aside⟩
theorem VSub.get {l : List (Tmp × R)} : ∀ (m : List (Tmp × R)), VSub l m → ∀ t r, look m t = some r → ∃ x, r = .val (.v x) ∧ look l t = some (.val (.v x))
  | [], _, t, r, h => by simp [look] at h
  | (u, .val (.v x)) :: m, hs, t, r, h => by
    rw [look] at h
    split at h
    · rename_i e
      cases h
      subst e
      exact ⟨x, rfl, hs.1⟩
    · exact VSub.get m hs.2 t r h
  | (u, .any) :: m, hs, t, r, h => hs.elim
  | (u, .tpl _) :: m, hs, t, r, h => hs.elim
  | (u, .val (.arr _ _)) :: m, hs, t, r, h => hs.elim
  | (u, .val (.bs _)) :: m, hs, t, r, h => hs.elim
  | (u, .val (.sl _ _)) :: m, hs, t, r, h => hs.elim
  | (u, .val (.tup _)) :: m, hs, t, r, h => hs.elim
  | (u, .val (.pd _)) :: m, hs, t, r, h => hs.elim
  | (u, .val (.ifc _ _)) :: m, hs, t, r, h => hs.elim
theorem At.back (hb : Back X S X') (hr : VSub S1.regs rs) (ha : At X' S1 a w) : At X ⟨rs, S.objs, S.facts⟩ a w := by
  obtain ⟨hno, a0, h0⟩ := hb
  refine ⟨(h0.gr (ha.mem.gr.gr hno)).mem, fun t r ht => ?_, ha.size, ha.defers⟩
  obtain ⟨x, rfl, h1⟩ := VSub.get rs hr t r ht
  exact readV_v.2 (readV_v.1 (ha.regs t _ h1))
theorem EC.back (hb : Back X S X') (rs : List (Tmp × R)) (hr : VSub S1.regs rs) (k : EC X Q c ⟨rs, S.objs, S.facts⟩) : EC X' Q c S1 := ⟨fun a w ha => k.go a w (At.back hb hr ha)⟩
theorem EL.back (hb : Back X S X') (rs : List (Tmp × R)) (hr : VSub S1.regs rs) (k : EL X ops Q l ⟨rs, S.objs, S.facts⟩) : EL X' ops Q l S1 := ⟨fun a w ha => k.go a w (At.back hb hr ha)⟩
theorem EK.back (hb : Back X S X') (rs : List (Tmp × R)) (hr : VSub S1.regs rs) (k : EK X K ⟨rs, S.objs, S.facts⟩) : EK X' K S1 := ⟨fun a w ha => k.go a w (At.back hb hr ha)⟩
theorem g_loadF {x : Operand} {T sz g n : Nat} {ag : Bool} {d d' : D} (i : Nat) (ho : o.op = .load T x) (hx : ev S x = some (.val (.v (.pointer (some ⟨g, n, none⟩))))) (hi : S.facts[i]? = some (.pointer (some ⟨g, 0, none⟩), .pd d)) (hT : assoc tyL T = some (sz, ag)) (hs : d.sub n sz ag = some d') : Still ops S o (.val d') := fun base ok a w ha => by
  have h1 := (readV_v.1 (ha.ev hx fun t e => looks_of e (by rw [ho]; simp [Op.operands]))).2
  have h2 := ha.facts _ (List.mem_of_getElem? hi)
  rw [Reads] at h2
  obtain ⟨b, n', cs, h3, h4, h5, h6⟩ := h2
  cases h3
  obtain ⟨e1, e2, pre, mid, post, rfl, e3, e4⟩ := sub_spec d n sz ag d' cs hs h6
  have hr := range_part h5
  rw [Nat.zero_add, e3] at hr
  refine ⟨form d' mid, ?_, mid, e4, rfl⟩
  unfold execOp
  simp only [ho, h1, Sem.run_bind, run_loadAt (d := d') (by rw [e1, e2]; exact tyI hT) e4 hr, Result.andThen_ok, Sem.run_pure]
theorem P_loadF {t ty : Nat} {pos : String} {af : Array Edge} {gd : Option (Nat × Bool)} {x : Operand} {T sz g n i : Nat} {ag : Bool} {d d' : D} (hx : ev (⟨rs, os, fs⟩ : St) x = some (.val (.v (.pointer (some ⟨g, n, none⟩))))) (hi : fs[i]? = some (.pointer (some ⟨g, 0, none⟩), .pd d)) (hT : assoc tyL T = some (sz, ag)) (hs : d.sub n sz ag = some d') (hg : guardOf ops ⟨rs, os, fs⟩ ⟨some t, .load T x, ty, pos, af, gd⟩ = some true) (hN : Nat.blt t N = true) (kk : EL X ops Q l ⟨(t, .val d') :: rs, os, fs⟩) : EL X ops Q (⟨some t, .load T x, ty, pos, af, gd⟩ :: l) ⟨rs, os, fs⟩ := ES.still (g_loadF i rfl hx hi hT hs) hg rfl hN kk
theorem H_loadF {t ty : Nat} {pos : String} {af : Array Edge} {gd : Option (Nat × Bool)} {x : Operand} {T sz g n i : Nat} {ag : Bool} {d d' : D} (hx : ev (⟨rs, os, fs⟩ : St) x = some (.val (.v (.pointer (some ⟨g, n, none⟩))))) (hi : fs[i]? = some (.pointer (some ⟨g, 0, none⟩), .pd d)) (hT : assoc tyL T = some (sz, ag)) (hs : d.sub n sz ag = some d') (hg : guardOf ops ⟨rs, os, fs⟩ ⟨some t, .load T x, ty, pos, af, gd⟩ = some true) (hoff : offB N (some t) EE = true) (kk : EM N ops TT l ⟨(t, .val d') :: rs, os, fs⟩ EE) : EM N ops TT (⟨some t, .load T x, ty, pos, af, gd⟩ :: l) ⟨rs, os, fs⟩ EE := EH.still (g_loadF i rfl hx hi hT hs) hg rfl hoff kk
end
end E
end Go.Proofs.Ytdhicdnmgmkpkaa
