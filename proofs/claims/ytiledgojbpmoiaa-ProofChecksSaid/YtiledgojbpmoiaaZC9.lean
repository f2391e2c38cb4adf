/-
 Merged (wip/tools/merge.py): EF, EG.
 Conditions: none.
-/
import Derived.Test.YtiledgojbpmoiaaZC7
import Derived.Test.YtiledgojbpmoiaaZC8
/-
 The abstract machine: functions and operations that write pieces which came in; each piece is told ahead and behind.
 Conditions: none.
-/
namespace Go.Proofs.Ytiledgojbpmoiaa
set_option linter.unusedVariables false
open Go.RowKit Mono Rlp
namespace E
abbrev Apart (os : List Obj) : Prop := os.Pairwise fun o p => ∀ b, o.blk = some b → p.blk ≠ some b
def Blks (os : List Obj) (b : Nat) : Prop := ∃ o ∈ os, o.blk = some b
structure Own (ok : Nat → Prop) (os : List Obj) (w : World) : Prop where
 at_ : ∀ o ∈ os, o.At (fun _ => True) ok w
 apart : Apart os
 off : ∀ b, Blks os b → ¬ ok b
def okM (ok : Nat → Prop) (os : List Obj) (w : World) (os' : List Obj) (w' : World) (b : Nat) : Prop := (ok b ∨ Blks os b ∨ w.heap.size ≤ b) ∧ b < w'.heap.size ∧ ∀ o ∈ os', o.blk ≠ some b
structure Turned (ok : Nat → Prop) (os : List Obj) (w : World) (os' : List Obj) (w' : World) : Prop where
 gr : GrE (Blks os) w w'
 apart : Apart os'
 at_ : ∀ o ∈ os', o.At (fun b => Blks os b ∨ w.heap.size ≤ b) (okM ok os w os' w') w'
structure Muts (ops : Array Oper) (S : St) (o : Oper) (os : List Obj) (Φ : R → List Obj → Prop) : Prop where
 go : ∀ base ok a w, Kn base ok (fun t => t ∈ o.looksAt ops) S a w → Own ok os w → setsTo Try.prog (fun v w' => ∃ r os', Φ r os' ∧ Turned ok os w os' w' ∧ ReadR (okM ok os w os' w') w' r v) ((execOp a.eval o).run Try.prog w)
structure FnM (f : FuncId) (ds : List D) (os : List Obj) (Φ : R → List Obj → Prop) : Prop where
 go : ∀ (ok : Nat → Prop) (w : World) (xs : List Value), (∀ b, ok b → b < w.heap.size) → Own ok os w → ReadVs ok w ds xs →
  Calls Try.prog f xs.toArray w fun e w' => ∃ v r os', e = .returned v ∧ Φ r os' ∧ Turned ok os w os' w' ∧ ReadR (okM ok os w os' w') w' r v
theorem FnM.mono {f : FuncId} {ds : List D} {os : List Obj} {Φ Ψ : R → List Obj → Prop} (h : FnM f ds os Φ) (k : ∀ r os', Φ r os' → Ψ r os') : FnM f ds os Ψ := ⟨fun ok w xs h1 h2 h3 => (h.go ok w xs h1 h2 h3).mono fun e w' ⟨v, r, os', e1, e2, e3⟩ => ⟨v, r, os', e1, k _ _ e2, e3⟩⟩
theorem Blks.perm {os os' : List Obj} (h : os.Perm os') (b : Nat) : Blks os b ↔ Blks os' b := ⟨fun ⟨o, h1, h2⟩ => ⟨o, h.mem_iff.1 h1, h2⟩, fun ⟨o, h1, h2⟩ => ⟨o, h.mem_iff.2 h1, h2⟩⟩
theorem Apart.perm {os os' : List Obj} (h : os.Perm os') (ha : Apart os) : Apart os' := h.pairwise ha fun {x y} hxy b hb e => hxy b e hb
theorem Own.perm {ok : Nat → Prop} {os os' : List Obj} {w : World} (h : os.Perm os') (ho : Own ok os w) : Own ok os' w := ⟨fun o hm => ho.at_ o (h.mem_iff.2 hm), Apart.perm h ho.apart, fun b hb => ho.off b ((Blks.perm h b).2 hb)⟩
theorem FnM.perm {f : FuncId} {ds : List D} {os os2 : List Obj} {Φ : R → List Obj → Prop} (h : FnM f ds os Φ) (hp : os.Perm os2) : FnM f ds os2 Φ := by
 have hb : Blks os = Blks os2 := funext fun b => propext (Blks.perm hp b)
 refine ⟨fun ok w xs h1 h2 h3 => (h.go ok w xs h1 (h2.perm hp.symm) h3).mono fun e w' ⟨v, r, os', e1, e2, e3, e4⟩ => ⟨v, r, os', e1, e2, ?_, ?_⟩⟩
 ·
  refine ⟨hb ▸ e3.gr, e3.apart, fun o ho => ?_⟩
  have := e3.at_ o ho
  unfold okM at this ⊢
  rw [hb] at this
  exact this
 ·
  unfold okM at e4 ⊢
  rw [hb] at e4
  exact e4
section
variable {N : Nat} {X : Cx N} {S : St} {a : Act} {w w' : World} {ops : Array Oper} {o : Oper} {Q : Exit → Act → World → Prop} {l : List Oper} {rs : List (Tmp × R)} {os os' rest : List Obj} {fs : List (Value × D)} {Φ : R → List Obj → Prop}
theorem Mem.own (h : Mem X (os ++ rest) fs w) : Own (X.ok (os ++ rest) w) os w :=
 ⟨fun o ho => (h.at_ o (List.mem_append_left _ ho)).rebase fun _ _ => trivial, (List.pairwise_append.1 h.apart).1, fun b ⟨o, ho, hb⟩ hk => hk.2.2 o (List.mem_append_left _ ho) hb⟩
theorem turned_ok (h : Mem X (os ++ rest) fs w) (ht : Turned (X.ok (os ++ rest) w) os w os' w') {b : Nat} (hb : okM (X.ok (os ++ rest) w) os w os' w' b) : X.ok (os' ++ rest) w' b := by
 have hsz := h.gr.size
 refine ⟨?_, hb.2.1, fun o ho => ?_⟩
 ·
  rcases hb.1 with h1 | ⟨o, ho, e⟩ | h1
  · exact h1.1
  · exact .inr (Obj.blk_lt (h.at_ o (List.mem_append_left _ ho)) e).1
  · exact .inr (.inr (Nat.le_trans hsz h1))
 ·
  rcases List.mem_append.1 ho with ho | ho
  · exact hb.2.2 o ho
  ·
   intro e
   have hlt := (Obj.blk_lt (h.at_ o (List.mem_append_right _ ho)) e).2
   rcases hb.1 with h1 | ⟨o', ho', e'⟩ | h1
   · exact h1.2.2 o (List.mem_append_right _ ho) e
   · exact (List.pairwise_append.1 h.apart).2.2 o' ho' o ho b e' e
   · omega
theorem turned_old (h : Mem X (os ++ rest) fs w) (ht : Turned (X.ok (os ++ rest) w) os w os' w') {b : Nat} (hb : X.ok (os ++ rest) w b) : X.ok (os' ++ rest) w' b := turned_ok h ht ⟨.inl hb, Nat.lt_of_lt_of_le hb.2.1 ht.gr.size, fun o ho e => by
 rcases (Obj.blk_lt (ht.at_ o ho) e).1 with ⟨o', ho', e'⟩ | h1
 · exact hb.2.2 o' (List.mem_append_left _ ho') e'
 ·
  have := hb.2.1
  omega⟩
theorem turned_cell (h : Mem X (os ++ rest) fs w) (ht : Turned (X.ok (os ++ rest) w) os w os' w') (p : Addr) (hp : X.ok (os ++ rest) w p.block) : w'.cell? p = w.cell? p := ht.gr.cell hp.2.1 fun ⟨o, ho, e⟩ => hp.2.2 o (List.mem_append_left _ ho) e
theorem Mem.turned (h : Mem X (os ++ rest) fs w) (ht : Turned (X.ok (os ++ rest) w) os w os' w') : Mem X (os' ++ rest) fs w' := by
 have hold : ∀ b, X.ok (os ++ rest) w b → X.ok (os' ++ rest) w' b := fun b => turned_old h ht
 have hcell := turned_cell h ht
 have hap := List.pairwise_append.1 h.apart
 refine ⟨h.gr.step ht.gr fun b ⟨o, ho, e⟩ => (Obj.blk_lt (h.at_ o (List.mem_append_left _ ho)) e).1, List.pairwise_append.2 ⟨ht.apart, hap.2.1, fun o ho p hp b e e' => ?_⟩, fun o ho => ?_, fun f hf => Reads.mono hold hcell _ _ (h.fact f hf)⟩
 ·
  have hlt := (Obj.blk_lt (h.at_ p (List.mem_append_right _ hp)) e').2
  rcases (Obj.blk_lt (ht.at_ o ho) e).1 with ⟨o', ho', e''⟩ | h1
  · exact hap.2.2 o' ho' p hp b e'' e'
  · omega
 ·
  rcases List.mem_append.1 ho with ho | ho
  ·
   refine ((ht.at_ o ho).move (fun b hb => turned_ok h ht hb) (fun _ _ => rfl) fun _ _ => rfl).rebase fun b e => ?_
   rcases (Obj.blk_lt (ht.at_ o ho) e).1 with ⟨o', ho', e'⟩ | h1
   · exact (Obj.blk_lt (h.at_ o' (List.mem_append_left _ ho')) e').1
   · exact .inr (Nat.le_trans h.gr.size h1)
  ·
   have hat := h.at_ o (List.mem_append_right _ ho)
   exact hat.move hold hcell fun g e => ht.gr.block g (Obj.blk_lt hat e).2 fun ⟨o', ho', e'⟩ => hap.2.2 o' ho' o ho g e' e
theorem EL.mut (hg : guardOf ops ⟨rs, os ++ rest, fs⟩ o = some true) (hd : ∀ t, o.dst = some t → t < N) (hO : Muts ops ⟨rs, rest, fs⟩ o os Φ) (k : ∀ r os', Φ r os' → EL X ops Q l (St.put ⟨rs, os' ++ rest, fs⟩ o.dst r)) : EL X ops Q (o :: l) ⟨rs, os ++ rest, fs⟩ := by
 constructor
 intro a w ha
 have hk := ha.kn fun t => t ∈ o.looksAt ops
 have h1 := hO.go _ _ a w ⟨fun o ho => hk.objs o (List.mem_append_right _ ho), hk.facts, hk.lt, hk.regs⟩ ha.mem.own
 have hnext : ∀ v w', (∃ r os', Φ r os' ∧ Turned (X.ok (os ++ rest) w) os w os' w' ∧ ReadR (okM (X.ok (os ++ rest) w) os w os' w') w' r v) → wpList Try.prog ops Q l (a.put o.dst v) w' := by
  rintro v w' ⟨r, os', hΦ, ht, hv⟩
  have hat : At X ⟨rs, os' ++ rest, fs⟩ a w' := ⟨ha.mem.turned ht, fun t r hr => (ha.regs t r hr).mono (fun b hb => turned_old ha.mem ht hb) (turned_cell ha.mem ht), ha.size, ha.defers⟩
  exact (k r os' hΦ).go _ _ (hat.put hd (hv.mono (fun b hb => turned_ok ha.mem ht hb) fun _ _ => rfl))
 unfold wpList
 rw [if_pos (wanted_of ha hg)]
 refine .inl ?_
 unfold Oper.wp
 generalize (execOp a.eval o).run Try.prog w = res at *
 cases res with
 | ok x w' =>
  cases x <;> simp only [setsTo] at h1 <;> simp only [Oper.upon]
  case value v => exact hnext _ _ h1
  case skip => exact hnext _ _ h1
  case enter g args =>
   refine h1.mono fun e w'' ⟨v, he, hv⟩ => ?_
   subst he
   exact hnext _ _ hv
 | halt x w' => simp only [setsTo] at h1
theorem m_call {f : FuncId} {args : Array Operand} {tys : Array TypeId} {ds ds' : List D} (hF : FnM f ds' os Φ) (ho : o.op = .call { callee := .value (.func f), args := args, argTypes := tys }) (hx : evs S args.toList = some ds) (hR : RefineL S.facts ds ds') (hf : Enters f) : Muts ops S o os Φ := .mk fun base ok a w ha hown => by
 have hr := RefineL.readVs ha.facts _ _ _ hR (ha.evs _ _ hx fun t ht => looks_of (x := .tmp t) rfl (by rw [ho]; simp only [Op.operands, Call.operands]; simp; simpa using ht))
 have hrun : (execOp a.eval o).run Try.prog w = .ok (.enter f (args.map a.eval)) w := by
  unfold execOp
  simp [ho, resolve, Act.eval, Deferred.ofValue, invoke, hf (args.map a.eval) w]
 rw [hrun]
 have := hF.go ok w _ ha.lt hown hr
 have he : (args.toList.map a.eval).toArray = args.map a.eval := by
  apply Array.ext'
  simp
 rw [he] at this
 simp only [setsTo]
 refine this.mono ?_
 rintro e w' ⟨v, r, os', rfl, h1, h2, h3⟩
 exact ⟨v, rfl, r, os', h1, h2, h3⟩
def OutM (X : Cx N) (Φ : R → List Obj → Prop) (e : Ending) (w' : World) : Prop := ∃ v r os', e = .returned v ∧ Φ r os' ∧ Mem X os' [] w' ∧ ReadR (X.ok os' w') w' r v
theorem FnM.walk {f : FuncId} {fn : Func} {c : Code} {ds : List D} (N : Nat) (hf : Try.prog.funcs[f]? = some fn) (hb : fn.body = some c) (hN : fn.ntmps = N) (hl : ds.length ≤ N)
  (h : ∀ X : Cx N, EC X (bodyPost Try.prog fn (OutM X Φ)) c ⟨regsOf 0 ds, os, []⟩) : FnM f ds os Φ := by
 constructor
 intro ok w xs hok hown hr
 have hxl := readVs_len ds xs hr
 refine Calls.mono (calls_of_wp hf hb ((h ⟨w, ok, Blks os, hok⟩).go _ w ⟨⟨.refl w, hown.apart, fun o ho => ?_, (fun f hf => by cases hf)⟩, fun t r ht => ?_, ?_, rfl⟩)) ?_
 · exact ((hown.at_ o ho).move (fun b hb => ⟨.inl hb, hok b hb, fun o' ho' e => hown.off b ⟨o', ho', e⟩ hb⟩) (fun _ _ => rfl) fun _ _ => rfl).rebase fun b e => .inl ⟨o, ho, e⟩
 ·
  refine regs_read ds xs 0 _ (ReadVs.mono (fun b hb => ⟨.inl hb, hok b hb, fun o' ho' e => hown.off b ⟨o', ho', e⟩ hb⟩) (fun _ _ => rfl) ds xs hr) (fun j x hx => ?_) t r ht
  have hj := (List.getElem?_eq_some_iff.1 hx).1
  have : (xs.toArray ++ Array.replicate (fn.ntmps - xs.toArray.size) undef)[j]? = some x := by
   rw [Array.getElem?_append_left (by simpa using hj)]
   simpa using hx
  rw [Nat.zero_add, Array.getD_eq_getD_getElem?, this]
  rfl
 ·
  simp [hN]
  omega
 ·
  rintro e w' ⟨v, r, os', rfl, h1, h2, h3⟩
  exact ⟨v, r, os', rfl, h1, ⟨h2.gr, h2.apart, h2.at_⟩, h3⟩
variable {fn : Func}
theorem EK.retM1 {t : Tmp} {r : R} (hres : fn.results = #[.tmp t]) (hl : look S.regs t = some r) (hΦ : Φ r S.objs) : EK X (bodyPost Try.prog fn (OutM X Φ) .ret) S := by
 constructor
 intro a w ha
 exact bodyPost_ret (results_tmp hres a.tmps Try.prog w) ha.defers ⟨_, r, S.objs, rfl, hΦ, ha.mem.less (List.Sublist.refl _) (fun f hf => by cases hf), ha.regs t r hl⟩
theorem EK.retM2r {t u : Tmp} {d e d' e' : D} (hres : fn.results = #[.tmp t, .tmp u]) (hl : look S.regs t = some (.val d)) (hk : look S.regs u = some (.val e)) (hR : RefineL S.facts [d, e] [d', e']) (hΦ : Φ (.tpl [d', e']) S.objs) : EK X (bodyPost Try.prog fn (OutM X Φ) .ret) S := by
 constructor
 intro a w ha
 obtain ⟨h1, h2⟩ := hR.cons
 exact bodyPost_ret (results_tmp2 hres a.tmps Try.prog w) ha.defers ⟨_, _, S.objs, rfl, hΦ, ha.mem.less (List.Sublist.refl _) (fun f hf => by cases hf), [a.tmps.getD t undef, a.tmps.getD u undef], rfl, _, _, rfl, Refine1.readV ha.mem.fact h1 (ha.regs t _ hl), _, _, rfl, Refine1.readV ha.mem.fact h2 (ha.regs u _ hk), rfl⟩
end
end E
end Go.Proofs.Ytiledgojbpmoiaa
/-
 The abstract machine at regions that draw their order and hold operations which write pieces that came in: free operations (in whatever order, at whatever time), and a chain, each behind the one ahead of it.
 Conditions: none.
-/
namespace Go.Proofs.Ytiledgojbpmoiaa
set_option linter.unusedVariables false
open Go.RowKit Mono Rlp
namespace E
def pickL (l : List Oper) (ix : List Nat) : List Oper := ix.filterMap (l[·]?)
def CH (N : Nat) (ops : Array Oper) (os1 : List Obj) (T : St → Prop) : List Oper → St → Prop
 | [], S => T S
 | o :: l, S => (∀ t, o.dst = some t → t < N) ∧ ((∃ inf : Inf, inf.noPut = true ∧ OkI N ops S o inf ∧ CH N ops os1 T l (S.put o.dst inf.reg)) ∨
   ∃ os rest Φ, S.objs = os ++ (rest ++ os1) ∧ guardOf ops S o = some true ∧ Muts ops ⟨S.regs, rest ++ os1, S.facts⟩ o os Φ ∧ ∀ r os', Φ r os' → CH N ops os1 T l (St.put ⟨S.regs, os' ++ (rest ++ os1), S.facts⟩ o.dst r))
theorem CH.seg {N : Nat} {ops : Array Oper} {os1 : List Obj} {T : St → Prop} {l2 : List Oper} : ∀ (l1 : List Oper) (S : St) (E : List Fr), EM N ops (fun S' _ => CH N ops os1 T l2 S') l1 S E → CH N ops os1 T (l1 ++ l2) S
 | [], S, E, h => h
 | o :: l1, S, E, ⟨inf, h0, h1, h2, h3, h4⟩ => ⟨fun t ht => by
   rw [ht] at h1
   simp only [offB, Bool.and_eq_true, decide_eq_true_eq] at h1
   exact h1.1, .inl ⟨inf, h0, h3, CH.seg l1 _ _ h4⟩⟩
theorem CH.cut {N : Nat} {ops : Array Oper} {os1 : List Obj} {T : St → Prop} {l : List Oper} {S : St} (k : Nat) (h : EM N ops (fun S' _ => CH N ops os1 T (l.drop k) S') (l.take k) S []) : CH N ops os1 T l S := by
 have := CH.seg _ _ _ h
 rwa [List.take_append_drop] at this
theorem CH.nil {N : Nat} {ops : Array Oper} {os1 : List Obj} {T : St → Prop} {S : St} (h : T S) : CH N ops os1 T [] S := h
theorem CH.mut {N : Nat} {ops : Array Oper} {os1 os rest : List Obj} {T : St → Prop} {rs : List (Tmp × R)} {fs : List (Value × D)} {Φ : R → List Obj → Prop} {o : Oper} {l : List Oper} (hd : dstB N o.dst = true) (hg : guardOf ops ⟨rs, os ++ (rest ++ os1), fs⟩ o = some true) (hO : Muts ops ⟨rs, rest ++ os1, fs⟩ o os Φ)
  (k : ∀ r os', Φ r os' → CH N ops os1 T l (St.put ⟨rs, os' ++ (rest ++ os1), fs⟩ o.dst r)) : CH N ops os1 T (o :: l) ⟨rs, os ++ (rest ++ os1), fs⟩ := ⟨dst_of hd, .inr ⟨os, rest, Φ, rfl, hg, hO, k⟩⟩
def chainOkB (l : List Oper) (n : Nat) (free chain : List Nat) : Bool :=
 (List.range n).all (fun k => free.contains k != chain.contains k) && free.all (fun k => decide (k < n)) && chain.all (fun k => decide (k < n)) && decide (n ≤ l.length) &&
 (List.range free.length).all (fun i => (List.range i).all fun j => decide (free.getD j 0 < free.getD i 0)) && (List.range chain.length).all (fun i => (List.range i).all fun j => decide (chain.getD j 0 < chain.getD i 0)) &&
 (List.range chain.length).all (fun i => i == 0 || match l[chain.getD i 0]? with
  | some o => o.after.toList.any fun e => Region.binds .any e && e.on == chain.getD (i - 1) 0
  | none => false) &&
 (List.range n).all (fun k => match l[k]? with
  | some o => (o.looksAt l.toArray).all (fun t => (List.range n).all fun j => decide (j < k) || (l[j]?.bind (·.dst)) != some t) &&
   (match o.dst with
    | some t => (List.range k).all fun j => (l[j]?.bind (·.dst)) != some t
    | none => true)
  | none => false) &&
 free.all (fun k => match l[k]? with
  | some o => (o.looksAt l.toArray).all fun t => chain.all fun j => (l[j]?.bind (·.dst)) != some t
  | none => true)
structure ChainOk (l : List Oper) (n : Nat) (free chain : List Nat) : Prop where
 part : ∀ k, k < n → (k ∈ free ∧ k ∉ chain) ∨ (k ∉ free ∧ k ∈ chain)
 flt : ∀ k ∈ free, k < n
 clt : ∀ k ∈ chain, k < n
 le : n ≤ l.length
 fup : ∀ i j : Nat, j < i → i < free.length → free.getD j 0 < free.getD i 0
 cup : ∀ i j : Nat, j < i → i < chain.length → chain.getD j 0 < chain.getD i 0
 wait : ∀ (i : Nat) (o : Oper), 0 < i → i < chain.length → l[chain.getD i 0]? = some o → ∃ e ∈ o.after, Region.binds .any e = true ∧ e.on = chain.getD (i - 1) 0
 back : ∀ (k j : Nat) (o oj : Oper) (t : Tmp), k < n → l[k]? = some o → t ∈ o.looksAt l.toArray → k ≤ j → j < n → l[j]? = some oj → oj.dst ≠ some t
 free : ∀ (k j : Nat) (o oj : Oper) (t : Tmp), k ∈ free → l[k]? = some o → t ∈ o.looksAt l.toArray → j ∈ chain → l[j]? = some oj → oj.dst ≠ some t
 once : ∀ (k j : Nat) (o oj : Oper) (t : Tmp), k < n → l[k]? = some o → o.dst = some t → j < k → l[j]? = some oj → oj.dst ≠ some t
theorem chainOk_of {l : List Oper} {n : Nat} {free chain : List Nat} (h : chainOkB l n free chain = true) : ChainOk l n free chain := by
 unfold chainOkB at h
 simp only [Bool.and_eq_true, List.all_eq_true, List.mem_range, decide_eq_true_eq] at h
 obtain ⟨⟨⟨⟨⟨⟨⟨⟨h1, h2⟩, h3⟩, h4⟩, h5⟩, h6⟩, h7⟩, h8⟩, h9⟩ := h
 refine ⟨fun k hk => ?_, h2, h3, h4, fun i j hj hi => h5 i hi j hj, fun i j hj hi => h6 i hi j hj, fun i o hi hl ho => ?_, fun k j o oj t hk ho ht hkj hj hoj e => ?_, fun k j o oj t hk ho ht hj hoj e => ?_, fun k j o oj t hk ho ht hj hoj e => ?_⟩
 ·
  have := h1 k hk
  by_cases e1 : k ∈ free <;> by_cases e2 : k ∈ chain <;> simp [e1, e2] at this ⊢
 ·
  have := h7 i hl
  rw [ho] at this
  simp only [Bool.or_eq_true, beq_iff_eq] at this
  rcases this with h | h
  · omega
  ·
   obtain ⟨e, he, hb⟩ := List.any_eq_true.1 h
   simp only [Bool.and_eq_true, beq_iff_eq] at hb
   exact ⟨e, by simpa using he, hb.1, hb.2⟩
 ·
  have := h8 k hk
  rw [ho] at this
  simp only [Bool.and_eq_true, List.all_eq_true, List.mem_range] at this
  have := this.1 t ht j hj
  rw [hoj] at this
  simp [e] at this
  omega
 ·
  have := h9 k hk
  rw [ho] at this
  simp only [List.all_eq_true] at this
  have := this t ht j hj
  rw [hoj] at this
  simp [e] at this
 ·
  have := h8 k hk
  rw [ho] at this
  simp only [Bool.and_eq_true] at this
  have := this.2
  rw [ht] at this
  simp only [List.all_eq_true, List.mem_range] at this
  have := this j hj
  rw [hoj] at this
  simp [e] at this
theorem pickL_get {l : List Oper} : ∀ (ix : List Nat), (∀ k ∈ ix, k < l.length) → (pickL l ix).length = ix.length ∧ ∀ p : Nat, p < ix.length → (pickL l ix)[p]? = l[ix.getD p 0]?
 | [], _ => ⟨rfl, fun p h => absurd h (by simp)⟩
 | k :: ix, h => by
  have hk := h k (by simp)
  obtain ⟨h1, h2⟩ := pickL_get ix fun j hj => h j (by simp [hj])
  have e : pickL l (k :: ix) = l[k] :: pickL l ix := by
   unfold pickL
   rw [List.filterMap_cons]
   simp [hk]
  rw [e]
  refine ⟨by simp [h1], fun p hp => ?_⟩
  cases p with
  | zero => simp [hk]
  | succ p => simpa using h2 p (by simpa using hp)
theorem setsTo_mono {V V' : VP} {r : Result Next} (h : setsTo Try.prog V r) (k : ∀ v w', V v w' → V' v w') : setsTo Try.prog V' r := by
 cases r with
 | ok x w' =>
  cases x <;> simp only [setsTo] at h ⊢
  case value v => exact k _ _ h
  case skip => exact k _ _ h
  case enter g args => exact h.mono fun e w'' ⟨v, he, hv⟩ => ⟨v, he, k _ _ hv⟩
 | halt x w' => simp only [setsTo] at h
theorem stAt_from : ∀ (l : List Oper) (infs : List Inf) (k : Nat) (S : St) (t : Tmp) (r : R), look (stAt S l infs k).regs t = some r →
  (∃ q o i, q < k ∧ l[q]? = some o ∧ infs[q]? = some i ∧ o.dst = some t ∧ r = i.reg) ∨ look S.regs t = some r
 | _, _, 0, S, t, r, h => .inr (by simpa [stAt] using h)
 | [], infs, k + 1, S, t, r, h => .inr (by simpa [stAt] using h)
 | o :: l, [], k + 1, S, t, r, h => .inr (by simpa [stAt] using h)
 | o :: l, i :: infs, k + 1, S, t, r, h => by
  rw [stAt] at h
  rcases stAt_from l infs k _ t r h with ⟨q, oq, iq, h1, h2, h3, h4, h5⟩ | h1
  · exact .inl ⟨q + 1, oq, iq, by omega, by simpa using h2, by simpa using h3, h4, h5⟩
  ·
   cases hd : o.dst with
   | none => rw [hd] at h1; exact .inr h1
   | some d =>
    rw [hd] at h1
    simp only [St.put, look] at h1
    split at h1
    ·
     rename_i e
     cases h1
     exact .inl ⟨0, o, i, by omega, rfl, rfl, by rw [hd, e], rfl⟩
    · exact .inr h1
section
variable {N : Nat} {X : Cx N} {S : St} {a : Act} {Q : Exit → Act → World → Prop} {l : List Oper}
structure Real (X : Cx N) (l : List Oper) (n : Nat) (ch : List Nat) (a : Act) (RF : List (Tmp × R)) (os1 : List Obj) (fs : List (Value × D)) (S : St) (L : Nat → Prop) (vs : Nat → Value) (u : World) : Prop where
 mem : Mem X S.objs S.facts u
 tail : ∃ os, S.objs = os ++ os1
 facts : S.facts = fs
 regs : ∀ t r, look S.regs t = some r → (∀ j o, j < n → l[j]? = some o → o.dst = some t → L j → ReadR (X.ok S.objs u) u r (vs j)) ∧ ((∀ j o, j < n → l[j]? = some o → o.dst ≠ some t) → ReadR (X.ok S.objs u) u r (a.tmps.getD t undef))
 free : ∀ t r, look RF t = some r → (∀ j o, j ∈ ch → l[j]? = some o → o.dst ≠ some t) → look S.regs t = some r
set_option maxHeartbeats 2000000 in
theorem EC.drawC {id : Nat} (n : Nat) (free chain : List Nat) (os0 os1 : List Obj) (hB : monoB l.toArray n N = true) (hC : chainOkB l n free chain = true) (hS : S.objs = os0 ++ os1)
  (h : EM N l.toArray (fun S' _ => CH N l.toArray os1 (fun S'' => EL X l.toArray Q (l.drop n) S'') (pickL l chain) ⟨S'.regs, os0 ++ os1, S.facts⟩) (pickL l free) ⟨S.regs, os1, S.facts⟩ []) : EC X Q (.region id l.toArray true) S := by
 constructor
 intro a ws ha
 have C := chainOk_of hC
 obtain ⟨infs, hlen, hok, hT, hnp⟩ := em_list _ _ _ h
 have hfree := pickL_get (l := l) free fun k hk => Nat.lt_of_lt_of_le (C.flt k hk) C.le
 have hchain := pickL_get (l := l) chain fun k hk => Nat.lt_of_lt_of_le (C.clt k hk) C.le
 rw [hfree.1] at hlen hT
 have hdst : ∀ k o, l[k]? = some o → dstOf l.toArray k = o.dst := fun k o ho => by unfold dstOf; simp [ho]
 have hsl : ∀ k o L vs (b : Act) t, k < n → l[k]? = some o → t ∈ o.looksAt l.toArray → SlotOk l.toArray L vs a b k t → (∃ j oj, j < n ∧ l[j]? = some oj ∧ oj.dst = some t ∧ L j ∧ b.tmps.getD t undef = vs j) ∨ ((∀ j o, j < n → l[j]? = some o → o.dst ≠ some t) ∧ b.tmps.getD t undef = a.tmps.getD t undef) := fun k o L vs b t hk ho ht hs => by
  rcases hs with ⟨j, h1, h2, h3, h4, h5⟩ | ⟨h1, h2⟩
  ·
   have hj : j < l.length := by have := C.le; omega
   exact .inl ⟨j, l[j], by omega, by simp, by rw [← hdst j l[j] (by simp)]; exact h2, h4, h5⟩
  ·
   refine .inr ⟨fun j oj hj hoj e => ?_, h2⟩
   rcases Nat.lt_or_ge j k with h3 | h3
   · exact h1 j h3 (by rw [hdst j oj hoj]; exact e)
   · exact C.back k j o oj t hk ho ht h3 hj hoj e
 have huniq : ∀ j j' o o' t, j < n → j' < n → l[j]? = some o → l[j']? = some o' → o.dst = some t → o'.dst = some t → j = j' := fun j j' o o' t hj hj' ho ho' hd hd' => by
  rcases Nat.lt_trichotomy j j' with h | h | h
  · exact absurd hd (C.once j' j o' o t hj' ho' hd' h ho)
  · exact h
  · exact absurd hd' (C.once j j' o o' t hj ho hd h ho')
 -- what is known of the free operations' slots
 let RF := (stAt ⟨S.regs, os1, S.facts⟩ (pickL l free) infs free.length).regs
 have hRF : ∀ t r, look RF t = some r → (∃ p o i, p < free.length ∧ l[free.getD p 0]? = some o ∧ infs[p]? = some i ∧ o.dst = some t ∧ r = i.reg) ∨ look S.regs t = some r := fun t r hr => by
  rcases stAt_from _ _ _ _ _ _ hr with ⟨q, oq, iq, h1, h2, h3, h4, h5⟩ | h1
  · exact .inl ⟨q, oq, iq, h1, by rw [← hfree.2 q h1]; exact h2, h3, h4, h5⟩
  · exact .inr h1
 have hfl : ∀ p, p < free.length → free.getD p 0 < n ∧ free.getD p 0 ∈ free := fun p hp => by
  have : free.getD p 0 ∈ free := by
   rw [List.getD_eq_getElem?_getD, List.getElem?_eq_getElem hp]
   exact List.getElem_mem hp
  exact ⟨C.flt _ this, this⟩
 have hcl : ∀ p, p < chain.length → chain.getD p 0 < n ∧ chain.getD p 0 ∈ chain := fun p hp => by
  have : chain.getD p 0 ∈ chain := by
   rw [List.getD_eq_getElem?_getD, List.getElem?_eq_getElem hp]
   exact List.getElem_mem hp
  exact ⟨C.clt _ this, this⟩
 have hput : ∀ p o i, p < free.length → l[free.getD p 0]? = some o → infs[p]? = some i → ∀ t, o.dst = some t → look RF t = some i.reg := fun p o i hp ho hi t ht => by
  have hlk := (stAt_look (pickL l free) infs free.length ⟨S.regs, os1, S.facts⟩ t (by rw [hlen, hfree.1]) (by rw [hfree.1]; exact Nat.le_refl _)).1
  refine hlk p o i hp (by rw [hfree.2 p hp]; exact ho) hi ht fun m om h1 h2 h3 e => ?_
  rw [hfree.2 m h2] at h3
  have := huniq _ _ _ _ t (hfl p hp).1 (hfl m h2).1 ho h3 ht e
  have := C.fup m p h1 h2
  omega
 have hmono : ∀ p o t r, p < free.length → l[free.getD p 0]? = some o → t ∈ o.looksAt l.toArray → look (stAt ⟨S.regs, os1, S.facts⟩ (pickL l free) infs p).regs t = some r → look RF t = some r := fun p o t r hp ho ht hr => by
  rcases stAt_from _ _ _ _ _ _ hr with ⟨q, oq, iq, h1, h2, h3, h4, h5⟩ | h1
  ·
   rw [h5]
   have hq : q < free.length := by omega
   exact hput q oq iq hq (by rw [← hfree.2 q hq]; exact h2) h3 t h4
  ·
   have hlk := (stAt_look (pickL l free) infs free.length ⟨S.regs, os1, S.facts⟩ t (by rw [hlen, hfree.1]) (by rw [hfree.1]; exact Nat.le_refl _)).2
   have hpre := (stAt_look (pickL l free) infs p ⟨S.regs, os1, S.facts⟩ t (by rw [hlen, hfree.1]) (by rw [hfree.1]; exact Nat.le_of_lt hp))
   by_cases hex : ∃ m om, m < p ∧ (pickL l free)[m]? = some om ∧ om.dst = some t
   ·
    -- what was put ahead stays
    obtain ⟨m, om, g1, g2, g3⟩ := hex
    have hm : m < free.length := by omega
    obtain ⟨inf, hi⟩ : ∃ inf, infs[m]? = some inf := ⟨infs[m]'(by omega), by simp⟩
    have e1 := hpre.1 m om inf g1 g2 hi g3 fun m' om' h1 h2 h3 e => by
     rw [hfree.2 m' (by omega)] at h3
     rw [hfree.2 m hm] at g2
     have := huniq _ _ _ _ t (hfl m hm).1 (hfl m' (by omega)).1 g2 h3 g3 e
     have := C.fup m' m h1 (by omega)
     omega
    rw [hr] at e1
    cases e1
    exact hput m om inf hm (by rw [← hfree.2 m hm]; exact g2) hi t g3
   have := hlk fun m om h2 h3 e => by
    rcases Nat.lt_or_ge m p with h4 | h4
    · exact hex ⟨m, om, h4, h3, e⟩
    ·
     rw [hfree.2 m h2] at h3
     have hle : free.getD p 0 ≤ free.getD m 0 := by
      rcases Nat.lt_or_ge p m with h5 | h5
      · exact Nat.le_of_lt (C.fup m p h5 h2)
      · rw [show m = p by omega]; exact Nat.le_refl _
     exact C.back _ _ o om t (hfl p hp).1 ho ht hle (hfl m h2).1 h3 e
   show look (stAt ⟨S.regs, os1, S.facts⟩ (pickL l free) infs free.length).regs t = some r
   rw [this]
   exact h1
 have hT' : CH N l.toArray os1 (fun S'' => EL X l.toArray Q (l.drop n) S'') (pickL l chain) ⟨RF, os0 ++ os1, S.facts⟩ := hT
 clear hT h
 refine wp_region_set' n (by kernel_rfl) (by rw [ha.size]; exact hB) (fun L vs u => ∃ i Si, i ≤ chain.length ∧ (∀ p, p < i → L (chain.getD p 0)) ∧ (∀ p, i ≤ p → p < chain.length → ¬ L (chain.getD p 0)) ∧ CH N l.toArray os1 (fun S'' => EL X l.toArray Q (l.drop n) S'') ((pickL l chain).drop i) Si ∧ Real X l n chain a RF os1 S.facts Si L vs u) ?_ ?_ ?_ ?_
 ·
  rintro L L' vs vs' w hL hvs ⟨i, Si, h1, h2, h3, h4, h5⟩
  obtain rfl : L = L' := funext fun j => propext (hL j)
  refine ⟨i, Si, h1, h2, h3, h4, h5.mem, h5.tail, h5.facts, fun t r hr => ?_, h5.free⟩
  obtain ⟨g1, g2⟩ := h5.regs t r hr
  exact ⟨fun j o hj ho hd hL => by rw [← hvs j hL]; exact g1 j o hj ho hd hL, g2⟩
 ·
  have had : At X S a ws.drew := ha.gr (by exact ⟨rfl, rfl, rfl, Nat.le_refl _, fun _ _ => rfl⟩)
  refine ⟨0, ⟨RF, os0 ++ os1, S.facts⟩, Nat.zero_le _, fun p hp => absurd hp (by omega), fun _ _ _ h => h.elim, by rw [List.drop_zero]; exact hT', ?_, ⟨os0, rfl⟩, rfl, fun t r hr => ⟨fun _ _ _ _ _ h => h.elim, fun hno => ?_⟩, fun t r hr _ => hr⟩
  · rw [← hS]; exact had.mem
  ·
   rcases hRF t r hr with ⟨p, o, i, h1, h2, h3, h4, h5⟩ | h1
   · exact absurd h4 (hno _ o (hfl p h1).1 h2)
   ·
    rw [← hS]
    exact had.regs t r h1
 ·
  intro k o L vs b u hk ho hL hLk ⟨i, Si, h1, h2, h3, h4, h5⟩ hslot hwait
  rcases C.part k hk with ⟨hkf, hkc⟩ | ⟨hkf, hkc⟩
  ·
   -- a free operation
   obtain ⟨p, hp, rfl⟩ : ∃ p, p < free.length ∧ free.getD p 0 = k := by
    obtain ⟨p, hp⟩ := List.getElem?_of_mem hkf
    exact ⟨p, (List.getElem?_eq_some_iff.1 hp).1, by rw [List.getD_eq_getElem?_getD, hp]; rfl⟩
   obtain ⟨inf, hi⟩ : ∃ inf, infs[p]? = some inf := ⟨infs[p]'(by omega), by simp⟩
   obtain ⟨hO, _, _⟩ := hok p o inf (by rw [hfree.2 p hp]; exact ho) hi
   have hkn : Kn X.mine (X.ok Si.objs u) (fun t => t ∈ o.looksAt l.toArray) (stAt ⟨S.regs, os1, S.facts⟩ (pickL l free) infs p) b u := by
    obtain ⟨os, hos⟩ := h5.tail
    refine ⟨fun q hq => ?_, fun f hf => ?_, fun b hb => hb.2.1, fun t r ht hr => ?_⟩
    ·
     rw [(stAt_objs _ _ _ _).1] at hq
     exact h5.mem.at_ q (by rw [hos]; exact List.mem_append_right _ hq)
    ·
     rw [(stAt_objs _ _ _ _).2] at hf
     exact h5.mem.fact f (by rw [h5.facts]; exact hf)
    ·
     obtain ⟨g1, g2⟩ := h5.regs t r (h5.free t r (hmono p o t r hp ho ht hr) fun j oj hj hoj => C.free _ j o oj t hkf ho ht hj hoj)
     rcases hsl _ o L vs b t hk ho ht (hslot t ht) with ⟨j, oj, e1, e2, e3, e4, e5⟩ | ⟨e1, e2⟩
     · rw [e5]; exact g1 j oj e1 e2 e3 e4
     · rw [e2]; exact g2 e1
   have hnext : ∀ v u', Gr u u' → ReadR (X.ok Si.objs u') u' inf.reg v → ∃ i Si, i ≤ chain.length ∧ (∀ q, q < i → (chain.getD q 0 = free.getD p 0 ∨ L (chain.getD q 0))) ∧ (∀ q, i ≤ q → q < chain.length → ¬ (chain.getD q 0 = free.getD p 0 ∨ L (chain.getD q 0))) ∧ CH N l.toArray os1 (fun S'' => EL X l.toArray Q (l.drop n) S'') ((pickL l chain).drop i) Si ∧ Real X l n chain a RF os1 S.facts Si (fun j => j = free.getD p 0 ∨ L j) (fun j => if j = free.getD p 0 then v else vs j) u' := fun v u' hg hv => by
    refine ⟨i, Si, h1, fun q hq => .inr (h2 q hq), fun q hq hq' e => ?_, h4, h5.mem.grown hg, h5.tail, h5.facts, fun t r hr => ?_, h5.free⟩
    ·
     rcases e with e | e
     · exact hkc (by rw [← e]; exact (hcl q hq').2)
     · exact h3 q hq hq' e
    ·
     obtain ⟨g1, g2⟩ := h5.regs t r hr
     refine ⟨fun j oj hj hoj hd hLj => ?_, fun hno => readR_gr hg (g2 hno)⟩
     by_cases e : j = free.getD p 0
     ·
      rw [if_pos e]
      subst e
      obtain rfl : oj = o := Option.some.inj (hoj.symm.trans ho)
      have := h5.free t _ (hput p oj inf hp ho hi t hd) fun j' oj' hj' hoj' e' => by
       have := huniq _ _ _ _ t hk (C.clt j' hj') hoj hoj' hd e'
       exact hkc (by rw [this]; exact hj')
      rw [hr] at this
      cases this
      exact hv
     ·
      rw [if_neg e]
      exact readR_gr hg (g1 j oj hj hoj hd (hLj.resolve_left e))
   cases inf with
   | still r =>
    obtain ⟨hg, hSt⟩ := hO
    refine ⟨fun _ => ?_, fun hw => by rw [wanted_kn hkn hg] at hw; cases hw⟩
    obtain ⟨v, e1, e2⟩ := hSt _ _ b u hkn
    rw [e1]
    exact hnext v u (Gr.refl u) e2
   | grow r =>
    obtain ⟨hg, hSt⟩ := hO
    refine ⟨fun _ => setsTo_of_grows (hSt _ _ b u hkn) (fun v w' hgr hv => ?_), fun hw => by rw [wanted_kn hkn hg] at hw; cases hw⟩
    obtain ⟨r', rfl, hv⟩ := hv
    exact hnext v w' hgr (hv.mono (fun b hb => more_ok h5.mem hgr hb) fun _ _ => rfl)
   | put p q => cases hnp _ _ hi
   | skip =>
    refine ⟨fun hw => (by rw [wanted_kn hkn hO] at hw; cases hw), fun _ => ?_⟩
    exact hnext undef u (Gr.refl u) ⟨[], rfl, rfl⟩
   | new T d =>
    obtain ⟨hg, hSt⟩ := hO
    refine ⟨fun _ => ?_, fun hw => by rw [wanted_kn hkn hg] at hw; cases hw⟩
    obtain ⟨cs, e1, e2⟩ := hSt _ _ b u hkn
    rw [e1]
    exact hnext _ _ (gr_alloc u _) trivial
  ·
   -- the next of the chain
   obtain ⟨m, hm, rfl⟩ : ∃ m, m < chain.length ∧ chain.getD m 0 = k := by
    obtain ⟨p, hp⟩ := List.getElem?_of_mem hkc
    exact ⟨p, (List.getElem?_eq_some_iff.1 hp).1, by rw [List.getD_eq_getElem?_getD, hp]; rfl⟩
   have hmi : m = i := by
    rcases Nat.lt_trichotomy m i with e | e | e
    · exact absurd (h2 m e) hLk
    · exact e
    ·
     exfalso
     obtain ⟨ed, he, hb, hon⟩ := C.wait m o (by omega) hm ho
     have := hwait ed he hb
     rw [hon] at this
     exact h3 (m - 1) (by omega) (by omega) this
   subst hmi
   have hdrop : (pickL l chain).drop m = o :: (pickL l chain).drop (m + 1) := by
    have hml : m < (pickL l chain).length := by rw [hchain.1]; exact hm
    rw [List.drop_eq_getElem_cons hml]
    have := hchain.2 m hm
    rw [ho, List.getElem?_eq_getElem hml] at this
    rw [Option.some.inj this]
   rw [hdrop] at h4
   obtain ⟨hdN, h4⟩ := h4
   have hkreg : ∀ t r, t ∈ o.looksAt l.toArray → look Si.regs t = some r → ReadR (X.ok Si.objs u) u r (b.tmps.getD t undef) := fun t r ht hr => by
    obtain ⟨g1, g2⟩ := h5.regs t r hr
    rcases hsl _ o L vs b t hk ho ht (hslot t ht) with ⟨j, oj, e1, e2, e3, e4, e5⟩ | ⟨e1, e2⟩
    · rw [e5]; exact g1 j oj e1 e2 e3 e4
    · rw [e2]; exact g2 e1
   have hkn : Kn X.mine (X.ok Si.objs u) (fun t => t ∈ o.looksAt l.toArray) Si b u := ⟨h5.mem.at_, h5.mem.fact, fun b hb => hb.2.1, fun t r ht hr => hkreg t r ht hr⟩
   have hnext : ∀ v u' objs' r', Mem X objs' Si.facts u' → (∃ os, objs' = os ++ os1) → (∀ b, X.ok Si.objs u b → X.ok objs' u' b) → (∀ p : Addr, X.ok Si.objs u p.block → u'.cell? p = u.cell? p) → ReadR (X.ok objs' u') u' r' v →
     CH N l.toArray os1 (fun S'' => EL X l.toArray Q (l.drop n) S'') ((pickL l chain).drop (m + 1)) (St.put ⟨Si.regs, objs', Si.facts⟩ o.dst r') →
     ∃ i Si, i ≤ chain.length ∧ (∀ q, q < i → (chain.getD q 0 = chain.getD m 0 ∨ L (chain.getD q 0))) ∧ (∀ q, i ≤ q → q < chain.length → ¬ (chain.getD q 0 = chain.getD m 0 ∨ L (chain.getD q 0))) ∧ CH N l.toArray os1 (fun S'' => EL X l.toArray Q (l.drop n) S'') ((pickL l chain).drop i) Si ∧ Real X l n chain a RF os1 S.facts Si (fun j => j = chain.getD m 0 ∨ L j) (fun j => if j = chain.getD m 0 then v else vs j) u' := fun v u' objs' r' hmem htail hmok hcell hv hCH => by
    have hobj : (St.put ⟨Si.regs, objs', Si.facts⟩ o.dst r').objs = objs' := by cases o.dst <;> rfl
    have hfac : (St.put ⟨Si.regs, objs', Si.facts⟩ o.dst r').facts = Si.facts := by cases o.dst <;> rfl
    refine ⟨m + 1, _, by omega, fun q hq => ?_, fun q hq hq' e => ?_, hCH, by rw [hobj, hfac]; exact hmem, by rw [hobj]; exact htail, by rw [hfac]; exact h5.facts, fun t r hr => ?_, fun t r hr hno => ?_⟩
    ·
     rcases Nat.lt_or_ge q m with e | e
     · exact .inr (h2 q e)
     · exact .inl (by rw [show q = m by omega])
    ·
     rcases e with e | e
     ·
      have := C.cup q m (by omega) hq'
      omega
     · exact h3 q (by omega) hq' e
    ·
     rw [hobj]
     have hcase : (o.dst = some t ∧ r = r') ∨ (o.dst ≠ some t ∧ look Si.regs t = some r) := by
      cases hd : o.dst with
      | none => rw [hd] at hr; exact .inr ⟨(fun e => by cases e), hr⟩
      | some d =>
       rw [hd] at hr
       simp only [St.put, look] at hr
       split at hr
       ·
        rename_i e
        cases hr
        exact .inl ⟨by rw [e], rfl⟩
       ·
        rename_i e
        exact .inr ⟨fun e' => e (by injection e'), hr⟩
     rcases hcase with ⟨hd, rfl⟩ | ⟨hd, hr⟩
     ·
      refine ⟨fun j oj hj hoj hd' _ => ?_, fun hno => absurd hd (hno _ o hk ho)⟩
      rw [if_pos (huniq _ _ _ _ t hj hk hoj ho hd' hd)]
      exact hv
     ·
      obtain ⟨g1, g2⟩ := h5.regs t r hr
      refine ⟨fun j oj hj hoj hd' hLj => ?_, fun hno => (g2 hno).mono hmok hcell⟩
      have hne : j ≠ chain.getD m 0 := fun e => by
       subst e
       obtain rfl : oj = o := Option.some.inj (hoj.symm.trans ho)
       exact hd hd'
      rw [if_neg hne]
      exact (g1 j oj hj hoj hd' (hLj.resolve_left hne)).mono hmok hcell
    ·
     cases hd : o.dst with
     | none => exact h5.free t r hr hno
     | some d =>
      simp only [St.put, look]
      rw [if_neg fun e => hno _ o hkc ho (by rw [hd, e])]
      exact h5.free t r hr hno
   rcases h4 with ⟨inf, hnp', hO, hCH⟩ | ⟨os, rest, Φ, hos, hg, hO, hCH⟩
   ·
    have hgr : ∀ v u', Gr u u' → ReadR (X.ok Si.objs u') u' inf.reg v → _ := fun v u' hg hv => hnext v u' Si.objs inf.reg (h5.mem.grown hg) h5.tail (fun b hb => ok_gr hg hb) (fun p hp => ok_cell hg p hp) hv hCH
    cases inf with
    | still r =>
     obtain ⟨hg, hSt⟩ := hO
     refine ⟨fun _ => ?_, fun hw => by rw [wanted_kn hkn hg] at hw; cases hw⟩
     obtain ⟨v, e1, e2⟩ := hSt _ _ b u hkn
     rw [e1]
     exact hgr v u (Gr.refl u) e2
    | grow r =>
     obtain ⟨hg, hSt⟩ := hO
     refine ⟨fun _ => setsTo_of_grows (hSt _ _ b u hkn) (fun v w' hgr' hv => ?_), fun hw => by rw [wanted_kn hkn hg] at hw; cases hw⟩
     obtain ⟨r', rfl, hv⟩ := hv
     exact hgr v w' hgr' (hv.mono (fun b hb => more_ok h5.mem hgr' hb) fun _ _ => rfl)
    | put p q => cases hnp'
    | skip =>
     refine ⟨fun hw => (by rw [wanted_kn hkn hO] at hw; cases hw), fun _ => ?_⟩
     exact hgr undef u (Gr.refl u) ⟨[], rfl, rfl⟩
    | new T d =>
     obtain ⟨hg, hSt⟩ := hO
     refine ⟨fun _ => ?_, fun hw => by rw [wanted_kn hkn hg] at hw; cases hw⟩
     obtain ⟨cs, e1, e2⟩ := hSt _ _ b u hkn
     rw [e1]
     exact hgr _ _ (gr_alloc u _) trivial
   ·
    obtain ⟨rs, objs, fs⟩ := Si
    dsimp only at hos
    subst hos
    refine ⟨fun _ => ?_, fun hw => by rw [wanted_kn hkn hg] at hw; cases hw⟩
    have := hO.go X.mine (X.ok (os ++ (rest ++ os1)) u) b u ⟨fun q hq => hkn.objs q (List.mem_append_right _ hq), hkn.facts, hkn.lt, hkn.regs⟩ h5.mem.own
    refine setsTo_mono this fun v u' ⟨r, os', e1, e2, e3⟩ => ?_
    exact hnext v u' (os' ++ (rest ++ os1)) r (h5.mem.turned e2) ⟨os' ++ rest, by rw [List.append_assoc]⟩ (fun b hb => turned_old h5.mem e2 hb) (turned_cell h5.mem e2) (e3.mono (fun b hb => turned_ok h5.mem e2 hb) fun _ _ => rfl) (hCH r os' e1)
 ·
  intro vs u b ⟨i, Si, h1, h2, h3, h4, h5⟩ hs hd hslot
  have hi : i = chain.length := by
   rcases Nat.lt_or_ge i chain.length with e | e
   · exact absurd (hcl i e).1 (h3 i (Nat.le_refl _) e)
   · omega
  subst hi
  have hnil : (pickL l chain).drop chain.length = [] := List.drop_eq_nil_of_le (by rw [hchain.1]; exact Nat.le_refl _)
  rw [hnil] at h4
  have h4' : EL X l.toArray Q (l.drop n) Si := h4
  refine h4'.go b u ⟨h5.mem, fun t r hr => ?_, hs.trans ha.size, hd.trans ha.defers⟩
  obtain ⟨g1, g2⟩ := h5.regs t r hr
  rcases hslot t with ⟨j, e1, e2, e3, e4, e5⟩ | ⟨e1, e2⟩
  ·
   rw [e5]
   have hj : j < l.length := by have := C.le; omega
   exact g1 j l[j] e1 (by simp) (by rw [← hdst j l[j] (by simp)]; exact e2) e4
  ·
   rw [e2]
   exact g2 fun j o hj ho e => e1 j hj (by rw [hdst j o ho]; exact e)
end
end E
end Go.Proofs.Ytiledgojbpmoiaa
