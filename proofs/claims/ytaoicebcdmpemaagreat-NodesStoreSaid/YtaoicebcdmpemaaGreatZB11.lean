/-
 Merged: lemmas of this claim.
 Conditions: none.
-/
import Derived.Test.YtaoicebcdmpemaaGreatZB10
import Derived.LoopN
import Derived.Laws.Externs
import Derived.Laws.MakeOwn
import Derived.Test.YtaoicebcdmpemaaGreatZB6
import Derived.Laws.Pointers
import Derived.Test.YtaoicebcdmpemaaGreatZB7
import Derived.Maps.RangeRun
import Derived.Recover
import Derived.Test.YtaoicebcdmpemaaGreatZB2
import Derived.BigQuiet
import Derived.Deep.QuietTactic
import Derived.StillTailTactics
import Derived.Test.YtaoicebcdmpemaaGreatZB0
namespace Go.Proofs.YtaoicebcdmpemaaGreat
set_option linter.unusedVariables false
open Go.RowKit Mono Rlp
namespace E
section
variable {N : Nat} {X : Cx N} {S S' : St} {a : Act} {w w' : World} {ops : Array Oper} {o : Oper} {Q : Exit → Act → World → Prop} {K : Act → World → Prop} {l : List Oper} {c : Code} {TT : St → List Fr → Prop} {EE : List Fr} {rs : List (Tmp × R)} {os os' rest : List Obj} {fs : List (Value × D)} {base ok : Nat → Prop}
variable {t ty : Nat} {pos : String} {af : Array Edge} {gd : Option (Nat × Bool)}
theorem EC.Ji (n : Nat) (h : EK X (Code.rounds Tryz.prog c Q n) S) : EC X Q (.loop c) S := ⟨fun a w ha => wp_loop_rounds n (h.go a w ha)⟩
theorem EK.round {n : Nat} (h : EC X (Exit.then (Code.rounds Tryz.prog c Q n) Q) c S) : EK X (Code.rounds Tryz.prog c Q (n + 1)) S := ⟨fun a w ha => h.go a w ha⟩
theorem Gm {f : FuncId} {args : Array Operand} {tys : Array TypeId} {xs vs : List Value} (hrun : ∀ w, (callFunc f xs.toArray).run Tryz.prog w = .ok (.value (.tuple vs.toArray)) w) (hvs : ∀ x ∈ vs, x.oneCell' = true) (ho : o.op = .call { callee := .value (.func f), args := args, argTypes := tys }) (hx : sF S args.toList = some xs) : Still ops S o (.tpl (vs.map .v)) := fun base ok a w ha => by
 have h1 := lG args.toList xs hx (fun t ht => ak (x := .tmp t) rfl (by rw [ho]; simp only [Op.operands, Call.operands]; simp; simpa using ht)) ha
 have h2 : args.map a.eval = xs.toArray := by
  apply Array.ext'
  simpa using h1
 refine ⟨.tuple vs.toArray, ?_, vs, rfl, Dc hvs⟩
 unfold execOp
 simp [ho, resolve, Act.eval, Deferred.ofValue, invoke, h2, hrun]
theorem ES.ext {t : Tmp} {f : FuncId} {args : Array Operand} {tys : Array TypeId} {xs vs : List Value} (hrun : ∀ w, (callFunc f xs.toArray).run Tryz.prog w = .ok (.value (.tuple vs.toArray)) w) (hvs : ∀ x ∈ vs, x.oneCell' = true) (ho : o.op = .call { callee := .value (.func f), args := args, argTypes := tys }) (hx : sF (⟨rs, os, fs⟩ : St) args.toList = some xs) (hg : guardOf ops ⟨rs, os, fs⟩ o = some true) (hd : o.dst = some t) (hN : Nat.blt t N = true) (k : EL X ops Q l ⟨(t, .tpl (vs.map .v)) :: rs, os, fs⟩) : EL X ops Q (o :: l) ⟨rs, os, fs⟩ := ES.still (Gm hrun hvs ho hx) hg hd hN k
theorem EH.ext {t : Tmp} {f : FuncId} {args : Array Operand} {tys : Array TypeId} {xs vs : List Value} (hrun : ∀ w, (callFunc f xs.toArray).run Tryz.prog w = .ok (.value (.tuple vs.toArray)) w) (hvs : ∀ x ∈ vs, x.oneCell' = true) (ho : o.op = .call { callee := .value (.func f), args := args, argTypes := tys }) (hx : sF (⟨rs, os, fs⟩ : St) args.toList = some xs) (hg : guardOf ops ⟨rs, os, fs⟩ o = some true) (ht : o.dst = some t) (hd : dL N (some t) EE = true) (k : EM N ops TT l ⟨(t, .tpl (vs.map .v)) :: rs, os, fs⟩ EE) : EM N ops TT (o :: l) ⟨rs, os, fs⟩ EE := EH.still (Gm hrun hvs ho hx) hg ht hd k
theorem Iq {op : BinOp} {T : TypeId} {k k' : IntKind} {m n : Int} {c : Value} (hc : c.oneCell' = true) (h : ∀ w, (binOp op T (.int k m) (.int k' n)).run Tryz.prog w = .ok c w) : Bin op T (.v (.int k m)) (.v (.int k' n)) c := by
 refine ⟨hc, fun ok w p q hp hq => ?_⟩
 obtain ⟨_, rfl⟩ := ay.1 hp
 obtain ⟨_, rfl⟩ := ay.1 hq
 exact ⟨fun x y => by cases op <;> simp [eqGuard], h w⟩
end
abbrev ptr (g : Nat) : Value := .pointer (some ⟨g, 0, none⟩)
theorem sK {T : Nat} (h : GK.contains T = true) (p : Option Addr) : Bin .eql T (.v (.pointer p)) (.v (.pointer none)) (.bool p.isNone) ∧ Bin .neq T (.v (.pointer p)) (.v (.pointer none)) (.bool !p.isNone) := by
 obtain ⟨e, he⟩ := JM h
 have he : Tryz.prog.underlying T = some (.pointer (Tryz.prog.pointee T)) := by
  unfold Program.pointee
  rw [he]
 refine ⟨⟨rfl, fun ok w p q hp hq => ?_⟩, ⟨rfl, fun ok w p q hp hq => ?_⟩⟩ <;> (obtain rfl := (ay.1 hp).2; obtain rfl := (ay.1 hq).2; refine ⟨fun x y => by simp [eqGuard], ?_⟩)
 · exact run_eql_pointer_nil w T _ he
 · exact run_neq_pointer_nil w T _ he
section
variable {N : Nat} {X : Cx N} {rs : List (Tmp × R)} {os : List Obj} {fs : List (Value × D)}
variable {S : St} {fn : Func} {Φ : R → List Obj → Prop}
theorem kK {os' : List Obj} (h : os'.Sublist os) {w : World} {b : Nat} (hb : X.ok os w b) : X.ok os' w b := ⟨hb.1, hb.2.1, fun o ho => hb.2.2 o (h.subset ho)⟩
theorem EK.wC (os' : List Obj) (hres : fn.results = #[]) (ho : os'.Sublist S.objs) (hΦ : Φ (.tpl []) os') : EK X (bodyPost Tryz.prog fn (jZ X Φ) .ret) S := by
 constructor
 intro a w ha
 exact bodyPost_ret (results_none hres a.tmps Tryz.prog w) ha.defers ⟨_, _, os', rfl, hΦ, ha.mem.less ho (fun f hf => by cases hf), [], rfl, rfl⟩
theorem EK.wE (os' : List Obj) (hres : fn.results = #[]) (ho : os'.Sublist S.objs) (hΦ : Φ (.tpl []) os') : EK X (bodyPost Tryz.prog fn (jZ X Φ) .normal) S := by
 constructor
 intro a w ha
 have : bodyPost Tryz.prog fn (jZ X Φ) .ret a w := bodyPost_ret (results_none hres a.tmps Tryz.prog w) ha.defers ⟨_, _, os', rfl, hΦ, ha.mem.less ho (fun f hf => by cases hf), [], rfl, rfl⟩
 exact this
theorem EK.aY {t : Tmp} {r : R} (os' : List Obj) (hres : fn.results = #[.tmp t]) (hl : look S.regs t = some r) (ho : os'.Sublist S.objs) (hΦ : Φ r os') : EK X (bodyPost Tryz.prog fn (jZ X Φ) .ret) S := by
 constructor
 intro a w ha
 exact bodyPost_ret (results_tmp hres a.tmps Tryz.prog w) ha.defers ⟨_, r, os', rfl, hΦ, ha.mem.less ho (fun f hf => by cases hf), (ha.regs t r hl).mono (fun b hb => kK ho hb) fun _ _ => rfl⟩
theorem EK.yg {p : Tmp} {g ty : Nat} {t : TypeId} {d d' : D} (i : Nat) (os' : List Obj) (hres : fn.results = #[.cell p ty]) (hl : look S.regs p = some (.val (.v (.pointer (some ⟨g, 0, none⟩))))) (hi : S.objs[i]? = some (.var g t d)) (hT : assoc tyL ty = some (d.size, d.agg)) (hR : aj S.facts [d] [d']) (ho : os'.Sublist S.objs) (hΦ : Φ (.val d') os') : EK X (bodyPost Tryz.prog fn (jZ X Φ) .ret) S := by
 constructor
 intro a w ha
 obtain ⟨x, h1, h2⟩ := nG ha.mem hi (tyI hT)
 have hp := (ay.1 (ha.regs p _ hl)).2
 have hp' : a.tmps[p]?.getD undef = .pointer (some ⟨g, 0, none⟩) := by simpa using hp
 have h3 : aC (X.ok S.objs w) w (.val d') x := Refine1.gJ ha.mem.fact hR h2
 refine bodyPost_ret (v := x) ?_ ha.defers ⟨_, _, os', rfl, hΦ, ha.mem.less ho (fun f hf => by cases hf), h3.mono (fun b hb => kK ho hb) fun _ _ => rfl⟩
 simp [results, hres, hp', asAddr, h1]
end
section
variable {N : Nat} {X : Cx N} {ops : Array Oper} {Q : Exit → Act → World → Prop}
theorem EK.nJ {fn : Func} {Φ : R → List Obj → Prop} {S : St} {t : Tmp} {d d' : D} (os' : List Obj) (hres : fn.results = #[.tmp t]) (hl : look S.regs t = some (.val d)) (hR : aj S.facts [d] [d']) (ho : os'.Sublist S.objs) (hΦ : Φ (.val d') os') : EK X (bodyPost Tryz.prog fn (jZ X Φ) .ret) S := by
 refine EK.le (S' := ⟨S.regs, os', S.facts⟩) ?_ (EK.GH hres hl hR hΦ)
 exact fun a w h => ⟨h.mem.less ho (fun f hf => hf), fun t r ht => aC.mono (fun b hb => kK ho hb) (fun _ _ => rfl) (h.regs t r ht), h.size, h.defers⟩
end
theorem iL {α : Type} : ∀ l : List α, (List.range l.length).filterMap (fun i => l[i]?) = l
 | [] => rfl
 | x :: l => by
  rw [KN, List.range_succ_eq_map, Lp]
  simp only [KT, List.filterMap_map]
  congr 1
  exact iL l
theorem qm {os : List Obj} (l : List Nat) (hn : os.length = l.length) (h : l.Perm (List.range l.length)) : os.Perm (l.filterMap fun i => os[i]?) := by
 have := h.filterMap fun i => os[i]?
 rw [← hn, iL] at this
 exact this.symm
theorem Le.pick {N : Nat} {X : Cx N} {rs : List (Tmp × R)} {os : List Obj} {fs : List (Value × D)} (l : List Nat) (os' : List Obj) (hn : os.length = l.length) (h : l.Perm (List.range l.length)) (hp : (l.filterMap fun i => os[i]?) = os') : Le X ⟨rs, os, fs⟩ ⟨rs, os', fs⟩ := hp ▸ Le.perm (qm l hn h)
theorem FnM.pick {f : FuncId} {ds : List D} {os : List Obj} {Φ : R → List Obj → Prop} (hF : FnM f ds os Φ) (l : List Nat) (hn : os.length = l.length) (h : l.Perm (List.range l.length)) : FnM f ds (l.filterMap fun i => os[i]?) Φ := hF.perm (qm l hn h)
theorem FnM.out {f : FuncId} {ds : List D} {os : List Obj} {Φ Ψ : R → List Obj → Prop} (hF : FnM f ds os Φ) (k : ∀ r os', Φ r os' → ∃ os2, os'.Perm os2 ∧ Ψ r os2) : FnM f ds os Ψ := ⟨fun ok w xs h1 h2 h3 => (hF.go ok w xs h1 h2 h3).mono fun e w' ⟨v, r, os', e1, e2, e3, e4⟩ => by
 obtain ⟨os2, hp, hΨ⟩ := k r os' e2
 have hok : okM ok os w os' w' = okM ok os w os2 w' := funext fun b => propext ⟨fun h => ⟨h.1, h.2.1, fun o ho => h.2.2 o (hp.mem_iff.2 ho)⟩, fun h => ⟨h.1, h.2.1, fun o ho => h.2.2 o (hp.mem_iff.1 ho)⟩⟩
 exact ⟨v, r, os2, e1, hΨ, ⟨e3.gr, e3.apart.perm hp, fun o ho => hok ▸ e3.at_ o (hp.mem_iff.2 ho)⟩, hok ▸ e4⟩⟩
theorem FnM.frame {f : FuncId} {ds : List D} {os : List Obj} {Φ : R → List Obj → Prop} (hF : FnM f ds os Φ) (rest : List Obj) : FnM f ds (os ++ rest) (fun r os' => ∃ os2, Φ r os2 ∧ os' = os2 ++ rest) := by
 constructor
 intro ok w xs hok hown hr
 have hap := Lj.1 hown.apart
 have hown1 : Own ok os w := ⟨fun o ho => hown.at_ o (KO _ ho), hap.1, fun b ⟨o, ho, e⟩ => hown.off b ⟨o, KO _ ho, e⟩⟩
 refine (hF.go ok w xs hok hown1 hr).mono ?_
 rintro e w' ⟨v, r, os', rfl, hΦ, ht, hv⟩
 have hrest : ∀ o ∈ rest, ∀ b, o.blk = some b → b < w.heap.size := fun o ho b e => (Obj.bn (hown.at_ o (KL _ ho)) e).2
 have hoff : ∀ b, (ok b ∨ iw os b ∨ w.heap.size ≤ b) → ∀ o ∈ rest, o.blk ≠ some b := fun b hb o ho e => by
  rcases hb with h | ⟨o', ho', e'⟩ | h
  · exact hown.off b ⟨o, KL _ ho, e⟩ h
  · exact hap.2.2 o' ho' o ho b e' e
  ·
   have := hrest o ho b e
   omega
 have hbl : ∀ b, iw os b → iw (os ++ rest) b := fun b ⟨o, ho, e⟩ => ⟨o, KO _ ho, e⟩
 have hz : ∀ b, okM ok os w os' w' b → okM ok (os ++ rest) w (os' ++ rest) w' b := fun b hb => ⟨hb.1.imp id (Or.imp (hbl b) id), hb.2.1, fun o ho => by
  rcases Lh.1 ho with ho | ho
  · exact hb.2.2 o ho
  · exact hoff b hb.1 o ho⟩
 have hblk : ∀ o ∈ os', ∀ b, o.blk = some b → iw os b ∨ w.heap.size ≤ b := fun o ho b e => (Obj.bn (ht.at_ o ho) e).1
 have hnew : ∀ b, ok b → ∀ o ∈ os', o.blk ≠ some b := fun b hb o ho e => by
  rcases hblk o ho b e with h | h
  · exact hown1.off b h hb
  ·
   have := hok b hb
   omega
 refine ⟨v, r, os' ++ rest, rfl, ⟨os', hΦ, rfl⟩, ⟨?_, Lj.2 ⟨ht.apart, hap.2.1, fun o ho p hp b e e' => ?_⟩, fun o ho => ?_⟩, aC.mono hz (fun _ _ => rfl) hv⟩
 · exact (GrE.refl w).step ht.gr fun b hb => .inl (hbl b hb)
 · exact hoff b (.inr (hblk o ho b e)) p hp e'
 ·
  rcases Lh.1 ho with ho | ho
  · exact ((ht.at_ o ho).move hz (fun _ _ => rfl) fun _ _ => rfl).iD fun b e => (hblk o ho b e).imp (hbl b) id
  ·
   have hat := hown.at_ o (KL _ ho)
   refine (hat.move (z' := okM ok (os ++ rest) w (os' ++ rest) w') (fun b hb => hz b ⟨.inl hb, KA (hok b hb) ht.gr.size, hnew b hb⟩) (fun p hp => ht.gr.cell (hok _ hp) fun hb => hown1.off _ hb hp) fun g e => ht.gr.block g (hrest o ho g e) fun hb => hoff g (.inr (.inl hb)) o ho e).iD fun b e => .inl ⟨o, KL _ ho, e⟩
section
variable {S : St} {ops : Array Oper} {o : Oper}
theorem eG {T e z y' : Nat} {s x : Operand} {v : Value} {ds es : List D} (ho : o.op = .call { callee := .builtin .append, args := #[s, x], argTypes := #[T, T] }) (hT : assoc slL T = some (e, z, y')) (hz : Nat.blt 0 z = true) (hs : ev S s = some (.val (.v v))) (hx : ev S x = some (.val (.sl z es))) (hlen : (ds.length + es.length) * y' ≤ 140737488355328 ∧ ds.length + es.length ≤ 9223372036854775807) :
  lJ ops S o [.row v e z ds] (fun r os' => ∃ v', r = .val (.v v') ∧ os' = [.row v' e z (ds ++ es)]) := .mk fun base ok a w ha hown => by
 have hs' := dh ha hs fun t e => ak e (by rw [ho]; simp [Op.operands, Call.operands])
 obtain ⟨A, c, rows', h1, h2, h3, h4, h5, h6⟩ := ny (ha.ev hx fun t e => ak e (by rw [ho]; simp [Op.operands, Call.operands]))
 obtain ⟨rows, h7, h8⟩ := hown.at_ (.row v e z ds) Kt
 obtain ⟨hl1, hl2⟩ := ah.lens es rows' h6
 have hlen' : rows'.flatten.length = es.length * z := by
  have : ∀ rows : List (List Value), (∀ r ∈ rows, r.length = z) → rows.flatten.length = rows.length * z := by
   intro rows
   induction rows with
   | nil => simp
   | cons r rows ih =>
    intro h
    rw [KG, List.length_append, h r (by simp), ih fun r hr => h r (by simp [hr]), KN, LW, Md, Nat.add_comm]
  rw [this rows' hl2, hl1]
 have hrd : Rd w w.heap.size A rows'.flatten := fun hn => by
  obtain ⟨b, n, e, hb, hc⟩ := h5 hn
  exact ⟨b, n, e, ha.lt b hb, hc⟩
 obtain ⟨A', c', w', hrun, hown', hgr, hblk⟩ := dZ (P := Tryz.prog) (ty := o.type) (c := c) (I9 hT hz) h7.1 hlen' hrd (ah.one es rows' h6) (by simp only [maxLen]; exact hlen.2) hlen.1 (Lm _)
 have hoff : ∀ b, ok b → v.ownBlock ≠ some b := fun b hb e => hown.off b ⟨_, Kt, e⟩ hb
 have hblk' : ∀ b, (Value.slice A' (ds.length + es.length) c').ownBlock = some b → v.ownBlock = some b ∨ w.heap.size ≤ b := fun b e' => by
  rcases hblk with h | h
  · exact .inl (h ▸ e')
  ·
   rw [h] at e'
   cases e'
   exact .inr (Nat.le_refl _)
 have hz' : ∀ b, ok b → okM ok [.row v e z ds] w [.row (.slice A' (ds.length + es.length) c') e z (ds ++ es)] w' b := fun b hb => ⟨.inl hb, KA (ha.lt b hb) hgr.size, fun o' ho' e' => by
  obtain rfl : o' = _ := by simpa using ho'
  rcases hblk' b e' with h | h
  · exact hoff b hb h
  ·
   have := ha.lt b hb
   omega⟩
 have hcell : ∀ p : Addr, ok p.block → w'.cell? p = w.cell? p := fun p hp => World.cell?_of_block (hgr.block _ (ha.lt _ hp) fun e' => hoff _ hp e'.symm)
 unfold execOp
 simp only [ho, resolve, invoke, builtin, Kq, Ku, J6, LV, KD, KU, hs', h1, hrun, dn]
 refine ⟨.val (.v (.slice A' (ds.length + es.length) c')), [.row (.slice A' (ds.length + es.length) c') e z (ds ++ es)], ⟨_, rfl, rfl⟩, ⟨⟨hgr.os, hgr.tape, hgr.output, hgr.size, fun k hk hn => hgr.block k hk fun e' => hn ⟨_, Kt, e'.symm⟩⟩, by simp, fun o' ho' => ?_⟩, ?_⟩
 ·
  obtain rfl : o' = _ := by simpa using ho'
  refine ⟨rows ++ rows', ?_, ah.append ds es rows rows' (ah.mono hz' hcell z ds rows h8) (ah.mono hz' hcell z es rows' h6)⟩
  rw [List.flatten_append, List.length_append]
  refine ⟨hown', fun b hb => ?_⟩
  rcases hblk' b hb with h | h
  · exact .inl ⟨_, Kt, h⟩
  · exact .inr h
 · exact ay.2 ⟨rfl, rfl⟩
end
def Visit (ops : Array Oper) (S : St) (o : Oper) (r : R) : Prop := ∃ os rest, S.objs.Perm (os ++ rest) ∧ lJ ops ⟨S.regs, rest, S.facts⟩ o os (fun r' os' => r' = r ∧ os' = os)
def OkV (N : Nat) (ops : Array Oper) (S : St) (o : Oper) (i : Inf) : Prop := OkI N ops S o i ∨ ∃ r, i = .grow r ∧ guardOf ops S o = some true ∧ Visit ops S o r
def EV (N : Nat) (ops : Array Oper) (T : St → List Fr → Prop) : List Oper → St → List Fr → Prop
 | [], S, E => T S E
 | o :: l, S, E => ∃ inf : Inf, inf.yu = true ∧ dL N o.dst E = true ∧ ((∃ T d, inf = .new T d) → o.dst ≠ none) ∧ OkV N ops S o inf ∧ EV N ops T l (S.put o.dst inf.reg) (lV E o.dst inf)
section
variable {N : Nat} {X : Cx N} {S S' : St} {a : Act} {w w' : World} {ops : Array Oper} {o : Oper} {Q : Exit → Act → World → Prop} {l : List Oper} {T : St → List Fr → Prop} {E : List Fr}
theorem EV.nil (h : T S E) : EV N ops T [] S E := h
theorem EV.seg {l2 : List Oper} : ∀ (l1 : List Oper) (S : St) (E : List Fr), EM N ops (fun S' E' => EV N ops T l2 S' E') l1 S E → EV N ops T (l1 ++ l2) S E
 | [], S, E, h => h
 | o :: l1, S, E, ⟨inf, h0, h1, h2, h3, h4⟩ => ⟨inf, h0, h1, h2, .inl h3, EV.seg l1 _ _ h4⟩
theorem EV.cut (k : Nat) (h : EM N ops (fun S' E' => EV N ops T (l.drop k) S' E') (l.take k) S E) : EV N ops T l S E := by
 have := EV.seg _ _ _ h
 rwa [LK] at this
theorem Mem.perm {os os' : List Obj} {fs : List (Value × D)} (h : os.Perm os') (hm : Mem X os fs w) : Mem X os' fs w :=
 ((Le.perm (X := X) (rs := []) (fs := fs) h) ⟨Array.replicate N undef, []⟩ w ⟨hm, (fun t r hr => by cases hr), by simp, rfl⟩).mem
abbrev Nw := Nat × Nat × TypeId × D
def Nw.pc (e : Nw) : Obj := .var e.2.1 e.2.2.1 e.2.2.2
structure RV (X : Cx N) (S : St) (a : Act) (infs : List Inf) (L : Nat → Prop) (vs : Nat → Value) (u : World) (nw : List Nw) : Prop where
 nd : (nw.map (·.1)).Nodup
 ok : ∀ e ∈ nw, L e.1 ∧ infs[e.1]? = some (.new e.2.2.1 e.2.2.2) ∧ vs e.1 = .pointer (some ⟨e.2.1, 0, none⟩)
 all : ∀ j T d, L j → infs[j]? = some (.new T d) → ∃ e ∈ nw, e.1 = j
 mem : Mem X (nw.map Nw.pc ++ S.objs) S.facts u
 val : ∀ j i, L j → infs[j]? = some i → aC (X.ok (nw.map Nw.pc ++ S.objs) u) u i.reg (vs j)
 old : ∀ t r, look S.regs t = some r → aC (X.ok (nw.map Nw.pc ++ S.objs) u) u r (a.tmps.getD t undef)
theorem RV.same {infs : List Inf} {L : Nat → Prop} {vs : Nat → Value} {u u' : World} {nw : List Nw} (h : RV X S a infs L vs u nw) {k : Nat} {i : Inf} (hk : ¬ L k) (hi : infs[k]? = some i) (hn : ∀ T d, i ≠ .new T d) (v : Value) (hm : Mem X (nw.map Nw.pc ++ S.objs) S.facts u') (hok : ∀ b, X.ok (nw.map Nw.pc ++ S.objs) u b → X.ok (nw.map Nw.pc ++ S.objs) u' b) (hc : ∀ p : Addr, X.ok (nw.map Nw.pc ++ S.objs) u p.block → u'.cell? p = u.cell? p) (hv : aC (X.ok (nw.map Nw.pc ++ S.objs) u') u' i.reg v) : RV X S a infs (fun j => j = k ∨ L j) (fun j => if j = k then v else vs j) u' nw := by
 refine ⟨h.nd, fun e he => ?_, fun j T d hj hij => ?_, hm, fun j i' hj hij => ?_, fun t r hr => (h.old t r hr).mono hok hc⟩
 ·
  obtain ⟨h1, h2, h3⟩ := h.ok e he
  exact ⟨.inr h1, h2, by rw [if_neg (show ¬ e.1 = k from fun e' => hk (by rw [← e']; exact h1))]; exact h3⟩
 ·
  rcases hj with rfl | hj
  · exact absurd (Lu (hi.symm.trans hij)) (hn T d)
  · exact h.all j T d hj hij
 ·
  by_cases e : j = k
  ·
   subst e
   rw [if_pos rfl]
   obtain rfl : i' = i := Lu (hij.symm.trans hi)
   exact hv
  ·
   rw [if_neg e]
   exact (h.val j i' (hj.resolve_left e) hij).mono hok hc
theorem RV.new {infs : List Inf} {L : Nat → Prop} {vs : Nat → Value} {u : World} {nw : List Nw} (h : RV X S a infs L vs u nw) {k : Nat} {Ty : TypeId} {d : D} {cs : List Value} (hk : ¬ L k) (hi : infs[k]? = some (.new Ty d)) (hcs : Reads (X.ok (nw.map Nw.pc ++ S.objs) u) u d cs) : RV X S a infs (fun j => j = k ∨ L j) (fun j => if j = k then .pointer (some ⟨u.heap.size, 0, none⟩) else vs j) (u.alloc (.cells cs.toArray Ty)) ((k, u.heap.size, Ty, d) :: nw) := by
 have hgr := aH u (.cells cs.toArray Ty)
 have hok : ∀ b, X.ok (nw.map Nw.pc ++ S.objs) u b → X.ok (((k, u.heap.size, Ty, d) :: nw : List Nw).map Nw.pc ++ S.objs) (u.alloc (.cells cs.toArray Ty)) b := fun b hb => ⟨hb.1, KA hb.2.1 hgr.size, fun o ho e => by
  rw [KD, Ko] at ho
  rcases Kz.1 ho with rfl | ho
  ·
   cases e
   exact absurd hb.2.1 (Nat.lt_irrefl _)
  · exact hb.2.2 o ho e⟩
 have hc : ∀ p : Addr, X.ok (nw.map Nw.pc ++ S.objs) u p.block → (u.alloc (.cells cs.toArray Ty)).cell? p = u.cell? p := fun p hp => hgr.cell hp.2.1
 refine ⟨?_, fun e he => ?_, fun j T' d' hj hij => ?_, ?_, fun j i' hj hij => ?_, fun t r hr => (h.old t r hr).mono hok hc⟩
 ·
  rw [KD]
  refine ML.2 ⟨fun hm => ?_, h.nd⟩
  obtain ⟨e, he, e'⟩ := KI.1 hm
  have e2 : e.1 = k := e'
  exact hk (by rw [← e2]; exact (h.ok e he).1)
 ·
  rcases Kz.1 he with rfl | he
  · exact ⟨.inl rfl, hi, if_pos rfl⟩
  ·
   obtain ⟨h1, h2, h3⟩ := h.ok e he
   exact ⟨.inr h1, h2, by rw [if_neg (show ¬ e.1 = k from fun e' => hk (by rw [← e']; exact h1))]; exact h3⟩
 ·
  rcases hj with rfl | hj
  · exact ⟨_, Kt, rfl⟩
  ·
   obtain ⟨e, he, e'⟩ := h.all j T' d' hj hij
   exact ⟨e, KC _ he, e'⟩
 ·
  have hat : At X ⟨[], nw.map Nw.pc ++ S.objs, S.facts⟩ ⟨Array.replicate N undef, []⟩ u := ⟨h.mem, (fun t r hr => by cases hr), by simp, rfl⟩
  exact (hat.new (q := .var u.heap.size Ty d) rfl ⟨.inr h.mem.gr.size, cs, heap_alloc_new u _, Reads.mono hok hc _ _ hcs⟩).mem
 ·
  by_cases e : j = k
  ·
   subst e
   obtain rfl : i' = .new Ty d := Lu (hij.symm.trans hi)
   trivial
  ·
   rw [if_neg e]
   exact (h.val j i' (hj.resolve_left e) hij).mono hok hc
theorem EV.Jg {l' : List Oper} {t : Tmp} {Ty : TypeId} {d : D} {rs : List (Tmp × R)} {os : List Obj} {fs : List (Value × D)} (h : ∀ g, EL X ops Q l' ⟨(t, .val (.v (.pointer (some ⟨g, 0, none⟩)))) :: rs, .var g Ty d :: os, fs⟩) : EV N ops (fun S' E => nV (EL X ops Q l') E S') [] ⟨rs, os, fs⟩ [(t, Ty, d)] := h
end
section
variable {N : Nat} {X : Cx N} {S : St} {ops : Array Oper} {o : Oper} {Q : Exit → Act → World → Prop} {l' : List Oper} {TT : St → List Fr → Prop} {EE : List Fr} {rs : List (Tmp × R)} {os : List Obj} {fs : List (Value × D)} {w : World} {ok : Nat → Prop}
theorem zD {g n m : Nat} {l : List UInt8} {mid : List Value} (hm : Nat.ble m 4096 = true) (hg : g < w.heap.size) (hr : w.rangeAt g n mid) (h : Reads ok w (.arr m l) mid) : IsB w (.slice (some ⟨g, n, none⟩) m m) l := by
 obtain ⟨h1, h2⟩ : l.length = m ∧ mid = bvs l := by
  rw [Reads] at h
  exact ⟨h.1, h.2⟩
 subst h1 h2
 have := Nat.le_of_ble_eq_true hm
 exact ⟨_, l.length, rfl, Nat.le_refl _, by simp only [maxLen]; omega, fun _ => ⟨g, n, rfl, hg, hr⟩⟩
theorem BH {x : Operand} {g n m : Nat} {t : TypeId} {d : D} {l : List UInt8} (hm : Nat.ble m 4096 = true) (hs : d.sub n m true = some (.arr m l)) (ho : o.op = .convert 41 9 x) (hx : ev S x = some (.val (.v (.slice (some ⟨g, n, none⟩) m m)))) (i : Nat) (hi : S.objs[i]? = some (.var g t d)) : Still ops S o (.val (.v (.string (Go.Proofs.YtaoicebcdmpemaaGreat.bs l)))) := fun base ok a w ha => by
 have hx' := dh ha hx (aA (by rw [ho]; simp [Op.operands]))
 obtain ⟨_, cs, hh, hr⟩ := ha.objs _ (KE hi)
 obtain ⟨e1, e2, pre, mid, post, rfl, e3, e4⟩ := gB d n m true _ cs hs hr
 have hr := fF (dA hh)
 rw [KJ, e3] at hr
 have hb : IsB w (a.eval x) l := by rw [hx']; exact zD hm (KH.1 hh).1 hr e4
 refine ⟨_, ?_, dM rfl⟩
 unfold execOp
 simp only [ho, Kq, oQ hb, J6, Ku]
theorem vM {t ty : Nat} {pos : String} {af : Array Edge} {gd : Option (Nat × Bool)} {x : Operand} {g n m i : Nat} {T : TypeId} {d : D} {l : List UInt8} (hx : ev (⟨rs, os, fs⟩ : St) x = some (.val (.v (.slice (some ⟨g, n, none⟩) m m)))) (hi : os[i]? = some (.var g T d)) (hs : d.sub n m true = some (.arr m l)) (hm : Nat.ble m 4096 = true) (hg : guardOf ops ⟨rs, os, fs⟩ ⟨some t, .convert 41 9 x, ty, pos, af, gd⟩ = some true) (hoff : dL N (some t) EE = true) (kk : EM N ops TT l' ⟨(t, .val (.v (.string (Go.Proofs.YtaoicebcdmpemaaGreat.bs l)))) :: rs, os, fs⟩ EE) : EM N ops TT (⟨some t, .convert 41 9 x, ty, pos, af, gd⟩ :: l') ⟨rs, os, fs⟩ EE := EH.still (BH hm hs rfl hx i hi) hg rfl hoff kk
end
end E
end Go.Proofs.YtaoicebcdmpemaaGreat
namespace Go.Proofs.YtaoicebcdmpemaaGreat
set_option linter.unusedVariables false
open Go.RowKit Mono Rlp
open Go.ChangeMaps (setBlock)
namespace E
theorem dY.left {α β : Type} {R : α → β → Prop} : ∀ {l : List α} {m : List β}, dY R l m → ∀ a ∈ l, ∃ b ∈ m, R a b
 | _, _, .nil, a, h => by cases h
 | _, _, .cons h1 h2, a, h => by
  rcases Kz.1 h with rfl | h
  · exact ⟨_, Kt, h1⟩
  ·
   obtain ⟨b, hb, hr⟩ := h2.left a h
   exact ⟨b, KC _ hb, hr⟩
theorem dY.right {α β : Type} {R : α → β → Prop} : ∀ {l : List α} {m : List β}, dY R l m → ∀ b ∈ m, ∃ a ∈ l, R a b
 | _, _, .nil, a, h => by cases h
 | _, _, .cons h1 h2, a, h => by
  rcases Kz.1 h with rfl | h
  · exact ⟨_, Kt, h1⟩
  ·
   obtain ⟨b, hb, hr⟩ := h2.right a h
   exact ⟨b, KC _ hb, hr⟩
end E
end Go.Proofs.YtaoicebcdmpemaaGreat
namespace Go.Proofs.YtaoicebcdmpemaaGreat
set_option linter.unusedVariables false
open Go.RowKit Mono Rlp
namespace E
def AQ (l : List Oper) (chain done : List Nat) : List Nat := chain.filter fun k => !done.contains k && match l[k]? with
 | some o => o.after.toList.all fun e => !(Region.binds .any e) || !chain.contains e.on || done.contains e.on
 | none => true
def CT (N : Nat) (l : List Oper) (os1 : List Obj) (T : St → Prop) (chain : List Nat) : Nat → List Nat → St → Prop
 | 0, _, S => T S
 | m + 1, done, S => ∀ k ∈ AQ l chain done, CH N l.toArray os1 (fun S' => CT N l os1 T chain m (k :: done) S') (bI l [k]) S
theorem CT.pick {N : Nat} {l : List Oper} {os1 : List Obj} {T : St → Prop} {chain : List Nat} {m : Nat} {done : List Nat} {S : St} (ks : List Nat) (hk : AQ l chain done = ks) (h : ∀ k ∈ ks, CH N l.toArray os1 (fun S' => CT N l os1 T chain m (k :: done) S') (bI l [k]) S) : CT N l os1 T chain (m + 1) done S := by
 unfold CT
 rw [hk]
 exact h
theorem CT.nil {N : Nat} {l : List Oper} {os1 : List Obj} {T : St → Prop} {chain : List Nat} {done : List Nat} {S : St} (h : T S) : CT N l os1 T chain 0 done S := h
section
variable {N : Nat} {X : Cx N} {S : St} {ops : Array Oper} {o : Oper} {Q : Exit → Act → World → Prop} {l : List Oper} {TT : St → List Fr → Prop} {EE : List Fr} {rs : List (Tmp × R)} {os : List Obj} {fs : List (Value × D)}
variable {t ty : Nat} {pos : String} {af : Array Edge} {gd : Option (Nat × Bool)}
theorem HY {x : Operand} {T n m : Nat} {b : List UInt8} (hA : pF T n) (hn : Nat.ble n 4096 = true) (ho : o.op = .slice T x none none none) (hx : ev S x = some (.val (.pd (.arr m b)))) (hm : m = n) (h0 : Nat.blt 0 n = true) : Still ops S o (.val (.bs b)) := fun base ok a w ha => by
 subst hm
 have h1 := (aI rfl).1 (ha.ev hx fun t e => ak e (by rw [ho]; simp [Op.operands]))
 rw [Reads] at h1
 obtain ⟨g, k, cs, e, hg, hr, h2⟩ := h1
 rw [Reads] at h2
 obtain ⟨hl, rfl⟩ := h2
 have e' : a.eval x = .pointer (some ⟨g, k, none⟩) := List.singleton_inj.1 e
 simp only [Nat.ble_eq] at hn
 refine ⟨.slice (some ⟨g, k, none⟩) m m, ?_, (aI rfl).2 ?_⟩
 ·
  unfold execOp
  simp only [ho, e', Option.map_none, Kq, hA.ok w g k, J6, Ku]
 ·
  rw [Reads]
  refine ⟨_, rfl, some ⟨g, k, none⟩, m, by rw [hl], by omega, by simp [maxLen]; omega, fun _ => ⟨g, k, rfl, hg, fun j u hu => hr j u hu⟩⟩
theorem sV {x : Operand} {T n m : Nat} {b : List UInt8} (hA : pF T n) (hn : Nat.ble n 4096 = true) (hx : eV rs os fs x (.pd (.arr m b))) (hm : m = n) (h0 : Nat.blt 0 n = true) : HS N ops TT l rs os fs EE t ty pos af gd (.slice T x none none none) (.val (.bs b)) := fun hg hoff kk => EH.still (HY hA hn rfl hx hm h0) hg rfl hoff kk
theorem Still.refine {d d' : D} (h : Still ops S o (.val d)) (hR : aj S.facts [d] [d']) : Still ops S o (.val d') := fun base ok a w ha => by
 obtain ⟨v, h1, h2⟩ := h base ok a w ha
 exact ⟨v, h1, Refine1.gJ ha.facts hR h2⟩
end
theorem FnM.toFn {f : FuncId} {ds : List D} {Φ : R → Prop} (h : FnM f ds [] (fun r os' => Φ r ∧ os' = [])) : Fn f ds Φ := ⟨fun ok w xs hok hr => by
 refine (h.go ok w xs hok ⟨fun o ho => by simp at ho, .nil, fun b ⟨o, ho, _⟩ => by simp at ho⟩ hr).mono ?_
 rintro e w' ⟨v, r, os', rfl, ⟨hΦ, rfl⟩, ht, hv⟩
 refine ⟨ht.gr.gr fun b ⟨o, ho, _⟩ => by simp at ho, v, r, rfl, hΦ, hv.mono (fun b hb => ⟨?_, hb.2.1⟩) fun _ _ => rfl⟩
 rcases hb.1 with h | ⟨o, ho, _⟩ | h
 · exact .inl h
 · simp at ho
 · exact .inr h⟩
end E
end Go.Proofs.YtaoicebcdmpemaaGreat
namespace Go.Proofs.YtaoicebcdmpemaaGreat
set_option linter.unusedVariables false
open Go.RowKit Mono Rlp
def up (dd : List Deferred) (a : Act) : Act := { a with defers := a.defers ++ dd }
def upQ (dd : List Deferred) (Q : Exit → Act → World → Prop) : Exit → Act → World → Prop := fun e a w => Q e (up dd a) w
theorem GI (dd : List Deferred) (a : Act) (d : Option Tmp) (v : Value) : (up dd a).put d v = up dd (a.put d v) := by cases d <;> rfl
theorem og {dd : List Deferred} {Q : Exit → Act → World → Prop} (h : LetsOut (upQ dd Q)) : LetsOut Q := by
 obtain ⟨a, w, h⟩ := h
 exact ⟨up dd a, w, h⟩
theorem kX {ops : Array Oper} (dd : List Deferred) {Q : Exit → Act → World → Prop} : ∀ (l : List Oper) (a : Act) (w : World), wpList Tryz.prog ops (upQ dd Q) l a w → wpList Tryz.prog ops Q l (up dd a) w
 | [], a, w, h => h
 | o :: l, a, w, h => by
  have ih := kX (ops := ops) dd (Q := Q) l
  have ih' : ∀ (a : Act) (d : Option Tmp) (v : Value) (w : World), wpList Tryz.prog ops (upQ dd Q) l (a.put d v) w → wpList Tryz.prog ops Q l ((up dd a).put d v) w := fun a d v w h => by
   rw [GI]
   exact ih _ _ h
  unfold wpList at h ⊢
  have e1 : yielded ops (up dd a).tmps = yielded ops a.tmps := rfl
  have e2 : (up dd a).eval = a.eval := rfl
  rw [e1]
  split
  ·
   rename_i hw
   rw [if_pos hw] at h
   rcases h with h | ⟨h1, h2⟩
   ·
    refine .inl ?_
    unfold Oper.wp at h ⊢
    rw [e2]
    generalize (execOp a.eval o).run Tryz.prog w = res at h ⊢
    cases res with
    | ok x w' =>
     cases x with
     | enter f args =>
      refine Calls.mono h fun e w'' he => ?_
      cases e with
      | returned v => exact ih' _ _ _ _ he
      | panicked c => exact he
      | outgrown => exact og he
     | row r args => exact Rows.mono h fun v w'' he => ih' _ _ _ _ he
     | value v => exact ih' _ _ _ _ h
     | skip => exact ih' _ _ _ _ h
     | defer d => exact ih' { a with defers := d :: a.defers } _ _ _ h
     | _ => exact h
    | halt x w' =>
     cases x <;> exact h
   · exact .inr ⟨h1, og h2⟩
  ·
   rename_i hw
   rw [if_neg hw] at h
   exact ih' _ _ _ _ h
namespace E
variable {N : Nat} {X : Cx N} {S : St} {Q : Exit → Act → World → Prop} {c y : Code} {ops : Array Oper} {l : List Oper} {dd : List Deferred}
structure DC {N : Nat} (X : Cx N) (dd : List Deferred) (Q : Exit → Act → World → Prop) (c : Code) (S : St) : Prop where
 go : ∀ a w, At X S a w → c.wp Tryz.prog Q (up dd a) w
theorem DC.region {id : Nat} (h : EL X l.toArray (upQ dd Q) l S) : DC X dd Q (.region id l.toArray false) S := ⟨fun a w ha => wp_region_lit (kX dd _ _ _ (h.go a w ha))⟩
theorem DC.seq (h : DC X dd (Exit.then (y.wp Tryz.prog Q) Q) c S) : DC X dd Q (.seq c y) S := ⟨fun a w ha => wp_seq (h.go a w ha)⟩
theorem DC.ret (h : EK X (upQ dd Q .ret) S) : DC X dd Q .ret S := ⟨fun a w ha => wp_ret (h.go a w ha)⟩
theorem EK.C9 (h : DC X dd Q y S) : EK X (upQ dd (Exit.then (y.wp Tryz.prog Q) Q) .normal) S := ⟨fun a w ha => h.go a w ha⟩
theorem EL.defer {o : Oper} {d : Deferred} (hg : guardOf ops S o = some true) (hd : o.dst = none) (hO : ∀ base ok a w, Kn base ok (fun t => t ∈ o.looksAt ops) S a w → (execOp a.eval o).run Tryz.prog w = .ok (.defer d) w) (k : EL X ops (upQ [d] Q) l S) : EL X ops Q (o :: l) S := by
 constructor
 intro a w ha
 unfold wpList
 rw [if_pos (bK ha hg)]
 refine .inl ?_
 unfold Oper.wp
 rw [hO _ _ a w (ha.kn _)]
 have e : ({ a with defers := d :: a.defers } : Act) = up [d] a := by unfold up; rw [ha.defers]; rfl
 show wpList Tryz.prog ops Q l (({ a with defers := d :: a.defers } : Act).put o.dst undef) w
 rw [hd, e]
 exact kX [d] _ _ _ (k.go a w ha)
theorem EK.JW {fn : Func} {Φ : R → List Obj → Prop} {g : FuncId} {cap : Array Value} (h : EK X (bodyPost Tryz.prog fn (jZ X Φ) .ret) S) (hi : ∀ w, (invoke (.fn (.func g) cap) #[]).run Tryz.prog w = .ok (.enter g cap) w)
  (hC : ∀ w, CallsD Tryz.prog g cap .returning w fun e u' w' => u' = .returning ∧ e = .returned (.tuple #[]) ∧ w' = w) : EK X (upQ [{ target := .fn (.func g) cap, args := #[] }] (bodyPostD Tryz.prog fn (jZ X Φ)) .ret) S := by
 constructor
 intro a w ha
 obtain ⟨hd, v, hr, hR⟩ := h.go a w ha
 show Leaves Tryz.prog fn a.tmps (jZ X Φ) (a.defers ++ [_]) .returning w
 rw [ha.defers]
 refine leaves_cons (by simp) (hi w) ((hC w).mono ?_)
 rintro e u' w' ⟨rfl, rfl, rfl⟩
 exact ⟨v, hr, hR⟩
theorem FnM.IW {f : FuncId} {fn : Func} {c : Code} {ds : List D} {os : List Obj} {Φ : R → List Obj → Prop} (N : Nat) (hf : Tryz.prog.funcs[f]? = some fn) (hb : fn.body = some c) (hN : fn.ntmps = N) (hl : ds.length ≤ N)
  (h : ∀ X : Cx N, EC X (bodyPostD Tryz.prog fn (jZ X Φ)) c ⟨jd 0 ds, os, []⟩) : FnM f ds os Φ := by
 constructor
 intro ok w xs hok hown hr
 have hxl := fE ds xs hr
 refine Calls.mono (calls_of_wp_defers hf hb ((h ⟨w, ok, iw os, hok⟩).go _ w ⟨⟨.refl w, hown.apart, fun o ho => ?_, (fun f hf => by cases hf)⟩, fun t r ht => ?_, ?_, rfl⟩)) ?_
 · exact ((hown.at_ o ho).move (fun b hb => ⟨.inl hb, hok b hb, fun o' ho' e => hown.off b ⟨o', ho', e⟩ hb⟩) (fun _ _ => rfl) fun _ _ => rfl).iD fun b e => .inl ⟨o, ho, e⟩
 ·
  refine gI ds xs 0 _ (bC.mono (fun b hb => ⟨.inl hb, hok b hb, fun o' ho' e => hown.off b ⟨o', ho', e⟩ hb⟩) (fun _ _ => rfl) ds xs hr) (fun j x hx => ?_) t r ht
  have hj := (Kw.1 hx).1
  have : (xs.toArray ++ Array.replicate (fn.ntmps - xs.toArray.size) undef)[j]? = some x := by
   rw [MO (by simpa using hj)]
   simpa using hx
  rw [KJ, MI, this]
  rfl
 ·
  simp [hN]
  omega
 ·
  rintro e w' ⟨v, r, os', rfl, h1, h2, h3⟩
  exact ⟨v, r, os', rfl, h1, ⟨h2.gr, h2.apart, h2.at_⟩, h3⟩
end E
end Go.Proofs.YtaoicebcdmpemaaGreat
namespace Go.Proofs.YtaoicebcdmpemaaGreat
set_option linter.unusedVariables false
set_option maxRecDepth 20000
set_option maxHeartbeats 4000000
open Go.RowKit Mono Rlp
namespace E
section
variable {N : Nat} {X : Cx N} {S S' : St} {a : Act} {w w' : World} {ops : Array Oper} {o : Oper} {Q : Exit → Act → World → Prop} {l : List Oper} {rs : List (Tmp × R)} {os os' rest : List Obj} {fs : List (Value × D)} {base ok : Nat → Prop} {p q : Obj}
theorem Eh {T : TypeId} (ho : o.op = .makeMap T none) : lJ ops S o [] (fun r os' => ∃ g, r = .val (.v (.map (some g))) ∧ os' = [.it g (.map #[] 0)]) := .mk fun base ok a w ha hown => by
 have hr : (execOp a.eval o).run Tryz.prog w = .ok (.value (.map (some w.heap.size))) (w.alloc (.map #[] 0)) := by
  unfold execOp
  have := @run_makeMap Tryz.prog
  simp [ho, this]
 rw [hr]
 obtain ⟨h1, h2⟩ := Gh (ok := ok) (w := w) (q := .it w.heap.size (.map #[] 0)) (r := .val (.v (.map (some w.heap.size)))) (ob := .map #[] 0) (v := .map (some w.heap.size)) rfl (fun ok' _ => ⟨.inr (Nat.le_refl _), heap_alloc_new w _⟩) (fun _ => dM rfl) ha.lt
 exact ⟨_, _, ⟨_, rfl, rfl⟩, h1, h2⟩
theorem FC {t T ty : Nat} {pos : String} {af : Array Edge} {gd : Option (Nat × Bool)} (hg : guardOf ops ⟨rs, os, fs⟩ ⟨some t, .makeMap T none, ty, pos, af, gd⟩ = some true) (hN : Nat.blt t N = true) (kk : ∀ g, EL X ops Q l ⟨(t, .val (.v (.map (some g)))) :: rs, .it g (.map #[] 0) :: os, fs⟩) : EL X ops Q (⟨some t, .makeMap T none, ty, pos, af, gd⟩ :: l) ⟨rs, os, fs⟩ :=
 EL.mut (os := []) (rest := os) hg (fJ rfl hN) (Eh rfl) fun r os' ⟨g, h1, h2⟩ => by
  subst h1 h2
  exact kk g
theorem nP {g : Nat} {ob ob' : Go.Obj} (hown : Own ok [.it g ob] w) : Turned ok [.it g ob] w [.it g ob'] { w with heap := w.heap.setIfInBounds g ob' } := by
 have hat := hown.at_ (.it g ob) (by simp)
 have hlt : g < w.heap.size := by
  have := hat.2
  exact (KH.1 this).1
 have hB : ∀ b, iw [.it g ob] b ↔ b = g := fun b => ⟨fun ⟨o, ho, e⟩ => by
  obtain rfl : o = .it g ob := by simpa using ho
  injection e with e
  exact e.symm, fun e => ⟨.it g ob, by simp, by rw [e]; rfl⟩⟩
 have hgb := eP (o' := ob') hat.2
 refine ⟨⟨hgb.os, hgb.tape, hgb.output, hgb.size, fun k hk hn => hgb.block k hk fun e => hn ((hB k).2 (by injection e))⟩, by simp, fun o ho => ?_⟩
 obtain rfl : o = .it g ob' := by simpa using ho
 exact ⟨.inl ⟨.it g ob, by simp, rfl⟩, heap_put hat.2⟩
theorem vZ {T K E U B : TypeId} {c : Nat} {x v : Value} {info : TypeInfo} {I : _} {g : Nat} (hT : Tryz.prog.underlying T = some (.map K E)) (hK : Tryz.prog.underlying K = some (.interface I)) (hU : Tryz.prog.info? U = some info) (hc : info.comparable = true) (hu : Tryz.prog.underlying U = some (.pointer B)) (h : w.heap[g]? = some (.map #[] c)) :
  (Instr.mapUpdate T (.map (some g)) (.iface U x) v).run Tryz.prog w = .ok () { w with heap := w.heap.setIfInBounds g (.map #[{ key := .iface U x, val := v, born := c }] (c + 1)) } := by
 have h1 : (Instr.checkKey false 10000 K (.iface U x)).run Tryz.prog w = .ok () w := by
  rw [show (10000 : Nat) = 9998 + 1 + 1 from rfl]
  unfold Instr.checkKey
  simp only [Kq, run_underlying hK, J6, run_typeInfo w hU, hc, Bool.not_true, LP, if_false]
  unfold Instr.checkKey
  simp only [Kq, run_underlying hu, J6, Ku]
 have h2 : (Instr.findKey K (.iface U x) []).run Tryz.prog w = .ok none w := by
  unfold Instr.findKey
  simp only [Kq, run_underlying hK, J6, Instr.findNow, Ku]
 unfold Instr.mapUpdate
 simp only [Kq, run_underlying hT, J6, LX h, h1, h2]
 rw [LY _ h]
 rfl
theorem Bg {T K E U B : TypeId} {I : _} {info : TypeInfo} {x y z : Operand} {dk d : D} {g c : Nat} (ho : o.op = .mapUpdate T x y z) (hx : ev S x = some (.val (.v (.map (some g))))) (hy : ev S y = some (.val (.ifc U dk))) (hz : ev S z = some (.val d)) (hT : Tryz.prog.underlying T = some (.map K E)) (hK : Tryz.prog.underlying K = some (.interface I)) (hU : Tryz.prog.info? U = some info) (hc : info.comparable = true) (hu : Tryz.prog.underlying U = some (.pointer B)) :
  lJ ops S o [.it g (.map #[] c)] (fun r os' => r = .any ∧ ∃ es, os' = [.it g (.map es (c + 1))]) := .mk fun base ok a w ha hown => by
 have h1 := dh ha hx (aA (by rw [ho]; simp [Op.operands]))
 obtain ⟨cs, h2, _⟩ := xA (ha.ev hy (aA (by rw [ho]; simp [Op.operands])))
 have hat := hown.at_ (.it g (.map #[] c)) (by simp)
 have h3 := vZ (w := w) (x := form dk cs) (v := a.eval z) hT hK hU hc hu hat.2
 have hr : (execOp a.eval o).run Tryz.prog w = .ok .skip { w with heap := w.heap.setIfInBounds g (.map #[{ key := .iface U (form dk cs), val := a.eval z, born := c }] (c + 1)) } := by
  unfold execOp
  simp only [ho, h1, h2, Kq, h3, J6, Ku]
 rw [hr]
 exact ⟨.any, _, ⟨rfl, _, rfl⟩, nP hown, trivial⟩
theorem zu {T K E U B : TypeId} {I : _} {x y z : Operand} {dk d : D} {g c : Nat} (ho : o.op = .mapUpdate T x y z) (hx : ev S x = some (.val (.v (.map (some g))))) (hy : ev S y = some (.val (.ifc U dk))) (hz : ev S z = some (.val d)) (hT : Tryz.prog.underlying T = some (.map K E)) (hK : Tryz.prog.underlying K = some (.interface I)) (hU : (Tryz.prog.info? U).map (·.comparable) = some true) (hu : Tryz.prog.underlying U = some (.pointer B)) :
  lJ ops S o [.it g (.map #[] c)] (fun r os' => r = .any ∧ ∃ es, os' = [.it g (.map es (c + 1))]) := by
 obtain ⟨info, h1, h2⟩ := Option.map_eq_some_iff.1 hU
 exact Bg ho hx hy hz hT hK h1 h2 hu
theorem Bh {T K E : TypeId} {x : Operand} {es : Array MapEntry} {g c : Nat} (ho : o.op = .call { callee := .builtin .clear, args := #[x], argTypes := #[T] }) (hx : ev S x = some (.val (.v (.map (some g))))) (hT : Tryz.prog.underlying T = some (.map K E)) :
  lJ ops S o [.it g (.map es c)] (fun r os' => r = .tpl [] ∧ os' = [.it g (.map #[] c)]) := .mk fun base ok a w ha hown => by
 have h1 := dh ha hx (aA (by rw [ho]; simp [Op.operands, Call.operands]))
 have hat := hown.at_ (.it g (.map es c)) (by simp)
 have h2 : (Builtin.clear_ #[T] o.type #[.map (some g)]).run Tryz.prog w = .ok (.tuple #[]) { w with heap := w.heap.setIfInBounds g (.map #[] c) } := by
  simp [Builtin.clear_, run_underlying hT, MapKept.run_getObj_map hat.2, MapKept.run_setObj_map _ hat.2]
 have hr : (execOp a.eval o).run Tryz.prog w = .ok (.value (.tuple #[])) { w with heap := w.heap.setIfInBounds g (.map #[] c) } := by
  unfold execOp
  simp only [ho, resolve, invoke, builtin, Kq, Ku, J6, LV, KD, KU, h1, h2]
 rw [hr]
 exact ⟨.tpl [], _, ⟨rfl, rfl⟩, nP hown, [], rfl, rfl⟩
end
theorem xK (cap : Array Value) (hc : cap.size = 1) (w : World) : CallsD Tryz.prog 103 cap .returning w fun e u' w' => u' = .returning ∧ e = .returned (.tuple #[]) ∧ w' = w := by
 refine callsD_of_wpS Tryz.func103 rfl fun c₀ cs hu => ?_
 obtain ⟨x, rfl⟩ : ∃ x, cap = #[x] := Array.size_eq_one_iff.1 hc
 apply wpS_seq
 apply wpS_region
 simp [wpOpsS, go_sem, recoverD, hu, Tryz.ntmps103, Exit.thenS]
 apply wpS_seq
 apply wpS_region
 simp [wpOpsS, go_sem, recoverD, hu, Exit.thenS]
 refine wpS_cond (t := false) (by simp [Act.eval, Array.replicate]) ?_
 simp only [LP, if_false]
 refine wpS_of_wp (wp_skip ?_)
 cases c₀
 simp_all [bodyPostS, results, Tryz.results103]
abbrev fnV (F : FuncId) (caps : List Value) : Value := .func (.func F) #[] caps.toArray
theorem sD {F : FuncId} {caps : List Value} {os : List Obj} {Φ : List Obj → Prop} (hF : FnM F (caps.map .v) os (fun r o => r = .tpl [] ∧ Φ o)) (hc : ∀ x ∈ caps, x.oneCell' = true) (hE : Enters F) : FnM 58 [.v (fnV F caps)] os (fun r o => r = .val (.v (.int .i64 0)) ∧ Φ o) := by
 refine FnM.IW 6 Tryz.func58 rfl Tryz.ntmps58 (by simp) fun X => ?_
 repeat (refine stp ?_; intros)
 rename_i g2
 refine EL.defer (d := { target := .fn (.func 103) #[.pointer (some ⟨g2, 0, none⟩)], args := #[] }) rfl rfl (fun base ok a w ha => ?_) ?_
 ·
  have h1 : a.eval (.tmp 3) = .func (.func 103) #[] #[.pointer (some ⟨g2, 0, none⟩)] := dh ha rfl (aA (by simp [Op.operands, Call.operands]))
  unfold execOp
  simp [resolve, h1, Deferred.ofValue]
 refine EL.nil (EK.C9 (DC.seq (DC.region ?_)))
 refine EL.le (Le.perm (MN (l₁ := [_]))) ?_
 repeat (refine stp ?_; intros)
 refine Dw (os := os) (rest := [_]) (caps := caps) (ds' := []) (cds := caps.map .v) hF (fun base ok L a w _ => Dc hc) rfl rfl rfl (aj.refl _ _) hE rfl rfl ?_
 rintro _ os' ⟨rfl, hΦ⟩
 refine EL.nil (EK.C9 (DC.seq (DC.region ?_)))
 refine EL.le (Le.perm (MN (l₂ := [_]))) ?_
 simp only [Ko, J8]
 repeat (refine stp ?_; intros)
 refine EK.C9 (DC.ret (EK.JW (EK.yg 0 os' rfl rfl rfl rfl (aj.refl _ _) (MH _ _) ⟨rfl, hΦ⟩) (fun w => by simp [go_sem]) (xK _ rfl)))
end E
end Go.Proofs.YtaoicebcdmpemaaGreat
namespace Go.Proofs.YtaoicebcdmpemaaGreat
set_option maxHeartbeats 400000
open Go.RowKit Mono
def split (l : List UInt8) : List UInt8 := l.flatMap fun (x : UInt8) => [x >>> 4, x &&& 15]
theorem rC (l : List UInt8) : (split l).length = 2 * l.length := by
 induction l with
 | nil => rfl
 | cons x l ih => unfold split at *; rw [List.flatMap_cons, List.length_append, ih]; simp; omega
theorem vX (l : List UInt8) (k : Nat) (h : k < l.length) : split (l.take (k + 1)) = split (l.take k) ++ [l[k] >>> 4, l[k] &&& 15] := by
 rw [KF h, split, List.flatMap_append]; rfl
theorem JR (x : UInt8) : bvs [x >>> 4, x &&& 15] = [.int .u8 ((x.toNat : Int) / 16), .int .u8 ((x.toNat : Int) % 16)] := by
 have h1 : (x >>> 4).toNat = x.toNat / 16 := by rw [UInt8.toNat_shiftRight]; simp [Nat.shiftRight_eq_div_pow]
 have h2 : (x &&& 15).toNat = x.toNat % 16 := by rw [UInt8.toNat_and]; exact MV _ 4
 simp [bvs, bv, h1, h2]
theorem wZ (v1 : Value) (l : List UInt8) (w : World) (h1 : IsB w v1 l) (hlen : l.length ≤ 1073741824) :
  Calls Tryz.prog 62 #[v1] w (Ret (fun v w' => OwnB w' w.heap.size v (split l)) w) := by
 obtain ⟨A, c, rfl, hl1, hl2, hA⟩ := h1
 clear hl1 hl2
 have HA := Lib.hid hA
 clear hA
 go_enter Tryz.func62, Tryz.ntmps62
 go_wp2
 go_loopw [3, 8] (fun v i wr => ∃ k : Nat, k ≤ l.length ∧ i = .int .i64 k ∧ OwnB wr w.heap.size v (split (l.take k)) ∧ Below w.heap.size w wr) (fun _ i _ => l.length - (intOf i).toNat)
 case atStart => exact ⟨0, by omega, rfl, OwnB.nil w w.heap.size, Below.refl _ _⟩
 case round =>
  obtain ⟨k, hk1, rfl, hown, hb⟩ := hrel
  obtain ⟨A', c', rfl, hc1, hc2⟩ := eF hown
  have hsl : (split (l.take k)).length ≤ 2 * k := by rw [rC, L6]; omega
  have hbs := hb.size
  have HO := Lib.hid hown
  have HB := Lib.hid hb
  clear hown hb
  by_cases h1 : k < l.length
  ·
   obtain ⟨b1, o1, rfl, hb1, c1⟩ := HA.out (by intro e; have := aJ l; rw [e] at this; simp at this; omega)
   have d1 := (HB.out.cell (p := ⟨b1, o1 + k, none⟩) hb1).trans (c1 k _ (sJ l k h1))
   clear c1
   unfold bv at d1
   have hlx := yM l[k]
   have HS := Lib.hid (vX l k h1)
   have HN := Lib.hid (JR l[k])
   generalize l[k].toNat = x at d1 hlx HN
   go_wp2_with (at_builtin; refine dS _ _ 41 dW _ _ _ _ _ _ (wr.heap.size + 1) [.int .u8 (↑x / 16), .int .u8 (↑x % 16)] rfl rfl rfl rfl (HO.out.alloc _) (Rd.new _ _ _) rfl (by simp [Value.oneCell']) (by simp only [maxLen]; omega) (by omega) (by simp; omega) ?_; intro A2 c2 w2 hown2 hg2 _)
   go_roundw
   case rel =>
    refine ⟨k + 1, by omega, by go_num, ?_, ?_⟩
    ·
     unfold OwnB
     rw [HS.out, oZ, List.length_append]
     have e := HN.out
     rw [← e] at hown2
     exact hown2
    · exact (HB.out.alloc hbs _).grown hg2 (by simp; omega) fun j hj => eX HO.out j hj
   case measure => simp [intOf]; omega
  ·
   go_wp2
   refine bodyPost_ret (results_tmp rfl _ _ _) rfl ?_
   refine ⟨_, rfl, HB.out, ?_⟩
   have h := HO.out
   rw [List.take_of_length_le (by omega)] at h
   show OwnB _ _ (.slice A' (split (l.take k)).length c') _
   rw [List.take_of_length_le (by omega)]
   exact h



def hdr (p : List UInt8) (leaf : Bool) : List UInt8 := if p.length % 2 = 1 then [if leaf then 3 else 1] else [if leaf then 2 else 0, 0]
end Go.Proofs.YtaoicebcdmpemaaGreat
namespace Go.Proofs.YtaoicebcdmpemaaGreat
set_option linter.unusedVariables false
open Go.RowKit Mono Rlp
namespace E
theorem uh {ok : Nat → Prop} {w w' : World} {v : Value} {l : List UInt8} (h : OwnB w' w.heap.size v l) : aP (fun b => (ok b ∨ w.heap.size ≤ b) ∧ b < w'.heap.size) w' (.bs l) v := by
 refine (aI rfl).2 ?_
 rw [Reads]
 exact ⟨_, rfl, (xg h).mono (fun b hb => ⟨.inr hb.1, hb.2⟩) fun _ _ => rfl⟩
theorem oL (l : List UInt8) (hl : l.length ≤ 1073741824) : Fn 62 [.bs l] (· = .val (.bs (split l))) := ⟨fun ok w xs hok hr => by
 obtain ⟨x, _, rfl, h, hn⟩ := hr
 cases hn
 refine (wZ x l w (jU hok h) hl).mono ?_
 rintro e w' ⟨v', rfl, hg, hv⟩
 exact ⟨hg, _, _, rfl, rfl, uh hv⟩⟩
end E
end Go.Proofs.YtaoicebcdmpemaaGreat
