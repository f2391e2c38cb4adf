/-
 Merged: lemmas of this claim.
 Conditions: none.
-/
import Derived.Test.YtelbhdobjdnglaaGreatZC11
import Derived.Test.YtelbhdobjdnglaaGreatZC8
import Derived.Test.YtelbhdobjdnglaaGreatZC2
import Derived.Test.YtelbhdobjdnglaaGreatZC7
import Derived.Maps.RangeRun
import Derived.Test.YtelbhdobjdnglaaGreatZC0
namespace Go.Proofs.YtelbhdobjdnglaaGreat
set_option linter.unusedVariables false
open Go.RowKit Mono Rlp
namespace E
theorem pX {α : Type} : ∀ l : List α, (List.range l.length).filterMap (fun i => l[i]?) = l
 | [] => rfl
 | x :: l => by
  rw [WS, List.range_succ_eq_map, WU]
  simp only [WQ, List.filterMap_map]
  congr 1
  exact pX l
theorem BA {os : List Obj} (l : List Nat) (hn : os.length = l.length) (h : l.Perm (List.range l.length)) : os.Perm (l.filterMap fun i => os[i]?) := by
 have := h.filterMap fun i => os[i]?
 rw [← hn, pX] at this
 exact this.symm
theorem Le.pick {N : Nat} {X : Cx N} {rs : List (Tmp × R)} {os : List Obj} {fs : List (Value × D)} (l : List Nat) (os' : List Obj) (hn : os.length = l.length) (h : l.Perm (List.range l.length)) (hp : (l.filterMap fun i => os[i]?) = os') : Le X ⟨rs, os, fs⟩ ⟨rs, os', fs⟩ := hp ▸ Le.perm (BA l hn h)
theorem FnM.pick {f : FuncId} {ds : List D} {os : List Obj} {Φ : R → List Obj → Prop} (hF : FnM f ds os Φ) (l : List Nat) (hn : os.length = l.length) (h : l.Perm (List.range l.length)) : FnM f ds (l.filterMap fun i => os[i]?) Φ := hF.perm (BA l hn h)
theorem FnM.out {f : FuncId} {ds : List D} {os : List Obj} {Φ Ψ : R → List Obj → Prop} (hF : FnM f ds os Φ) (k : ∀ r os', Φ r os' → ∃ os2, os'.Perm os2 ∧ Ψ r os2) : FnM f ds os Ψ := ⟨fun ok w xs h1 h2 h3 => (hF.go ok w xs h1 h2 h3).mono fun e w' ⟨v, r, os', e1, e2, e3, e4⟩ => by
 obtain ⟨os2, hp, hΨ⟩ := k r os' e2
 have hok : okM ok os w os' w' = okM ok os w os2 w' := funext fun b => propext ⟨fun h => ⟨h.1, h.2.1, fun o ho => h.2.2 o (hp.mem_iff.2 ho)⟩, fun h => ⟨h.1, h.2.1, fun o ho => h.2.2 o (hp.mem_iff.1 ho)⟩⟩
 exact ⟨v, r, os2, e1, hΨ, ⟨e3.gr, e3.apart.perm hp, fun o ho => hok ▸ e3.at_ o (hp.mem_iff.2 ho)⟩, hok ▸ e4⟩⟩
theorem FnM.frame {f : FuncId} {ds : List D} {os : List Obj} {Φ : R → List Obj → Prop} (hF : FnM f ds os Φ) (rest : List Obj) : FnM f ds (os ++ rest) (fun r os' => ∃ os2, Φ r os2 ∧ os' = os2 ++ rest) := by
 constructor
 intro ok w xs hok hown hr
 have hap := X0.1 hown.apart
 have hown1 : Own ok os w := ⟨fun o ho => hown.at_ o (XC _ ho), hap.1, fun b ⟨o, ho, e⟩ => hown.off b ⟨o, XC _ ho, e⟩⟩
 refine (hF.go ok w xs hok hown1 hr).mono ?_
 rintro e w' ⟨v, r, os', rfl, hΦ, ht, hv⟩
 have hrest : ∀ o ∈ rest, ∀ b, o.blk = some b → b < w.heap.size := fun o ho b e => (Obj.eP (hown.at_ o (Xz _ ho)) e).2
 have hoff : ∀ b, (ok b ∨ oO os b ∨ w.heap.size ≤ b) → ∀ o ∈ rest, o.blk ≠ some b := fun b hb o ho e => by
  rcases hb with h | ⟨o', ho', e'⟩ | h
  · exact hown.off b ⟨o, Xz _ ho, e⟩ h
  · exact hap.2.2 o' ho' o ho b e' e
  ·
   have := hrest o ho b e
   omega
 have hbl : ∀ b, oO os b → oO (os ++ rest) b := fun b ⟨o, ho, e⟩ => ⟨o, XC _ ho, e⟩
 have hz : ∀ b, okM ok os w os' w' b → okM ok (os ++ rest) w (os' ++ rest) w' b := fun b hb => ⟨hb.1.imp id (Or.imp (hbl b) id), hb.2.1, fun o ho => by
  rcases Xq.1 ho with ho | ho
  · exact hb.2.2 o ho
  · exact hoff b hb.1 o ho⟩
 have hblk : ∀ o ∈ os', ∀ b, o.blk = some b → oO os b ∨ w.heap.size ≤ b := fun o ho b e => (Obj.eP (ht.at_ o ho) e).1
 have hnew : ∀ b, ok b → ∀ o ∈ os', o.blk ≠ some b := fun b hb o ho e => by
  rcases hblk o ho b e with h | h
  · exact hown1.off b h hb
  ·
   have := hok b hb
   omega
 refine ⟨v, r, os' ++ rest, rfl, ⟨os', hΦ, rfl⟩, ⟨?_, X0.2 ⟨ht.apart, hap.2.1, fun o ho p hp b e e' => ?_⟩, fun o ho => ?_⟩, bU.mono hz (fun _ _ => rfl) hv⟩
 · exact (GrE.refl w).step ht.gr fun b hb => .inl (hbl b hb)
 · exact hoff b (.inr (hblk o ho b e)) p hp e'
 ·
  rcases Xq.1 ho with ho | ho
  · exact ((ht.at_ o ho).move hz (fun _ _ => rfl) fun _ _ => rfl).ku fun b e => (hblk o ho b e).imp (hbl b) id
  ·
   have hat := hown.at_ o (Xz _ ho)
   refine (hat.move (z' := okM ok (os ++ rest) w (os' ++ rest) w') (fun b hb => hz b ⟨.inl hb, Xd (hok b hb) ht.gr.size, hnew b hb⟩) (fun p hp => ht.gr.cell (hok _ hp) fun hb => hown1.off _ hb hp) fun g e => ht.gr.block g (hrest o ho g e) fun hb => hoff g (.inr (.inl hb)) o ho e).ku fun b e => .inl ⟨o, Xz _ ho, e⟩
section
variable {S : St} {ops : Array Oper} {o : Oper}
theorem kS {T e z y' : Nat} {s x : Operand} {v : Value} {ds es : List D} (ho : o.op = .call { callee := .builtin .append, args := #[s, x], argTypes := #[T, T] }) (hT : assoc slL T = some (e, z, y')) (hz : Nat.blt 0 z = true) (hs : ev S s = some (.val (.v v))) (hx : ev S x = some (.val (.sl z es))) (hlen : (ds.length + es.length) * y' ≤ 140737488355328 ∧ ds.length + es.length ≤ 9223372036854775807) :
  wB ops S o [.row v e z ds] (fun r os' => ∃ v', r = .val (.v v') ∧ os' = [.row v' e z (ds ++ es)]) := .mk fun base ok a w ha hown => by
 have hs' := gW ha hs fun t e => aU e (by rw [ho]; simp [Op.operands, Call.operands])
 obtain ⟨A, c, rows', h1, h2, h3, h4, h5, h6⟩ := wH (ha.ev hx fun t e => aU e (by rw [ho]; simp [Op.operands, Call.operands]))
 obtain ⟨rows, h7, h8⟩ := hown.at_ (.row v e z ds) WT
 obtain ⟨hl1, hl2⟩ := ay.lens es rows' h6
 have hlen' : rows'.flatten.length = es.length * z := by
  have : ∀ rows : List (List Value), (∀ r ∈ rows, r.length = z) → rows.flatten.length = rows.length * z := by
   intro rows
   induction rows with
   | nil => simp
   | cons r rows ih =>
    intro h
    rw [Xv, List.length_append, h r (by simp), ih fun r hr => h r (by simp [hr]), WS, X5, Yj, Yv]
  rw [this rows' hl2, hl1]
 have hrd : Rd w w.heap.size A rows'.flatten := fun hn => by
  obtain ⟨b, n, e, hb, hc⟩ := h5 hn
  exact ⟨b, n, e, ha.lt b hb, hc⟩
 obtain ⟨A', c', w', hrun, hown', hgr, hblk⟩ := kJ (P := Tryz.prog) (ty := o.type) (c := c) (Og hT hz) h7.1 hlen' hrd (ay.one es rows' h6) (by simp only [maxLen]; exact hlen.2) hlen.1 (Xo _)
 have hoff : ∀ b, ok b → v.ownBlock ≠ some b := fun b hb e => hown.off b ⟨_, WT, e⟩ hb
 have hblk' : ∀ b, (Value.slice A' (ds.length + es.length) c').ownBlock = some b → v.ownBlock = some b ∨ w.heap.size ≤ b := fun b e' => by
  rcases hblk with h | h
  · exact .inl (h ▸ e')
  ·
   rw [h] at e'
   cases e'
   exact .inr (Nat.le_refl _)
 have hz' : ∀ b, ok b → okM ok [.row v e z ds] w [.row (.slice A' (ds.length + es.length) c') e z (ds ++ es)] w' b := fun b hb => ⟨.inl hb, Xd (ha.lt b hb) hgr.size, fun o' ho' e' => by
  obtain rfl : o' = _ := by simpa using ho'
  rcases hblk' b e' with h | h
  · exact hoff b hb h
  ·
   have := ha.lt b hb
   omega⟩
 have hcell : ∀ p : Addr, ok p.block → w'.cell? p = w.cell? p := fun p hp => World.cell?_of_block (hgr.block _ (ha.lt _ hp) fun e' => hoff _ hp e'.symm)
 unfold execOp
 simp only [ho, resolve, invoke, builtin, WX, Xc, WV, Yq, Xm, X3, hs', h1, hrun, iW]
 refine ⟨.val (.v (.slice A' (ds.length + es.length) c')), [.row (.slice A' (ds.length + es.length) c') e z (ds ++ es)], ⟨_, rfl, rfl⟩, ⟨⟨hgr.os, hgr.tape, hgr.output, hgr.size, fun k hk hn => hgr.block k hk fun e' => hn ⟨_, WT, e'.symm⟩⟩, by simp, fun o' ho' => ?_⟩, ?_⟩
 ·
  obtain rfl : o' = _ := by simpa using ho'
  refine ⟨rows ++ rows', ?_, ay.append ds es rows rows' (ay.mono hz' hcell z ds rows h8) (ay.mono hz' hcell z es rows' h6)⟩
  rw [Yz, List.length_append]
  refine ⟨hown', fun b hb => ?_⟩
  rcases hblk' b hb with h | h
  · exact .inl ⟨_, WT, h⟩
  · exact .inr h
 · exact aY.2 ⟨rfl, rfl⟩
end
def Visit (ops : Array Oper) (S : St) (o : Oper) (r : R) : Prop := ∃ os rest, S.objs.Perm (os ++ rest) ∧ wB ops ⟨S.regs, rest, S.facts⟩ o os (fun r' os' => r' = r ∧ os' = os)
def OkV (N : Nat) (ops : Array Oper) (S : St) (o : Oper) (i : Inf) : Prop := OkI N ops S o i ∨ ∃ r, i = .grow r ∧ guardOf ops S o = some true ∧ Visit ops S o r
def EV (N : Nat) (ops : Array Oper) (T : St → List Fr → Prop) : List Oper → St → List Fr → Prop
 | [], S, E => T S E
 | o :: l, S, E => ∃ inf : Inf, inf.JK = true ∧ fM N o.dst E = true ∧ ((∃ T d, inf = .new T d) → o.dst ≠ none) ∧ OkV N ops S o inf ∧ EV N ops T l (S.put o.dst inf.reg) (wU E o.dst inf)
section
variable {N : Nat} {X : Cx N} {S S' : St} {a : Act} {w w' : World} {ops : Array Oper} {o : Oper} {Q : Exit → Act → World → Prop} {l : List Oper} {T : St → List Fr → Prop} {E : List Fr}
theorem EV.nil (h : T S E) : EV N ops T [] S E := h
theorem EV.seg {l2 : List Oper} : ∀ (l1 : List Oper) (S : St) (E : List Fr), EM N ops (fun S' E' => EV N ops T l2 S' E') l1 S E → EV N ops T (l1 ++ l2) S E
 | [], S, E, h => h
 | o :: l1, S, E, ⟨inf, h0, h1, h2, h3, h4⟩ => ⟨inf, h0, h1, h2, .inl h3, EV.seg l1 _ _ h4⟩
theorem EV.cut (k : Nat) (h : EM N ops (fun S' E' => EV N ops T (l.drop k) S' E') (l.take k) S E) : EV N ops T l S E := by
 have := EV.seg _ _ _ h
 rwa [XE] at this
theorem Mem.perm {os os' : List Obj} {fs : List (Value × D)} (h : os.Perm os') (hm : Mem X os fs w) : Mem X os' fs w :=
 ((Le.perm (X := X) (rs := []) (fs := fs) h) ⟨Array.replicate N undef, []⟩ w ⟨hm, (fun t r hr => by cases hr), by simp, rfl⟩).mem
abbrev Nw := Nat × Nat × TypeId × D
def Nw.pc (e : Nw) : Obj := .var e.2.1 e.2.2.1 e.2.2.2
structure RV (X : Cx N) (S : St) (a : Act) (infs : List Inf) (L : Nat → Prop) (vs : Nat → Value) (u : World) (nw : List Nw) : Prop where
 nd : (nw.map (·.1)).Nodup
 ok : ∀ e ∈ nw, L e.1 ∧ infs[e.1]? = some (.new e.2.2.1 e.2.2.2) ∧ vs e.1 = .pointer (some ⟨e.2.1, 0, none⟩)
 all : ∀ j T d, L j → infs[j]? = some (.new T d) → ∃ e ∈ nw, e.1 = j
 mem : Mem X (nw.map Nw.pc ++ S.objs) S.facts u
 val : ∀ j i, L j → infs[j]? = some i → bU (X.ok (nw.map Nw.pc ++ S.objs) u) u i.reg (vs j)
 old : ∀ t r, look S.regs t = some r → bU (X.ok (nw.map Nw.pc ++ S.objs) u) u r (a.tmps.getD t undef)
theorem RV.same {infs : List Inf} {L : Nat → Prop} {vs : Nat → Value} {u u' : World} {nw : List Nw} (h : RV X S a infs L vs u nw) {k : Nat} {i : Inf} (hk : ¬ L k) (hi : infs[k]? = some i) (hn : ∀ T d, i ≠ .new T d) (v : Value) (hm : Mem X (nw.map Nw.pc ++ S.objs) S.facts u') (hok : ∀ b, X.ok (nw.map Nw.pc ++ S.objs) u b → X.ok (nw.map Nw.pc ++ S.objs) u' b) (hc : ∀ p : Addr, X.ok (nw.map Nw.pc ++ S.objs) u p.block → u'.cell? p = u.cell? p) (hv : bU (X.ok (nw.map Nw.pc ++ S.objs) u') u' i.reg v) : RV X S a infs (fun j => j = k ∨ L j) (fun j => if j = k then v else vs j) u' nw := by
 refine ⟨h.nd, fun e he => ?_, fun j T d hj hij => ?_, hm, fun j i' hj hij => ?_, fun t r hr => (h.old t r hr).mono hok hc⟩
 ·
  obtain ⟨h1, h2, h3⟩ := h.ok e he
  exact ⟨.inr h1, h2, by rw [if_neg (show ¬ e.1 = k from fun e' => hk (by rw [← e']; exact h1))]; exact h3⟩
 ·
  rcases hj with rfl | hj
  · exact absurd (Xr (hi.symm.trans hij)) (hn T d)
  · exact h.all j T d hj hij
 ·
  by_cases e : j = k
  ·
   subst e
   rw [if_pos rfl]
   obtain rfl : i' = i := Xr (hij.symm.trans hi)
   exact hv
  ·
   rw [if_neg e]
   exact (h.val j i' (hj.resolve_left e) hij).mono hok hc
theorem RV.new {infs : List Inf} {L : Nat → Prop} {vs : Nat → Value} {u : World} {nw : List Nw} (h : RV X S a infs L vs u nw) {k : Nat} {Ty : TypeId} {d : D} {cs : List Value} (hk : ¬ L k) (hi : infs[k]? = some (.new Ty d)) (hcs : Reads (X.ok (nw.map Nw.pc ++ S.objs) u) u d cs) : RV X S a infs (fun j => j = k ∨ L j) (fun j => if j = k then .pointer (some ⟨u.heap.size, 0, none⟩) else vs j) (u.alloc (.cells cs.toArray Ty)) ((k, u.heap.size, Ty, d) :: nw) := by
 have hgr := au u (.cells cs.toArray Ty)
 have hok : ∀ b, X.ok (nw.map Nw.pc ++ S.objs) u b → X.ok (((k, u.heap.size, Ty, d) :: nw : List Nw).map Nw.pc ++ S.objs) (u.alloc (.cells cs.toArray Ty)) b := fun b hb => ⟨hb.1, Xd hb.2.1 hgr.size, fun o ho e => by
  rw [Xm, WL] at ho
  rcases Xb.1 ho with rfl | ho
  ·
   cases e
   exact absurd hb.2.1 (Nat.lt_irrefl _)
  · exact hb.2.2 o ho e⟩
 have hc : ∀ p : Addr, X.ok (nw.map Nw.pc ++ S.objs) u p.block → (u.alloc (.cells cs.toArray Ty)).cell? p = u.cell? p := fun p hp => hgr.cell hp.2.1
 refine ⟨?_, fun e he => ?_, fun j T' d' hj hij => ?_, ?_, fun j i' hj hij => ?_, fun t r hr => (h.old t r hr).mono hok hc⟩
 ·
  rw [Xm]
  refine XV.2 ⟨fun hm => ?_, h.nd⟩
  obtain ⟨e, he, e'⟩ := Xg.1 hm
  have e2 : e.1 = k := e'
  exact hk (by rw [← e2]; exact (h.ok e he).1)
 ·
  rcases Xb.1 he with rfl | he
  · exact ⟨.inl rfl, hi, if_pos rfl⟩
  ·
   obtain ⟨h1, h2, h3⟩ := h.ok e he
   exact ⟨.inr h1, h2, by rw [if_neg (show ¬ e.1 = k from fun e' => hk (by rw [← e']; exact h1))]; exact h3⟩
 ·
  rcases hj with rfl | hj
  · exact ⟨_, WT, rfl⟩
  ·
   obtain ⟨e, he, e'⟩ := h.all j T' d' hj hij
   exact ⟨e, WZ _ he, e'⟩
 ·
  have hat : At X ⟨[], nw.map Nw.pc ++ S.objs, S.facts⟩ ⟨Array.replicate N undef, []⟩ u := ⟨h.mem, (fun t r hr => by cases hr), by simp, rfl⟩
  exact (hat.new (q := .var u.heap.size Ty d) rfl ⟨.inr h.mem.gr.size, cs, heap_alloc_new u _, Reads.mono hok hc _ _ hcs⟩).mem
 ·
  by_cases e : j = k
  ·
   subst e
   obtain rfl : i' = .new Ty d := Xr (hij.symm.trans hi)
   trivial
  ·
   rw [if_neg e]
   exact (h.val j i' (hj.resolve_left e) hij).mono hok hc
end
section
variable {N : Nat} {X : Cx N} {S : St} {ops : Array Oper} {o : Oper} {Q : Exit → Act → World → Prop} {l' : List Oper} {TT : St → List Fr → Prop} {EE : List Fr} {rs : List (Tmp × R)} {os : List Obj} {fs : List (Value × D)} {w : World} {ok : Nat → Prop}
theorem MN {g n m : Nat} {l : List UInt8} {mid : List Value} (hm : Nat.ble m 4096 = true) (hg : g < w.heap.size) (hr : w.rangeAt g n mid) (h : Reads ok w (.arr m l) mid) : IsB w (.slice (some ⟨g, n, none⟩) m m) l := by
 obtain ⟨h1, h2⟩ : l.length = m ∧ mid = bvs l := by
  rw [Reads] at h
  exact ⟨h.1, h.2⟩
 subst h1 h2
 have := Nat.le_of_ble_eq_true hm
 exact ⟨_, l.length, rfl, Nat.le_refl _, by simp only [maxLen]; omega, fun _ => ⟨g, n, rfl, hg, hr⟩⟩
theorem Pe {x : Operand} {g n m : Nat} {t : TypeId} {d : D} {l : List UInt8} (hm : Nat.ble m 4096 = true) (hs : d.sub n m true = some (.arr m l)) (ho : o.op = .convert 38 9 x) (hx : ev S x = some (.val (.v (.slice (some ⟨g, n, none⟩) m m)))) (i : Nat) (hi : S.objs[i]? = some (.var g t d)) : Still ops S o (.val (.v (.string (Go.Proofs.YtelbhdobjdnglaaGreat.bs l)))) := fun base ok a w ha => by
 have hx' := gW ha hx (bD (by rw [ho]; simp [Op.operands]))
 obtain ⟨_, cs, hh, hr⟩ := ha.objs _ (Xh hi)
 obtain ⟨e1, e2, pre, mid, post, rfl, e3, e4⟩ := nT d n m true _ cs hs hr
 have hr := lU (iL hh)
 rw [Xj, e3] at hr
 have hb : IsB w (a.eval x) l := by rw [hx']; exact MN hm (Xu.1 hh).1 hr e4
 refine ⟨_, ?_, iD rfl⟩
 unfold execOp
 simp only [ho, WX, zL hb, WV, Xc]
theorem G5 {t ty : Nat} {pos : String} {af : Array Edge} {gd : Option (Nat × Bool)} {x : Operand} {g n m i : Nat} {T : TypeId} {d : D} {l : List UInt8} (hx : ev (⟨rs, os, fs⟩ : St) x = some (.val (.v (.slice (some ⟨g, n, none⟩) m m)))) (hi : os[i]? = some (.var g T d)) (hs : d.sub n m true = some (.arr m l)) (hm : Nat.ble m 4096 = true) (hg : guardOf ops ⟨rs, os, fs⟩ ⟨some t, .convert 38 9 x, ty, pos, af, gd⟩ = some true) (hoff : fM N (some t) EE = true) (kk : EM N ops TT l' ⟨(t, .val (.v (.string (Go.Proofs.YtelbhdobjdnglaaGreat.bs l)))) :: rs, os, fs⟩ EE) : EM N ops TT (⟨some t, .convert 38 9 x, ty, pos, af, gd⟩ :: l') ⟨rs, os, fs⟩ EE := EH.still (Pe hm hs rfl hx i hi) hg rfl hoff kk
end

theorem uw {ok : Nat → Prop} {w w' : World} {v : Value} {l : List UInt8} (h : OwnB w' w.heap.size v l) : bW (fun b => (ok b ∨ w.heap.size ≤ b) ∧ b < w'.heap.size) w' (.bs l) v := by
 refine (dn rfl).2 ?_
 rw [Reads]
 exact ⟨_, rfl, (nI h).mono (fun b hb => ⟨.inr hb.1, hb.2⟩) fun _ _ => rfl⟩
def ppk (p : List UInt8) (leaf : Bool) : List UInt8 := (joinL (hdr p leaf ++ p)).getD []
theorem PX (l : List UInt8) (hl : l.length ≤ 1073741824) : Fn 90 [.bs l] (· = .val (.bs (split l))) := ⟨fun ok w xs hok hr => by
 obtain ⟨x, _, rfl, h, hn⟩ := hr
 cases hn
 refine (IC x l w (nJ hok h) hl).mono ?_
 rintro e w' ⟨v', rfl, hg, hv⟩
 exact ⟨hg, _, _, rfl, rfl, uw hv⟩⟩
theorem Gl (l : List UInt8) (hl : l.length ≤ 1073741824) : Fn 69 [.bs l] (· = .val (.bs (split l))) := ⟨fun ok w xs hok hr => by
 obtain ⟨x, _, rfl, h, hn⟩ := hr
 cases hn
 refine (KY x l w (nJ hok h) hl).mono ?_
 rintro e w' ⟨v', rfl, hg, hv⟩
 exact ⟨hg, _, _, rfl, rfl, uw hv⟩⟩
theorem PV (p : List UInt8) (leaf : Bool) (hl : p.length ≤ 536870912) : Fn 122 [.bs p, .v (.bool leaf)] (· = .tpl [.bs (ppk p leaf), .v (.bool (joinL (hdr p leaf ++ p)).isSome)]) := ⟨fun ok w xs hok hr => by
 obtain ⟨x, _, rfl, h, y, _, rfl, h2, hn⟩ := hr
 cases hn
 obtain rfl := (aY.1 h2).2
 refine (La x p leaf w (nJ hok h) hl).mono ?_
 rintro e w' ⟨v', rfl, hg, v1, rfl, hv⟩
 exact ⟨hg, _, _, rfl, rfl, ⟨_, rfl, _, _, rfl, uw hv, _, _, rfl, aY.2 ⟨rfl, rfl⟩, rfl⟩⟩⟩
end E
end Go.Proofs.YtelbhdobjdnglaaGreat
namespace Go.Proofs.YtelbhdobjdnglaaGreat
set_option linter.unusedVariables false
open Go.RowKit Mono Rlp
open Go.ChangeMaps (setBlock)
namespace E
abbrev itO (r b c : Nat) (seen : Array Nat) : Obj := .it r (.mapIter (some b) c seen c)
theorem jY.left {α β : Type} {R : α → β → Prop} : ∀ {l : List α} {m : List β}, jY R l m → ∀ a ∈ l, ∃ b ∈ m, R a b
 | _, _, .nil, a, h => by cases h
 | _, _, .cons h1 h2, a, h => by
  rcases Xb.1 h with rfl | h
  · exact ⟨_, WT, h1⟩
  ·
   obtain ⟨b, hb, hr⟩ := h2.left a h
   exact ⟨b, WZ _ hb, hr⟩
theorem jY.right {α β : Type} {R : α → β → Prop} : ∀ {l : List α} {m : List β}, jY R l m → ∀ b ∈ m, ∃ a ∈ l, R a b
 | _, _, .nil, a, h => by cases h
 | _, _, .cons h1 h2, a, h => by
  rcases Xb.1 h with rfl | h
  · exact ⟨_, WT, h1⟩
  ·
   obtain ⟨b, hb, hr⟩ := h2.right a h
   exact ⟨b, WZ _ hb, hr⟩
theorem zS {ok : Nat → Prop} {w : World} {n : Nat} : ∀ {l : List MapEntry} {m : List Ent}, jY (nD ok w n) l m → l.map (·.born) = m.map (·.1)
 | _, _, .nil => rfl
 | _, _, .cons h1 h2 => by rw [Xm, Xm, h1.born, zS h2]
section
variable {N : Nat} {X : Cx N} {S : St} {a : Act} {w w' : World} {ops : Array Oper} {o : Oper} {Q : Exit → Act → World → Prop} {l : List Oper} {rs : List (Tmp × R)} {os os' rest : List Obj} {fs : List (Value × D)}
theorem Rw {T K n E b c i : Nat} {es : List Ent} {x : Operand} (ho : o.op = .range T x) (hx : ev S x = some (.val (.v (.map (some b))))) (hi : S.objs[i]? = some (.map b n c es)) (hT : assoc rX T = some (K, n, E)) : wB ops S o [] (fun r os' => ∃ g, r = .val (.v (.pointer (some ⟨g, 0, none⟩))) ∧ os' = [itO g b c #[]]) := .mk fun base ok a w ha hown => by
 have h1 := gW ha hx (bD (by rw [ho]; simp [Op.operands]))
 obtain ⟨_, _, arr, h2, _⟩ := ha.map hi
 have hr : (execOp a.eval o).run Tryz.prog w = .ok (.value (.pointer (some ⟨w.heap.size, 0, none⟩))) (w.alloc (.mapIter (some b) c #[] c)) := by
  simp [execOp, ho, h1, run_range_map w T _ _ b arr c (zf hT).1 h2, Result.andThen]
 rw [hr]
 obtain ⟨g1, g2⟩ := OX (ok := ok) (w := w) (q := itO w.heap.size b c #[]) (r := .val (.v (.pointer (some ⟨w.heap.size, 0, none⟩)))) (ob := .mapIter (some b) c #[] c) (v := .pointer (some ⟨w.heap.size, 0, none⟩)) rfl (fun ok' _ => ⟨.inr (Nat.le_refl _), heap_alloc_new w _⟩) (fun _ => iD rfl) ha.lt
 exact ⟨_, _, ⟨_, rfl, rfl⟩, g1, g2⟩
theorem KE {t T K n E b c i ty : Nat} {pos : String} {af : Array Edge} {gd : Option (Nat × Bool)} {es : List Ent} {x : Operand} (hx : ev (⟨rs, os, fs⟩ : St) x = some (.val (.v (.map (some b))))) (hi : os[i]? = some (.map b n c es)) (hT : assoc rX T = some (K, n, E)) (hg : guardOf ops ⟨rs, os, fs⟩ ⟨some t, .range T x, ty, pos, af, gd⟩ = some true) (hN : Nat.blt t N = true) (kk : ∀ g, EL X ops Q l ⟨(t, .val (.v (.pointer (some ⟨g, 0, none⟩)))) :: rs, itO g b c #[] :: os, fs⟩) : EL X ops Q (⟨some t, .range T x, ty, pos, af, gd⟩ :: l) ⟨rs, os, fs⟩ :=
 EL.mut (os := []) (rest := os) hg (jf rfl hN) (Rw rfl hx hi hT) fun r os' ⟨g, h1, h2⟩ => by
  subst h1 h2
  exact kk g
theorem Um {b n c g : Nat} {es : List Ent} {seen : Array Nat} {x : Operand} (ho : o.op = .next x false) (hx : ev S x = some (.val (.v (.pointer (some ⟨g, 0, none⟩))))) :
  wB ops S o [itO g b c seen, .map b n c es] (fun r os' => (r = .tpl [.v (.bool false)] ∧ (∀ e ∈ es, e.1 ∈ seen) ∧ os' = [itO g b c seen, .map b n c es]) ∨ (∃ e ∈ es, e.1 ∉ seen ∧ r = .tpl [.v (.bool true), .arr n e.2.1, e.2.2] ∧ os' = [itO g b c (seen.push e.1), .map b n c es])) := .mk fun base ok a w ha hown => by
 have h1 := gW ha hx (bD (by rw [ho]; simp [Op.operands]))
 obtain ⟨_, h2⟩ := hown.at_ (itO g b c seen) (by simp)
 obtain ⟨_, hE, arr, h3, h4⟩ := hown.at_ (.map b n c es) (by simp)
 have hne : g ≠ b := fun e => by rw [e, h3] at h2; cases h2
 have hlt : ∀ x ∈ arr.toList, x.born < c := fun x hx => by
  obtain ⟨y, hy, h5⟩ := h4.left x hx
  rw [h5.born]
  exact hE.lt y hy
 have hBg : oO [itO g b c seen, .map b n c es] g := ⟨_, WT, rfl⟩
 rcases run_next_at (P := Tryz.prog) w o.type g b c c seen arr c h2 h3 hlt (Nat.le_refl _) with ⟨h0, hrun⟩ | ⟨e, he, w1, hal, hrun⟩
 ·
  have hr : (execOp a.eval o).run Tryz.prog w = .ok (.value (.tuple #[.bool false])) w := by simp [execOp, ho, h1, hrun, Result.andThen]
  rw [hr]
  refine ⟨_, _, .inl ⟨rfl, fun e he => ?_, rfl⟩, ⟨.refl w, hown.apart, fun p hp => ?_⟩, ?_⟩
  ·
   obtain ⟨x, hx, h5⟩ := h4.right e he
   have h6 : leftOf arr seen = #[] := Array.eq_empty_of_size_eq_zero h0
   refine Zm fun hn => ?_
   have : x ∈ leftOf arr seen := by
    unfold leftOf
    rw [Array.mem_filter]
    refine ⟨by simpa using hx, ?_⟩
    rw [h5.born]
    simpa using hn
   rw [h6] at this
   simp at this
  · refine ((hown.at_ p hp).move (fun b' hb' => ⟨.inl hb', ha.lt b' hb', fun o' ho' e => hown.off b' ⟨o', ho', e⟩ hb'⟩) (fun _ _ => rfl) fun _ _ => rfl).ku fun b' e => .inl ⟨p, hp, e⟩
  · exact ⟨[.bool false], rfl, _, _, rfl, iD rfl, rfl⟩
 ·
  obtain ⟨hem, hes⟩ := mem_left he
  have hr1 : w1.heap[g]? = some (.mapIter (some b) c seen c) := by rcases hal with rfl | rfl <;> exact h2
  have hset : (setBlock w1 g (.mapIter (some b) c (seen.push e.born) c)).heap[g]? = some (.mapIter (some b) c (seen.push e.born) c) ∧ ∀ j, j ≠ g → (setBlock w1 g (.mapIter (some b) c (seen.push e.born) c)).heap[j]? = w1.heap[j]? := MapKept.heap_set (o' := .mapIter (some b) c (seen.push e.born) c) hr1
  have hgr : w.grownBy (setBlock w1 g (.mapIter (some b) c (seen.push e.born) c)) (some g) := by rcases hal with rfl | rfl <;> exact ⟨rfl, rfl, rfl, by simp [setBlock], fun i _ hi => hset.2 i (fun e1 => hi (by rw [e1]))⟩
  have hr : (execOp a.eval o).run Tryz.prog w = .ok (.value (.tuple #[.bool true, e.key, e.val])) (setBlock w1 g (.mapIter (some b) c (seen.push e.born) c)) := by simp [execOp, ho, h1, hrun, Result.andThen]
  rw [hr]
  obtain ⟨x, hx, h5⟩ := h4.left e (by simpa using hem)
  generalize setBlock w1 g (.mapIter (some b) c (seen.push e.born) c) = w2 at hset hgr hr ⊢
  rw [h5.born] at hset
  have hok : ∀ b', ok b' → okM ok [itO g b c seen, .map b n c es] w [itO g b c (seen.push x.1), .map b n c es] w2 b' := fun b' hb' => ⟨.inl hb', Xd (ha.lt b' hb') hgr.size, fun o' ho' e' => by
   simp only [Xb, YV, or_false] at ho'
   rcases ho' with rfl | rfl
   · exact hown.off b' ⟨itO g b c seen, WT, e'⟩ hb'
   · exact hown.off b' ⟨.map b n c es, by simp, e'⟩ hb'⟩
  have hcell : ∀ p : Addr, ok p.block → w2.cell? p = w.cell? p := fun p hp => World.cell?_of_block (hgr.block _ (ha.lt _ hp) fun e' => hown.off p.block ⟨itO g b c seen, WT, e'.symm ▸ rfl⟩ hp)
  refine ⟨_, _, .inr ⟨x, hx, ?_, rfl, rfl⟩, ⟨⟨hgr.os, hgr.tape, hgr.output, hgr.size, fun k hk hn => hgr.block k hk fun e' => hn (by injection e' with e'; subst e'; exact hBg)⟩, ?_, fun p hp => ?_⟩, ?_⟩
  ·
   rw [← h5.born]
   intro hm
   rw [Array.contains_iff_mem.2 hm] at hes
   cases hes
  ·
   have := hown.apart
   simpa [Apart, Obj.blk] using this
  ·
   simp only [Xb, YV, or_false] at hp
   rcases hp with rfl | rfl
   · exact ⟨.inl hBg, hset.1⟩
   · refine ⟨.inl ⟨.map b n c es, by simp, rfl⟩, hE, arr, (hset.2 b (fun e' => hne e'.symm)).trans (by rcases hal with rfl | rfl <;> exact h3), je (fun _ _ h => h.mono hok hcell) h4⟩
  ·
   refine ⟨[.bool true, e.key, e.val], rfl, _, _, rfl, iD rfl, _, _, rfl, ?_, _, _, rfl, h5.val.mono hok hcell, rfl⟩
   rw [h5.key]
   exact rP h5.len
theorem RX {b n c g i j : Nat} {es : List Ent} {seen : Array Nat} {x : Operand} {e : Ent} (he : e ∈ es) (ho : o.op = .entry x) (hx : ev S x = some (.val (.v (.pointer (some ⟨g, 0, none⟩))))) (hi : S.objs[i]? = some (itO g b c (seen.push e.1))) (hj : S.objs[j]? = some (.map b n c es)) : Still ops S o (.tpl [.arr n e.2.1, e.2.2]) := fun base ok a w ha => by
 have h1 := gW ha hx (bD (by rw [ho]; simp [Op.operands]))
 obtain ⟨_, hE, arr, h3, h4⟩ := ha.map hj
 obtain ⟨_, h2⟩ := ha.objs _ (Xh hi)
 obtain ⟨y, hy, h5⟩ := h4.right e he
 rw [← h5.born] at h2
 have hrun := run_entry_at (P := Tryz.prog) w g b c seen arr c y h2 h3 hy (by rw [zS h4]; exact hE.borns)
 refine ⟨.tuple #[y.key, y.val], ?_, [y.key, y.val], rfl, _, _, rfl, by rw [h5.key]; exact rP h5.len, _, _, rfl, h5.val, rfl⟩
 simp [execOp, ho, h1, hrun, Result.andThen]
theorem QE {t b n c g ty : Nat} {pos : String} {af : Array Edge} {gd : Option (Nat × Bool)} {es : List Ent} {seen : Array Nat} {x : Operand} (hx : ev (⟨rs, os, fs⟩ : St) x = some (.val (.v (.pointer (some ⟨g, 0, none⟩))))) (hg : guardOf ops ⟨rs, [itO g b c seen, .map b n c es] ++ os, fs⟩ ⟨some t, .next x false, ty, pos, af, gd⟩ = some true) (hN : Nat.blt t N = true)
  (kd : (∀ e ∈ es, e.1 ∈ seen) → EL X ops Q l ⟨(t, .tpl [.v (.bool false)]) :: rs, itO g b c seen :: .map b n c es :: os, fs⟩)
  (km : ∀ e ∈ es, e.1 ∉ seen → EL X ops Q l ⟨(t, .tpl [.v (.bool true), .arr n e.2.1, e.2.2]) :: rs, itO g b c (seen.push e.1) :: .map b n c es :: os, fs⟩) : EL X ops Q (⟨some t, .next x false, ty, pos, af, gd⟩ :: l) ⟨rs, itO g b c seen :: .map b n c es :: os, fs⟩ :=
 EL.mut (os := [itO g b c seen, .map b n c es]) (rest := os) hg (jf rfl hN) (Um rfl hx) fun r os' h => by
  rcases h with ⟨h1, h2, h3⟩ | ⟨e, h1, h2, h3, h4⟩
  ·
   subst h1 h3
   exact kd h2
  ·
   subst h3 h4
   exact km e h1 h2
theorem Ej {t b n c g i j ty : Nat} {pos : String} {af : Array Edge} {gd : Option (Nat × Bool)} {es : List Ent} {seen : Array Nat} {x : Operand} {e : Ent} (he : e ∈ es) (hx : ev (⟨rs, os, fs⟩ : St) x = some (.val (.v (.pointer (some ⟨g, 0, none⟩))))) (hi : os[i]? = some (itO g b c (seen.push e.1))) (hj : os[j]? = some (.map b n c es)) (hg : guardOf ops ⟨rs, os, fs⟩ ⟨some t, .entry x, ty, pos, af, gd⟩ = some true) (hN : Nat.blt t N = true) (kk : EL X ops Q l ⟨(t, .tpl [.arr n e.2.1, e.2.2]) :: rs, os, fs⟩) : EL X ops Q (⟨some t, .entry x, ty, pos, af, gd⟩ :: l) ⟨rs, os, fs⟩ := ES.still (RX he rfl hx hi hj) hg rfl hN kk
end
end E
end Go.Proofs.YtelbhdobjdnglaaGreat
namespace Go.Proofs.YtelbhdobjdnglaaGreat
set_option linter.unusedVariables false
set_option maxHeartbeats 2000000
open Go.RowKit Mono Rlp
namespace E
def Dv (l : List Oper) (chain done : List Nat) : List Nat := chain.filter fun k => !done.contains k && match l[k]? with
 | some o => o.after.toList.all fun e => !(Region.binds .any e) || !chain.contains e.on || done.contains e.on
 | none => true
def CT (N : Nat) (l : List Oper) (os1 : List Obj) (T : St → Prop) (chain : List Nat) : Nat → List Nat → St → Prop
 | 0, _, S => T S
 | m + 1, done, S => ∀ k ∈ Dv l chain done, CH N l.toArray os1 (fun S' => CT N l os1 T chain m (k :: done) S') (aZ l [k]) S
theorem CT.pick {N : Nat} {l : List Oper} {os1 : List Obj} {T : St → Prop} {chain : List Nat} {m : Nat} {done : List Nat} {S : St} (ks : List Nat) (hk : Dv l chain done = ks) (h : ∀ k ∈ ks, CH N l.toArray os1 (fun S' => CT N l os1 T chain m (k :: done) S') (aZ l [k]) S) : CT N l os1 T chain (m + 1) done S := by
 unfold CT
 rw [hk]
 exact h
theorem CT.nil {N : Nat} {l : List Oper} {os1 : List Obj} {T : St → Prop} {chain : List Nat} {done : List Nat} {S : St} (h : T S) : CT N l os1 T chain 0 done S := h
def Di (l : List Oper) (n : Nat) (free chain : List Nat) : Bool :=
 (List.range n).all (fun k => free.contains k != chain.contains k) && free.all (fun k => decide (k < n)) && chain.all (fun k => decide (k < n)) && decide (n ≤ l.length) &&
 (List.range free.length).all (fun i => (List.range i).all fun j => decide (free.getD j 0 < free.getD i 0)) && decide chain.Nodup &&
 (List.range n).all (fun k => match l[k]? with
  | some o => (o.looksAt l.toArray).all (fun t => (List.range n).all fun j => decide (j < k) || (l[j]?.bind (·.dst)) != some t) &&
   (match o.dst with
    | some t => (List.range k).all fun j => (l[j]?.bind (·.dst)) != some t
    | none => true)
  | none => false) &&
 free.all (fun k => match l[k]? with
  | some o => (o.looksAt l.toArray).all fun t => chain.all fun j => (l[j]?.bind (·.dst)) != some t
  | none => true)
structure Vd (l : List Oper) (n : Nat) (free chain : List Nat) : Prop where
 part : ∀ k, k < n → (k ∈ free ∧ k ∉ chain) ∨ (k ∉ free ∧ k ∈ chain)
 flt : ∀ k ∈ free, k < n
 clt : ∀ k ∈ chain, k < n
 le : n ≤ l.length
 fup : ∀ i j : Nat, j < i → i < free.length → free.getD j 0 < free.getD i 0
 nod : chain.Nodup
 back : ∀ (k j : Nat) (o oj : Oper) (t : Tmp), k < n → l[k]? = some o → t ∈ o.looksAt l.toArray → k ≤ j → j < n → l[j]? = some oj → oj.dst ≠ some t
 free : ∀ (k j : Nat) (o oj : Oper) (t : Tmp), k ∈ free → l[k]? = some o → t ∈ o.looksAt l.toArray → j ∈ chain → l[j]? = some oj → oj.dst ≠ some t
 once : ∀ (k j : Nat) (o oj : Oper) (t : Tmp), k < n → l[k]? = some o → o.dst = some t → j < k → l[j]? = some oj → oj.dst ≠ some t
theorem KP {l : List Oper} {n : Nat} {free chain : List Nat} (h : Di l n free chain = true) : Vd l n free chain := by
 unfold Di at h
 simp only [XG, Xk, X7, decide_eq_true_eq] at h
 obtain ⟨⟨⟨⟨⟨⟨⟨h1, h2⟩, h3⟩, h4⟩, h5⟩, h6⟩, h8⟩, h9⟩ := h
 refine ⟨fun k hk => ?_, h2, h3, h4, fun i j hj hi => h5 i hi j hj, h6, fun k j o oj t hk ho ht hkj hj hoj e => ?_, fun k j o oj t hk ho ht hj hoj e => ?_, fun k j o oj t hk ho ht hj hoj e => ?_⟩
 ·
  have := h1 k hk
  by_cases e1 : k ∈ free <;> by_cases e2 : k ∈ chain <;> simp [e1, e2] at this ⊢
 ·
  have := h8 k hk
  rw [ho] at this
  simp only [XG, Xk, X7] at this
  have := this.1 t ht j hj
  rw [hoj] at this
  simp [e] at this
  omega
 ·
  have := h9 k hk
  rw [ho] at this
  simp only [Xk] at this
  have := this t ht j hj
  rw [hoj] at this
  simp [e] at this
 ·
  have := h8 k hk
  rw [ho] at this
  simp only [XG] at this
  have := this.2
  rw [ht] at this
  simp only [Xk, X7] at this
  have := this j hj
  rw [hoj] at this
  simp [e] at this
section
variable {N : Nat} {X : Cx N} {S : St} {a : Act} {Q : Exit → Act → World → Prop} {l : List Oper}
theorem EC.TL {id : Nat} (n : Nat) (free chain : List Nat) (os0 os1 : List Obj) (hB : monoB l.toArray n N = true) (hC : Di l n free chain = true) (hS : S.objs = os0 ++ os1)
  (h : EM N l.toArray (fun S' _ => CT N l os1 (fun S'' => EL X l.toArray Q (l.drop n) S'') chain chain.length [] ⟨S'.regs, os0 ++ os1, S.facts⟩) (aZ l free) ⟨S.regs, os1, S.facts⟩ []) : EC X Q (.region id l.toArray true) S := by
 constructor
 intro a ws ha
 have C := KP hC
 obtain ⟨infs, hlen, hok, hT, hnp⟩ := pz _ _ _ h
 have hfree := oh (l := l) free fun k hk => Xd (C.flt k hk) C.le
 have hchain := oh (l := l) chain fun k hk => Xd (C.clt k hk) C.le
 rw [hfree.1] at hlen hT
 have hdst : ∀ k o, l[k]? = some o → dI l.toArray k = o.dst := fun k o ho => by unfold dI; simp [ho]
 have hsl : ∀ k o L vs (b : Act) t, k < n → l[k]? = some o → t ∈ o.looksAt l.toArray → pK l.toArray L vs a b k t → (∃ j oj, j < n ∧ l[j]? = some oj ∧ oj.dst = some t ∧ L j ∧ b.tmps.getD t undef = vs j) ∨ ((∀ j o, j < n → l[j]? = some o → o.dst ≠ some t) ∧ b.tmps.getD t undef = a.tmps.getD t undef) := fun k o L vs b t hk ho ht hs => by
  rcases hs with ⟨j, h1, h2, h3, h4, h5⟩ | ⟨h1, h2⟩
  ·
   have hj : j < l.length := by have := C.le; omega
   exact .inl ⟨j, l[j], by omega, by simp, by rw [← hdst j l[j] (by simp)]; exact h2, h4, h5⟩
  ·
   refine .inr ⟨fun j oj hj hoj e => ?_, h2⟩
   rcases Xx j k with h3 | h3
   · exact h1 j h3 (by rw [hdst j oj hoj]; exact e)
   · exact C.back k j o oj t hk ho ht h3 hj hoj e
 have huniq : ∀ j j' o o' t, j < n → j' < n → l[j]? = some o → l[j']? = some o' → o.dst = some t → o'.dst = some t → j = j' := fun j j' o o' t hj hj' ho ho' hd hd' => by
  rcases YS j j' with h | h | h
  · exact absurd hd (C.once j' j o' o t hj' ho' hd' h ho)
  · exact h
  · exact absurd hd' (C.once j j' o o' t hj ho hd h ho')
 let RF := (gV ⟨S.regs, os1, S.facts⟩ (aZ l free) infs free.length).regs
 have hRF : ∀ t r, look RF t = some r → (∃ p o i, p < free.length ∧ l[free.getD p 0]? = some o ∧ infs[p]? = some i ∧ o.dst = some t ∧ r = i.reg) ∨ look S.regs t = some r := fun t r hr => by
  rcases nU _ _ _ _ _ _ hr with ⟨q, oq, iq, h1, h2, h3, h4, h5⟩ | h1
  · exact .inl ⟨q, oq, iq, h1, by rw [← hfree.2 q h1]; exact h2, h3, h4, h5⟩
  · exact .inr h1
 have hfl : ∀ p, p < free.length → free.getD p 0 < n ∧ free.getD p 0 ∈ free := fun p hp => by
  have : free.getD p 0 ∈ free := by
   rw [List.getD_eq_getElem?_getD, List.getElem?_eq_getElem hp]
   exact XH hp
  exact ⟨C.flt _ this, this⟩
 have hcl : ∀ p, p < chain.length → chain.getD p 0 < n ∧ chain.getD p 0 ∈ chain := fun p hp => by
  have : chain.getD p 0 ∈ chain := by
   rw [List.getD_eq_getElem?_getD, List.getElem?_eq_getElem hp]
   exact XH hp
  exact ⟨C.clt _ this, this⟩
 have hput : ∀ p o i, p < free.length → l[free.getD p 0]? = some o → infs[p]? = some i → ∀ t, o.dst = some t → look RF t = some i.reg := fun p o i hp ho hi t ht => by
  have hlk := (gB (aZ l free) infs free.length ⟨S.regs, os1, S.facts⟩ t (by rw [hlen, hfree.1]) (by rw [hfree.1]; exact Nat.le_refl _)).1
  refine hlk p o i hp (by rw [hfree.2 p hp]; exact ho) hi ht fun m om h1 h2 h3 e => ?_
  rw [hfree.2 m h2] at h3
  have := huniq _ _ _ _ t (hfl p hp).1 (hfl m h2).1 ho h3 ht e
  have := C.fup m p h1 h2
  omega
 have hmono : ∀ p o t r, p < free.length → l[free.getD p 0]? = some o → t ∈ o.looksAt l.toArray → look (gV ⟨S.regs, os1, S.facts⟩ (aZ l free) infs p).regs t = some r → look RF t = some r := fun p o t r hp ho ht hr => by
  rcases nU _ _ _ _ _ _ hr with ⟨q, oq, iq, h1, h2, h3, h4, h5⟩ | h1
  ·
   rw [h5]
   have hq : q < free.length := by omega
   exact hput q oq iq hq (by rw [← hfree.2 q hq]; exact h2) h3 t h4
  ·
   have hlk := (gB (aZ l free) infs free.length ⟨S.regs, os1, S.facts⟩ t (by rw [hlen, hfree.1]) (by rw [hfree.1]; exact Nat.le_refl _)).2
   have hpre := (gB (aZ l free) infs p ⟨S.regs, os1, S.facts⟩ t (by rw [hlen, hfree.1]) (by rw [hfree.1]; exact Nat.le_of_lt hp))
   by_cases hex : ∃ m om, m < p ∧ (aZ l free)[m]? = some om ∧ om.dst = some t
   ·
    -- what was put ahead stays
    obtain ⟨m, om, g1, g2, g3⟩ := hex
    have hm : m < free.length := by omega
    obtain ⟨inf, hi⟩ : ∃ inf, infs[m]? = some inf := ⟨infs[m]'(by omega), by simp⟩
    have e1 := hpre.1 m om inf g1 g2 hi g3 fun m' om' h1 h2 h3 e => by
     rw [hfree.2 m' (by omega)] at h3
     rw [hfree.2 m hm] at g2
     have := huniq _ _ _ _ t (hfl m hm).1 (hfl m' (by omega)).1 g2 h3 g3 e
     have := C.fup m' m h1 (by omega)
     omega
    rw [hr] at e1
    cases e1
    exact hput m om inf hm (by rw [← hfree.2 m hm]; exact g2) hi t g3
   have := hlk fun m om h2 h3 e => by
    rcases Xx m p with h4 | h4
    · exact hex ⟨m, om, h4, h3, e⟩
    ·
     rw [hfree.2 m h2] at h3
     have hle : free.getD p 0 ≤ free.getD m 0 := by
      rcases Xx p m with h5 | h5
      · exact Nat.le_of_lt (C.fup m p h5 h2)
      · rw [show m = p by omega]; exact Nat.le_refl _
     exact C.back _ _ o om t (hfl p hp).1 ho ht hle (hfl m h2).1 h3 e
   show look (gV ⟨S.regs, os1, S.facts⟩ (aZ l free) infs free.length).regs t = some r
   rw [this]
   exact h1
 have hT' : CT N l os1 (fun S'' => EL X l.toArray Q (l.drop n) S'') chain chain.length [] ⟨RF, os0 ++ os1, S.facts⟩ := hT
 clear hT h
 refine lK n (by kernel_rfl) (by rw [ha.size]; exact hB) (fun L vs u => ∃ m done Si, done.length + m = chain.length ∧ done.Nodup ∧ (∀ q ∈ done, q ∈ chain) ∧ (∀ q ∈ chain, (q ∈ done ↔ L q)) ∧ CT N l os1 (fun S'' => EL X l.toArray Q (l.drop n) S'') chain m done Si ∧ Real X l n chain a RF os1 S.facts Si L vs u) ?_ ?_ ?_ ?_
 ·
  rintro L L' vs vs' w hL hvs ⟨m, done, Si, h1, h2, h3, h6, h4, h5⟩
  obtain rfl : L = L' := funext fun j => propext (hL j)
  refine ⟨m, done, Si, h1, h2, h3, h6, h4, h5.mem, h5.tail, h5.facts, fun t r hr => ?_, h5.free⟩
  obtain ⟨g1, g2⟩ := h5.regs t r hr
  exact ⟨fun j o hj ho hd hL => by rw [← hvs j hL]; exact g1 j o hj ho hd hL, g2⟩
 ·
  have had : At X S a ws.drew := ha.gr (by exact ⟨rfl, rfl, rfl, Nat.le_refl _, fun _ _ => rfl⟩)
  refine ⟨chain.length, [], ⟨RF, os0 ++ os1, S.facts⟩, Xj _, List.nodup_nil, fun q hq => by simp at hq, fun q _ => ⟨fun h => by simp at h, fun h => h.elim⟩, hT', ?_, ⟨os0, rfl⟩, rfl, fun t r hr => ⟨fun _ _ _ _ _ h => h.elim, fun hno => ?_⟩, fun t r hr _ => hr⟩
  · rw [← hS]; exact had.mem
  ·
   rcases hRF t r hr with ⟨p, o, i, h1, h2, h3, h4, h5⟩ | h1
   · exact absurd h4 (hno _ o (hfl p h1).1 h2)
   ·
    rw [← hS]
    exact had.regs t r h1
 ·
  intro k o L vs b u hk ho hL hLk ⟨m, done, Si, h1, h2, h3, h6, h4, h5⟩ hslot hwait
  rcases C.part k hk with ⟨hkf, hkc⟩ | ⟨hkf, hkc⟩
  ·
   -- a free operation
   obtain ⟨p, hp, rfl⟩ : ∃ p, p < free.length ∧ free.getD p 0 = k := by
    obtain ⟨p, hp⟩ := Zf hkf
    exact ⟨p, (Xf.1 hp).1, by rw [List.getD_eq_getElem?_getD, hp]; rfl⟩
   obtain ⟨inf, hi⟩ : ∃ inf, infs[p]? = some inf := ⟨infs[p]'(by omega), by simp⟩
   obtain ⟨hO, _, _⟩ := hok p o inf (by rw [hfree.2 p hp]; exact ho) hi
   have hkn : Kn X.mine (X.ok Si.objs u) (fun t => t ∈ o.looksAt l.toArray) (gV ⟨S.regs, os1, S.facts⟩ (aZ l free) infs p) b u := by
    obtain ⟨os, hos⟩ := h5.tail
    refine ⟨fun q hq => ?_, fun f hf => ?_, fun b hb => hb.2.1, fun t r ht hr => ?_⟩
    ·
     rw [(dS _ _ _ _).1] at hq
     exact h5.mem.at_ q (by rw [hos]; exact Xz _ hq)
    ·
     rw [(dS _ _ _ _).2] at hf
     exact h5.mem.fact f (by rw [h5.facts]; exact hf)
    ·
     obtain ⟨g1, g2⟩ := h5.regs t r (h5.free t r (hmono p o t r hp ho ht hr) fun j oj hj hoj => C.free _ j o oj t hkf ho ht hj hoj)
     rcases hsl _ o L vs b t hk ho ht (hslot t ht) with ⟨j, oj, e1, e2, e3, e4, e5⟩ | ⟨e1, e2⟩
     · rw [e5]; exact g1 j oj e1 e2 e3 e4
     · rw [e2]; exact g2 e1
   have hnext : ∀ v u', Gr u u' → bU (X.ok Si.objs u') u' inf.reg v → ∃ m done Si, done.length + m = chain.length ∧ done.Nodup ∧ (∀ q ∈ done, q ∈ chain) ∧ (∀ q ∈ chain, (q ∈ done ↔ (q = free.getD p 0 ∨ L q))) ∧ CT N l os1 (fun S'' => EL X l.toArray Q (l.drop n) S'') chain m done Si ∧ Real X l n chain a RF os1 S.facts Si (fun j => j = free.getD p 0 ∨ L j) (fun j => if j = free.getD p 0 then v else vs j) u' := fun v u' hg hv => by
    refine ⟨m, done, Si, h1, h2, h3, fun q hq => ⟨fun h => .inr ((h6 q hq).1 h), fun h => (h6 q hq).2 (h.resolve_left fun e => hkc (by rw [← e]; exact hq))⟩, h4, h5.mem.grown hg, h5.tail, h5.facts, fun t r hr => ?_, h5.free⟩
    ·
     obtain ⟨g1, g2⟩ := h5.regs t r hr
     refine ⟨fun j oj hj hoj hd hLj => ?_, fun hno => qA hg (g2 hno)⟩
     by_cases e : j = free.getD p 0
     ·
      rw [if_pos e]
      subst e
      obtain rfl : oj = o := Xr (hoj.symm.trans ho)
      have := h5.free t _ (hput p oj inf hp ho hi t hd) fun j' oj' hj' hoj' e' => by
       have := huniq _ _ _ _ t hk (C.clt j' hj') hoj hoj' hd e'
       exact hkc (by rw [this]; exact hj')
      rw [hr] at this
      cases this
      exact hv
     ·
      rw [if_neg e]
      exact qA hg (g1 j oj hj hoj hd (hLj.resolve_left e))
   cases inf with
   | still r =>
    obtain ⟨hg, hSt⟩ := hO
    refine ⟨fun _ => ?_, fun hw => by rw [bZ hkn hg] at hw; cases hw⟩
    obtain ⟨v, e1, e2⟩ := hSt _ _ b u hkn
    rw [e1]
    exact hnext v u (Gr.refl u) e2
   | grow r =>
    obtain ⟨hg, hSt⟩ := hO
    refine ⟨fun _ => gY (hSt _ _ b u hkn) (fun v w' hgr hv => ?_), fun hw => by rw [bZ hkn hg] at hw; cases hw⟩
    obtain ⟨r', rfl, hv⟩ := hv
    exact hnext v w' hgr (hv.mono (fun b hb => rH h5.mem hgr hb) fun _ _ => rfl)
   | put p q => cases hnp _ _ hi
   | skip =>
    refine ⟨fun hw => (by rw [bZ hkn hO] at hw; cases hw), fun _ => ?_⟩
    exact hnext undef u (Gr.refl u) ⟨[], rfl, rfl⟩
   | new T d =>
    obtain ⟨hg, hSt⟩ := hO
    refine ⟨fun _ => ?_, fun hw => by rw [bZ hkn hg] at hw; cases hw⟩
    obtain ⟨cs, e1, e2⟩ := hSt _ _ b u hkn
    rw [e1]
    exact hnext _ _ (au u _) trivial
  ·
   -- the next of the chain
   have hkd : k ∉ done := fun h => hLk ((h6 k hkc).1 h)
   obtain ⟨m, rfl⟩ : ∃ m', m = m' + 1 := by
    cases m with
    | succ m => exact ⟨m, rfl⟩
    | zero =>
     exfalso
     have hlt := (XV.2 ⟨hkd, h2⟩).length_le_of_subset (fun q hq => by
      rcases Xb.1 hq with rfl | hq
      · exact hkc
      · exact h3 q hq : (k :: done) ⊆ chain)
     simp at hlt
     omega
   have hready : k ∈ Dv l chain done := by
    unfold Dv
    refine Yp.2 ⟨hkc, ?_⟩
    rw [ho]
    simp only [XG, Bool.not_eq_true', Xk, Y1]
    refine ⟨by simpa using hkd, fun e he => ?_⟩
    cases hb : Region.binds .any e with
    | false => exact .inl (.inl rfl)
    | true =>
     have h7 := hwait e (by simpa using he) hb
     by_cases hc : e.on ∈ chain
     · exact .inr (by simpa using (h6 e.on hc).2 h7)
     · exact .inl (.inr (by simpa using hc))
   have h4 := h4 k hready
   rw [show aZ l [k] = [o] by unfold aZ; simp [ho]] at h4
   obtain ⟨hdN, h4⟩ := h4
   have hkreg : ∀ t r, t ∈ o.looksAt l.toArray → look Si.regs t = some r → bU (X.ok Si.objs u) u r (b.tmps.getD t undef) := fun t r ht hr => by
    obtain ⟨g1, g2⟩ := h5.regs t r hr
    rcases hsl _ o L vs b t hk ho ht (hslot t ht) with ⟨j, oj, e1, e2, e3, e4, e5⟩ | ⟨e1, e2⟩
    · rw [e5]; exact g1 j oj e1 e2 e3 e4
    · rw [e2]; exact g2 e1
   have hkn : Kn X.mine (X.ok Si.objs u) (fun t => t ∈ o.looksAt l.toArray) Si b u := ⟨h5.mem.at_, h5.mem.fact, fun b hb => hb.2.1, fun t r ht hr => hkreg t r ht hr⟩
   have hnext : ∀ v u' objs' r', Mem X objs' Si.facts u' → (∃ os, objs' = os ++ os1) → (∀ b, X.ok Si.objs u b → X.ok objs' u' b) → (∀ p : Addr, X.ok Si.objs u p.block → u'.cell? p = u.cell? p) → bU (X.ok objs' u') u' r' v →
     CH N l.toArray os1 (fun S' => CT N l os1 (fun S'' => EL X l.toArray Q (l.drop n) S'') chain m (k :: done) S') [] (St.put ⟨Si.regs, objs', Si.facts⟩ o.dst r') →
     ∃ m done Si, done.length + m = chain.length ∧ done.Nodup ∧ (∀ q ∈ done, q ∈ chain) ∧ (∀ q ∈ chain, (q ∈ done ↔ (q = k ∨ L q))) ∧ CT N l os1 (fun S'' => EL X l.toArray Q (l.drop n) S'') chain m done Si ∧ Real X l n chain a RF os1 S.facts Si (fun j => j = k ∨ L j) (fun j => if j = k then v else vs j) u' := fun v u' objs' r' hmem htail hmok hcell hv hCH => by
    have hobj : (St.put ⟨Si.regs, objs', Si.facts⟩ o.dst r').objs = objs' := by cases o.dst <;> rfl
    have hfac : (St.put ⟨Si.regs, objs', Si.facts⟩ o.dst r').facts = Si.facts := by cases o.dst <;> rfl
    refine ⟨m, k :: done, _, by rw [WS]; omega, XV.2 ⟨hkd, h2⟩, fun q hq => ?_, fun q hq => ?_, hCH, by rw [hobj, hfac]; exact hmem, by rw [hobj]; exact htail, by rw [hfac]; exact h5.facts, fun t r hr => ?_, fun t r hr hno => ?_⟩
    ·
     rcases Xb.1 hq with rfl | hq
     · exact hkc
     · exact h3 q hq
    · rw [Xb, h6 q hq]
    ·
     rw [hobj]
     have hcase : (o.dst = some t ∧ r = r') ∨ (o.dst ≠ some t ∧ look Si.regs t = some r) := by
      cases hd : o.dst with
      | none => rw [hd] at hr; exact .inr ⟨(fun e => by cases e), hr⟩
      | some d =>
       rw [hd] at hr
       simp only [St.put, look] at hr
       split at hr
       ·
        rename_i e
        cases hr
        exact .inl ⟨by rw [e], rfl⟩
       ·
        rename_i e
        exact .inr ⟨fun e' => e (by injection e'), hr⟩
     rcases hcase with ⟨hd, rfl⟩ | ⟨hd, hr⟩
     ·
      refine ⟨fun j oj hj hoj hd' _ => ?_, fun hno => absurd hd (hno _ o hk ho)⟩
      rw [if_pos (huniq _ _ _ _ t hj hk hoj ho hd' hd)]
      exact hv
     ·
      obtain ⟨g1, g2⟩ := h5.regs t r hr
      refine ⟨fun j oj hj hoj hd' hLj => ?_, fun hno => (g2 hno).mono hmok hcell⟩
      have hne : j ≠ k := fun e => by
       subst e
       obtain rfl : oj = o := Xr (hoj.symm.trans ho)
       exact hd hd'
      rw [if_neg hne]
      exact (g1 j oj hj hoj hd' (hLj.resolve_left hne)).mono hmok hcell
    ·
     cases hd : o.dst with
     | none => exact h5.free t r hr hno
     | some d =>
      simp only [St.put, look]
      rw [if_neg fun e => hno _ o hkc ho (by rw [hd, e])]
      exact h5.free t r hr hno
   rcases h4 with ⟨inf, hnp', hO, hCH⟩ | ⟨os, rest, Φ, hos, hg, hO, hCH⟩
   ·
    have hgr : ∀ v u', Gr u u' → bU (X.ok Si.objs u') u' inf.reg v → _ := fun v u' hg hv => hnext v u' Si.objs inf.reg (h5.mem.grown hg) h5.tail (fun b hb => BL hg hb) (fun p hp => uz hg p hp) hv hCH
    cases inf with
    | still r =>
     obtain ⟨hg, hSt⟩ := hO
     refine ⟨fun _ => ?_, fun hw => by rw [bZ hkn hg] at hw; cases hw⟩
     obtain ⟨v, e1, e2⟩ := hSt _ _ b u hkn
     rw [e1]
     exact hgr v u (Gr.refl u) e2
    | grow r =>
     obtain ⟨hg, hSt⟩ := hO
     refine ⟨fun _ => gY (hSt _ _ b u hkn) (fun v w' hgr' hv => ?_), fun hw => by rw [bZ hkn hg] at hw; cases hw⟩
     obtain ⟨r', rfl, hv⟩ := hv
     exact hgr v w' hgr' (hv.mono (fun b hb => rH h5.mem hgr' hb) fun _ _ => rfl)
    | put p q => cases hnp'
    | skip =>
     refine ⟨fun hw => (by rw [bZ hkn hO] at hw; cases hw), fun _ => ?_⟩
     exact hgr undef u (Gr.refl u) ⟨[], rfl, rfl⟩
    | new T d =>
     obtain ⟨hg, hSt⟩ := hO
     refine ⟨fun _ => ?_, fun hw => by rw [bZ hkn hg] at hw; cases hw⟩
     obtain ⟨cs, e1, e2⟩ := hSt _ _ b u hkn
     rw [e1]
     exact hgr _ _ (au u _) trivial
   ·
    obtain ⟨rs, objs, fs⟩ := Si
    dsimp only at hos
    subst hos
    refine ⟨fun _ => ?_, fun hw => by rw [bZ hkn hg] at hw; cases hw⟩
    have := hO.go X.mine (X.ok (os ++ (rest ++ os1)) u) b u ⟨fun q hq => hkn.objs q (Xz _ hq), hkn.facts, hkn.lt, hkn.regs⟩ h5.mem.own
    refine wI this fun v u' ⟨r, os', e1, e2, e3⟩ => ?_
    exact hnext v u' (os' ++ (rest ++ os1)) r (h5.mem.turned e2) ⟨os' ++ rest, by rw [Xp]⟩ (fun b hb => oP h5.mem e2 hb) (turned_cell h5.mem e2) (e3.mono (fun b hb => nS h5.mem e2 hb) fun _ _ => rfl) (hCH r os' e1)
 ·
  intro vs u b ⟨m, done, Si, h1, h2, h3, h6, h4, h5⟩ hs hd hslot
  obtain rfl : m = 0 := by
   have hle := C.nod.length_le_of_subset (fun q hq => (h6 q hq).2 (C.clt q hq) : chain ⊆ done)
   omega
  have h4' : EL X l.toArray Q (l.drop n) Si := h4
  refine h4'.go b u ⟨h5.mem, fun t r hr => ?_, hs.trans ha.size, hd.trans ha.defers⟩
  obtain ⟨g1, g2⟩ := h5.regs t r hr
  rcases hslot t with ⟨j, e1, e2, e3, e4, e5⟩ | ⟨e1, e2⟩
  ·
   rw [e5]
   have hj : j < l.length := by have := C.le; omega
   exact g1 j l[j] e1 (by simp) (by rw [← hdst j l[j] (by simp)]; exact e2) e4
  ·
   rw [e2]
   exact g2 fun j o hj ho e => e1 j hj (by rw [hdst j o ho]; exact e)
end
section
variable {N : Nat} {X : Cx N} {S : St} {ops : Array Oper} {o : Oper} {Q : Exit → Act → World → Prop} {l : List Oper} {TT : St → List Fr → Prop} {EE : List Fr} {rs : List (Tmp × R)} {os : List Obj} {fs : List (Value × D)}
theorem GL {x y : Operand} {T e b : Nat} {k : Int} {m : List UInt8} (ho : o.op = .slice T x (some y) none none) (hx : ev S x = some (.val (.bs m))) (hy : ev S y = some (.val (.v (.int .i64 k)))) (hT : assoc slL T = some (e, 1, b)) (hk : 0 ≤ k ∧ k.toNat ≤ m.length) : Still ops S o (.val (.bs (m.drop k.toNat))) := fun base ok a w ha => by
 obtain ⟨A, c, h1, h2, h3, h4⟩ := zQ (ha.ev hx (bD (by rw [ho]; simp [Op.operands])))
 have hy' := gW ha hy (bD (by rw [ho]; simp [Op.operands]))
 obtain ⟨hu, hs⟩ := qP hT
 refine ⟨.slice (if c = k.toNat then A else A.map (·.add (k.toNat * 1))) (m.length - k.toNat) (c - k.toNat), ?_, Qk ⟨if c = k.toNat then A else A.map (·.add (k.toNat * 1)), c - k.toNat, by rw [W9], by rw [W9]; omega, by omega, ?_⟩⟩
 ·
  unfold execOp
  have hr : (Instr.sliceAt T (.slice A m.length c) (some (.int .i64 k)) none none).run Tryz.prog w = .ok (.slice (if c = k.toNat then A else A.map (·.add (k.toNat * 1))) (m.length - k.toNat) (c - k.toNat)) w := by
   rw [run_sliceAt_slice (P := Tryz.prog) w T _ _ _ _ hu, run_slice_l (P := Tryz.prog) w T A m.length c hu .i64 k hk.1 (by omega), hs]
   rfl
  simp only [ho, h1, hy', YL, XW, WX, hr, WV, Xc]
 ·
  have := E5 (z := 1) h4 (by rw [bJ, Nat.mul_one]) h2 k.toNat hk.2
  rw [Nat.mul_one] at this
  rw [Nat.mul_one]
  unfold bvs at this ⊢
  rw [List.map_drop]
  exact this
theorem uV {t ty : Nat} {pos : String} {af : Array Edge} {gd : Option (Nat × Bool)} {x y : Operand} {T e b : Nat} {k : Int} {m : List UInt8} (hx : ev (⟨rs, os, fs⟩ : St) x = some (.val (.bs m))) (hy : ev (⟨rs, os, fs⟩ : St) y = some (.val (.v (.int .i64 k)))) (hT : assoc slL T = some (e, 1, b)) (hk : 0 ≤ k ∧ k.toNat ≤ m.length) (hg : guardOf ops ⟨rs, os, fs⟩ ⟨some t, .slice T x (some y) none none, ty, pos, af, gd⟩ = some true) (hN : Nat.blt t N = true) (kk : EL X ops Q l ⟨(t, .val (.bs (m.drop k.toNat))) :: rs, os, fs⟩) : EL X ops Q (⟨some t, .slice T x (some y) none none, ty, pos, af, gd⟩ :: l) ⟨rs, os, fs⟩ := ES.still (GL rfl hx hy hT hk) hg rfl hN kk
theorem uX {t ty : Nat} {pos : String} {af : Array Edge} {gd : Option (Nat × Bool)} {x y : Operand} {T e b : Nat} {k : Int} {m : List UInt8} (hx : ev (⟨rs, os, fs⟩ : St) x = some (.val (.bs m))) (hy : ev (⟨rs, os, fs⟩ : St) y = some (.val (.v (.int .i64 k)))) (hT : assoc slL T = some (e, 1, b)) (hk : 0 ≤ k ∧ k.toNat ≤ m.length) (hg : guardOf ops ⟨rs, os, fs⟩ ⟨some t, .slice T x (some y) none none, ty, pos, af, gd⟩ = some true) (hoff : fM N (some t) EE = true) (kk : EM N ops TT l ⟨(t, .val (.bs (m.drop k.toNat))) :: rs, os, fs⟩ EE) : EM N ops TT (⟨some t, .slice T x (some y) none none, ty, pos, af, gd⟩ :: l) ⟨rs, os, fs⟩ EE := EH.still (GL rfl hx hy hT hk) hg rfl hoff kk
theorem Still.refine {d d' : D} (h : Still ops S o (.val d)) (hR : aj S.facts [d] [d']) : Still ops S o (.val d') := fun base ok a w ha => by
 obtain ⟨v, h1, h2⟩ := h base ok a w ha
 exact ⟨v, h1, Refine1.kP ha.facts hR h2⟩
end
theorem FnM.toFn {f : FuncId} {ds : List D} {Φ : R → Prop} (h : FnM f ds [] (fun r os' => Φ r ∧ os' = [])) : Fn f ds Φ := ⟨fun ok w xs hok hr => by
 refine (h.go ok w xs hok ⟨fun o ho => by simp at ho, .nil, fun b ⟨o, ho, _⟩ => by simp at ho⟩ hr).mono ?_
 rintro e w' ⟨v, r, os', rfl, ⟨hΦ, rfl⟩, ht, hv⟩
 refine ⟨ht.gr.gr fun b ⟨o, ho, _⟩ => by simp at ho, v, r, rfl, hΦ, hv.mono (fun b hb => ⟨?_, hb.2.1⟩) fun _ _ => rfl⟩
 rcases hb.1 with h | ⟨o, ho, _⟩ | h
 · exact .inl h
 · simp at ho
 · exact .inr h⟩
end E
end Go.Proofs.YtelbhdobjdnglaaGreat
