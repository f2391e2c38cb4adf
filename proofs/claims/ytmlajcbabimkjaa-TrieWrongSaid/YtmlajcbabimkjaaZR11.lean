/-
  Merged (wip/tools/merge.py): EX, EV, EY, EZ, EN, EO, EP, ET, TE, Cmp0, EQ0, Path, Split, Join, Join2.
  Conditions: none.
-/
import Derived.Test.YtmlajcbabimkjaaZR10
import Derived.Test.YtmlajcbabimkjaaZR8
import Derived.Maps.RangeRun
import Derived.Lib.SliceRun
import Derived.Lib.AppendZeros
import Derived.Test.YtmlajcbabimkjaaZR7
import Derived.Test.YtmlajcbabimkjaaZR2
import Derived.Lib.Bytealg
import Derived.Lib.BytesEntry
import Derived.Sort.Walk0
import Derived.BigQuiet
import Derived.Deep.QuietTactic
import Derived.StillTailTactics
/-
  Pieces in another order; functions with pieces that they do not touch.
  Conditions: none.
-/
namespace Go.Proofs.Ytmlajcbabimkjaa
set_option linter.unusedVariables false
open Go.RowKit Mono Rlp
namespace E
theorem range_filterMap {α : Type} : ∀ l : List α, (List.range l.length).filterMap (fun i => l[i]?) = l
  | [] => rfl
  | x :: l => by
    rw [List.length_cons, List.range_succ_eq_map, List.filterMap_cons]
    simp only [List.getElem?_cons_zero, List.filterMap_map]
    congr 1
    exact range_filterMap l
theorem pick_perm {os : List Obj} (l : List Nat) (hn : os.length = l.length) (h : l.Perm (List.range l.length)) : os.Perm (l.filterMap fun i => os[i]?) := by
  have := h.filterMap fun i => os[i]?
  rw [← hn, range_filterMap] at this
  exact this.symm
theorem Le.pick {N : Nat} {X : Cx N} {rs : List (Tmp × R)} {os : List Obj} {fs : List (Value × D)} (l : List Nat) (os' : List Obj) (hn : os.length = l.length) (h : l.Perm (List.range l.length)) (hp : (l.filterMap fun i => os[i]?) = os') : Le X ⟨rs, os, fs⟩ ⟨rs, os', fs⟩ := hp ▸ Le.perm (pick_perm l hn h)
theorem FnM.pick {f : FuncId} {ds : List D} {os : List Obj} {Φ : R → List Obj → Prop} (hF : FnM f ds os Φ) (l : List Nat) (hn : os.length = l.length) (h : l.Perm (List.range l.length)) : FnM f ds (l.filterMap fun i => os[i]?) Φ := hF.perm (pick_perm l hn h)
theorem FnM.out {f : FuncId} {ds : List D} {os : List Obj} {Φ Ψ : R → List Obj → Prop} (hF : FnM f ds os Φ) (k : ∀ r os', Φ r os' → ∃ os2, os'.Perm os2 ∧ Ψ r os2) : FnM f ds os Ψ := ⟨fun ok w xs h1 h2 h3 => (hF.go ok w xs h1 h2 h3).mono fun e w' ⟨v, r, os', e1, e2, e3, e4⟩ => by
  obtain ⟨os2, hp, hΨ⟩ := k r os' e2
  have hok : okM ok os w os' w' = okM ok os w os2 w' := funext fun b => propext ⟨fun h => ⟨h.1, h.2.1, fun o ho => h.2.2 o (hp.mem_iff.2 ho)⟩, fun h => ⟨h.1, h.2.1, fun o ho => h.2.2 o (hp.mem_iff.1 ho)⟩⟩
  exact ⟨v, r, os2, e1, hΨ, ⟨e3.gr, e3.apart.perm hp, fun o ho => hok ▸ e3.at_ o (hp.mem_iff.2 ho)⟩, hok ▸ e4⟩⟩
theorem FnM.frame {f : FuncId} {ds : List D} {os : List Obj} {Φ : R → List Obj → Prop} (hF : FnM f ds os Φ) (rest : List Obj) : FnM f ds (os ++ rest) (fun r os' => ∃ os2, Φ r os2 ∧ os' = os2 ++ rest) := by
  constructor
  intro ok w xs hok hown hr
  have hap := List.pairwise_append.1 hown.apart
  have hown1 : Own ok os w := ⟨fun o ho => hown.at_ o (List.mem_append_left _ ho), hap.1, fun b ⟨o, ho, e⟩ => hown.off b ⟨o, List.mem_append_left _ ho, e⟩⟩
  refine (hF.go ok w xs hok hown1 hr).mono ?_
  rintro e w' ⟨v, r, os', rfl, hΦ, ht, hv⟩
  have hrest : ∀ o ∈ rest, ∀ b, o.blk = some b → b < w.heap.size := fun o ho b e => (Obj.blk_lt (hown.at_ o (List.mem_append_right _ ho)) e).2
  have hoff : ∀ b, (ok b ∨ Blks os b ∨ w.heap.size ≤ b) → ∀ o ∈ rest, o.blk ≠ some b := fun b hb o ho e => by
    rcases hb with h | ⟨o', ho', e'⟩ | h
    · exact hown.off b ⟨o, List.mem_append_right _ ho, e⟩ h
    · exact hap.2.2 o' ho' o ho b e' e
    · have := hrest o ho b e
      omega
  have hbl : ∀ b, Blks os b → Blks (os ++ rest) b := fun b ⟨o, ho, e⟩ => ⟨o, List.mem_append_left _ ho, e⟩
  have hz : ∀ b, okM ok os w os' w' b → okM ok (os ++ rest) w (os' ++ rest) w' b := fun b hb => ⟨hb.1.imp id (Or.imp (hbl b) id), hb.2.1, fun o ho => by
    rcases List.mem_append.1 ho with ho | ho
    · exact hb.2.2 o ho
    · exact hoff b hb.1 o ho⟩
  have hblk : ∀ o ∈ os', ∀ b, o.blk = some b → Blks os b ∨ w.heap.size ≤ b := fun o ho b e => (Obj.blk_lt (ht.at_ o ho) e).1
  have hnew : ∀ b, ok b → ∀ o ∈ os', o.blk ≠ some b := fun b hb o ho e => by
    rcases hblk o ho b e with h | h
    · exact hown1.off b h hb
    · have := hok b hb
      omega
  refine ⟨v, r, os' ++ rest, rfl, ⟨os', hΦ, rfl⟩, ⟨?_, List.pairwise_append.2 ⟨ht.apart, hap.2.1, fun o ho p hp b e e' => ?_⟩, fun o ho => ?_⟩, ReadR.mono hz (fun _ _ => rfl) hv⟩
  · exact (GrE.refl w).step ht.gr fun b hb => .inl (hbl b hb)
  · exact hoff b (.inr (hblk o ho b e)) p hp e'
  · rcases List.mem_append.1 ho with ho | ho
    · exact ((ht.at_ o ho).move hz (fun _ _ => rfl) fun _ _ => rfl).rebase fun b e => (hblk o ho b e).imp (hbl b) id
    · have hat := hown.at_ o (List.mem_append_right _ ho)
      refine (hat.move (z' := okM ok (os ++ rest) w (os' ++ rest) w') (fun b hb => hz b ⟨.inl hb, Nat.lt_of_lt_of_le (hok b hb) ht.gr.size, hnew b hb⟩) (fun p hp => ht.gr.cell (hok _ hp) fun hb => hown1.off _ hb hp) fun g e => ht.gr.block g (hrest o ho g e) fun hb => hoff g (.inr (.inl hb)) o ho e).rebase fun b e => .inl ⟨o, List.mem_append_right _ ho, e⟩
section
variable {S : St} {ops : Array Oper} {o : Oper}
theorem m_append {T e z y' : Nat} {s x : Operand} {v : Value} {ds es : List D} (ho : o.op = .call { callee := .builtin .append, args := #[s, x], argTypes := #[T, T] }) (hT : assoc slL T = some (e, z, y')) (hz : Nat.blt 0 z = true) (hs : ev S s = some (.val (.v v))) (hx : ev S x = some (.val (.sl z es))) (hlen : (ds.length + es.length) * y' ≤ 140737488355328 ∧ ds.length + es.length ≤ 9223372036854775807) :
    Muts ops S o [.row v e z ds] (fun r os' => ∃ v', r = .val (.v v') ∧ os' = [.row v' e z (ds ++ es)]) := .mk fun base ok a w ha hown => by
  have hs' := ev_v ha hs fun t e => looks_of e (by rw [ho]; simp [Op.operands, Call.operands])
  obtain ⟨A, c, rows', h1, h2, h3, h4, h5, h6⟩ := sl_ex (ha.ev hx fun t e => looks_of e (by rw [ho]; simp [Op.operands, Call.operands]))
  obtain ⟨rows, h7, h8⟩ := hown.at_ (.row v e z ds) List.mem_cons_self
  obtain ⟨hl1, hl2⟩ := ReadsRows.lens es rows' h6
  have hlen' : rows'.flatten.length = es.length * z := by
    have : ∀ rows : List (List Value), (∀ r ∈ rows, r.length = z) → rows.flatten.length = rows.length * z := by
      intro rows
      induction rows with
      | nil => simp
      | cons r rows ih =>
        intro h
        rw [List.flatten_cons, List.length_append, h r (by simp), ih fun r hr => h r (by simp [hr]), List.length_cons, Nat.add_mul, Nat.one_mul, Nat.add_comm]
    rw [this rows' hl2, hl1]
  have hrd : Rd w w.heap.size A rows'.flatten := fun hn => by
    obtain ⟨b, n, e, hb, hc⟩ := h5 hn
    exact ⟨b, n, e, ha.lt b hb, hc⟩
  obtain ⟨A', c', w', hrun, hown', hgr, hblk⟩ := run_append_rd (P := Try.prog) (ty := o.type) (c := c) (slTI hT hz) h7.1 hlen' hrd (ReadsRows.one es rows' h6) (by simp only [maxLen]; exact hlen.2) hlen.1 (Nat.zero_le _)
  have hoff : ∀ b, ok b → v.ownBlock ≠ some b := fun b hb e => hown.off b ⟨_, List.mem_cons_self, e⟩ hb
  have hblk' : ∀ b, (Value.slice A' (ds.length + es.length) c').ownBlock = some b → v.ownBlock = some b ∨ w.heap.size ≤ b := fun b e' => by
    rcases hblk with h | h
    · exact .inl (h ▸ e')
    · rw [h] at e'
      cases e'
      exact .inr (Nat.le_refl _)
  have hz' : ∀ b, ok b → okM ok [.row v e z ds] w [.row (.slice A' (ds.length + es.length) c') e z (ds ++ es)] w' b := fun b hb => ⟨.inl hb, Nat.lt_of_lt_of_le (ha.lt b hb) hgr.size, fun o' ho' e' => by
    obtain rfl : o' = _ := by simpa using ho'
    rcases hblk' b e' with h | h
    · exact hoff b hb h
    · have := ha.lt b hb
      omega⟩
  have hcell : ∀ p : Addr, ok p.block → w'.cell? p = w.cell? p := fun p hp => World.cell?_of_block (hgr.block _ (ha.lt _ hp) fun e' => hoff _ hp e'.symm)
  unfold execOp
  simp only [ho, resolve, invoke, builtin, Sem.run_bind, Sem.run_pure, Result.andThen_ok, List.map_toArray, List.map_cons, List.map_nil, hs', h1, hrun, setsTo]
  refine ⟨.val (.v (.slice A' (ds.length + es.length) c')), [.row (.slice A' (ds.length + es.length) c') e z (ds ++ es)], ⟨_, rfl, rfl⟩, ⟨⟨hgr.os, hgr.tape, hgr.output, hgr.size, fun k hk hn => hgr.block k hk fun e' => hn ⟨_, List.mem_cons_self, e'.symm⟩⟩, by simp, fun o' ho' => ?_⟩, ?_⟩
  · obtain rfl : o' = _ := by simpa using ho'
    refine ⟨rows ++ rows', ?_, ReadsRows.append ds es rows rows' (ReadsRows.mono hz' hcell z ds rows h8) (ReadsRows.mono hz' hcell z es rows' h6)⟩
    rw [List.flatten_append, List.length_append]
    refine ⟨hown', fun b hb => ?_⟩
    rcases hblk' b hb with h | h
    · exact .inl ⟨_, List.mem_cons_self, h⟩
    · exact .inr h
  · exact readV_v.2 ⟨rfl, rfl⟩
end
end E
end Go.Proofs.Ytmlajcbabimkjaa
/-
  The abstract machine at regions that draw their order: reads, new memory, new variables, and calls that leave the pieces as they tell them ('visits'), in whatever order.
  Conditions: none.
-/
namespace Go.Proofs.Ytmlajcbabimkjaa
set_option linter.unusedVariables false
open Go.RowKit Mono Rlp
namespace E
def Visit (ops : Array Oper) (S : St) (o : Oper) (r : R) : Prop := ∃ os rest, S.objs.Perm (os ++ rest) ∧ Muts ops ⟨S.regs, rest, S.facts⟩ o os (fun r' os' => r' = r ∧ os' = os)
def OkV (N : Nat) (ops : Array Oper) (S : St) (o : Oper) (i : Inf) : Prop := OkI N ops S o i ∨ ∃ r, i = .grow r ∧ guardOf ops S o = some true ∧ Visit ops S o r
def EV (N : Nat) (ops : Array Oper) (T : St → List Fr → Prop) : List Oper → St → List Fr → Prop
  | [], S, E => T S E
  | o :: l, S, E => ∃ inf : Inf, inf.noPut = true ∧ offB N o.dst E = true ∧ ((∃ T d, inf = .new T d) → o.dst ≠ none) ∧ OkV N ops S o inf ∧ EV N ops T l (S.put o.dst inf.reg) (nextE E o.dst inf)
section
variable {N : Nat} {X : Cx N} {S S' : St} {a : Act} {w w' : World} {ops : Array Oper} {o : Oper} {Q : Exit → Act → World → Prop} {l : List Oper} {T : St → List Fr → Prop} {E : List Fr}
theorem EV.nil (h : T S E) : EV N ops T [] S E := h
theorem EV.seg {l2 : List Oper} : ∀ (l1 : List Oper) (S : St) (E : List Fr), EM N ops (fun S' E' => EV N ops T l2 S' E') l1 S E → EV N ops T (l1 ++ l2) S E
  | [], S, E, h => h
  | o :: l1, S, E, ⟨inf, h0, h1, h2, h3, h4⟩ => ⟨inf, h0, h1, h2, .inl h3, EV.seg l1 _ _ h4⟩
theorem EV.cut (k : Nat) (h : EM N ops (fun S' E' => EV N ops T (l.drop k) S' E') (l.take k) S E) : EV N ops T l S E := by
  have := EV.seg _ _ _ h
  rwa [List.take_append_drop] at this
theorem Mem.perm {os os' : List Obj} {fs : List (Value × D)} (h : os.Perm os') (hm : Mem X os fs w) : Mem X os' fs w :=
  ((Le.perm (X := X) (rs := []) (fs := fs) h) ⟨Array.replicate N undef, []⟩ w ⟨hm, (fun t r hr => by cases hr), by simp, rfl⟩).mem
abbrev Nw := Nat × Nat × TypeId × D
def Nw.pc (e : Nw) : Obj := .var e.2.1 e.2.2.1 e.2.2.2
structure RV (X : Cx N) (S : St) (a : Act) (infs : List Inf) (L : Nat → Prop) (vs : Nat → Value) (u : World) (nw : List Nw) : Prop where
  nd : (nw.map (·.1)).Nodup
  ok : ∀ e ∈ nw, L e.1 ∧ infs[e.1]? = some (.new e.2.2.1 e.2.2.2) ∧ vs e.1 = .pointer (some ⟨e.2.1, 0, none⟩)
  all : ∀ j T d, L j → infs[j]? = some (.new T d) → ∃ e ∈ nw, e.1 = j
  mem : Mem X (nw.map Nw.pc ++ S.objs) S.facts u
  val : ∀ j i, L j → infs[j]? = some i → ReadR (X.ok (nw.map Nw.pc ++ S.objs) u) u i.reg (vs j)
  old : ∀ t r, look S.regs t = some r → ReadR (X.ok (nw.map Nw.pc ++ S.objs) u) u r (a.tmps.getD t undef)
theorem RV.same {infs : List Inf} {L : Nat → Prop} {vs : Nat → Value} {u u' : World} {nw : List Nw} (h : RV X S a infs L vs u nw) {k : Nat} {i : Inf} (hk : ¬ L k) (hi : infs[k]? = some i) (hn : ∀ T d, i ≠ .new T d) (v : Value) (hm : Mem X (nw.map Nw.pc ++ S.objs) S.facts u') (hok : ∀ b, X.ok (nw.map Nw.pc ++ S.objs) u b → X.ok (nw.map Nw.pc ++ S.objs) u' b) (hc : ∀ p : Addr, X.ok (nw.map Nw.pc ++ S.objs) u p.block → u'.cell? p = u.cell? p) (hv : ReadR (X.ok (nw.map Nw.pc ++ S.objs) u') u' i.reg v) : RV X S a infs (fun j => j = k ∨ L j) (fun j => if j = k then v else vs j) u' nw := by
  refine ⟨h.nd, fun e he => ?_, fun j T d hj hij => ?_, hm, fun j i' hj hij => ?_, fun t r hr => (h.old t r hr).mono hok hc⟩
  · obtain ⟨h1, h2, h3⟩ := h.ok e he
    exact ⟨.inr h1, h2, by rw [if_neg (show ¬ e.1 = k from fun e' => hk (by rw [← e']; exact h1))]; exact h3⟩
  · rcases hj with rfl | hj
    · exact absurd (Option.some.inj (hi.symm.trans hij)) (hn T d)
    · exact h.all j T d hj hij
  · by_cases e : j = k
    · subst e
      rw [if_pos rfl]
      obtain rfl : i' = i := Option.some.inj (hij.symm.trans hi)
      exact hv
    · rw [if_neg e]
      exact (h.val j i' (hj.resolve_left e) hij).mono hok hc
theorem RV.new {infs : List Inf} {L : Nat → Prop} {vs : Nat → Value} {u : World} {nw : List Nw} (h : RV X S a infs L vs u nw) {k : Nat} {Ty : TypeId} {d : D} {cs : List Value} (hk : ¬ L k) (hi : infs[k]? = some (.new Ty d)) (hcs : Reads (X.ok (nw.map Nw.pc ++ S.objs) u) u d cs) : RV X S a infs (fun j => j = k ∨ L j) (fun j => if j = k then .pointer (some ⟨u.heap.size, 0, none⟩) else vs j) (u.alloc (.cells cs.toArray Ty)) ((k, u.heap.size, Ty, d) :: nw) := by
  have hgr := gr_alloc u (.cells cs.toArray Ty)
  have hok : ∀ b, X.ok (nw.map Nw.pc ++ S.objs) u b → X.ok (((k, u.heap.size, Ty, d) :: nw : List Nw).map Nw.pc ++ S.objs) (u.alloc (.cells cs.toArray Ty)) b := fun b hb => ⟨hb.1, Nat.lt_of_lt_of_le hb.2.1 hgr.size, fun o ho e => by
    rw [List.map_cons, List.cons_append] at ho
    rcases List.mem_cons.1 ho with rfl | ho
    · cases e
      exact absurd hb.2.1 (Nat.lt_irrefl _)
    · exact hb.2.2 o ho e⟩
  have hc : ∀ p : Addr, X.ok (nw.map Nw.pc ++ S.objs) u p.block → (u.alloc (.cells cs.toArray Ty)).cell? p = u.cell? p := fun p hp => hgr.cell hp.2.1
  refine ⟨?_, fun e he => ?_, fun j T' d' hj hij => ?_, ?_, fun j i' hj hij => ?_, fun t r hr => (h.old t r hr).mono hok hc⟩
  · rw [List.map_cons]
    refine List.nodup_cons.2 ⟨fun hm => ?_, h.nd⟩
    obtain ⟨e, he, e'⟩ := List.mem_map.1 hm
    have e2 : e.1 = k := e'
    exact hk (by rw [← e2]; exact (h.ok e he).1)
  · rcases List.mem_cons.1 he with rfl | he
    · exact ⟨.inl rfl, hi, if_pos rfl⟩
    · obtain ⟨h1, h2, h3⟩ := h.ok e he
      exact ⟨.inr h1, h2, by rw [if_neg (show ¬ e.1 = k from fun e' => hk (by rw [← e']; exact h1))]; exact h3⟩
  · rcases hj with rfl | hj
    · exact ⟨_, List.mem_cons_self, rfl⟩
    · obtain ⟨e, he, e'⟩ := h.all j T' d' hj hij
      exact ⟨e, List.mem_cons_of_mem _ he, e'⟩
  · have hat : At X ⟨[], nw.map Nw.pc ++ S.objs, S.facts⟩ ⟨Array.replicate N undef, []⟩ u := ⟨h.mem, (fun t r hr => by cases hr), by simp, rfl⟩
    exact (hat.new (q := .var u.heap.size Ty d) rfl ⟨.inr h.mem.gr.size, cs, heap_alloc_new u _, Reads.mono hok hc _ _ hcs⟩).mem
  · by_cases e : j = k
    · subst e
      obtain rfl : i' = .new Ty d := Option.some.inj (hij.symm.trans hi)
      trivial
    · rw [if_neg e]
      exact (h.val j i' (hj.resolve_left e) hij).mono hok hc
end
end E
end Go.Proofs.Ytmlajcbabimkjaa
/-
  Arrays of bytes within a row or a variable, cut whole and told as strings.
  Conditions: none.
-/
namespace Go.Proofs.Ytmlajcbabimkjaa
set_option linter.unusedVariables false
open Go.RowKit Mono Rlp
namespace E
end E
end Go.Proofs.Ytmlajcbabimkjaa
/-
  A field of a struct's value.
  Conditions: none.
-/
namespace Go.Proofs.Ytmlajcbabimkjaa
set_option linter.unusedVariables false
open Go.RowKit Mono Rlp
namespace E
end E
end Go.Proofs.Ytmlajcbabimkjaa
/-
  The abstract machine: ranges over maps; an entry of a map's literal; pieces of a chain in another order.
  Conditions: none.
-/
namespace Go.Proofs.Ytmlajcbabimkjaa
set_option linter.unusedVariables false
open Go.RowKit Mono Rlp
open Go.ChangeMaps (setBlock)
namespace E
theorem All2.left {α β : Type} {R : α → β → Prop} : ∀ {l : List α} {m : List β}, All2 R l m → ∀ a ∈ l, ∃ b ∈ m, R a b
  | _, _, .nil, a, h => by cases h
  | _, _, .cons h1 h2, a, h => by
    rcases List.mem_cons.1 h with rfl | h
    · exact ⟨_, List.mem_cons_self, h1⟩
    · obtain ⟨b, hb, hr⟩ := h2.left a h
      exact ⟨b, List.mem_cons_of_mem _ hb, hr⟩
theorem All2.right {α β : Type} {R : α → β → Prop} : ∀ {l : List α} {m : List β}, All2 R l m → ∀ b ∈ m, ∃ a ∈ l, R a b
  | _, _, .nil, a, h => by cases h
  | _, _, .cons h1 h2, a, h => by
    rcases List.mem_cons.1 h with rfl | h
    · exact ⟨_, List.mem_cons_self, h1⟩
    · obtain ⟨b, hb, hr⟩ := h2.right a h
      exact ⟨b, List.mem_cons_of_mem _ hb, hr⟩
end E
end Go.Proofs.Ytmlajcbabimkjaa
/-
  The abstract machine: what is behind the first of a row, and 'clear' of the last one.
  Conditions: none.
-/
namespace Go.Proofs.Ytmlajcbabimkjaa
set_option linter.unusedVariables false
open Go.RowKit Mono Rlp
namespace E
def sufV (k z : Nat) : Value → Value
  | .slice A n c => .slice (if c = k then A else A.map (·.add (k * z))) (n - k) (c - k)
  | v => v
section
variable {N : Nat} {X : Cx N} {S : St} {ops : Array Oper} {o : Oper} {Q : Exit → Act → World → Prop} {l : List Oper} {rs : List (Tmp × R)} {os os' : List Obj} {fs : List (Value × D)}
theorem g_rowsuf {x y : Operand} {T e z b : Nat} {k : Int} {v : Value} {ds : List D} (ho : o.op = .slice T x (some y) none none) (hx : ev S x = some (.val (.v v))) (i : Nat) (hi : S.objs[i]? = some (.row v e z ds)) (hy : ev S y = some (.val (.v (.int .i64 k)))) (hT : assoc slL T = some (e, z, b)) (hk : 0 ≤ k ∧ k.toNat ≤ ds.length) : Still ops S o (.val (.v (sufV k.toNat z v))) := fun base ok a w ha => by
  have hx' := ev_v ha hx (looks_op (by rw [ho]; simp [Op.operands]))
  have hy' := ev_v ha hy (looks_op (by rw [ho]; simp [Op.operands]))
  obtain ⟨rows, ⟨h1, _⟩, _⟩ := ha.objs _ (List.mem_of_getElem? hi)
  obtain ⟨hu, hs⟩ := elem_und hT
  have hf : ∃ A c, v = .slice A ds.length c ∧ ds.length ≤ c := by
    rcases h1.2 with ⟨e1, e2⟩ | ⟨g, c, cur, e1, _, _, e3, _⟩
    · exact ⟨none, 0, by rw [e1, e2], by omega⟩
    · exact ⟨_, c, e1, e3⟩
  obtain ⟨A, c, rfl, hc⟩ := hf
  refine ⟨sufV k.toNat z (.slice A ds.length c), ?_, v_mk (by unfold sufV; rfl)⟩
  unfold execOp
  have hr : (Instr.sliceAt T (.slice A ds.length c) (some (.int .i64 k)) none none).run Try.prog w = .ok (sufV k.toNat z (.slice A ds.length c)) w := by
    rw [run_sliceAt_slice (P := Try.prog) w T _ _ _ _ hu, run_slice_l (P := Try.prog) w T A ds.length c hu .i64 k hk.1 (by omega), hs]
    rfl
  simp only [ho, hx', hy', Option.map_none, Option.map_some, Sem.run_bind, hr, Result.andThen_ok, Sem.run_pure]
theorem P_rowsuf {t ty : Nat} {pos : String} {af : Array Edge} {gd : Option (Nat × Bool)} {x y : Operand} {T e z b i : Nat} {k : Int} {v : Value} {ds : List D} (hx : ev (⟨rs, os, fs⟩ : St) x = some (.val (.v v))) (hi : os[i]? = some (.row v e z ds)) (hy : ev (⟨rs, os, fs⟩ : St) y = some (.val (.v (.int .i64 k)))) (hT : assoc slL T = some (e, z, b)) (hk : 0 ≤ k ∧ k.toNat ≤ ds.length) (hg : guardOf ops ⟨rs, os, fs⟩ ⟨some t, .slice T x (some y) none none, ty, pos, af, gd⟩ = some true) (hN : Nat.blt t N = true) (kk : EL X ops Q l ⟨(t, .val (.v (sufV k.toNat z v))) :: rs, os, fs⟩) : EL X ops Q (⟨some t, .slice T x (some y) none none, ty, pos, af, gd⟩ :: l) ⟨rs, os, fs⟩ := ES.still (g_rowsuf rfl hx i hi hy hT hk) hg rfl hN kk
end
end E
end Go.Proofs.Ytmlajcbabimkjaa
/-
  The abstract machine: 'append(nil, make(..)...)', 'clear' of a row's end.
  Conditions: none.
-/
namespace Go.Proofs.Ytmlajcbabimkjaa
set_option linter.unusedVariables false
open Go.RowKit Mono Rlp
namespace E
theorem zeroCells_flat (cs : List Value) (h0 : 0 < cs.length) (m : Nat) : (Builtin.zeroCells cs.toArray m).toList = (List.replicate m cs).flatten := by
  have hl : ∀ m, (List.replicate m cs).flatten.length = m * cs.length := fun m => by
    induction m with
    | zero => simp
    | succ m ih => rw [List.replicate_succ, List.flatten_cons, List.length_append, ih, Nat.add_mul, Nat.one_mul, Nat.add_comm]
  have hg : ∀ m j, j < m * cs.length → (List.replicate m cs).flatten[j]? = cs[j % cs.length]? := fun m => by
    induction m with
    | zero => intro j h; omega
    | succ m ih =>
      intro j h
      rw [List.replicate_succ, List.flatten_cons]
      by_cases hj : j < cs.length
      · rw [List.getElem?_append_left hj, Nat.mod_eq_of_lt hj]
      · rw [List.getElem?_append_right (by omega), ih (j - cs.length) (by rw [Nat.add_mul, Nat.one_mul] at h; omega)]
        conv => rhs; rw [show j = j - cs.length + cs.length by omega, Nat.add_mod_right]
  refine List.ext_getElem? fun j => ?_
  by_cases hj : j < m * cs.length
  · rw [hg m j hj]
    have hm : j % cs.length < cs.length := Nat.mod_lt _ h0
    simp [Builtin.zeroCells, hj, hm]
  · rw [List.getElem?_eq_none (by simp [Builtin.zeroCells]; omega), List.getElem?_eq_none (by rw [hl]; omega)]
theorem rows_repl {ok : Nat → Prop} {w : World} {z : Nat} {d : D} {cs : List Value} (h : Reads ok w d cs) (hl : cs.length = z) : ∀ m : Nat, ReadsRows ok w z (List.replicate m d) (List.replicate m cs)
  | 0 => by rw [List.replicate_zero, ReadsRows]; rfl
  | m + 1 => by
    rw [List.replicate_succ, List.replicate_succ, ReadsRows]
    exact ⟨cs, _, rfl, hl, h, rows_repl h hl m⟩
end E
end Go.Proofs.Ytmlajcbabimkjaa
/-
  The abstract machine: regions that draw their order, whose writing operations are not all in one row: at each place all that are ready.
  Conditions: none.
-/
namespace Go.Proofs.Ytmlajcbabimkjaa
set_option linter.unusedVariables false
open Go.RowKit Mono Rlp
namespace E
def readyL (l : List Oper) (chain done : List Nat) : List Nat := chain.filter fun k => !done.contains k && match l[k]? with
  | some o => o.after.toList.all fun e => !(Region.binds .any e) || !chain.contains e.on || done.contains e.on
  | none => true
def CT (N : Nat) (l : List Oper) (os1 : List Obj) (T : St → Prop) (chain : List Nat) : Nat → List Nat → St → Prop
  | 0, _, S => T S
  | m + 1, done, S => ∀ k ∈ readyL l chain done, CH N l.toArray os1 (fun S' => CT N l os1 T chain m (k :: done) S') (pickL l [k]) S
theorem CT.pick {N : Nat} {l : List Oper} {os1 : List Obj} {T : St → Prop} {chain : List Nat} {m : Nat} {done : List Nat} {S : St} (ks : List Nat) (hk : readyL l chain done = ks) (h : ∀ k ∈ ks, CH N l.toArray os1 (fun S' => CT N l os1 T chain m (k :: done) S') (pickL l [k]) S) : CT N l os1 T chain (m + 1) done S := by
  unfold CT
  rw [hk]
  exact h
theorem CT.nil {N : Nat} {l : List Oper} {os1 : List Obj} {T : St → Prop} {chain : List Nat} {done : List Nat} {S : St} (h : T S) : CT N l os1 T chain 0 done S := h
end E
end Go.Proofs.Ytmlajcbabimkjaa
/-
  The abstract machine, more: slices of bytes and of arrays that are known, an array's part, interfaces beside nil, what writes no piece.
  Conditions: none.
-/
namespace Go.Proofs.Ytmlajcbabimkjaa
set_option linter.unusedVariables false
open Go.RowKit Mono Rlp
namespace E
section
variable {N : Nat} {X : Cx N} {S : St} {ops : Array Oper} {o : Oper} {Q : Exit → Act → World → Prop} {l : List Oper} {TT : St → List Fr → Prop} {EE : List Fr} {rs : List (Tmp × R)} {os : List Obj} {fs : List (Value × D)}
theorem g_slpd {x : Operand} {T n m : Nat} {b : List UInt8} (hA : SliceA T n) (hn : Nat.ble n 4096 = true) (ho : o.op = .slice T x none none none) (hx : ev S x = some (.val (.pd (.arr m b)))) (hm : m = n) (h0 : Nat.blt 0 n = true) : Still ops S o (.val (.bs b)) := fun base ok a w ha => by
  subst hm
  have h1 := (readV_one rfl).1 (ha.ev hx fun t e => looks_of e (by rw [ho]; simp [Op.operands]))
  rw [Reads] at h1
  obtain ⟨g, k, cs, e, hg, hr, h2⟩ := h1
  rw [Reads] at h2
  obtain ⟨hl, rfl⟩ := h2
  have e' : a.eval x = .pointer (some ⟨g, k, none⟩) := List.singleton_inj.1 e
  simp only [Nat.ble_eq] at hn
  refine ⟨.slice (some ⟨g, k, none⟩) m m, ?_, (readV_one rfl).2 ?_⟩
  · unfold execOp
    simp only [ho, e', Option.map_none, Sem.run_bind, hA.ok w g k, Result.andThen_ok, Sem.run_pure]
  · rw [Reads]
    refine ⟨_, rfl, some ⟨g, k, none⟩, m, by rw [hl], by omega, by simp [maxLen]; omega, fun _ => ⟨g, k, rfl, hg, fun j u hu => hr j u hu⟩⟩
theorem P_slpd {t ty : Nat} {pos : String} {af : Array Edge} {gd : Option (Nat × Bool)} {x : Operand} {T n m : Nat} {b : List UInt8} (hA : SliceA T n) (hn : Nat.ble n 4096 = true) (hx : ev (⟨rs, os, fs⟩ : St) x = some (.val (.pd (.arr m b)))) (hm : m = n) (h0 : Nat.blt 0 n = true) (hg : guardOf ops ⟨rs, os, fs⟩ ⟨some t, .slice T x none none none, ty, pos, af, gd⟩ = some true) (hN : Nat.blt t N = true) (kk : EL X ops Q l ⟨(t, .val (.bs b)) :: rs, os, fs⟩) : EL X ops Q (⟨some t, .slice T x none none none, ty, pos, af, gd⟩ :: l) ⟨rs, os, fs⟩ := ES.still (g_slpd hA hn rfl hx hm h0) hg rfl hN kk
theorem bs_take1 {x y : Operand} {T e b : Nat} {k : Int} {m : List UInt8} (ho : o.op = .slice T x none (some y) none) (hx : ev S x = some (.val (.bs m))) (hy : ev S y = some (.val (.v (.int .i64 k)))) (hT : assoc slL T = some (e, 1, b)) (hk : 0 ≤ k ∧ k.toNat ≤ m.length) : Still ops S o (.val (.bs (m.take k.toNat))) := fun base ok a w ha => by
  obtain ⟨A, c, h1, h2, h3, h4⟩ := bs_ex (ha.ev hx (looks_op (by rw [ho]; simp [Op.operands])))
  have hy' := ev_v ha hy (looks_op (by rw [ho]; simp [Op.operands]))
  obtain ⟨hu, hs⟩ := elem_und hT
  refine ⟨.slice (if c = 0 then A else A.map (·.add (0 * 1))) (k.toNat - 0) (c - 0), ?_, bs_mk ⟨A, c, ?_, by rw [List.length_take]; omega, h3, fun hne => ?_⟩⟩
  · unfold execOp
    simp only [ho, h1, hy', Option.map_none, Option.map_some, Sem.run_bind]
    rw [run_sliceAt_slice _ _ _ _ _ _ hu, run_slice_h _ _ _ _ _ hu _ _ (by omega) (by omega), hs]
    simp only [Result.andThen_ok, Sem.run_pure, sliced]
  · have h5 : (if c = 0 then A else A.map (·.add (0 * 1))) = A := by
      split
      · rfl
      · cases A <;> simp [Addr.add]
    rw [h5, List.length_take, Nat.min_eq_left hk.2]
    rfl
  · rw [bvs_take] at hne ⊢
    obtain ⟨b, o, e1, e2, e3⟩ := h4 (fun e => hne (by rw [e]; simp))
    refine ⟨b, o, e1, e2, fun j u hu => e3 j u ?_⟩
    rw [List.getElem?_take] at hu
    split at hu
    · exact hu
    · cases hu
theorem bs_from1 {x y : Operand} {T e b : Nat} {k : Int} {m : List UInt8} (ho : o.op = .slice T x (some y) none none) (hx : ev S x = some (.val (.bs m))) (hy : ev S y = some (.val (.v (.int .i64 k)))) (hT : assoc slL T = some (e, 1, b)) (hk : 0 ≤ k ∧ k.toNat ≤ m.length) : Still ops S o (.val (.bs (m.drop k.toNat))) := fun base ok a w ha => by
  obtain ⟨A, c, h1, h2, h3, h4⟩ := bs_ex (ha.ev hx (looks_op (by rw [ho]; simp [Op.operands])))
  have hy' := ev_v ha hy (looks_op (by rw [ho]; simp [Op.operands]))
  obtain ⟨hu, hs⟩ := elem_und hT
  refine ⟨.slice (if c = k.toNat then A else A.map (·.add (k.toNat * 1))) (m.length - k.toNat) (c - k.toNat), ?_, bs_mk ⟨if c = k.toNat then A else A.map (·.add (k.toNat * 1)), c - k.toNat, by rw [List.length_drop], by rw [List.length_drop]; omega, by omega, ?_⟩⟩
  · unfold execOp
    have hr : (Instr.sliceAt T (.slice A m.length c) (some (.int .i64 k)) none none).run Try.prog w = .ok (.slice (if c = k.toNat then A else A.map (·.add (k.toNat * 1))) (m.length - k.toNat) (c - k.toNat)) w := by
      rw [run_sliceAt_slice (P := Try.prog) w T _ _ _ _ hu, run_slice_l (P := Try.prog) w T A m.length c hu .i64 k hk.1 (by omega), hs]
      rfl
    simp only [ho, h1, hy', Option.map_none, Option.map_some, Sem.run_bind, hr, Result.andThen_ok, Sem.run_pure]
  · have := rdp_drop (z := 1) h4 (by rw [bvs_length, Nat.mul_one]) h2 k.toNat hk.2
    rw [Nat.mul_one] at this
    rw [Nat.mul_one]
    unfold bvs at this ⊢
    rw [List.map_drop]
    exact this
theorem H_bsto {t ty : Nat} {pos : String} {af : Array Edge} {gd : Option (Nat × Bool)} {x y : Operand} {T e b : Nat} {k : Int} {m : List UInt8} (hx : ev (⟨rs, os, fs⟩ : St) x = some (.val (.bs m))) (hy : ev (⟨rs, os, fs⟩ : St) y = some (.val (.v (.int .i64 k)))) (hT : assoc slL T = some (e, 1, b)) (hk : 0 ≤ k ∧ k.toNat ≤ m.length) (hg : guardOf ops ⟨rs, os, fs⟩ ⟨some t, .slice T x none (some y) none, ty, pos, af, gd⟩ = some true) (hoff : offB N (some t) EE = true) (kk : EM N ops TT l ⟨(t, .val (.bs (m.take k.toNat))) :: rs, os, fs⟩ EE) : EM N ops TT (⟨some t, .slice T x none (some y) none, ty, pos, af, gd⟩ :: l) ⟨rs, os, fs⟩ EE := EH.still (bs_take1 rfl hx hy hT hk) hg rfl hoff kk
theorem H_bsfrom {t ty : Nat} {pos : String} {af : Array Edge} {gd : Option (Nat × Bool)} {x y : Operand} {T e b : Nat} {k : Int} {m : List UInt8} (hx : ev (⟨rs, os, fs⟩ : St) x = some (.val (.bs m))) (hy : ev (⟨rs, os, fs⟩ : St) y = some (.val (.v (.int .i64 k)))) (hT : assoc slL T = some (e, 1, b)) (hk : 0 ≤ k ∧ k.toNat ≤ m.length) (hg : guardOf ops ⟨rs, os, fs⟩ ⟨some t, .slice T x (some y) none none, ty, pos, af, gd⟩ = some true) (hoff : offB N (some t) EE = true) (kk : EM N ops TT l ⟨(t, .val (.bs (m.drop k.toNat))) :: rs, os, fs⟩ EE) : EM N ops TT (⟨some t, .slice T x (some y) none none, ty, pos, af, gd⟩ :: l) ⟨rs, os, fs⟩ EE := EH.still (bs_from1 rfl hx hy hT hk) hg rfl hoff kk
theorem g_indextup {x y : Operand} {T n e z : Nat} {k : Int} {ds : List D} {d : D} (ho : o.op = .index T x y) (hx : ev S x = some (.val (.tup ds))) (hy : ev S y = some (.val (.v (.int .i64 k)))) (hT : assoc arL T = some (n, e, z)) (hz : z = 1) (he : ∀ w, (isAgg e).run Try.prog w = .ok false w) (hs : ∀ d ∈ ds, d.size = 1 ∧ d.agg = false) (hn : ds.length = n) (hk : 0 ≤ k ∧ ds[k.toNat]? = some d) : Still ops S o (.val d) := fun base ok a w ha => by
  subst hz
  obtain ⟨cs, h1, h2⟩ := (readV_agg rfl).1 (ha.ev hx (looks_op (by rw [ho]; simp [Op.operands])))
  have hy' := ev_v ha hy (looks_op (by rw [ho]; simp [Op.operands]))
  obtain ⟨hk', rfl⟩ := List.getElem?_eq_some_iff.1 hk.2
  rw [Reads] at h1
  have hcs : ∀ (ds : List D) (cs : List Value), (∀ d ∈ ds, d.size = 1 ∧ d.agg = false) → ReadsL ok w ds cs → cs.length = ds.length ∧ ∀ (i : Nat) (hi : i < ds.length), ∃ u, cs[i]? = some u ∧ Reads ok w ds[i] [u] := by
    intro ds
    induction ds with
    | nil =>
      intro cs _ h
      rw [ReadsL] at h
      subst h
      exact ⟨rfl, fun i hi => absurd hi (Nat.not_lt_zero _)⟩
    | cons d ds ih =>
      intro cs hd h
      rw [ReadsL] at h
      obtain ⟨c1, c2, rfl, g1, g2⟩ := h
      obtain ⟨u, rfl⟩ : ∃ u, c1 = [u] := List.length_eq_one_iff.1 ((Reads.len _ _ g1).trans (hd d (by simp)).1)
      obtain ⟨i1, i2⟩ := ih c2 (fun d hd' => hd d (by simp [hd'])) g2
      refine ⟨by simp [i1], fun i hi => ?_⟩
      cases i with
      | zero => exact ⟨u, rfl, g1⟩
      | succ i => simpa using i2 i (by simpa using hi)
  obtain ⟨hl, hat⟩ := hcs ds cs hs h1
  obtain ⟨u, hu, hr⟩ := hat k.toNat hk'
  refine ⟨u, ?_, (readV_one (hs _ (List.getElem_mem hk')).2).2 hr⟩
  have hlt : k < (n : Int) := by omega
  have hA := arI' hT
  have hrun : (Instr.index T (.agg cs.toArray) (.int .i64 k)).run Try.prog w = .ok u w := by
    unfold Instr.index
    have h0 := hk.1
    simp [run_underlying hA.und, asIntOf, h0, hlt, run_size hA.size, part, he, hu]
  unfold execOp
  simp only [ho, h2, hy', Sem.run_bind, hrun, Result.andThen_ok, Sem.run_pure]
theorem Still.refine {d d' : D} (h : Still ops S o (.val d)) (hR : RefineL S.facts [d] [d']) : Still ops S o (.val d') := fun base ok a w ha => by
  obtain ⟨v, h1, h2⟩ := h base ok a w ha
  exact ⟨v, h1, Refine1.readV ha.facts hR h2⟩
theorem P_buildR {t ty : Nat} {pos : String} {af : Array Edge} {gd : Option (Nat × Bool)} {T : Nat} {parts : Array (Nat × Operand)} {lf : List (Nat × Nat × Bool)} {d0 d d' : D} {ps : List (Nat × D)} (hx : evps (⟨rs, os, fs⟩ : St) parts.toList = some ps) (hT : assoc stL T = some lf) (hz : assoc zeroL T = some d0) (hd0 : d0.agg = true) (hf : fillD (lf.map fun x => (x.1, x.2.1)) d0 ps = some d) (hR : RefineL fs [d] [d']) (hg : guardOf ops ⟨rs, os, fs⟩ ⟨some t, .build T parts, ty, pos, af, gd⟩ = some true) (hN : Nat.blt t N = true) (kk : EL X ops Q l ⟨(t, (.val d')) :: rs, os, fs⟩) : EL X ops Q (⟨some t, .build T parts, ty, pos, af, gd⟩ :: l) ⟨rs, os, fs⟩ := ES.still (Still.refine (g_buildI rfl hx hT hz hd0 hf) hR) hg rfl hN kk
end
theorem FnM.toFn {f : FuncId} {ds : List D} {Φ : R → Prop} (h : FnM f ds [] (fun r os' => Φ r ∧ os' = [])) : Fn f ds Φ := ⟨fun ok w xs hok hr => by
  refine (h.go ok w xs hok ⟨fun o ho => by simp at ho, .nil, fun b ⟨o, ho, _⟩ => by simp at ho⟩ hr).mono ?_
  rintro e w' ⟨v, r, os', rfl, ⟨hΦ, rfl⟩, ht, hv⟩
  refine ⟨ht.gr.gr fun b ⟨o, ho, _⟩ => by simp at ho, v, r, rfl, hΦ, hv.mono (fun b hb => ⟨?_, hb.2.1⟩) fun _ _ => rfl⟩
  rcases hb.1 with h | ⟨o, ho, _⟩ | h
  · exact .inl h
  · simp at ho
  · exact .inr h⟩
end E
end Go.Proofs.Ytmlajcbabimkjaa
/-
  bytes.Compare: the order of bytes.
  Conditions: none.
-/
namespace Go.Proofs.Ytmlajcbabimkjaa
set_option linter.unusedVariables false
open Go.RowKit Mono
abbrev cmpB (l m : List UInt8) : Int := Lib.compareBytes l m
theorem less_cmp : ∀ a b : List UInt8, Op.bytesLess a b = decide (cmpB a b < 0)
  | [], [] => rfl
  | _ :: _, [] => rfl
  | [], _ :: _ => rfl
  | a :: x, b :: y => by
    rw [Op.bytesLess, cmpB, Lib.compareBytes, less_cmp x y]
    by_cases h1 : a < b
    · simp [h1]
    · by_cases h2 : b < a
      · have h3 : ¬ a = b := fun e => by subst e; exact h1 h2
        simp [h1, h2, h3]
      · have h3 : a = b := by
          apply UInt8.toNat_inj.1
          have := UInt8.not_lt.1 h1
          have := UInt8.not_lt.1 h2
          exact Nat.le_antisymm (UInt8.le_iff_toNat_le.1 (UInt8.not_lt.1 h2)) (UInt8.le_iff_toNat_le.1 (UInt8.not_lt.1 h1))
        subst h3
        simp [h1]
theorem run_bytesOf {w : World} {v : Value} {l : List UInt8} (h : IsB w v l) : (Extern.Bytes.bytesOf v).run Try.prog w = .ok (bs l) w := by
  obtain ⟨A, c, rfl, h1, h2, hr⟩ := h
  cases A with
  | none =>
    have : l = [] := by
      by_cases hl : bvs l = []
      · simpa [bvs] using hl
      · obtain ⟨b, o, e, _⟩ := hr hl
        cases e
    subst this
    rfl
  | some ad =>
    have := Lib.run_loadBytesX (P := Try.prog) (w := w) (l.map fun x => (x.toNat : Int)) ad .empty fun j x hx => by
      rw [List.getElem?_map] at hx
      obtain ⟨y, hy, rfl⟩ := Option.map_eq_some_iff.1 hx
      obtain ⟨b, o, e, _, hc⟩ := hr (fun e => by have := congrArg List.length e; rw [bvs_length] at this; simp at this; rw [this] at hy; simp at hy)
      injection e with e
      subst e
      rw [add_none]
      exact hc j _ (by simp [bvs, bv, hy])
    rw [List.length_map] at this
    show (Extern.Bytes.loadBytes ad l.length .empty).run Try.prog w = _
    rw [this]
    have h2 : Lib.bytesOf (l.map fun x => (x.toNat : Int)) = l := by
      simp only [Lib.bytesOf, List.map_map]
      refine (List.map_congr_left fun x _ => ?_).trans (List.map_id l)
      simp
    rw [h2]
    simp [bs]
theorem run_compare {w : World} {v u : Value} {l m : List UInt8} (h1 : IsB w v l) (h2 : IsB w u m) : (Extern.BytealgCompare.compare #[v, u]).run Try.prog w = .ok (.int .i64 (cmpB l m)) w := by
  change Sem.run Try.prog (do pure (goInt (Extern.BytealgCompare.cmp (← Extern.Bytes.bytesOf v) (← Extern.Bytes.bytesOf u)))) w = _
  simp only [Sem.run_bind, run_bytesOf h1, run_bytesOf h2, Result.andThen_ok, Sem.run_pure, Lib.cmp_eq]
  rfl
set_option maxRecDepth 20000 in
set_option maxHeartbeats 1000000 in
theorem bytes_CompareW (v u : Value) (l m : List UInt8) (w : World) (h1 : IsB w v l) (h2 : IsB w u m) : Calls Try.prog 43 #[v, u] w fun e w' => e = .returned (.int .i64 (cmpB l m)) ∧ w' = w := by
  have hr := run_compare h1 h2
  go_enter Try.func43, Try.ntmps43
  go_wp2_with fail
  rw [run_callFunc_extern Try.func74 (by kernel_rfl) (by kernel_rfl) (by kernel_rfl) (e := Extern.BytealgCompare.compare) (by kernel_rfl), hr]
  simp only [Result.andThen]
  rw [Oper.upon_value]
  go_wp2_with fail
  exact bodyPost_ret (results_tmp rfl _ _ _) rfl ⟨rfl, rfl⟩
theorem bl_iff (a b : List UInt8) : Op.bytesLess a b = decide (a < b) := Go.Proofs.bytesLess_eq a b
theorem cmpB_lt (a b : List UInt8) : decide (cmpB a b < 0) = decide (a < b) := by rw [← less_cmp, bl_iff]
end Go.Proofs.Ytmlajcbabimkjaa
/-
  bytes.Compare of arrays in variables of the call's own; bytes.Equal.
  Conditions: none.
-/
namespace Go.Proofs.Ytmlajcbabimkjaa
set_option linter.unusedVariables false
open Go.RowKit Mono Rlp
namespace E
section
variable {N : Nat} {X : Cx N} {S : St} {ops : Array Oper} {o : Oper} {Q : Exit → Act → World → Prop} {l' : List Oper} {rs : List (Tmp × R)} {os : List Obj} {fs : List (Value × D)}
theorem P_slnil {t ty : Nat} {pos : String} {af : Array Edge} {gd : Option (Nat × Bool)} {x y : Operand} {T U e z b : Nat} {ds : List D} (hx : ev (⟨rs, os, fs⟩ : St) x = some (.val (.sl z ds))) (hy : ev (⟨rs, os, fs⟩ : St) y = some (.val (.v (.slice none 0 0)))) (hT : assoc slL T = some (e, z, b)) (hz : Nat.blt 0 z = true) (hg : guardOf ops ⟨rs, os, fs⟩ ⟨some t, .binOp .eql T x y U, ty, pos, af, gd⟩ = some true) (hN : Nat.blt t N = true) (kk : ∀ v, (v = true → ds = []) → EL X ops Q l' ⟨(t, .val (.v (.bool v))) :: rs, os, fs⟩) : EL X ops Q (⟨some t, .binOp .eql T x y U, ty, pos, af, gd⟩ :: l') ⟨rs, os, fs⟩ := by
  refine EL.growE (Φ := fun r => ∃ v, (v = true → ds = []) ∧ r = .val (.v (.bool v))) hg (dst_lt rfl hN) (fun base ok a w ha => ?_) fun r ⟨v, h1, h2⟩ => by
    subst h2
    exact kk v h1
  obtain ⟨A, c, rows, h1, h2, h3, h4, _⟩ := sl_ex (ha.ev hx (looks_op (by simp [Op.operands])))
  have h5 := ev_v ha hy (looks_op (by simp [Op.operands]))
  have hu := (slTI hT hz).und
  have hrun : (execOp a.eval ⟨some t, .binOp .eql T x y U, ty, pos, af, gd⟩).run Try.prog w = .ok (.value (.bool A.isNone)) w := by
    unfold execOp
    have hq : (eqGuard .eql T x y (.slice A ds.length c) (.slice none 0 0)).run Try.prog w = .ok () w := by simp [eqGuard]
    simp only [h1, h5, Sem.run_bind, hq, Result.andThen_ok, Lib.run_eql_slice_nil w T e A ds.length c 0 0 hu, Sem.run_pure]
  rw [hrun]
  refine ⟨Gr.refl w, _, ⟨_, fun hv => ?_, rfl⟩, readV_v.2 ⟨rfl, rfl⟩⟩
  cases A with
  | none => exact List.eq_nil_of_length_eq_zero (h4 rfl).1
  | some _ => cases hv
theorem m_lit0 {T e z b : Nat} (ho : o.op = .buildSlice T 0 #[]) (hT : assoc slL T = some (e, z, b)) (hz : Nat.blt 0 z = true) : Muts ops S o [] (fun r os' => ∃ v, r = .val (.v v) ∧ os' = [.row v e z []]) := .mk fun base ok a w ha hown => by
  have hS := slTI hT hz
  obtain ⟨i, zv, hi, hzv, hsz, hby, hcs⟩ := hS.info
  have hr : (execOp a.eval o).run Try.prog w = .ok (.value (.slice (some ⟨w.heap.size, 0, none⟩) 0 0)) (w.alloc (.cells #[] e)) := by
    unfold execOp
    simp [ho, Instr.buildSlice, run_underlying hS.und, sizeOf, typeInfo, hi, Instr.fill, newRow]
    have e0 : Array.map (fun _ : Nat => (default : Value)) (Array.range 0) = #[] := by apply Array.ext'; simp
    rw [e0]
  rw [hr]
  obtain ⟨g1, g2⟩ := m_new (ok := ok) (w := w) (q := .row (.slice (some ⟨w.heap.size, 0, none⟩) 0 0) e z []) (r := .val (.v (.slice (some ⟨w.heap.size, 0, none⟩) 0 0))) (ob := .cells #[] e) (v := .slice (some ⟨w.heap.size, 0, none⟩) 0 0) rfl (fun ok' hk => ⟨[], ⟨by
    have := own_lit w #[] e z 0 w.heap.size 0 rfl (Nat.zero_le _) (by simp [maxLen]) (by simp)
    exact this, fun b hb => by cases hb; exact .inr (Nat.le_refl _)⟩, by rw [ReadsRows]⟩) (fun _ => v_mk rfl) ha.lt
  exact ⟨_, _, ⟨_, rfl, rfl⟩, g1, g2⟩
end
end E
end Go.Proofs.Ytmlajcbabimkjaa
/-
  The functions of path, and the reference's, each by what it gives.
  Conditions: the lengths are bounded as each theorem says.
-/
namespace Go.Proofs.Ytmlajcbabimkjaa
open Go.RowKit Mono
def common : List UInt8 → List UInt8 → Nat
  | x :: xs, y :: ys => if x = y then common xs ys + 1 else 0
  | _, _ => 0
theorem common_step (l m : List UInt8) (k : Nat) (h1 : k < l.length) (h2 : k < m.length) :
    common (l.drop k) (m.drop k) = if l[k] = m[k] then common (l.drop (k + 1)) (m.drop (k + 1)) + 1 else 0 := by
  rw [List.drop_eq_getElem_cons h1, List.drop_eq_getElem_cons h2, common]
theorem common_end (l m : List UInt8) (k : Nat) (h : l.length ≤ k ∨ m.length ≤ k) : common (l.drop k) (m.drop k) = 0 := by
  rcases h with h | h
  · rw [List.drop_eq_nil_of_le h]; rfl
  · rw [List.drop_eq_nil_of_le h]; cases l.drop k <;> rfl
theorem u8_beq (a b : UInt8) : ((a.toNat : Int) == (b.toNat : Int)) = decide (a = b) := by
  rw [Bool.eq_iff_iff]; simp only [beq_iff_eq, decide_eq_true_eq]; rw [Int.ofNat_inj, UInt8.toNat_inj]
def RetNat (n : Nat) (w : World) (e : Ending) (w' : World) : Prop := e = .returned (.int .i64 n) ∧ ∃ k, w' = w.drewN k
set_option maxHeartbeats 400000 in
theorem path_common (v1 v2 : Value) (l m : List UInt8) (w : World) (h1 : IsB w v1 l) (h2 : IsB w v2 m) :
    Calls Try.prog 96 #[v1, v2] w (RetNat (common l m) w) := by
  obtain ⟨A, c, rfl, hl1, hl2, hA⟩ := h1
  obtain ⟨B, d, rfl, hm1, hm2, hB⟩ := h2
  unfold maxLen at hl2 hm2
  have HA := Lib.hid hA
  have HB := Lib.hid hB
  clear hA hB
  go_enter Try.func96, Try.ntmps96
  go_wp2
  go_loopw [5] (fun n wr => ∃ k : Nat, k ≤ l.length ∧ k ≤ m.length ∧ n = .int .i64 k ∧ (∃ n, wr = w.drewN n) ∧ Hid (common l m = k + common (l.drop k) (m.drop k))) (fun n _ => l.length - (intOf n).toNat)
  case atStart => exact ⟨0, by omega, by omega, rfl, ⟨0, rfl⟩, Lib.hid (by simp)⟩
  case round =>
    obtain ⟨k, hk1, hk2, rfl, ⟨nn, rfl⟩, hC⟩ := hrel
    by_cases h1 : k < l.length
    · by_cases h2 : k < m.length
      · obtain ⟨b1, o1, rfl, _, c1⟩ := HA.out (by intro e; have := bvs_length l; rw [e] at this; simp at this; omega)
        obtain ⟨b2, o2, rfl, _, c2⟩ := HB.out (by intro e; have := bvs_length m; rw [e] at this; simp at this; omega)
        have d1 := c1 k _ (bvs_at l k h1)
        have d2 := c2 k _ (bvs_at m k h2)
        clear c1 c2
        unfold bv at d1 d2
        have hst := Lib.hid (common_step l m k h1 h2)
        go_wp2
        go_quiet (fail)
        go_wp2
        · go_roundw
          case rel =>
            have he : l[k] = m[k] := by have h := ‹((l[k].toNat : Int) == (m[k].toNat : Int)) = true›; rw [u8_beq] at h; simpa using h
            exact ⟨k + 1, by omega, by omega, by go_num, ⟨nn + nq, by simp⟩, Lib.hid (by rw [hC.out, hst.out, if_pos he]; omega)⟩
          case measure => simp [intOf]; omega
        · have he : ¬ l[k] = m[k] := by have h := ‹((l[k].toNat : Int) == (m[k].toNat : Int)) = false›; rw [u8_beq] at h; simpa using h
          go_ret
          exact ⟨by rw [hC.out, hst.out, if_neg he]; simp, nn + nq, by simp⟩
      · have hst := Lib.hid (common_end l m k (by omega))
        go_wp2
        go_quiet (fail)
        go_wp2
        go_ret
        exact ⟨by rw [hC.out, hst.out]; simp, nn + nq, by simp⟩
    · have hst := Lib.hid (common_end l m k (by omega))
      go_wp2
      go_quiet (fail)
      go_wp2
      go_ret
      exact ⟨by rw [hC.out, hst.out]; simp, nn + nq, by simp⟩
end Go.Proofs.Ytmlajcbabimkjaa
/-
  path.Split and the reference's Split: the half bytes.
  Conditions: at most 2 to the 30th bytes.
-/
namespace Go.Proofs.Ytmlajcbabimkjaa
open Go.RowKit Mono
def split (l : List UInt8) : List UInt8 := l.flatMap fun (x : UInt8) => [x >>> 4, x &&& 15]
theorem split_length (l : List UInt8) : (split l).length = 2 * l.length := by
  induction l with
  | nil => rfl
  | cons x l ih => unfold split at *; rw [List.flatMap_cons, List.length_append, ih]; simp; omega
theorem split_take (l : List UInt8) (k : Nat) (h : k < l.length) : split (l.take (k + 1)) = split (l.take k) ++ [l[k] >>> 4, l[k] &&& 15] := by
  rw [List.take_succ_eq_append_getElem h, split, List.flatMap_append]; rfl
theorem nibs (x : UInt8) : bvs [x >>> 4, x &&& 15] = [.int .u8 ((x.toNat : Int) / 16), .int .u8 ((x.toNat : Int) % 16)] := by
  have h1 : (x >>> 4).toNat = x.toNat / 16 := by rw [UInt8.toNat_shiftRight]; simp [Nat.shiftRight_eq_div_pow]
  have h2 : (x &&& 15).toNat = x.toNat % 16 := by rw [UInt8.toNat_and]; exact Nat.and_two_pow_sub_one_eq_mod _ 4
  simp [bvs, bv, h1, h2]
set_option maxHeartbeats 400000 in
theorem path_split (v1 : Value) (l : List UInt8) (w : World) (h1 : IsB w v1 l) (hlen : l.length ≤ 1073741824) :
    Calls Try.prog 92 #[v1] w (Ret (fun v w' => OwnB w' w.heap.size v (split l)) w) := by
  obtain ⟨A, c, rfl, hl1, hl2, hA⟩ := h1
  clear hl1 hl2
  have HA := Lib.hid hA
  clear hA
  go_enter Try.func92, Try.ntmps92
  go_wp2
  go_loopw [3, 8] (fun v i wr => ∃ k : Nat, k ≤ l.length ∧ i = .int .i64 k ∧ OwnB wr w.heap.size v (split (l.take k)) ∧ Below w.heap.size w wr) (fun _ i _ => l.length - (intOf i).toNat)
  case atStart => exact ⟨0, by omega, rfl, OwnB.nil w w.heap.size, Below.refl _ _⟩
  case round =>
    obtain ⟨k, hk1, rfl, hown, hb⟩ := hrel
    obtain ⟨A', c', rfl, hc1, hc2⟩ := own_form hown
    have hsl : (split (l.take k)).length ≤ 2 * k := by rw [split_length, List.length_take]; omega
    have hbs := hb.size
    have HO := Lib.hid hown
    have HB := Lib.hid hb
    clear hown hb
    by_cases h1 : k < l.length
    · obtain ⟨b1, o1, rfl, hb1, c1⟩ := HA.out (by intro e; have := bvs_length l; rw [e] at this; simp at this; omega)
      have d1 := (HB.out.cell (p := ⟨b1, o1 + k, none⟩) hb1).trans (c1 k _ (bvs_at l k h1))
      clear c1
      unfold bv at d1
      have hlx := bv_lt l[k]
      have HS := Lib.hid (split_take l k h1)
      have HN := Lib.hid (nibs l[k])
      generalize l[k].toNat = x at d1 hlx HN
      go_wp2_with (at_builtin; refine wpL_append _ _ 23 slT_bytes _ _ _ _ _ _ (wr.heap.size + 1) [.int .u8 (↑x / 16), .int .u8 (↑x % 16)] rfl rfl rfl rfl (HO.out.alloc _) (Rd.new _ _ _) rfl (by simp [Value.oneCell']) (by simp only [maxLen]; omega) (by omega) (by simp; omega) ?_; intro A2 c2 w2 hown2 hg2 _)
      go_roundw
      case rel =>
        refine ⟨k + 1, by omega, by go_num, ?_, ?_⟩
        · unfold OwnB
          rw [HS.out, bvs_append, List.length_append]
          have e := HN.out
          rw [← e] at hown2
          exact hown2
        · exact (HB.out.alloc hbs _).grown hg2 (by simp; omega) fun j hj => own_block_ge HO.out j hj
      case measure => simp [intOf]; omega
    · go_wp2
      refine bodyPost_ret (results_tmp rfl _ _ _) rfl ?_
      refine ⟨_, rfl, HB.out, ?_⟩
      have h := HO.out
      rw [List.take_of_length_le (by omega)] at h
      show OwnB _ _ (.slice A' (split (l.take k)).length c') _
      rw [List.take_of_length_le (by omega)]
      exact h
end Go.Proofs.Ytmlajcbabimkjaa
/-
  path.Join and the reference's Join: the bytes of half bytes.
  Conditions: at most 2 to the 30th of them.
-/
namespace Go.Proofs.Ytmlajcbabimkjaa
open Go.RowKit Mono
def joinL : List UInt8 → Option (List UInt8)
  | [] => some []
  | [_] => none
  | x :: y :: r => if x.toNat ≤ 15 ∧ y.toNat ≤ 15 then (joinL r).map fun t => (x <<< 4 ||| y) :: t else none
theorem joinL_odd : ∀ (p : List UInt8), p.length % 2 = 1 → joinL p = none
  | [], h => by simp at h
  | [_], _ => rfl
  | x :: y :: r, h => by
    rw [joinL, joinL_odd r (by simp at h; omega)]
    simp
theorem joinL_step (p : List UInt8) (k : Nat) (h1 : k < p.length) (h2 : k + 1 < p.length) :
    joinL (p.drop k) = if p[k].toNat ≤ 15 ∧ p[k + 1].toNat ≤ 15 then (joinL (p.drop (k + 2))).map fun t => (p[k] <<< 4 ||| p[k + 1]) :: t else none := by
  rw [List.drop_eq_getElem_cons h1, List.drop_eq_getElem_cons h2, joinL]
def JoinV (base : Nat) (p : List UInt8) : VP := fun v w => ∃ v1, v = .tuple #[v1, .bool (joinL p).isSome] ∧ OwnB w base v1 ((joinL p).getD [])
theorem orNib (x y : Nat) (hx : x ≤ 15) (hy : y ≤ 15) (a b : UInt8) (ha : a.toNat = x) (hb : b.toNat = y) : (a <<< 4 ||| b).toNat = x * 16 + y := by
  have h : ∀ x : Fin 16, ∀ y : Fin 16, ((UInt8.ofNat x.1) <<< 4 ||| (UInt8.ofNat y.1)).toNat = x.1 * 16 + y.1 := by decide +kernel
  subst ha hb
  simpa using h ⟨a.toNat, by omega⟩ ⟨b.toNat, by omega⟩
theorem orBits (x y : Nat) (hx : x ≤ 15) (hy : y ≤ 15) : bits .or .u8 ((x : Int) * 16) (y : Int) = ((x * 16 + y : Nat) : Int) := by
  have h : ∀ x : Fin 16, ∀ y : Fin 16, bits .or .u8 ((x.1 : Int) * 16) (y.1 : Int) = ((x.1 * 16 + y.1 : Nat) : Int) := by decide +kernel
  exact h ⟨x, by omega⟩ ⟨y, by omega⟩
end Go.Proofs.Ytmlajcbabimkjaa
/-
  path.fine and path.Join.
  Conditions: at most 2 to the 30th half bytes.
-/
namespace Go.Proofs.Ytmlajcbabimkjaa
open Go.RowKit Mono
theorem fine_one (x : UInt8) (w : World) : Calls Try.prog 156 #[bv x] w fun e w' => e = .returned (.bool (decide (15 < x.toNat))) ∧ w' = w := by
  unfold bv
  have hlx := bv_lt x
  generalize x.toNat = n at hlx
  go_enter Try.func156, Try.ntmps156
  go_wp2
  go_ret
  simp
  omega
def RetBool (b : Bool) (w : World) (e : Ending) (w' : World) : Prop := e = .returned (.bool b) ∧ ∃ k, w' = w.drewN k
def RetInt (b : Int) (w : World) (e : Ending) (w' : World) : Prop := e = .returned (.int .i64 b) ∧ ∃ k, w' = w.drewN k
def bigAt : List UInt8 → Nat → Int
  | [], _ => -1
  | x :: l, k => if 15 < x.toNat then k else bigAt l (k + 1)
theorem bigAt_lt (l : List UInt8) : ∀ k, (0 ≤ bigAt l k ↔ ∃ x ∈ l, 15 < x.toNat) := by
  induction l with
  | nil => intro k; simp [bigAt]
  | cons x l ih =>
    intro k
    unfold bigAt
    split
    · simp [*]
    · rw [ih]; simp [*]
theorem bigAt_step (l : List UInt8) (k : Nat) (h : k < l.length) : bigAt (l.drop k) k = if 15 < l[k].toNat then (k : Int) else bigAt (l.drop (k + 1)) (k + 1) := by
  rw [List.drop_eq_getElem_cons h, bigAt]
set_option maxHeartbeats 400000 in
theorem index_fine (v1 : Value) (l : List UInt8) (w : World) (h1 : IsB w v1 l) :
    Calls Try.prog 158 #[v1, .func (.func 156) #[] #[]] w (RetInt (bigAt l 0) w) := by
  obtain ⟨A, c, rfl, hl1, hl2, hA⟩ := h1
  unfold maxLen at hl2
  have HA := Lib.hid hA
  clear hA
  go_enter Try.func158, Try.ntmps158
  go_wp2
  go_loopw [8] (fun i wr => ∃ k : Nat, k ≤ l.length ∧ i = .int .i64 k ∧ wr = w ∧ Hid (bigAt l 0 = bigAt (l.drop k) k)) (fun i _ => l.length - (intOf i).toNat)
  case atStart => exact ⟨0, by omega, rfl, rfl, Lib.hid (by simp)⟩
  case round =>
    obtain ⟨k, hk1, rfl, rfl, hC⟩ := hrel
    by_cases h1 : k < l.length
    · obtain ⟨b1, o1, rfl, _, c1⟩ := HA.out (by intro e; have := bvs_length l; rw [e] at this; simp at this; omega)
      have d1 := c1 k _ (bvs_at l k h1)
      clear c1
      have hst := Lib.hid (bigAt_step l k h1)
      by_cases hb : 15 < l[k].toNat
      · have he : decide (15 < l[k].toNat) = true := by simpa using hb
        have hf := fine_one l[k] wr
        rw [he] at hf
        have HB := Lib.hid hb
        clear hb he
        generalize bv l[k] = u at d1 hf
        have HF := Lib.hid hf
        clear hf
        go_wp2_with (go_at_call 156; refine HF.out.mono ?_; rintro e w' ⟨rfl, rfl⟩)
        go_ret
        refine ⟨?_, 0, rfl⟩
        rw [hC.out, hst.out, if_pos HB.out]
        rfl
      · have he : decide (15 < l[k].toNat) = false := by simpa using hb
        have hf := fine_one l[k] wr
        rw [he] at hf
        have HB := Lib.hid hb
        clear hb he
        generalize bv l[k] = u at d1 hf
        have HF := Lib.hid hf
        clear hf
        go_wp2_with (go_at_call 156; refine HF.out.mono ?_; rintro e w' ⟨rfl, rfl⟩)
        go_roundw
        case rel => exact ⟨k + 1, by omega, by go_num, trivial, Lib.hid (by rw [hC.out, hst.out, if_neg HB.out])⟩
        case measure => simp [intOf]; omega
    · have hd := Lib.hid (List.drop_eq_nil_of_le (Nat.le_of_not_lt h1))
      go_wp2
      go_ret
      exact ⟨by rw [hC.out, hd.out]; rfl, 0, rfl⟩
theorem contains_fine (v1 : Value) (l : List UInt8) (w : World) (h1 : IsB w v1 l) :
    Calls Try.prog 155 #[v1, .func (.func 156) #[] #[]] w (RetBool (l.any fun x => decide (15 < x.toNat)) w) := by
  have hc := Lib.hid (index_fine v1 l w h1)
  have hb := Lib.hid (bigAt_lt l 0)
  clear h1
  generalize bigAt l 0 = n at hc hb
  go_enter Try.func155, Try.ntmps155
  go_wp2_with fail
  refine hc.out.mono ?_
  rintro e w' ⟨rfl, k, rfl⟩
  go_wp2
  go_ret
  refine ⟨?_, k, rfl⟩
  show Ending.returned (.bool (decide (0 ≤ n))) = _
  congr 2
  have := hb.out
  rw [Bool.eq_iff_iff]
  simp only [decide_eq_true_eq, List.any_eq_true]
  exact this
theorem path_fine (v1 : Value) (l : List UInt8) (w : World) (h1 : IsB w v1 l) :
    Calls Try.prog 150 #[v1] w (RetBool (!(l.any fun x => decide (15 < x.toNat))) w) := by
  have hc := Lib.hid (contains_fine v1 l w h1)
  clear h1
  generalize (l.any fun x => decide (15 < x.toNat)) = n at hc
  go_enter Try.func150, Try.ntmps150
  go_wp2_with fail
  refine hc.out.mono ?_
  rintro e w' ⟨rfl, k, rfl⟩
  go_wp2
  go_ret
  exact ⟨by simp, k, rfl⟩
end Go.Proofs.Ytmlajcbabimkjaa
