/-
  Merged (wip/tools/merge.py): EX, EV, EY, EZ, AB0, EN, ET, TE, JPlain, AB1.
  Conditions: none.
-/
import Derived.Test.YtmlajcbabimkjaaZB14
import Derived.Test.YtmlajcbabimkjaaZB13
import Derived.Test.YtmlajcbabimkjaaZB12
import Derived.Maps.RangeRun
import Derived.Test.YtmlajcbabimkjaaZB7
import Derived.Test.YtmlajcbabimkjaaZB5
import Derived.Lib.Bytealg
/-
  Pieces in another order; functions with pieces that they do not touch.
  Conditions: none.
-/
namespace Go.Proofs.Ytmlajcbabimkjaa
set_option linter.unusedVariables false
open Go.RowKit Mono Rlp
namespace E
theorem range_filterMap {α : Type} : ∀ l : List α, (List.range l.length).filterMap (fun i => l[i]?) = l
  | [] => rfl
  | x :: l => by
    rw [List.length_cons, List.range_succ_eq_map, List.filterMap_cons]
    simp only [List.getElem?_cons_zero, List.filterMap_map]
    congr 1
    exact range_filterMap l
theorem pick_perm {os : List Obj} (l : List Nat) (hn : os.length = l.length) (h : l.Perm (List.range l.length)) : os.Perm (l.filterMap fun i => os[i]?) := by
  have := h.filterMap fun i => os[i]?
  rw [← hn, range_filterMap] at this
  exact this.symm
theorem Le.pick {N : Nat} {X : Cx N} {rs : List (Tmp × R)} {os : List Obj} {fs : List (Value × D)} (l : List Nat) (os' : List Obj) (hn : os.length = l.length) (h : l.Perm (List.range l.length)) (hp : (l.filterMap fun i => os[i]?) = os') : Le X ⟨rs, os, fs⟩ ⟨rs, os', fs⟩ := hp ▸ Le.perm (pick_perm l hn h)
theorem FnM.pick {f : FuncId} {ds : List D} {os : List Obj} {Φ : R → List Obj → Prop} (hF : FnM f ds os Φ) (l : List Nat) (hn : os.length = l.length) (h : l.Perm (List.range l.length)) : FnM f ds (l.filterMap fun i => os[i]?) Φ := hF.perm (pick_perm l hn h)
theorem FnM.out {f : FuncId} {ds : List D} {os : List Obj} {Φ Ψ : R → List Obj → Prop} (hF : FnM f ds os Φ) (k : ∀ r os', Φ r os' → ∃ os2, os'.Perm os2 ∧ Ψ r os2) : FnM f ds os Ψ := ⟨fun ok w xs h1 h2 h3 => (hF.go ok w xs h1 h2 h3).mono fun e w' ⟨v, r, os', e1, e2, e3, e4⟩ => by
  obtain ⟨os2, hp, hΨ⟩ := k r os' e2
  have hok : okM ok os w os' w' = okM ok os w os2 w' := funext fun b => propext ⟨fun h => ⟨h.1, h.2.1, fun o ho => h.2.2 o (hp.mem_iff.2 ho)⟩, fun h => ⟨h.1, h.2.1, fun o ho => h.2.2 o (hp.mem_iff.1 ho)⟩⟩
  exact ⟨v, r, os2, e1, hΨ, ⟨e3.gr, e3.apart.perm hp, fun o ho => hok ▸ e3.at_ o (hp.mem_iff.2 ho)⟩, hok ▸ e4⟩⟩
theorem FnM.frame {f : FuncId} {ds : List D} {os : List Obj} {Φ : R → List Obj → Prop} (hF : FnM f ds os Φ) (rest : List Obj) : FnM f ds (os ++ rest) (fun r os' => ∃ os2, Φ r os2 ∧ os' = os2 ++ rest) := by
  constructor
  intro ok w xs hok hown hr
  have hap := List.pairwise_append.1 hown.apart
  have hown1 : Own ok os w := ⟨fun o ho => hown.at_ o (List.mem_append_left _ ho), hap.1, fun b ⟨o, ho, e⟩ => hown.off b ⟨o, List.mem_append_left _ ho, e⟩⟩
  refine (hF.go ok w xs hok hown1 hr).mono ?_
  rintro e w' ⟨v, r, os', rfl, hΦ, ht, hv⟩
  have hrest : ∀ o ∈ rest, ∀ b, o.blk = some b → b < w.heap.size := fun o ho b e => (Obj.blk_lt (hown.at_ o (List.mem_append_right _ ho)) e).2
  have hoff : ∀ b, (ok b ∨ Blks os b ∨ w.heap.size ≤ b) → ∀ o ∈ rest, o.blk ≠ some b := fun b hb o ho e => by
    rcases hb with h | ⟨o', ho', e'⟩ | h
    · exact hown.off b ⟨o, List.mem_append_right _ ho, e⟩ h
    · exact hap.2.2 o' ho' o ho b e' e
    · have := hrest o ho b e
      omega
  have hbl : ∀ b, Blks os b → Blks (os ++ rest) b := fun b ⟨o, ho, e⟩ => ⟨o, List.mem_append_left _ ho, e⟩
  have hz : ∀ b, okM ok os w os' w' b → okM ok (os ++ rest) w (os' ++ rest) w' b := fun b hb => ⟨hb.1.imp id (Or.imp (hbl b) id), hb.2.1, fun o ho => by
    rcases List.mem_append.1 ho with ho | ho
    · exact hb.2.2 o ho
    · exact hoff b hb.1 o ho⟩
  have hblk : ∀ o ∈ os', ∀ b, o.blk = some b → Blks os b ∨ w.heap.size ≤ b := fun o ho b e => (Obj.blk_lt (ht.at_ o ho) e).1
  have hnew : ∀ b, ok b → ∀ o ∈ os', o.blk ≠ some b := fun b hb o ho e => by
    rcases hblk o ho b e with h | h
    · exact hown1.off b h hb
    · have := hok b hb
      omega
  refine ⟨v, r, os' ++ rest, rfl, ⟨os', hΦ, rfl⟩, ⟨?_, List.pairwise_append.2 ⟨ht.apart, hap.2.1, fun o ho p hp b e e' => ?_⟩, fun o ho => ?_⟩, ReadR.mono hz (fun _ _ => rfl) hv⟩
  · exact (GrE.refl w).step ht.gr fun b hb => .inl (hbl b hb)
  · exact hoff b (.inr (hblk o ho b e)) p hp e'
  · rcases List.mem_append.1 ho with ho | ho
    · exact ((ht.at_ o ho).move hz (fun _ _ => rfl) fun _ _ => rfl).rebase fun b e => (hblk o ho b e).imp (hbl b) id
    · have hat := hown.at_ o (List.mem_append_right _ ho)
      refine (hat.move (z' := okM ok (os ++ rest) w (os' ++ rest) w') (fun b hb => hz b ⟨.inl hb, Nat.lt_of_lt_of_le (hok b hb) ht.gr.size, hnew b hb⟩) (fun p hp => ht.gr.cell (hok _ hp) fun hb => hown1.off _ hb hp) fun g e => ht.gr.block g (hrest o ho g e) fun hb => hoff g (.inr (.inl hb)) o ho e).rebase fun b e => .inl ⟨o, List.mem_append_right _ ho, e⟩
end E
end Go.Proofs.Ytmlajcbabimkjaa
/-
  The abstract machine at regions that draw their order: reads, new memory, new variables, and calls that leave the pieces as they tell them ('visits'), in whatever order.
  Conditions: none.
-/
namespace Go.Proofs.Ytmlajcbabimkjaa
set_option linter.unusedVariables false
open Go.RowKit Mono Rlp
namespace E
def Visit (ops : Array Oper) (S : St) (o : Oper) (r : R) : Prop := ∃ os rest, S.objs.Perm (os ++ rest) ∧ Muts ops ⟨S.regs, rest, S.facts⟩ o os (fun r' os' => r' = r ∧ os' = os)
def OkV (N : Nat) (ops : Array Oper) (S : St) (o : Oper) (i : Inf) : Prop := OkI N ops S o i ∨ ∃ r, i = .grow r ∧ guardOf ops S o = some true ∧ Visit ops S o r
def EV (N : Nat) (ops : Array Oper) (T : St → List Fr → Prop) : List Oper → St → List Fr → Prop
  | [], S, E => T S E
  | o :: l, S, E => ∃ inf : Inf, inf.noPut = true ∧ offB N o.dst E = true ∧ ((∃ T d, inf = .new T d) → o.dst ≠ none) ∧ OkV N ops S o inf ∧ EV N ops T l (S.put o.dst inf.reg) (nextE E o.dst inf)
section
variable {N : Nat} {X : Cx N} {S S' : St} {a : Act} {w w' : World} {ops : Array Oper} {o : Oper} {Q : Exit → Act → World → Prop} {l : List Oper} {T : St → List Fr → Prop} {E : List Fr}
theorem EV.nil (h : T S E) : EV N ops T [] S E := h
theorem EV.seg {l2 : List Oper} : ∀ (l1 : List Oper) (S : St) (E : List Fr), EM N ops (fun S' E' => EV N ops T l2 S' E') l1 S E → EV N ops T (l1 ++ l2) S E
  | [], S, E, h => h
  | o :: l1, S, E, ⟨inf, h0, h1, h2, h3, h4⟩ => ⟨inf, h0, h1, h2, .inl h3, EV.seg l1 _ _ h4⟩
theorem EV.cut (k : Nat) (h : EM N ops (fun S' E' => EV N ops T (l.drop k) S' E') (l.take k) S E) : EV N ops T l S E := by
  have := EV.seg _ _ _ h
  rwa [List.take_append_drop] at this
theorem Mem.perm {os os' : List Obj} {fs : List (Value × D)} (h : os.Perm os') (hm : Mem X os fs w) : Mem X os' fs w :=
  ((Le.perm (X := X) (rs := []) (fs := fs) h) ⟨Array.replicate N undef, []⟩ w ⟨hm, (fun t r hr => by cases hr), by simp, rfl⟩).mem
abbrev Nw := Nat × Nat × TypeId × D
def Nw.pc (e : Nw) : Obj := .var e.2.1 e.2.2.1 e.2.2.2
structure RV (X : Cx N) (S : St) (a : Act) (infs : List Inf) (L : Nat → Prop) (vs : Nat → Value) (u : World) (nw : List Nw) : Prop where
  nd : (nw.map (·.1)).Nodup
  ok : ∀ e ∈ nw, L e.1 ∧ infs[e.1]? = some (.new e.2.2.1 e.2.2.2) ∧ vs e.1 = .pointer (some ⟨e.2.1, 0, none⟩)
  all : ∀ j T d, L j → infs[j]? = some (.new T d) → ∃ e ∈ nw, e.1 = j
  mem : Mem X (nw.map Nw.pc ++ S.objs) S.facts u
  val : ∀ j i, L j → infs[j]? = some i → ReadR (X.ok (nw.map Nw.pc ++ S.objs) u) u i.reg (vs j)
  old : ∀ t r, look S.regs t = some r → ReadR (X.ok (nw.map Nw.pc ++ S.objs) u) u r (a.tmps.getD t undef)
theorem RV.same {infs : List Inf} {L : Nat → Prop} {vs : Nat → Value} {u u' : World} {nw : List Nw} (h : RV X S a infs L vs u nw) {k : Nat} {i : Inf} (hk : ¬ L k) (hi : infs[k]? = some i) (hn : ∀ T d, i ≠ .new T d) (v : Value) (hm : Mem X (nw.map Nw.pc ++ S.objs) S.facts u') (hok : ∀ b, X.ok (nw.map Nw.pc ++ S.objs) u b → X.ok (nw.map Nw.pc ++ S.objs) u' b) (hc : ∀ p : Addr, X.ok (nw.map Nw.pc ++ S.objs) u p.block → u'.cell? p = u.cell? p) (hv : ReadR (X.ok (nw.map Nw.pc ++ S.objs) u') u' i.reg v) : RV X S a infs (fun j => j = k ∨ L j) (fun j => if j = k then v else vs j) u' nw := by
  refine ⟨h.nd, fun e he => ?_, fun j T d hj hij => ?_, hm, fun j i' hj hij => ?_, fun t r hr => (h.old t r hr).mono hok hc⟩
  · obtain ⟨h1, h2, h3⟩ := h.ok e he
    exact ⟨.inr h1, h2, by rw [if_neg (show ¬ e.1 = k from fun e' => hk (by rw [← e']; exact h1))]; exact h3⟩
  · rcases hj with rfl | hj
    · exact absurd (Option.some.inj (hi.symm.trans hij)) (hn T d)
    · exact h.all j T d hj hij
  · by_cases e : j = k
    · subst e
      rw [if_pos rfl]
      obtain rfl : i' = i := Option.some.inj (hij.symm.trans hi)
      exact hv
    · rw [if_neg e]
      exact (h.val j i' (hj.resolve_left e) hij).mono hok hc
theorem RV.new {infs : List Inf} {L : Nat → Prop} {vs : Nat → Value} {u : World} {nw : List Nw} (h : RV X S a infs L vs u nw) {k : Nat} {Ty : TypeId} {d : D} {cs : List Value} (hk : ¬ L k) (hi : infs[k]? = some (.new Ty d)) (hcs : Reads (X.ok (nw.map Nw.pc ++ S.objs) u) u d cs) : RV X S a infs (fun j => j = k ∨ L j) (fun j => if j = k then .pointer (some ⟨u.heap.size, 0, none⟩) else vs j) (u.alloc (.cells cs.toArray Ty)) ((k, u.heap.size, Ty, d) :: nw) := by
  have hgr := gr_alloc u (.cells cs.toArray Ty)
  have hok : ∀ b, X.ok (nw.map Nw.pc ++ S.objs) u b → X.ok (((k, u.heap.size, Ty, d) :: nw : List Nw).map Nw.pc ++ S.objs) (u.alloc (.cells cs.toArray Ty)) b := fun b hb => ⟨hb.1, Nat.lt_of_lt_of_le hb.2.1 hgr.size, fun o ho e => by
    rw [List.map_cons, List.cons_append] at ho
    rcases List.mem_cons.1 ho with rfl | ho
    · cases e
      exact absurd hb.2.1 (Nat.lt_irrefl _)
    · exact hb.2.2 o ho e⟩
  have hc : ∀ p : Addr, X.ok (nw.map Nw.pc ++ S.objs) u p.block → (u.alloc (.cells cs.toArray Ty)).cell? p = u.cell? p := fun p hp => hgr.cell hp.2.1
  refine ⟨?_, fun e he => ?_, fun j T' d' hj hij => ?_, ?_, fun j i' hj hij => ?_, fun t r hr => (h.old t r hr).mono hok hc⟩
  · rw [List.map_cons]
    refine List.nodup_cons.2 ⟨fun hm => ?_, h.nd⟩
    obtain ⟨e, he, e'⟩ := List.mem_map.1 hm
    have e2 : e.1 = k := e'
    exact hk (by rw [← e2]; exact (h.ok e he).1)
  · rcases List.mem_cons.1 he with rfl | he
    · exact ⟨.inl rfl, hi, if_pos rfl⟩
    · obtain ⟨h1, h2, h3⟩ := h.ok e he
      exact ⟨.inr h1, h2, by rw [if_neg (show ¬ e.1 = k from fun e' => hk (by rw [← e']; exact h1))]; exact h3⟩
  · rcases hj with rfl | hj
    · exact ⟨_, List.mem_cons_self, rfl⟩
    · obtain ⟨e, he, e'⟩ := h.all j T' d' hj hij
      exact ⟨e, List.mem_cons_of_mem _ he, e'⟩
  · have hat : At X ⟨[], nw.map Nw.pc ++ S.objs, S.facts⟩ ⟨Array.replicate N undef, []⟩ u := ⟨h.mem, (fun t r hr => by cases hr), by simp, rfl⟩
    exact (hat.new (q := .var u.heap.size Ty d) rfl ⟨.inr h.mem.gr.size, cs, heap_alloc_new u _, Reads.mono hok hc _ _ hcs⟩).mem
  · by_cases e : j = k
    · subst e
      obtain rfl : i' = .new Ty d := Option.some.inj (hij.symm.trans hi)
      trivial
    · rw [if_neg e]
      exact (h.val j i' (hj.resolve_left e) hij).mono hok hc
end
end E
end Go.Proofs.Ytmlajcbabimkjaa
/-
  Arrays of bytes within a row or a variable, cut whole and told as strings.
  Conditions: none.
-/
namespace Go.Proofs.Ytmlajcbabimkjaa
set_option linter.unusedVariables false
open Go.RowKit Mono Rlp
namespace E
end E
end Go.Proofs.Ytmlajcbabimkjaa
/-
  A field of a struct's value.
  Conditions: none.
-/
namespace Go.Proofs.Ytmlajcbabimkjaa
set_option linter.unusedVariables false
open Go.RowKit Mono Rlp
namespace E
end E
end Go.Proofs.Ytmlajcbabimkjaa
/-
  Items' bytes, numbers and words of both sides, as the abstract machine calls them.
  Conditions: none.
-/
namespace Go.Proofs.Ytmlajcbabimkjaa
set_option linter.unusedVariables false
open Go.RowKit Mono Rlp
namespace E
theorem packV_read {ok : Nat → Prop} {w w' : World} {x : Raw} {v : Value} (h : PackV w.heap.size x v w') : ReadR (fun b => (ok b ∨ w.heap.size ≤ b) ∧ b < w'.heap.size) w' (packD (packed x)) v := by
  unfold PackV at h
  unfold packD
  cases hp : packed x with
  | none =>
    rw [hp] at h
    rw [h]
    exact tpl2 (v_mk rfl) (v_mk rfl)
  | some b =>
    rw [hp] at h
    obtain ⟨vb, rfl, ho⟩ := h
    have h1 := ownB_P ho
    exact tpl2 ((readV_one rfl).2 (by rw [Reads]; exact ⟨_, rfl, h1.mono (fun b hb => more_new b hb) fun _ _ => rfl⟩)) (v_mk rfl)
theorem f_Pack (x : Raw) : Fn 46 [dItem x] (· = packD (packed x)) := ⟨fun ok w xs hok hr => by
  obtain ⟨v, rfl, h⟩ := one_arg hr
  refine (rlp_pack v x w (isItem_of hok h)).mono ?_
  rintro e w' ⟨v', rfl, hg, hv⟩
  exact ⟨hg, _, _, rfl, rfl, packV_read hv⟩⟩
theorem f_rPack (x : Raw) : Fn 16 [dItem x] (· = packD (packed x)) := ⟨fun ok w xs hok hr => by
  obtain ⟨v, rfl, h⟩ := one_arg hr
  refine (ref_PackO v x w (isItem_of hok h)).mono ?_
  rintro e w' ⟨v', rfl, hg, hv⟩
  exact ⟨hg, _, _, rfl, rfl, packV_read hv⟩⟩
theorem f_Num (n : Int) (h1 : -9223372036854775808 ≤ n) (h2 : n ≤ 9223372036854775807) : Fn 44 [.v (.int .i64 n)] (· = .val (dItem (.mk false (be n.toNat) []))) := ⟨fun ok w xs hok hr => by
  obtain ⟨v, rfl, h⟩ := one_arg hr
  obtain rfl := (readV_v.1 h).2
  refine (rlp_Num n w h1 h2).mono ?_
  rintro e w' ⟨v', rfl, hg, hv⟩
  exact ⟨hg, _, _, rfl, rfl, readV_item.2 (ItemIn.mono hv (fun b hb => more_new b hb) fun _ _ => rfl)⟩⟩
theorem f_rNum (n : Int) (h1 : -9223372036854775808 ≤ n) (h2 : n ≤ 9223372036854775807) : Fn 47 [.v (.int .i64 n)] (· = .val (dItem (.mk false (be n.toNat) []))) := ⟨fun ok w xs hok hr => by
  obtain ⟨v, rfl, h⟩ := one_arg hr
  obtain rfl := (readV_v.1 h).2
  refine (ref_Num n w h1 h2).mono ?_
  rintro e w' ⟨v', rfl, hg, hv⟩
  exact ⟨hg, _, _, rfl, rfl, readV_item.2 (ItemIn.mono hv (fun b hb => more_new b hb) fun _ _ => rfl)⟩⟩
theorem f_Big (l : List UInt8) (hl : l.length = 32) : Fn 45 [.arr 32 l] (· = .val (dItem (.mk false (strip l) []))) := ⟨fun ok w xs hok hr => by
  obtain ⟨v, rfl, h⟩ := one_arg hr
  obtain ⟨_, rfl⟩ := arrV_of h
  refine (rlp_Big l hl w).mono ?_
  rintro e w' ⟨v', rfl, hg, hv⟩
  exact ⟨hg, _, _, rfl, rfl, readV_item.2 (ItemIn.mono hv (fun b hb => more_new b hb) fun _ _ => rfl)⟩⟩
theorem f_rBig (l : List UInt8) (hl : l.length = 32) : Fn 48 [.arr 32 l] (· = .val (dItem (.mk false (strip l) []))) := ⟨fun ok w xs hok hr => by
  obtain ⟨v, rfl, h⟩ := one_arg hr
  obtain ⟨_, rfl⟩ := arrV_of h
  refine (ref_Big l hl w).mono ?_
  rintro e w' ⟨v', rfl, hg, hv⟩
  exact ⟨hg, _, _, rfl, rfl, readV_item.2 (ItemIn.mono hv (fun b hb => more_new b hb) fun _ _ => rfl)⟩⟩
theorem f_rBytes (l : List UInt8) : Fn 14 [.bs l] (· = .val (dItem (.mk false l []))) := by
  refine Fn.walk 5 Try.func14 rfl Try.ntmps14 (by simp) fun X => ?_
  repeat
    (first
     | (apply P_move; (iterate 3 exact rfl)) | (apply P_build; (iterate 7 exact rfl)) | (apply P_alloc; exact rfl; exact rfl; exact rfl; intro _)
     | (apply P_store; exact rfl; (focus (repeat first | exact .z | apply SetAt.s | apply SetAtF.s)); (iterate 4 exact rfl)) | apply EL.nil | ((with_reducible apply EK.then_normal); apply EK.code)
     | (with_reducible first | apply EC.seq | apply EC.region | apply EC.skip | apply EC.label | apply EC.block | apply EC.exit | apply EC.ret | apply EK.in_normal | apply EK.in_same | apply EK.in_ret | apply EK.then_ret | apply EK.then_exit))
  refine EK.retc1r 0 rfl rfl rfl rfl ?_ rfl
  (repeat first | exact RefineL.refl _ _ | exact RL.nil | exact Rf.same | exact Rf.bs0 | exact Rf.sl0 | (apply Rf.fact; (focus (simp; done)); exact rfl) | apply Rf.tup | apply RL.cons)
theorem f_rList (xs : List Raw) : Fn 15 [.sl 3 (dItems xs)] (· = .val (dItem (.mk true [] xs))) := by
  refine Fn.walk 5 Try.func15 rfl Try.ntmps15 (by simp) fun X => ?_
  repeat
    (first
     | (apply P_move; (iterate 3 exact rfl)) | (apply P_build; (iterate 7 exact rfl)) | (apply P_alloc; exact rfl; exact rfl; exact rfl; intro _)
     | (apply P_store; exact rfl; (focus (repeat first | exact .z | apply SetAt.s | apply SetAtF.s)); (iterate 4 exact rfl)) | apply EL.nil | ((with_reducible apply EK.then_normal); apply EK.code)
     | (with_reducible first | apply EC.seq | apply EC.region | apply EC.skip | apply EC.label | apply EC.block | apply EC.exit | apply EC.ret | apply EK.in_normal | apply EK.in_same | apply EK.in_ret | apply EK.then_ret | apply EK.then_exit))
  refine EK.retc1r 0 rfl rfl rfl rfl ?_ rfl
  (repeat first | exact RefineL.refl _ _ | exact RL.nil | exact Rf.same | exact Rf.bs0 | exact Rf.sl0 | (apply Rf.fact; (focus (simp; done)); exact rfl) | apply Rf.tup | apply RL.cons)
end E
end Go.Proofs.Ytmlajcbabimkjaa
/-
  The abstract machine: ranges over maps; an entry of a map's literal; pieces of a chain in another order.
  Conditions: none.
-/
namespace Go.Proofs.Ytmlajcbabimkjaa
set_option linter.unusedVariables false
open Go.RowKit Mono Rlp
open Go.ChangeMaps (setBlock)
namespace E
theorem All2.left {α β : Type} {R : α → β → Prop} : ∀ {l : List α} {m : List β}, All2 R l m → ∀ a ∈ l, ∃ b ∈ m, R a b
  | _, _, .nil, a, h => by cases h
  | _, _, .cons h1 h2, a, h => by
    rcases List.mem_cons.1 h with rfl | h
    · exact ⟨_, List.mem_cons_self, h1⟩
    · obtain ⟨b, hb, hr⟩ := h2.left a h
      exact ⟨b, List.mem_cons_of_mem _ hb, hr⟩
theorem All2.right {α β : Type} {R : α → β → Prop} : ∀ {l : List α} {m : List β}, All2 R l m → ∀ b ∈ m, ∃ a ∈ l, R a b
  | _, _, .nil, a, h => by cases h
  | _, _, .cons h1 h2, a, h => by
    rcases List.mem_cons.1 h with rfl | h
    · exact ⟨_, List.mem_cons_self, h1⟩
    · obtain ⟨b, hb, hr⟩ := h2.right a h
      exact ⟨b, List.mem_cons_of_mem _ hb, hr⟩
end E
end Go.Proofs.Ytmlajcbabimkjaa
/-
  The abstract machine: regions that draw their order, whose writing operations are not all in one row: at each place all that are ready.
  Conditions: none.
-/
namespace Go.Proofs.Ytmlajcbabimkjaa
set_option linter.unusedVariables false
open Go.RowKit Mono Rlp
namespace E
def readyL (l : List Oper) (chain done : List Nat) : List Nat := chain.filter fun k => !done.contains k && match l[k]? with
  | some o => o.after.toList.all fun e => !(Region.binds .any e) || !chain.contains e.on || done.contains e.on
  | none => true
def CT (N : Nat) (l : List Oper) (os1 : List Obj) (T : St → Prop) (chain : List Nat) : Nat → List Nat → St → Prop
  | 0, _, S => T S
  | m + 1, done, S => ∀ k ∈ readyL l chain done, CH N l.toArray os1 (fun S' => CT N l os1 T chain m (k :: done) S') (pickL l [k]) S
theorem CT.pick {N : Nat} {l : List Oper} {os1 : List Obj} {T : St → Prop} {chain : List Nat} {m : Nat} {done : List Nat} {S : St} (ks : List Nat) (hk : readyL l chain done = ks) (h : ∀ k ∈ ks, CH N l.toArray os1 (fun S' => CT N l os1 T chain m (k :: done) S') (pickL l [k]) S) : CT N l os1 T chain (m + 1) done S := by
  unfold CT
  rw [hk]
  exact h
theorem CT.nil {N : Nat} {l : List Oper} {os1 : List Obj} {T : St → Prop} {chain : List Nat} {done : List Nat} {S : St} (h : T S) : CT N l os1 T chain 0 done S := h
end E
end Go.Proofs.Ytmlajcbabimkjaa
/-
  The abstract machine, more: slices of bytes and of arrays that are known, an array's part, interfaces beside nil, what writes no piece.
  Conditions: none.
-/
namespace Go.Proofs.Ytmlajcbabimkjaa
set_option linter.unusedVariables false
open Go.RowKit Mono Rlp
namespace E
section
variable {N : Nat} {X : Cx N} {S : St} {ops : Array Oper} {o : Oper} {Q : Exit → Act → World → Prop} {l : List Oper} {TT : St → List Fr → Prop} {EE : List Fr} {rs : List (Tmp × R)} {os : List Obj} {fs : List (Value × D)}
theorem g_slpd {x : Operand} {T n m : Nat} {b : List UInt8} (hA : SliceA T n) (hn : Nat.ble n 4096 = true) (ho : o.op = .slice T x none none none) (hx : ev S x = some (.val (.pd (.arr m b)))) (hm : m = n) (h0 : Nat.blt 0 n = true) : Still ops S o (.val (.bs b)) := fun base ok a w ha => by
  subst hm
  have h1 := (readV_one rfl).1 (ha.ev hx fun t e => looks_of e (by rw [ho]; simp [Op.operands]))
  rw [Reads] at h1
  obtain ⟨g, k, cs, e, hg, hr, h2⟩ := h1
  rw [Reads] at h2
  obtain ⟨hl, rfl⟩ := h2
  have e' : a.eval x = .pointer (some ⟨g, k, none⟩) := List.singleton_inj.1 e
  simp only [Nat.ble_eq] at hn
  refine ⟨.slice (some ⟨g, k, none⟩) m m, ?_, (readV_one rfl).2 ?_⟩
  · unfold execOp
    simp only [ho, e', Option.map_none, Sem.run_bind, hA.ok w g k, Result.andThen_ok, Sem.run_pure]
  · rw [Reads]
    refine ⟨_, rfl, some ⟨g, k, none⟩, m, by rw [hl], by omega, by simp [maxLen]; omega, fun _ => ⟨g, k, rfl, hg, fun j u hu => hr j u hu⟩⟩
theorem H_slpd {t ty : Nat} {pos : String} {af : Array Edge} {gd : Option (Nat × Bool)} {x : Operand} {T n m : Nat} {b : List UInt8} (hA : SliceA T n) (hn : Nat.ble n 4096 = true) (hx : ev (⟨rs, os, fs⟩ : St) x = some (.val (.pd (.arr m b)))) (hm : m = n) (h0 : Nat.blt 0 n = true) (hg : guardOf ops ⟨rs, os, fs⟩ ⟨some t, .slice T x none none none, ty, pos, af, gd⟩ = some true) (hoff : offB N (some t) EE = true) (kk : EM N ops TT l ⟨(t, .val (.bs b)) :: rs, os, fs⟩ EE) : EM N ops TT (⟨some t, .slice T x none none none, ty, pos, af, gd⟩ :: l) ⟨rs, os, fs⟩ EE := EH.still (g_slpd hA hn rfl hx hm h0) hg rfl hoff kk
theorem Still.refine {d d' : D} (h : Still ops S o (.val d)) (hR : RefineL S.facts [d] [d']) : Still ops S o (.val d') := fun base ok a w ha => by
  obtain ⟨v, h1, h2⟩ := h base ok a w ha
  exact ⟨v, h1, Refine1.readV ha.facts hR h2⟩
theorem H_buildR {t ty : Nat} {pos : String} {af : Array Edge} {gd : Option (Nat × Bool)} {T : Nat} {parts : Array (Nat × Operand)} {lf : List (Nat × Nat × Bool)} {d0 d d' : D} {ps : List (Nat × D)} (hx : evps (⟨rs, os, fs⟩ : St) parts.toList = some ps) (hT : assoc stL T = some lf) (hz : assoc zeroL T = some d0) (hd0 : d0.agg = true) (hf : fillD (lf.map fun x => (x.1, x.2.1)) d0 ps = some d) (hR : RefineL fs [d] [d']) (hg : guardOf ops ⟨rs, os, fs⟩ ⟨some t, .build T parts, ty, pos, af, gd⟩ = some true) (hoff : offB N (some t) EE = true) (kk : EM N ops TT l ⟨(t, (.val d')) :: rs, os, fs⟩ EE) : EM N ops TT (⟨some t, .build T parts, ty, pos, af, gd⟩ :: l) ⟨rs, os, fs⟩ EE := EH.still (Still.refine (g_buildI rfl hx hT hz hd0 hf) hR) hg rfl hoff kk
end
end E
end Go.Proofs.Ytmlajcbabimkjaa
/-
  Changes as items (plain): what a diff is packed as, which items are diffs.
  Conditions: none. No program is named here.
-/
namespace Go.Proofs.Ytmlajcbabimkjaa
set_option linter.unusedVariables false
open Rlp
namespace Jn
structure Sl where
  key : List UInt8
  val : List UInt8
structure Ch where
  addr : List UInt8
  gone : Bool
  nonce : Int
  bal : List UInt8
  code : List UInt8
  slots : List Sl
structure Df where
  id : List UInt8
  par : List UInt8
  chs : List Ch
def Sl.ok (s : Sl) : Prop := s.key.length = 32 ∧ s.val.length = 32
def Ch.ok (c : Ch) : Prop := c.addr.length = 20 ∧ c.bal.length = 32 ∧ -9223372036854775808 ≤ c.nonce ∧ c.nonce ≤ 9223372036854775807 ∧ ∀ s ∈ c.slots, s.ok
def Df.ok (d : Df) : Prop := d.id.length = 32 ∧ d.par.length = 32 ∧ ∀ c ∈ d.chs, c.ok
def bytesI (l : List UInt8) : Raw := .mk false l []
def listI (xs : List Raw) : Raw := .mk true [] xs
def numI (n : Nat) : Raw := bytesI (be n)
def wordI (l : List UInt8) : Raw := bytesI (strip l)
def slotI (s : Sl) : Raw := listI [wordI s.key, wordI s.val]
def chI (c : Ch) : Raw := listI [bytesI c.addr, numI (if c.gone then 1 else 0), numI c.nonce.toNat, wordI c.bal, bytesI c.code, listI (c.slots.map slotI)]
def dfI (d : Df) : Raw := listI [bytesI d.id, bytesI d.par, listI (d.chs.map chI)]
abbrev cmp (l m : List UInt8) : Int := Lib.compareBytes l m
def risesS : List Sl → Bool
  | [] => true
  | [_] => true
  | a :: b :: l => decide (cmp a.key b.key < 0) && risesS (b :: l)
def mayC (c : Ch) : Bool := decide (0 ≤ c.nonce) && risesS c.slots
def risesC : List Ch → Bool
  | [] => true
  | [_] => true
  | a :: b :: l => decide (cmp a.addr b.addr < 0) && risesC (b :: l)
def may (l : List Ch) : Bool := l.all mayC && risesC l
def packD (d : Df) : Except Nat (List UInt8) := if may d.chs then (match packed (dfI d) with | some b => .ok b | none => .error 3) else .error 1
/-! ### Back -/
def isB : Raw → Option (List UInt8)
  | .mk false bs _ => some bs
  | .mk true _ _ => none
def isL : Raw → Option (List Raw)
  | .mk true _ xs => some xs
  | .mk false _ _ => none
def slotR (x : Raw) : Option Sl :=
  match isL x with
  | some [a, b] => match wordR a, wordR b with
    | some k, some v => some ⟨k, v⟩
    | _, _ => none
  | _ => none
def allR {α : Type} (f : Raw → Option α) : List Raw → Option (List α)
  | [] => some []
  | x :: xs => match f x with
    | none => none
    | some y => match allR f xs with
      | none => none
      | some ys => some (y :: ys)
def chR (x : Raw) : Option Ch :=
  match isL x with
  | some [a, g, n, w, c, s] =>
    match isB a, intR g, intR n, wordR w, isB c, isL s with
    | some a, some g, some n, some w, some c, some s => if a.length = 20 ∧ g ≤ 1 then (match allR slotR s with | some ss => some ⟨a, g == 1, n, w, c, ss⟩ | none => none) else none
    | _, _, _, _, _, _ => none
  | _ => none
def dfR (x : Raw) : Option Df :=
  match isL x with
  | some [i, p, l] =>
    match isB i, isB p, isL l with
    | some i, some p, some l => if i.length = 32 ∧ p.length = 32 then (match allR chR l with | some cs => some ⟨i, p, cs⟩ | none => none) else none
    | _, _, _ => none
  | _ => none
def readD (b : List UInt8) : Except Nat Df :=
  match readR b with
  | .error e => .error e
  | .ok x => match dfR x with
    | none => .error 4
    | some d => if may d.chs then .ok d else .error 4
/-! ### An item that is a diff's has the diff's bytes -/
theorem E_list (bs : List UInt8) (xs : List Raw) : E (.mk true bs xs) = head (EL xs).length 192 ++ EL xs := by rw [E]
/-! ### What is small is packed -/
mutual
theorem packR_ok : ∀ x : Raw, (E x).length ≤ most → packR x = some (E x)
  | .mk false bs xs, h => by
    rw [E] at h ⊢
    rw [packR]
    have h2 : bs.length ≤ (EB bs).length := by unfold EB; split <;> simp
    rw [if_neg (by omega)]
  | .mk true bs xs, h => by
    rw [E_list] at h ⊢
    rw [List.length_append] at h
    rw [packR, packRL_ok xs [] (by simp; omega)]
    rfl
theorem packRL_ok : ∀ (xs : List Raw) (acc : List UInt8), acc.length + (EL xs).length ≤ most → packRL xs acc = some (acc ++ EL xs)
  | [], acc, h => by rw [packRL, EL, List.append_nil]
  | x :: xs, acc, h => by
    rw [EL, List.length_append] at h
    rw [packRL, packR_ok x (by omega), EL]
    dsimp only
    rw [if_neg (by omega), packRL_ok xs (acc ++ E x) (by rw [List.length_append]; omega), List.append_assoc]
end
theorem deep_list (xs : List Raw) (bs : List UInt8) (m k : Nat) (h : ∀ x ∈ xs, deepR x m ≤ k) : deepR (.mk true bs xs) (m + 1) ≤ k + 1 := by
  rw [deepR]
  have := (maxD_le xs m 0 k).2 ⟨Nat.zero_le _, h⟩
  omega
/-! ### A diff's item is the diff's -/
theorem wordR_I {l : List UInt8} (h : l.length = 32) (hp : ∀ l : List UInt8, l.length = 32 → pad (strip l) = l) : wordR (wordI l) = some l := by
  have hl := strip_length l
  unfold wordR wordI bytesI
  rw [numB, if_neg (strip_head l), Option.bind_some, if_pos (by omega), hp l h]
theorem intR_I {n : Nat} (h : n ≤ 9223372036854775807) : intR (numI n) = some n := by
  have hl := be_length 8 n (by omega)
  unfold intR numI bytesI
  rw [numB, if_neg, Option.bind_some, val_be, if_pos ⟨hl, h⟩]
  rcases Nat.eq_zero_or_pos n with h0 | h0
  · subst h0; rw [be_zero]; simp
  · obtain ⟨b, l, e, hb⟩ := be_head n h0
    rw [e]
    simpa using hb
end Jn
end Go.Proofs.Ytmlajcbabimkjaa
/-
  Bodies: acct.Pack and the reference's PackBody.
  Conditions: none.
-/
namespace Go.Proofs.Ytmlajcbabimkjaa
set_option linter.unusedVariables false
open Go.RowKit Mono Rlp
namespace E
def dBd (n : Int) (w r c : List UInt8) : D := .tup [.v (.int .i64 n), .arr 32 w, .arr 32 r, .arr 32 c]
def bodyI (n : Int) (w r c : List UInt8) : Raw := .mk true [] [.mk false (be n.toNat) [], .mk false (strip w) [], .mk false r [], .mk false c []]
theorem packed_ok {x : Raw} (hd : deepR x 32 ≤ 32) (h : (E x).length ≤ most) : packed x = some (Rlp.E x) := by
  rw [packed_ref, if_neg (by omega), Jn.packR_ok _ h]
  dsimp only
  rw [if_neg (by omega)]
theorem EB_short (l : List UInt8) (h : l.length ≤ 32) : (EB l).length ≤ 33 := by
  rw [EB_length]
  unfold szE szB
  split
  · omega
  · rw [if_pos (by omega)]
    omega
theorem body_len (n : Int) (hn : n ≤ 9223372036854775807) (w r c : List UInt8) (hw : w.length = 32) (hr : r.length = 32) (hc : c.length = 32) : (Rlp.E (bodyI n w r c)).length ≤ 200 := by
  have h1 := EB_short (be n.toNat) (by have := be_length 8 n.toNat (by omega); omega)
  have h2 := EB_short (strip w) (by have := strip_length w; omega)
  have h3 := EB_short r (by omega)
  have h4 := EB_short c (by omega)
  have he : (Rlp.EL [.mk false (be n.toNat) [], .mk false (strip w) [], .mk false r [], .mk false c []]).length ≤ 132 := by
    simp only [Rlp.EL, Rlp.E, List.length_append, List.length_nil]
    omega
  unfold bodyI
  rw [Rlp.E, List.length_append, head_length]
  unfold szB
  split
  · omega
  · have := be_length 8 (Rlp.EL [.mk false (be n.toNat) [], .mk false (strip w) [], .mk false r [], .mk false c []]).length (by omega)
    omega
theorem packed_body (n : Int) (hn : n ≤ 9223372036854775807) (w r c : List UInt8) (hw : w.length = 32) (hr : r.length = 32) (hc : c.length = 32) : packed (bodyI n w r c) = some (Rlp.E (bodyI n w r c)) := by
  refine packed_ok ?_ (by have := body_len n hn w r c hw hr hc; simp only [most]; omega)
  unfold bodyI
  have := Jn.deep_list [.mk false (be n.toNat) [], .mk false (strip w) [], .mk false r [], .mk false c []] [] 31 0 (fun x hx => by
    simp at hx
    rcases hx with rfl | rfl | rfl | rfl <;> (rw [deepR]; omega))
  rw [show (32 : Nat) = 31 + 1 from rfl]
  exact Nat.le_trans this (by decide)
def bodyR (n : Int) (w r c : List UInt8) : R := if n < 0 then .tpl [.bs [], .v (.int .i64 1)] else .tpl [.bs (Rlp.E (bodyI n w r c)), .v (.int .i64 0)]
set_option maxRecDepth 20000 in
set_option maxHeartbeats 4000000 in
theorem f_acctPack (n : Int) (w r c : List UInt8) (hn0 : -9223372036854775808 ≤ n) (hn : n ≤ 9223372036854775807) (hw : w.length = 32) (hr : r.length = 32) (hc : c.length = 32) : Fn 26 [dBd n w r c] (· = bodyR n w r c) := by
  have h1 := f_Num n hn0 hn
  have h2 := f_Big w hw
  have h3 := f_Pack (bodyI n w r c)
  rw [packed_body n hn w r c hw hr hc] at h3
  unfold bodyR
  refine Fn.walk 26 Try.func26 rfl Try.ntmps26 (by simp) fun X => ?_
  by_cases hneg : n < 0
  · skip
    rw [if_pos hneg]
    repeat
      (first
       | (apply P_box; exact rfl; exact rfl; exact rfl; intro g; refine EL.le (Le.pin (p := 1) (pre := []) rfl rfl) ?_; simp only [List.nil_append]) | (apply P_assign; (iterate 3 exact rfl))
       | (apply P_fieldpd; (iterate 7 exact rfl)) | (apply P_loadpd; (iterate 5 exact rfl))
       | (apply P_cmp (b := true); (iterate 2 exact rfl); (focus (first | (simp [cmpI]; done) | (simp [cmpI]; omega))); (iterate 2 exact rfl)) | apply EL.nil
       | ((with_reducible apply EK.then_normal); apply EK.code) | (apply EC.cond_true; exact rfl)
       | (with_reducible first | apply EC.seq | apply EC.region | apply EC.skip | apply EC.label | apply EC.block | apply EC.exit | apply EC.ret | apply EK.in_normal | apply EK.in_same | apply EK.in_ret | apply EK.then_ret | apply EK.then_exit))
    refine EK.ret2r rfl rfl rfl ?_ rfl
    (repeat first | exact RefineL.refl _ _ | exact RL.nil | exact Rf.same | exact Rf.bs0 | exact Rf.sl0 | (apply Rf.fact; (focus (simp; done)); exact rfl) | apply Rf.tup | apply RL.cons)
  · skip
    rw [if_neg hneg]
    repeat
      (first
       | (apply P_box; exact rfl; exact rfl; exact rfl; intro g; refine EL.le (Le.pin (p := 1) (pre := []) rfl rfl) ?_; simp only [List.nil_append]) | (apply P_assign; (iterate 3 exact rfl))
       | (apply P_fieldpd; (iterate 7 exact rfl)) | (apply P_loadpd; (iterate 5 exact rfl))
       | (apply P_cmp (b := false); (iterate 2 exact rfl); (focus (first | (simp [cmpI]; done) | (simp [cmpI]; omega))); (iterate 2 exact rfl)) | apply EL.nil
       | ((with_reducible apply EK.then_normal); apply EK.code) | (apply EC.cond_false; exact rfl)
       | (with_reducible first | apply EC.seq | apply EC.region | apply EC.skip | apply EC.label | apply EC.block | apply EC.exit | apply EC.ret | apply EK.in_normal | apply EK.in_same | apply EK.in_ret | apply EK.then_ret | apply EK.then_exit))
    refine EC.draw 13 (by kernel_rfl) ?_
    simp only [List.take_succ_cons, List.take_zero, List.drop_succ_cons, List.drop_zero]
    repeat
      (first
       | (apply H_call (h1); exact rfl; (focus (repeat first | exact RefineL.refl _ _ | exact RL.nil | exact Rf.same | exact Rf.bs0 | exact Rf.sl0 | (apply Rf.fact; (focus (simp; done)); exact rfl) | apply Rf.tup | apply RL.cons)); (focus (intro _ _; simp [go_sem]; done)); (iterate 2 exact rfl))
       | (apply H_call (h2); exact rfl; (focus (repeat first | exact RefineL.refl _ _ | exact RL.nil | exact Rf.same | exact Rf.bs0 | exact Rf.sl0 | (apply Rf.fact; (focus (simp; done)); exact rfl) | apply Rf.tup | apply RL.cons)); (focus (intro _ _; simp [go_sem]; done)); (iterate 2 exact rfl))
       | (apply H_slpd sl_word; (iterate 6 exact rfl))
       | (apply H_buildR (d' := dItem (.mk false r [])); (iterate 5 exact rfl); (focus ((repeat first | exact RefineL.refl _ _ | exact RL.nil | exact Rf.same | exact Rf.bs0 | exact Rf.sl0 | (apply Rf.fact; (focus (simp; done)); exact rfl) | apply Rf.tup | apply RL.cons))); (iterate 2 exact rfl))
       | (apply H_buildR (d' := dItem (.mk false c [])); (iterate 5 exact rfl); (focus ((repeat first | exact RefineL.refl _ _ | exact RL.nil | exact Rf.same | exact Rf.bs0 | exact Rf.sl0 | (apply Rf.fact; (focus (simp; done)); exact rfl) | apply Rf.tup | apply RL.cons))); (iterate 2 exact rfl))
       | (apply H_fieldpd; (iterate 7 exact rfl)) | (apply H_loadpd; (iterate 5 exact rfl)) | (apply H_lit; (iterate 9 exact rfl)) | ((with_reducible apply EH.nil); exact rfl))
    repeat
      (first
       | (apply P_call (h3); exact rfl; (focus (repeat first | exact RefineL.refl _ _ | exact RL.nil | exact Rf.same | exact Rf.bs0 | exact Rf.sl0 | (apply Rf.fact; (focus (simp; done)); exact rfl) | apply Rf.tup | apply RL.cons)); (focus (intro _ _; simp [go_sem]; done)); (iterate 2 exact rfl))
       | (apply P_move; (iterate 3 exact rfl)) | (apply P_assign; (iterate 3 exact rfl)) | (apply P_extract; (iterate 4 exact rfl)) | (apply P_build; (iterate 7 exact rfl)) | apply EL.nil
       | ((with_reducible apply EK.then_normal); apply EK.code)
       | (with_reducible first | apply EC.seq | apply EC.region | apply EC.skip | apply EC.label | apply EC.block | apply EC.exit | apply EC.ret | apply EK.in_normal | apply EK.in_same | apply EK.in_ret | apply EK.then_ret | apply EK.then_exit))
    exact EK.ret2 rfl rfl rfl rfl
set_option maxRecDepth 20000 in
set_option maxHeartbeats 4000000 in
theorem f_rPackBody (n : Int) (w r c : List UInt8) (hn0 : -9223372036854775808 ≤ n) (hn : n ≤ 9223372036854775807) (hw : w.length = 32) (hr : r.length = 32) (hc : c.length = 32) : Fn 27 [dBd n w r c] (· = bodyR n w r c) := by
  have h1 := f_rNum n hn0 hn
  have h2 := f_rBig w hw
  have h3 := f_rPack (bodyI n w r c)
  have h4 := f_rBytes r
  have h5 := f_rBytes c
  have h6 := f_rList [.mk false (be n.toNat) [], .mk false (strip w) [], .mk false r [], .mk false c []]
  rw [packed_body n hn w r c hw hr hc] at h3
  unfold bodyR
  refine Fn.walk 28 Try.func27 rfl Try.ntmps27 (by simp) fun X => ?_
  by_cases hneg : n < 0
  · skip
    rw [if_pos hneg]
    repeat
      (first
       | (apply P_box; exact rfl; exact rfl; exact rfl; intro g; refine EL.le (Le.pin (p := 1) (pre := []) rfl rfl) ?_; simp only [List.nil_append]) | (apply P_assign; (iterate 3 exact rfl))
       | (apply P_fieldpd; (iterate 7 exact rfl)) | (apply P_loadpd; (iterate 5 exact rfl))
       | (apply P_cmp (b := true); (iterate 2 exact rfl); (focus (first | (simp [cmpI]; done) | (simp [cmpI]; omega))); (iterate 2 exact rfl)) | apply EL.nil
       | ((with_reducible apply EK.then_normal); apply EK.code) | (apply EC.cond_true; exact rfl)
       | (with_reducible first | apply EC.seq | apply EC.region | apply EC.skip | apply EC.label | apply EC.block | apply EC.exit | apply EC.ret | apply EK.in_normal | apply EK.in_same | apply EK.in_ret | apply EK.then_ret | apply EK.then_exit))
    refine EK.ret2r rfl rfl rfl ?_ rfl
    (repeat first | exact RefineL.refl _ _ | exact RL.nil | exact Rf.same | exact Rf.bs0 | exact Rf.sl0 | (apply Rf.fact; (focus (simp; done)); exact rfl) | apply Rf.tup | apply RL.cons)
  · skip
    rw [if_neg hneg]
    repeat
      (first
       | (apply P_box; exact rfl; exact rfl; exact rfl; intro g; refine EL.le (Le.pin (p := 1) (pre := []) rfl rfl) ?_; simp only [List.nil_append]) | (apply P_assign; (iterate 3 exact rfl))
       | (apply P_fieldpd; (iterate 7 exact rfl)) | (apply P_loadpd; (iterate 5 exact rfl))
       | (apply P_cmp (b := false); (iterate 2 exact rfl); (focus (first | (simp [cmpI]; done) | (simp [cmpI]; omega))); (iterate 2 exact rfl)) | apply EL.nil
       | ((with_reducible apply EK.then_normal); apply EK.code) | (apply EC.cond_false; exact rfl)
       | (with_reducible first | apply EC.seq | apply EC.region | apply EC.skip | apply EC.label | apply EC.block | apply EC.exit | apply EC.ret | apply EK.in_normal | apply EK.in_same | apply EK.in_ret | apply EK.then_ret | apply EK.then_exit))
    refine EC.draw 19 (by kernel_rfl) ?_
    simp only [List.take_succ_cons, List.take_zero, List.drop_succ_cons, List.drop_zero]
    repeat
      (first
       | (apply H_call (h1); exact rfl; (focus (repeat first | exact RefineL.refl _ _ | exact RL.nil | exact Rf.same | exact Rf.bs0 | exact Rf.sl0 | (apply Rf.fact; (focus (simp; done)); exact rfl) | apply Rf.tup | apply RL.cons)); (focus (intro _ _; simp [go_sem]; done)); (iterate 2 exact rfl))
       | (apply H_call (h2); exact rfl; (focus (repeat first | exact RefineL.refl _ _ | exact RL.nil | exact Rf.same | exact Rf.bs0 | exact Rf.sl0 | (apply Rf.fact; (focus (simp; done)); exact rfl) | apply Rf.tup | apply RL.cons)); (focus (intro _ _; simp [go_sem]; done)); (iterate 2 exact rfl))
       | (apply H_call (h4); exact rfl; (focus (repeat first | exact RefineL.refl _ _ | exact RL.nil | exact Rf.same | exact Rf.bs0 | exact Rf.sl0 | (apply Rf.fact; (focus (simp; done)); exact rfl) | apply Rf.tup | apply RL.cons)); (focus (intro _ _; simp [go_sem]; done)); (iterate 2 exact rfl))
       | (apply H_call (h5); exact rfl; (focus (repeat first | exact RefineL.refl _ _ | exact RL.nil | exact Rf.same | exact Rf.bs0 | exact Rf.sl0 | (apply Rf.fact; (focus (simp; done)); exact rfl) | apply Rf.tup | apply RL.cons)); (focus (intro _ _; simp [go_sem]; done)); (iterate 2 exact rfl))
       | (apply H_call (h6); exact rfl; (focus (repeat first | exact RefineL.refl _ _ | exact RL.nil | exact Rf.same | exact Rf.bs0 | exact Rf.sl0 | (apply Rf.fact; (focus (simp; done)); exact rfl) | apply Rf.tup | apply RL.cons)); (focus (intro _ _; simp [go_sem]; done)); (iterate 2 exact rfl))
       | (apply H_call (h3); exact rfl; (focus (repeat first | exact RefineL.refl _ _ | exact RL.nil | exact Rf.same | exact Rf.bs0 | exact Rf.sl0 | (apply Rf.fact; (focus (simp; done)); exact rfl) | apply Rf.tup | apply RL.cons)); (focus (intro _ _; simp [go_sem]; done)); (iterate 2 exact rfl))
       | (apply H_slpd sl_word; (iterate 6 exact rfl)) | (apply H_move; (iterate 3 exact rfl)) | (apply H_assign; (iterate 3 exact rfl)) | (apply H_fieldpd; (iterate 7 exact rfl))
       | (apply H_extract; (iterate 4 exact rfl)) | (apply H_loadpd; (iterate 5 exact rfl)) | (apply H_lit; (iterate 9 exact rfl)) | ((with_reducible apply EH.nil); exact rfl))
    repeat
      (first
       | (apply P_move; (iterate 3 exact rfl)) | (apply P_assign; (iterate 3 exact rfl)) | apply EL.nil | ((with_reducible apply EK.then_normal); apply EK.code)
       | (with_reducible first | apply EC.seq | apply EC.region | apply EC.skip | apply EC.label | apply EC.block | apply EC.exit | apply EC.ret | apply EK.in_normal | apply EK.in_same | apply EK.in_ret | apply EK.then_ret | apply EK.then_exit))
    exact EK.ret2 rfl rfl rfl rfl
end E
end Go.Proofs.Ytmlajcbabimkjaa
