/-
  Merged (wip/tools/merge.py): EV, ST5, ST4.
  Conditions: none.
-/
import Derived.Test.YtdhicdnmgmkpkaaZM12
import Derived.Test.YtdhicdnmgmkpkaaZM14
import Derived.Test.YtdhicdnmgmkpkaaZM13
/-
  The abstract machine at regions that draw their order: reads, new memory, new variables, and calls that leave the pieces as they tell them ('visits'), in whatever order.
  Conditions: none.
-/
namespace Go.Proofs.Ytdhicdnmgmkpkaa
set_option linter.unusedVariables false
open Go.RowKit Mono Rlp
namespace E
def Visit (ops : Array Oper) (S : St) (o : Oper) (r : R) : Prop := ∃ os rest, S.objs.Perm (os ++ rest) ∧ Muts ops ⟨S.regs, rest, S.facts⟩ o os (fun r' os' => r' = r ∧ os' = os)
def OkV (N : Nat) (ops : Array Oper) (S : St) (o : Oper) (i : Inf) : Prop := OkI N ops S o i ∨ ∃ r, i = .grow r ∧ guardOf ops S o = some true ∧ Visit ops S o r
def EV (N : Nat) (ops : Array Oper) (T : St → List Fr → Prop) : List Oper → St → List Fr → Prop
  | [], S, E => T S E
  | o :: l, S, E => ∃ inf : Inf, inf.noPut = true ∧ offB N o.dst E = true ∧ ((∃ T d, inf = .new T d) → o.dst ≠ none) ∧ OkV N ops S o inf ∧ EV N ops T l (S.put o.dst inf.reg) (nextE E o.dst inf)
section
variable {N : Nat} {X : Cx N} {S S' : St} {a : Act} {w w' : World} {ops : Array Oper} {o : Oper} {Q : Exit → Act → World → Prop} {l : List Oper} {T : St → List Fr → Prop} {E : List Fr}
theorem EV.nil (h : T S E) : EV N ops T [] S E := h
theorem EV.seg {l2 : List Oper} : ∀ (l1 : List Oper) (S : St) (E : List Fr), EM N ops (fun S' E' => EV N ops T l2 S' E') l1 S E → EV N ops T (l1 ++ l2) S E
  | [], S, E, h => h
  | o :: l1, S, E, ⟨inf, h0, h1, h2, h3, h4⟩ => ⟨inf, h0, h1, h2, .inl h3, EV.seg l1 _ _ h4⟩
theorem EV.cut (k : Nat) (h : EM N ops (fun S' E' => EV N ops T (l.drop k) S' E') (l.take k) S E) : EV N ops T l S E := by
  have := EV.seg _ _ _ h
  rwa [List.take_append_drop] at this
theorem EV.visit {r : R} (os rest : List Obj) (hg : guardOf ops S o = some true) (hd : offB N o.dst E = true) (hp : S.objs.Perm (os ++ rest)) (hO : Muts ops ⟨S.regs, rest, S.facts⟩ o os (fun r' os' => r' = r ∧ os' = os)) (k : EV N ops T l (S.put o.dst r) E) : EV N ops T (o :: l) S E :=
  ⟨.grow r, rfl, hd, (fun ⟨_, _, e⟩ => by cases e), .inr ⟨r, rfl, hg, os, rest, hp, hO⟩, k⟩
theorem ev_list : ∀ (l : List Oper) (S : St) (E : List Fr), EV N ops T l S E → ∃ infs : List Inf, infs.length = l.length ∧
    (∀ k o i, l[k]? = some o → infs[k]? = some i → OkV N ops (stAt S l infs k) o i ∧ (∀ t, o.dst = some t → t < N ∧ (∀ x ∈ E, x.1 ≠ t) ∧ ∀ j oj T d, j < k → l[j]? = some oj → infs[j]? = some (.new T d) → oj.dst ≠ some t) ∧ ((∃ T d, i = .new T d) → o.dst ≠ none)) ∧
    T (stAt S l infs l.length) (frAt E l infs) ∧ ∀ (k : Nat) (i : Inf), infs[k]? = some i → i.noPut = true
  | [], S, E, h => ⟨[], rfl, (fun k o i h => by simp at h), h, fun k i h => by simp at h⟩
  | o :: l, S, E, h => by
    obtain ⟨inf, h0, h1, h1', h2, h3⟩ := h
    obtain ⟨infs, h4, h5, h6, h7⟩ := ev_list l _ _ h3
    have hoff : ∀ t, o.dst = some t → t < N ∧ ∀ x ∈ E, x.1 ≠ t := fun t ht => by
      rw [ht] at h1
      simp only [offB, Bool.and_eq_true, decide_eq_true_eq] at h1
      exact ⟨h1.1, fun x hx => by simpa using List.all_eq_true.1 h1.2 x hx⟩
    refine ⟨inf :: infs, by simp [h4], fun k o' i hk hi => ?_, h6, fun k i hi => by
      cases k with
      | zero =>
        cases hi
        exact h0
      | succ k => exact h7 k i (by simpa using hi)⟩
    cases k with
    | zero =>
      cases hk
      cases hi
      exact ⟨h2, fun t ht => ⟨(hoff t ht).1, (hoff t ht).2, fun j _ _ _ hj => by omega⟩, h1'⟩
    | succ k =>
      obtain ⟨g1, g2, g3⟩ := h5 k o' i (by simpa using hk) (by simpa using hi)
      refine ⟨g1, fun t ht => ⟨(g2 t ht).1, fun x hx => (g2 t ht).2.1 x ?_, fun j oj T d hj hoj hij => ?_⟩, g3⟩
      · unfold nextE
        split
        · split
          · exact List.mem_append_left _ hx
          · exact hx
        · exact hx
      · cases j with
        | zero =>
          cases hoj
          cases hij
          intro e
          exact (g2 t ht).2.1 (t, T, d) (by unfold nextE; rw [e]; simp) rfl
        | succ j => exact (g2 t ht).2.2 j oj T d (by omega) (by simpa using hoj) (by simpa using hij)
theorem Mem.perm {os os' : List Obj} {fs : List (Value × D)} (h : os.Perm os') (hm : Mem X os fs w) : Mem X os' fs w :=
  ((Le.perm (X := X) (rs := []) (fs := fs) h) ⟨Array.replicate N undef, []⟩ w ⟨hm, (fun t r hr => by cases hr), by simp, rfl⟩).mem
theorem ok_perm {os os' : List Obj} (h : os.Perm os') : X.ok os w = X.ok os' w := funext fun b => propext ⟨fun hb => ⟨hb.1, hb.2.1, fun o ho => hb.2.2 o (h.mem_iff.2 ho)⟩, fun hb => ⟨hb.1, hb.2.1, fun o ho => hb.2.2 o (h.mem_iff.1 ho)⟩⟩
abbrev Nw := Nat × Nat × TypeId × D
def Nw.pc (e : Nw) : Obj := .var e.2.1 e.2.2.1 e.2.2.2
theorem pw_ne {α : Type} {R : α → α → Prop} (hs : ∀ x y, R x y → R y x) : ∀ {l : List α}, l.Pairwise R → ∀ x, x ∈ l → ∀ y, y ∈ l → x ≠ y → R x y
  | [], _, x, hx, _, _, _ => by cases hx
  | a :: l, h, x, hx, y, hy, hn => by
    obtain ⟨h1, h2⟩ := List.pairwise_cons.1 h
    rcases List.mem_cons.1 hx with e | hx' <;> rcases List.mem_cons.1 hy with e' | hy'
    · exact absurd (e.trans e'.symm) hn
    · exact e ▸ h1 y hy'
    · exact e' ▸ hs _ _ (h1 x hx')
    · exact pw_ne hs h2 x hx' y hy' hn
structure RV (X : Cx N) (S : St) (a : Act) (infs : List Inf) (L : Nat → Prop) (vs : Nat → Value) (u : World) (nw : List Nw) : Prop where
  nd : (nw.map (·.1)).Nodup
  ok : ∀ e ∈ nw, L e.1 ∧ infs[e.1]? = some (.new e.2.2.1 e.2.2.2) ∧ vs e.1 = .pointer (some ⟨e.2.1, 0, none⟩)
  all : ∀ j T d, L j → infs[j]? = some (.new T d) → ∃ e ∈ nw, e.1 = j
  mem : Mem X (nw.map Nw.pc ++ S.objs) S.facts u
  val : ∀ j i, L j → infs[j]? = some i → ReadR (X.ok (nw.map Nw.pc ++ S.objs) u) u i.reg (vs j)
  old : ∀ t r, look S.regs t = some r → ReadR (X.ok (nw.map Nw.pc ++ S.objs) u) u r (a.tmps.getD t undef)
theorem RV.same {infs : List Inf} {L : Nat → Prop} {vs : Nat → Value} {u u' : World} {nw : List Nw} (h : RV X S a infs L vs u nw) {k : Nat} {i : Inf} (hk : ¬ L k) (hi : infs[k]? = some i) (hn : ∀ T d, i ≠ .new T d) (v : Value) (hm : Mem X (nw.map Nw.pc ++ S.objs) S.facts u') (hok : ∀ b, X.ok (nw.map Nw.pc ++ S.objs) u b → X.ok (nw.map Nw.pc ++ S.objs) u' b) (hc : ∀ p : Addr, X.ok (nw.map Nw.pc ++ S.objs) u p.block → u'.cell? p = u.cell? p) (hv : ReadR (X.ok (nw.map Nw.pc ++ S.objs) u') u' i.reg v) : RV X S a infs (fun j => j = k ∨ L j) (fun j => if j = k then v else vs j) u' nw := by
  refine ⟨h.nd, fun e he => ?_, fun j T d hj hij => ?_, hm, fun j i' hj hij => ?_, fun t r hr => (h.old t r hr).mono hok hc⟩
  · obtain ⟨h1, h2, h3⟩ := h.ok e he
    exact ⟨.inr h1, h2, by rw [if_neg (show ¬ e.1 = k from fun e' => hk (by rw [← e']; exact h1))]; exact h3⟩
  · rcases hj with rfl | hj
    · exact absurd (Option.some.inj (hi.symm.trans hij)) (hn T d)
    · exact h.all j T d hj hij
  · by_cases e : j = k
    · subst e
      rw [if_pos rfl]
      obtain rfl : i' = i := Option.some.inj (hij.symm.trans hi)
      exact hv
    · rw [if_neg e]
      exact (h.val j i' (hj.resolve_left e) hij).mono hok hc
theorem RV.new {infs : List Inf} {L : Nat → Prop} {vs : Nat → Value} {u : World} {nw : List Nw} (h : RV X S a infs L vs u nw) {k : Nat} {Ty : TypeId} {d : D} {cs : List Value} (hk : ¬ L k) (hi : infs[k]? = some (.new Ty d)) (hcs : Reads (X.ok (nw.map Nw.pc ++ S.objs) u) u d cs) : RV X S a infs (fun j => j = k ∨ L j) (fun j => if j = k then .pointer (some ⟨u.heap.size, 0, none⟩) else vs j) (u.alloc (.cells cs.toArray Ty)) ((k, u.heap.size, Ty, d) :: nw) := by
  have hgr := gr_alloc u (.cells cs.toArray Ty)
  have hok : ∀ b, X.ok (nw.map Nw.pc ++ S.objs) u b → X.ok (((k, u.heap.size, Ty, d) :: nw : List Nw).map Nw.pc ++ S.objs) (u.alloc (.cells cs.toArray Ty)) b := fun b hb => ⟨hb.1, Nat.lt_of_lt_of_le hb.2.1 hgr.size, fun o ho e => by
    rw [List.map_cons, List.cons_append] at ho
    rcases List.mem_cons.1 ho with rfl | ho
    · cases e
      exact absurd hb.2.1 (Nat.lt_irrefl _)
    · exact hb.2.2 o ho e⟩
  have hc : ∀ p : Addr, X.ok (nw.map Nw.pc ++ S.objs) u p.block → (u.alloc (.cells cs.toArray Ty)).cell? p = u.cell? p := fun p hp => hgr.cell hp.2.1
  refine ⟨?_, fun e he => ?_, fun j T' d' hj hij => ?_, ?_, fun j i' hj hij => ?_, fun t r hr => (h.old t r hr).mono hok hc⟩
  · rw [List.map_cons]
    refine List.nodup_cons.2 ⟨fun hm => ?_, h.nd⟩
    obtain ⟨e, he, e'⟩ := List.mem_map.1 hm
    have e2 : e.1 = k := e'
    exact hk (by rw [← e2]; exact (h.ok e he).1)
  · rcases List.mem_cons.1 he with rfl | he
    · exact ⟨.inl rfl, hi, if_pos rfl⟩
    · obtain ⟨h1, h2, h3⟩ := h.ok e he
      exact ⟨.inr h1, h2, by rw [if_neg (show ¬ e.1 = k from fun e' => hk (by rw [← e']; exact h1))]; exact h3⟩
  · rcases hj with rfl | hj
    · exact ⟨_, List.mem_cons_self, rfl⟩
    · obtain ⟨e, he, e'⟩ := h.all j T' d' hj hij
      exact ⟨e, List.mem_cons_of_mem _ he, e'⟩
  · have hat : At X ⟨[], nw.map Nw.pc ++ S.objs, S.facts⟩ ⟨Array.replicate N undef, []⟩ u := ⟨h.mem, (fun t r hr => by cases hr), by simp, rfl⟩
    exact (hat.new (q := .var u.heap.size Ty d) rfl ⟨.inr h.mem.gr.size, cs, heap_alloc_new u _, Reads.mono hok hc _ _ hcs⟩).mem
  · by_cases e : j = k
    · subst e
      obtain rfl : i' = .new Ty d := Option.some.inj (hij.symm.trans hi)
      trivial
    · rw [if_neg e]
      exact (h.val j i' (hj.resolve_left e) hij).mono hok hc
set_option maxHeartbeats 2000000 in
theorem EC.drawV {id : Nat} (n : Nat) (hB : monoB l.toArray n N = true) (h : EV N l.toArray (fun S' E => openF (EL X l.toArray Q (l.drop n)) E S') (l.take n) S []) : EC X Q (.region id l.toArray true) S := by
  constructor
  intro a ws ha
  obtain ⟨infs, hlen, hok, hT, hnp⟩ := ev_list _ _ _ h
  have hle : n ≤ l.length := by simpa using (facts_of_monoB hB).le
  have hln : (l.take n).length = n := by simp; omega
  rw [hln] at hlen hT
  have htake : ∀ k, k < n → (l.take n)[k]? = l[k]? := fun k hk => by rw [List.getElem?_take, if_pos hk]
  have hdst : ∀ k o, l[k]? = some o → dstOf l.toArray k = o.dst := fun k o ho => by unfold dstOf; simp [ho]
  have hread : ∀ k L vs (b : Act) u nw t r, k ≤ n → RV X S a infs L vs u nw → SlotOk l.toArray L vs a b k t → look (stAt S (l.take n) infs k).regs t = some r → ReadR (X.ok (nw.map Nw.pc ++ S.objs) u) u r (b.tmps.getD t undef) := fun k L vs b u nw t r hk hG hs hr => by
    have hlk := stAt_look (l.take n) infs k S t (by rw [hlen, hln]) (by omega)
    rcases hs with ⟨j, h1, h2, h3, h4, h5⟩ | ⟨h1, h2⟩
    · have hjl : j < l.length := by omega
      have hoj : l[j]? = some l[j] := by simp
      have hij : infs[j]? = some infs[j] := by simp
      rw [hlk.1 j l[j] infs[j] h1 (by rw [htake j (by omega)]; exact hoj) hij (by rw [← hdst j _ hoj]; exact h2) fun m om h6 h7 hom => by
        rw [htake m (by omega)] at hom
        rw [← hdst m _ hom]
        exact h3 m h6 h7] at hr
      cases hr
      rw [h5]
      exact hG.val j _ h4 hij
    · rw [hlk.2 fun j oj hj hoj => by
        rw [htake j (by omega)] at hoj
        rw [← hdst j _ hoj]
        exact h1 j hj] at hr
      rw [h2]
      exact hG.old t r hr
  refine wp_region_set' n (by kernel_rfl) (by rw [ha.size]; exact hB) (fun L vs u => ∃ nw, RV X S a infs L vs u nw) ?_ ?_ ?_ ?_
  · rintro L L' vs vs' w hL hvs ⟨nw, hG⟩
    obtain rfl : L = L' := funext fun j => propext (hL j)
    exact ⟨nw, hG.nd, fun e he => (by obtain ⟨h1, h2, h3⟩ := hG.ok e he; exact ⟨h1, h2, by rw [← hvs _ h1]; exact h3⟩), hG.all, hG.mem, fun j i hj hi => (by rw [← hvs j hj]; exact hG.val j i hj hi), hG.old⟩
  · have had : At X S a ws.drew := ha.gr (by exact ⟨rfl, rfl, rfl, Nat.le_refl _, fun _ _ => rfl⟩)
    exact ⟨[], List.nodup_nil, (fun e he => by cases he), (fun j T d hj => hj.elim), had.mem, (fun j i hj => hj.elim), had.regs⟩
  · intro k o L vs b u hk ho hL hLk ⟨nw, hG⟩ hslot hwait
    obtain ⟨i, hi⟩ : ∃ i, infs[k]? = some i := ⟨infs[k], by simp [hlen, hk]⟩
    obtain ⟨hO, hof, _⟩ := hok k o i (by rw [htake k hk]; exact ho) hi
    have hkn : Kn X.mine (X.ok (nw.map Nw.pc ++ S.objs) u) (fun t => t ∈ o.looksAt l.toArray) (stAt S (l.take n) infs k) b u := by
      refine ⟨fun p hp => ?_, fun f hf => ?_, fun b hb => hb.2.1, fun t r ht hr => hread k L vs b u nw t r (Nat.le_of_lt hk) hG (hslot t ht) hr⟩
      · rw [(stAt_objs _ _ _ _).1] at hp
        exact hG.mem.at_ p (List.mem_append_right _ hp)
      · rw [(stAt_objs _ _ _ _).2] at hf
        exact hG.mem.fact f hf
    rcases hO with hO | ⟨r, rfl, hg, os, rest, hp, hM⟩
    · cases i with
      | still r =>
        obtain ⟨hg, hSt⟩ := hO
        refine ⟨fun _ => ?_, fun hw => by rw [wanted_kn hkn hg] at hw; cases hw⟩
        obtain ⟨v, e1, e2⟩ := hSt _ _ b u hkn
        rw [e1]
        exact ⟨nw, hG.same hLk hi (fun _ _ e => by cases e) v hG.mem (fun _ h => h) (fun _ _ => rfl) e2⟩
      | grow r =>
        obtain ⟨hg, hSt⟩ := hO
        refine ⟨fun _ => setsTo_of_grows (hSt _ _ b u hkn) (fun v w' hgr hv => ?_), fun hw => by rw [wanted_kn hkn hg] at hw; cases hw⟩
        obtain ⟨r', rfl, hv⟩ := hv
        exact ⟨nw, hG.same hLk hi (fun _ _ e => by cases e) v (hG.mem.grown hgr) (fun b hb => ok_gr hgr hb) (fun p hp => ok_cell hgr p hp) (hv.mono (fun b hb => more_ok hG.mem hgr hb) fun _ _ => rfl)⟩
      | put p q => cases hnp _ _ hi
      | skip =>
        refine ⟨fun hw => (by rw [wanted_kn hkn hO] at hw; cases hw), fun _ => ?_⟩
        exact ⟨nw, hG.same hLk hi (fun _ _ e => by cases e) undef hG.mem (fun _ h => h) (fun _ _ => rfl) trivial⟩
      | new T d =>
        obtain ⟨hg, hSt⟩ := hO
        refine ⟨fun _ => ?_, fun hw => by rw [wanted_kn hkn hg] at hw; cases hw⟩
        obtain ⟨cs, e1, e2⟩ := hSt _ _ b u hkn
        rw [e1]
        exact ⟨_, hG.new hLk hi e2⟩
    · refine ⟨fun _ => ?_, fun hw => by rw [wanted_kn hkn hg] at hw; cases hw⟩
      rw [(stAt_objs _ _ _ _).1] at hp
      have hpp : (nw.map Nw.pc ++ S.objs).Perm (os ++ (rest ++ nw.map Nw.pc)) := by
        refine List.perm_append_comm.trans ?_
        rw [← List.append_assoc]
        exact hp.append_right _
      have hm := Mem.perm hpp hG.mem
      have hokp : X.ok (nw.map Nw.pc ++ S.objs) u = X.ok (os ++ (rest ++ nw.map Nw.pc)) u := ok_perm hpp
      have hM' := hM.go X.mine (X.ok (os ++ (rest ++ nw.map Nw.pc)) u) b u ⟨fun q hq => hm.at_ q (List.mem_append_right _ (List.mem_append_left _ hq)), (by rw [(stAt_objs _ _ _ _).2, ← hokp]; exact hG.mem.fact), fun b hb => hb.2.1, fun t r ht hr => hokp ▸ hkn.regs t r ht hr⟩ hm.own
      refine setsTo_mono hM' fun v u' ⟨r', os', ⟨e1, e2⟩, e3, e4⟩ => ?_
      subst e1 e2
      have hm' := hm.turned e3
      refine ⟨nw, hG.same hLk hi (fun _ _ e => by cases e) v (Mem.perm hpp.symm hm') (fun b hb => ?_) (fun p hp => ?_) ?_⟩
      · rw [hokp] at hb
        rw [ok_perm hpp]
        exact turned_old hm e3 hb
      · rw [hokp] at hp
        exact turned_cell hm e3 p hp
      · rw [ok_perm hpp]
        exact e4.mono (fun b hb => turned_ok hm e3 hb) fun _ _ => rfl
  · intro vs u b ⟨nw, hG⟩ hs hd hslot
    have hgood : Good X (X.ok (nw.map Nw.pc ++ S.objs) u) (stAt S (l.take n) infs n) b u := by
      refine ⟨fun p hp => ?_, ?_, fun p hp b hb => ?_, fun f hf => ?_, fun t r hr => hread n _ vs b u nw t r (Nat.le_refl _) hG (hslot t) hr⟩
      · rw [(stAt_objs _ _ _ _).1] at hp
        exact hG.mem.at_ p (List.mem_append_right _ hp)
      · rw [(stAt_objs _ _ _ _).1]
        exact (List.pairwise_append.1 hG.mem.apart).2.1
      · rw [(stAt_objs _ _ _ _).1] at hp
        exact hb.2.2 p (List.mem_append_right _ hp)
      · rw [(stAt_objs _ _ _ _).2] at hf
        exact hG.mem.fact f hf
    let gOf : Nat → Nat := fun j => match vs j with
      | .pointer (some p) => p.block
      | _ => 0
    have hfr : ∀ j T d, infs[j]? = some (.new T d) → ∃ e ∈ nw, e.1 = j ∧ e.2.1 = gOf j ∧ e.2.2.1 = T ∧ e.2.2.2 = d ∧ vs j = .pointer (some ⟨gOf j, 0, none⟩) := fun j T d hj => by
      have hjn : j < n := by
        have := (List.getElem?_eq_some_iff.1 hj).1
        omega
      obtain ⟨e, he, rfl⟩ := hG.all j T d hjn hj
      obtain ⟨_, h2, h3⟩ := hG.ok e he
      have hg : gOf e.1 = e.2.1 := by simp only [gOf, h3]
      have := Option.some.inj (hj.symm.trans h2)
      injection this with e1 e2
      exact ⟨e, he, rfl, hg.symm, e1.symm, e2.symm, by rw [hg]; exact h3⟩
    have hE := frIx_map (l.take n) infs 0 []
    rw [List.nil_append] at hE
    rw [hE] at hT
    have hmm : (frIx 0 (l.take n) infs).map (·.1) = ((frIx 0 (l.take n) infs).map fun e => (e.1, gOf e.2)).map (·.1) := by simp [List.map_map, Function.comp_def]
    rw [hmm] at hT
    have hEL := openF_ext _ _ hT
    have hap := List.pairwise_append.1 hG.mem.apart
    have hpc : ∀ e ∈ nw, Nw.pc e ∈ nw.map Nw.pc := fun e he => List.mem_map.2 ⟨e, he, rfl⟩
    have hfe : ∀ e0 ∈ frIx 0 (l.take n) infs, ∃ e ∈ nw, e.1 = e0.2 ∧ e.2.1 = gOf e0.2 ∧ e.2.2.1 = e0.1.2.1 ∧ e.2.2.2 = e0.1.2.2 ∧ vs e0.2 = .pointer (some ⟨gOf e0.2, 0, none⟩) ∧ e0.2 < n ∧ ∃ o, l[e0.2]? = some o ∧ o.dst = some e0.1.1 := fun e0 he0 => by
      obtain ⟨j, o, h1, h2, h3, h4⟩ := frIx_mem _ _ _ _ he0
      rw [Nat.zero_add] at h1
      have hjn : j < n := by
        have := (List.getElem?_eq_some_iff.1 h4).1
        omega
      obtain ⟨e, he, g1, g2, g3, g4, g5⟩ := hfr j _ _ h4
      rw [htake j hjn] at h2
      rw [h1]
      exact ⟨e, he, g1, g2, g3, g4, g5, hjn, o, h2, h3⟩
    refine hEL.go b u ((Good.ext _ _ hgood (fun e he => ?_) ?_ fun e he o ho => ?_).at hG.mem.gr (fun b hb => ⟨hb.1, hb.2.1⟩) (hs.trans ha.size) (hd.trans ha.defers))
    · obtain ⟨e0, he0, rfl⟩ := List.mem_map.1 he
      obtain ⟨e1, he1, g1, g2, g3, g4, g5, hjn, o, ho, hdo⟩ := hfe e0 he0
      obtain ⟨hb, cs, hcs, hrd⟩ := hG.mem.at_ (Nw.pc e1) (List.mem_append_left _ (hpc e1 he1))
      rw [g2] at hb hcs
      rw [g3] at hcs
      rw [g4] at hrd
      refine ⟨hb, fun hz => hz.2.2 (Nw.pc e1) (List.mem_append_left _ (hpc e1 he1)) (by show some e1.2.1 = _; rw [g2]), ?_, cs, hcs, hrd⟩
      rcases hslot e0.1.1 with ⟨j', k1, k2, k3, k4, k5⟩ | ⟨k1, k2⟩
      · have hjj : j' = e0.2 := by
          rcases Nat.lt_trichotomy j' e0.2 with h | h | h
          · exact absurd ((hdst _ o ho).trans hdo) (k3 _ h hjn)
          · exact h
          · exfalso
            have hoj' : l[j']? = some l[j'] := by simp
            have hij' : infs[j']? = some infs[j'] := by simp
            obtain ⟨_, h2, _⟩ := hG.ok e1 he1
            rw [g1] at h2
            exact ((hok j' l[j'] infs[j'] (by rw [htake j' k1]; exact hoj') hij').2.1 e0.1.1 (by rw [← hdst j' _ hoj']; exact k2)).2.2 e0.2 o _ _ h (by rw [htake _ hjn]; exact ho) h2 hdo
        subst hjj
        rw [k5]
        exact g5
      · exact absurd ((hdst _ o ho).trans hdo) (k1 _ hjn)
    · have hnd := frIx_nodup (l.take n) infs 0
      rw [List.map_map]
      refine List.pairwise_map.2 ?_
      refine (List.pairwise_map.1 hnd).imp_of_mem fun {x y} hx hy hne e => ?_
      obtain ⟨e1, he1, g1, g2, _⟩ := hfe x hx
      obtain ⟨e2, he2, k1, k2, _⟩ := hfe y hy
      have : e1 ≠ e2 := fun e' => hne (by rw [← g1, ← k1, e'])
      have hpw := List.pairwise_map.1 hap.1
      exact pw_ne (R := fun x y : Nw => ∀ b, (Nw.pc x).blk = some b → (Nw.pc y).blk ≠ some b) (fun x y h b h1 h2 => h b h2 h1) hpw e1 he1 e2 he2 this _ rfl (by show some e2.2.1 = some e1.2.1; rw [g2, k2]; exact congrArg some e.symm)
    · obtain ⟨e0, he0, rfl⟩ := List.mem_map.1 he
      obtain ⟨e1, he1, g1, g2, _⟩ := hfe e0 he0
      rw [(stAt_objs _ _ _ _).1] at ho
      intro e'
      exact hap.2.2 (Nw.pc e1) (hpc e1 he1) o ho _ rfl (by rw [e', ← g2])
theorem EV.nil0 {l' : List Oper} (h : EL X ops Q l' S) : EV N ops (fun S' E => openF (EL X ops Q l') E S') [] S [] := h
theorem EV.nil1 {l' : List Oper} {t : Tmp} {Ty : TypeId} {d : D} {rs : List (Tmp × R)} {os : List Obj} {fs : List (Value × D)} (h : ∀ g, EL X ops Q l' ⟨(t, .val (.v (.pointer (some ⟨g, 0, none⟩)))) :: rs, .var g Ty d :: os, fs⟩) : EV N ops (fun S' E => openF (EL X ops Q l') E S') [] ⟨rs, os, fs⟩ [(t, Ty, d)] := h
theorem EV.callV {l' : List Oper} {t ty f : Nat} {pos : String} {af : Array Edge} {gd : Option (Nat × Bool)} {args : Array Operand} {tys : Array TypeId} {ds ds' : List D} {r : R} {rs : List (Tmp × R)} {os os0 : List Obj} {fs : List (Value × D)} (hF : FnM f ds' os (fun r' os' => r' = r ∧ os' = os)) (ix : List Nat) (rest : List Obj) (hn : os0.length = ix.length) (hp : ix.Perm (List.range ix.length)) (hq : (ix.filterMap fun i => os0[i]?) = os ++ rest)
    (hx : evs (⟨rs, rest, fs⟩ : St) args.toList = some ds) (hR : RefineL fs ds ds') (hf : Enters f) (hg : guardOf ops ⟨rs, os0, fs⟩ ⟨some t, .call { callee := .value (.func f), args := args, argTypes := tys }, ty, pos, af, gd⟩ = some true) (hd : offB N (some t) E = true) (k : EV N ops T l' ⟨(t, r) :: rs, os0, fs⟩ E) : EV N ops T (⟨some t, .call { callee := .value (.func f), args := args, argTypes := tys }, ty, pos, af, gd⟩ :: l') ⟨rs, os0, fs⟩ E :=
  EV.visit os rest hg hd (hq ▸ pick_perm ix hn hp) (m_call hF rfl hx hR hf) k
theorem P_callV {l' : List Oper} {t ty f : Nat} {pos : String} {af : Array Edge} {gd : Option (Nat × Bool)} {args : Array Operand} {tys : Array TypeId} {ds ds' : List D} {r : R} {rs : List (Tmp × R)} {os os0 : List Obj} {fs : List (Value × D)} (hF : FnM f ds' os (fun r' os' => r' = r ∧ os' = os)) (ix : List Nat) (rest : List Obj) (hn : os0.length = ix.length) (hp : ix.Perm (List.range ix.length)) (hq : (ix.filterMap fun i => os0[i]?) = os ++ rest)
    (hx : evs (⟨rs, rest, fs⟩ : St) args.toList = some ds) (hR : RefineL fs ds ds') (hf : Enters f) (hg : guardOf ops ⟨rs, os ++ rest, fs⟩ ⟨some t, .call { callee := .value (.func f), args := args, argTypes := tys }, ty, pos, af, gd⟩ = some true) (hN : Nat.blt t N = true) (k : EL X ops Q l' ⟨(t, r) :: rs, os0, fs⟩) : EL X ops Q (⟨some t, .call { callee := .value (.func f), args := args, argTypes := tys }, ty, pos, af, gd⟩ :: l') ⟨rs, os0, fs⟩ := by
  have hpp : os0.Perm (os ++ rest) := hq ▸ pick_perm ix hn hp
  refine EL.le (Le.perm hpp) ?_
  refine P_callMD hF rfl hx hR hf hg hN ?_
  exact EL.le (Le.perm hpp.symm) k
end
end E
end Go.Proofs.Ytdhicdnmgmkpkaa
/-
  The state: Move.
  Conditions: none.
-/
namespace Go.Proofs.Ytdhicdnmgmkpkaa
set_option linter.unusedVariables false
open Go.RowKit Mono Rlp Wd
namespace E
theorem bin_addr (l m : List UInt8) : Bin .eql 23 (.arr 20 l) (.arr 20 m) (.bool (l == m)) ∧ Bin .neq 23 (.arr 20 l) (.arr 20 m) (.bool (l != m)) :=
  bin_arr Try.underlying23 Try.underlying5 (fun w => by kernel_rfl) (by kernel_rfl) l m
theorem cmpN_lt {x y : Nat} (h : x < y) : cmpN x y = -1 := if_pos h
theorem cmpN_ge {x y : Nat} (h : ¬ x < y) : 0 ≤ cmpN x y := by
  unfold cmpN
  rw [if_neg h]
  split <;> omega
section
variable {g m c ga gb gs T : Nat} {u k : Value} {n : Int} {es : List Ent} {a a2 w x y cd cd2 : List UInt8} {us ks : List D} {d : D} {b b2 : Int} {sv sv2 : Value}
set_option maxRecDepth 20000 in
set_option maxHeartbeats 4000000 in
theorem move_lt (h : getE es a = some (.v (ptr ga))) (hx : x.length = 32) (hw : w.length = 32) (hlt : val x < val w) : FnM 11 [.v (ptr g), .arr 20 a, .arr 20 a2, .arr 32 w] [stO g m u k n, smO m c es, acO ga b x cd sv] (fun r os' => r = .val (.v (.bool false)) ∧ os' = [stO g m u k n, smO m c es, acO ga b x cd sv]) := by
  have h1 := balance_in (g := g) (m := m) (c := c) (u := u) (k := k) (n := n) (b := b) (w := x) (cd := cd) (sv := sv) h
  have h2 := f_Cmp x w hx hw
  rw [cmpN_lt hlt] at h2
  refine FnM.walk 42 Try.func11 rfl Try.ntmps11 (by simp) fun X => ?_
  repeat
    (first
     | (apply P_assign; (iterate 3 exact rfl)) | (apply P_box; exact rfl; exact rfl; exact rfl; intro _) | apply EL.nil | ((with_reducible apply EK.then_normal); apply EK.code)
     | (with_reducible first | apply EC.seq | apply EC.region | apply EC.skip | apply EC.label | apply EC.block | apply EC.exit | apply EC.ret | apply EK.in_normal | apply EK.in_same | apply EK.in_ret | apply EK.then_ret | apply EK.then_exit))
  refine EC.drawV 6 (by kernel_rfl) ?_
  simp only [List.take_succ_cons, List.take_zero, List.drop_succ_cons, List.drop_zero]
  refine EV.cut 2 ?_
  simp only [List.take_succ_cons, List.take_zero, List.drop_succ_cons, List.drop_zero]
  repeat
    (first
     | (apply H_move; (iterate 3 exact rfl)) | (apply H_load; exact rfl; (first | exact I0 | exact I1 | exact I2 | exact I3 | exact I4 | exact I5 | exact I6); (iterate 4 exact rfl)))
  refine EM.nil ?_
  refine EV.callV (h1) [3, 4, 5, 0, 1, 2] [_, _, _] rfl (by decide) rfl rfl (RefineL.refl _ _) (by intro _ _; simp [go_sem]) rfl rfl ?_
  refine EV.cut 3 ?_
  simp only [List.take_succ_cons, List.take_zero, List.drop_succ_cons, List.drop_zero]
  repeat
    (first
     | (apply H_call (h2); exact rfl; (focus (repeat first | exact RefineL.refl _ _ | exact RL.nil | exact Rf.same | exact Rf.bs0 | exact Rf.sl0 | (apply Rf.fact; (focus (simp; done)); exact rfl) | apply Rf.tup | apply RL.cons)); (focus (intro _ _; simp [go_sem]; done)); (iterate 2 exact rfl))
     | (apply H_load; exact rfl; (first | exact I0 | exact I1 | exact I2 | exact I3 | exact I4 | exact I5 | exact I6); (iterate 4 exact rfl))
     | (apply H_cmp (b := true); (iterate 2 exact rfl); (focus (first | (simp [cmpI]; done) | (simp [cmpI]; omega))); (iterate 2 exact rfl)))
  refine EM.nil ?_
  refine EV.nil0 ?_
  repeat
    (first
     | (apply P_assign; (iterate 3 exact rfl)) | apply EL.nil | ((with_reducible apply EK.then_normal); apply EK.code) | (apply EC.cond_true; exact rfl)
     | (with_reducible first | apply EC.seq | apply EC.region | apply EC.skip | apply EC.label | apply EC.block | apply EC.exit | apply EC.ret | apply EK.in_normal | apply EK.in_same | apply EK.in_ret | apply EK.then_ret | apply EK.then_exit))
  exact EK.retM1s [stO g m u k n, smO m c es, acO ga b x cd sv] rfl rfl (by (repeat first | exact List.nil_sublist _ | apply List.Sublist.cons_cons | apply List.Sublist.cons)) ⟨rfl, rfl⟩
set_option maxRecDepth 20000 in
set_option maxHeartbeats 4000000 in
theorem move_same (h : getE es a = some (.v (ptr ga))) (hx : x.length = 32) (hw : w.length = 32) (hlt : ¬ val x < val w) : FnM 11 [.v (ptr g), .arr 20 a, .arr 20 a, .arr 32 w] [stO g m u k n, smO m c es, acO ga b x cd sv] (fun r os' => r = .val (.v (.bool true)) ∧ os' = [stO g m u k n, smO m c es, acO ga b x cd sv]) := by
  have h1 := balance_in (g := g) (m := m) (c := c) (u := u) (k := k) (n := n) (b := b) (w := x) (cd := cd) (sv := sv) h
  have h2 := f_Cmp x w hx hw
  have hz := cmpN_ge hlt
  generalize cmpN (val x) (val w) = z at h2 hz
  have h3 := f_Add x w hx hw
  have h4 := (bin_addr a a).1
  rw [show (a == a) = true by simp] at h4
  refine FnM.walk 42 Try.func11 rfl Try.ntmps11 (by simp) fun X => ?_
  repeat
    (first
     | (apply P_assign; (iterate 3 exact rfl)) | (apply P_box; exact rfl; exact rfl; exact rfl; intro _) | apply EL.nil | ((with_reducible apply EK.then_normal); apply EK.code)
     | (with_reducible first | apply EC.seq | apply EC.region | apply EC.skip | apply EC.label | apply EC.block | apply EC.exit | apply EC.ret | apply EK.in_normal | apply EK.in_same | apply EK.in_ret | apply EK.then_ret | apply EK.then_exit))
  refine EC.drawV 6 (by kernel_rfl) ?_
  simp only [List.take_succ_cons, List.take_zero, List.drop_succ_cons, List.drop_zero]
  refine EV.cut 2 ?_
  simp only [List.take_succ_cons, List.take_zero, List.drop_succ_cons, List.drop_zero]
  repeat
    (first
     | (apply H_move; (iterate 3 exact rfl)) | (apply H_load; exact rfl; (first | exact I0 | exact I1 | exact I2 | exact I3 | exact I4 | exact I5 | exact I6); (iterate 4 exact rfl)))
  refine EM.nil ?_
  refine EV.callV (h1) [3, 4, 5, 0, 1, 2] [_, _, _] rfl (by decide) rfl rfl (RefineL.refl _ _) (by intro _ _; simp [go_sem]) rfl rfl ?_
  refine EV.cut 3 ?_
  simp only [List.take_succ_cons, List.take_zero, List.drop_succ_cons, List.drop_zero]
  repeat
    (first
     | (apply H_call (h2); exact rfl; (focus (repeat first | exact RefineL.refl _ _ | exact RL.nil | exact Rf.same | exact Rf.bs0 | exact Rf.sl0 | (apply Rf.fact; (focus (simp; done)); exact rfl) | apply Rf.tup | apply RL.cons)); (focus (intro _ _; simp [go_sem]; done)); (iterate 2 exact rfl))
     | (apply H_load; exact rfl; (first | exact I0 | exact I1 | exact I2 | exact I3 | exact I4 | exact I5 | exact I6); (iterate 4 exact rfl))
     | (apply H_cmp (b := false); (iterate 2 exact rfl); (focus (first | (simp [cmpI]; done) | (simp [cmpI]; omega))); (iterate 2 exact rfl)))
  refine EM.nil ?_
  refine EV.nil0 ?_
  repeat
    (first
     | apply EL.nil | ((with_reducible apply EK.then_normal); apply EK.code) | (apply EC.cond_false; exact rfl)
     | (with_reducible first | apply EC.seq | apply EC.region | apply EC.skip | apply EC.label | apply EC.block | apply EC.exit | apply EC.ret | apply EK.in_normal | apply EK.in_same | apply EK.in_ret | apply EK.then_ret | apply EK.then_exit))
  refine EC.drawV 6 (by kernel_rfl) ?_
  simp only [List.take_succ_cons, List.take_zero, List.drop_succ_cons, List.drop_zero]
  refine EV.cut 2 ?_
  simp only [List.take_succ_cons, List.take_zero, List.drop_succ_cons, List.drop_zero]
  repeat
    (first
     | (apply H_move; (iterate 3 exact rfl)) | (apply H_load; exact rfl; (first | exact I0 | exact I1 | exact I2 | exact I3 | exact I4 | exact I5 | exact I6); (iterate 4 exact rfl)))
  refine EM.nil ?_
  refine EV.callV (h1) [3, 4, 5, 0, 1, 2] [_, _, _] rfl (by decide) rfl rfl (RefineL.refl _ _) (by intro _ _; simp [go_sem]) rfl rfl ?_
  refine EV.cut 3 ?_
  simp only [List.take_succ_cons, List.take_zero, List.drop_succ_cons, List.drop_zero]
  repeat
    (first
     | (apply H_call (h3); exact rfl; (focus (repeat first | exact RefineL.refl _ _ | exact RL.nil | exact Rf.same | exact Rf.bs0 | exact Rf.sl0 | (apply Rf.fact; (focus (simp; done)); exact rfl) | apply Rf.tup | apply RL.cons)); (focus (intro _ _; simp [go_sem]; done)); (iterate 2 exact rfl))
     | (apply H_load; exact rfl; (first | exact I0 | exact I1 | exact I2 | exact I3 | exact I4 | exact I5 | exact I6); (iterate 4 exact rfl)) | (apply H_alloc; (iterate 3 exact rfl)))
  refine EM.nil ?_
  refine EV.nil1 fun g9 => ?_
  repeat
    (first
     | (apply P_bin; (iterate 2 exact rfl); exact h4; (iterate 2 exact rfl)) | (apply P_assign; (iterate 3 exact rfl))
     | (apply P_load; exact rfl; (first | exact I0 | exact I1 | exact I2 | exact I3 | exact I4 | exact I5 | exact I6); (iterate 4 exact rfl))
     | (apply P_store; exact rfl; (focus (repeat first | exact .z | apply SetAt.s | apply SetAtF.s)); (iterate 4 exact rfl)) | apply EL.nil | ((with_reducible apply EK.then_normal); apply EK.code)
     | (apply EC.cond_true; exact rfl)
     | (with_reducible first | apply EC.seq | apply EC.region | apply EC.skip | apply EC.label | apply EC.block | apply EC.exit | apply EC.ret | apply EK.in_normal | apply EK.in_same | apply EK.in_ret | apply EK.then_ret | apply EK.then_exit))
  exact EK.retM1s [stO g m u k n, smO m c es, acO ga b x cd sv] rfl rfl (by (repeat first | exact List.nil_sublist _ | apply List.Sublist.cons_cons | apply List.Sublist.cons)) ⟨rfl, rfl⟩
set_option maxRecDepth 20000 in
set_option maxHeartbeats 4000000 in
theorem move_over (h : getE es a = some (.v (ptr ga))) (h' : getE es a2 = some (.v (ptr gb))) (hne : (a == a2) = false) (hx : x.length = 32) (hy : y.length = 32) (hw : w.length = 32) (hlt : ¬ val x < val w) (hov : val (wordOf (val y + val w)) < val w) : FnM 11 [.v (ptr g), .arr 20 a, .arr 20 a2, .arr 32 w] [stO g m u k n, smO m c es, acO ga b x cd sv, acO gb b2 y cd2 sv2] (fun r os' => r = .val (.v (.bool false)) ∧ os' = [stO g m u k n, smO m c es, acO ga b x cd sv, acO gb b2 y cd2 sv2]) := by
  have h1 := balance_in (g := g) (m := m) (c := c) (u := u) (k := k) (n := n) (b := b) (w := x) (cd := cd) (sv := sv) h
  have h1b := balance_in (g := g) (m := m) (c := c) (u := u) (k := k) (n := n) (b := b2) (w := y) (cd := cd2) (sv := sv2) h'
  have h2 := f_Cmp x w hx hw
  have hz := cmpN_ge hlt
  generalize cmpN (val x) (val w) = z at h2 hz
  have h3 := f_Add y w hy hw
  have h4 := (bin_addr a a2).1
  rw [hne] at h4
  have h5 := f_Cmp (wordOf (val y + val w)) w (wordOf_length _) hw
  rw [cmpN_lt hov] at h5
  generalize wordOf (val y + val w) = s at h3 h5
  refine FnM.walk 42 Try.func11 rfl Try.ntmps11 (by simp) fun X => ?_
  repeat
    (first
     | (apply P_assign; (iterate 3 exact rfl)) | (apply P_box; exact rfl; exact rfl; exact rfl; intro _) | apply EL.nil | ((with_reducible apply EK.then_normal); apply EK.code)
     | (with_reducible first | apply EC.seq | apply EC.region | apply EC.skip | apply EC.label | apply EC.block | apply EC.exit | apply EC.ret | apply EK.in_normal | apply EK.in_same | apply EK.in_ret | apply EK.then_ret | apply EK.then_exit))
  refine EC.drawV 6 (by kernel_rfl) ?_
  simp only [List.take_succ_cons, List.take_zero, List.drop_succ_cons, List.drop_zero]
  refine EV.cut 2 ?_
  simp only [List.take_succ_cons, List.take_zero, List.drop_succ_cons, List.drop_zero]
  repeat
    (first
     | (apply H_move; (iterate 3 exact rfl)) | (apply H_load; exact rfl; (first | exact I0 | exact I1 | exact I2 | exact I3 | exact I4 | exact I5 | exact I6); (iterate 4 exact rfl)))
  refine EM.nil ?_
  refine EV.callV (h1) [3, 4, 5, 0, 1, 2, 6] [_, _, _, _] rfl (by decide) rfl rfl (RefineL.refl _ _) (by intro _ _; simp [go_sem]) rfl rfl ?_
  refine EV.cut 3 ?_
  simp only [List.take_succ_cons, List.take_zero, List.drop_succ_cons, List.drop_zero]
  repeat
    (first
     | (apply H_call (h2); exact rfl; (focus (repeat first | exact RefineL.refl _ _ | exact RL.nil | exact Rf.same | exact Rf.bs0 | exact Rf.sl0 | (apply Rf.fact; (focus (simp; done)); exact rfl) | apply Rf.tup | apply RL.cons)); (focus (intro _ _; simp [go_sem]; done)); (iterate 2 exact rfl))
     | (apply H_load; exact rfl; (first | exact I0 | exact I1 | exact I2 | exact I3 | exact I4 | exact I5 | exact I6); (iterate 4 exact rfl))
     | (apply H_cmp (b := false); (iterate 2 exact rfl); (focus (first | (simp [cmpI]; done) | (simp [cmpI]; omega))); (iterate 2 exact rfl)))
  refine EM.nil ?_
  refine EV.nil0 ?_
  repeat
    (first
     | apply EL.nil | ((with_reducible apply EK.then_normal); apply EK.code) | (apply EC.cond_false; exact rfl)
     | (with_reducible first | apply EC.seq | apply EC.region | apply EC.skip | apply EC.label | apply EC.block | apply EC.exit | apply EC.ret | apply EK.in_normal | apply EK.in_same | apply EK.in_ret | apply EK.then_ret | apply EK.then_exit))
  refine EC.drawV 6 (by kernel_rfl) ?_
  simp only [List.take_succ_cons, List.take_zero, List.drop_succ_cons, List.drop_zero]
  refine EV.cut 2 ?_
  simp only [List.take_succ_cons, List.take_zero, List.drop_succ_cons, List.drop_zero]
  repeat
    (first
     | (apply H_move; (iterate 3 exact rfl)) | (apply H_load; exact rfl; (first | exact I0 | exact I1 | exact I2 | exact I3 | exact I4 | exact I5 | exact I6); (iterate 4 exact rfl)))
  refine EM.nil ?_
  refine EV.callV (h1b) [3, 4, 6, 0, 1, 2, 5] [_, _, _, _] rfl (by decide) rfl rfl (RefineL.refl _ _) (by intro _ _; simp [go_sem]) rfl rfl ?_
  refine EV.cut 3 ?_
  simp only [List.take_succ_cons, List.take_zero, List.drop_succ_cons, List.drop_zero]
  repeat
    (first
     | (apply H_call (h3); exact rfl; (focus (repeat first | exact RefineL.refl _ _ | exact RL.nil | exact Rf.same | exact Rf.bs0 | exact Rf.sl0 | (apply Rf.fact; (focus (simp; done)); exact rfl) | apply Rf.tup | apply RL.cons)); (focus (intro _ _; simp [go_sem]; done)); (iterate 2 exact rfl))
     | (apply H_load; exact rfl; (first | exact I0 | exact I1 | exact I2 | exact I3 | exact I4 | exact I5 | exact I6); (iterate 4 exact rfl)) | (apply H_alloc; (iterate 3 exact rfl)))
  refine EM.nil ?_
  refine EV.nil1 fun g9 => ?_
  repeat
    (first
     | (apply P_bin; (iterate 2 exact rfl); exact h4; (iterate 2 exact rfl))
     | (apply P_call (h5); exact rfl; (focus (repeat first | exact RefineL.refl _ _ | exact RL.nil | exact Rf.same | exact Rf.bs0 | exact Rf.sl0 | (apply Rf.fact; (focus (simp; done)); exact rfl) | apply Rf.tup | apply RL.cons)); (focus (intro _ _; simp [go_sem]; done)); (iterate 2 exact rfl))
     | (apply P_assign; (iterate 3 exact rfl)) | (apply P_load; exact rfl; (first | exact I0 | exact I1 | exact I2 | exact I3 | exact I4 | exact I5 | exact I6); (iterate 4 exact rfl))
     | (apply P_cmp (b := true); (iterate 2 exact rfl); (focus (first | (simp [cmpI]; done) | (simp [cmpI]; omega))); (iterate 2 exact rfl))
     | (apply P_store; exact rfl; (focus (repeat first | exact .z | apply SetAt.s | apply SetAtF.s)); (iterate 4 exact rfl)) | apply EL.nil | ((with_reducible apply EK.then_normal); apply EK.code)
     | (apply EC.cond_true; exact rfl) | (apply EC.cond_false; exact rfl)
     | (with_reducible first | apply EC.seq | apply EC.region | apply EC.skip | apply EC.label | apply EC.block | apply EC.exit | apply EC.ret | apply EK.in_normal | apply EK.in_same | apply EK.in_ret | apply EK.then_ret | apply EK.then_exit))
  exact EK.retM1s [stO g m u k n, smO m c es, acO ga b x cd sv, acO gb b2 y cd2 sv2] rfl rfl (by (repeat first | exact List.nil_sublist _ | apply List.Sublist.cons_cons | apply List.Sublist.cons)) ⟨rfl, rfl⟩
theorem balance_inF (h : getE es a = some (.v (ptr ga))) : FnM 13 [.v (ptr g), .arr 20 a] [stO g m u k n, smO m c es, unO u us, mkO k ks, acO ga b x cd sv] (fun r os' => r = .val (.arr 32 x) ∧ os' = [stO g m u k n, smO m c es, unO u us, mkO k ks, acO ga b x cd sv]) := by
  have h1 := ((balance_in (g := g) (m := m) (c := c) (u := u) (k := k) (n := n) (b := b) (w := x) (cd := cd) (sv := sv) h).frame [unO u us, mkO k ks]).pick [0, 1, 3, 4, 2] rfl (by decide)
  refine FnM.out h1 ?_
  rintro r _ ⟨_, ⟨rfl, rfl⟩, rfl⟩
  exact ⟨_, pick_perm [0, 1, 3, 4, 2] rfl (by decide), rfl, rfl⟩
theorem setBalance_in0 {w' : List UInt8} (h : getE es a = some (.v (ptr ga))) (hu : us.length < 1099511627776) : FnM 9 [.v (ptr g), .arr 20 a, .arr 32 w'] [stO g m u k n, smO m c es, unO u us, mkO k [], acO ga b w cd sv] (fun r os' => r = .tpl [] ∧ ∃ u', os' = [stO g m u' k n, smO m c es, unO u' us, mkO k [], acO ga b w' cd sv]) := setBalance_in (ks := []) h hu
set_option maxRecDepth 20000 in
set_option maxHeartbeats 4000000 in
theorem move_do (h : getE es a = some (.v (ptr ga))) (h' : getE es a2 = some (.v (ptr gb))) (hne : (a == a2) = false) (hu : us.length < 1099511627776) (hx : x.length = 32) (hy : y.length = 32) (hw : w.length = 32) (hlt : ¬ val x < val w) (hov : ¬ val (wordOf (val y + val w)) < val w) : FnM 11 [.v (ptr g), .arr 20 a, .arr 20 a2, .arr 32 w] [stO g m u k n, smO m c es, unO u us, mkO k [], acO ga b x cd sv, acO gb b2 y cd2 sv2] (fun r os' => r = .val (.v (.bool true)) ∧ ∃ u', os' = [stO g m u' k n, smO m c es, unO u' us, mkO k [], acO ga b (wordOf (val x + 256 ^ 32 - val w)) cd sv, acO gb b2 (wordOf (val y + val w)) cd2 sv2]) := by
  have h1 := balance_in (g := g) (m := m) (c := c) (u := u) (k := k) (n := n) (b := b) (w := x) (cd := cd) (sv := sv) h
  have h1b := balance_in (g := g) (m := m) (c := c) (u := u) (k := k) (n := n) (b := b2) (w := y) (cd := cd2) (sv := sv2) h'
  have h1F := balance_inF (g := g) (m := m) (c := c) (u := u) (k := k) (n := n) (us := us) (ks := []) (b := b) (x := x) (cd := cd) (sv := sv) h
  have h2 := f_Cmp x w hx hw
  have hz := cmpN_ge hlt
  generalize cmpN (val x) (val w) = z at h2 hz
  have h3 := f_Add y w hy hw
  have h4 := (bin_addr a a2).1
  rw [hne] at h4
  have h5 := f_Cmp (wordOf (val y + val w)) w (wordOf_length _) hw
  have hz2 := cmpN_ge hov
  generalize cmpN (val (wordOf (val y + val w))) (val w) = z2 at h5 hz2
  have h6 := f_Sub x w hx hw
  generalize wordOf (val x + 256 ^ 32 - val w) = df at h6
  generalize wordOf (val y + val w) = s at h3 h5
  have h7 := setBalance_in0 (g := g) (m := m) (c := c) (u := u) (k := k) (n := n) (us := us) (b := b) (w := x) (w' := df) (cd := cd) (sv := sv) h hu
  have h8 := fun u' => setBalance_in0 (g := g) (m := m) (c := c) (u := u') (k := k) (n := n) (us := us) (b := b2) (w := y) (w' := s) (cd := cd2) (sv := sv2) h' hu
  refine FnM.walk 42 Try.func11 rfl Try.ntmps11 (by simp) fun X => ?_
  repeat
    (first
     | (apply P_assign; (iterate 3 exact rfl)) | (apply P_box; exact rfl; exact rfl; exact rfl; intro _) | apply EL.nil | ((with_reducible apply EK.then_normal); apply EK.code)
     | (with_reducible first | apply EC.seq | apply EC.region | apply EC.skip | apply EC.label | apply EC.block | apply EC.exit | apply EC.ret | apply EK.in_normal | apply EK.in_same | apply EK.in_ret | apply EK.then_ret | apply EK.then_exit))
  refine EC.drawV 6 (by kernel_rfl) ?_
  simp only [List.take_succ_cons, List.take_zero, List.drop_succ_cons, List.drop_zero]
  refine EV.cut 2 ?_
  simp only [List.take_succ_cons, List.take_zero, List.drop_succ_cons, List.drop_zero]
  repeat
    (first
     | (apply H_move; (iterate 3 exact rfl)) | (apply H_load; exact rfl; (first | exact I0 | exact I1 | exact I2 | exact I3 | exact I4 | exact I5 | exact I6); (iterate 4 exact rfl)))
  refine EM.nil ?_
  refine EV.callV (h1) [3, 4, 7, 0, 1, 2, 5, 6, 8] [_, _, _, _, _, _] rfl (by decide) rfl rfl (RefineL.refl _ _) (by intro _ _; simp [go_sem]) rfl rfl ?_
  refine EV.cut 3 ?_
  simp only [List.take_succ_cons, List.take_zero, List.drop_succ_cons, List.drop_zero]
  repeat
    (first
     | (apply H_call (h2); exact rfl; (focus (repeat first | exact RefineL.refl _ _ | exact RL.nil | exact Rf.same | exact Rf.bs0 | exact Rf.sl0 | (apply Rf.fact; (focus (simp; done)); exact rfl) | apply Rf.tup | apply RL.cons)); (focus (intro _ _; simp [go_sem]; done)); (iterate 2 exact rfl))
     | (apply H_load; exact rfl; (first | exact I0 | exact I1 | exact I2 | exact I3 | exact I4 | exact I5 | exact I6); (iterate 4 exact rfl))
     | (apply H_cmp (b := false); (iterate 2 exact rfl); (focus (first | (simp [cmpI]; done) | (simp [cmpI]; omega))); (iterate 2 exact rfl)))
  refine EM.nil ?_
  refine EV.nil0 ?_
  repeat
    (first
     | apply EL.nil | ((with_reducible apply EK.then_normal); apply EK.code) | (apply EC.cond_false; exact rfl)
     | (with_reducible first | apply EC.seq | apply EC.region | apply EC.skip | apply EC.label | apply EC.block | apply EC.exit | apply EC.ret | apply EK.in_normal | apply EK.in_same | apply EK.in_ret | apply EK.then_ret | apply EK.then_exit))
  refine EC.drawV 6 (by kernel_rfl) ?_
  simp only [List.take_succ_cons, List.take_zero, List.drop_succ_cons, List.drop_zero]
  refine EV.cut 2 ?_
  simp only [List.take_succ_cons, List.take_zero, List.drop_succ_cons, List.drop_zero]
  repeat
    (first
     | (apply H_move; (iterate 3 exact rfl)) | (apply H_load; exact rfl; (first | exact I0 | exact I1 | exact I2 | exact I3 | exact I4 | exact I5 | exact I6); (iterate 4 exact rfl)))
  refine EM.nil ?_
  refine EV.callV (h1b) [3, 4, 8, 0, 1, 2, 5, 6, 7] [_, _, _, _, _, _] rfl (by decide) rfl rfl (RefineL.refl _ _) (by intro _ _; simp [go_sem]) rfl rfl ?_
  refine EV.cut 3 ?_
  simp only [List.take_succ_cons, List.take_zero, List.drop_succ_cons, List.drop_zero]
  repeat
    (first
     | (apply H_call (h3); exact rfl; (focus (repeat first | exact RefineL.refl _ _ | exact RL.nil | exact Rf.same | exact Rf.bs0 | exact Rf.sl0 | (apply Rf.fact; (focus (simp; done)); exact rfl) | apply Rf.tup | apply RL.cons)); (focus (intro _ _; simp [go_sem]; done)); (iterate 2 exact rfl))
     | (apply H_load; exact rfl; (first | exact I0 | exact I1 | exact I2 | exact I3 | exact I4 | exact I5 | exact I6); (iterate 4 exact rfl)) | (apply H_alloc; (iterate 3 exact rfl)))
  refine EM.nil ?_
  refine EV.nil1 fun g9 => ?_
  repeat
    (first
     | (apply P_bin; (iterate 2 exact rfl); exact h4; (iterate 2 exact rfl))
     | (apply P_call (h5); exact rfl; (focus (repeat first | exact RefineL.refl _ _ | exact RL.nil | exact Rf.same | exact Rf.bs0 | exact Rf.sl0 | (apply Rf.fact; (focus (simp; done)); exact rfl) | apply Rf.tup | apply RL.cons)); (focus (intro _ _; simp [go_sem]; done)); (iterate 2 exact rfl))
     | (apply P_assign; (iterate 3 exact rfl)) | (apply P_load; exact rfl; (first | exact I0 | exact I1 | exact I2 | exact I3 | exact I4 | exact I5 | exact I6); (iterate 4 exact rfl))
     | (apply P_cmp (b := false); (iterate 2 exact rfl); (focus (first | (simp [cmpI]; done) | (simp [cmpI]; omega))); (iterate 2 exact rfl))
     | (apply P_store; exact rfl; (focus (repeat first | exact .z | apply SetAt.s | apply SetAtF.s)); (iterate 4 exact rfl)) | apply EL.nil | ((with_reducible apply EK.then_normal); apply EK.code)
     | (apply EC.cond_false; exact rfl)
     | (with_reducible first | apply EC.seq | apply EC.region | apply EC.skip | apply EC.label | apply EC.block | apply EC.exit | apply EC.ret | apply EK.in_normal | apply EK.in_same | apply EK.in_ret | apply EK.then_ret | apply EK.then_exit))
  refine EC.le (Le.pick [4, 5, 6, 7, 8, 9, 0, 1, 2, 3] [_, _, _, _, _, _, _, _, _, _] rfl (by decide) rfl) ?_
  refine EC.drawC 8 [0, 1, 2, 3, 5] [4, 6, 7] [_, _, _, _, _] _ (by kernel_rfl) (by kernel_rfl) rfl ?_
  simp only [pickL, List.filterMap_cons, List.filterMap_nil, List.getElem?_cons_zero, List.getElem?_cons_succ]
  repeat
    (first
     | (apply H_move; (iterate 3 exact rfl)) | (apply H_load; exact rfl; (first | exact I0 | exact I1 | exact I2 | exact I3 | exact I4 | exact I5 | exact I6); (iterate 4 exact rfl)))
  refine EM.nil ?_
  repeat (first | rw [List.cons_append] | rw [List.nil_append])
  refine CH.callM (rest := []) h1F rfl rfl (RefineL.refl _ _) (by intro _ _; simp [go_sem]) rfl rfl ?_
  rintro _ _ ⟨rfl, rfl⟩
  try simp only [St.put]
  repeat (first | rw [List.cons_append] | rw [List.nil_append])
  refine CH.cut 1 ?_
  simp only [List.take_succ_cons, List.take_zero, List.drop_succ_cons, List.drop_zero]
  repeat
    (first
     | (apply H_call (h6); exact rfl; (focus (repeat first | exact RefineL.refl _ _ | exact RL.nil | exact Rf.same | exact Rf.bs0 | exact Rf.sl0 | (apply Rf.fact; (focus (simp; done)); exact rfl) | apply Rf.tup | apply RL.cons)); (focus (intro _ _; simp [go_sem]; done)); (iterate 2 exact rfl)))
  refine EM.nil ?_
  repeat (first | rw [List.cons_append] | rw [List.nil_append])
  refine CH.callM (rest := []) h7 rfl rfl (RefineL.refl _ _) (by intro _ _; simp [go_sem]) rfl rfl ?_
  rintro _ _ ⟨rfl, u1, rfl⟩
  try simp only [St.put]
  repeat (first | rw [List.cons_append] | rw [List.nil_append])
  refine CH.nil ?_
  try simp only [List.drop_succ_cons, List.drop_zero]
  repeat
    (first
     | (apply P_move; (iterate 3 exact rfl)) | apply EL.nil | ((with_reducible apply EK.then_normal); apply EK.code)
     | (with_reducible first | apply EC.seq | apply EC.region | apply EC.skip | apply EC.label | apply EC.block | apply EC.exit | apply EC.ret | apply EK.in_normal | apply EK.in_same | apply EK.in_ret | apply EK.then_ret | apply EK.then_exit))
  refine EL.le (Le.pick [6, 8, 0, 1, 2, 3, 4, 5, 7, 9] [_, _, _, _, _, _, _, _, _, _] rfl (by decide) rfl) ?_
  repeat
    (first
     | (apply P_load; exact rfl; (first | exact I0 | exact I1 | exact I2 | exact I3 | exact I4 | exact I5 | exact I6); (iterate 4 exact rfl)))
  refine EL.le (Le.pick [2, 3, 4, 5, 7, 6, 0, 1, 8, 9] [_, _, _, _, _, _, _, _, _, _] rfl (by decide) rfl) ?_
  repeat
    (first
     | (apply P_callM (h8 u1); (iterate 2 exact rfl); exact RefineL.refl _ _; (focus (intro _ _; simp [go_sem]; done)); (iterate 2 exact rfl); rintro _ _ ⟨rfl, u2, rfl⟩)
     | (apply P_assign; (iterate 3 exact rfl)) | apply EL.nil | ((with_reducible apply EK.then_normal); apply EK.code)
     | (with_reducible first | apply EC.seq | apply EC.region | apply EC.skip | apply EC.label | apply EC.block | apply EC.exit | apply EC.ret | apply EK.in_normal | apply EK.in_same | apply EK.in_ret | apply EK.then_ret | apply EK.then_exit))
  refine EK.le (Le.pick [0, 1, 2, 3, 5, 4, 6, 7, 8, 9] [_, _, _, _, _, _, _, _, _, _] rfl (by decide) rfl) ?_
  exact EK.retM1s [stO g m u2 k n, smO m c es, unO u2 us, mkO k [], acO ga b df cd sv, acO gb b2 s cd2 sv2] rfl rfl (by (repeat first | exact List.nil_sublist _ | apply List.Sublist.cons_cons | apply List.Sublist.cons)) ⟨rfl, u2, rfl⟩
end
end E
end Go.Proofs.Ytdhicdnmgmkpkaa
/-
  The state: Mark, Back$1, slices.IndexFunc of marks, back and Back of one nonce.
  Conditions: none.
-/
namespace Go.Proofs.Ytdhicdnmgmkpkaa
set_option linter.unusedVariables false
open Go.RowKit Mono Rlp Wd
namespace E
section
variable {g m c ga gs T g3 : Nat} {u k : Value} {n : Int} {es : List Ent} {a w cd : List UInt8} {us ks : List D} {d : D} {b : Int} {sv : Value}
abbrev mkD (x : Int × Int) : D := .tup [.v (.int .i64 x.1), .v (.int .i64 x.2)]
set_option maxRecDepth 20000 in
set_option maxHeartbeats 4000000 in
theorem mark_ (h0 : 0 ≤ n) (h1 : n < 4611686018427387904) (hk : ks.length < 1099511627776) : FnM 16 [.v (ptr g)] [stO g m u k n, unO u us, mkO k ks] (fun r os' => r = .val (.v (.int .i64 (n + 1))) ∧ ∃ k', os' = [stO g m u k' (n + 1), unO u us, mkO k' (ks ++ [mkD (n + 1, us.length)])]) := by
  refine FnM.walk 33 Try.func16 rfl Try.ntmps16 (by simp) fun X => ?_
  repeat
    (first
     | (apply P_move; (iterate 3 exact rfl)) | (apply P_assign; (iterate 3 exact rfl)) | (apply P_field; (iterate 6 exact rfl))
     | (apply P_load; exact rfl; (first | exact I0 | exact I1 | exact I2 | exact I3 | exact I4 | exact I5 | exact I6); (iterate 4 exact rfl))
     | (apply P_ar; (iterate 3 exact rfl); (focus omega); (focus omega); (iterate 2 exact rfl)) | (apply P_nilck; (iterate 3 exact rfl))
     | (apply P_store; exact rfl; (focus (repeat first | exact .z | apply SetAt.s | apply SetAtF.s)); (iterate 4 exact rfl)) | apply EL.nil | ((with_reducible apply EK.then_normal); apply EK.code)
     | (with_reducible first | apply EC.seq | apply EC.region | apply EC.skip | apply EC.label | apply EC.block | apply EC.exit | apply EC.ret | apply EK.in_normal | apply EK.in_same | apply EK.in_ret | apply EK.then_ret | apply EK.then_exit))
  refine EC.le (Le.pick [2, 0, 1] [_, _, _] rfl (by decide) rfl) ?_
  refine EC.drawC 17 [0, 1, 2, 3, 4, 5, 6, 7, 8, 9, 10, 11, 12, 13, 14, 15] [16] [_] _ (by kernel_rfl) (by kernel_rfl) rfl ?_
  simp only [pickL, List.filterMap_cons, List.filterMap_nil, List.getElem?_cons_zero, List.getElem?_cons_succ]
  repeat
    (first
     | (apply H_move; (iterate 3 exact rfl)) | (apply H_field; (iterate 6 exact rfl))
     | (apply H_load; exact rfl; (first | exact I0 | exact I1 | exact I2 | exact I3 | exact I4 | exact I5 | exact I6); (iterate 4 exact rfl))
     | (apply H_lenrow; exact rfl; (first | exact I0 | exact I1 | exact I2 | exact I3 | exact I4 | exact I5 | exact I6); (iterate 3 exact rfl)) | (apply H_build; (iterate 7 exact rfl))
     | (apply H_lit; (iterate 9 exact rfl)) | (apply H_nilck; (iterate 3 exact rfl)))
  refine EM.nil ?_
  repeat (first | rw [List.cons_append] | rw [List.nil_append])
  refine CH.mut (os := [_]) (rest := []) rfl rfl (m_append rfl rfl rfl rfl rfl ⟨by simp; omega, by simp; omega⟩) ?_
  rintro _ _ ⟨k', rfl, rfl⟩
  try simp only [St.put]
  repeat (first | rw [List.cons_append] | rw [List.nil_append])
  refine CH.nil ?_
  try simp only [List.drop_succ_cons, List.drop_zero]
  repeat
    (first
     | (apply P_move; (iterate 3 exact rfl)) | (apply P_assign; (iterate 3 exact rfl)) | (apply P_field; (iterate 6 exact rfl))
     | (apply P_load; exact rfl; (first | exact I0 | exact I1 | exact I2 | exact I3 | exact I4 | exact I5 | exact I6); (iterate 4 exact rfl)) | (apply P_nilck; (iterate 3 exact rfl))
     | (apply P_store; exact rfl; (focus (repeat first | exact .z | apply SetAt.s | apply SetAtF.s)); (iterate 4 exact rfl)) | apply EL.nil | ((with_reducible apply EK.then_normal); apply EK.code)
     | (with_reducible first | apply EC.seq | apply EC.region | apply EC.skip | apply EC.label | apply EC.block | apply EC.exit | apply EC.ret | apply EK.in_normal | apply EK.in_same | apply EK.in_ret | apply EK.then_ret | apply EK.then_exit))
  refine EK.le (Le.pick [1, 2, 0] [_, _, _] rfl (by decide) rfl) ?_
  exact EK.retM1s [stO g m u k' (n + 1), unO u us, mkO k' (ks ++ [mkD (n + 1, us.length)])] rfl rfl (by (repeat first | exact List.nil_sublist _ | apply List.Sublist.cons_cons | apply List.Sublist.cons)) ⟨rfl, k', rfl⟩
set_option maxRecDepth 20000 in
set_option maxHeartbeats 4000000 in
theorem back1 (x : Int × Int) (n0 : Int) : FnM 54 ([mkD x] ++ [.v (ptr g3)]) [.var g3 3 (.v (.int .i64 n0))] (fun r os' => r = .val (.v (.bool (decide (x.1 = n0)))) ∧ os' = [.var g3 3 (.v (.int .i64 n0))]) := by
  refine FnM.walk 8 Try.func54 rfl Try.ntmps54 (by simp) fun X => ?_
  repeat
    (first
     | (apply P_assign; (iterate 3 exact rfl)) | (apply P_field; (iterate 6 exact rfl))
     | (apply P_load; exact rfl; (first | exact I0 | exact I1 | exact I2 | exact I3 | exact I4 | exact I5 | exact I6); (iterate 4 exact rfl)) | (apply P_cmp; (iterate 5 exact rfl))
     | (apply P_box; exact rfl; exact rfl; exact rfl; intro _) | apply EL.nil | ((with_reducible apply EK.then_normal); apply EK.code)
     | (with_reducible first | apply EC.seq | apply EC.region | apply EC.skip | apply EC.label | apply EC.block | apply EC.exit | apply EC.ret | apply EK.in_normal | apply EK.in_same | apply EK.in_ret | apply EK.then_ret | apply EK.then_exit))
  exact EK.retM1s [.var g3 3 (.v (.int .i64 n0))] rfl rfl (by (repeat first | exact List.nil_sublist _ | apply List.Sublist.cons_cons | apply List.Sublist.cons)) ⟨rfl, rfl⟩
set_option maxRecDepth 20000 in
set_option maxHeartbeats 4000000 in
theorem index_one (x : Int × Int) : FnM 53 [.v k, .v (.func (.func 54) #[] #[ptr g3])] [.var g3 3 (.v (.int .i64 x.1)), mkO k [mkD x]] (fun r os' => r = .val (.v (.int .i64 0)) ∧ os' = [.var g3 3 (.v (.int .i64 x.1)), mkO k [mkD x]]) := by
  have h1 := back1 (g3 := g3) x x.1
  rw [show decide (x.1 = x.1) = true by simp] at h1
  refine FnM.walk 19 Try.func53 rfl Try.ntmps53 (by simp) fun X => ?_
  repeat
    (first
     | (apply P_move; (iterate 3 exact rfl)) | (apply P_assign; (iterate 3 exact rfl))
     | (apply P_lenrow; exact rfl; (first | exact I0 | exact I1 | exact I2 | exact I3 | exact I4 | exact I5 | exact I6); (iterate 3 exact rfl)) | apply EL.nil
     | ((with_reducible apply EK.then_normal); apply EK.code)
     | (with_reducible first | apply EC.seq | apply EC.region | apply EC.skip | apply EC.label | apply EC.block | apply EC.exit | apply EC.ret | apply EK.in_normal | apply EK.in_same | apply EK.in_ret | apply EK.then_ret | apply EK.then_exit))
  refine EC.loopN 2 (EK.round ?_)
  repeat
    (first
     | (apply P_rowload (k := 0) (off := 0) (d := mkD x); exact rfl; exact I1; exact ⟨rfl, rfl⟩; (iterate 4 exact rfl))
     | (apply P_callMV (caps := [ptr g3]) h1; (exact fun base ok L a w _ => caps_v (caps := [ptr g3]) (by simp [Value.oneCell'])); (iterate 3 exact rfl); exact RefineL.refl _ _; (focus (intro _ _; simp [go_sem]; done)); (iterate 2 exact rfl); rintro _ _ ⟨rfl, rfl⟩)
     | (apply P_move; (iterate 3 exact rfl)) | (apply P_assign; (iterate 3 exact rfl))
     | (apply P_cmp (b := true); (iterate 2 exact rfl); (focus (first | (simp [cmpI]; done) | (simp [cmpI]; omega))); (iterate 2 exact rfl))
     | (apply P_rowidx; exact rfl; (first | exact I0 | exact I1 | exact I2 | exact I3 | exact I4 | exact I5 | exact I6); (iterate 2 exact rfl); (focus (first | assumption | omega | (constructor <;> (first | (simp; done) | (simp; omega))))); (iterate 2 exact rfl))
     | apply EL.nil | ((with_reducible apply EK.then_normal); apply EK.code) | (apply EC.cond_true; exact rfl)
     | (with_reducible first | apply EC.seq | apply EC.region | apply EC.skip | apply EC.label | apply EC.block | apply EC.exit | apply EC.ret | apply EK.in_normal | apply EK.in_same | apply EK.in_ret | apply EK.then_ret | apply EK.then_exit))
  exact EK.retM1s [.var g3 3 (.v (.int .i64 x.1)), mkO k [mkD x]] rfl rfl (by (repeat first | exact List.nil_sublist _ | apply List.Sublist.cons_cons | apply List.Sublist.cons)) ⟨rfl, rfl⟩
set_option maxRecDepth 20000 in
set_option maxHeartbeats 4000000 in
theorem back_N {b0 : Int} (h : getE es a = some (.v (ptr ga))) : FnM 55 [.v (ptr g), wasN a b0] [stO g m u k n, smO m c es, acO ga b w cd sv] (fun r os' => r = .tpl [] ∧ os' = [stO g m u k n, smO m c es, acO ga b0 w cd sv]) := by
  have hg : (getE es a).getD (.v (.pointer none)) = .v (ptr ga) := by rw [h]; rfl
  refine FnM.walk 87 Try.func55 rfl Try.ntmps55 (by simp) fun X => ?_
  repeat
    (first
     | (apply P_move; (iterate 3 exact rfl)) | (apply P_extract; (iterate 4 exact rfl)) | (apply P_asYes; (iterate 4 exact rfl)) | (apply P_alloc; exact rfl; exact rfl; exact rfl; intro _)
     | (apply P_store; exact rfl; (focus (repeat first | exact .z | apply SetAt.s | apply SetAtF.s)); (iterate 4 exact rfl)) | apply EL.nil | ((with_reducible apply EK.then_normal); apply EK.code)
     | (apply EC.cond_true; exact rfl)
     | (with_reducible first | apply EC.seq | apply EC.region | apply EC.skip | apply EC.label | apply EC.block | apply EC.exit | apply EC.ret | apply EK.in_normal | apply EK.in_same | apply EK.in_ret | apply EK.then_ret | apply EK.then_exit))
  refine EC.draw 9 (by kernel_rfl) ?_
  simp only [List.take_succ_cons, List.take_zero, List.drop_succ_cons, List.drop_zero]
  repeat
    (first
     | (apply H_lookup; exact hg; exact rfl; (first | exact I0 | exact I1 | exact I2); (iterate 5 exact rfl)) | (apply H_move; (iterate 3 exact rfl)) | (apply H_field; (iterate 6 exact rfl))
     | (apply H_load; exact rfl; (first | exact I0 | exact I1 | exact I2 | exact I3 | exact I4 | exact I5 | exact I6); (iterate 4 exact rfl)) | (apply H_nilck; (iterate 3 exact rfl))
     | ((with_reducible apply EH.nil); exact rfl))
  repeat
    (first
     | (apply P_field; (iterate 6 exact rfl)) | (apply P_nilck; (iterate 3 exact rfl)) | (apply P_store; exact rfl; (focus (repeat first | exact .z | apply SetAt.s | apply SetAtF.s)); (iterate 4 exact rfl))
     | apply EL.nil
     | (with_reducible first | apply EC.seq | apply EC.region | apply EC.skip | apply EC.label | apply EC.block | apply EC.exit | apply EC.ret | apply EK.in_normal | apply EK.in_same | apply EK.in_ret | apply EK.then_ret | apply EK.then_exit))
  exact EK.retM0n [stO g m u k n, smO m c es, acO ga b0 w cd sv] rfl (by (repeat first | exact List.nil_sublist _ | apply List.Sublist.cons_cons | apply List.Sublist.cons)) ⟨rfl, rfl⟩
set_option maxRecDepth 20000 in
set_option maxHeartbeats 4000000 in
theorem back_one {b0 n0 : Int} (h : getE es a = some (.v (ptr ga))) : FnM 22 [.v (ptr g), .v (.int .i64 n0)] [stO g m u k n, smO m c es, unO u [wasN a b0], mkO k [mkD (n0, 0)], acO ga b w cd sv] (fun r os' => r = .val (.v (.bool true)) ∧ ∃ u' k', os' = [stO g m u' k' n, smO m c es, unO u' [], mkO k' [], acO ga b0 w cd sv]) := by
  have h1 := fun g3 => index_one (k := k) (g3 := g3) (n0, 0)
  have h2 := back_N (g := g) (m := m) (c := c) (u := u) (k := k) (n := n) (b := b) (b0 := b0) (w := w) (cd := cd) (sv := sv) h
  have hl1 : ([wasN a b0] : List D).length = 1 := rfl
  refine FnM.walk 64 Try.func22 rfl Try.ntmps22 (by simp) fun X => ?_
  repeat
    (first
     | (apply P_move; (iterate 3 exact rfl)) | (apply P_assign; (iterate 3 exact rfl)) | (apply P_field; (iterate 6 exact rfl))
     | (apply P_load; exact rfl; (first | exact I0 | exact I1 | exact I2 | exact I3 | exact I4 | exact I5 | exact I6); (iterate 4 exact rfl)) | (apply P_nilck; (iterate 3 exact rfl))
     | (apply P_mkfunc; (iterate 3 exact rfl)) | (apply P_box; exact rfl; exact rfl; exact rfl; intro _) | apply EL.nil | ((with_reducible apply EK.then_normal); apply EK.code)
     | (with_reducible first | apply EC.seq | apply EC.region | apply EC.skip | apply EC.label | apply EC.block | apply EC.exit | apply EC.ret | apply EK.in_normal | apply EK.in_same | apply EK.in_ret | apply EK.then_ret | apply EK.then_exit))
  rename_i g3
  refine EL.le (Le.pick [0, 4, 1, 2, 3, 5] [_, _, _, _, _, _] rfl (by decide) rfl) ?_
  repeat
    (first
     | ((apply P_callMD (h1 g3); (iterate 2 exact rfl); (focus (repeat first | exact RefineL.refl _ _ | exact RL.nil | exact Rf.same | exact Rf.bs0 | exact Rf.sl0 | (apply Rf.fact; (focus (simp; done)); exact rfl) | apply Rf.tup | apply RL.cons)); (focus (intro _ _; simp [go_sem]; done)); (iterate 2 exact rfl)))
     | (apply P_rowload (k := 0) (off := 1) (d := mkD (n0, 0)); exact rfl; (first | exact I1 | exact I2 | exact I3); exact ⟨rfl, rfl⟩; (iterate 4 exact rfl)) | (apply P_move; (iterate 3 exact rfl))
     | (apply P_assign; (iterate 3 exact rfl)) | (apply P_field; (iterate 6 exact rfl))
     | (apply P_load; exact rfl; (first | exact I0 | exact I1 | exact I2 | exact I3 | exact I4 | exact I5 | exact I6); (iterate 4 exact rfl))
     | (apply P_cmp (b := false); (iterate 2 exact rfl); (focus (first | (simp [cmpI]; done) | (simp [cmpI]; omega))); (iterate 2 exact rfl)) | (apply P_nilck; (iterate 3 exact rfl))
     | (apply P_rowfield; exact rfl; (first | exact I0 | exact I1 | exact I2 | exact I3 | exact I4 | exact I5 | exact I6); (focus (first | omega | (simp; done) | (simp; omega))); (iterate 5 exact rfl))
     | (apply P_rowidx; exact rfl; (first | exact I0 | exact I1 | exact I2 | exact I3 | exact I4 | exact I5 | exact I6); (iterate 2 exact rfl); (focus (first | assumption | omega | (constructor <;> (first | (simp; done) | (simp; omega))))); (iterate 2 exact rfl))
     | apply EL.nil | ((with_reducible apply EK.then_normal); apply EK.code) | (apply EC.cond_false; exact rfl)
     | (with_reducible first | apply EC.seq | apply EC.region | apply EC.skip | apply EC.label | apply EC.block | apply EC.exit | apply EC.ret | apply EK.in_normal | apply EK.in_same | apply EK.in_ret | apply EK.then_ret | apply EK.then_exit))
  refine EC.le (Le.pick [2, 3, 5, 4, 1, 0] [_, _, _, _, _, _] rfl (by decide) rfl) ?_
  refine EC.loopN 2 (EK.round ?_)
  repeat
    (first
     | ((apply P_callMD (h2); (iterate 2 exact rfl); (focus (repeat first | exact RefineL.refl _ _ | exact RL.nil | exact Rf.same | exact Rf.bs0 | exact Rf.sl0 | (apply Rf.fact; (focus (simp; done)); exact rfl) | apply Rf.tup | apply RL.cons)); (focus (intro _ _; simp [go_sem]; done)); (iterate 2 exact rfl)))
     | (apply P_rowidx; exact rfl; (first | exact I3 | exact I4); (iterate 2 exact rfl); exact ⟨by simp, by simp⟩; (iterate 2 exact rfl))
     | (apply P_rowload (k := 0) (off := 0) (d := wasN a b0); exact rfl; (first | exact I3 | exact I4); exact ⟨rfl, rfl⟩; (iterate 4 exact rfl))
     | (apply P_rowcut; exact rfl; (first | exact I3 | exact I4); (iterate 2 exact rfl); exact ⟨by simp, by simp⟩; (iterate 2 exact rfl)) | (apply P_move; (iterate 3 exact rfl))
     | (apply P_assign; (iterate 3 exact rfl)) | (apply P_field; (iterate 6 exact rfl))
     | (apply P_load; exact rfl; (first | exact I0 | exact I1 | exact I2 | exact I3 | exact I4 | exact I5 | exact I6); (iterate 4 exact rfl))
     | (apply P_cmp (b := true); (iterate 2 exact rfl); (focus (first | (simp [cmpI]; done) | (simp [cmpI]; omega))); (iterate 2 exact rfl))
     | (apply P_ar; (iterate 3 exact rfl); (focus omega); (focus omega); (iterate 2 exact rfl))
     | (apply P_lenrow; exact rfl; (first | exact I0 | exact I1 | exact I2 | exact I3 | exact I4 | exact I5 | exact I6); (iterate 3 exact rfl)) | (apply P_nilck; (iterate 3 exact rfl))
     | (apply P_store; exact rfl; (focus (repeat first | exact .z | apply SetAt.s | apply SetAtF.s)); (iterate 4 exact rfl)) | ((with_reducible apply EK.then_normal); apply EK.round) | apply EL.nil
     | ((with_reducible apply EK.then_normal); apply EK.code) | (apply EC.cond_true; exact rfl)
     | (with_reducible first | apply EC.seq | apply EC.region | apply EC.skip | apply EC.label | apply EC.block | apply EC.exit | apply EC.ret | apply EK.in_normal | apply EK.in_same | apply EK.in_ret | apply EK.then_ret | apply EK.then_exit))
  refine EL.le (Le.cutRow (k := 0) (v := u) (ds := [wasN a b0]) (Nat.zero_le _) (.s (.s (.s .z)))) ?_
  repeat
    (first
     | (apply P_rowcut; exact rfl; (first | exact I3 | exact I4); (iterate 2 exact rfl); exact ⟨by simp, by simp⟩; (iterate 2 exact rfl)) | (apply P_move; (iterate 3 exact rfl))
     | (apply P_assign; (iterate 3 exact rfl)) | (apply P_field; (iterate 6 exact rfl))
     | (apply P_load; exact rfl; (first | exact I0 | exact I1 | exact I2 | exact I3 | exact I4 | exact I5 | exact I6); (iterate 4 exact rfl))
     | (apply P_cmp (b := false); (iterate 2 exact rfl); (focus (first | (simp [cmpI]; done) | (simp [cmpI]; omega))); (iterate 2 exact rfl))
     | (apply P_lenrow; exact rfl; (first | exact I0 | exact I1 | exact I2 | exact I3 | exact I4 | exact I5 | exact I6); (iterate 3 exact rfl)) | (apply P_nilck; (iterate 3 exact rfl))
     | (apply P_store; exact rfl; (focus (repeat first | exact .z | apply SetAt.s | apply SetAtF.s)); (iterate 4 exact rfl)) | apply EL.nil | ((with_reducible apply EK.then_normal); apply EK.code)
     | (apply EC.cond_false; exact rfl)
     | (with_reducible first | apply EC.seq | apply EC.region | apply EC.skip | apply EC.label | apply EC.block | apply EC.exit | apply EC.ret | apply EK.in_normal | apply EK.in_same | apply EK.in_ret | apply EK.then_ret | apply EK.then_exit))
  trace_state
  refine EK.le (Le.cutRow (k := 0) (v := k) (ds := [mkD (n0, 0)]) (Nat.zero_le _) (.s (.s (.s (.s .z))))) ?_
  refine EK.le (Le.pick [0, 1, 3, 4, 2, 5] [_, _, _, _, _, _] rfl (by decide) rfl) ?_
  exact EK.retM1s [stO g m (cutV u 0) (cutV k 0) n, smO m c es, unO (cutV u 0) [], mkO (cutV k 0) [], acO ga b0 w cd sv] rfl rfl (by (repeat first | exact List.nil_sublist _ | apply List.Sublist.cons_cons | apply List.Sublist.cons)) ⟨rfl, _, _, rfl⟩
end
end E
end Go.Proofs.Ytdhicdnmgmkpkaa
