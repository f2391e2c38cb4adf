/-
  Merged (wip/tools/merge.py): ET, TE, Item, EItem0.
  Conditions: none.
-/
import Derived.Test.YtmlajcbabimkjaaZW13
import Derived.Test.YtmlajcbabimkjaaZW11
import Derived.Test.YtmlajcbabimkjaaZW7
import Derived.Test.YtmlajcbabimkjaaZW8
import Derived.Test.YtmlajcbabimkjaaZW2
import Derived.Laws.Rows
/-
  The abstract machine: regions that draw their order, whose writing operations are not all in one row: at each place all that are ready.
  Conditions: none.
-/
namespace Go.Proofs.Ytmlajcbabimkjaa
set_option linter.unusedVariables false
open Go.RowKit Mono Rlp
namespace E
def readyL (l : List Oper) (chain done : List Nat) : List Nat := chain.filter fun k => !done.contains k && match l[k]? with
  | some o => o.after.toList.all fun e => !(Region.binds .any e) || !chain.contains e.on || done.contains e.on
  | none => true
def CT (N : Nat) (l : List Oper) (os1 : List Obj) (T : St → Prop) (chain : List Nat) : Nat → List Nat → St → Prop
  | 0, _, S => T S
  | m + 1, done, S => ∀ k ∈ readyL l chain done, CH N l.toArray os1 (fun S' => CT N l os1 T chain m (k :: done) S') (pickL l [k]) S
theorem CT.pick {N : Nat} {l : List Oper} {os1 : List Obj} {T : St → Prop} {chain : List Nat} {m : Nat} {done : List Nat} {S : St} (ks : List Nat) (hk : readyL l chain done = ks) (h : ∀ k ∈ ks, CH N l.toArray os1 (fun S' => CT N l os1 T chain m (k :: done) S') (pickL l [k]) S) : CT N l os1 T chain (m + 1) done S := by
  unfold CT
  rw [hk]
  exact h
theorem CT.nil {N : Nat} {l : List Oper} {os1 : List Obj} {T : St → Prop} {chain : List Nat} {done : List Nat} {S : St} (h : T S) : CT N l os1 T chain 0 done S := h
def treeOkB (l : List Oper) (n : Nat) (free chain : List Nat) : Bool :=
  (List.range n).all (fun k => free.contains k != chain.contains k) && free.all (fun k => decide (k < n)) && chain.all (fun k => decide (k < n)) && decide (n ≤ l.length) &&
  (List.range free.length).all (fun i => (List.range i).all fun j => decide (free.getD j 0 < free.getD i 0)) && decide chain.Nodup &&
  (List.range n).all (fun k => match l[k]? with
    | some o => (o.looksAt l.toArray).all (fun t => (List.range n).all fun j => decide (j < k) || (l[j]?.bind (·.dst)) != some t) &&
      (match o.dst with
        | some t => (List.range k).all fun j => (l[j]?.bind (·.dst)) != some t
        | none => true)
    | none => false) &&
  free.all (fun k => match l[k]? with
    | some o => (o.looksAt l.toArray).all fun t => chain.all fun j => (l[j]?.bind (·.dst)) != some t
    | none => true)
structure TreeOk (l : List Oper) (n : Nat) (free chain : List Nat) : Prop where
  part : ∀ k, k < n → (k ∈ free ∧ k ∉ chain) ∨ (k ∉ free ∧ k ∈ chain)
  flt : ∀ k ∈ free, k < n
  clt : ∀ k ∈ chain, k < n
  le : n ≤ l.length
  fup : ∀ i j : Nat, j < i → i < free.length → free.getD j 0 < free.getD i 0
  nod : chain.Nodup
  back : ∀ (k j : Nat) (o oj : Oper) (t : Tmp), k < n → l[k]? = some o → t ∈ o.looksAt l.toArray → k ≤ j → j < n → l[j]? = some oj → oj.dst ≠ some t
  free : ∀ (k j : Nat) (o oj : Oper) (t : Tmp), k ∈ free → l[k]? = some o → t ∈ o.looksAt l.toArray → j ∈ chain → l[j]? = some oj → oj.dst ≠ some t
  once : ∀ (k j : Nat) (o oj : Oper) (t : Tmp), k < n → l[k]? = some o → o.dst = some t → j < k → l[j]? = some oj → oj.dst ≠ some t
theorem treeOk_of {l : List Oper} {n : Nat} {free chain : List Nat} (h : treeOkB l n free chain = true) : TreeOk l n free chain := by
  unfold treeOkB at h
  simp only [Bool.and_eq_true, List.all_eq_true, List.mem_range, decide_eq_true_eq] at h
  obtain ⟨⟨⟨⟨⟨⟨⟨h1, h2⟩, h3⟩, h4⟩, h5⟩, h6⟩, h8⟩, h9⟩ := h
  refine ⟨fun k hk => ?_, h2, h3, h4, fun i j hj hi => h5 i hi j hj, h6, fun k j o oj t hk ho ht hkj hj hoj e => ?_, fun k j o oj t hk ho ht hj hoj e => ?_, fun k j o oj t hk ho ht hj hoj e => ?_⟩
  · have := h1 k hk
    by_cases e1 : k ∈ free <;> by_cases e2 : k ∈ chain <;> simp [e1, e2] at this ⊢
  · have := h8 k hk
    rw [ho] at this
    simp only [Bool.and_eq_true, List.all_eq_true, List.mem_range] at this
    have := this.1 t ht j hj
    rw [hoj] at this
    simp [e] at this
    omega
  · have := h9 k hk
    rw [ho] at this
    simp only [List.all_eq_true] at this
    have := this t ht j hj
    rw [hoj] at this
    simp [e] at this
  · have := h8 k hk
    rw [ho] at this
    simp only [Bool.and_eq_true] at this
    have := this.2
    rw [ht] at this
    simp only [List.all_eq_true, List.mem_range] at this
    have := this j hj
    rw [hoj] at this
    simp [e] at this
section
variable {N : Nat} {X : Cx N} {S : St} {a : Act} {Q : Exit → Act → World → Prop} {l : List Oper}
set_option maxHeartbeats 2000000 in
theorem EC.drawT {id : Nat} (n : Nat) (free chain : List Nat) (os0 os1 : List Obj) (hB : monoB l.toArray n N = true) (hC : treeOkB l n free chain = true) (hS : S.objs = os0 ++ os1)
    (h : EM N l.toArray (fun S' _ => CT N l os1 (fun S'' => EL X l.toArray Q (l.drop n) S'') chain chain.length [] ⟨S'.regs, os0 ++ os1, S.facts⟩) (pickL l free) ⟨S.regs, os1, S.facts⟩ []) : EC X Q (.region id l.toArray true) S := by
  constructor
  intro a ws ha
  have C := treeOk_of hC
  obtain ⟨infs, hlen, hok, hT, hnp⟩ := em_list _ _ _ h
  have hfree := pickL_get (l := l) free fun k hk => Nat.lt_of_lt_of_le (C.flt k hk) C.le
  have hchain := pickL_get (l := l) chain fun k hk => Nat.lt_of_lt_of_le (C.clt k hk) C.le
  rw [hfree.1] at hlen hT
  have hdst : ∀ k o, l[k]? = some o → dstOf l.toArray k = o.dst := fun k o ho => by unfold dstOf; simp [ho]
  have hsl : ∀ k o L vs (b : Act) t, k < n → l[k]? = some o → t ∈ o.looksAt l.toArray → SlotOk l.toArray L vs a b k t → (∃ j oj, j < n ∧ l[j]? = some oj ∧ oj.dst = some t ∧ L j ∧ b.tmps.getD t undef = vs j) ∨ ((∀ j o, j < n → l[j]? = some o → o.dst ≠ some t) ∧ b.tmps.getD t undef = a.tmps.getD t undef) := fun k o L vs b t hk ho ht hs => by
    rcases hs with ⟨j, h1, h2, h3, h4, h5⟩ | ⟨h1, h2⟩
    · have hj : j < l.length := by have := C.le; omega
      exact .inl ⟨j, l[j], by omega, by simp, by rw [← hdst j l[j] (by simp)]; exact h2, h4, h5⟩
    · refine .inr ⟨fun j oj hj hoj e => ?_, h2⟩
      rcases Nat.lt_or_ge j k with h3 | h3
      · exact h1 j h3 (by rw [hdst j oj hoj]; exact e)
      · exact C.back k j o oj t hk ho ht h3 hj hoj e
  have huniq : ∀ j j' o o' t, j < n → j' < n → l[j]? = some o → l[j']? = some o' → o.dst = some t → o'.dst = some t → j = j' := fun j j' o o' t hj hj' ho ho' hd hd' => by
    rcases Nat.lt_trichotomy j j' with h | h | h
    · exact absurd hd (C.once j' j o' o t hj' ho' hd' h ho)
    · exact h
    · exact absurd hd' (C.once j j' o o' t hj ho hd h ho')
  -- what is known of the free operations' slots
  let RF := (stAt ⟨S.regs, os1, S.facts⟩ (pickL l free) infs free.length).regs
  have hRF : ∀ t r, look RF t = some r → (∃ p o i, p < free.length ∧ l[free.getD p 0]? = some o ∧ infs[p]? = some i ∧ o.dst = some t ∧ r = i.reg) ∨ look S.regs t = some r := fun t r hr => by
    rcases stAt_from _ _ _ _ _ _ hr with ⟨q, oq, iq, h1, h2, h3, h4, h5⟩ | h1
    · exact .inl ⟨q, oq, iq, h1, by rw [← hfree.2 q h1]; exact h2, h3, h4, h5⟩
    · exact .inr h1
  have hfl : ∀ p, p < free.length → free.getD p 0 < n ∧ free.getD p 0 ∈ free := fun p hp => by
    have : free.getD p 0 ∈ free := by
      rw [List.getD_eq_getElem?_getD, List.getElem?_eq_getElem hp]
      exact List.getElem_mem hp
    exact ⟨C.flt _ this, this⟩
  have hcl : ∀ p, p < chain.length → chain.getD p 0 < n ∧ chain.getD p 0 ∈ chain := fun p hp => by
    have : chain.getD p 0 ∈ chain := by
      rw [List.getD_eq_getElem?_getD, List.getElem?_eq_getElem hp]
      exact List.getElem_mem hp
    exact ⟨C.clt _ this, this⟩
  have hput : ∀ p o i, p < free.length → l[free.getD p 0]? = some o → infs[p]? = some i → ∀ t, o.dst = some t → look RF t = some i.reg := fun p o i hp ho hi t ht => by
    have hlk := (stAt_look (pickL l free) infs free.length ⟨S.regs, os1, S.facts⟩ t (by rw [hlen, hfree.1]) (by rw [hfree.1]; exact Nat.le_refl _)).1
    refine hlk p o i hp (by rw [hfree.2 p hp]; exact ho) hi ht fun m om h1 h2 h3 e => ?_
    rw [hfree.2 m h2] at h3
    have := huniq _ _ _ _ t (hfl p hp).1 (hfl m h2).1 ho h3 ht e
    have := C.fup m p h1 h2
    omega
  have hmono : ∀ p o t r, p < free.length → l[free.getD p 0]? = some o → t ∈ o.looksAt l.toArray → look (stAt ⟨S.regs, os1, S.facts⟩ (pickL l free) infs p).regs t = some r → look RF t = some r := fun p o t r hp ho ht hr => by
    rcases stAt_from _ _ _ _ _ _ hr with ⟨q, oq, iq, h1, h2, h3, h4, h5⟩ | h1
    · rw [h5]
      have hq : q < free.length := by omega
      exact hput q oq iq hq (by rw [← hfree.2 q hq]; exact h2) h3 t h4
    · have hlk := (stAt_look (pickL l free) infs free.length ⟨S.regs, os1, S.facts⟩ t (by rw [hlen, hfree.1]) (by rw [hfree.1]; exact Nat.le_refl _)).2
      have hpre := (stAt_look (pickL l free) infs p ⟨S.regs, os1, S.facts⟩ t (by rw [hlen, hfree.1]) (by rw [hfree.1]; exact Nat.le_of_lt hp))
      by_cases hex : ∃ m om, m < p ∧ (pickL l free)[m]? = some om ∧ om.dst = some t
      · -- what was put ahead stays
        obtain ⟨m, om, g1, g2, g3⟩ := hex
        have hm : m < free.length := by omega
        obtain ⟨inf, hi⟩ : ∃ inf, infs[m]? = some inf := ⟨infs[m]'(by omega), by simp⟩
        have e1 := hpre.1 m om inf g1 g2 hi g3 fun m' om' h1 h2 h3 e => by
          rw [hfree.2 m' (by omega)] at h3
          rw [hfree.2 m hm] at g2
          have := huniq _ _ _ _ t (hfl m hm).1 (hfl m' (by omega)).1 g2 h3 g3 e
          have := C.fup m' m h1 (by omega)
          omega
        rw [hr] at e1
        cases e1
        exact hput m om inf hm (by rw [← hfree.2 m hm]; exact g2) hi t g3
      have := hlk fun m om h2 h3 e => by
        rcases Nat.lt_or_ge m p with h4 | h4
        · exact hex ⟨m, om, h4, h3, e⟩
        · rw [hfree.2 m h2] at h3
          have hle : free.getD p 0 ≤ free.getD m 0 := by
            rcases Nat.lt_or_ge p m with h5 | h5
            · exact Nat.le_of_lt (C.fup m p h5 h2)
            · rw [show m = p by omega]; exact Nat.le_refl _
          exact C.back _ _ o om t (hfl p hp).1 ho ht hle (hfl m h2).1 h3 e
      show look (stAt ⟨S.regs, os1, S.facts⟩ (pickL l free) infs free.length).regs t = some r
      rw [this]
      exact h1
  have hT' : CT N l os1 (fun S'' => EL X l.toArray Q (l.drop n) S'') chain chain.length [] ⟨RF, os0 ++ os1, S.facts⟩ := hT
  clear hT h
  refine wp_region_set' n (by kernel_rfl) (by rw [ha.size]; exact hB) (fun L vs u => ∃ m done Si, done.length + m = chain.length ∧ done.Nodup ∧ (∀ q ∈ done, q ∈ chain) ∧ (∀ q ∈ chain, (q ∈ done ↔ L q)) ∧ CT N l os1 (fun S'' => EL X l.toArray Q (l.drop n) S'') chain m done Si ∧ Real X l n chain a RF os1 S.facts Si L vs u) ?_ ?_ ?_ ?_
  · rintro L L' vs vs' w hL hvs ⟨m, done, Si, h1, h2, h3, h6, h4, h5⟩
    obtain rfl : L = L' := funext fun j => propext (hL j)
    refine ⟨m, done, Si, h1, h2, h3, h6, h4, h5.mem, h5.tail, h5.facts, fun t r hr => ?_, h5.free⟩
    obtain ⟨g1, g2⟩ := h5.regs t r hr
    exact ⟨fun j o hj ho hd hL => by rw [← hvs j hL]; exact g1 j o hj ho hd hL, g2⟩
  · have had : At X S a ws.drew := ha.gr (by exact ⟨rfl, rfl, rfl, Nat.le_refl _, fun _ _ => rfl⟩)
    refine ⟨chain.length, [], ⟨RF, os0 ++ os1, S.facts⟩, Nat.zero_add _, List.nodup_nil, fun q hq => by simp at hq, fun q _ => ⟨fun h => by simp at h, fun h => h.elim⟩, hT', ?_, ⟨os0, rfl⟩, rfl, fun t r hr => ⟨fun _ _ _ _ _ h => h.elim, fun hno => ?_⟩, fun t r hr _ => hr⟩
    · rw [← hS]; exact had.mem
    · rcases hRF t r hr with ⟨p, o, i, h1, h2, h3, h4, h5⟩ | h1
      · exact absurd h4 (hno _ o (hfl p h1).1 h2)
      · rw [← hS]
        exact had.regs t r h1
  · intro k o L vs b u hk ho hL hLk ⟨m, done, Si, h1, h2, h3, h6, h4, h5⟩ hslot hwait
    rcases C.part k hk with ⟨hkf, hkc⟩ | ⟨hkf, hkc⟩
    · -- a free operation
      obtain ⟨p, hp, rfl⟩ : ∃ p, p < free.length ∧ free.getD p 0 = k := by
        obtain ⟨p, hp⟩ := List.getElem?_of_mem hkf
        exact ⟨p, (List.getElem?_eq_some_iff.1 hp).1, by rw [List.getD_eq_getElem?_getD, hp]; rfl⟩
      obtain ⟨inf, hi⟩ : ∃ inf, infs[p]? = some inf := ⟨infs[p]'(by omega), by simp⟩
      obtain ⟨hO, _, _⟩ := hok p o inf (by rw [hfree.2 p hp]; exact ho) hi
      have hkn : Kn X.mine (X.ok Si.objs u) (fun t => t ∈ o.looksAt l.toArray) (stAt ⟨S.regs, os1, S.facts⟩ (pickL l free) infs p) b u := by
        obtain ⟨os, hos⟩ := h5.tail
        refine ⟨fun q hq => ?_, fun f hf => ?_, fun b hb => hb.2.1, fun t r ht hr => ?_⟩
        · rw [(stAt_objs _ _ _ _).1] at hq
          exact h5.mem.at_ q (by rw [hos]; exact List.mem_append_right _ hq)
        · rw [(stAt_objs _ _ _ _).2] at hf
          exact h5.mem.fact f (by rw [h5.facts]; exact hf)
        · obtain ⟨g1, g2⟩ := h5.regs t r (h5.free t r (hmono p o t r hp ho ht hr) fun j oj hj hoj => C.free _ j o oj t hkf ho ht hj hoj)
          rcases hsl _ o L vs b t hk ho ht (hslot t ht) with ⟨j, oj, e1, e2, e3, e4, e5⟩ | ⟨e1, e2⟩
          · rw [e5]; exact g1 j oj e1 e2 e3 e4
          · rw [e2]; exact g2 e1
      have hnext : ∀ v u', Gr u u' → ReadR (X.ok Si.objs u') u' inf.reg v → ∃ m done Si, done.length + m = chain.length ∧ done.Nodup ∧ (∀ q ∈ done, q ∈ chain) ∧ (∀ q ∈ chain, (q ∈ done ↔ (q = free.getD p 0 ∨ L q))) ∧ CT N l os1 (fun S'' => EL X l.toArray Q (l.drop n) S'') chain m done Si ∧ Real X l n chain a RF os1 S.facts Si (fun j => j = free.getD p 0 ∨ L j) (fun j => if j = free.getD p 0 then v else vs j) u' := fun v u' hg hv => by
        refine ⟨m, done, Si, h1, h2, h3, fun q hq => ⟨fun h => .inr ((h6 q hq).1 h), fun h => (h6 q hq).2 (h.resolve_left fun e => hkc (by rw [← e]; exact hq))⟩, h4, h5.mem.grown hg, h5.tail, h5.facts, fun t r hr => ?_, h5.free⟩
        · obtain ⟨g1, g2⟩ := h5.regs t r hr
          refine ⟨fun j oj hj hoj hd hLj => ?_, fun hno => readR_gr hg (g2 hno)⟩
          by_cases e : j = free.getD p 0
          · rw [if_pos e]
            subst e
            obtain rfl : oj = o := Option.some.inj (hoj.symm.trans ho)
            have := h5.free t _ (hput p oj inf hp ho hi t hd) fun j' oj' hj' hoj' e' => by
              have := huniq _ _ _ _ t hk (C.clt j' hj') hoj hoj' hd e'
              exact hkc (by rw [this]; exact hj')
            rw [hr] at this
            cases this
            exact hv
          · rw [if_neg e]
            exact readR_gr hg (g1 j oj hj hoj hd (hLj.resolve_left e))
      cases inf with
      | still r =>
        obtain ⟨hg, hSt⟩ := hO
        refine ⟨fun _ => ?_, fun hw => by rw [wanted_kn hkn hg] at hw; cases hw⟩
        obtain ⟨v, e1, e2⟩ := hSt _ _ b u hkn
        rw [e1]
        exact hnext v u (Gr.refl u) e2
      | grow r =>
        obtain ⟨hg, hSt⟩ := hO
        refine ⟨fun _ => setsTo_of_grows (hSt _ _ b u hkn) (fun v w' hgr hv => ?_), fun hw => by rw [wanted_kn hkn hg] at hw; cases hw⟩
        obtain ⟨r', rfl, hv⟩ := hv
        exact hnext v w' hgr (hv.mono (fun b hb => more_ok h5.mem hgr hb) fun _ _ => rfl)
      | put p q => cases hnp _ _ hi
      | skip =>
        refine ⟨fun hw => (by rw [wanted_kn hkn hO] at hw; cases hw), fun _ => ?_⟩
        exact hnext undef u (Gr.refl u) ⟨[], rfl, rfl⟩
      | new T d =>
        obtain ⟨hg, hSt⟩ := hO
        refine ⟨fun _ => ?_, fun hw => by rw [wanted_kn hkn hg] at hw; cases hw⟩
        obtain ⟨cs, e1, e2⟩ := hSt _ _ b u hkn
        rw [e1]
        exact hnext _ _ (gr_alloc u _) trivial
    · -- the next of the chain
      have hkd : k ∉ done := fun h => hLk ((h6 k hkc).1 h)
      obtain ⟨m, rfl⟩ : ∃ m', m = m' + 1 := by
        cases m with
        | succ m => exact ⟨m, rfl⟩
        | zero =>
          exfalso
          have hlt := (List.nodup_cons.2 ⟨hkd, h2⟩).length_le_of_subset (fun q hq => by
            rcases List.mem_cons.1 hq with rfl | hq
            · exact hkc
            · exact h3 q hq : (k :: done) ⊆ chain)
          simp at hlt
          omega
      have hready : k ∈ readyL l chain done := by
        unfold readyL
        refine List.mem_filter.2 ⟨hkc, ?_⟩
        rw [ho]
        simp only [Bool.and_eq_true, Bool.not_eq_true', List.all_eq_true, Bool.or_eq_true]
        refine ⟨by simpa using hkd, fun e he => ?_⟩
        cases hb : Region.binds .any e with
        | false => exact .inl (.inl rfl)
        | true =>
          have h7 := hwait e (by simpa using he) hb
          by_cases hc : e.on ∈ chain
          · exact .inr (by simpa using (h6 e.on hc).2 h7)
          · exact .inl (.inr (by simpa using hc))
      have h4 := h4 k hready
      rw [show pickL l [k] = [o] by unfold pickL; simp [ho]] at h4
      obtain ⟨hdN, h4⟩ := h4
      have hkreg : ∀ t r, t ∈ o.looksAt l.toArray → look Si.regs t = some r → ReadR (X.ok Si.objs u) u r (b.tmps.getD t undef) := fun t r ht hr => by
        obtain ⟨g1, g2⟩ := h5.regs t r hr
        rcases hsl _ o L vs b t hk ho ht (hslot t ht) with ⟨j, oj, e1, e2, e3, e4, e5⟩ | ⟨e1, e2⟩
        · rw [e5]; exact g1 j oj e1 e2 e3 e4
        · rw [e2]; exact g2 e1
      have hkn : Kn X.mine (X.ok Si.objs u) (fun t => t ∈ o.looksAt l.toArray) Si b u := ⟨h5.mem.at_, h5.mem.fact, fun b hb => hb.2.1, fun t r ht hr => hkreg t r ht hr⟩
      have hnext : ∀ v u' objs' r', Mem X objs' Si.facts u' → (∃ os, objs' = os ++ os1) → (∀ b, X.ok Si.objs u b → X.ok objs' u' b) → (∀ p : Addr, X.ok Si.objs u p.block → u'.cell? p = u.cell? p) → ReadR (X.ok objs' u') u' r' v →
          CH N l.toArray os1 (fun S' => CT N l os1 (fun S'' => EL X l.toArray Q (l.drop n) S'') chain m (k :: done) S') [] (St.put ⟨Si.regs, objs', Si.facts⟩ o.dst r') →
          ∃ m done Si, done.length + m = chain.length ∧ done.Nodup ∧ (∀ q ∈ done, q ∈ chain) ∧ (∀ q ∈ chain, (q ∈ done ↔ (q = k ∨ L q))) ∧ CT N l os1 (fun S'' => EL X l.toArray Q (l.drop n) S'') chain m done Si ∧ Real X l n chain a RF os1 S.facts Si (fun j => j = k ∨ L j) (fun j => if j = k then v else vs j) u' := fun v u' objs' r' hmem htail hmok hcell hv hCH => by
        have hobj : (St.put ⟨Si.regs, objs', Si.facts⟩ o.dst r').objs = objs' := by cases o.dst <;> rfl
        have hfac : (St.put ⟨Si.regs, objs', Si.facts⟩ o.dst r').facts = Si.facts := by cases o.dst <;> rfl
        refine ⟨m, k :: done, _, by rw [List.length_cons]; omega, List.nodup_cons.2 ⟨hkd, h2⟩, fun q hq => ?_, fun q hq => ?_, hCH, by rw [hobj, hfac]; exact hmem, by rw [hobj]; exact htail, by rw [hfac]; exact h5.facts, fun t r hr => ?_, fun t r hr hno => ?_⟩
        · rcases List.mem_cons.1 hq with rfl | hq
          · exact hkc
          · exact h3 q hq
        · rw [List.mem_cons, h6 q hq]
        · rw [hobj]
          have hcase : (o.dst = some t ∧ r = r') ∨ (o.dst ≠ some t ∧ look Si.regs t = some r) := by
            cases hd : o.dst with
            | none => rw [hd] at hr; exact .inr ⟨(fun e => by cases e), hr⟩
            | some d =>
              rw [hd] at hr
              simp only [St.put, look] at hr
              split at hr
              · rename_i e
                cases hr
                exact .inl ⟨by rw [e], rfl⟩
              · rename_i e
                exact .inr ⟨fun e' => e (by injection e'), hr⟩
          rcases hcase with ⟨hd, rfl⟩ | ⟨hd, hr⟩
          · refine ⟨fun j oj hj hoj hd' _ => ?_, fun hno => absurd hd (hno _ o hk ho)⟩
            rw [if_pos (huniq _ _ _ _ t hj hk hoj ho hd' hd)]
            exact hv
          · obtain ⟨g1, g2⟩ := h5.regs t r hr
            refine ⟨fun j oj hj hoj hd' hLj => ?_, fun hno => (g2 hno).mono hmok hcell⟩
            have hne : j ≠ k := fun e => by
              subst e
              obtain rfl : oj = o := Option.some.inj (hoj.symm.trans ho)
              exact hd hd'
            rw [if_neg hne]
            exact (g1 j oj hj hoj hd' (hLj.resolve_left hne)).mono hmok hcell
        · cases hd : o.dst with
          | none => exact h5.free t r hr hno
          | some d =>
            simp only [St.put, look]
            rw [if_neg fun e => hno _ o hkc ho (by rw [hd, e])]
            exact h5.free t r hr hno
      rcases h4 with ⟨inf, hnp', hO, hCH⟩ | ⟨os, rest, Φ, hos, hg, hO, hCH⟩
      · have hgr : ∀ v u', Gr u u' → ReadR (X.ok Si.objs u') u' inf.reg v → _ := fun v u' hg hv => hnext v u' Si.objs inf.reg (h5.mem.grown hg) h5.tail (fun b hb => ok_gr hg hb) (fun p hp => ok_cell hg p hp) hv hCH
        cases inf with
        | still r =>
          obtain ⟨hg, hSt⟩ := hO
          refine ⟨fun _ => ?_, fun hw => by rw [wanted_kn hkn hg] at hw; cases hw⟩
          obtain ⟨v, e1, e2⟩ := hSt _ _ b u hkn
          rw [e1]
          exact hgr v u (Gr.refl u) e2
        | grow r =>
          obtain ⟨hg, hSt⟩ := hO
          refine ⟨fun _ => setsTo_of_grows (hSt _ _ b u hkn) (fun v w' hgr' hv => ?_), fun hw => by rw [wanted_kn hkn hg] at hw; cases hw⟩
          obtain ⟨r', rfl, hv⟩ := hv
          exact hgr v w' hgr' (hv.mono (fun b hb => more_ok h5.mem hgr' hb) fun _ _ => rfl)
        | put p q => cases hnp'
        | skip =>
          refine ⟨fun hw => (by rw [wanted_kn hkn hO] at hw; cases hw), fun _ => ?_⟩
          exact hgr undef u (Gr.refl u) ⟨[], rfl, rfl⟩
        | new T d =>
          obtain ⟨hg, hSt⟩ := hO
          refine ⟨fun _ => ?_, fun hw => by rw [wanted_kn hkn hg] at hw; cases hw⟩
          obtain ⟨cs, e1, e2⟩ := hSt _ _ b u hkn
          rw [e1]
          exact hgr _ _ (gr_alloc u _) trivial
      · obtain ⟨rs, objs, fs⟩ := Si
        dsimp only at hos
        subst hos
        refine ⟨fun _ => ?_, fun hw => by rw [wanted_kn hkn hg] at hw; cases hw⟩
        have := hO.go X.mine (X.ok (os ++ (rest ++ os1)) u) b u ⟨fun q hq => hkn.objs q (List.mem_append_right _ hq), hkn.facts, hkn.lt, hkn.regs⟩ h5.mem.own
        refine setsTo_mono this fun v u' ⟨r, os', e1, e2, e3⟩ => ?_
        exact hnext v u' (os' ++ (rest ++ os1)) r (h5.mem.turned e2) ⟨os' ++ rest, by rw [List.append_assoc]⟩ (fun b hb => turned_old h5.mem e2 hb) (turned_cell h5.mem e2) (e3.mono (fun b hb => turned_ok h5.mem e2 hb) fun _ _ => rfl) (hCH r os' e1)
  · intro vs u b ⟨m, done, Si, h1, h2, h3, h6, h4, h5⟩ hs hd hslot
    obtain rfl : m = 0 := by
      have hle := C.nod.length_le_of_subset (fun q hq => (h6 q hq).2 (C.clt q hq) : chain ⊆ done)
      omega
    have h4' : EL X l.toArray Q (l.drop n) Si := h4
    refine h4'.go b u ⟨h5.mem, fun t r hr => ?_, hs.trans ha.size, hd.trans ha.defers⟩
    obtain ⟨g1, g2⟩ := h5.regs t r hr
    rcases hslot t with ⟨j, e1, e2, e3, e4, e5⟩ | ⟨e1, e2⟩
    · rw [e5]
      have hj : j < l.length := by have := C.le; omega
      exact g1 j l[j] e1 (by simp) (by rw [← hdst j l[j] (by simp)]; exact e2) e4
    · rw [e2]
      exact g2 fun j o hj ho e => e1 j hj (by rw [hdst j o ho]; exact e)
end
end E
end Go.Proofs.Ytmlajcbabimkjaa
/-
  The abstract machine, more: slices of bytes and of arrays that are known, an array's part, interfaces beside nil, what writes no piece.
  Conditions: none.
-/
namespace Go.Proofs.Ytmlajcbabimkjaa
set_option linter.unusedVariables false
open Go.RowKit Mono Rlp
namespace E
section
variable {N : Nat} {X : Cx N} {S : St} {ops : Array Oper} {o : Oper} {Q : Exit → Act → World → Prop} {l : List Oper} {TT : St → List Fr → Prop} {EE : List Fr} {rs : List (Tmp × R)} {os : List Obj} {fs : List (Value × D)}
theorem g_slpd {x : Operand} {T n m : Nat} {b : List UInt8} (hA : SliceA T n) (hn : Nat.ble n 4096 = true) (ho : o.op = .slice T x none none none) (hx : ev S x = some (.val (.pd (.arr m b)))) (hm : m = n) (h0 : Nat.blt 0 n = true) : Still ops S o (.val (.bs b)) := fun base ok a w ha => by
  subst hm
  have h1 := (readV_one rfl).1 (ha.ev hx fun t e => looks_of e (by rw [ho]; simp [Op.operands]))
  rw [Reads] at h1
  obtain ⟨g, k, cs, e, hg, hr, h2⟩ := h1
  rw [Reads] at h2
  obtain ⟨hl, rfl⟩ := h2
  have e' : a.eval x = .pointer (some ⟨g, k, none⟩) := List.singleton_inj.1 e
  simp only [Nat.ble_eq] at hn
  refine ⟨.slice (some ⟨g, k, none⟩) m m, ?_, (readV_one rfl).2 ?_⟩
  · unfold execOp
    simp only [ho, e', Option.map_none, Sem.run_bind, hA.ok w g k, Result.andThen_ok, Sem.run_pure]
  · rw [Reads]
    refine ⟨_, rfl, some ⟨g, k, none⟩, m, by rw [hl], by omega, by simp [maxLen]; omega, fun _ => ⟨g, k, rfl, hg, fun j u hu => hr j u hu⟩⟩
theorem P_slpd {t ty : Nat} {pos : String} {af : Array Edge} {gd : Option (Nat × Bool)} {x : Operand} {T n m : Nat} {b : List UInt8} (hA : SliceA T n) (hn : Nat.ble n 4096 = true) (hx : ev (⟨rs, os, fs⟩ : St) x = some (.val (.pd (.arr m b)))) (hm : m = n) (h0 : Nat.blt 0 n = true) (hg : guardOf ops ⟨rs, os, fs⟩ ⟨some t, .slice T x none none none, ty, pos, af, gd⟩ = some true) (hN : Nat.blt t N = true) (kk : EL X ops Q l ⟨(t, .val (.bs b)) :: rs, os, fs⟩) : EL X ops Q (⟨some t, .slice T x none none none, ty, pos, af, gd⟩ :: l) ⟨rs, os, fs⟩ := ES.still (g_slpd hA hn rfl hx hm h0) hg rfl hN kk
theorem H_slpd {t ty : Nat} {pos : String} {af : Array Edge} {gd : Option (Nat × Bool)} {x : Operand} {T n m : Nat} {b : List UInt8} (hA : SliceA T n) (hn : Nat.ble n 4096 = true) (hx : ev (⟨rs, os, fs⟩ : St) x = some (.val (.pd (.arr m b)))) (hm : m = n) (h0 : Nat.blt 0 n = true) (hg : guardOf ops ⟨rs, os, fs⟩ ⟨some t, .slice T x none none none, ty, pos, af, gd⟩ = some true) (hoff : offB N (some t) EE = true) (kk : EM N ops TT l ⟨(t, .val (.bs b)) :: rs, os, fs⟩ EE) : EM N ops TT (⟨some t, .slice T x none none none, ty, pos, af, gd⟩ :: l) ⟨rs, os, fs⟩ EE := EH.still (g_slpd hA hn rfl hx hm h0) hg rfl hoff kk
theorem bs_take1 {x y : Operand} {T e b : Nat} {k : Int} {m : List UInt8} (ho : o.op = .slice T x none (some y) none) (hx : ev S x = some (.val (.bs m))) (hy : ev S y = some (.val (.v (.int .i64 k)))) (hT : assoc slL T = some (e, 1, b)) (hk : 0 ≤ k ∧ k.toNat ≤ m.length) : Still ops S o (.val (.bs (m.take k.toNat))) := fun base ok a w ha => by
  obtain ⟨A, c, h1, h2, h3, h4⟩ := bs_ex (ha.ev hx (looks_op (by rw [ho]; simp [Op.operands])))
  have hy' := ev_v ha hy (looks_op (by rw [ho]; simp [Op.operands]))
  obtain ⟨hu, hs⟩ := elem_und hT
  refine ⟨.slice (if c = 0 then A else A.map (·.add (0 * 1))) (k.toNat - 0) (c - 0), ?_, bs_mk ⟨A, c, ?_, by rw [List.length_take]; omega, h3, fun hne => ?_⟩⟩
  · unfold execOp
    simp only [ho, h1, hy', Option.map_none, Option.map_some, Sem.run_bind]
    rw [run_sliceAt_slice _ _ _ _ _ _ hu, run_slice_h _ _ _ _ _ hu _ _ (by omega) (by omega), hs]
    simp only [Result.andThen_ok, Sem.run_pure, sliced]
  · have h5 : (if c = 0 then A else A.map (·.add (0 * 1))) = A := by
      split
      · rfl
      · cases A <;> simp [Addr.add]
    rw [h5, List.length_take, Nat.min_eq_left hk.2]
    rfl
  · rw [bvs_take] at hne ⊢
    obtain ⟨b, o, e1, e2, e3⟩ := h4 (fun e => hne (by rw [e]; simp))
    refine ⟨b, o, e1, e2, fun j u hu => e3 j u ?_⟩
    rw [List.getElem?_take] at hu
    split at hu
    · exact hu
    · cases hu
theorem bs_from1 {x y : Operand} {T e b : Nat} {k : Int} {m : List UInt8} (ho : o.op = .slice T x (some y) none none) (hx : ev S x = some (.val (.bs m))) (hy : ev S y = some (.val (.v (.int .i64 k)))) (hT : assoc slL T = some (e, 1, b)) (hk : 0 ≤ k ∧ k.toNat ≤ m.length) : Still ops S o (.val (.bs (m.drop k.toNat))) := fun base ok a w ha => by
  obtain ⟨A, c, h1, h2, h3, h4⟩ := bs_ex (ha.ev hx (looks_op (by rw [ho]; simp [Op.operands])))
  have hy' := ev_v ha hy (looks_op (by rw [ho]; simp [Op.operands]))
  obtain ⟨hu, hs⟩ := elem_und hT
  refine ⟨.slice (if c = k.toNat then A else A.map (·.add (k.toNat * 1))) (m.length - k.toNat) (c - k.toNat), ?_, bs_mk ⟨if c = k.toNat then A else A.map (·.add (k.toNat * 1)), c - k.toNat, by rw [List.length_drop], by rw [List.length_drop]; omega, by omega, ?_⟩⟩
  · unfold execOp
    have hr : (Instr.sliceAt T (.slice A m.length c) (some (.int .i64 k)) none none).run Try.prog w = .ok (.slice (if c = k.toNat then A else A.map (·.add (k.toNat * 1))) (m.length - k.toNat) (c - k.toNat)) w := by
      rw [run_sliceAt_slice (P := Try.prog) w T _ _ _ _ hu, run_slice_l (P := Try.prog) w T A m.length c hu .i64 k hk.1 (by omega), hs]
      rfl
    simp only [ho, h1, hy', Option.map_none, Option.map_some, Sem.run_bind, hr, Result.andThen_ok, Sem.run_pure]
  · have := rdp_drop (z := 1) h4 (by rw [bvs_length, Nat.mul_one]) h2 k.toNat hk.2
    rw [Nat.mul_one] at this
    rw [Nat.mul_one]
    unfold bvs at this ⊢
    rw [List.map_drop]
    exact this
theorem H_bsto {t ty : Nat} {pos : String} {af : Array Edge} {gd : Option (Nat × Bool)} {x y : Operand} {T e b : Nat} {k : Int} {m : List UInt8} (hx : ev (⟨rs, os, fs⟩ : St) x = some (.val (.bs m))) (hy : ev (⟨rs, os, fs⟩ : St) y = some (.val (.v (.int .i64 k)))) (hT : assoc slL T = some (e, 1, b)) (hk : 0 ≤ k ∧ k.toNat ≤ m.length) (hg : guardOf ops ⟨rs, os, fs⟩ ⟨some t, .slice T x none (some y) none, ty, pos, af, gd⟩ = some true) (hoff : offB N (some t) EE = true) (kk : EM N ops TT l ⟨(t, .val (.bs (m.take k.toNat))) :: rs, os, fs⟩ EE) : EM N ops TT (⟨some t, .slice T x none (some y) none, ty, pos, af, gd⟩ :: l) ⟨rs, os, fs⟩ EE := EH.still (bs_take1 rfl hx hy hT hk) hg rfl hoff kk
theorem H_bsfrom {t ty : Nat} {pos : String} {af : Array Edge} {gd : Option (Nat × Bool)} {x y : Operand} {T e b : Nat} {k : Int} {m : List UInt8} (hx : ev (⟨rs, os, fs⟩ : St) x = some (.val (.bs m))) (hy : ev (⟨rs, os, fs⟩ : St) y = some (.val (.v (.int .i64 k)))) (hT : assoc slL T = some (e, 1, b)) (hk : 0 ≤ k ∧ k.toNat ≤ m.length) (hg : guardOf ops ⟨rs, os, fs⟩ ⟨some t, .slice T x (some y) none none, ty, pos, af, gd⟩ = some true) (hoff : offB N (some t) EE = true) (kk : EM N ops TT l ⟨(t, .val (.bs (m.drop k.toNat))) :: rs, os, fs⟩ EE) : EM N ops TT (⟨some t, .slice T x (some y) none none, ty, pos, af, gd⟩ :: l) ⟨rs, os, fs⟩ EE := EH.still (bs_from1 rfl hx hy hT hk) hg rfl hoff kk
theorem g_indextup {x y : Operand} {T n e z : Nat} {k : Int} {ds : List D} {d : D} (ho : o.op = .index T x y) (hx : ev S x = some (.val (.tup ds))) (hy : ev S y = some (.val (.v (.int .i64 k)))) (hT : assoc arL T = some (n, e, z)) (hz : z = 1) (he : ∀ w, (isAgg e).run Try.prog w = .ok false w) (hs : ∀ d ∈ ds, d.size = 1 ∧ d.agg = false) (hn : ds.length = n) (hk : 0 ≤ k ∧ ds[k.toNat]? = some d) : Still ops S o (.val d) := fun base ok a w ha => by
  subst hz
  obtain ⟨cs, h1, h2⟩ := (readV_agg rfl).1 (ha.ev hx (looks_op (by rw [ho]; simp [Op.operands])))
  have hy' := ev_v ha hy (looks_op (by rw [ho]; simp [Op.operands]))
  obtain ⟨hk', rfl⟩ := List.getElem?_eq_some_iff.1 hk.2
  rw [Reads] at h1
  have hcs : ∀ (ds : List D) (cs : List Value), (∀ d ∈ ds, d.size = 1 ∧ d.agg = false) → ReadsL ok w ds cs → cs.length = ds.length ∧ ∀ (i : Nat) (hi : i < ds.length), ∃ u, cs[i]? = some u ∧ Reads ok w ds[i] [u] := by
    intro ds
    induction ds with
    | nil =>
      intro cs _ h
      rw [ReadsL] at h
      subst h
      exact ⟨rfl, fun i hi => absurd hi (Nat.not_lt_zero _)⟩
    | cons d ds ih =>
      intro cs hd h
      rw [ReadsL] at h
      obtain ⟨c1, c2, rfl, g1, g2⟩ := h
      obtain ⟨u, rfl⟩ : ∃ u, c1 = [u] := List.length_eq_one_iff.1 ((Reads.len _ _ g1).trans (hd d (by simp)).1)
      obtain ⟨i1, i2⟩ := ih c2 (fun d hd' => hd d (by simp [hd'])) g2
      refine ⟨by simp [i1], fun i hi => ?_⟩
      cases i with
      | zero => exact ⟨u, rfl, g1⟩
      | succ i => simpa using i2 i (by simpa using hi)
  obtain ⟨hl, hat⟩ := hcs ds cs hs h1
  obtain ⟨u, hu, hr⟩ := hat k.toNat hk'
  refine ⟨u, ?_, (readV_one (hs _ (List.getElem_mem hk')).2).2 hr⟩
  have hlt : k < (n : Int) := by omega
  have hA := arI' hT
  have hrun : (Instr.index T (.agg cs.toArray) (.int .i64 k)).run Try.prog w = .ok u w := by
    unfold Instr.index
    have h0 := hk.1
    simp [run_underlying hA.und, asIntOf, h0, hlt, run_size hA.size, part, he, hu]
  unfold execOp
  simp only [ho, h2, hy', Sem.run_bind, hrun, Result.andThen_ok, Sem.run_pure]
theorem Still.refine {d d' : D} (h : Still ops S o (.val d)) (hR : RefineL S.facts [d] [d']) : Still ops S o (.val d') := fun base ok a w ha => by
  obtain ⟨v, h1, h2⟩ := h base ok a w ha
  exact ⟨v, h1, Refine1.readV ha.facts hR h2⟩
theorem P_buildR {t ty : Nat} {pos : String} {af : Array Edge} {gd : Option (Nat × Bool)} {T : Nat} {parts : Array (Nat × Operand)} {lf : List (Nat × Nat × Bool)} {d0 d d' : D} {ps : List (Nat × D)} (hx : evps (⟨rs, os, fs⟩ : St) parts.toList = some ps) (hT : assoc stL T = some lf) (hz : assoc zeroL T = some d0) (hd0 : d0.agg = true) (hf : fillD (lf.map fun x => (x.1, x.2.1)) d0 ps = some d) (hR : RefineL fs [d] [d']) (hg : guardOf ops ⟨rs, os, fs⟩ ⟨some t, .build T parts, ty, pos, af, gd⟩ = some true) (hN : Nat.blt t N = true) (kk : EL X ops Q l ⟨(t, (.val d')) :: rs, os, fs⟩) : EL X ops Q (⟨some t, .build T parts, ty, pos, af, gd⟩ :: l) ⟨rs, os, fs⟩ := ES.still (Still.refine (g_buildI rfl hx hT hz hd0 hf) hR) hg rfl hN kk
theorem H_buildR {t ty : Nat} {pos : String} {af : Array Edge} {gd : Option (Nat × Bool)} {T : Nat} {parts : Array (Nat × Operand)} {lf : List (Nat × Nat × Bool)} {d0 d d' : D} {ps : List (Nat × D)} (hx : evps (⟨rs, os, fs⟩ : St) parts.toList = some ps) (hT : assoc stL T = some lf) (hz : assoc zeroL T = some d0) (hd0 : d0.agg = true) (hf : fillD (lf.map fun x => (x.1, x.2.1)) d0 ps = some d) (hR : RefineL fs [d] [d']) (hg : guardOf ops ⟨rs, os, fs⟩ ⟨some t, .build T parts, ty, pos, af, gd⟩ = some true) (hoff : offB N (some t) EE = true) (kk : EM N ops TT l ⟨(t, (.val d')) :: rs, os, fs⟩ EE) : EM N ops TT (⟨some t, .build T parts, ty, pos, af, gd⟩ :: l) ⟨rs, os, fs⟩ EE := EH.still (Still.refine (g_buildI rfl hx hT hz hd0 hf) hR) hg rfl hoff kk
end
theorem FnM.toFn {f : FuncId} {ds : List D} {Φ : R → Prop} (h : FnM f ds [] (fun r os' => Φ r ∧ os' = [])) : Fn f ds Φ := ⟨fun ok w xs hok hr => by
  refine (h.go ok w xs hok ⟨fun o ho => by simp at ho, .nil, fun b ⟨o, ho, _⟩ => by simp at ho⟩ hr).mono ?_
  rintro e w' ⟨v, r, os', rfl, ⟨hΦ, rfl⟩, ht, hv⟩
  refine ⟨ht.gr.gr fun b ⟨o, ho, _⟩ => by simp at ho, v, r, rfl, hΦ, hv.mono (fun b hb => ⟨?_, hb.2.1⟩) fun _ _ => rfl⟩
  rcases hb.1 with h | ⟨o, ho, _⟩ | h
  · exact .inl h
  · simp at ho
  · exact .inr h⟩
end E
end Go.Proofs.Ytmlajcbabimkjaa
/-
  Items in memory; rlp's of.
  Conditions: none.
-/
namespace Go.Proofs.Ytmlajcbabimkjaa
set_option linter.unusedVariables false
open Go.RowKit Mono Rlp
mutual
def ItemAtP (ok : Nat → Prop) (w : World) : Raw → List Value → Prop
  | .mk b bs xs, cs => ∃ vb A c rows, cs = [.bool b, vb, .slice A xs.length c] ∧ IsBP ok w vb bs ∧ xs.length ≤ c ∧ c ≤ maxLen ∧ (A = none → xs.length = 0 ∧ c = 0) ∧ RdP ok w A rows.flatten ∧ ItemsAtP ok w xs rows
def ItemsAtP (ok : Nat → Prop) (w : World) : List Raw → List (List Value) → Prop
  | [], rows => rows = []
  | x :: xs, rows => ∃ r rest, rows = r :: rest ∧ ItemAtP ok w x r ∧ ItemsAtP ok w xs rest
end
def ItemAt (w : World) (x : Raw) (cs : List Value) : Prop := ItemAtP (fun b => b < w.heap.size) w x cs
def ItemsAt (w : World) (xs : List Raw) (rows : List (List Value)) : Prop := ItemsAtP (fun b => b < w.heap.size) w xs rows
mutual
theorem ItemAtP.mono {ok ok' : Nat → Prop} {w w' : World} (h1 : ∀ b, ok b → ok' b) (h2 : ∀ p : Addr, ok p.block → w'.cell? p = w.cell? p) : ∀ (x : Raw) (cs : List Value), ItemAtP ok w x cs → ItemAtP ok' w' x cs
  | .mk b bs xs, cs, h => by
    rw [ItemAtP] at h ⊢
    obtain ⟨vb, A, c, rows, g1, g2, g3, g4, g5, g6, g7⟩ := h
    exact ⟨vb, A, c, rows, g1, g2.mono h1 h2, g3, g4, g5, g6.mono h1 h2, ItemsAtP.mono h1 h2 xs rows g7⟩
theorem ItemsAtP.mono {ok ok' : Nat → Prop} {w w' : World} (h1 : ∀ b, ok b → ok' b) (h2 : ∀ p : Addr, ok p.block → w'.cell? p = w.cell? p) : ∀ (xs : List Raw) (rows : List (List Value)), ItemsAtP ok w xs rows → ItemsAtP ok' w' xs rows
  | [], rows, h => by rw [ItemsAtP] at h ⊢; exact h
  | x :: xs, rows, h => by
    rw [ItemsAtP] at h ⊢
    obtain ⟨r, rest, g1, g2, g3⟩ := h
    exact ⟨r, rest, g1, ItemAtP.mono h1 h2 x r g2, ItemsAtP.mono h1 h2 xs rest g3⟩
end
theorem ItemAt.eq (w : World) (b : Bool) (bs : List UInt8) (xs : List Raw) (cs : List Value) : ItemAt w (.mk b bs xs) cs = ∃ vb A c rows, cs = [.bool b, vb, .slice A xs.length c] ∧ IsB w vb bs ∧ xs.length ≤ c ∧ c ≤ maxLen ∧ (A = none → xs.length = 0 ∧ c = 0) ∧ Rd w w.heap.size A rows.flatten ∧ ItemsAt w xs rows := by
  unfold ItemAt
  rw [ItemAtP]
  rfl
theorem ItemsAt.nil_eq (w : World) (rows : List (List Value)) : ItemsAt w [] rows = (rows = []) := by unfold ItemsAt; rw [ItemsAtP]
theorem ItemsAt.cons_eq (w : World) (x : Raw) (xs : List Raw) (rows : List (List Value)) : ItemsAt w (x :: xs) rows = ∃ r rest, rows = r :: rest ∧ ItemAt w x r ∧ ItemsAt w xs rest := by
  unfold ItemsAt
  rw [ItemsAtP]
  rfl
theorem ItemAt.gr {w w' : World} (hg : Gr w w') (x : Raw) (cs : List Value) (h : ItemAt w x cs) : ItemAt w' x cs :=
  ItemAtP.mono (fun b hb => Nat.lt_of_lt_of_le hb hg.size) (fun p hp => hg.cell hp) x cs h
theorem ItemsAt.gr {w w' : World} (hg : Gr w w') (xs : List Raw) (rows : List (List Value)) (h : ItemsAt w xs rows) : ItemsAt w' xs rows :=
  ItemsAtP.mono (fun b hb => Nat.lt_of_lt_of_le hb hg.size) (fun p hp => hg.cell hp) xs rows h
theorem ItemsAtP.append {ok : Nat → Prop} {w : World} : ∀ (xs ys : List Raw) (rows rest : List (List Value)), ItemsAtP ok w xs rows → ItemsAtP ok w ys rest → ItemsAtP ok w (xs ++ ys) (rows ++ rest)
  | [], ys, rows, rest, h, h2 => by rw [ItemsAtP] at h; subst h; exact h2
  | x :: xs, ys, rows, rest, h, h2 => by
    rw [ItemsAtP] at h
    obtain ⟨r, rs, rfl, h3, h4⟩ := h
    rw [List.cons_append, ItemsAtP]
    exact ⟨r, rs ++ rest, rfl, h3, ItemsAtP.append xs ys rs rest h4 h2⟩
theorem ItemAtP.len {ok : Nat → Prop} {w : World} {x : Raw} {cs : List Value} (h : ItemAtP ok w x cs) : ∃ b A1 n1 c1 A n c, cs = [.bool b, .slice A1 n1 c1, .slice A n c] := by
  cases x
  rw [ItemAtP] at h
  obtain ⟨vb, A, c, rows, h1, ⟨A1, c1, rfl, _⟩, _⟩ := h
  exact ⟨_, _, _, _, _, _, _, h1⟩
theorem ItemAt.len {w : World} {x : Raw} {cs : List Value} (h : ItemAt w x cs) : ∃ b vb A n c, cs = [.bool b, vb, .slice A n c] := by
  cases x
  rw [ItemAt.eq] at h
  obtain ⟨vb, A, c, rows, h1, _⟩ := h
  exact ⟨_, _, _, _, _, h1⟩
theorem ItemsAt.length {w : World} : ∀ (xs : List Raw) (rows : List (List Value)), ItemsAt w xs rows → rows.length = xs.length
  | [], rows, h => by rw [ItemsAt.nil_eq] at h; rw [h]; rfl
  | x :: xs, rows, h => by
    rw [ItemsAt.cons_eq] at h
    obtain ⟨r, rest, rfl, _, h3⟩ := h
    simp [ItemsAt.length xs rest h3]
theorem ItemsAt.get {w : World} : ∀ (xs : List Raw) (rows : List (List Value)), ItemsAt w xs rows → ∀ k (hk : k < xs.length), ∃ cs, ItemAt w xs[k] cs ∧ ∀ j u, cs[j]? = some u → rows.flatten[k * 3 + j]? = some u
  | [], rows, _, k, hk => by simp at hk
  | x :: xs, rows, h, k, hk => by
    rw [ItemsAt.cons_eq] at h
    obtain ⟨r, rest, rfl, h2, h3⟩ := h
    obtain ⟨b, vb, A, n, c, hr⟩ := h2.len
    have hr3 : r.length = 3 := by rw [hr]; rfl
    cases k with
    | zero =>
      refine ⟨r, h2, fun j u hu => ?_⟩
      have hj := (List.getElem?_eq_some_iff.1 hu).1
      rw [Nat.zero_mul, Nat.zero_add, List.flatten_cons, List.getElem?_append_left hj]
      exact hu
    | succ k =>
      obtain ⟨cs, h4, h5⟩ := ItemsAt.get xs rest h3 k (by simpa using hk)
      refine ⟨cs, h4, fun j u hu => ?_⟩
      rw [List.flatten_cons, List.getElem?_append_right (by omega), hr3, ← h5 j u hu]
      congr 1
      omega
def IsItem (w : World) (v : Value) (x : Raw) : Prop := ∃ cs, v = .agg cs.toArray ∧ ItemAt w x cs
def IsItems (w : World) (v : Value) (xs : List Raw) : Prop := ∃ A c rows, v = .slice A xs.length c ∧ xs.length ≤ c ∧ c ≤ maxLen ∧ (A = none → xs.length = 0 ∧ c = 0) ∧ Rd w w.heap.size A rows.flatten ∧ ItemsAt w xs rows
theorem IsItem.gr {w w' : World} {v : Value} {x : Raw} (h : IsItem w v x) (hg : Gr w w') : IsItem w' v x := by
  obtain ⟨cs, h1, h2⟩ := h
  exact ⟨cs, h1, h2.gr hg⟩
theorem IsItems.gr {w w' : World} {v : Value} {xs : List Raw} (h : IsItems w v xs) (hg : Gr w w') : IsItems w' v xs := by
  obtain ⟨A, c, rows, h1, h2, h3, h4, h5, h6⟩ := h
  exact ⟨A, c, rows, h1, h2, h3, h4, h5.gr hg, h6.gr hg⟩
theorem isItem_form {w : World} {v : Value} {b : Bool} {bs : List UInt8} {xs : List Raw} (h : IsItem w v (.mk b bs xs)) : ∃ vb vl, v = .agg #[.bool b, vb, vl] ∧ IsB w vb bs ∧ IsItems w vl xs := by
  obtain ⟨cs, rfl, h⟩ := h
  rw [ItemAt.eq] at h
  obtain ⟨vb, A, c, rows, rfl, h2, h3, h4, h5, h6, h7⟩ := h
  exact ⟨vb, _, rfl, h2, A, c, rows, rfl, h3, h4, h5, h6, h7⟩
theorem IsItems.nil (w : World) : IsItems w (.slice none 0 0) [] := ⟨none, 0, [], rfl, Nat.le_refl _, by simp [maxLen], fun _ => ⟨rfl, rfl⟩, Rd.nil, by rw [ItemsAt.nil_eq]⟩
theorem items_at {w : World} {A : Option Addr} {xs : List Raw} {rows : List (List Value)} (hr : Rd w w.heap.size A rows.flatten) (h : ItemsAt w xs rows) (k : Nat) (hk : k < xs.length) :
    ∃ bl o f vb vl, A = some ⟨bl, o, none⟩ ∧ bl < w.heap.size ∧ w.cell? ⟨bl, o + k * 3, none⟩ = some (.bool f) ∧ w.cell? ⟨bl, o + k * 3 + 1, none⟩ = some vb ∧ w.cell? ⟨bl, o + k * 3 + 2, none⟩ = some vl ∧
      IsItem w (.agg #[.bool f, vb, vl]) xs[k] ∧ (∃ A' n c, vb = .slice A' n c) ∧ (∃ A' n c, vl = .slice A' n c) := by
  obtain ⟨cs, h1, h2⟩ := ItemsAt.get xs rows h k hk
  obtain ⟨f, vb, A', n, c, rfl⟩ := h1.len
  have hvb : ∃ A' n c, vb = .slice A' n c := by
    have h3 := h1
    generalize xs[k] = x at h3
    obtain ⟨b', bs', xs'⟩ := x
    rw [ItemAt.eq] at h3
    obtain ⟨vb', A2, c2, rows2, h4, h5, _⟩ := h3
    simp only [List.cons.injEq] at h4
    obtain ⟨A3, c3, h6, _⟩ := h5
    exact ⟨_, _, _, h4.2.1.trans h6⟩
  have hne : rows.flatten ≠ [] := fun e => by
    have := h2 0 _ rfl
    rw [e] at this
    simp at this
  obtain ⟨bl, o, rfl, hb, hc⟩ := hr hne
  exact ⟨bl, o, f, vb, .slice A' n c, rfl, hb, hc _ _ (h2 0 _ rfl), hc _ _ (h2 1 _ rfl), hc _ _ (h2 2 _ rfl), ⟨_, rfl, h1⟩, hvb, A', n, c, rfl⟩
@[go_sem] theorem as_bytes (v : Value) (w : World) : (Instr.typeAssert (.iface 23 v) 145 23 true).run Try.prog w = .ok (.tuple #[v, .bool true]) w := by kernel_rfl
@[go_sem] theorem as_bytes_no (v : Value) (w : World) : (Instr.typeAssert (.iface 39 v) 145 23 true).run Try.prog w = .ok (.tuple #[.slice none 0 0, .bool false]) w := by kernel_rfl
@[go_sem] theorem as_items (v : Value) (w : World) : (Instr.typeAssert (.iface 39 v) 145 39 true).run Try.prog w = .ok (.tuple #[v, .bool true]) w := by kernel_rfl
def IsOf (w : World) (v : Value) : Raw → Prop
  | .mk false bs _ => ∃ vb, v = .iface 23 vb ∧ IsB w vb bs
  | .mk true _ xs => ∃ vl, v = .iface 39 vl ∧ IsItems w vl xs
theorem IsOf.gr {w w' : World} {v : Value} {x : Raw} (h : IsOf w v x) (hg : Gr w w') : IsOf w' v x := by
  obtain ⟨b, bs, xs⟩ := x
  cases b
  · obtain ⟨vb, h1, h2⟩ := h
    exact ⟨vb, h1, h2.gr hg⟩
  · obtain ⟨vb, h1, h2⟩ := h
    exact ⟨vb, h1, h2.gr hg⟩
set_option maxHeartbeats 400000 in
theorem rlp_of (v : Value) (x : Raw) (w : World) (h : IsItem w v x) : Calls Try.prog 76 #[v] w (Ret (fun v w' => IsOf w' v x) w) := by
  obtain ⟨b, bs, xs⟩ := x
  obtain ⟨vb, vl, rfl, h1, h2⟩ := isItem_form h
  have H1 := Lib.hid h1
  have H2 := Lib.hid h2
  clear h h1 h2
  cases b with
  | false =>
    go_enter Try.func76, Try.ntmps76
    go_wp2
    refine bodyPost_ret (results_tmp rfl _ _ _) rfl ?_
    exact ⟨_, rfl, gr_alloc w _, _, rfl, H1.out.gr (gr_alloc w _)⟩
  | true =>
    go_enter Try.func76, Try.ntmps76
    go_wp2
    refine bodyPost_ret (results_tmp rfl _ _ _) rfl ?_
    exact ⟨_, rfl, gr_alloc w _, _, rfl, H2.out.gr (gr_alloc w _)⟩
def ItemIn (ok : Nat → Prop) (w : World) (v : Value) (x : Raw) : Prop := ∃ cs, v = .agg cs.toArray ∧ ItemAtP ok w x cs
theorem ItemIn.mono {ok ok' : Nat → Prop} {w w' : World} {v : Value} {x : Raw} (h : ItemIn ok w v x) (h1 : ∀ b, ok b → ok' b) (h2 : ∀ p : Addr, ok p.block → w'.cell? p = w.cell? p) : ItemIn ok' w' v x := by
  obtain ⟨cs, e, h⟩ := h
  exact ⟨cs, e, ItemAtP.mono h1 h2 x cs h⟩
theorem ItemIn.is {ok : Nat → Prop} {w : World} {v : Value} {x : Raw} (h : ItemIn ok w v x) (h1 : ∀ b, ok b → b < w.heap.size) : IsItem w v x := h.mono h1 fun _ _ => rfl
theorem itemIn_bytes {ok : Nat → Prop} {w : World} {vb : Value} {l : List UInt8} (h : IsBP ok w vb l) : ItemIn ok w (.agg #[.bool false, vb, .slice none 0 0]) (.mk false l []) := by
  refine ⟨[.bool false, vb, .slice none 0 0], rfl, ?_⟩
  rw [ItemAtP]
  exact ⟨vb, none, 0, [], rfl, h, Nat.le_refl _, by simp [maxLen], fun _ => ⟨rfl, rfl⟩, fun hn => absurd rfl hn, by rw [ItemsAtP]⟩
end Go.Proofs.Ytmlajcbabimkjaa
/-
  Items, slots, changes, diffs as the abstract machine reads them; what the functions of rlp and of the reference yield of them.
  Conditions: none.
-/
namespace Go.Proofs.Ytmlajcbabimkjaa
set_option linter.unusedVariables false
open Go.RowKit Mono Rlp
namespace E
mutual
def dItem : Raw → D
  | .mk b bs xs => .tup [.v (.bool b), .bs bs, .sl 3 (dItems xs)]
def dItems : List Raw → List D
  | [] => []
  | x :: xs => dItem x :: dItems xs
end
theorem dItems_map : ∀ xs : List Raw, dItems xs = xs.map dItem
  | [] => rfl
  | x :: xs => by rw [dItems, List.map_cons, dItems_map xs]
theorem dItems_length (xs : List Raw) : (dItems xs).length = xs.length := by rw [dItems_map, List.length_map]
section
variable {ok : Nat → Prop} {w : World}
theorem dItem_size (x : Raw) : (dItem x).size = 3 := by
  obtain ⟨b, bs, xs⟩ := x
  rw [dItem]
  rfl
theorem dItem_agg (x : Raw) : (dItem x).agg = true := by
  obtain ⟨b, bs, xs⟩ := x
  rw [dItem]
  rfl
mutual
theorem reads_item : ∀ (x : Raw) (cs : List Value), Reads ok w (dItem x) cs ↔ ItemAtP ok w x cs
  | .mk b bs xs, cs => by
    rw [dItem, Reads, ItemAtP, ReadsL]
    constructor
    · rintro ⟨c1, c2, rfl, h1, h2⟩
      rw [ReadsL] at h2
      obtain ⟨c3, c4, rfl, h3, h4⟩ := h2
      rw [ReadsL] at h4
      obtain ⟨c5, c6, rfl, h5, h6⟩ := h4
      rw [ReadsL] at h6
      subst h6
      rw [Reads] at h1
      rw [Reads] at h3
      rw [Reads] at h5
      obtain ⟨u, rfl, h3⟩ := h3
      obtain ⟨A, c, rows, rfl, g2, g3, g4, g5, g6⟩ := h5
      rw [h1.2]
      rw [dItems_length] at *
      exact ⟨u, A, c, rows, rfl, h3, g2, g3, g4, g5, (reads_items xs rows).1 g6⟩
    · rintro ⟨vb, A, c, rows, rfl, g1, g2, g3, g4, g5, g6⟩
      refine ⟨[.bool b], [vb, .slice A xs.length c], rfl, by rw [Reads]; exact ⟨rfl, rfl⟩, ?_⟩
      rw [ReadsL]
      refine ⟨[vb], [.slice A xs.length c], rfl, by rw [Reads]; exact ⟨vb, rfl, g1⟩, ?_⟩
      rw [ReadsL]
      refine ⟨[.slice A xs.length c], [], rfl, ?_, by rw [ReadsL]⟩
      rw [Reads, dItems_length]
      exact ⟨A, c, rows, rfl, g2, g3, g4, g5, (reads_items xs rows).2 g6⟩
theorem reads_items : ∀ (xs : List Raw) (rows : List (List Value)), ReadsRows ok w 3 (dItems xs) rows ↔ ItemsAtP ok w xs rows
  | [], rows => by rw [dItems, ReadsRows, ItemsAtP]
  | x :: xs, rows => by
    rw [dItems, ReadsRows, ItemsAtP]
    constructor
    · rintro ⟨r, rest, rfl, h1, h2, h3⟩
      exact ⟨r, rest, rfl, (reads_item x r).1 h2, (reads_items xs rest).1 h3⟩
    · rintro ⟨r, rest, rfl, h2, h3⟩
      have h4 := (reads_item x r).2 h2
      exact ⟨r, rest, rfl, by rw [Reads.len _ _ h4, dItem_size], h4, (reads_items xs rest).2 h3⟩
end
theorem readV_item {x : Raw} {v : Value} : ReadV ok w (dItem x) v ↔ ItemIn ok w v x := by
  rw [readV_agg (dItem_agg x)]
  constructor
  · rintro ⟨cs, h, rfl⟩
    exact ⟨cs, rfl, (reads_item x cs).1 h⟩
  · rintro ⟨cs, rfl, h⟩
    exact ⟨cs, (reads_item x cs).2 h, rfl⟩
theorem isItem_of (hok : ∀ b, ok b → b < w.heap.size) {x : Raw} {v : Value} (h : ReadV ok w (dItem x) v) : IsItem w v x := ItemIn.is (readV_item.1 h) hok
theorem tpl2 {d e : D} {x y : Value} (h1 : ReadV ok w d x) (h2 : ReadV ok w e y) : ReadR ok w (.tpl [d, e]) (.tuple #[x, y]) := ⟨[x, y], rfl, x, [y], rfl, h1, y, [], rfl, h2, rfl⟩
end
/-! ### What functions yield -/
def packD (o : Option (List UInt8)) : R := match o with
  | some b => .tpl [.bs b, .v (.int .i64 0)]
  | none => .tpl [.v (.slice none 0 0), .v (.int .i64 3)]
theorem more_new {ok : Nat → Prop} {w w' : World} (b : Nat) (h : w.heap.size ≤ b ∧ b < w'.heap.size) : (ok b ∨ w.heap.size ≤ b) ∧ b < w'.heap.size := ⟨.inr h.1, h.2⟩
end E
end Go.Proofs.Ytmlajcbabimkjaa
