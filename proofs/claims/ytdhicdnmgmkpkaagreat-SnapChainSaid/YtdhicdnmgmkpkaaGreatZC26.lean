/-
  Merged (wip/tools/merge.py): ET, SN2, SN3.
  Conditions: none.
-/
import Derived.Test.YtdhicdnmgmkpkaaGreatZC20
import Derived.Test.YtdhicdnmgmkpkaaGreatZC25
import Derived.Test.YtdhicdnmgmkpkaaGreatZC19
/-
  The abstract machine: regions that draw their order, whose writing operations are not all in one row: at each place all that are ready.
  Conditions: none.
-/
namespace Go.Proofs.YtdhicdnmgmkpkaaGreat
set_option linter.unusedVariables false
open Go.RowKit Mono Rlp
namespace E
def readyL (l : List Oper) (chain done : List Nat) : List Nat := chain.filter fun k => !done.contains k && match l[k]? with
  | some o => o.after.toList.all fun e => !(Region.binds .any e) || !chain.contains e.on || done.contains e.on
  | none => true
def CT (N : Nat) (l : List Oper) (os1 : List Obj) (T : St → Prop) (chain : List Nat) : Nat → List Nat → St → Prop
  | 0, _, S => T S
  | m + 1, done, S => ∀ k ∈ readyL l chain done, CH N l.toArray os1 (fun S' => CT N l os1 T chain m (k :: done) S') (pickL l [k]) S
theorem CT.pick {N : Nat} {l : List Oper} {os1 : List Obj} {T : St → Prop} {chain : List Nat} {m : Nat} {done : List Nat} {S : St} (ks : List Nat) (hk : readyL l chain done = ks) (h : ∀ k ∈ ks, CH N l.toArray os1 (fun S' => CT N l os1 T chain m (k :: done) S') (pickL l [k]) S) : CT N l os1 T chain (m + 1) done S := by
  unfold CT
  rw [hk]
  exact h
theorem CT.nil {N : Nat} {l : List Oper} {os1 : List Obj} {T : St → Prop} {chain : List Nat} {done : List Nat} {S : St} (h : T S) : CT N l os1 T chain 0 done S := h
def treeOkB (l : List Oper) (n : Nat) (free chain : List Nat) : Bool :=
  (List.range n).all (fun k => free.contains k != chain.contains k) && free.all (fun k => decide (k < n)) && chain.all (fun k => decide (k < n)) && decide (n ≤ l.length) &&
  (List.range free.length).all (fun i => (List.range i).all fun j => decide (free.getD j 0 < free.getD i 0)) && decide chain.Nodup &&
  (List.range n).all (fun k => match l[k]? with
    | some o => (o.looksAt l.toArray).all (fun t => (List.range n).all fun j => decide (j < k) || (l[j]?.bind (·.dst)) != some t) &&
      (match o.dst with
        | some t => (List.range k).all fun j => (l[j]?.bind (·.dst)) != some t
        | none => true)
    | none => false) &&
  free.all (fun k => match l[k]? with
    | some o => (o.looksAt l.toArray).all fun t => chain.all fun j => (l[j]?.bind (·.dst)) != some t
    | none => true)
structure TreeOk (l : List Oper) (n : Nat) (free chain : List Nat) : Prop where
  part : ∀ k, k < n → (k ∈ free ∧ k ∉ chain) ∨ (k ∉ free ∧ k ∈ chain)
  flt : ∀ k ∈ free, k < n
  clt : ∀ k ∈ chain, k < n
  le : n ≤ l.length
  fup : ∀ i j : Nat, j < i → i < free.length → free.getD j 0 < free.getD i 0
  nod : chain.Nodup
  back : ∀ (k j : Nat) (o oj : Oper) (t : Tmp), k < n → l[k]? = some o → t ∈ o.looksAt l.toArray → k ≤ j → j < n → l[j]? = some oj → oj.dst ≠ some t
  free : ∀ (k j : Nat) (o oj : Oper) (t : Tmp), k ∈ free → l[k]? = some o → t ∈ o.looksAt l.toArray → j ∈ chain → l[j]? = some oj → oj.dst ≠ some t
  once : ∀ (k j : Nat) (o oj : Oper) (t : Tmp), k < n → l[k]? = some o → o.dst = some t → j < k → l[j]? = some oj → oj.dst ≠ some t
theorem treeOk_of {l : List Oper} {n : Nat} {free chain : List Nat} (h : treeOkB l n free chain = true) : TreeOk l n free chain := by
  unfold treeOkB at h
  simp only [Bool.and_eq_true, List.all_eq_true, List.mem_range, decide_eq_true_eq] at h
  obtain ⟨⟨⟨⟨⟨⟨⟨h1, h2⟩, h3⟩, h4⟩, h5⟩, h6⟩, h8⟩, h9⟩ := h
  refine ⟨fun k hk => ?_, h2, h3, h4, fun i j hj hi => h5 i hi j hj, h6, fun k j o oj t hk ho ht hkj hj hoj e => ?_, fun k j o oj t hk ho ht hj hoj e => ?_, fun k j o oj t hk ho ht hj hoj e => ?_⟩
  · have := h1 k hk
    by_cases e1 : k ∈ free <;> by_cases e2 : k ∈ chain <;> simp [e1, e2] at this ⊢
  · have := h8 k hk
    rw [ho] at this
    simp only [Bool.and_eq_true, List.all_eq_true, List.mem_range] at this
    have := this.1 t ht j hj
    rw [hoj] at this
    simp [e] at this
    omega
  · have := h9 k hk
    rw [ho] at this
    simp only [List.all_eq_true] at this
    have := this t ht j hj
    rw [hoj] at this
    simp [e] at this
  · have := h8 k hk
    rw [ho] at this
    simp only [Bool.and_eq_true] at this
    have := this.2
    rw [ht] at this
    simp only [List.all_eq_true, List.mem_range] at this
    have := this j hj
    rw [hoj] at this
    simp [e] at this
section
variable {N : Nat} {X : Cx N} {S : St} {a : Act} {Q : Exit → Act → World → Prop} {l : List Oper}
set_option maxHeartbeats 2000000 in
theorem EC.drawT {id : Nat} (n : Nat) (free chain : List Nat) (os0 os1 : List Obj) (hB : monoB l.toArray n N = true) (hC : treeOkB l n free chain = true) (hS : S.objs = os0 ++ os1)
    (h : EM N l.toArray (fun S' _ => CT N l os1 (fun S'' => EL X l.toArray Q (l.drop n) S'') chain chain.length [] ⟨S'.regs, os0 ++ os1, S.facts⟩) (pickL l free) ⟨S.regs, os1, S.facts⟩ []) : EC X Q (.region id l.toArray true) S := by
  constructor
  intro a ws ha
  have C := treeOk_of hC
  obtain ⟨infs, hlen, hok, hT, hnp⟩ := em_list _ _ _ h
  have hfree := pickL_get (l := l) free fun k hk => Nat.lt_of_lt_of_le (C.flt k hk) C.le
  have hchain := pickL_get (l := l) chain fun k hk => Nat.lt_of_lt_of_le (C.clt k hk) C.le
  rw [hfree.1] at hlen hT
  have hdst : ∀ k o, l[k]? = some o → dstOf l.toArray k = o.dst := fun k o ho => by unfold dstOf; simp [ho]
  have hsl : ∀ k o L vs (b : Act) t, k < n → l[k]? = some o → t ∈ o.looksAt l.toArray → SlotOk l.toArray L vs a b k t → (∃ j oj, j < n ∧ l[j]? = some oj ∧ oj.dst = some t ∧ L j ∧ b.tmps.getD t undef = vs j) ∨ ((∀ j o, j < n → l[j]? = some o → o.dst ≠ some t) ∧ b.tmps.getD t undef = a.tmps.getD t undef) := fun k o L vs b t hk ho ht hs => by
    rcases hs with ⟨j, h1, h2, h3, h4, h5⟩ | ⟨h1, h2⟩
    · have hj : j < l.length := by have := C.le; omega
      exact .inl ⟨j, l[j], by omega, by simp, by rw [← hdst j l[j] (by simp)]; exact h2, h4, h5⟩
    · refine .inr ⟨fun j oj hj hoj e => ?_, h2⟩
      rcases Nat.lt_or_ge j k with h3 | h3
      · exact h1 j h3 (by rw [hdst j oj hoj]; exact e)
      · exact C.back k j o oj t hk ho ht h3 hj hoj e
  have huniq : ∀ j j' o o' t, j < n → j' < n → l[j]? = some o → l[j']? = some o' → o.dst = some t → o'.dst = some t → j = j' := fun j j' o o' t hj hj' ho ho' hd hd' => by
    rcases Nat.lt_trichotomy j j' with h | h | h
    · exact absurd hd (C.once j' j o' o t hj' ho' hd' h ho)
    · exact h
    · exact absurd hd' (C.once j j' o o' t hj ho hd h ho')
  -- what is known of the free operations' slots
  let RF := (stAt ⟨S.regs, os1, S.facts⟩ (pickL l free) infs free.length).regs
  have hRF : ∀ t r, look RF t = some r → (∃ p o i, p < free.length ∧ l[free.getD p 0]? = some o ∧ infs[p]? = some i ∧ o.dst = some t ∧ r = i.reg) ∨ look S.regs t = some r := fun t r hr => by
    rcases stAt_from _ _ _ _ _ _ hr with ⟨q, oq, iq, h1, h2, h3, h4, h5⟩ | h1
    · exact .inl ⟨q, oq, iq, h1, by rw [← hfree.2 q h1]; exact h2, h3, h4, h5⟩
    · exact .inr h1
  have hfl : ∀ p, p < free.length → free.getD p 0 < n ∧ free.getD p 0 ∈ free := fun p hp => by
    have : free.getD p 0 ∈ free := by
      rw [List.getD_eq_getElem?_getD, List.getElem?_eq_getElem hp]
      exact List.getElem_mem hp
    exact ⟨C.flt _ this, this⟩
  have hcl : ∀ p, p < chain.length → chain.getD p 0 < n ∧ chain.getD p 0 ∈ chain := fun p hp => by
    have : chain.getD p 0 ∈ chain := by
      rw [List.getD_eq_getElem?_getD, List.getElem?_eq_getElem hp]
      exact List.getElem_mem hp
    exact ⟨C.clt _ this, this⟩
  have hput : ∀ p o i, p < free.length → l[free.getD p 0]? = some o → infs[p]? = some i → ∀ t, o.dst = some t → look RF t = some i.reg := fun p o i hp ho hi t ht => by
    have hlk := (stAt_look (pickL l free) infs free.length ⟨S.regs, os1, S.facts⟩ t (by rw [hlen, hfree.1]) (by rw [hfree.1]; exact Nat.le_refl _)).1
    refine hlk p o i hp (by rw [hfree.2 p hp]; exact ho) hi ht fun m om h1 h2 h3 e => ?_
    rw [hfree.2 m h2] at h3
    have := huniq _ _ _ _ t (hfl p hp).1 (hfl m h2).1 ho h3 ht e
    have := C.fup m p h1 h2
    omega
  have hmono : ∀ p o t r, p < free.length → l[free.getD p 0]? = some o → t ∈ o.looksAt l.toArray → look (stAt ⟨S.regs, os1, S.facts⟩ (pickL l free) infs p).regs t = some r → look RF t = some r := fun p o t r hp ho ht hr => by
    rcases stAt_from _ _ _ _ _ _ hr with ⟨q, oq, iq, h1, h2, h3, h4, h5⟩ | h1
    · rw [h5]
      have hq : q < free.length := by omega
      exact hput q oq iq hq (by rw [← hfree.2 q hq]; exact h2) h3 t h4
    · have hlk := (stAt_look (pickL l free) infs free.length ⟨S.regs, os1, S.facts⟩ t (by rw [hlen, hfree.1]) (by rw [hfree.1]; exact Nat.le_refl _)).2
      have hpre := (stAt_look (pickL l free) infs p ⟨S.regs, os1, S.facts⟩ t (by rw [hlen, hfree.1]) (by rw [hfree.1]; exact Nat.le_of_lt hp))
      by_cases hex : ∃ m om, m < p ∧ (pickL l free)[m]? = some om ∧ om.dst = some t
      · -- what was put ahead stays
        obtain ⟨m, om, g1, g2, g3⟩ := hex
        have hm : m < free.length := by omega
        obtain ⟨inf, hi⟩ : ∃ inf, infs[m]? = some inf := ⟨infs[m]'(by omega), by simp⟩
        have e1 := hpre.1 m om inf g1 g2 hi g3 fun m' om' h1 h2 h3 e => by
          rw [hfree.2 m' (by omega)] at h3
          rw [hfree.2 m hm] at g2
          have := huniq _ _ _ _ t (hfl m hm).1 (hfl m' (by omega)).1 g2 h3 g3 e
          have := C.fup m' m h1 (by omega)
          omega
        rw [hr] at e1
        cases e1
        exact hput m om inf hm (by rw [← hfree.2 m hm]; exact g2) hi t g3
      have := hlk fun m om h2 h3 e => by
        rcases Nat.lt_or_ge m p with h4 | h4
        · exact hex ⟨m, om, h4, h3, e⟩
        · rw [hfree.2 m h2] at h3
          have hle : free.getD p 0 ≤ free.getD m 0 := by
            rcases Nat.lt_or_ge p m with h5 | h5
            · exact Nat.le_of_lt (C.fup m p h5 h2)
            · rw [show m = p by omega]; exact Nat.le_refl _
          exact C.back _ _ o om t (hfl p hp).1 ho ht hle (hfl m h2).1 h3 e
      show look (stAt ⟨S.regs, os1, S.facts⟩ (pickL l free) infs free.length).regs t = some r
      rw [this]
      exact h1
  have hT' : CT N l os1 (fun S'' => EL X l.toArray Q (l.drop n) S'') chain chain.length [] ⟨RF, os0 ++ os1, S.facts⟩ := hT
  clear hT h
  refine wp_region_set' n (by kernel_rfl) (by rw [ha.size]; exact hB) (fun L vs u => ∃ m done Si, done.length + m = chain.length ∧ done.Nodup ∧ (∀ q ∈ done, q ∈ chain) ∧ (∀ q ∈ chain, (q ∈ done ↔ L q)) ∧ CT N l os1 (fun S'' => EL X l.toArray Q (l.drop n) S'') chain m done Si ∧ Real X l n chain a RF os1 S.facts Si L vs u) ?_ ?_ ?_ ?_
  · rintro L L' vs vs' w hL hvs ⟨m, done, Si, h1, h2, h3, h6, h4, h5⟩
    obtain rfl : L = L' := funext fun j => propext (hL j)
    refine ⟨m, done, Si, h1, h2, h3, h6, h4, h5.mem, h5.tail, h5.facts, fun t r hr => ?_, h5.free⟩
    obtain ⟨g1, g2⟩ := h5.regs t r hr
    exact ⟨fun j o hj ho hd hL => by rw [← hvs j hL]; exact g1 j o hj ho hd hL, g2⟩
  · have had : At X S a ws.drew := ha.gr (by exact ⟨rfl, rfl, rfl, Nat.le_refl _, fun _ _ => rfl⟩)
    refine ⟨chain.length, [], ⟨RF, os0 ++ os1, S.facts⟩, Nat.zero_add _, List.nodup_nil, fun q hq => by simp at hq, fun q _ => ⟨fun h => by simp at h, fun h => h.elim⟩, hT', ?_, ⟨os0, rfl⟩, rfl, fun t r hr => ⟨fun _ _ _ _ _ h => h.elim, fun hno => ?_⟩, fun t r hr _ => hr⟩
    · rw [← hS]; exact had.mem
    · rcases hRF t r hr with ⟨p, o, i, h1, h2, h3, h4, h5⟩ | h1
      · exact absurd h4 (hno _ o (hfl p h1).1 h2)
      · rw [← hS]
        exact had.regs t r h1
  · intro k o L vs b u hk ho hL hLk ⟨m, done, Si, h1, h2, h3, h6, h4, h5⟩ hslot hwait
    rcases C.part k hk with ⟨hkf, hkc⟩ | ⟨hkf, hkc⟩
    · -- a free operation
      obtain ⟨p, hp, rfl⟩ : ∃ p, p < free.length ∧ free.getD p 0 = k := by
        obtain ⟨p, hp⟩ := List.getElem?_of_mem hkf
        exact ⟨p, (List.getElem?_eq_some_iff.1 hp).1, by rw [List.getD_eq_getElem?_getD, hp]; rfl⟩
      obtain ⟨inf, hi⟩ : ∃ inf, infs[p]? = some inf := ⟨infs[p]'(by omega), by simp⟩
      obtain ⟨hO, _, _⟩ := hok p o inf (by rw [hfree.2 p hp]; exact ho) hi
      have hkn : Kn X.mine (X.ok Si.objs u) (fun t => t ∈ o.looksAt l.toArray) (stAt ⟨S.regs, os1, S.facts⟩ (pickL l free) infs p) b u := by
        obtain ⟨os, hos⟩ := h5.tail
        refine ⟨fun q hq => ?_, fun f hf => ?_, fun b hb => hb.2.1, fun t r ht hr => ?_⟩
        · rw [(stAt_objs _ _ _ _).1] at hq
          exact h5.mem.at_ q (by rw [hos]; exact List.mem_append_right _ hq)
        · rw [(stAt_objs _ _ _ _).2] at hf
          exact h5.mem.fact f (by rw [h5.facts]; exact hf)
        · obtain ⟨g1, g2⟩ := h5.regs t r (h5.free t r (hmono p o t r hp ho ht hr) fun j oj hj hoj => C.free _ j o oj t hkf ho ht hj hoj)
          rcases hsl _ o L vs b t hk ho ht (hslot t ht) with ⟨j, oj, e1, e2, e3, e4, e5⟩ | ⟨e1, e2⟩
          · rw [e5]; exact g1 j oj e1 e2 e3 e4
          · rw [e2]; exact g2 e1
      have hnext : ∀ v u', Gr u u' → ReadR (X.ok Si.objs u') u' inf.reg v → ∃ m done Si, done.length + m = chain.length ∧ done.Nodup ∧ (∀ q ∈ done, q ∈ chain) ∧ (∀ q ∈ chain, (q ∈ done ↔ (q = free.getD p 0 ∨ L q))) ∧ CT N l os1 (fun S'' => EL X l.toArray Q (l.drop n) S'') chain m done Si ∧ Real X l n chain a RF os1 S.facts Si (fun j => j = free.getD p 0 ∨ L j) (fun j => if j = free.getD p 0 then v else vs j) u' := fun v u' hg hv => by
        refine ⟨m, done, Si, h1, h2, h3, fun q hq => ⟨fun h => .inr ((h6 q hq).1 h), fun h => (h6 q hq).2 (h.resolve_left fun e => hkc (by rw [← e]; exact hq))⟩, h4, h5.mem.grown hg, h5.tail, h5.facts, fun t r hr => ?_, h5.free⟩
        · obtain ⟨g1, g2⟩ := h5.regs t r hr
          refine ⟨fun j oj hj hoj hd hLj => ?_, fun hno => readR_gr hg (g2 hno)⟩
          by_cases e : j = free.getD p 0
          · rw [if_pos e]
            subst e
            obtain rfl : oj = o := Option.some.inj (hoj.symm.trans ho)
            have := h5.free t _ (hput p oj inf hp ho hi t hd) fun j' oj' hj' hoj' e' => by
              have := huniq _ _ _ _ t hk (C.clt j' hj') hoj hoj' hd e'
              exact hkc (by rw [this]; exact hj')
            rw [hr] at this
            cases this
            exact hv
          · rw [if_neg e]
            exact readR_gr hg (g1 j oj hj hoj hd (hLj.resolve_left e))
      cases inf with
      | still r =>
        obtain ⟨hg, hSt⟩ := hO
        refine ⟨fun _ => ?_, fun hw => by rw [wanted_kn hkn hg] at hw; cases hw⟩
        obtain ⟨v, e1, e2⟩ := hSt _ _ b u hkn
        rw [e1]
        exact hnext v u (Gr.refl u) e2
      | grow r =>
        obtain ⟨hg, hSt⟩ := hO
        refine ⟨fun _ => setsTo_of_grows (hSt _ _ b u hkn) (fun v w' hgr hv => ?_), fun hw => by rw [wanted_kn hkn hg] at hw; cases hw⟩
        obtain ⟨r', rfl, hv⟩ := hv
        exact hnext v w' hgr (hv.mono (fun b hb => more_ok h5.mem hgr hb) fun _ _ => rfl)
      | put p q => cases hnp _ _ hi
      | skip =>
        refine ⟨fun hw => (by rw [wanted_kn hkn hO] at hw; cases hw), fun _ => ?_⟩
        exact hnext undef u (Gr.refl u) ⟨[], rfl, rfl⟩
      | new T d =>
        obtain ⟨hg, hSt⟩ := hO
        refine ⟨fun _ => ?_, fun hw => by rw [wanted_kn hkn hg] at hw; cases hw⟩
        obtain ⟨cs, e1, e2⟩ := hSt _ _ b u hkn
        rw [e1]
        exact hnext _ _ (gr_alloc u _) trivial
    · -- the next of the chain
      have hkd : k ∉ done := fun h => hLk ((h6 k hkc).1 h)
      obtain ⟨m, rfl⟩ : ∃ m', m = m' + 1 := by
        cases m with
        | succ m => exact ⟨m, rfl⟩
        | zero =>
          exfalso
          have hlt := (List.nodup_cons.2 ⟨hkd, h2⟩).length_le_of_subset (fun q hq => by
            rcases List.mem_cons.1 hq with rfl | hq
            · exact hkc
            · exact h3 q hq : (k :: done) ⊆ chain)
          simp at hlt
          omega
      have hready : k ∈ readyL l chain done := by
        unfold readyL
        refine List.mem_filter.2 ⟨hkc, ?_⟩
        rw [ho]
        simp only [Bool.and_eq_true, Bool.not_eq_true', List.all_eq_true, Bool.or_eq_true]
        refine ⟨by simpa using hkd, fun e he => ?_⟩
        cases hb : Region.binds .any e with
        | false => exact .inl (.inl rfl)
        | true =>
          have h7 := hwait e (by simpa using he) hb
          by_cases hc : e.on ∈ chain
          · exact .inr (by simpa using (h6 e.on hc).2 h7)
          · exact .inl (.inr (by simpa using hc))
      have h4 := h4 k hready
      rw [show pickL l [k] = [o] by unfold pickL; simp [ho]] at h4
      obtain ⟨hdN, h4⟩ := h4
      have hkreg : ∀ t r, t ∈ o.looksAt l.toArray → look Si.regs t = some r → ReadR (X.ok Si.objs u) u r (b.tmps.getD t undef) := fun t r ht hr => by
        obtain ⟨g1, g2⟩ := h5.regs t r hr
        rcases hsl _ o L vs b t hk ho ht (hslot t ht) with ⟨j, oj, e1, e2, e3, e4, e5⟩ | ⟨e1, e2⟩
        · rw [e5]; exact g1 j oj e1 e2 e3 e4
        · rw [e2]; exact g2 e1
      have hkn : Kn X.mine (X.ok Si.objs u) (fun t => t ∈ o.looksAt l.toArray) Si b u := ⟨h5.mem.at_, h5.mem.fact, fun b hb => hb.2.1, fun t r ht hr => hkreg t r ht hr⟩
      have hnext : ∀ v u' objs' r', Mem X objs' Si.facts u' → (∃ os, objs' = os ++ os1) → (∀ b, X.ok Si.objs u b → X.ok objs' u' b) → (∀ p : Addr, X.ok Si.objs u p.block → u'.cell? p = u.cell? p) → ReadR (X.ok objs' u') u' r' v →
          CH N l.toArray os1 (fun S' => CT N l os1 (fun S'' => EL X l.toArray Q (l.drop n) S'') chain m (k :: done) S') [] (St.put ⟨Si.regs, objs', Si.facts⟩ o.dst r') →
          ∃ m done Si, done.length + m = chain.length ∧ done.Nodup ∧ (∀ q ∈ done, q ∈ chain) ∧ (∀ q ∈ chain, (q ∈ done ↔ (q = k ∨ L q))) ∧ CT N l os1 (fun S'' => EL X l.toArray Q (l.drop n) S'') chain m done Si ∧ Real X l n chain a RF os1 S.facts Si (fun j => j = k ∨ L j) (fun j => if j = k then v else vs j) u' := fun v u' objs' r' hmem htail hmok hcell hv hCH => by
        have hobj : (St.put ⟨Si.regs, objs', Si.facts⟩ o.dst r').objs = objs' := by cases o.dst <;> rfl
        have hfac : (St.put ⟨Si.regs, objs', Si.facts⟩ o.dst r').facts = Si.facts := by cases o.dst <;> rfl
        refine ⟨m, k :: done, _, by rw [List.length_cons]; omega, List.nodup_cons.2 ⟨hkd, h2⟩, fun q hq => ?_, fun q hq => ?_, hCH, by rw [hobj, hfac]; exact hmem, by rw [hobj]; exact htail, by rw [hfac]; exact h5.facts, fun t r hr => ?_, fun t r hr hno => ?_⟩
        · rcases List.mem_cons.1 hq with rfl | hq
          · exact hkc
          · exact h3 q hq
        · rw [List.mem_cons, h6 q hq]
        · rw [hobj]
          have hcase : (o.dst = some t ∧ r = r') ∨ (o.dst ≠ some t ∧ look Si.regs t = some r) := by
            cases hd : o.dst with
            | none => rw [hd] at hr; exact .inr ⟨(fun e => by cases e), hr⟩
            | some d =>
              rw [hd] at hr
              simp only [St.put, look] at hr
              split at hr
              · rename_i e
                cases hr
                exact .inl ⟨by rw [e], rfl⟩
              · rename_i e
                exact .inr ⟨fun e' => e (by injection e'), hr⟩
          rcases hcase with ⟨hd, rfl⟩ | ⟨hd, hr⟩
          · refine ⟨fun j oj hj hoj hd' _ => ?_, fun hno => absurd hd (hno _ o hk ho)⟩
            rw [if_pos (huniq _ _ _ _ t hj hk hoj ho hd' hd)]
            exact hv
          · obtain ⟨g1, g2⟩ := h5.regs t r hr
            refine ⟨fun j oj hj hoj hd' hLj => ?_, fun hno => (g2 hno).mono hmok hcell⟩
            have hne : j ≠ k := fun e => by
              subst e
              obtain rfl : oj = o := Option.some.inj (hoj.symm.trans ho)
              exact hd hd'
            rw [if_neg hne]
            exact (g1 j oj hj hoj hd' (hLj.resolve_left hne)).mono hmok hcell
        · cases hd : o.dst with
          | none => exact h5.free t r hr hno
          | some d =>
            simp only [St.put, look]
            rw [if_neg fun e => hno _ o hkc ho (by rw [hd, e])]
            exact h5.free t r hr hno
      rcases h4 with ⟨inf, hnp', hO, hCH⟩ | ⟨os, rest, Φ, hos, hg, hO, hCH⟩
      · have hgr : ∀ v u', Gr u u' → ReadR (X.ok Si.objs u') u' inf.reg v → _ := fun v u' hg hv => hnext v u' Si.objs inf.reg (h5.mem.grown hg) h5.tail (fun b hb => ok_gr hg hb) (fun p hp => ok_cell hg p hp) hv hCH
        cases inf with
        | still r =>
          obtain ⟨hg, hSt⟩ := hO
          refine ⟨fun _ => ?_, fun hw => by rw [wanted_kn hkn hg] at hw; cases hw⟩
          obtain ⟨v, e1, e2⟩ := hSt _ _ b u hkn
          rw [e1]
          exact hgr v u (Gr.refl u) e2
        | grow r =>
          obtain ⟨hg, hSt⟩ := hO
          refine ⟨fun _ => setsTo_of_grows (hSt _ _ b u hkn) (fun v w' hgr' hv => ?_), fun hw => by rw [wanted_kn hkn hg] at hw; cases hw⟩
          obtain ⟨r', rfl, hv⟩ := hv
          exact hgr v w' hgr' (hv.mono (fun b hb => more_ok h5.mem hgr' hb) fun _ _ => rfl)
        | put p q => cases hnp'
        | skip =>
          refine ⟨fun hw => (by rw [wanted_kn hkn hO] at hw; cases hw), fun _ => ?_⟩
          exact hgr undef u (Gr.refl u) ⟨[], rfl, rfl⟩
        | new T d =>
          obtain ⟨hg, hSt⟩ := hO
          refine ⟨fun _ => ?_, fun hw => by rw [wanted_kn hkn hg] at hw; cases hw⟩
          obtain ⟨cs, e1, e2⟩ := hSt _ _ b u hkn
          rw [e1]
          exact hgr _ _ (gr_alloc u _) trivial
      · obtain ⟨rs, objs, fs⟩ := Si
        dsimp only at hos
        subst hos
        refine ⟨fun _ => ?_, fun hw => by rw [wanted_kn hkn hg] at hw; cases hw⟩
        have := hO.go X.mine (X.ok (os ++ (rest ++ os1)) u) b u ⟨fun q hq => hkn.objs q (List.mem_append_right _ hq), hkn.facts, hkn.lt, hkn.regs⟩ h5.mem.own
        refine setsTo_mono this fun v u' ⟨r, os', e1, e2, e3⟩ => ?_
        exact hnext v u' (os' ++ (rest ++ os1)) r (h5.mem.turned e2) ⟨os' ++ rest, by rw [List.append_assoc]⟩ (fun b hb => turned_old h5.mem e2 hb) (turned_cell h5.mem e2) (e3.mono (fun b hb => turned_ok h5.mem e2 hb) fun _ _ => rfl) (hCH r os' e1)
  · intro vs u b ⟨m, done, Si, h1, h2, h3, h6, h4, h5⟩ hs hd hslot
    obtain rfl : m = 0 := by
      have hle := C.nod.length_le_of_subset (fun q hq => (h6 q hq).2 (C.clt q hq) : chain ⊆ done)
      omega
    have h4' : EL X l.toArray Q (l.drop n) Si := h4
    refine h4'.go b u ⟨h5.mem, fun t r hr => ?_, hs.trans ha.size, hd.trans ha.defers⟩
    obtain ⟨g1, g2⟩ := h5.regs t r hr
    rcases hslot t with ⟨j, e1, e2, e3, e4, e5⟩ | ⟨e1, e2⟩
    · rw [e5]
      have hj : j < l.length := by have := C.le; omega
      exact g1 j l[j] e1 (by simp) (by rw [← hdst j l[j] (by simp)]; exact e2) e4
    · rw [e2]
      exact g2 fun j o hj ho e => e1 j hj (by rw [hdst j o ho]; exact e)
end
end E
end Go.Proofs.YtdhicdnmgmkpkaaGreat
/-
  The program's snap: New, Add.
  Conditions: none.
-/
namespace Go.Proofs.YtdhicdnmgmkpkaaGreat
set_option linter.unusedVariables false
open Go.RowKit Mono Rlp Wd
namespace E
theorem FnM.drop {f : FuncId} {ds : List D} {os : List Obj} {Φ : R → List Obj → Prop} (h : FnM f ds os Φ) : FnM f ds os (fun r os' => (∃ os2, Φ r os2) ∧ os' = []) := ⟨fun ok w xs h1 h2 h3 => (h.go ok w xs h1 h2 h3).mono fun e w' ⟨v, r, os', e1, e2, e3, e4⟩ => ⟨v, r, [], e1, ⟨⟨os', e2⟩, rfl⟩, ⟨e3.gr, .nil, fun o ho => by simp at ho⟩, e4.mono (fun b hb => ⟨hb.1, hb.2.1, fun o ho => by simp at ho⟩) fun _ _ => rfl⟩⟩
abbrev tO (g m : Nat) (base : List UInt8) : Obj := .var g 146 (.tup [.arr 32 base, .v (.map (some m))])
def dLay (p : List UInt8) (L : List AcL) : D := .tup [.arr 32 p, .sl 55 (L.map dAcL)]
set_option maxRecDepth 20000 in
set_option maxHeartbeats 8000000 in
theorem snew (l : List AcL) (id : List UInt8) (hll : l.length ≤ 1000) (hB : ∀ x ∈ l, x.sl.length ≤ 1000 ∧ x.cd.length ≤ 140737488355328) : FnM 24 [.arr 32 id, .sl 55 (l.map dAcL)] [] (fun r os' => ∃ g m L, Canon (newA l) L ∧ L.length ≤ 2000 ∧ (∀ x ∈ L, x.sl.length ≤ 2000) ∧ r = .val (.v (ptr g)) ∧ os' = [tO g m id, .map m 32 (tickE 0 [] id) (putE 0 [] id (dLay zero32 L))]) := by
  have h1 := new0 l 1000 (by omega) hB (by omega)
  refine FnM.walk 15 Tryz.func24 rfl Tryz.ntmps24 (by simp) fun X => ?_
  repeat
    (first
     | (apply P_assign; (iterate 3 exact rfl)) | (apply P_box; exact rfl; exact rfl; exact rfl; intro _) | apply EL.nil | ((with_reducible apply EK.then_normal); apply EK.code)
     | (with_reducible first | apply EC.seq | apply EC.region | apply EC.skip | apply EC.label | apply EC.block | apply EC.exit | apply EC.ret | apply EK.in_normal | apply EK.in_same | apply EK.in_ret | apply EK.then_ret | apply EK.then_exit))
  refine EC.drawT 11 [0, 2, 3] [1, 4, 5, 6, 7, 8, 9, 10] [] _ (by kernel_rfl) (by kernel_rfl) rfl ?_
  simp only [pickL, List.filterMap_cons, List.filterMap_nil, List.getElem?_cons_zero, List.getElem?_cons_succ]
  repeat
    (first
     | (apply H_move; (iterate 3 exact rfl)) | (apply H_load; exact rfl; (first | exact I0 | exact I1 | exact I2 | exact I3 | exact I4 | exact I5 | exact I6); (iterate 4 exact rfl)))
  refine EM.nil ?_
  repeat (first | rw [List.cons_append] | rw [List.nil_append])
  refine CT.pick [1, 4] (by kernel_rfl) fun k hk => ?_
  rcases (show k = 1 ∨ k = 4 by simpa using hk) with rfl | rfl
  all_goals clear hk
  · skip
    simp only [pickL, List.filterMap_cons, List.filterMap_nil, List.getElem?_cons_zero, List.getElem?_cons_succ]
    refine CH.mut (os := []) (rest := []) rfl rfl (m_makeMap rfl rfl) ?_
    rintro _ _ ⟨m, rfl, rfl⟩
    try simp only [St.put]
    repeat (first | rw [List.cons_append] | rw [List.nil_append])
    refine CH.nil ?_
    refine CT.pick [4] (by kernel_rfl) fun k hk => ?_
    obtain rfl : k = 4 := (by simpa using hk)
    clear hk
    simp only [pickL, List.filterMap_cons, List.filterMap_nil, List.getElem?_cons_zero, List.getElem?_cons_succ]
    refine CH.callM (os := []) (rest := [_]) h1 rfl rfl (RefineL.refl _ _) (by intro _ _; simp [go_sem]) rfl rfl ?_
    rintro _ os1 ⟨g1, rfl, hp⟩
    try simp only [St.put]
    refine CH.nil ?_
    refine CT.pick [5] (by kernel_rfl) fun k hk => ?_
    obtain rfl : k = 5 := (by simpa using hk)
    clear hk
    simp only [pickL, List.filterMap_cons, List.filterMap_nil, List.getElem?_cons_zero, List.getElem?_cons_succ]
    refine CH.callM (os := os1) (rest := [_]) (ps_accounts hp (by omega)).drop rfl rfl (RefineL.refl _ _) (by intro _ _; simp [go_sem]) rfl rfl ?_
    rintro _ _ ⟨⟨_, ⟨L, hL, hLl, hLs, rfl⟩, rfl⟩, rfl⟩
    try simp only [St.put]
    repeat (first | rw [List.cons_append] | rw [List.nil_append])
    refine CH.nil ?_
    refine CT.pick [6] (by kernel_rfl) fun k hk => ?_
    obtain rfl : k = 6 := (by simpa using hk)
    clear hk
    simp only [pickL, List.filterMap_cons, List.filterMap_nil, List.getElem?_cons_zero, List.getElem?_cons_succ]
    refine CH.cut 1 ?_
    simp only [List.take_succ_cons, List.take_zero, List.drop_succ_cons, List.drop_zero]
    repeat
      (first
       | (apply H_build; (iterate 7 exact rfl)))
    refine EM.nil ?_
    repeat (first | rw [List.cons_append] | rw [List.nil_append])
    refine CH.nil ?_
    refine CT.pick [7] (by kernel_rfl) fun k hk => ?_
    obtain rfl : k = 7 := (by simpa using hk)
    clear hk
    simp only [pickL, List.filterMap_cons, List.filterMap_nil, List.getElem?_cons_zero, List.getElem?_cons_succ]
    refine CH.mut (os := [_]) (rest := []) rfl rfl (m_put (put_insert rfl rfl rfl rfl rfl)) ?_
    rintro _ _ ⟨rfl, rfl⟩
    try simp only [St.put]
    repeat (first | rw [List.cons_append] | rw [List.nil_append])
    refine CH.nil ?_
    refine CT.pick [8] (by kernel_rfl) fun k hk => ?_
    obtain rfl : k = 8 := (by simpa using hk)
    clear hk
    simp only [pickL, List.filterMap_cons, List.filterMap_nil, List.getElem?_cons_zero, List.getElem?_cons_succ]
    refine CH.cut 1 ?_
    simp only [List.take_succ_cons, List.take_zero, List.drop_succ_cons, List.drop_zero]
    repeat
      (first
       | (apply H_move; (iterate 3 exact rfl)))
    refine EM.nil ?_
    repeat (first | rw [List.cons_append] | rw [List.nil_append])
    refine CH.nil ?_
    refine CT.pick [9] (by kernel_rfl) fun k hk => ?_
    obtain rfl : k = 9 := (by simpa using hk)
    clear hk
    simp only [pickL, List.filterMap_cons, List.filterMap_nil, List.getElem?_cons_zero, List.getElem?_cons_succ]
    refine CH.cut 1 ?_
    simp only [List.take_succ_cons, List.take_zero, List.drop_succ_cons, List.drop_zero]
    repeat
      (first
       | (apply H_build; (iterate 7 exact rfl)))
    refine EM.nil ?_
    repeat (first | rw [List.cons_append] | rw [List.nil_append])
    refine CH.nil ?_
    refine CT.pick [10] (by kernel_rfl) fun k hk => ?_
    obtain rfl : k = 10 := (by simpa using hk)
    clear hk
    simp only [pickL, List.filterMap_cons, List.filterMap_nil, List.getElem?_cons_zero, List.getElem?_cons_succ]
    refine CH.mut (os := []) (rest := [_]) rfl rfl (m_box rfl rfl) ?_
    rintro _ _ ⟨g2, rfl, rfl⟩
    try simp only [St.put]
    repeat (first | rw [List.cons_append] | rw [List.nil_append])
    refine CH.nil ?_
    refine CT.nil ?_
    repeat
      (first
       | (apply P_assign; (iterate 3 exact rfl)) | apply EL.nil | ((with_reducible apply EK.then_normal); apply EK.code)
       | (with_reducible first | apply EC.seq | apply EC.region | apply EC.skip | apply EC.label | apply EC.block | apply EC.exit | apply EC.ret | apply EK.in_normal | apply EK.in_same | apply EK.in_ret | apply EK.then_ret | apply EK.then_exit))
    exact EK.retM1s [tO g2 m id, .map m 32 (tickE 0 [] id) (putE 0 [] id (dLay zero32 L))] rfl rfl (by (repeat first | exact List.nil_sublist _ | apply List.Sublist.cons_cons | apply List.Sublist.cons)) ⟨g2, m, L, hL, by omega, fun x hx => by have := hLs x hx; omega, rfl, rfl⟩
  · skip
    simp only [pickL, List.filterMap_cons, List.filterMap_nil, List.getElem?_cons_zero, List.getElem?_cons_succ]
    refine CH.callM (os := []) (rest := []) h1 rfl rfl (RefineL.refl _ _) (by intro _ _; simp [go_sem]) rfl rfl ?_
    rintro _ os1 ⟨g1, rfl, hp⟩
    try simp only [St.put]
    refine CH.nil ?_
    refine CT.pick [1, 5] (by kernel_rfl) fun k hk => ?_
    rcases (show k = 1 ∨ k = 5 by simpa using hk) with rfl | rfl
    all_goals clear hk
    · skip
      simp only [pickL, List.filterMap_cons, List.filterMap_nil, List.getElem?_cons_zero, List.getElem?_cons_succ]
      refine CH.mut (os := []) (rest := os1) rfl rfl (m_makeMap rfl rfl) ?_
      rintro _ _ ⟨m, rfl, rfl⟩
      try simp only [St.put]
      repeat (first | rw [List.cons_append] | rw [List.nil_append])
      refine CH.nil ?_
      refine CT.pick [5] (by kernel_rfl) fun k hk => ?_
      obtain rfl : k = 5 := (by simpa using hk)
      clear hk
      simp only [pickL, List.filterMap_cons, List.filterMap_nil, List.getElem?_cons_zero, List.getElem?_cons_succ]
      refine CH.callM (os := .map m 32 0 [] :: os1) (rest := []) (((ps_accounts hp (by omega)).drop.frame [.map m 32 0 []]).perm List.perm_append_comm) rfl rfl (RefineL.refl _ _) (by intro _ _; simp [go_sem]) rfl rfl ?_
      rintro _ _ ⟨_, ⟨⟨_, ⟨L, hL, hLl, hLs, rfl⟩, rfl⟩, rfl⟩, rfl⟩
      try simp only [St.put]
      repeat (first | rw [List.cons_append] | rw [List.nil_append])
      refine CH.nil ?_
      refine CT.pick [6] (by kernel_rfl) fun k hk => ?_
      obtain rfl : k = 6 := (by simpa using hk)
      clear hk
      simp only [pickL, List.filterMap_cons, List.filterMap_nil, List.getElem?_cons_zero, List.getElem?_cons_succ]
      refine CH.cut 1 ?_
      simp only [List.take_succ_cons, List.take_zero, List.drop_succ_cons, List.drop_zero]
      repeat
        (first
         | (apply H_build; (iterate 7 exact rfl)))
      refine EM.nil ?_
      repeat (first | rw [List.cons_append] | rw [List.nil_append])
      refine CH.nil ?_
      refine CT.pick [7] (by kernel_rfl) fun k hk => ?_
      obtain rfl : k = 7 := (by simpa using hk)
      clear hk
      simp only [pickL, List.filterMap_cons, List.filterMap_nil, List.getElem?_cons_zero, List.getElem?_cons_succ]
      refine CH.mut (os := [_]) (rest := []) rfl rfl (m_put (put_insert rfl rfl rfl rfl rfl)) ?_
      rintro _ _ ⟨rfl, rfl⟩
      try simp only [St.put]
      repeat (first | rw [List.cons_append] | rw [List.nil_append])
      refine CH.nil ?_
      refine CT.pick [8] (by kernel_rfl) fun k hk => ?_
      obtain rfl : k = 8 := (by simpa using hk)
      clear hk
      simp only [pickL, List.filterMap_cons, List.filterMap_nil, List.getElem?_cons_zero, List.getElem?_cons_succ]
      refine CH.cut 1 ?_
      simp only [List.take_succ_cons, List.take_zero, List.drop_succ_cons, List.drop_zero]
      repeat
        (first
         | (apply H_move; (iterate 3 exact rfl)))
      refine EM.nil ?_
      repeat (first | rw [List.cons_append] | rw [List.nil_append])
      refine CH.nil ?_
      refine CT.pick [9] (by kernel_rfl) fun k hk => ?_
      obtain rfl : k = 9 := (by simpa using hk)
      clear hk
      simp only [pickL, List.filterMap_cons, List.filterMap_nil, List.getElem?_cons_zero, List.getElem?_cons_succ]
      refine CH.cut 1 ?_
      simp only [List.take_succ_cons, List.take_zero, List.drop_succ_cons, List.drop_zero]
      repeat
        (first
         | (apply H_build; (iterate 7 exact rfl)))
      refine EM.nil ?_
      repeat (first | rw [List.cons_append] | rw [List.nil_append])
      refine CH.nil ?_
      refine CT.pick [10] (by kernel_rfl) fun k hk => ?_
      obtain rfl : k = 10 := (by simpa using hk)
      clear hk
      simp only [pickL, List.filterMap_cons, List.filterMap_nil, List.getElem?_cons_zero, List.getElem?_cons_succ]
      refine CH.mut (os := []) (rest := [_]) rfl rfl (m_box rfl rfl) ?_
      rintro _ _ ⟨g2, rfl, rfl⟩
      try simp only [St.put]
      repeat (first | rw [List.cons_append] | rw [List.nil_append])
      refine CH.nil ?_
      refine CT.nil ?_
      repeat
        (first
         | (apply P_assign; (iterate 3 exact rfl)) | apply EL.nil | ((with_reducible apply EK.then_normal); apply EK.code)
         | (with_reducible first | apply EC.seq | apply EC.region | apply EC.skip | apply EC.label | apply EC.block | apply EC.exit | apply EC.ret | apply EK.in_normal | apply EK.in_same | apply EK.in_ret | apply EK.then_ret | apply EK.then_exit))
      exact EK.retM1s [tO g2 m id, .map m 32 (tickE 0 [] id) (putE 0 [] id (dLay zero32 L))] rfl rfl (by (repeat first | exact List.nil_sublist _ | apply List.Sublist.cons_cons | apply List.Sublist.cons)) ⟨g2, m, L, hL, by omega, fun x hx => by have := hLs x hx; omega, rfl, rfl⟩
    · skip
      simp only [pickL, List.filterMap_cons, List.filterMap_nil, List.getElem?_cons_zero, List.getElem?_cons_succ]
      refine CH.callM (os := os1) (rest := []) (ps_accounts hp (by omega)).drop rfl rfl (RefineL.refl _ _) (by intro _ _; simp [go_sem]) rfl rfl ?_
      rintro _ _ ⟨⟨_, ⟨L, hL, hLl, hLs, rfl⟩, rfl⟩, rfl⟩
      try simp only [St.put]
      repeat (first | rw [List.cons_append] | rw [List.nil_append])
      refine CH.nil ?_
      refine CT.pick [1, 6] (by kernel_rfl) fun k hk => ?_
      rcases (show k = 1 ∨ k = 6 by simpa using hk) with rfl | rfl
      all_goals clear hk
      · skip
        simp only [pickL, List.filterMap_cons, List.filterMap_nil, List.getElem?_cons_zero, List.getElem?_cons_succ]
        refine CH.mut (os := []) (rest := []) rfl rfl (m_makeMap rfl rfl) ?_
        rintro _ _ ⟨m, rfl, rfl⟩
        try simp only [St.put]
        repeat (first | rw [List.cons_append] | rw [List.nil_append])
        refine CH.nil ?_
        refine CT.pick [6] (by kernel_rfl) fun k hk => ?_
        obtain rfl : k = 6 := (by simpa using hk)
        clear hk
        simp only [pickL, List.filterMap_cons, List.filterMap_nil, List.getElem?_cons_zero, List.getElem?_cons_succ]
        refine CH.cut 1 ?_
        simp only [List.take_succ_cons, List.take_zero, List.drop_succ_cons, List.drop_zero]
        repeat
          (first
           | (apply H_build; (iterate 7 exact rfl)))
        refine EM.nil ?_
        repeat (first | rw [List.cons_append] | rw [List.nil_append])
        refine CH.nil ?_
        refine CT.pick [7] (by kernel_rfl) fun k hk => ?_
        obtain rfl : k = 7 := (by simpa using hk)
        clear hk
        simp only [pickL, List.filterMap_cons, List.filterMap_nil, List.getElem?_cons_zero, List.getElem?_cons_succ]
        refine CH.mut (os := [_]) (rest := []) rfl rfl (m_put (put_insert rfl rfl rfl rfl rfl)) ?_
        rintro _ _ ⟨rfl, rfl⟩
        try simp only [St.put]
        repeat (first | rw [List.cons_append] | rw [List.nil_append])
        refine CH.nil ?_
        refine CT.pick [8] (by kernel_rfl) fun k hk => ?_
        obtain rfl : k = 8 := (by simpa using hk)
        clear hk
        simp only [pickL, List.filterMap_cons, List.filterMap_nil, List.getElem?_cons_zero, List.getElem?_cons_succ]
        refine CH.cut 1 ?_
        simp only [List.take_succ_cons, List.take_zero, List.drop_succ_cons, List.drop_zero]
        repeat
          (first
           | (apply H_move; (iterate 3 exact rfl)))
        refine EM.nil ?_
        repeat (first | rw [List.cons_append] | rw [List.nil_append])
        refine CH.nil ?_
        refine CT.pick [9] (by kernel_rfl) fun k hk => ?_
        obtain rfl : k = 9 := (by simpa using hk)
        clear hk
        simp only [pickL, List.filterMap_cons, List.filterMap_nil, List.getElem?_cons_zero, List.getElem?_cons_succ]
        refine CH.cut 1 ?_
        simp only [List.take_succ_cons, List.take_zero, List.drop_succ_cons, List.drop_zero]
        repeat
          (first
           | (apply H_build; (iterate 7 exact rfl)))
        refine EM.nil ?_
        repeat (first | rw [List.cons_append] | rw [List.nil_append])
        refine CH.nil ?_
        refine CT.pick [10] (by kernel_rfl) fun k hk => ?_
        obtain rfl : k = 10 := (by simpa using hk)
        clear hk
        simp only [pickL, List.filterMap_cons, List.filterMap_nil, List.getElem?_cons_zero, List.getElem?_cons_succ]
        refine CH.mut (os := []) (rest := [_]) rfl rfl (m_box rfl rfl) ?_
        rintro _ _ ⟨g2, rfl, rfl⟩
        try simp only [St.put]
        repeat (first | rw [List.cons_append] | rw [List.nil_append])
        refine CH.nil ?_
        refine CT.nil ?_
        repeat
          (first
           | (apply P_assign; (iterate 3 exact rfl)) | apply EL.nil | ((with_reducible apply EK.then_normal); apply EK.code)
           | (with_reducible first | apply EC.seq | apply EC.region | apply EC.skip | apply EC.label | apply EC.block | apply EC.exit | apply EC.ret | apply EK.in_normal | apply EK.in_same | apply EK.in_ret | apply EK.then_ret | apply EK.then_exit))
        exact EK.retM1s [tO g2 m id, .map m 32 (tickE 0 [] id) (putE 0 [] id (dLay zero32 L))] rfl rfl (by (repeat first | exact List.nil_sublist _ | apply List.Sublist.cons_cons | apply List.Sublist.cons)) ⟨g2, m, L, hL, by omega, fun x hx => by have := hLs x hx; omega, rfl, rfl⟩
      · skip
        simp only [pickL, List.filterMap_cons, List.filterMap_nil, List.getElem?_cons_zero, List.getElem?_cons_succ]
        refine CH.cut 1 ?_
        simp only [List.take_succ_cons, List.take_zero, List.drop_succ_cons, List.drop_zero]
        repeat
          (first
           | (apply H_build; (iterate 7 exact rfl)))
        refine EM.nil ?_
        repeat (first | rw [List.cons_append] | rw [List.nil_append])
        refine CH.nil ?_
        refine CT.pick [1] (by kernel_rfl) fun k hk => ?_
        obtain rfl : k = 1 := (by simpa using hk)
        clear hk
        simp only [pickL, List.filterMap_cons, List.filterMap_nil, List.getElem?_cons_zero, List.getElem?_cons_succ]
        refine CH.mut (os := []) (rest := []) rfl rfl (m_makeMap rfl rfl) ?_
        rintro _ _ ⟨m, rfl, rfl⟩
        try simp only [St.put]
        repeat (first | rw [List.cons_append] | rw [List.nil_append])
        refine CH.nil ?_
        refine CT.pick [7] (by kernel_rfl) fun k hk => ?_
        obtain rfl : k = 7 := (by simpa using hk)
        clear hk
        simp only [pickL, List.filterMap_cons, List.filterMap_nil, List.getElem?_cons_zero, List.getElem?_cons_succ]
        refine CH.mut (os := [_]) (rest := []) rfl rfl (m_put (put_insert rfl rfl rfl rfl rfl)) ?_
        rintro _ _ ⟨rfl, rfl⟩
        try simp only [St.put]
        repeat (first | rw [List.cons_append] | rw [List.nil_append])
        refine CH.nil ?_
        refine CT.pick [8] (by kernel_rfl) fun k hk => ?_
        obtain rfl : k = 8 := (by simpa using hk)
        clear hk
        simp only [pickL, List.filterMap_cons, List.filterMap_nil, List.getElem?_cons_zero, List.getElem?_cons_succ]
        refine CH.cut 1 ?_
        simp only [List.take_succ_cons, List.take_zero, List.drop_succ_cons, List.drop_zero]
        repeat
          (first
           | (apply H_move; (iterate 3 exact rfl)))
        refine EM.nil ?_
        repeat (first | rw [List.cons_append] | rw [List.nil_append])
        refine CH.nil ?_
        refine CT.pick [9] (by kernel_rfl) fun k hk => ?_
        obtain rfl : k = 9 := (by simpa using hk)
        clear hk
        simp only [pickL, List.filterMap_cons, List.filterMap_nil, List.getElem?_cons_zero, List.getElem?_cons_succ]
        refine CH.cut 1 ?_
        simp only [List.take_succ_cons, List.take_zero, List.drop_succ_cons, List.drop_zero]
        repeat
          (first
           | (apply H_build; (iterate 7 exact rfl)))
        refine EM.nil ?_
        repeat (first | rw [List.cons_append] | rw [List.nil_append])
        refine CH.nil ?_
        refine CT.pick [10] (by kernel_rfl) fun k hk => ?_
        obtain rfl : k = 10 := (by simpa using hk)
        clear hk
        simp only [pickL, List.filterMap_cons, List.filterMap_nil, List.getElem?_cons_zero, List.getElem?_cons_succ]
        refine CH.mut (os := []) (rest := [_]) rfl rfl (m_box rfl rfl) ?_
        rintro _ _ ⟨g2, rfl, rfl⟩
        try simp only [St.put]
        repeat (first | rw [List.cons_append] | rw [List.nil_append])
        refine CH.nil ?_
        refine CT.nil ?_
        repeat
          (first
           | (apply P_assign; (iterate 3 exact rfl)) | apply EL.nil | ((with_reducible apply EK.then_normal); apply EK.code)
           | (with_reducible first | apply EC.seq | apply EC.region | apply EC.skip | apply EC.label | apply EC.block | apply EC.exit | apply EC.ret | apply EK.in_normal | apply EK.in_same | apply EK.in_ret | apply EK.then_ret | apply EK.then_exit))
        exact EK.retM1s [tO g2 m id, .map m 32 (tickE 0 [] id) (putE 0 [] id (dLay zero32 L))] rfl rfl (by (repeat first | exact List.nil_sublist _ | apply List.Sublist.cons_cons | apply List.Sublist.cons)) ⟨g2, m, L, hL, by omega, fun x hx => by have := hLs x hx; omega, rfl, rfl⟩
set_option maxRecDepth 20000 in
set_option maxHeartbeats 8000000 in
theorem sadd {g m c : Nat} {base id par p : List UInt8} {es : List Ent} {L : List AcL} (ch : List ChL) (h1 : getE es id = none) (h2 : getE es par = some (dLay p L)) (hl : L.length ≤ 1000) (hls : ∀ x ∈ L, x.sl.length ≤ 1000 ∧ x.cd.length ≤ 140737488355328) (hc : ch.length ≤ 100) (hcs : ∀ c ∈ ch, c.sl.length ≤ 1000 ∧ c.cd.length ≤ 140737488355328) :
    FnM 28 [.v (ptr g), .tup [.arr 32 id, .arr 32 par, .sl 56 (ch.map dChL)]] [tO g m base, .map m 32 c es] (fun r os' => ∃ L', Canon (applyA (newA L) ch) L' ∧ L'.length ≤ 1000000 ∧ (∀ x ∈ L', x.sl.length ≤ 1000000) ∧ r = .val (.v (.int .i64 0)) ∧ os' = [tO g m base, .map m 32 (tickE c es id) (putE c es id (dLay par L'))]) := by
  have ha := apply_ L ch id par hl hls hc hcs
  have hz1 : (getE es id).getD (.tup [.arr 32 zero32, .v nilS]) = .tup [.arr 32 zero32, .v nilS] ∧ (getE es id).isSome = false := by rw [h1]; exact ⟨rfl, rfl⟩
  have hz2 : (getE es par).getD (.tup [.arr 32 zero32, .v nilS]) = .tup [.arr 32 p, .sl 55 (L.map dAcL)] ∧ (getE es par).isSome = true := by rw [h2]; exact ⟨rfl, rfl⟩
  refine FnM.walk 47 Tryz.func28 rfl Tryz.ntmps28 (by simp) fun X => ?_
  repeat
    (first
     | (apply P_assign; (iterate 3 exact rfl)) | (apply P_box; exact rfl; exact rfl; exact rfl; intro _) | apply EL.nil | ((with_reducible apply EK.then_normal); apply EK.code)
     | (with_reducible first | apply EC.seq | apply EC.region | apply EC.skip | apply EC.label | apply EC.block | apply EC.exit | apply EC.ret | apply EK.in_normal | apply EK.in_same | apply EK.in_ret | apply EK.then_ret | apply EK.then_exit))
  rename_i g3
  refine EC.drawC 12 [0, 1, 2, 3, 4, 5, 6, 7, 8, 9] [10, 11] [] _ (by kernel_rfl) (by kernel_rfl) rfl ?_
  simp only [pickL, List.filterMap_cons, List.filterMap_nil, List.getElem?_cons_zero, List.getElem?_cons_succ]
  repeat
    (first
     | (apply H_lookup2; exact hz1; exact rfl; (first | exact I0 | exact I1 | exact I2 | exact I3 | exact I4 | exact I5); (iterate 5 exact rfl)) | (apply H_move; (iterate 3 exact rfl))
     | (apply H_field; (iterate 6 exact rfl)) | (apply H_extract; (iterate 4 exact rfl))
     | (apply H_load; exact rfl; (first | exact I0 | exact I1 | exact I2 | exact I3 | exact I4 | exact I5 | exact I6); (iterate 4 exact rfl)) | (apply H_nilck; (iterate 3 exact rfl)))
  refine EM.nil ?_
  repeat (first | rw [List.cons_append] | rw [List.nil_append])
  refine CH.mut (os := []) (rest := []) rfl rfl (m_alloc rfl rfl) ?_
  rintro _ _ ⟨g5, rfl, rfl⟩
  try simp only [St.put]
  repeat (first | rw [List.cons_append] | rw [List.nil_append])
  refine CH.mut (os := [_]) (rest := []) rfl rfl (m_put (put_store rfl rfl rfl rfl rfl)) ?_
  rintro _ _ ⟨rfl, rfl⟩
  try simp only [St.put]
  repeat (first | rw [List.cons_append] | rw [List.nil_append])
  refine CH.nil ?_
  try simp only [List.drop_succ_cons, List.drop_zero]
  repeat
    (first
     | (apply P_assign; (iterate 3 exact rfl)) | apply EL.nil | ((with_reducible apply EK.then_normal); apply EK.code)
     | (with_reducible first | apply EC.seq | apply EC.region | apply EC.skip | apply EC.label | apply EC.block | apply EC.exit | apply EC.ret | apply EK.in_normal | apply EK.in_same | apply EK.in_ret | apply EK.then_ret | apply EK.then_exit))
  refine EC.drawC 12 [0, 1, 2, 3, 4, 5, 6, 7, 8, 9] [10, 11] [] _ (by kernel_rfl) (by kernel_rfl) rfl ?_
  simp only [pickL, List.filterMap_cons, List.filterMap_nil, List.getElem?_cons_zero, List.getElem?_cons_succ]
  repeat
    (first
     | (apply H_lookup2; exact hz2; exact rfl; (first | exact I0 | exact I1 | exact I2 | exact I3 | exact I4 | exact I5); (iterate 5 exact rfl)) | (apply H_move; (iterate 3 exact rfl))
     | (apply H_field; (iterate 6 exact rfl)) | (apply H_extract; (iterate 4 exact rfl))
     | (apply H_load; exact rfl; (first | exact I0 | exact I1 | exact I2 | exact I3 | exact I4 | exact I5 | exact I6); (iterate 4 exact rfl)) | (apply H_nilck; (iterate 3 exact rfl)))
  refine EM.nil ?_
  repeat (first | rw [List.cons_append] | rw [List.nil_append])
  refine CH.mut (os := []) (rest := []) rfl rfl (m_alloc rfl rfl) ?_
  rintro _ _ ⟨g7, rfl, rfl⟩
  try simp only [St.put]
  repeat (first | rw [List.cons_append] | rw [List.nil_append])
  refine CH.mut (os := [_]) (rest := []) rfl rfl (m_put (put_store rfl rfl rfl rfl rfl)) ?_
  rintro _ _ ⟨rfl, rfl⟩
  try simp only [St.put]
  repeat (first | rw [List.cons_append] | rw [List.nil_append])
  refine CH.nil ?_
  try simp only [List.drop_succ_cons, List.drop_zero]
  repeat
    (first
     | (apply P_move; (iterate 3 exact rfl)) | (apply P_assign; (iterate 3 exact rfl)) | (apply P_not; (iterate 3 exact rfl)) | apply EL.nil | ((with_reducible apply EK.then_normal); apply EK.code)
     | (apply EC.cond_false; exact rfl)
     | (with_reducible first | apply EC.seq | apply EC.region | apply EC.skip | apply EC.label | apply EC.block | apply EC.exit | apply EC.ret | apply EK.in_normal | apply EK.in_same | apply EK.in_ret | apply EK.then_ret | apply EK.then_exit))
  refine EC.le (Le.pick [4, 3, 0, 1, 2] [_, _, _, _, _] rfl (by decide) rfl) ?_
  refine EC.drawC 14 [0, 1, 2, 3, 4, 5, 6, 7, 8, 9, 10] [11, 12, 13] [_] _ (by kernel_rfl) (by kernel_rfl) rfl ?_
  simp only [pickL, List.filterMap_cons, List.filterMap_nil, List.getElem?_cons_zero, List.getElem?_cons_succ]
  repeat
    (first
     | (apply H_move; (iterate 3 exact rfl)) | (apply H_field; (iterate 6 exact rfl))
     | (apply H_load; exact rfl; (first | exact I0 | exact I1 | exact I2 | exact I3 | exact I4 | exact I5 | exact I6); (iterate 4 exact rfl)) | (apply H_nilck; (iterate 3 exact rfl)))
  refine EM.nil ?_
  repeat (first | rw [List.cons_append] | rw [List.nil_append])
  refine CH.callM (os := []) (rest := [_]) ha rfl rfl (RefineL.refl _ _) (by intro _ _; simp [go_sem]) rfl rfl ?_
  rintro _ _ ⟨⟨L', hL, hLl, hLs, rfl⟩, rfl⟩
  try simp only [St.put]
  repeat (first | rw [List.cons_append] | rw [List.nil_append])
  refine CH.cut 1 ?_
  simp only [List.take_succ_cons, List.take_zero, List.drop_succ_cons, List.drop_zero]
  repeat
    (first
     | (apply H_build; (iterate 7 exact rfl)))
  refine EM.nil ?_
  repeat (first | rw [List.cons_append] | rw [List.nil_append])
  refine CH.mut (os := [_]) (rest := []) rfl rfl (m_put (put_mapUpd rfl rfl rfl rfl rfl)) ?_
  rintro _ _ ⟨rfl, rfl⟩
  try simp only [St.put]
  repeat (first | rw [List.cons_append] | rw [List.nil_append])
  refine CH.nil ?_
  try simp only [List.drop_succ_cons, List.drop_zero]
  repeat
    (first
     | (apply P_assign; (iterate 3 exact rfl)) | apply EL.nil | ((with_reducible apply EK.then_normal); apply EK.code)
     | (with_reducible first | apply EC.seq | apply EC.region | apply EC.skip | apply EC.label | apply EC.block | apply EC.exit | apply EC.ret | apply EK.in_normal | apply EK.in_same | apply EK.in_ret | apply EK.then_ret | apply EK.then_exit))
  refine EK.le (Le.pick [1, 0, 2, 3, 4] [_, _, _, _, _] rfl (by decide) rfl) ?_
  exact EK.retM1s [tO g m base, .map m 32 (tickE c es id) (putE c es id (dLay par L'))] rfl rfl (by (repeat first | exact List.nil_sublist _ | apply List.Sublist.cons_cons | apply List.Sublist.cons)) ⟨L', hL, hLl, hLs, rfl, rfl⟩
end E
end Go.Proofs.YtdhicdnmgmkpkaaGreat
/-
  The program's snap: from, Base.
  Conditions: none.
-/
namespace Go.Proofs.YtdhicdnmgmkpkaaGreat
set_option linter.unusedVariables false
open Go.RowKit Mono Rlp Wd
namespace E
section
variable {g m c : Nat} {base id to : List UInt8} {es : List Ent}
set_option maxRecDepth 20000 in
set_option maxHeartbeats 4000000 in
theorem from_same : FnM 85 [.v (ptr g), .arr 32 id, .arr 32 id] [tO g m base, .map m 32 c es] (fun r os' => r = .val (.v (.bool true)) ∧ os' = [tO g m base, .map m 32 c es]) := by
  have hn := (bin_word id id).2
  rw [bne_self_eq_false] at hn
  refine FnM.walk 23 Tryz.func85 rfl Tryz.ntmps85 (by simp) fun X => ?_
  repeat
    (first
     | (apply P_assign; (iterate 3 exact rfl)) | (apply P_box; exact rfl; exact rfl; exact rfl; intro _) | apply EL.nil | ((with_reducible apply EK.then_normal); apply EK.code)
     | (with_reducible first | apply EC.seq | apply EC.region | apply EC.skip | apply EC.label | apply EC.block | apply EC.exit | apply EC.ret | apply EK.in_normal | apply EK.in_same | apply EK.in_ret | apply EK.then_ret | apply EK.then_exit))
  refine EC.loopN 1 (EK.round ?_)
  repeat
    (first
     | (apply P_bin; (iterate 2 exact rfl); exact hn; (iterate 2 exact rfl)) | (apply P_assign; (iterate 3 exact rfl))
     | (apply P_load; exact rfl; (first | exact I0 | exact I1 | exact I2 | exact I3 | exact I4 | exact I5 | exact I6); (iterate 4 exact rfl)) | apply EL.nil
     | ((with_reducible apply EK.then_normal); apply EK.code) | (apply EC.cond_false; exact rfl)
     | (with_reducible first | apply EC.seq | apply EC.region | apply EC.skip | apply EC.label | apply EC.block | apply EC.exit | apply EC.ret | apply EK.in_normal | apply EK.in_same | apply EK.in_ret | apply EK.then_ret | apply EK.then_exit))
  exact EK.retM1s [tO g m base, .map m 32 c es] rfl rfl (by (repeat first | exact List.nil_sublist _ | apply List.Sublist.cons_cons | apply List.Sublist.cons)) ⟨rfl, rfl⟩
set_option maxRecDepth 20000 in
set_option maxHeartbeats 4000000 in
theorem from_base (h : (base != to) = true) : FnM 85 [.v (ptr g), .arr 32 base, .arr 32 to] [tO g m base, .map m 32 c es] (fun r os' => r = .val (.v (.bool false)) ∧ os' = [tO g m base, .map m 32 c es]) := by
  have hn := (bin_word base to).2
  rw [h] at hn
  have he := (bin_word base base).1
  rw [beq_self_eq_true] at he
  refine FnM.walk 23 Tryz.func85 rfl Tryz.ntmps85 (by simp) fun X => ?_
  repeat
    (first
     | (apply P_assign; (iterate 3 exact rfl)) | (apply P_box; exact rfl; exact rfl; exact rfl; intro _) | apply EL.nil | ((with_reducible apply EK.then_normal); apply EK.code)
     | (with_reducible first | apply EC.seq | apply EC.region | apply EC.skip | apply EC.label | apply EC.block | apply EC.exit | apply EC.ret | apply EK.in_normal | apply EK.in_same | apply EK.in_ret | apply EK.then_ret | apply EK.then_exit))
  refine EC.loopN 1 (EK.round ?_)
  repeat
    (first
     | (apply P_bin; (iterate 2 exact rfl); exact hn; (iterate 2 exact rfl))
     | (apply P_load; exact rfl; (first | exact I0 | exact I1 | exact I2 | exact I3 | exact I4 | exact I5 | exact I6); (iterate 4 exact rfl)) | apply EL.nil
     | ((with_reducible apply EK.then_normal); apply EK.code) | (apply EC.cond_true; exact rfl)
     | (with_reducible first | apply EC.seq | apply EC.region | apply EC.skip | apply EC.label | apply EC.block | apply EC.exit | apply EC.ret | apply EK.in_normal | apply EK.in_same | apply EK.in_ret | apply EK.then_ret | apply EK.then_exit))
  refine EC.draw 6 (by kernel_rfl) ?_
  simp only [List.take_succ_cons, List.take_zero, List.drop_succ_cons, List.drop_zero]
  repeat
    (first
     | (apply H_bin; (iterate 2 exact rfl); exact he; (iterate 2 exact rfl)) | (apply H_move; (iterate 3 exact rfl)) | (apply H_field; (iterate 6 exact rfl))
     | (apply H_load; exact rfl; (first | exact I0 | exact I1 | exact I2 | exact I3 | exact I4 | exact I5 | exact I6); (iterate 4 exact rfl)) | (apply H_nilck; (iterate 3 exact rfl))
     | ((with_reducible apply EH.nil); exact rfl))
  repeat
    (first
     | (apply P_assign; (iterate 3 exact rfl)) | apply EL.nil | ((with_reducible apply EK.then_normal); apply EK.code) | (apply EC.cond_true; exact rfl)
     | (with_reducible first | apply EC.seq | apply EC.region | apply EC.skip | apply EC.label | apply EC.block | apply EC.exit | apply EC.ret | apply EK.in_normal | apply EK.in_same | apply EK.in_ret | apply EK.then_ret | apply EK.then_exit))
  exact EK.retM1s [tO g m base, .map m 32 c es] rfl rfl (by (repeat first | exact List.nil_sublist _ | apply List.Sublist.cons_cons | apply List.Sublist.cons)) ⟨rfl, rfl⟩
set_option maxRecDepth 20000 in
set_option maxHeartbeats 4000000 in
theorem sbase : FnM 40 [.v (ptr g)] [tO g m base, .map m 32 c es] (fun r os' => r = .val (.arr 32 base) ∧ os' = [tO g m base, .map m 32 c es]) := by
  refine FnM.walk 7 Tryz.func40 rfl Tryz.ntmps40 (by simp) fun X => ?_
  repeat
    (first
     | (apply P_move; (iterate 3 exact rfl)) | (apply P_field; (iterate 6 exact rfl))
     | (apply P_load; exact rfl; (first | exact I0 | exact I1 | exact I2 | exact I3 | exact I4 | exact I5 | exact I6); (iterate 4 exact rfl)) | (apply P_nilck; (iterate 3 exact rfl))
     | (apply P_alloc; exact rfl; exact rfl; exact rfl; intro _) | (apply P_store; exact rfl; (focus (repeat first | exact .z | apply SetAt.s | apply SetAtF.s)); (iterate 4 exact rfl)) | apply EL.nil
     | ((with_reducible apply EK.then_normal); apply EK.code)
     | (with_reducible first | apply EC.seq | apply EC.region | apply EC.skip | apply EC.label | apply EC.block | apply EC.exit | apply EC.ret | apply EK.in_normal | apply EK.in_same | apply EK.in_ret | apply EK.then_ret | apply EK.then_exit))
  exact EK.retMc1s 0 [tO g m base, .map m 32 c es] rfl rfl rfl rfl (RefineL.refl _ _) (by (repeat first | exact List.nil_sublist _ | apply List.Sublist.cons_cons | apply List.Sublist.cons)) ⟨rfl, rfl⟩
end
end E
end Go.Proofs.YtdhicdnmgmkpkaaGreat
