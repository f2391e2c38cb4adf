/-
 Merged (wip/tools/merge.py): ET, TE, ERet, PF1, Kec, KecMem, KecTake.
 Conditions: none.
-/
import Derived.Test.YtiledgojbpmoiaaGreatZR11
import Derived.Test.YtiledgojbpmoiaaGreatZR7
import Derived.Test.YtiledgojbpmoiaaGreatZR8
import Derived.Laws.Pointers
import Derived.Test.YtiledgojbpmoiaaGreatZR2
import Derived.BigQuiet
import Derived.Deep.QuietTactic
import Derived.Laws.BitsAllLaws
namespace Go.Proofs.YtiledgojbpmoiaaGreat
set_option linter.unusedVariables false
set_option maxHeartbeats 2000000
open Go.RowKit Mono Rlp
namespace E
def CW (l : List Oper) (chain done : List Nat) : List Nat := chain.filter fun k => !done.contains k && match l[k]? with
 | some o => o.after.toList.all fun e => !(Region.binds .any e) || !chain.contains e.on || done.contains e.on
 | none => true
def CT (N : Nat) (l : List Oper) (os1 : List Obj) (T : St → Prop) (chain : List Nat) : Nat → List Nat → St → Prop
 | 0, _, S => T S
 | m + 1, done, S => ∀ k ∈ CW l chain done, CH N l.toArray os1 (fun S' => CT N l os1 T chain m (k :: done) S') (bQ l [k]) S
theorem CT.pick {N : Nat} {l : List Oper} {os1 : List Obj} {T : St → Prop} {chain : List Nat} {m : Nat} {done : List Nat} {S : St} (ks : List Nat) (hk : CW l chain done = ks) (h : ∀ k ∈ ks, CH N l.toArray os1 (fun S' => CT N l os1 T chain m (k :: done) S') (bQ l [k]) S) : CT N l os1 T chain (m + 1) done S := by
 unfold CT
 rw [hk]
 exact h
theorem CT.nil {N : Nat} {l : List Oper} {os1 : List Obj} {T : St → Prop} {chain : List Nat} {done : List Nat} {S : St} (h : T S) : CT N l os1 T chain 0 done S := h
def CB (l : List Oper) (n : Nat) (free chain : List Nat) : Bool :=
 (List.range n).all (fun k => free.contains k != chain.contains k) && free.all (fun k => decide (k < n)) && chain.all (fun k => decide (k < n)) && decide (n ≤ l.length) &&
 (List.range free.length).all (fun i => (List.range i).all fun j => decide (free.getD j 0 < free.getD i 0)) && decide chain.Nodup &&
 (List.range n).all (fun k => match l[k]? with
  | some o => (o.looksAt l.toArray).all (fun t => (List.range n).all fun j => decide (j < k) || (l[j]?.bind (·.dst)) != some t) &&
   (match o.dst with
    | some t => (List.range k).all fun j => (l[j]?.bind (·.dst)) != some t
    | none => true)
  | none => false) &&
 free.all (fun k => match l[k]? with
  | some o => (o.looksAt l.toArray).all fun t => chain.all fun j => (l[j]?.bind (·.dst)) != some t
  | none => true)
structure Vs (l : List Oper) (n : Nat) (free chain : List Nat) : Prop where
 part : ∀ k, k < n → (k ∈ free ∧ k ∉ chain) ∨ (k ∉ free ∧ k ∈ chain)
 flt : ∀ k ∈ free, k < n
 clt : ∀ k ∈ chain, k < n
 le : n ≤ l.length
 fup : ∀ i j : Nat, j < i → i < free.length → free.getD j 0 < free.getD i 0
 nod : chain.Nodup
 back : ∀ (k j : Nat) (o oj : Oper) (t : Tmp), k < n → l[k]? = some o → t ∈ o.looksAt l.toArray → k ≤ j → j < n → l[j]? = some oj → oj.dst ≠ some t
 free : ∀ (k j : Nat) (o oj : Oper) (t : Tmp), k ∈ free → l[k]? = some o → t ∈ o.looksAt l.toArray → j ∈ chain → l[j]? = some oj → oj.dst ≠ some t
 once : ∀ (k j : Nat) (o oj : Oper) (t : Tmp), k < n → l[k]? = some o → o.dst = some t → j < k → l[j]? = some oj → oj.dst ≠ some t
theorem Ld {l : List Oper} {n : Nat} {free chain : List Nat} (h : CB l n free chain = true) : Vs l n free chain := by
 unfold CB at h
 simp only [Bool.and_eq_true, List.all_eq_true, List.mem_range, decide_eq_true_eq] at h
 obtain ⟨⟨⟨⟨⟨⟨⟨h1, h2⟩, h3⟩, h4⟩, h5⟩, h6⟩, h8⟩, h9⟩ := h
 refine ⟨fun k hk => ?_, h2, h3, h4, fun i j hj hi => h5 i hi j hj, h6, fun k j o oj t hk ho ht hkj hj hoj e => ?_, fun k j o oj t hk ho ht hj hoj e => ?_, fun k j o oj t hk ho ht hj hoj e => ?_⟩
 ·
  have := h1 k hk
  by_cases e1 : k ∈ free <;> by_cases e2 : k ∈ chain <;> simp [e1, e2] at this ⊢
 ·
  have := h8 k hk
  rw [ho] at this
  simp only [Bool.and_eq_true, List.all_eq_true, List.mem_range] at this
  have := this.1 t ht j hj
  rw [hoj] at this
  simp [e] at this
  omega
 ·
  have := h9 k hk
  rw [ho] at this
  simp only [List.all_eq_true] at this
  have := this t ht j hj
  rw [hoj] at this
  simp [e] at this
 ·
  have := h8 k hk
  rw [ho] at this
  simp only [Bool.and_eq_true] at this
  have := this.2
  rw [ht] at this
  simp only [List.all_eq_true, List.mem_range] at this
  have := this j hj
  rw [hoj] at this
  simp [e] at this
section
variable {N : Nat} {X : Cx N} {S : St} {a : Act} {Q : Exit → Act → World → Prop} {l : List Oper}
theorem EC.TU {id : Nat} (n : Nat) (free chain : List Nat) (os0 os1 : List Obj) (hB : monoB l.toArray n N = true) (hC : CB l n free chain = true) (hS : S.objs = os0 ++ os1)
  (h : EM N l.toArray (fun S' _ => CT N l os1 (fun S'' => EL X l.toArray Q (l.drop n) S'') chain chain.length [] ⟨S'.regs, os0 ++ os1, S.facts⟩) (bQ l free) ⟨S.regs, os1, S.facts⟩ []) : EC X Q (.region id l.toArray true) S := by
 constructor
 intro a ws ha
 have C := Ld hC
 obtain ⟨infs, hlen, hok, hT, hnp⟩ := oZ _ _ _ h
 have hfree := nK (l := l) free fun k hk => Nat.lt_of_lt_of_le (C.flt k hk) C.le
 have hchain := nK (l := l) chain fun k hk => Nat.lt_of_lt_of_le (C.clt k hk) C.le
 rw [hfree.1] at hlen hT
 have hdst : ∀ k o, l[k]? = some o → dJ l.toArray k = o.dst := fun k o ho => by unfold dJ; simp [ho]
 have hsl : ∀ k o L vs (b : Act) t, k < n → l[k]? = some o → t ∈ o.looksAt l.toArray → pq l.toArray L vs a b k t → (∃ j oj, j < n ∧ l[j]? = some oj ∧ oj.dst = some t ∧ L j ∧ b.tmps.getD t undef = vs j) ∨ ((∀ j o, j < n → l[j]? = some o → o.dst ≠ some t) ∧ b.tmps.getD t undef = a.tmps.getD t undef) := fun k o L vs b t hk ho ht hs => by
  rcases hs with ⟨j, h1, h2, h3, h4, h5⟩ | ⟨h1, h2⟩
  ·
   have hj : j < l.length := by have := C.le; omega
   exact .inl ⟨j, l[j], by omega, by simp, by rw [← hdst j l[j] (by simp)]; exact h2, h4, h5⟩
  ·
   refine .inr ⟨fun j oj hj hoj e => ?_, h2⟩
   rcases Nat.lt_or_ge j k with h3 | h3
   · exact h1 j h3 (by rw [hdst j oj hoj]; exact e)
   · exact C.back k j o oj t hk ho ht h3 hj hoj e
 have huniq : ∀ j j' o o' t, j < n → j' < n → l[j]? = some o → l[j']? = some o' → o.dst = some t → o'.dst = some t → j = j' := fun j j' o o' t hj hj' ho ho' hd hd' => by
  rcases Nat.lt_trichotomy j j' with h | h | h
  · exact absurd hd (C.once j' j o' o t hj' ho' hd' h ho)
  · exact h
  · exact absurd hd' (C.once j j' o o' t hj ho hd h ho')
 let RF := (ig ⟨S.regs, os1, S.facts⟩ (bQ l free) infs free.length).regs
 have hRF : ∀ t r, look RF t = some r → (∃ p o i, p < free.length ∧ l[free.getD p 0]? = some o ∧ infs[p]? = some i ∧ o.dst = some t ∧ r = i.reg) ∨ look S.regs t = some r := fun t r hr => by
  rcases nG _ _ _ _ _ _ hr with ⟨q, oq, iq, h1, h2, h3, h4, h5⟩ | h1
  · exact .inl ⟨q, oq, iq, h1, by rw [← hfree.2 q h1]; exact h2, h3, h4, h5⟩
  · exact .inr h1
 have hfl : ∀ p, p < free.length → free.getD p 0 < n ∧ free.getD p 0 ∈ free := fun p hp => by
  have : free.getD p 0 ∈ free := by
   rw [List.getD_eq_getElem?_getD, List.getElem?_eq_getElem hp]
   exact List.getElem_mem hp
  exact ⟨C.flt _ this, this⟩
 have hcl : ∀ p, p < chain.length → chain.getD p 0 < n ∧ chain.getD p 0 ∈ chain := fun p hp => by
  have : chain.getD p 0 ∈ chain := by
   rw [List.getD_eq_getElem?_getD, List.getElem?_eq_getElem hp]
   exact List.getElem_mem hp
  exact ⟨C.clt _ this, this⟩
 have hput : ∀ p o i, p < free.length → l[free.getD p 0]? = some o → infs[p]? = some i → ∀ t, o.dst = some t → look RF t = some i.reg := fun p o i hp ho hi t ht => by
  have hlk := (gW (bQ l free) infs free.length ⟨S.regs, os1, S.facts⟩ t (by rw [hlen, hfree.1]) (by rw [hfree.1]; exact Nat.le_refl _)).1
  refine hlk p o i hp (by rw [hfree.2 p hp]; exact ho) hi ht fun m om h1 h2 h3 e => ?_
  rw [hfree.2 m h2] at h3
  have := huniq _ _ _ _ t (hfl p hp).1 (hfl m h2).1 ho h3 ht e
  have := C.fup m p h1 h2
  omega
 have hmono : ∀ p o t r, p < free.length → l[free.getD p 0]? = some o → t ∈ o.looksAt l.toArray → look (ig ⟨S.regs, os1, S.facts⟩ (bQ l free) infs p).regs t = some r → look RF t = some r := fun p o t r hp ho ht hr => by
  rcases nG _ _ _ _ _ _ hr with ⟨q, oq, iq, h1, h2, h3, h4, h5⟩ | h1
  ·
   rw [h5]
   have hq : q < free.length := by omega
   exact hput q oq iq hq (by rw [← hfree.2 q hq]; exact h2) h3 t h4
  ·
   have hlk := (gW (bQ l free) infs free.length ⟨S.regs, os1, S.facts⟩ t (by rw [hlen, hfree.1]) (by rw [hfree.1]; exact Nat.le_refl _)).2
   have hpre := (gW (bQ l free) infs p ⟨S.regs, os1, S.facts⟩ t (by rw [hlen, hfree.1]) (by rw [hfree.1]; exact Nat.le_of_lt hp))
   by_cases hex : ∃ m om, m < p ∧ (bQ l free)[m]? = some om ∧ om.dst = some t
   ·
    -- what was put ahead stays
    obtain ⟨m, om, g1, g2, g3⟩ := hex
    have hm : m < free.length := by omega
    obtain ⟨inf, hi⟩ : ∃ inf, infs[m]? = some inf := ⟨infs[m]'(by omega), by simp⟩
    have e1 := hpre.1 m om inf g1 g2 hi g3 fun m' om' h1 h2 h3 e => by
     rw [hfree.2 m' (by omega)] at h3
     rw [hfree.2 m hm] at g2
     have := huniq _ _ _ _ t (hfl m hm).1 (hfl m' (by omega)).1 g2 h3 g3 e
     have := C.fup m' m h1 (by omega)
     omega
    rw [hr] at e1
    cases e1
    exact hput m om inf hm (by rw [← hfree.2 m hm]; exact g2) hi t g3
   have := hlk fun m om h2 h3 e => by
    rcases Nat.lt_or_ge m p with h4 | h4
    · exact hex ⟨m, om, h4, h3, e⟩
    ·
     rw [hfree.2 m h2] at h3
     have hle : free.getD p 0 ≤ free.getD m 0 := by
      rcases Nat.lt_or_ge p m with h5 | h5
      · exact Nat.le_of_lt (C.fup m p h5 h2)
      · rw [show m = p by omega]; exact Nat.le_refl _
     exact C.back _ _ o om t (hfl p hp).1 ho ht hle (hfl m h2).1 h3 e
   show look (ig ⟨S.regs, os1, S.facts⟩ (bQ l free) infs free.length).regs t = some r
   rw [this]
   exact h1
 have hT' : CT N l os1 (fun S'' => EL X l.toArray Q (l.drop n) S'') chain chain.length [] ⟨RF, os0 ++ os1, S.facts⟩ := hT
 clear hT h
 refine lV n (by kernel_rfl) (by rw [ha.size]; exact hB) (fun L vs u => ∃ m done Si, done.length + m = chain.length ∧ done.Nodup ∧ (∀ q ∈ done, q ∈ chain) ∧ (∀ q ∈ chain, (q ∈ done ↔ L q)) ∧ CT N l os1 (fun S'' => EL X l.toArray Q (l.drop n) S'') chain m done Si ∧ Real X l n chain a RF os1 S.facts Si L vs u) ?_ ?_ ?_ ?_
 ·
  rintro L L' vs vs' w hL hvs ⟨m, done, Si, h1, h2, h3, h6, h4, h5⟩
  obtain rfl : L = L' := funext fun j => propext (hL j)
  refine ⟨m, done, Si, h1, h2, h3, h6, h4, h5.mem, h5.tail, h5.facts, fun t r hr => ?_, h5.free⟩
  obtain ⟨g1, g2⟩ := h5.regs t r hr
  exact ⟨fun j o hj ho hd hL => by rw [← hvs j hL]; exact g1 j o hj ho hd hL, g2⟩
 ·
  have had : At X S a ws.drew := ha.gr (by exact ⟨rfl, rfl, rfl, Nat.le_refl _, fun _ _ => rfl⟩)
  refine ⟨chain.length, [], ⟨RF, os0 ++ os1, S.facts⟩, Nat.zero_add _, List.nodup_nil, fun q hq => by simp at hq, fun q _ => ⟨fun h => by simp at h, fun h => h.elim⟩, hT', ?_, ⟨os0, rfl⟩, rfl, fun t r hr => ⟨fun _ _ _ _ _ h => h.elim, fun hno => ?_⟩, fun t r hr _ => hr⟩
  · rw [← hS]; exact had.mem
  ·
   rcases hRF t r hr with ⟨p, o, i, h1, h2, h3, h4, h5⟩ | h1
   · exact absurd h4 (hno _ o (hfl p h1).1 h2)
   ·
    rw [← hS]
    exact had.regs t r h1
 ·
  intro k o L vs b u hk ho hL hLk ⟨m, done, Si, h1, h2, h3, h6, h4, h5⟩ hslot hwait
  rcases C.part k hk with ⟨hkf, hkc⟩ | ⟨hkf, hkc⟩
  ·
   -- a free operation
   obtain ⟨p, hp, rfl⟩ : ∃ p, p < free.length ∧ free.getD p 0 = k := by
    obtain ⟨p, hp⟩ := List.getElem?_of_mem hkf
    exact ⟨p, (List.getElem?_eq_some_iff.1 hp).1, by rw [List.getD_eq_getElem?_getD, hp]; rfl⟩
   obtain ⟨inf, hi⟩ : ∃ inf, infs[p]? = some inf := ⟨infs[p]'(by omega), by simp⟩
   obtain ⟨hO, _, _⟩ := hok p o inf (by rw [hfree.2 p hp]; exact ho) hi
   have hkn : Kn X.mine (X.ok Si.objs u) (fun t => t ∈ o.looksAt l.toArray) (ig ⟨S.regs, os1, S.facts⟩ (bQ l free) infs p) b u := by
    obtain ⟨os, hos⟩ := h5.tail
    refine ⟨fun q hq => ?_, fun f hf => ?_, fun b hb => hb.2.1, fun t r ht hr => ?_⟩
    ·
     rw [(dS _ _ _ _).1] at hq
     exact h5.mem.at_ q (by rw [hos]; exact List.mem_append_right _ hq)
    ·
     rw [(dS _ _ _ _).2] at hf
     exact h5.mem.fact f (by rw [h5.facts]; exact hf)
    ·
     obtain ⟨g1, g2⟩ := h5.regs t r (h5.free t r (hmono p o t r hp ho ht hr) fun j oj hj hoj => C.free _ j o oj t hkf ho ht hj hoj)
     rcases hsl _ o L vs b t hk ho ht (hslot t ht) with ⟨j, oj, e1, e2, e3, e4, e5⟩ | ⟨e1, e2⟩
     · rw [e5]; exact g1 j oj e1 e2 e3 e4
     · rw [e2]; exact g2 e1
   have hnext : ∀ v u', Gr u u' → bY (X.ok Si.objs u') u' inf.reg v → ∃ m done Si, done.length + m = chain.length ∧ done.Nodup ∧ (∀ q ∈ done, q ∈ chain) ∧ (∀ q ∈ chain, (q ∈ done ↔ (q = free.getD p 0 ∨ L q))) ∧ CT N l os1 (fun S'' => EL X l.toArray Q (l.drop n) S'') chain m done Si ∧ Real X l n chain a RF os1 S.facts Si (fun j => j = free.getD p 0 ∨ L j) (fun j => if j = free.getD p 0 then v else vs j) u' := fun v u' hg hv => by
    refine ⟨m, done, Si, h1, h2, h3, fun q hq => ⟨fun h => .inr ((h6 q hq).1 h), fun h => (h6 q hq).2 (h.resolve_left fun e => hkc (by rw [← e]; exact hq))⟩, h4, h5.mem.grown hg, h5.tail, h5.facts, fun t r hr => ?_, h5.free⟩
    ·
     obtain ⟨g1, g2⟩ := h5.regs t r hr
     refine ⟨fun j oj hj hoj hd hLj => ?_, fun hno => pY hg (g2 hno)⟩
     by_cases e : j = free.getD p 0
     ·
      rw [if_pos e]
      subst e
      obtain rfl : oj = o := Option.some.inj (hoj.symm.trans ho)
      have := h5.free t _ (hput p oj inf hp ho hi t hd) fun j' oj' hj' hoj' e' => by
       have := huniq _ _ _ _ t hk (C.clt j' hj') hoj hoj' hd e'
       exact hkc (by rw [this]; exact hj')
      rw [hr] at this
      cases this
      exact hv
     ·
      rw [if_neg e]
      exact pY hg (g1 j oj hj hoj hd (hLj.resolve_left e))
   cases inf with
   | still r =>
    obtain ⟨hg, hSt⟩ := hO
    refine ⟨fun _ => ?_, fun hw => by rw [cO hkn hg] at hw; cases hw⟩
    obtain ⟨v, e1, e2⟩ := hSt _ _ b u hkn
    rw [e1]
    exact hnext v u (Gr.refl u) e2
   | grow r =>
    obtain ⟨hg, hSt⟩ := hO
    refine ⟨fun _ => iD (hSt _ _ b u hkn) (fun v w' hgr hv => ?_), fun hw => by rw [cO hkn hg] at hw; cases hw⟩
    obtain ⟨r', rfl, hv⟩ := hv
    exact hnext v w' hgr (hv.mono (fun b hb => rD h5.mem hgr hb) fun _ _ => rfl)
   | put p q => cases hnp _ _ hi
   | skip =>
    refine ⟨fun hw => (by rw [cO hkn hO] at hw; cases hw), fun _ => ?_⟩
    exact hnext undef u (Gr.refl u) ⟨[], rfl, rfl⟩
   | new T d =>
    obtain ⟨hg, hSt⟩ := hO
    refine ⟨fun _ => ?_, fun hw => by rw [cO hkn hg] at hw; cases hw⟩
    obtain ⟨cs, e1, e2⟩ := hSt _ _ b u hkn
    rw [e1]
    exact hnext _ _ (aB u _) trivial
  ·
   -- the next of the chain
   have hkd : k ∉ done := fun h => hLk ((h6 k hkc).1 h)
   obtain ⟨m, rfl⟩ : ∃ m', m = m' + 1 := by
    cases m with
    | succ m => exact ⟨m, rfl⟩
    | zero =>
     exfalso
     have hlt := (List.nodup_cons.2 ⟨hkd, h2⟩).length_le_of_subset (fun q hq => by
      rcases List.mem_cons.1 hq with rfl | hq
      · exact hkc
      · exact h3 q hq : (k :: done) ⊆ chain)
     simp at hlt
     omega
   have hready : k ∈ CW l chain done := by
    unfold CW
    refine List.mem_filter.2 ⟨hkc, ?_⟩
    rw [ho]
    simp only [Bool.and_eq_true, Bool.not_eq_true', List.all_eq_true, Bool.or_eq_true]
    refine ⟨by simpa using hkd, fun e he => ?_⟩
    cases hb : Region.binds .any e with
    | false => exact .inl (.inl rfl)
    | true =>
     have h7 := hwait e (by simpa using he) hb
     by_cases hc : e.on ∈ chain
     · exact .inr (by simpa using (h6 e.on hc).2 h7)
     · exact .inl (.inr (by simpa using hc))
   have h4 := h4 k hready
   rw [show bQ l [k] = [o] by unfold bQ; simp [ho]] at h4
   obtain ⟨hdN, h4⟩ := h4
   have hkreg : ∀ t r, t ∈ o.looksAt l.toArray → look Si.regs t = some r → bY (X.ok Si.objs u) u r (b.tmps.getD t undef) := fun t r ht hr => by
    obtain ⟨g1, g2⟩ := h5.regs t r hr
    rcases hsl _ o L vs b t hk ho ht (hslot t ht) with ⟨j, oj, e1, e2, e3, e4, e5⟩ | ⟨e1, e2⟩
    · rw [e5]; exact g1 j oj e1 e2 e3 e4
    · rw [e2]; exact g2 e1
   have hkn : Kn X.mine (X.ok Si.objs u) (fun t => t ∈ o.looksAt l.toArray) Si b u := ⟨h5.mem.at_, h5.mem.fact, fun b hb => hb.2.1, fun t r ht hr => hkreg t r ht hr⟩
   have hnext : ∀ v u' objs' r', Mem X objs' Si.facts u' → (∃ os, objs' = os ++ os1) → (∀ b, X.ok Si.objs u b → X.ok objs' u' b) → (∀ p : Addr, X.ok Si.objs u p.block → u'.cell? p = u.cell? p) → bY (X.ok objs' u') u' r' v →
     CH N l.toArray os1 (fun S' => CT N l os1 (fun S'' => EL X l.toArray Q (l.drop n) S'') chain m (k :: done) S') [] (St.put ⟨Si.regs, objs', Si.facts⟩ o.dst r') →
     ∃ m done Si, done.length + m = chain.length ∧ done.Nodup ∧ (∀ q ∈ done, q ∈ chain) ∧ (∀ q ∈ chain, (q ∈ done ↔ (q = k ∨ L q))) ∧ CT N l os1 (fun S'' => EL X l.toArray Q (l.drop n) S'') chain m done Si ∧ Real X l n chain a RF os1 S.facts Si (fun j => j = k ∨ L j) (fun j => if j = k then v else vs j) u' := fun v u' objs' r' hmem htail hmok hcell hv hCH => by
    have hobj : (St.put ⟨Si.regs, objs', Si.facts⟩ o.dst r').objs = objs' := by cases o.dst <;> rfl
    have hfac : (St.put ⟨Si.regs, objs', Si.facts⟩ o.dst r').facts = Si.facts := by cases o.dst <;> rfl
    refine ⟨m, k :: done, _, by rw [List.length_cons]; omega, List.nodup_cons.2 ⟨hkd, h2⟩, fun q hq => ?_, fun q hq => ?_, hCH, by rw [hobj, hfac]; exact hmem, by rw [hobj]; exact htail, by rw [hfac]; exact h5.facts, fun t r hr => ?_, fun t r hr hno => ?_⟩
    ·
     rcases List.mem_cons.1 hq with rfl | hq
     · exact hkc
     · exact h3 q hq
    · rw [List.mem_cons, h6 q hq]
    ·
     rw [hobj]
     have hcase : (o.dst = some t ∧ r = r') ∨ (o.dst ≠ some t ∧ look Si.regs t = some r) := by
      cases hd : o.dst with
      | none => rw [hd] at hr; exact .inr ⟨(fun e => by cases e), hr⟩
      | some d =>
       rw [hd] at hr
       simp only [St.put, look] at hr
       split at hr
       ·
        rename_i e
        cases hr
        exact .inl ⟨by rw [e], rfl⟩
       ·
        rename_i e
        exact .inr ⟨fun e' => e (by injection e'), hr⟩
     rcases hcase with ⟨hd, rfl⟩ | ⟨hd, hr⟩
     ·
      refine ⟨fun j oj hj hoj hd' _ => ?_, fun hno => absurd hd (hno _ o hk ho)⟩
      rw [if_pos (huniq _ _ _ _ t hj hk hoj ho hd' hd)]
      exact hv
     ·
      obtain ⟨g1, g2⟩ := h5.regs t r hr
      refine ⟨fun j oj hj hoj hd' hLj => ?_, fun hno => (g2 hno).mono hmok hcell⟩
      have hne : j ≠ k := fun e => by
       subst e
       obtain rfl : oj = o := Option.some.inj (hoj.symm.trans ho)
       exact hd hd'
      rw [if_neg hne]
      exact (g1 j oj hj hoj hd' (hLj.resolve_left hne)).mono hmok hcell
    ·
     cases hd : o.dst with
     | none => exact h5.free t r hr hno
     | some d =>
      simp only [St.put, look]
      rw [if_neg fun e => hno _ o hkc ho (by rw [hd, e])]
      exact h5.free t r hr hno
   rcases h4 with ⟨inf, hnp', hO, hCH⟩ | ⟨os, rest, Φ, hos, hg, hO, hCH⟩
   ·
    have hgr : ∀ v u', Gr u u' → bY (X.ok Si.objs u') u' inf.reg v → _ := fun v u' hg hv => hnext v u' Si.objs inf.reg (h5.mem.grown hg) h5.tail (fun b hb => Bf hg hb) (fun p hp => uo hg p hp) hv hCH
    cases inf with
    | still r =>
     obtain ⟨hg, hSt⟩ := hO
     refine ⟨fun _ => ?_, fun hw => by rw [cO hkn hg] at hw; cases hw⟩
     obtain ⟨v, e1, e2⟩ := hSt _ _ b u hkn
     rw [e1]
     exact hgr v u (Gr.refl u) e2
    | grow r =>
     obtain ⟨hg, hSt⟩ := hO
     refine ⟨fun _ => iD (hSt _ _ b u hkn) (fun v w' hgr' hv => ?_), fun hw => by rw [cO hkn hg] at hw; cases hw⟩
     obtain ⟨r', rfl, hv⟩ := hv
     exact hgr v w' hgr' (hv.mono (fun b hb => rD h5.mem hgr' hb) fun _ _ => rfl)
    | put p q => cases hnp'
    | skip =>
     refine ⟨fun hw => (by rw [cO hkn hO] at hw; cases hw), fun _ => ?_⟩
     exact hgr undef u (Gr.refl u) ⟨[], rfl, rfl⟩
    | new T d =>
     obtain ⟨hg, hSt⟩ := hO
     refine ⟨fun _ => ?_, fun hw => by rw [cO hkn hg] at hw; cases hw⟩
     obtain ⟨cs, e1, e2⟩ := hSt _ _ b u hkn
     rw [e1]
     exact hgr _ _ (aB u _) trivial
   ·
    obtain ⟨rs, objs, fs⟩ := Si
    dsimp only at hos
    subst hos
    refine ⟨fun _ => ?_, fun hw => by rw [cO hkn hg] at hw; cases hw⟩
    have := hO.go X.mine (X.ok (os ++ (rest ++ os1)) u) b u ⟨fun q hq => hkn.objs q (List.mem_append_right _ hq), hkn.facts, hkn.lt, hkn.regs⟩ h5.mem.own
    refine wC this fun v u' ⟨r, os', e1, e2, e3⟩ => ?_
    exact hnext v u' (os' ++ (rest ++ os1)) r (h5.mem.turned e2) ⟨os' ++ rest, by rw [List.append_assoc]⟩ (fun b hb => oD h5.mem e2 hb) (turned_cell h5.mem e2) (e3.mono (fun b hb => ng h5.mem e2 hb) fun _ _ => rfl) (hCH r os' e1)
 ·
  intro vs u b ⟨m, done, Si, h1, h2, h3, h6, h4, h5⟩ hs hd hslot
  obtain rfl : m = 0 := by
   have hle := C.nod.length_le_of_subset (fun q hq => (h6 q hq).2 (C.clt q hq) : chain ⊆ done)
   omega
  have h4' : EL X l.toArray Q (l.drop n) Si := h4
  refine h4'.go b u ⟨h5.mem, fun t r hr => ?_, hs.trans ha.size, hd.trans ha.defers⟩
  obtain ⟨g1, g2⟩ := h5.regs t r hr
  rcases hslot t with ⟨j, e1, e2, e3, e4, e5⟩ | ⟨e1, e2⟩
  ·
   rw [e5]
   have hj : j < l.length := by have := C.le; omega
   exact g1 j l[j] e1 (by simp) (by rw [← hdst j l[j] (by simp)]; exact e2) e4
  ·
   rw [e2]
   exact g2 fun j o hj ho e => e1 j hj (by rw [hdst j o ho]; exact e)
end
section
variable {N : Nat} {X : Cx N} {S : St} {ops : Array Oper} {o : Oper} {Q : Exit → Act → World → Prop} {l : List Oper} {TT : St → List Fr → Prop} {EE : List Fr} {rs : List (Tmp × R)} {os : List Obj} {fs : List (Value × D)}
theorem U0 {x : Operand} {T n m : Nat} {b : List UInt8} (hA : zV T n) (hn : Nat.ble n 4096 = true) (ho : o.op = .slice T x none none none) (hx : ev S x = some (.val (.pd (.arr m b)))) (hm : m = n) (h0 : Nat.blt 0 n = true) : Still ops S o (.val (.bs b)) := fun base ok a w ha => by
 subst hm
 have h1 := (bP rfl).1 (ha.ev hx fun t e => aS e (by rw [ho]; simp [Op.operands]))
 rw [Reads] at h1
 obtain ⟨g, k, cs, e, hg, hr, h2⟩ := h1
 rw [Reads] at h2
 obtain ⟨hl, rfl⟩ := h2
 have e' : a.eval x = .pointer (some ⟨g, k, none⟩) := List.singleton_inj.1 e
 simp only [Nat.ble_eq] at hn
 refine ⟨.slice (some ⟨g, k, none⟩) m m, ?_, (bP rfl).2 ?_⟩
 ·
  unfold execOp
  simp only [ho, e', Option.map_none, Sem.run_bind, hA.ok w g k, Result.andThen_ok, Sem.run_pure]
 ·
  rw [Reads]
  refine ⟨_, rfl, some ⟨g, k, none⟩, m, by rw [hl], by omega, by simp [maxLen]; omega, fun _ => ⟨g, k, rfl, hg, fun j u hu => hr j u hu⟩⟩
theorem QK {t ty : Nat} {pos : String} {af : Array Edge} {gd : Option (Nat × Bool)} {x : Operand} {T n m : Nat} {b : List UInt8} (hA : zV T n) (hn : Nat.ble n 4096 = true) (hx : ev (⟨rs, os, fs⟩ : St) x = some (.val (.pd (.arr m b)))) (hm : m = n) (h0 : Nat.blt 0 n = true) (hg : guardOf ops ⟨rs, os, fs⟩ ⟨some t, .slice T x none none none, ty, pos, af, gd⟩ = some true) (hN : Nat.blt t N = true) (kk : EL X ops Q l ⟨(t, .val (.bs b)) :: rs, os, fs⟩) : EL X ops Q (⟨some t, .slice T x none none none, ty, pos, af, gd⟩ :: l) ⟨rs, os, fs⟩ := ES.still (U0 hA hn rfl hx hm h0) hg rfl hN kk
theorem GK {x y : Operand} {T e b : Nat} {k : Int} {m : List UInt8} (ho : o.op = .slice T x none (some y) none) (hx : ev S x = some (.val (.bs m))) (hy : ev S y = some (.val (.v (.int .i64 k)))) (hT : assoc slL T = some (e, 1, b)) (hk : 0 ≤ k ∧ k.toNat ≤ m.length) : Still ops S o (.val (.bs (m.take k.toNat))) := fun base ok a w ha => by
 obtain ⟨A, c, h1, h2, h3, h4⟩ := wW (ha.ev hx (dA (by rw [ho]; simp [Op.operands])))
 have hy' := iP ha hy (dA (by rw [ho]; simp [Op.operands]))
 obtain ⟨hu, hs⟩ := qA hT
 refine ⟨.slice (if c = 0 then A else A.map (·.add (0 * 1))) (k.toNat - 0) (c - 0), ?_, KD ⟨A, c, ?_, by rw [List.length_take]; omega, h3, fun hne => ?_⟩⟩
 ·
  unfold execOp
  simp only [ho, h1, hy', Option.map_none, Option.map_some, Sem.run_bind]
  rw [run_sliceAt_slice _ _ _ _ _ _ hu, run_slice_h _ _ _ _ _ hu _ _ (by omega) (by omega), hs]
  simp only [Result.andThen_ok, Sem.run_pure, sliced]
 ·
  have h5 : (if c = 0 then A else A.map (·.add (0 * 1))) = A := by
   split
   · rfl
   · cases A <;> simp [Addr.add]
  rw [h5, List.length_take, Nat.min_eq_left hk.2]
  rfl
 ·
  rw [GH] at hne ⊢
  obtain ⟨b, o, e1, e2, e3⟩ := h4 (fun e => hne (by rw [e]; simp))
  refine ⟨b, o, e1, e2, fun j u hu => e3 j u ?_⟩
  rw [List.getElem?_take] at hu
  split at hu
  · exact hu
  · cases hu
theorem GL {x y : Operand} {T e b : Nat} {k : Int} {m : List UInt8} (ho : o.op = .slice T x (some y) none none) (hx : ev S x = some (.val (.bs m))) (hy : ev S y = some (.val (.v (.int .i64 k)))) (hT : assoc slL T = some (e, 1, b)) (hk : 0 ≤ k ∧ k.toNat ≤ m.length) : Still ops S o (.val (.bs (m.drop k.toNat))) := fun base ok a w ha => by
 obtain ⟨A, c, h1, h2, h3, h4⟩ := wW (ha.ev hx (dA (by rw [ho]; simp [Op.operands])))
 have hy' := iP ha hy (dA (by rw [ho]; simp [Op.operands]))
 obtain ⟨hu, hs⟩ := qA hT
 refine ⟨.slice (if c = k.toNat then A else A.map (·.add (k.toNat * 1))) (m.length - k.toNat) (c - k.toNat), ?_, KD ⟨if c = k.toNat then A else A.map (·.add (k.toNat * 1)), c - k.toNat, by rw [List.length_drop], by rw [List.length_drop]; omega, by omega, ?_⟩⟩
 ·
  unfold execOp
  have hr : (Instr.sliceAt T (.slice A m.length c) (some (.int .i64 k)) none none).run Tryz.prog w = .ok (.slice (if c = k.toNat then A else A.map (·.add (k.toNat * 1))) (m.length - k.toNat) (c - k.toNat)) w := by
   rw [run_sliceAt_slice (P := Tryz.prog) w T _ _ _ _ hu, run_slice_l (P := Tryz.prog) w T A m.length c hu .i64 k hk.1 (by omega), hs]
   rfl
  simp only [ho, h1, hy', Option.map_none, Option.map_some, Sem.run_bind, hr, Result.andThen_ok, Sem.run_pure]
 ·
  have := ED (z := 1) h4 (by rw [bn, Nat.mul_one]) h2 k.toNat hk.2
  rw [Nat.mul_one] at this
  rw [Nat.mul_one]
  unfold bvs at this ⊢
  rw [List.map_drop]
  exact this
theorem QM {t ty : Nat} {pos : String} {af : Array Edge} {gd : Option (Nat × Bool)} {x y : Operand} {T e b : Nat} {k : Int} {m : List UInt8} (hx : ev (⟨rs, os, fs⟩ : St) x = some (.val (.bs m))) (hy : ev (⟨rs, os, fs⟩ : St) y = some (.val (.v (.int .i64 k)))) (hT : assoc slL T = some (e, 1, b)) (hk : 0 ≤ k ∧ k.toNat ≤ m.length) (hg : guardOf ops ⟨rs, os, fs⟩ ⟨some t, .slice T x none (some y) none, ty, pos, af, gd⟩ = some true) (hN : Nat.blt t N = true) (kk : EL X ops Q l ⟨(t, .val (.bs (m.take k.toNat))) :: rs, os, fs⟩) : EL X ops Q (⟨some t, .slice T x none (some y) none, ty, pos, af, gd⟩ :: l) ⟨rs, os, fs⟩ := ES.still (GK rfl hx hy hT hk) hg rfl hN kk
theorem Vx {t ty : Nat} {pos : String} {af : Array Edge} {gd : Option (Nat × Bool)} {x y : Operand} {T e b : Nat} {k : Int} {m : List UInt8} (hx : ev (⟨rs, os, fs⟩ : St) x = some (.val (.bs m))) (hy : ev (⟨rs, os, fs⟩ : St) y = some (.val (.v (.int .i64 k)))) (hT : assoc slL T = some (e, 1, b)) (hk : 0 ≤ k ∧ k.toNat ≤ m.length) (hg : guardOf ops ⟨rs, os, fs⟩ ⟨some t, .slice T x none (some y) none, ty, pos, af, gd⟩ = some true) (hoff : fE N (some t) EE = true) (kk : EM N ops TT l ⟨(t, .val (.bs (m.take k.toNat))) :: rs, os, fs⟩ EE) : EM N ops TT (⟨some t, .slice T x none (some y) none, ty, pos, af, gd⟩ :: l) ⟨rs, os, fs⟩ EE := EH.still (GK rfl hx hy hT hk) hg rfl hoff kk
theorem qL {t ty : Nat} {pos : String} {af : Array Edge} {gd : Option (Nat × Bool)} {x y : Operand} {T e b : Nat} {k : Int} {m : List UInt8} (hx : ev (⟨rs, os, fs⟩ : St) x = some (.val (.bs m))) (hy : ev (⟨rs, os, fs⟩ : St) y = some (.val (.v (.int .i64 k)))) (hT : assoc slL T = some (e, 1, b)) (hk : 0 ≤ k ∧ k.toNat ≤ m.length) (hg : guardOf ops ⟨rs, os, fs⟩ ⟨some t, .slice T x (some y) none none, ty, pos, af, gd⟩ = some true) (hN : Nat.blt t N = true) (kk : EL X ops Q l ⟨(t, .val (.bs (m.drop k.toNat))) :: rs, os, fs⟩) : EL X ops Q (⟨some t, .slice T x (some y) none none, ty, pos, af, gd⟩ :: l) ⟨rs, os, fs⟩ := ES.still (GL rfl hx hy hT hk) hg rfl hN kk
theorem ou {t ty : Nat} {pos : String} {af : Array Edge} {gd : Option (Nat × Bool)} {x y : Operand} {T e b : Nat} {k : Int} {m : List UInt8} (hx : ev (⟨rs, os, fs⟩ : St) x = some (.val (.bs m))) (hy : ev (⟨rs, os, fs⟩ : St) y = some (.val (.v (.int .i64 k)))) (hT : assoc slL T = some (e, 1, b)) (hk : 0 ≤ k ∧ k.toNat ≤ m.length) (hg : guardOf ops ⟨rs, os, fs⟩ ⟨some t, .slice T x (some y) none none, ty, pos, af, gd⟩ = some true) (hoff : fE N (some t) EE = true) (kk : EM N ops TT l ⟨(t, .val (.bs (m.drop k.toNat))) :: rs, os, fs⟩ EE) : EM N ops TT (⟨some t, .slice T x (some y) none none, ty, pos, af, gd⟩ :: l) ⟨rs, os, fs⟩ EE := EH.still (GL rfl hx hy hT hk) hg rfl hoff kk
theorem I8 {x y : Operand} {T n e z : Nat} {k : Int} {ds : List D} {d : D} (ho : o.op = .index T x y) (hx : ev S x = some (.val (.tup ds))) (hy : ev S y = some (.val (.v (.int .i64 k)))) (hT : assoc arL T = some (n, e, z)) (hz : z = 1) (he : ∀ w, (isAgg e).run Tryz.prog w = .ok false w) (hs : ∀ d ∈ ds, d.size = 1 ∧ d.agg = false) (hn : ds.length = n) (hk : 0 ≤ k ∧ ds[k.toNat]? = some d) : Still ops S o (.val d) := fun base ok a w ha => by
 subst hz
 obtain ⟨cs, h1, h2⟩ := (jo rfl).1 (ha.ev hx (dA (by rw [ho]; simp [Op.operands])))
 have hy' := iP ha hy (dA (by rw [ho]; simp [Op.operands]))
 obtain ⟨hk', rfl⟩ := List.getElem?_eq_some_iff.1 hk.2
 rw [Reads] at h1
 have hcs : ∀ (ds : List D) (cs : List Value), (∀ d ∈ ds, d.size = 1 ∧ d.agg = false) → bK ok w ds cs → cs.length = ds.length ∧ ∀ (i : Nat) (hi : i < ds.length), ∃ u, cs[i]? = some u ∧ Reads ok w ds[i] [u] := by
  intro ds
  induction ds with
  | nil =>
   intro cs _ h
   rw [bK] at h
   subst h
   exact ⟨rfl, fun i hi => absurd hi (Nat.not_lt_zero _)⟩
  | cons d ds ih =>
   intro cs hd h
   rw [bK] at h
   obtain ⟨c1, c2, rfl, g1, g2⟩ := h
   obtain ⟨u, rfl⟩ : ∃ u, c1 = [u] := List.length_eq_one_iff.1 ((Reads.len _ _ g1).trans (hd d (by simp)).1)
   obtain ⟨i1, i2⟩ := ih c2 (fun d hd' => hd d (by simp [hd'])) g2
   refine ⟨by simp [i1], fun i hi => ?_⟩
   cases i with
   | zero => exact ⟨u, rfl, g1⟩
   | succ i => simpa using i2 i (by simpa using hi)
 obtain ⟨hl, hat⟩ := hcs ds cs hs h1
 obtain ⟨u, hu, hr⟩ := hat k.toNat hk'
 refine ⟨u, ?_, (bP (hs _ (List.getElem_mem hk')).2).2 hr⟩
 have hlt : k < (n : Int) := by omega
 have hA := NQ hT
 have hrun : (Instr.index T (.agg cs.toArray) (.int .i64 k)).run Tryz.prog w = .ok u w := by
  unfold Instr.index
  have h0 := hk.1
  simp [run_underlying hA.und, asIntOf, h0, hlt, jQ hA.size, part, he, hu]
 unfold execOp
 simp only [ho, h2, hy', Sem.run_bind, hrun, Result.andThen_ok, Sem.run_pure]
theorem Still.refine {d d' : D} (h : Still ops S o (.val d)) (hR : aj S.facts [d] [d']) : Still ops S o (.val d') := fun base ok a w ha => by
 obtain ⟨v, h1, h2⟩ := h base ok a w ha
 exact ⟨v, h1, Refine1.kF ha.facts hR h2⟩
theorem zZ {t ty : Nat} {pos : String} {af : Array Edge} {gd : Option (Nat × Bool)} {T : Nat} {parts : Array (Nat × Operand)} {lf : List (Nat × Nat × Bool)} {d0 d d' : D} {ps : List (Nat × D)} (hx : qy (⟨rs, os, fs⟩ : St) parts.toList = some ps) (hT : assoc stL T = some lf) (hz : assoc jK T = some d0) (hd0 : d0.agg = true) (hf : nV (lf.map fun x => (x.1, x.2.1)) d0 ps = some d) (hR : aj fs [d] [d']) (hg : guardOf ops ⟨rs, os, fs⟩ ⟨some t, .build T parts, ty, pos, af, gd⟩ = some true) (hN : Nat.blt t N = true) (kk : EL X ops Q l ⟨(t, (.val d')) :: rs, os, fs⟩) : EL X ops Q (⟨some t, .build T parts, ty, pos, af, gd⟩ :: l) ⟨rs, os, fs⟩ := ES.still (Still.refine (zy rfl hx hT hz hd0 hf) hR) hg rfl hN kk
end
theorem FnM.toFn {f : FuncId} {ds : List D} {Φ : R → Prop} (h : FnM f ds [] (fun r os' => Φ r ∧ os' = [])) : Fn f ds Φ := ⟨fun ok w xs hok hr => by
 refine (h.go ok w xs hok ⟨fun o ho => by simp at ho, .nil, fun b ⟨o, ho, _⟩ => by simp at ho⟩ hr).mono ?_
 rintro e w' ⟨v, r, os', rfl, ⟨hΦ, rfl⟩, ht, hv⟩
 refine ⟨ht.gr.gr fun b ⟨o, ho, _⟩ => by simp at ho, v, r, rfl, hΦ, hv.mono (fun b hb => ⟨?_, hb.2.1⟩) fun _ _ => rfl⟩
 rcases hb.1 with h | ⟨o, ho, _⟩ | h
 · exact .inl h
 · simp at ho
 · exact .inr h⟩
abbrev ptr (g : Nat) : Value := .pointer (some ⟨g, 0, none⟩)
theorem KE {T : Nat} (h : Uw.contains T = true) (p : Option Addr) : Bin .eql T (.v (.pointer p)) (.v (.pointer none)) (.bool p.isNone) ∧ Bin .neq T (.v (.pointer p)) (.v (.pointer none)) (.bool !p.isNone) := by
 obtain ⟨e, he⟩ := WL h
 have he : Tryz.prog.underlying T = some (.pointer (Tryz.prog.pointee T)) := by
  unfold Program.pointee
  rw [he]
 refine ⟨⟨rfl, fun ok w p q hp hq => ?_⟩, ⟨rfl, fun ok w p q hp hq => ?_⟩⟩ <;> (obtain rfl := (bF.1 hp).2; obtain rfl := (bF.1 hq).2; refine ⟨fun x y => by simp [eqGuard], ?_⟩)
 · exact run_eql_pointer_nil w T _ he
 · exact run_neq_pointer_nil w T _ he
section
variable {N : Nat} {X : Cx N} {rs : List (Tmp × R)} {os : List Obj} {fs : List (Value × D)}
variable {S : St} {fn : Func} {Φ : R → List Obj → Prop}
theorem rC {os' : List Obj} (h : os'.Sublist os) {w : World} {b : Nat} (hb : X.ok os w b) : X.ok os' w b := ⟨hb.1, hb.2.1, fun o ho => hb.2.2 o (h.subset ho)⟩
theorem EK.iy {t : Tmp} {r : R} (os' : List Obj) (hres : fn.results = #[.tmp t]) (hl : look S.regs t = some r) (ho : os'.Sublist S.objs) (hΦ : Φ r os') : EK X (bodyPost Tryz.prog fn (Ap X Φ) .ret) S := by
 constructor
 intro a w ha
 exact bodyPost_ret (results_tmp hres a.tmps Tryz.prog w) ha.defers ⟨_, r, os', rfl, hΦ, ha.mem.less ho (fun f hf => by cases hf), (ha.regs t r hl).mono (fun b hb => rC ho hb) fun _ _ => rfl⟩
theorem EK.kQ {p : Tmp} {g ty : Nat} {t : TypeId} {d d' : D} (i : Nat) (os' : List Obj) (hres : fn.results = #[.cell p ty]) (hl : look S.regs p = some (.val (.v (.pointer (some ⟨g, 0, none⟩))))) (hi : S.objs[i]? = some (.var g t d)) (hT : assoc tyL ty = some (d.size, d.agg)) (hR : aj S.facts [d] [d']) (ho : os'.Sublist S.objs) (hΦ : Φ (.val d') os') : EK X (bodyPost Tryz.prog fn (Ap X Φ) .ret) S := by
 constructor
 intro a w ha
 obtain ⟨x, h1, h2⟩ := tV ha.mem hi (tyI hT)
 have hp := (bF.1 (ha.regs p _ hl)).2
 have hp' : a.tmps[p]?.getD undef = .pointer (some ⟨g, 0, none⟩) := by simpa using hp
 have h3 : bY (X.ok S.objs w) w (.val d') x := Refine1.kF ha.mem.fact hR h2
 refine bodyPost_ret (v := x) ?_ ha.defers ⟨_, _, os', rfl, hΦ, ha.mem.less ho (fun f hf => by cases hf), h3.mono (fun b hb => rC ho hb) fun _ _ => rfl⟩
 simp [results, hres, hp', asAddr, h1]
end
section
variable {N : Nat} {X : Cx N} {ops : Array Oper} {Q : Exit → Act → World → Prop}
theorem jE {l' : List Oper} {t ty f : Nat} {pos : String} {af : Array Edge} {gd : Option (Nat × Bool)} {args : Array Operand} {tys : Array TypeId} {ds ds' : List D} {Φ : R → List Obj → Prop} {rs : List (Tmp × R)} {os os0 : List Obj} {fs : List (Value × D)} (hF : FnM f ds' os Φ) (l1 l2 : List Obj) (hos : os0 = l1 ++ (os ++ l2))
  (hx : evs (⟨rs, l1 ++ l2, fs⟩ : St) args.toList = some ds) (hR : aj fs ds ds') (hf : Enters f) (hg : guardOf ops ⟨rs, os ++ (l1 ++ l2), fs⟩ ⟨some t, .call { callee := .value (.func f), args := args, argTypes := tys }, ty, pos, af, gd⟩ = some true) (hN : Nat.blt t N = true) (k : ∀ r os', Φ r os' → EL X ops Q l' ⟨(t, r) :: rs, l1 ++ (os' ++ l2), fs⟩) : EL X ops Q (⟨some t, .call { callee := .value (.func f), args := args, argTypes := tys }, ty, pos, af, gd⟩ :: l') ⟨rs, os0, fs⟩ := by
 subst hos
 have hp : ∀ os : List Obj, (l1 ++ (os ++ l2)).Perm (os ++ (l1 ++ l2)) := fun os => by
  rw [← List.append_assoc, ← List.append_assoc]
  exact List.Perm.append_right _ List.perm_append_comm
 exact EL.le (Le.perm (hp os)) (D6 hF rfl hx hR hf hg hN fun r os' h => EL.le (Le.perm (hp os').symm) (k r os' h))
theorem EK.CV {fn : Func} {Φ : R → List Obj → Prop} {S : St} {t : Tmp} {d d' : D} (os' : List Obj) (hres : fn.results = #[.tmp t]) (hl : look S.regs t = some (.val d)) (hR : aj S.facts [d] [d']) (ho : os'.Sublist S.objs) (hΦ : Φ (.val d') os') : EK X (bodyPost Tryz.prog fn (Ap X Φ) .ret) S := by
 refine EK.le (S' := ⟨S.regs, os', S.facts⟩) ?_ (EK.Uu hres hl hR hΦ)
 exact fun a w h => ⟨h.mem.less ho (fun f hf => hf), fun t r ht => bY.mono (fun b hb => rC ho hb) (fun _ _ => rfl) (h.regs t r ht), h.size, h.defers⟩
end
theorem EK.iK {N : Nat} {X : Cx N} {S : St} {fn : Func} {Φ : R → List Obj → Prop} {p u q : Tmp} {d d' e e' k k' : D} (os' : List Obj) (hres : fn.results = #[.tmp p, .tmp u, .tmp q]) (hl : look S.regs p = some (.val d)) (hu : look S.regs u = some (.val e)) (hq : look S.regs q = some (.val k)) (hR : aj S.facts [d] [d']) (hR2 : aj S.facts [e] [e']) (hR3 : aj S.facts [k] [k']) (ho : os'.Sublist S.objs) (hΦ : Φ (.tpl [d', e', k']) os') : EK X (bodyPost Tryz.prog fn (Ap X Φ) .ret) S := by
 constructor
 intro a w ha
 have h3 : bY (X.ok S.objs w) w (.tpl [d', e', k']) (.tuple #[a.tmps.getD p undef, a.tmps.getD u undef, a.tmps.getD q undef]) := ⟨[a.tmps.getD p undef, a.tmps.getD u undef, a.tmps.getD q undef], rfl, _, _, rfl, Refine1.kF ha.mem.fact hR (ha.regs p _ hl), _, _, rfl, Refine1.kF ha.mem.fact hR2 (ha.regs u _ hu), _, _, rfl, Refine1.kF ha.mem.fact hR3 (ha.regs q _ hq), rfl⟩
 refine bodyPost_ret (v := .tuple #[a.tmps.getD p undef, a.tmps.getD u undef, a.tmps.getD q undef]) ?_ ha.defers ⟨_, _, os', rfl, hΦ, ha.mem.less ho (fun f hf => by cases hf), h3.mono (fun b hb => rC ho hb) fun _ _ => rfl⟩
 simp [results, hres]
def rdP : List UInt8 → Option (List UInt8 × Bool)
 | [] => none
 | c :: r => if 3 < (c >>> 4).toNat then none else if (c >>> 4).toNat % 2 = 1 then some ((c &&& 15) :: split r, decide (2 ≤ (c >>> 4).toNat)) else if (c &&& 15).toNat = 0 then some (split r, decide (2 ≤ (c >>> 4).toNat)) else none
def rpD (b : List UInt8) : R := match rdP b with
 | none => .tpl [.bs [], .v (.bool false), .v (.bool false)]
 | some (p, l) => .tpl [.bs p, .v (.bool l), .v (.bool true)]
theorem wu (c : UInt8) (r : List UInt8) : split (c :: r) = (c >>> 4) :: (c &&& 15) :: split r := rfl
end E
end Go.Proofs.YtiledgojbpmoiaaGreat
namespace Go.Proofs.YtiledgojbpmoiaaGreat.Kec
abbrev L := BitVec 64
abbrev St := Nat → L
def upd (f : St) (k : Nat) (v : L) : St := fun j => if j = k then v else f j
def rotl (x : L) (n : Nat) : L := x <<< n ||| x >>> (64 - n)
theorem Uo (x : L) : x >>> 64 = 0 := by
 apply BitVec.eq_of_toNat_eq
 rw [BitVec.toNat_ushiftRight, Nat.shiftRight_eq_div_pow]
 have := x.isLt
 exact Nat.div_eq_of_lt this
theorem qQ (x : L) : rotl x 0 = x := by simp [rotl, Uo]
def turn (k : Nat) : Nat := [0, 1, 62, 28, 27, 36, 44, 6, 55, 20, 3, 10, 43, 25, 39, 41, 45, 15, 21, 8, 18, 2, 61, 56, 14].getD k 0
def rc (k : Nat) : L := ([0x0000000000000001, 0x0000000000008082, 0x800000000000808a, 0x8000000080008000, 0x000000000000808b, 0x0000000080000001,
 0x8000000080008081, 0x8000000000008009, 0x000000000000008a, 0x0000000000000088, 0x0000000080008009, 0x000000008000000a,
 0x000000008000808b, 0x800000000000008b, 0x8000000000008089, 0x8000000000008003, 0x8000000000008002, 0x8000000000000080,
 0x000000000000800a, 0x800000008000000a, 0x8000000080008081, 0x8000000000008080, 0x0000000080000001, 0x8000000080008008] : List L).getD k 0
def col (s : St) (x : Nat) : L := s x ^^^ s (x + 5) ^^^ s (x + 10) ^^^ s (x + 15) ^^^ s (x + 20)
def dd (s : St) (x : Nat) : L := col s ((x + 4) % 5) ^^^ rotl (col s ((x + 1) % 5)) 1
def place (k : Nat) : Nat := k / 5 + 5 * ((2 * (k % 5) + 3 * (k / 5)) % 5)
def bb (s : St) : Nat → St
 | 0 => fun _ => 0
 | k + 1 => upd (bb s k) (place k) (rotl (s k ^^^ dd s (k % 5)) (turn k))
def chi (b : St) (k : Nat) : L := b k ^^^ (~~~ b ((k % 5 + 1) % 5 + k / 5 * 5) &&& b ((k % 5 + 2) % 5 + k / 5 * 5))
def ss (b s : St) : Nat → St
 | 0 => s
 | k + 1 => upd (ss b s k) k (chi b k)
def round (s : St) (n : L) : St := upd (ss (bb s 25) s 25) 0 (ss (bb s 25) s 25 0 ^^^ n)
def perm (s : St) : Nat → St
 | 0 => s
 | k + 1 => round (perm s k) (rc k)
def th1 (d : L) (x : Nat) (a : St) : Nat → St
 | 0 => a
 | k + 1 => upd (th1 d x a k) (x + 5 * k) (th1 d x a k (x + 5 * k) ^^^ d)
def th (c a : St) : Nat → St
 | 0 => a
 | x + 1 => th1 (c ((x + 4) % 5) ^^^ rotl (c ((x + 1) % 5)) 1) x (th c a x) 5
structure Walk where
 x : Nat
 y : Nat
 cur : L
 a : St
def mv (a : St) : Nat → Walk
 | 0 => ⟨1, 0, a 1, a⟩
 | t + 1 =>
  let w := mv a t
  let x := w.y
  let y := (2 * w.x + 3 * w.y) % 5
  ⟨x, y, w.a (x + 5 * y), upd w.a (x + 5 * y) (rotl w.cur ((t + 1) * (t + 2) / 2 % 64))⟩
def ch1 (r a : St) (y : Nat) : Nat → St
 | 0 => a
 | x + 1 => upd (ch1 r a y x) (x + y) (r x ^^^ (~~~ r ((x + 1) % 5) &&& r ((x + 2) % 5)))
def ch (a : St) : Nat → St
 | 0 => a
 | y + 1 => ch1 (fun x => ch a y (x + 5 * y)) (ch a y) (5 * y) 5
def lf (l : BitVec 8) : BitVec 8 := if l &&& 128 ≠ 0 then (l <<< 1) ^^^ 0x71 else l <<< 1
def lfn (l : BitVec 8) : Nat → BitVec 8
 | 0 => l
 | j + 1 => lf (lfn l j)
def io (a : St) (l : BitVec 8) : Nat → St
 | 0 => a
 | j + 1 => if lfn l j &&& 1 = 1 then upd (io a l j) 0 (io a l j 0 ^^^ (1 : L) <<< (2 ^ j - 1)) else io a l j
def yB (a : St) (l : BitVec 8) : St := io (ch (mv (th (col a) a 5) 24).a 5) l 7
def yC (a : St) : Nat → St
 | 0 => a
 | k + 1 => yB (yC a k) (lfn 1 (7 * k))
def num (l : BitVec 8) : Nat → L
 | 0 => 0
 | j + 1 => if lfn l j &&& 1 = 1 then num l j ^^^ (1 : L) <<< (2 ^ j - 1) else num l j
theorem TM (a : St) (l : BitVec 8) : ∀ j, io a l j = upd a 0 (a 0 ^^^ num l j)
 | 0 => by funext k; simp [io, num, upd]; intro h; rw [h]
 | j + 1 => by
  unfold io num
  rw [TM a l j]
  split
  ·
   funext k
   by_cases hk : k = 0
   · subst hk; simp [upd, BitVec.xor_assoc]
   · simp [upd, hk]
  · rfl
theorem Uz : ∀ k, k < 24 → num (lfn 1 (7 * k)) 7 = rc k := by decide +kernel
theorem Wh (a : St) : ss (bb a 25) a 25 0 = ch (mv (th (col a) a 5) 24).a 5 0 := by simp [ss, bb, chi, upd, place, dd, col, turn, ch, ch1, mv, th, th1, qQ]
theorem V9 (a : St) : ss (bb a 25) a 25 1 = ch (mv (th (col a) a 5) 24).a 5 1 := by simp [ss, bb, chi, upd, place, dd, col, turn, ch, ch1, mv, th, th1]
theorem V8 (a : St) : ss (bb a 25) a 25 2 = ch (mv (th (col a) a 5) 24).a 5 2 := by simp [ss, bb, chi, upd, place, dd, col, turn, ch, ch1, mv, th, th1]
theorem V7 (a : St) : ss (bb a 25) a 25 3 = ch (mv (th (col a) a 5) 24).a 5 3 := by simp [ss, bb, chi, upd, place, dd, col, turn, ch, ch1, mv, th, th1, qQ]
theorem V6 (a : St) : ss (bb a 25) a 25 4 = ch (mv (th (col a) a 5) 24).a 5 4 := by simp [ss, bb, chi, upd, place, dd, col, turn, ch, ch1, mv, th, th1, qQ]
theorem V5 (a : St) : ss (bb a 25) a 25 5 = ch (mv (th (col a) a 5) 24).a 5 5 := by simp [ss, bb, chi, upd, place, dd, col, turn, ch, ch1, mv, th, th1]
theorem V4 (a : St) : ss (bb a 25) a 25 6 = ch (mv (th (col a) a 5) 24).a 5 6 := by simp [ss, bb, chi, upd, place, dd, col, turn, ch, ch1, mv, th, th1]
theorem V3 (a : St) : ss (bb a 25) a 25 7 = ch (mv (th (col a) a 5) 24).a 5 7 := by simp [ss, bb, chi, upd, place, dd, col, turn, ch, ch1, mv, th, th1]
theorem VZ (a : St) : ss (bb a 25) a 25 8 = ch (mv (th (col a) a 5) 24).a 5 8 := by simp [ss, bb, chi, upd, place, dd, col, turn, ch, ch1, mv, th, th1]
theorem VY (a : St) : ss (bb a 25) a 25 9 = ch (mv (th (col a) a 5) 24).a 5 9 := by simp [ss, bb, chi, upd, place, dd, col, turn, ch, ch1, mv, th, th1]
theorem UY (a : St) : ss (bb a 25) a 25 10 = ch (mv (th (col a) a 5) 24).a 5 10 := by simp [ss, bb, chi, upd, place, dd, col, turn, ch, ch1, mv, th, th1]
theorem UW (a : St) : ss (bb a 25) a 25 11 = ch (mv (th (col a) a 5) 24).a 5 11 := by simp [ss, bb, chi, upd, place, dd, col, turn, ch, ch1, mv, th, th1]
theorem UU (a : St) : ss (bb a 25) a 25 12 = ch (mv (th (col a) a 5) 24).a 5 12 := by simp [ss, bb, chi, upd, place, dd, col, turn, ch, ch1, mv, th, th1]
theorem UR (a : St) : ss (bb a 25) a 25 13 = ch (mv (th (col a) a 5) 24).a 5 13 := by simp [ss, bb, chi, upd, place, dd, col, turn, ch, ch1, mv, th, th1]
theorem UQ (a : St) : ss (bb a 25) a 25 14 = ch (mv (th (col a) a 5) 24).a 5 14 := by simp [ss, bb, chi, upd, place, dd, col, turn, ch, ch1, mv, th, th1]
theorem UO (a : St) : ss (bb a 25) a 25 15 = ch (mv (th (col a) a 5) 24).a 5 15 := by simp [ss, bb, chi, upd, place, dd, col, turn, ch, ch1, mv, th, th1]
theorem UN (a : St) : ss (bb a 25) a 25 16 = ch (mv (th (col a) a 5) 24).a 5 16 := by simp [ss, bb, chi, upd, place, dd, col, turn, ch, ch1, mv, th, th1]
theorem UM (a : St) : ss (bb a 25) a 25 17 = ch (mv (th (col a) a 5) 24).a 5 17 := by simp [ss, bb, chi, upd, place, dd, col, turn, ch, ch1, mv, th, th1]
theorem UL (a : St) : ss (bb a 25) a 25 18 = ch (mv (th (col a) a 5) 24).a 5 18 := by simp [ss, bb, chi, upd, place, dd, col, turn, ch, ch1, mv, th, th1]
theorem UK (a : St) : ss (bb a 25) a 25 19 = ch (mv (th (col a) a 5) 24).a 5 19 := by simp [ss, bb, chi, upd, place, dd, col, turn, ch, ch1, mv, th, th1]
theorem UJ (a : St) : ss (bb a 25) a 25 20 = ch (mv (th (col a) a 5) 24).a 5 20 := by simp [ss, bb, chi, upd, place, dd, col, turn, ch, ch1, mv, th, th1]
theorem UH (a : St) : ss (bb a 25) a 25 21 = ch (mv (th (col a) a 5) 24).a 5 21 := by simp [ss, bb, chi, upd, place, dd, col, turn, ch, ch1, mv, th, th1]
theorem UG (a : St) : ss (bb a 25) a 25 22 = ch (mv (th (col a) a 5) 24).a 5 22 := by simp [ss, bb, chi, upd, place, dd, col, turn, ch, ch1, mv, th, th1]
theorem UF (a : St) : ss (bb a 25) a 25 23 = ch (mv (th (col a) a 5) 24).a 5 23 := by simp [ss, bb, chi, upd, place, dd, col, turn, ch, ch1, mv, th, th1]
theorem UE (a : St) : ss (bb a 25) a 25 24 = ch (mv (th (col a) a 5) 24).a 5 24 := by simp [ss, bb, chi, upd, place, dd, col, turn, ch, ch1, mv, th, th1]
theorem lane (a : St) (k : Nat) (hk : k < 25) : ss (bb a 25) a 25 k = ch (mv (th (col a) a 5) 24).a 5 k := by
 match k, hk with
 | 0, _ => exact Wh a
 | 1, _ => exact V9 a
 | 2, _ => exact V8 a
 | 3, _ => exact V7 a
 | 4, _ => exact V6 a
 | 5, _ => exact V5 a
 | 6, _ => exact V4 a
 | 7, _ => exact V3 a
 | 8, _ => exact VZ a
 | 9, _ => exact VY a
 | 10, _ => exact UY a
 | 11, _ => exact UW a
 | 12, _ => exact UU a
 | 13, _ => exact UR a
 | 14, _ => exact UQ a
 | 15, _ => exact UO a
 | 16, _ => exact UN a
 | 17, _ => exact UM a
 | 18, _ => exact UL a
 | 19, _ => exact UK a
 | 20, _ => exact UJ a
 | 21, _ => exact UH a
 | 22, _ => exact UG a
 | 23, _ => exact UF a
 | 24, _ => exact UE a
 | k + 25, h => omega
def Same (a b : St) : Prop := ∀ k, k < 25 → a k = b k
end Go.Proofs.YtiledgojbpmoiaaGreat.Kec
namespace Go.Proofs.YtiledgojbpmoiaaGreat
set_option maxHeartbeats 400000
open Go.RowKit Mono
open Kec
def u (x : L) : Int := (x.toNat : Int)
theorem tK (x : L) : 0 ≤ u x ∧ u x < 18446744073709551616 := by
 have := x.isLt
 unfold u
 omega
theorem pG (x y : L) : bits .xor .u64 (u x) (u y) = u (x ^^^ y) := by
 unfold u
 rw [u64_xor_nat _ _ x.isLt y.isLt, BitVec.toNat_xor]
theorem Oe (x y : L) : bits .and .u64 (u x) (u y) = u (x &&& y) := by
 unfold u
 rw [u64_and_nat _ _ x.isLt y.isLt, BitVec.toNat_and]
theorem VE (x y : L) : bits .or .u64 (u x) (u y) = u (x ||| y) := by
 unfold u
 rw [u64_or_nat _ _ x.isLt y.isLt, BitVec.toNat_or]
theorem Jt (x : L) (n : Nat) : IntKind.u64.wrap (u x * 2 ^ n) = u (x <<< n) := by
 unfold u
 rw [IntKind.wrap_u64, BitVec.toNat_shiftLeft, Nat.shiftLeft_eq]
 have h : ((x.toNat : Int) * 2 ^ n) = ((x.toNat * 2 ^ n : Nat) : Int) := by simp
 rw [h]
 exact (Int.natCast_emod _ _).symm
theorem Js (x : L) (n : Nat) : u x / 2 ^ n = u (x >>> n) := by
 unfold u
 rw [BitVec.toNat_ushiftRight, Nat.shiftRight_eq_div_pow]
 simp
def lv (x : L) : Value := .int .u64 (u x)
theorem rotate (x : L) (k : Nat) (hk : k < 64) (w : World) : Calls Tryz.prog 203 #[.int .u64 (u x), .int .i64 k] w fun e w' => e = .returned (.int .u64 (u (rotl x k))) ∧ w' = w := by
 have ha : bits .and .u64 (k : Int) 63 = k := by
  have := u64_and_nat k 63 (by omega) (by omega)
  rw [show ((63 : Nat) : Int) = 63 from rfl] at this
  rw [this]
  congr 1
  exact (Nat.and_two_pow_sub_one_eq_mod k 6).trans (Nat.mod_eq_of_lt hk)
 have hx := tK x
 have hx0 := hx.1
 clear hx
 go_enter Tryz.func203, Tryz.ntmps203
 go_wp2
 refine bodyPost_ret (results_tmp rfl _ _ _) rfl ⟨?_, rfl⟩
 show Ending.returned (.int .u64 (bits .or .u64 (IntKind.u64.wrap (u x * 2 ^ k)) (u x / 2 ^ (64 - k)))) = _
 rw [Jt, Js, VE]
 rfl
theorem rol (x : L) (k : Nat) (hk : k < 64) (w : World) : Calls Tryz.prog 117 #[.int .u64 (u x), .int .u64 k] w fun e w' => e = .returned (.int .u64 (u (rotl x k))) ∧ w' = w := by
 by_cases h0 : k = 0
 ·
  subst h0
  rw [qQ]
  go_enter Tryz.func117, Tryz.ntmps117
  go_wp2
  exact bodyPost_ret (results_tmp rfl _ _ _) rfl ⟨rfl, rfl⟩
 ·
  have hk1 : 0 < k := by omega
  clear h0
  go_enter Tryz.func117, Tryz.ntmps117
  go_wp2
  refine bodyPost_ret (results_tmp rfl _ _ _) rfl ⟨?_, rfl⟩
  show Ending.returned (.int .u64 (bits .or .u64 (IntKind.u64.wrap (u x * 2 ^ k)) (u x / 2 ^ (64 - k)))) = _
  rw [Jt, Js, VE]
  rfl
def cellsOf (f : St) (n : Nat) : Array Value := ((List.range n).map fun k => lv (f k)).toArray
def cu (w : World) (g : Nat) (t : TypeId) (n : Nat) (f : St) : Prop := w.heap[g]? = some (.cells (cellsOf f n) t (0, 0))
theorem cellsOf_size (f : St) (n : Nat) : (cellsOf f n).size = n := by simp [cellsOf]
theorem mQ (f : St) (n k : Nat) (h : k < n) : (cellsOf f n)[k]? = some (lv (f k)) := by simp [cellsOf, h]
theorem cellsOf_set (f : St) (n k : Nat) (v : L) : (cellsOf f n).setIfInBounds k (lv v) = cellsOf (Kec.upd f k v) n := by
 apply Array.ext_getElem?
 intro i
 rw [Array.getElem?_setIfInBounds]
 by_cases hi : i < n
 ·
  by_cases hk : k = i
  ·
   subst hk
   rw [if_pos rfl, cellsOf_size, if_pos hi, mQ _ n k hi]
   congr 2
   exact (if_pos rfl).symm
  ·
   rw [if_neg hk, mQ _ n i hi, mQ _ n i hi]
   congr 2
   exact (if_neg (Ne.symm hk)).symm
 ·
  have h1 : (cellsOf f n)[i]? = none := Array.getElem?_eq_none (by rw [cellsOf_size]; omega)
  have h2 : (cellsOf (Kec.upd f k v) n)[i]? = none := Array.getElem?_eq_none (by rw [cellsOf_size]; omega)
  rw [h1, h2]
  by_cases hk : k = i
  · subst hk; rw [if_pos rfl, cellsOf_size, if_neg hi]
  · rw [if_neg hk]
section
variable {w w' : World} {g : Nat} {t : TypeId} {n : Nat} {f : St}
theorem cu.lt (h : cu w g t n f) : g < w.heap.size := by
 rcases Nat.lt_or_ge g w.heap.size with h1 | h1
 · exact h1
 · unfold cu at h; rw [Array.getElem?_eq_none h1] at h; cases h
theorem cu.cell (h : cu w g t n f) (k : Nat) (hk : k < n) : w.cell? ⟨g, k, none⟩ = some (lv (f k)) := by
 rw [cell_of_row w g k _ t (0, 0) h]
 exact mQ f n k hk
theorem cu.frozen (h : cu w g t n f) (k : Nat) : w.frozen? ⟨g, k, none⟩ = false := by
 unfold cu at h
 simp [World.frozen?, h]
theorem cu.gr (h : cu w g t n f) (hg : Gr w w') : cu w' g t n f := (hg.block g h.lt).trans h
theorem cu.set (h : cu w g t n f) (k : Nat) (v : L) : cu (w.setCell ⟨g, k, none⟩ (lv v)) g t n (Kec.upd f k v) := by
 unfold cu at h ⊢
 simp [World.setCell, Array.getElem?_modify, h, cellsOf_set]
theorem cu.far (h : cu w g t n f) {p : Addr} (hp : g ≠ p.block) (v : Value) : cu (w.setCell p v) g t n f := (Below.heap_setCell w p v g hp).trans h
theorem cu.alloc (h : cu w g t n f) (o : Obj) : cu (w.alloc o) g t n f := h.gr (aB w o)
theorem cu.grown (h : cu w g t n f) {row : Option Nat} (hg : w.grownBy w' row) (hne : some g ≠ row) : cu w' g t n f := (hg.block g h.lt hne).trans h
end
def Only (g : Nat) (w w' : World) : Prop := w.grownBy w' (some g)
theorem Only.Bg {w w' : World} (h : Gr w w') (g : Nat) : Only g w w' := ⟨h.os, h.tape, h.output, h.size, fun k hk _ => h.block k hk⟩
theorem Only.refl (g : Nat) (w : World) : Only g w w := Only.Bg (Gr.refl w) g
theorem Only.trans {g : Nat} {a b c : World} (h : Only g a b) (k : Only g b c) : Only g a c :=
 ⟨k.os.trans h.os, k.tape.trans h.tape, k.output.trans h.output, Nat.le_trans h.size k.size, fun i hi hne => (k.block i (Nat.lt_of_lt_of_le hi h.size) hne).trans (h.block i hi hne)⟩
theorem Only.set {g : Nat} (w : World) (k : Nat) (v : Value) : Only g w (w.setCell ⟨g, k, none⟩ v) :=
 ⟨rfl, rfl, rfl, by simp [World.setCell], fun i _ hne => Below.heap_setCell w _ v i (fun e => hne (by rw [e]))⟩
theorem Only.gr {g : Nat} {a b c : World} (hab : Gr a b) (h : Only g b c) (hg : a.heap.size ≤ g) : Gr a c :=
 ⟨h.os.trans hab.os, h.tape.trans hab.tape, h.output.trans hab.output, Nat.le_trans hab.size h.size, fun i hi => (h.block i (Nat.lt_of_lt_of_le hi hab.size) (fun e => by injection e with e; omega)).trans (hab.block i hi)⟩
end Go.Proofs.YtiledgojbpmoiaaGreat
namespace Go.Proofs.YtiledgojbpmoiaaGreat
set_option maxHeartbeats 400000
open Go.RowKit Mono
open Kec (L St rotl)
def takeB (f : St) (k : Nat) (b : Nat) : St := Kec.upd f (k / 8) (f (k / 8) ^^^ (BitVec.ofNat 64 b) <<< (8 * (k % 8)))
theorem Oc (n : Nat) (h : n < 256) : u (BitVec.ofNat 64 n) = (n : Int) := by
 unfold u
 rw [BitVec.toNat_ofNat]
 omega
def Tt (R : World → Prop) (e : Ending) (w' : World) : Prop := e = .returned (.tuple #[]) ∧ R w'
theorem y9 (g : Nat) (t : TypeId) (f : St) (k n : Nat) (hk : k < 136) (hn : n < 256) (w : World) (hl : cu w g t 25 f) :
  Calls Tryz.prog 131 #[.pointer (some ⟨g, 0, none⟩), .int .i64 k, .int .u8 n] w (Tt fun w' => cu w' g t 25 (takeB f k n) ∧ Only g w w') := by
 have hg := hl.lt
 have c1 := aX (w := w) (p := ⟨g, k / 8, none⟩) hg (hl.cell (k / 8) (by omega))
 unfold lv at c1
 have hu := tK (f (k / 8))
 have hu0 := hu.1
 have HL := Lib.hid hl
 clear hl hu
 go_enter Tryz.func131, Tryz.ntmps131
 go_wp2
 refine dM 15 (by kernel_rfl) (by kernel_rfl) (by kernel_rfl) ?_
 simp only [List.take_succ_cons, List.take_zero, List.drop_succ_cons, List.drop_zero]
 refine dR 15 (by kernel_rfl) ?_
 simp only [List.take_succ_cons, List.take_zero, List.drop_succ_cons, List.drop_zero]
 repeat (go_big_quiet_step (fail))
 refine wpQuiet_nil ?_
 refine iF (by kernel_rfl) ?_
 intro W hW
 replace hW := hW.gr
 unfold oV
 have HW := Lib.hid (HL.out.gr hW)
 have e1 := HW.out.cell (k / 8) (by omega)
 have e2 := HW.out.frozen (k / 8)
 unfold lv at e1
 go_wp2
 refine bodyPost_ret (results_none rfl _ _ _) rfl ⟨rfl, ?_⟩
 have hv : Value.int .u64 (bits .xor .u64 (u (f (k / 8))) (IntKind.u64.wrap ((n : Int) * 2 ^ (8 * (k % 8))))) = lv (f (k / 8) ^^^ (BitVec.ofNat 64 n) <<< (8 * (k % 8))) := by
  rw [← Oc n hn, Jt, pG]
  rfl
 rw [hv]
 exact ⟨HW.out.set _ _, (Only.Bg hW g).trans (Only.set _ _ _)⟩
end Go.Proofs.YtiledgojbpmoiaaGreat
