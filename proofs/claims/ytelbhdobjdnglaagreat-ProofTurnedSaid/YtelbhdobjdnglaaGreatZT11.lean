/-
 Merged: lemmas of this claim.
 Conditions: none.
-/
import Derived.Test.YtelbhdobjdnglaaGreatZT10
import Derived.Test.YtelbhdobjdnglaaGreatZT6
import Derived.Test.YtelbhdobjdnglaaGreatZT7
import Derived.Test.YtelbhdobjdnglaaGreatZT2
import Derived.Lib.Bytealg
import Derived.Lib.BytesEntry
import Derived.Sort.Walk0
import Derived.BigQuiet
import Derived.Deep.QuietTactic
import Derived.StillTailTactics
import Derived.Test.YtelbhdobjdnglaaGreatZT0
namespace Go.Proofs.YtelbhdobjdnglaaGreat
set_option linter.unusedVariables false
set_option maxHeartbeats 2000000
open Go.RowKit Mono Rlp
namespace E
def Dh (l : List Oper) (chain done : List Nat) : List Nat := chain.filter fun k => !done.contains k && match l[k]? with
 | some o => o.after.toList.all fun e => !(Region.binds .any e) || !chain.contains e.on || done.contains e.on
 | none => true
def CT (N : Nat) (l : List Oper) (os1 : List Obj) (T : St → Prop) (chain : List Nat) : Nat → List Nat → St → Prop
 | 0, _, S => T S
 | m + 1, done, S => ∀ k ∈ Dh l chain done, CH N l.toArray os1 (fun S' => CT N l os1 T chain m (k :: done) S') (bJ l [k]) S
theorem CT.pick {N : Nat} {l : List Oper} {os1 : List Obj} {T : St → Prop} {chain : List Nat} {m : Nat} {done : List Nat} {S : St} (ks : List Nat) (hk : Dh l chain done = ks) (h : ∀ k ∈ ks, CH N l.toArray os1 (fun S' => CT N l os1 T chain m (k :: done) S') (bJ l [k]) S) : CT N l os1 T chain (m + 1) done S := by
 unfold CT
 rw [hk]
 exact h
theorem CT.nil {N : Nat} {l : List Oper} {os1 : List Obj} {T : St → Prop} {chain : List Nat} {done : List Nat} {S : St} (h : T S) : CT N l os1 T chain 0 done S := h
def CU (l : List Oper) (n : Nat) (free chain : List Nat) : Bool :=
 (List.range n).all (fun k => free.contains k != chain.contains k) && free.all (fun k => decide (k < n)) && chain.all (fun k => decide (k < n)) && decide (n ≤ l.length) &&
 (List.range free.length).all (fun i => (List.range i).all fun j => decide (free.getD j 0 < free.getD i 0)) && decide chain.Nodup &&
 (List.range n).all (fun k => match l[k]? with
  | some o => (o.looksAt l.toArray).all (fun t => (List.range n).all fun j => decide (j < k) || (l[j]?.bind (·.dst)) != some t) &&
   (match o.dst with
    | some t => (List.range k).all fun j => (l[j]?.bind (·.dst)) != some t
    | none => true)
  | none => false) &&
 free.all (fun k => match l[k]? with
  | some o => (o.looksAt l.toArray).all fun t => chain.all fun j => (l[j]?.bind (·.dst)) != some t
  | none => true)
structure VD (l : List Oper) (n : Nat) (free chain : List Nat) : Prop where
 part : ∀ k, k < n → (k ∈ free ∧ k ∉ chain) ∨ (k ∉ free ∧ k ∈ chain)
 flt : ∀ k ∈ free, k < n
 clt : ∀ k ∈ chain, k < n
 le : n ≤ l.length
 fup : ∀ i j : Nat, j < i → i < free.length → free.getD j 0 < free.getD i 0
 nod : chain.Nodup
 back : ∀ (k j : Nat) (o oj : Oper) (t : Tmp), k < n → l[k]? = some o → t ∈ o.looksAt l.toArray → k ≤ j → j < n → l[j]? = some oj → oj.dst ≠ some t
 free : ∀ (k j : Nat) (o oj : Oper) (t : Tmp), k ∈ free → l[k]? = some o → t ∈ o.looksAt l.toArray → j ∈ chain → l[j]? = some oj → oj.dst ≠ some t
 once : ∀ (k j : Nat) (o oj : Oper) (t : Tmp), k < n → l[k]? = some o → o.dst = some t → j < k → l[j]? = some oj → oj.dst ≠ some t
theorem Lc {l : List Oper} {n : Nat} {free chain : List Nat} (h : CU l n free chain = true) : VD l n free chain := by
 unfold CU at h
 simp only [YB, X6, Yu, decide_eq_true_eq] at h
 obtain ⟨⟨⟨⟨⟨⟨⟨h1, h2⟩, h3⟩, h4⟩, h5⟩, h6⟩, h8⟩, h9⟩ := h
 refine ⟨fun k hk => ?_, h2, h3, h4, fun i j hj hi => h5 i hi j hj, h6, fun k j o oj t hk ho ht hkj hj hoj e => ?_, fun k j o oj t hk ho ht hj hoj e => ?_, fun k j o oj t hk ho ht hj hoj e => ?_⟩
 ·
  have := h1 k hk
  by_cases e1 : k ∈ free <;> by_cases e2 : k ∈ chain <;> simp [e1, e2] at this ⊢
 ·
  have := h8 k hk
  rw [ho] at this
  simp only [YB, X6, Yu] at this
  have := this.1 t ht j hj
  rw [hoj] at this
  simp [e] at this
  omega
 ·
  have := h9 k hk
  rw [ho] at this
  simp only [X6] at this
  have := this t ht j hj
  rw [hoj] at this
  simp [e] at this
 ·
  have := h8 k hk
  rw [ho] at this
  simp only [YB] at this
  have := this.2
  rw [ht] at this
  simp only [X6, Yu] at this
  have := this j hj
  rw [hoj] at this
  simp [e] at this
section
variable {N : Nat} {X : Cx N} {S : St} {a : Act} {Q : Exit → Act → World → Prop} {l : List Oper}
theorem EC.Ug {id : Nat} (n : Nat) (free chain : List Nat) (os0 os1 : List Obj) (hB : monoB l.toArray n N = true) (hC : CU l n free chain = true) (hS : S.objs = os0 ++ os1)
  (h : EM N l.toArray (fun S' _ => CT N l os1 (fun S'' => EL X l.toArray Q (l.drop n) S'') chain chain.length [] ⟨S'.regs, os0 ++ os1, S.facts⟩) (bJ l free) ⟨S.regs, os1, S.facts⟩ []) : EC X Q (.region id l.toArray true) S := by
 constructor
 intro a ws ha
 have C := Lc hC
 obtain ⟨infs, hlen, hok, hT, hnp⟩ := pK _ _ _ h
 have hfree := nY (l := l) free fun k hk => XM (C.flt k hk) C.le
 have hchain := nY (l := l) chain fun k hk => XM (C.clt k hk) C.le
 rw [hfree.1] at hlen hT
 have hdst : ∀ k o, l[k]? = some o → dM l.toArray k = o.dst := fun k o ho => by unfold dM; simp [ho]
 have hsl : ∀ k o L vs (b : Act) t, k < n → l[k]? = some o → t ∈ o.looksAt l.toArray → pU l.toArray L vs a b k t → (∃ j oj, j < n ∧ l[j]? = some oj ∧ oj.dst = some t ∧ L j ∧ b.tmps.getD t undef = vs j) ∨ ((∀ j o, j < n → l[j]? = some o → o.dst ≠ some t) ∧ b.tmps.getD t undef = a.tmps.getD t undef) := fun k o L vs b t hk ho ht hs => by
  rcases hs with ⟨j, h1, h2, h3, h4, h5⟩ | ⟨h1, h2⟩
  ·
   have hj : j < l.length := by have := C.le; omega
   exact .inl ⟨j, l[j], by omega, by simp, by rw [← hdst j l[j] (by simp)]; exact h2, h4, h5⟩
  ·
   refine .inr ⟨fun j oj hj hoj e => ?_, h2⟩
   rcases XY j k with h3 | h3
   · exact h1 j h3 (by rw [hdst j oj hoj]; exact e)
   · exact C.back k j o oj t hk ho ht h3 hj hoj e
 have huniq : ∀ j j' o o' t, j < n → j' < n → l[j]? = some o → l[j']? = some o' → o.dst = some t → o'.dst = some t → j = j' := fun j j' o o' t hj hj' ho ho' hd hd' => by
  rcases Zh j j' with h | h | h
  · exact absurd hd (C.once j' j o' o t hj' ho' hd' h ho)
  · exact h
  · exact absurd hd' (C.once j j' o o' t hj ho hd h ho')
 let RF := (iy ⟨S.regs, os1, S.facts⟩ (bJ l free) infs free.length).regs
 have hRF : ∀ t r, look RF t = some r → (∃ p o i, p < free.length ∧ l[free.getD p 0]? = some o ∧ infs[p]? = some i ∧ o.dst = some t ∧ r = i.reg) ∨ look S.regs t = some r := fun t r hr => by
  rcases nP _ _ _ _ _ _ hr with ⟨q, oq, iq, h1, h2, h3, h4, h5⟩ | h1
  · exact .inl ⟨q, oq, iq, h1, by rw [← hfree.2 q h1]; exact h2, h3, h4, h5⟩
  · exact .inr h1
 have hfl : ∀ p, p < free.length → free.getD p 0 < n ∧ free.getD p 0 ∈ free := fun p hp => by
  have : free.getD p 0 ∈ free := by
   rw [List.getD_eq_getElem?_getD, List.getElem?_eq_getElem hp]
   exact XW hp
  exact ⟨C.flt _ this, this⟩
 have hcl : ∀ p, p < chain.length → chain.getD p 0 < n ∧ chain.getD p 0 ∈ chain := fun p hp => by
  have : chain.getD p 0 ∈ chain := by
   rw [List.getD_eq_getElem?_getD, List.getElem?_eq_getElem hp]
   exact XW hp
  exact ⟨C.clt _ this, this⟩
 have hput : ∀ p o i, p < free.length → l[free.getD p 0]? = some o → infs[p]? = some i → ∀ t, o.dst = some t → look RF t = some i.reg := fun p o i hp ho hi t ht => by
  have hlk := (gW (bJ l free) infs free.length ⟨S.regs, os1, S.facts⟩ t (by rw [hlen, hfree.1]) (by rw [hfree.1]; exact Nat.le_refl _)).1
  refine hlk p o i hp (by rw [hfree.2 p hp]; exact ho) hi ht fun m om h1 h2 h3 e => ?_
  rw [hfree.2 m h2] at h3
  have := huniq _ _ _ _ t (hfl p hp).1 (hfl m h2).1 ho h3 ht e
  have := C.fup m p h1 h2
  omega
 have hmono : ∀ p o t r, p < free.length → l[free.getD p 0]? = some o → t ∈ o.looksAt l.toArray → look (iy ⟨S.regs, os1, S.facts⟩ (bJ l free) infs p).regs t = some r → look RF t = some r := fun p o t r hp ho ht hr => by
  rcases nP _ _ _ _ _ _ hr with ⟨q, oq, iq, h1, h2, h3, h4, h5⟩ | h1
  ·
   rw [h5]
   have hq : q < free.length := by omega
   exact hput q oq iq hq (by rw [← hfree.2 q hq]; exact h2) h3 t h4
  ·
   have hlk := (gW (bJ l free) infs free.length ⟨S.regs, os1, S.facts⟩ t (by rw [hlen, hfree.1]) (by rw [hfree.1]; exact Nat.le_refl _)).2
   have hpre := (gW (bJ l free) infs p ⟨S.regs, os1, S.facts⟩ t (by rw [hlen, hfree.1]) (by rw [hfree.1]; exact Nat.le_of_lt hp))
   by_cases hex : ∃ m om, m < p ∧ (bJ l free)[m]? = some om ∧ om.dst = some t
   ·
    -- what was put ahead stays
    obtain ⟨m, om, g1, g2, g3⟩ := hex
    have hm : m < free.length := by omega
    obtain ⟨inf, hi⟩ : ∃ inf, infs[m]? = some inf := ⟨infs[m]'(by omega), by simp⟩
    have e1 := hpre.1 m om inf g1 g2 hi g3 fun m' om' h1 h2 h3 e => by
     rw [hfree.2 m' (by omega)] at h3
     rw [hfree.2 m hm] at g2
     have := huniq _ _ _ _ t (hfl m hm).1 (hfl m' (by omega)).1 g2 h3 g3 e
     have := C.fup m' m h1 (by omega)
     omega
    rw [hr] at e1
    cases e1
    exact hput m om inf hm (by rw [← hfree.2 m hm]; exact g2) hi t g3
   have := hlk fun m om h2 h3 e => by
    rcases XY m p with h4 | h4
    · exact hex ⟨m, om, h4, h3, e⟩
    ·
     rw [hfree.2 m h2] at h3
     have hle : free.getD p 0 ≤ free.getD m 0 := by
      rcases XY p m with h5 | h5
      · exact Nat.le_of_lt (C.fup m p h5 h2)
      · rw [show m = p by omega]; exact Nat.le_refl _
     exact C.back _ _ o om t (hfl p hp).1 ho ht hle (hfl m h2).1 h3 e
   show look (iy ⟨S.regs, os1, S.facts⟩ (bJ l free) infs free.length).regs t = some r
   rw [this]
   exact h1
 have hT' : CT N l os1 (fun S'' => EL X l.toArray Q (l.drop n) S'') chain chain.length [] ⟨RF, os0 ++ os1, S.facts⟩ := hT
 clear hT h
 refine lX n (by kernel_rfl) (by rw [ha.size]; exact hB) (fun L vs u => ∃ m done Si, done.length + m = chain.length ∧ done.Nodup ∧ (∀ q ∈ done, q ∈ chain) ∧ (∀ q ∈ chain, (q ∈ done ↔ L q)) ∧ CT N l os1 (fun S'' => EL X l.toArray Q (l.drop n) S'') chain m done Si ∧ Real X l n chain a RF os1 S.facts Si L vs u) ?_ ?_ ?_ ?_
 ·
  rintro L L' vs vs' w hL hvs ⟨m, done, Si, h1, h2, h3, h6, h4, h5⟩
  obtain rfl : L = L' := funext fun j => propext (hL j)
  refine ⟨m, done, Si, h1, h2, h3, h6, h4, h5.mem, h5.tail, h5.facts, fun t r hr => ?_, h5.free⟩
  obtain ⟨g1, g2⟩ := h5.regs t r hr
  exact ⟨fun j o hj ho hd hL => by rw [← hvs j hL]; exact g1 j o hj ho hd hL, g2⟩
 ·
  have had : At X S a ws.drew := ha.gr (by exact ⟨rfl, rfl, rfl, Nat.le_refl _, fun _ _ => rfl⟩)
  refine ⟨chain.length, [], ⟨RF, os0 ++ os1, S.facts⟩, XU _, List.nodup_nil, fun q hq => by simp at hq, fun q _ => ⟨fun h => by simp at h, fun h => h.elim⟩, hT', ?_, ⟨os0, rfl⟩, rfl, fun t r hr => ⟨fun _ _ _ _ _ h => h.elim, fun hno => ?_⟩, fun t r hr _ => hr⟩
  · rw [← hS]; exact had.mem
  ·
   rcases hRF t r hr with ⟨p, o, i, h1, h2, h3, h4, h5⟩ | h1
   · exact absurd h4 (hno _ o (hfl p h1).1 h2)
   ·
    rw [← hS]
    exact had.regs t r h1
 ·
  intro k o L vs b u hk ho hL hLk ⟨m, done, Si, h1, h2, h3, h6, h4, h5⟩ hslot hwait
  rcases C.part k hk with ⟨hkf, hkc⟩ | ⟨hkf, hkc⟩
  ·
   -- a free operation
   obtain ⟨p, hp, rfl⟩ : ∃ p, p < free.length ∧ free.getD p 0 = k := by
    obtain ⟨p, hp⟩ := Zx hkf
    exact ⟨p, (XC.1 hp).1, by rw [List.getD_eq_getElem?_getD, hp]; rfl⟩
   obtain ⟨inf, hi⟩ : ∃ inf, infs[p]? = some inf := ⟨infs[p]'(by omega), by simp⟩
   obtain ⟨hO, _, _⟩ := hok p o inf (by rw [hfree.2 p hp]; exact ho) hi
   have hkn : Kn X.mine (X.ok Si.objs u) (fun t => t ∈ o.looksAt l.toArray) (iy ⟨S.regs, os1, S.facts⟩ (bJ l free) infs p) b u := by
    obtain ⟨os, hos⟩ := h5.tail
    refine ⟨fun q hq => ?_, fun f hf => ?_, fun b hb => hb.2.1, fun t r ht hr => ?_⟩
    ·
     rw [(dU _ _ _ _).1] at hq
     exact h5.mem.at_ q (by rw [hos]; exact Ya _ hq)
    ·
     rw [(dU _ _ _ _).2] at hf
     exact h5.mem.fact f (by rw [h5.facts]; exact hf)
    ·
     obtain ⟨g1, g2⟩ := h5.regs t r (h5.free t r (hmono p o t r hp ho ht hr) fun j oj hj hoj => C.free _ j o oj t hkf ho ht hj hoj)
     rcases hsl _ o L vs b t hk ho ht (hslot t ht) with ⟨j, oj, e1, e2, e3, e4, e5⟩ | ⟨e1, e2⟩
     · rw [e5]; exact g1 j oj e1 e2 e3 e4
     · rw [e2]; exact g2 e1
   have hnext : ∀ v u', Gr u u' → cO (X.ok Si.objs u') u' inf.reg v → ∃ m done Si, done.length + m = chain.length ∧ done.Nodup ∧ (∀ q ∈ done, q ∈ chain) ∧ (∀ q ∈ chain, (q ∈ done ↔ (q = free.getD p 0 ∨ L q))) ∧ CT N l os1 (fun S'' => EL X l.toArray Q (l.drop n) S'') chain m done Si ∧ Real X l n chain a RF os1 S.facts Si (fun j => j = free.getD p 0 ∨ L j) (fun j => if j = free.getD p 0 then v else vs j) u' := fun v u' hg hv => by
    refine ⟨m, done, Si, h1, h2, h3, fun q hq => ⟨fun h => .inr ((h6 q hq).1 h), fun h => (h6 q hq).2 (h.resolve_left fun e => hkc (by rw [← e]; exact hq))⟩, h4, h5.mem.grown hg, h5.tail, h5.facts, fun t r hr => ?_, h5.free⟩
    ·
     obtain ⟨g1, g2⟩ := h5.regs t r hr
     refine ⟨fun j oj hj hoj hd hLj => ?_, fun hno => qE hg (g2 hno)⟩
     by_cases e : j = free.getD p 0
     ·
      rw [if_pos e]
      subst e
      obtain rfl : oj = o := X3 (hoj.symm.trans ho)
      have := h5.free t _ (hput p oj inf hp ho hi t hd) fun j' oj' hj' hoj' e' => by
       have := huniq _ _ _ _ t hk (C.clt j' hj') hoj hoj' hd e'
       exact hkc (by rw [this]; exact hj')
      rw [hr] at this
      cases this
      exact hv
     ·
      rw [if_neg e]
      exact qE hg (g1 j oj hj hoj hd (hLj.resolve_left e))
   cases inf with
   | still r =>
    obtain ⟨hg, hSt⟩ := hO
    refine ⟨fun _ => ?_, fun hw => by rw [dn hkn hg] at hw; cases hw⟩
    obtain ⟨v, e1, e2⟩ := hSt _ _ b u hkn
    rw [e1]
    exact hnext v u (Gr.refl u) e2
   | grow r =>
    obtain ⟨hg, hSt⟩ := hO
    refine ⟨fun _ => iD (hSt _ _ b u hkn) (fun v w' hgr hv => ?_), fun hw => by rw [dn hkn hg] at hw; cases hw⟩
    obtain ⟨r', rfl, hv⟩ := hv
    exact hnext v w' hgr (hv.mono (fun b hb => rY h5.mem hgr hb) fun _ _ => rfl)
   | put p q => cases hnp _ _ hi
   | skip =>
    refine ⟨fun hw => (by rw [dn hkn hO] at hw; cases hw), fun _ => ?_⟩
    exact hnext undef u (Gr.refl u) ⟨[], rfl, rfl⟩
   | new T d =>
    obtain ⟨hg, hSt⟩ := hO
    refine ⟨fun _ => ?_, fun hw => by rw [dn hkn hg] at hw; cases hw⟩
    obtain ⟨cs, e1, e2⟩ := hSt _ _ b u hkn
    rw [e1]
    exact hnext _ _ (ay u _) trivial
  ·
   -- the next of the chain
   have hkd : k ∉ done := fun h => hLk ((h6 k hkc).1 h)
   obtain ⟨m, rfl⟩ : ∃ m', m = m' + 1 := by
    cases m with
    | succ m => exact ⟨m, rfl⟩
    | zero =>
     exfalso
     have hlt := (Yy.2 ⟨hkd, h2⟩).length_le_of_subset (fun q hq => by
      rcases XB.1 hq with rfl | hq
      · exact hkc
      · exact h3 q hq : (k :: done) ⊆ chain)
     simp at hlt
     omega
   have hready : k ∈ Dh l chain done := by
    unfold Dh
    refine Yb.2 ⟨hkc, ?_⟩
    rw [ho]
    simp only [YB, Bool.not_eq_true', X6, ZK]
    refine ⟨by simpa using hkd, fun e he => ?_⟩
    cases hb : Region.binds .any e with
    | false => exact .inl (.inl rfl)
    | true =>
     have h7 := hwait e (by simpa using he) hb
     by_cases hc : e.on ∈ chain
     · exact .inr (by simpa using (h6 e.on hc).2 h7)
     · exact .inl (.inr (by simpa using hc))
   have h4 := h4 k hready
   rw [show bJ l [k] = [o] by unfold bJ; simp [ho]] at h4
   obtain ⟨hdN, h4⟩ := h4
   have hkreg : ∀ t r, t ∈ o.looksAt l.toArray → look Si.regs t = some r → cO (X.ok Si.objs u) u r (b.tmps.getD t undef) := fun t r ht hr => by
    obtain ⟨g1, g2⟩ := h5.regs t r hr
    rcases hsl _ o L vs b t hk ho ht (hslot t ht) with ⟨j, oj, e1, e2, e3, e4, e5⟩ | ⟨e1, e2⟩
    · rw [e5]; exact g1 j oj e1 e2 e3 e4
    · rw [e2]; exact g2 e1
   have hkn : Kn X.mine (X.ok Si.objs u) (fun t => t ∈ o.looksAt l.toArray) Si b u := ⟨h5.mem.at_, h5.mem.fact, fun b hb => hb.2.1, fun t r ht hr => hkreg t r ht hr⟩
   have hnext : ∀ v u' objs' r', Mem X objs' Si.facts u' → (∃ os, objs' = os ++ os1) → (∀ b, X.ok Si.objs u b → X.ok objs' u' b) → (∀ p : Addr, X.ok Si.objs u p.block → u'.cell? p = u.cell? p) → cO (X.ok objs' u') u' r' v →
     CH N l.toArray os1 (fun S' => CT N l os1 (fun S'' => EL X l.toArray Q (l.drop n) S'') chain m (k :: done) S') [] (St.put ⟨Si.regs, objs', Si.facts⟩ o.dst r') →
     ∃ m done Si, done.length + m = chain.length ∧ done.Nodup ∧ (∀ q ∈ done, q ∈ chain) ∧ (∀ q ∈ chain, (q ∈ done ↔ (q = k ∨ L q))) ∧ CT N l os1 (fun S'' => EL X l.toArray Q (l.drop n) S'') chain m done Si ∧ Real X l n chain a RF os1 S.facts Si (fun j => j = k ∨ L j) (fun j => if j = k then v else vs j) u' := fun v u' objs' r' hmem htail hmok hcell hv hCH => by
    have hobj : (St.put ⟨Si.regs, objs', Si.facts⟩ o.dst r').objs = objs' := by cases o.dst <;> rfl
    have hfac : (St.put ⟨Si.regs, objs', Si.facts⟩ o.dst r').facts = Si.facts := by cases o.dst <;> rfl
    refine ⟨m, k :: done, _, by rw [List.length_cons]; omega, Yy.2 ⟨hkd, h2⟩, fun q hq => ?_, fun q hq => ?_, hCH, by rw [hobj, hfac]; exact hmem, by rw [hobj]; exact htail, by rw [hfac]; exact h5.facts, fun t r hr => ?_, fun t r hr hno => ?_⟩
    ·
     rcases XB.1 hq with rfl | hq
     · exact hkc
     · exact h3 q hq
    · rw [XB, h6 q hq]
    ·
     rw [hobj]
     have hcase : (o.dst = some t ∧ r = r') ∨ (o.dst ≠ some t ∧ look Si.regs t = some r) := by
      cases hd : o.dst with
      | none => rw [hd] at hr; exact .inr ⟨(fun e => by cases e), hr⟩
      | some d =>
       rw [hd] at hr
       simp only [St.put, look] at hr
       split at hr
       ·
        rename_i e
        cases hr
        exact .inl ⟨by rw [e], rfl⟩
       ·
        rename_i e
        exact .inr ⟨fun e' => e (by injection e'), hr⟩
     rcases hcase with ⟨hd, rfl⟩ | ⟨hd, hr⟩
     ·
      refine ⟨fun j oj hj hoj hd' _ => ?_, fun hno => absurd hd (hno _ o hk ho)⟩
      rw [if_pos (huniq _ _ _ _ t hj hk hoj ho hd' hd)]
      exact hv
     ·
      obtain ⟨g1, g2⟩ := h5.regs t r hr
      refine ⟨fun j oj hj hoj hd' hLj => ?_, fun hno => (g2 hno).mono hmok hcell⟩
      have hne : j ≠ k := fun e => by
       subst e
       obtain rfl : oj = o := X3 (hoj.symm.trans ho)
       exact hd hd'
      rw [if_neg hne]
      exact (g1 j oj hj hoj hd' (hLj.resolve_left hne)).mono hmok hcell
    ·
     cases hd : o.dst with
     | none => exact h5.free t r hr hno
     | some d =>
      simp only [St.put, look]
      rw [if_neg fun e => hno _ o hkc ho (by rw [hd, e])]
      exact h5.free t r hr hno
   rcases h4 with ⟨inf, hnp', hO, hCH⟩ | ⟨os, rest, Φ, hos, hg, hO, hCH⟩
   ·
    have hgr : ∀ v u', Gr u u' → cO (X.ok Si.objs u') u' inf.reg v → _ := fun v u' hg hv => hnext v u' Si.objs inf.reg (h5.mem.grown hg) h5.tail (fun b hb => Bv hg hb) (fun p hp => uI hg p hp) hv hCH
    cases inf with
    | still r =>
     obtain ⟨hg, hSt⟩ := hO
     refine ⟨fun _ => ?_, fun hw => by rw [dn hkn hg] at hw; cases hw⟩
     obtain ⟨v, e1, e2⟩ := hSt _ _ b u hkn
     rw [e1]
     exact hgr v u (Gr.refl u) e2
    | grow r =>
     obtain ⟨hg, hSt⟩ := hO
     refine ⟨fun _ => iD (hSt _ _ b u hkn) (fun v w' hgr' hv => ?_), fun hw => by rw [dn hkn hg] at hw; cases hw⟩
     obtain ⟨r', rfl, hv⟩ := hv
     exact hgr v w' hgr' (hv.mono (fun b hb => rY h5.mem hgr' hb) fun _ _ => rfl)
    | put p q => cases hnp'
    | skip =>
     refine ⟨fun hw => (by rw [dn hkn hO] at hw; cases hw), fun _ => ?_⟩
     exact hgr undef u (Gr.refl u) ⟨[], rfl, rfl⟩
    | new T d =>
     obtain ⟨hg, hSt⟩ := hO
     refine ⟨fun _ => ?_, fun hw => by rw [dn hkn hg] at hw; cases hw⟩
     obtain ⟨cs, e1, e2⟩ := hSt _ _ b u hkn
     rw [e1]
     exact hgr _ _ (ay u _) trivial
   ·
    obtain ⟨rs, objs, fs⟩ := Si
    dsimp only at hos
    subst hos
    refine ⟨fun _ => ?_, fun hw => by rw [dn hkn hg] at hw; cases hw⟩
    have := hO.go X.mine (X.ok (os ++ (rest ++ os1)) u) b u ⟨fun q hq => hkn.objs q (Ya _ hq), hkn.facts, hkn.lt, hkn.regs⟩ h5.mem.own
    refine wS this fun v u' ⟨r, os', e1, e2, e3⟩ => ?_
    exact hnext v u' (os' ++ (rest ++ os1)) r (h5.mem.turned e2) ⟨os' ++ rest, by rw [List.append_assoc]⟩ (fun b hb => oP h5.mem e2 hb) (turned_cell h5.mem e2) (e3.mono (fun b hb => nN h5.mem e2 hb) fun _ _ => rfl) (hCH r os' e1)
 ·
  intro vs u b ⟨m, done, Si, h1, h2, h3, h6, h4, h5⟩ hs hd hslot
  obtain rfl : m = 0 := by
   have hle := C.nod.length_le_of_subset (fun q hq => (h6 q hq).2 (C.clt q hq) : chain ⊆ done)
   omega
  have h4' : EL X l.toArray Q (l.drop n) Si := h4
  refine h4'.go b u ⟨h5.mem, fun t r hr => ?_, hs.trans ha.size, hd.trans ha.defers⟩
  obtain ⟨g1, g2⟩ := h5.regs t r hr
  rcases hslot t with ⟨j, e1, e2, e3, e4, e5⟩ | ⟨e1, e2⟩
  ·
   rw [e5]
   have hj : j < l.length := by have := C.le; omega
   exact g1 j l[j] e1 (by simp) (by rw [← hdst j l[j] (by simp)]; exact e2) e4
  ·
   rw [e2]
   exact g2 fun j o hj ho e => e1 j hj (by rw [hdst j o ho]; exact e)
end
section
variable {N : Nat} {X : Cx N} {S : St} {ops : Array Oper} {o : Oper} {Q : Exit → Act → World → Prop} {l : List Oper} {TT : St → List Fr → Prop} {EE : List Fr} {rs : List (Tmp × R)} {os : List Obj} {fs : List (Value × D)}
theorem Pz {x : Operand} {T n m : Nat} {b : List UInt8} (hA : wJ T n) (hn : Nat.ble n 4096 = true) (ho : o.op = .slice T x none none none) (hx : ev S x = some (.val (.pd (.arr m b)))) (hm : m = n) (h0 : Nat.blt 0 n = true) : Still ops S o (.val (.bs b)) := fun base ok a w ha => by
 subst hm
 have h1 := (bM rfl).1 (ha.ev hx fun t e => aQ e (by rw [ho]; simp [Op.operands]))
 rw [Reads] at h1
 obtain ⟨g, k, cs, e, hg, hr, h2⟩ := h1
 rw [Reads] at h2
 obtain ⟨hl, rfl⟩ := h2
 have e' : a.eval x = .pointer (some ⟨g, k, none⟩) := Zn.1 e
 simp only [Nat.ble_eq] at hn
 refine ⟨.slice (some ⟨g, k, none⟩) m m, ?_, (bM rfl).2 ?_⟩
 ·
  unfold execOp
  simp only [ho, e', Zc, XO, hA.ok w g k, XF, XR]
 ·
  rw [Reads]
  refine ⟨_, rfl, some ⟨g, k, none⟩, m, by rw [hl], by omega, by simp [maxLen]; omega, fun _ => ⟨g, k, rfl, hg, fun j u hu => hr j u hu⟩⟩
theorem Jj {t ty : Nat} {pos : String} {af : Array Edge} {gd : Option (Nat × Bool)} {x : Operand} {T n m : Nat} {b : List UInt8} (hA : wJ T n) (hn : Nat.ble n 4096 = true) (hx : ev (⟨rs, os, fs⟩ : St) x = some (.val (.pd (.arr m b)))) (hm : m = n) (h0 : Nat.blt 0 n = true) (hg : guardOf ops ⟨rs, os, fs⟩ ⟨some t, .slice T x none none none, ty, pos, af, gd⟩ = some true) (hN : Nat.blt t N = true) (kk : EL X ops Q l ⟨(t, .val (.bs b)) :: rs, os, fs⟩) : EL X ops Q (⟨some t, .slice T x none none none, ty, pos, af, gd⟩ :: l) ⟨rs, os, fs⟩ := ES.still (Pz hA hn rfl hx hm h0) hg rfl hN kk
theorem QS {t ty : Nat} {pos : String} {af : Array Edge} {gd : Option (Nat × Bool)} {x : Operand} {T n m : Nat} {b : List UInt8} (hA : wJ T n) (hn : Nat.ble n 4096 = true) (hx : ev (⟨rs, os, fs⟩ : St) x = some (.val (.pd (.arr m b)))) (hm : m = n) (h0 : Nat.blt 0 n = true) (hg : guardOf ops ⟨rs, os, fs⟩ ⟨some t, .slice T x none none none, ty, pos, af, gd⟩ = some true) (hoff : fF N (some t) EE = true) (kk : EM N ops TT l ⟨(t, .val (.bs b)) :: rs, os, fs⟩ EE) : EM N ops TT (⟨some t, .slice T x none none none, ty, pos, af, gd⟩ :: l) ⟨rs, os, fs⟩ EE := EH.still (Pz hA hn rfl hx hm h0) hg rfl hoff kk
theorem Qv {x y : Operand} {T e b : Nat} {k : Int} {m : List UInt8} (ho : o.op = .slice T x none (some y) none) (hx : ev S x = some (.val (.bs m))) (hy : ev S y = some (.val (.v (.int .i64 k)))) (hT : assoc slL T = some (e, 1, b)) (hk : 0 ≤ k ∧ k.toNat ≤ m.length) : Still ops S o (.val (.bs (m.take k.toNat))) := fun base ok a w ha => by
 obtain ⟨A, c, h1, h2, h3, h4⟩ := xE (ha.ev hx (dG (by rw [ho]; simp [Op.operands])))
 have hy' := iT ha hy (dG (by rw [ho]; simp [Op.operands]))
 obtain ⟨hu, hs⟩ := qP hT
 refine ⟨.slice (if c = 0 then A else A.map (·.add (0 * 1))) (k.toNat - 0) (c - 0), ?_, KC ⟨A, c, ?_, by rw [List.length_take]; omega, h3, fun hne => ?_⟩⟩
 ·
  unfold execOp
  simp only [ho, h1, hy', Zc, YI, XO]
  rw [run_sliceAt_slice _ _ _ _ _ _ hu, run_slice_h _ _ _ _ _ hu _ _ (by omega) (by omega), hs]
  simp only [XF, XR, sliced]
 ·
  have h5 : (if c = 0 then A else A.map (·.add (0 * 1))) = A := by
   split
   · rfl
   · cases A <;> simp [Addr.add]
  rw [h5, List.length_take, Zb hk.2]
  rfl
 ·
  rw [GH] at hne ⊢
  obtain ⟨b, o, e1, e2, e3⟩ := h4 (fun e => hne (by rw [e]; simp))
  refine ⟨b, o, e1, e2, fun j u hu => e3 j u ?_⟩
  rw [Y7] at hu
  split at hu
  · exact hu
  · cases hu
theorem GK {x y : Operand} {T e b : Nat} {k : Int} {m : List UInt8} (ho : o.op = .slice T x (some y) none none) (hx : ev S x = some (.val (.bs m))) (hy : ev S y = some (.val (.v (.int .i64 k)))) (hT : assoc slL T = some (e, 1, b)) (hk : 0 ≤ k ∧ k.toNat ≤ m.length) : Still ops S o (.val (.bs (m.drop k.toNat))) := fun base ok a w ha => by
 obtain ⟨A, c, h1, h2, h3, h4⟩ := xE (ha.ev hx (dG (by rw [ho]; simp [Op.operands])))
 have hy' := iT ha hy (dG (by rw [ho]; simp [Op.operands]))
 obtain ⟨hu, hs⟩ := qP hT
 refine ⟨.slice (if c = k.toNat then A else A.map (·.add (k.toNat * 1))) (m.length - k.toNat) (c - k.toNat), ?_, KC ⟨if c = k.toNat then A else A.map (·.add (k.toNat * 1)), c - k.toNat, by rw [Xx], by rw [Xx]; omega, by omega, ?_⟩⟩
 ·
  unfold execOp
  have hr : (Instr.sliceAt T (.slice A m.length c) (some (.int .i64 k)) none none).run Tryz.prog w = .ok (.slice (if c = k.toNat then A else A.map (·.add (k.toNat * 1))) (m.length - k.toNat) (c - k.toNat)) w := by
   rw [run_sliceAt_slice (P := Tryz.prog) w T _ _ _ _ hu, run_slice_l (P := Tryz.prog) w T A m.length c hu .i64 k hk.1 (by omega), hs]
   rfl
  simp only [ho, h1, hy', Zc, YI, XO, hr, XF, XR]
 ·
  have := EU (z := 1) h4 (by rw [bG, ZG]) h2 k.toNat hk.2
  rw [ZG] at this
  rw [ZG]
  unfold bvs at this ⊢
  rw [List.map_drop]
  exact this
theorem QN {t ty : Nat} {pos : String} {af : Array Edge} {gd : Option (Nat × Bool)} {x y : Operand} {T e b : Nat} {k : Int} {m : List UInt8} (hx : ev (⟨rs, os, fs⟩ : St) x = some (.val (.bs m))) (hy : ev (⟨rs, os, fs⟩ : St) y = some (.val (.v (.int .i64 k)))) (hT : assoc slL T = some (e, 1, b)) (hk : 0 ≤ k ∧ k.toNat ≤ m.length) (hg : guardOf ops ⟨rs, os, fs⟩ ⟨some t, .slice T x none (some y) none, ty, pos, af, gd⟩ = some true) (hN : Nat.blt t N = true) (kk : EL X ops Q l ⟨(t, .val (.bs (m.take k.toNat))) :: rs, os, fs⟩) : EL X ops Q (⟨some t, .slice T x none (some y) none, ty, pos, af, gd⟩ :: l) ⟨rs, os, fs⟩ := ES.still (Qv rfl hx hy hT hk) hg rfl hN kk
theorem ru {t ty : Nat} {pos : String} {af : Array Edge} {gd : Option (Nat × Bool)} {x y : Operand} {T e b : Nat} {k : Int} {m : List UInt8} (hx : ev (⟨rs, os, fs⟩ : St) x = some (.val (.bs m))) (hy : ev (⟨rs, os, fs⟩ : St) y = some (.val (.v (.int .i64 k)))) (hT : assoc slL T = some (e, 1, b)) (hk : 0 ≤ k ∧ k.toNat ≤ m.length) (hg : guardOf ops ⟨rs, os, fs⟩ ⟨some t, .slice T x (some y) none none, ty, pos, af, gd⟩ = some true) (hN : Nat.blt t N = true) (kk : EL X ops Q l ⟨(t, .val (.bs (m.drop k.toNat))) :: rs, os, fs⟩) : EL X ops Q (⟨some t, .slice T x (some y) none none, ty, pos, af, gd⟩ :: l) ⟨rs, os, fs⟩ := ES.still (GK rfl hx hy hT hk) hg rfl hN kk
theorem jQ {t ty : Nat} {pos : String} {af : Array Edge} {gd : Option (Nat × Bool)} {x y : Operand} {T e b : Nat} {k : Int} {m : List UInt8} (hx : ev (⟨rs, os, fs⟩ : St) x = some (.val (.bs m))) (hy : ev (⟨rs, os, fs⟩ : St) y = some (.val (.v (.int .i64 k)))) (hT : assoc slL T = some (e, 1, b)) (hk : 0 ≤ k ∧ k.toNat ≤ m.length) (hg : guardOf ops ⟨rs, os, fs⟩ ⟨some t, .slice T x (some y) none none, ty, pos, af, gd⟩ = some true) (hoff : fF N (some t) EE = true) (kk : EM N ops TT l ⟨(t, .val (.bs (m.drop k.toNat))) :: rs, os, fs⟩ EE) : EM N ops TT (⟨some t, .slice T x (some y) none none, ty, pos, af, gd⟩ :: l) ⟨rs, os, fs⟩ EE := EH.still (GK rfl hx hy hT hk) hg rfl hoff kk
theorem IW {x y : Operand} {T n e z : Nat} {k : Int} {ds : List D} {d : D} (ho : o.op = .index T x y) (hx : ev S x = some (.val (.tup ds))) (hy : ev S y = some (.val (.v (.int .i64 k)))) (hT : assoc arL T = some (n, e, z)) (hz : z = 1) (he : ∀ w, (isAgg e).run Tryz.prog w = .ok false w) (hs : ∀ d ∈ ds, d.size = 1 ∧ d.agg = false) (hn : ds.length = n) (hk : 0 ≤ k ∧ ds[k.toNat]? = some d) : Still ops S o (.val d) := fun base ok a w ha => by
 subst hz
 obtain ⟨cs, h1, h2⟩ := (jB rfl).1 (ha.ev hx (dG (by rw [ho]; simp [Op.operands])))
 have hy' := iT ha hy (dG (by rw [ho]; simp [Op.operands]))
 obtain ⟨hk', rfl⟩ := XC.1 hk.2
 rw [Reads] at h1
 have hcs : ∀ (ds : List D) (cs : List Value), (∀ d ∈ ds, d.size = 1 ∧ d.agg = false) → bU ok w ds cs → cs.length = ds.length ∧ ∀ (i : Nat) (hi : i < ds.length), ∃ u, cs[i]? = some u ∧ Reads ok w ds[i] [u] := by
  intro ds
  induction ds with
  | nil =>
   intro cs _ h
   rw [bU] at h
   subst h
   exact ⟨rfl, fun i hi => absurd hi (Yc _)⟩
  | cons d ds ih =>
   intro cs hd h
   rw [bU] at h
   obtain ⟨c1, c2, rfl, g1, g2⟩ := h
   obtain ⟨u, rfl⟩ : ∃ u, c1 = [u] := Yv.1 ((Reads.len _ _ g1).trans (hd d (by simp)).1)
   obtain ⟨i1, i2⟩ := ih c2 (fun d hd' => hd d (by simp [hd'])) g2
   refine ⟨by simp [i1], fun i hi => ?_⟩
   cases i with
   | zero => exact ⟨u, rfl, g1⟩
   | succ i => simpa using i2 i (by simpa using hi)
 obtain ⟨hl, hat⟩ := hcs ds cs hs h1
 obtain ⟨u, hu, hr⟩ := hat k.toNat hk'
 refine ⟨u, ?_, (bM (hs _ (XW hk')).2).2 hr⟩
 have hlt : k < (n : Int) := by omega
 have hA := QE hT
 have hrun : (Instr.index T (.agg cs.toArray) (.int .i64 k)).run Tryz.prog w = .ok u w := by
  unfold Instr.index
  have h0 := hk.1
  simp [run_underlying hA.und, asIntOf, h0, hlt, jZ hA.size, part, he, hu]
 unfold execOp
 simp only [ho, h2, hy', XO, hrun, XF, XR]
theorem Still.refine {d d' : D} (h : Still ops S o (.val d)) (hR : aj S.facts [d] [d']) : Still ops S o (.val d') := fun base ok a w ha => by
 obtain ⟨v, h1, h2⟩ := h base ok a w ha
 exact ⟨v, h1, Refine1.jk ha.facts hR h2⟩
theorem Af {t ty : Nat} {pos : String} {af : Array Edge} {gd : Option (Nat × Bool)} {T : Nat} {parts : Array (Nat × Operand)} {lf : List (Nat × Nat × Bool)} {d0 d d' : D} {ps : List (Nat × D)} (hx : qO (⟨rs, os, fs⟩ : St) parts.toList = some ps) (hT : assoc stL T = some lf) (hz : assoc jJ T = some d0) (hd0 : d0.agg = true) (hf : qN (lf.map fun x => (x.1, x.2.1)) d0 ps = some d) (hR : aj fs [d] [d']) (hg : guardOf ops ⟨rs, os, fs⟩ ⟨some t, .build T parts, ty, pos, af, gd⟩ = some true) (hN : Nat.blt t N = true) (kk : EL X ops Q l ⟨(t, (.val d')) :: rs, os, fs⟩) : EL X ops Q (⟨some t, .build T parts, ty, pos, af, gd⟩ :: l) ⟨rs, os, fs⟩ := ES.still (Still.refine (zD rfl hx hT hz hd0 hf) hR) hg rfl hN kk
end
theorem FnM.toFn {f : FuncId} {ds : List D} {Φ : R → Prop} (h : FnM f ds [] (fun r os' => Φ r ∧ os' = [])) : Fn f ds Φ := ⟨fun ok w xs hok hr => by
 refine (h.go ok w xs hok ⟨fun o ho => by simp at ho, .nil, fun b ⟨o, ho, _⟩ => by simp at ho⟩ hr).mono ?_
 rintro e w' ⟨v, r, os', rfl, ⟨hΦ, rfl⟩, ht, hv⟩
 refine ⟨ht.gr.gr fun b ⟨o, ho, _⟩ => by simp at ho, v, r, rfl, hΦ, hv.mono (fun b hb => ⟨?_, hb.2.1⟩) fun _ _ => rfl⟩
 rcases hb.1 with h | ⟨o, ho, _⟩ | h
 · exact .inl h
 · simp at ho
 · exact .inr h⟩
end E
end Go.Proofs.YtelbhdobjdnglaaGreat
namespace Go.Proofs.YtelbhdobjdnglaaGreat
set_option linter.unusedVariables false
set_option maxRecDepth 20000
set_option maxHeartbeats 1000000
open Go.RowKit Mono
abbrev xP (l m : List UInt8) : Int := Lib.compareBytes l m
theorem FI : ∀ a b : List UInt8, Op.bytesLess a b = decide (xP a b < 0)
 | [], [] => rfl
 | _ :: _, [] => rfl
 | [], _ :: _ => rfl
 | a :: x, b :: y => by
  rw [Op.bytesLess, xP, Lib.compareBytes, FI x y]
  by_cases h1 : a < b
  · simp [h1]
  ·
   by_cases h2 : b < a
   ·
    have h3 : ¬ a = b := fun e => by subst e; exact h1 h2
    simp [h1, h2, h3]
   ·
    have h3 : a = b := by
     apply Yt.1
     have := UInt8.not_lt.1 h1
     have := UInt8.not_lt.1 h2
     exact Nat.le_antisymm (UInt8.le_iff_toNat_le.1 (UInt8.not_lt.1 h2)) (UInt8.le_iff_toNat_le.1 (UInt8.not_lt.1 h1))
    subst h3
    simp [h1]
theorem wU {w : World} {v : Value} {l : List UInt8} (h : IsB w v l) : (Extern.Bytes.bytesOf v).run Tryz.prog w = .ok (bs l) w := by
 obtain ⟨A, c, rfl, h1, h2, hr⟩ := h
 cases A with
 | none =>
  have : l = [] := by
   by_cases hl : bvs l = []
   · simpa [bvs] using hl
   ·
    obtain ⟨b, o, e, _⟩ := hr hl
    cases e
  subst this
  rfl
 | some ad =>
  have := Lib.run_loadBytesX (P := Tryz.prog) (w := w) (l.map fun x => (x.toNat : Int)) ad .empty fun j x hx => by
   rw [XK] at hx
   obtain ⟨y, hy, rfl⟩ := Option.map_eq_some_iff.1 hx
   obtain ⟨b, o, e, _, hc⟩ := hr (fun e => by have := congrArg List.length e; rw [bG] at this; simp at this; rw [this] at hy; simp at hy)
   injection e with e
   subst e
   rw [eu]
   exact hc j _ (by simp [bvs, bv, hy])
  rw [List.length_map] at this
  show (Extern.Bytes.loadBytes ad l.length .empty).run Tryz.prog w = _
  rw [this]
  have h2 : Lib.bytesOf (l.map fun x => (x.toNat : Int)) = l := by
   simp only [Lib.bytesOf, YJ]
   refine (Yq fun x _ => ?_).trans (List.map_id l)
   simp
  rw [h2]
  simp [bs]
theorem Et {w : World} {v u : Value} {l m : List UInt8} (h1 : IsB w v l) (h2 : IsB w u m) : (Extern.BytealgCompare.compare #[v, u]).run Tryz.prog w = .ok (.int .i64 (xP l m)) w := by
 change Sem.run Tryz.prog (do pure (goInt (Extern.BytealgCompare.cmp (← Extern.Bytes.bytesOf v) (← Extern.Bytes.bytesOf u)))) w = _
 simp only [XO, wU h1, wU h2, XF, XR, Lib.cmp_eq]
 rfl
theorem zX (v u : Value) (l m : List UInt8) (w : World) (h1 : IsB w v l) (h2 : IsB w u m) : Calls Tryz.prog 148 #[v, u] w fun e w' => e = .returned (.int .i64 (xP l m)) ∧ w' = w := by
 have hr := Et h1 h2
 go_enter Tryz.func148, Tryz.ntmps148
 go_wp2_with fail
 rw [run_callFunc_extern Tryz.func178 (by kernel_rfl) (by kernel_rfl) (by kernel_rfl) (e := Extern.BytealgCompare.compare) (by kernel_rfl), hr]
 simp only [Result.andThen]
 rw [Oper.upon_value]
 go_wp2_with fail
 exact bodyPost_ret (results_tmp rfl _ _ _) rfl ⟨rfl, rfl⟩
theorem DY (a b : List UInt8) : Op.bytesLess a b = decide (a < b) := Go.Proofs.bytesLess_eq a b
theorem Kz (a b : List UInt8) : decide (xP a b < 0) = decide (a < b) := by rw [← FI, DY]
end Go.Proofs.YtelbhdobjdnglaaGreat
namespace Go.Proofs.YtelbhdobjdnglaaGreat
set_option linter.unusedVariables false
open Go.RowKit Mono Rlp
namespace E

end E
end Go.Proofs.YtelbhdobjdnglaaGreat
namespace Go.Proofs.YtelbhdobjdnglaaGreat
set_option maxHeartbeats 400000
open Go.RowKit Mono
def common : List UInt8 → List UInt8 → Nat
 | x :: xs, y :: ys => if x = y then common xs ys + 1 else 0
 | _, _ => 0
theorem Gv (l m : List UInt8) (k : Nat) (h1 : k < l.length) (h2 : k < m.length) :
  common (l.drop k) (m.drop k) = if l[k] = m[k] then common (l.drop (k + 1)) (m.drop (k + 1)) + 1 else 0 := by
 rw [XI h1, XI h2, common]
theorem zT (l m : List UInt8) (k : Nat) (h : l.length ≤ k ∨ m.length ≤ k) : common (l.drop k) (m.drop k) = 0 := by
 rcases h with h | h
 · rw [XP h]; rfl
 · rw [XP h]; cases l.drop k <;> rfl
theorem Oe (a b : UInt8) : ((a.toNat : Int) == (b.toNat : Int)) = decide (a = b) := by
 rw [Bool.eq_iff_iff]; simp only [beq_iff_eq, decide_eq_true_eq]; rw [Int.ofNat_inj, Yt]
def VE (n : Nat) (w : World) (e : Ending) (w' : World) : Prop := e = .returned (.int .i64 n) ∧ ∃ k, w' = w.drewN k
theorem H6 (v1 v2 : Value) (l m : List UInt8) (w : World) (h1 : IsB w v1 l) (h2 : IsB w v2 m) :
  Calls Tryz.prog 124 #[v1, v2] w (VE (common l m) w) := by
 obtain ⟨A, c, rfl, hl1, hl2, hA⟩ := h1
 obtain ⟨B, d, rfl, hm1, hm2, hB⟩ := h2
 unfold maxLen at hl2 hm2
 have HA := Lib.hid hA
 have HB := Lib.hid hB
 clear hA hB
 go_enter Tryz.func124, Tryz.ntmps124
 go_wp2
 go_loopw [5] (fun n wr => ∃ k : Nat, k ≤ l.length ∧ k ≤ m.length ∧ n = .int .i64 k ∧ (∃ n, wr = w.drewN n) ∧ Hid (common l m = k + common (l.drop k) (m.drop k))) (fun n _ => l.length - (intOf n).toNat)
 case atStart => exact ⟨0, by omega, by omega, rfl, ⟨0, rfl⟩, Lib.hid (by simp)⟩
 case round =>
  obtain ⟨k, hk1, hk2, rfl, ⟨nn, rfl⟩, hC⟩ := hrel
  by_cases h1 : k < l.length
  ·
   by_cases h2 : k < m.length
   ·
    obtain ⟨b1, o1, rfl, _, c1⟩ := HA.out (by intro e; have := bG l; rw [e] at this; simp at this; omega)
    obtain ⟨b2, o2, rfl, _, c2⟩ := HB.out (by intro e; have := bG m; rw [e] at this; simp at this; omega)
    have d1 := c1 k _ (jH l k h1)
    have d2 := c2 k _ (jH m k h2)
    clear c1 c2
    unfold bv at d1 d2
    have hst := Lib.hid (Gv l m k h1 h2)
    go_wp2
    go_quiet (fail)
    go_wp2
    ·
     go_roundw
     case rel =>
      have he : l[k] = m[k] := by have h := ‹((l[k].toNat : Int) == (m[k].toNat : Int)) = true›; rw [Oe] at h; simpa using h
      exact ⟨k + 1, by omega, by omega, by go_num, ⟨nn + nq, by simp⟩, Lib.hid (by rw [hC.out, hst.out, if_pos he]; omega)⟩
     case measure => simp [intOf]; omega
    ·
     have he : ¬ l[k] = m[k] := by have h := ‹((l[k].toNat : Int) == (m[k].toNat : Int)) = false›; rw [Oe] at h; simpa using h
     go_ret
     exact ⟨by rw [hC.out, hst.out, if_neg he]; simp, nn + nq, by simp⟩
   ·
    have hst := Lib.hid (zT l m k (by omega))
    go_wp2
    go_quiet (fail)
    go_wp2
    go_ret
    exact ⟨by rw [hC.out, hst.out]; simp, nn + nq, by simp⟩
  ·
   have hst := Lib.hid (zT l m k (by omega))
   go_wp2
   go_quiet (fail)
   go_wp2
   go_ret
   exact ⟨by rw [hC.out, hst.out]; simp, nn + nq, by simp⟩
def split (l : List UInt8) : List UInt8 := l.flatMap fun (x : UInt8) => [x >>> 4, x &&& 15]
theorem dB (l : List UInt8) : (split l).length = 2 * l.length := by
 induction l with
 | nil => rfl
 | cons x l ih => unfold split at *; rw [List.flatMap_cons, List.length_append, ih]; simp; omega
theorem yF (l : List UInt8) (k : Nat) (h : k < l.length) : split (l.take (k + 1)) = split (l.take k) ++ [l[k] >>> 4, l[k] &&& 15] := by
 rw [XE h, split, List.flatMap_append]; rfl
theorem Wp (x : UInt8) : bvs [x >>> 4, x &&& 15] = [.int .u8 ((x.toNat : Int) / 16), .int .u8 ((x.toNat : Int) % 16)] := by
 have h1 : (x >>> 4).toNat = x.toNat / 16 := by rw [Zp]; simp [Nat.shiftRight_eq_div_pow]
 have h2 : (x &&& 15).toNat = x.toNat % 16 := by rw [UInt8.toNat_and]; exact Yo _ 4
 simp [bvs, bv, h1, h2]
theorem Ir (v1 : Value) (l : List UInt8) (w : World) (h1 : IsB w v1 l) (hlen : l.length ≤ 1073741824) :
  Calls Tryz.prog 90 #[v1] w (Ret (fun v w' => OwnB w' w.heap.size v (split l)) w) := by
 obtain ⟨A, c, rfl, hl1, hl2, hA⟩ := h1
 clear hl1 hl2
 have HA := Lib.hid hA
 clear hA
 go_enter Tryz.func90, Tryz.ntmps90
 go_wp2
 go_loopw [3, 8] (fun v i wr => ∃ k : Nat, k ≤ l.length ∧ i = .int .i64 k ∧ OwnB wr w.heap.size v (split (l.take k)) ∧ Below w.heap.size w wr) (fun _ i _ => l.length - (intOf i).toNat)
 case atStart => exact ⟨0, by omega, rfl, OwnB.nil w w.heap.size, Below.refl _ _⟩
 case round =>
  obtain ⟨k, hk1, rfl, hown, hb⟩ := hrel
  obtain ⟨A', c', rfl, hc1, hc2⟩ := cZ hown
  have hsl : (split (l.take k)).length ≤ 2 * k := by rw [dB, List.length_take]; omega
  have hbs := hb.size
  have HO := Lib.hid hown
  have HB := Lib.hid hb
  clear hown hb
  by_cases h1 : k < l.length
  ·
   obtain ⟨b1, o1, rfl, hb1, c1⟩ := HA.out (by intro e; have := bG l; rw [e] at this; simp at this; omega)
   have d1 := (HB.out.cell (p := ⟨b1, o1 + k, none⟩) hb1).trans (c1 k _ (jH l k h1))
   clear c1
   unfold bv at d1
   have hlx := jP l[k]
   have HS := Lib.hid (yF l k h1)
   have HN := Lib.hid (Wp l[k])
   generalize l[k].toNat = x at d1 hlx HN
   go_wp2_with (at_builtin; refine aV _ _ 38 bK _ _ _ _ _ _ (wr.heap.size + 1) [.int .u8 (↑x / 16), .int .u8 (↑x % 16)] rfl rfl rfl rfl (HO.out.alloc _) (Rd.new _ _ _) rfl (by simp [Value.oneCell']) (by simp only [maxLen]; omega) (by omega) (by simp; omega) ?_; intro A2 c2 w2 hown2 hg2 _)
   go_roundw
   case rel =>
    refine ⟨k + 1, by omega, by go_num, ?_, ?_⟩
    ·
     unfold OwnB
     rw [HS.out, gZ, List.length_append]
     have e := HN.out
     rw [← e] at hown2
     exact hown2
    · exact (HB.out.alloc hbs _).grown hg2 (by simp; omega) fun j hj => bI HO.out j hj
   case measure => simp [intOf]; omega
  ·
   go_wp2
   refine bodyPost_ret (results_tmp rfl _ _ _) rfl ?_
   refine ⟨_, rfl, HB.out, ?_⟩
   have h := HO.out
   rw [YM (by omega)] at h
   show OwnB _ _ (.slice A' (split (l.take k)).length c') _
   rw [YM (by omega)]
   exact h
theorem LC (v1 : Value) (l : List UInt8) (w : World) (h1 : IsB w v1 l) (hlen : l.length ≤ 1073741824) :
  Calls Tryz.prog 69 #[v1] w (Ret (fun v w' => OwnB w' w.heap.size v (split l)) w) := by
 obtain ⟨A, c, rfl, hl1, hl2, hA⟩ := h1
 clear hl1 hl2
 have HA := Lib.hid hA
 clear hA
 go_enter Tryz.func69, Tryz.ntmps69
 go_wp2
 go_loopw [3, 4] (fun v i wr => ∃ k : Nat, k ≤ l.length ∧ i = .int .i64 k ∧ OwnB wr w.heap.size v (split (l.take k)) ∧ Below w.heap.size w wr) (fun _ i _ => l.length - (intOf i).toNat)
 case atStart => exact ⟨0, by omega, rfl, OwnB.nil w w.heap.size, Below.refl _ _⟩
 case round =>
  obtain ⟨k, hk1, rfl, hown, hb⟩ := hrel
  obtain ⟨A', c', rfl, hc1, hc2⟩ := cZ hown
  have hsl : (split (l.take k)).length ≤ 2 * k := by rw [dB, List.length_take]; omega
  have hbs := hb.size
  have HO := Lib.hid hown
  have HB := Lib.hid hb
  clear hown hb
  by_cases h1 : k < l.length
  ·
   obtain ⟨b1, o1, rfl, hb1, c1⟩ := HA.out (by intro e; have := bG l; rw [e] at this; simp at this; omega)
   have hbw : b1 < wr.heap.size := by omega
   have d1 := aZ (w := wr) (p := ⟨b1, o1 + k, none⟩) hbw ((HB.out.cell (p := ⟨b1, o1 + k, none⟩) hb1).trans (c1 k _ (jH l k h1)))
   clear c1
   unfold bv at d1
   have hlx := jP l[k]
   have HS := Lib.hid (yF l k h1)
   have HN := Lib.hid (Wp l[k])
   generalize l[k].toNat = x at d1 hlx HN
   go_wp2
   refine dO 12 (by kernel_rfl) (by kernel_rfl) (by kernel_rfl) ?_
   simp only [Xp, Xu, mP, Xq]
   refine dS 11 (by kernel_rfl) ?_
   simp only [Xp, Xu, mP, Xq]
   repeat (go_big_quiet_step (fail))
   refine wpQuiet_nil ?_
   refine CJ 22 (fun v w => IsB w v [l[k] >>> 4, l[k] &&& 15]) rfl rfl (by kernel_rfl) (by kernel_rfl) (sW _) (fun x => ?_) ?_
   ·
    simp [go_sem, fZ]
    exact ⟨ay _ _, Dz _ _ _ HN.out.symm (by simp [maxLen])⟩
   refine iE (by kernel_rfl) ?_
   intro W hW
   replace hW := hW.gr
   have hbs2 := hW.size
   intro v22 h22
   obtain ⟨A22, c22, rfl, _, _, hrd⟩ := h22
   unfold pJ
   go_wp2_with (at_builtin; refine aV _ _ 38 bK _ _ _ _ _ _ _ (bvs [l[k] >>> 4, l[k] &&& 15]) rfl rfl rfl rfl (nH HO.out hW) hrd (by simp [bvs]) (dR _) (by simp only [maxLen]; simp; omega) (by simp; omega) (by omega) ?_; intro A2 c2 w2 hown2 hg2 _)
   go_roundw
   case rel =>
    refine ⟨k + 1, by omega, by go_num, ?_, ?_⟩
    ·
     unfold OwnB
     rw [HS.out, gZ, List.length_append]
     exact hown2
    · exact (HB.out.trans (hW.mono hbs)).grown hg2 (by omega) fun j hj => bI HO.out j hj
   case measure => simp [intOf]; omega
  ·
   go_wp2
   refine bodyPost_ret (results_tmp rfl _ _ _) rfl ?_
   refine ⟨_, rfl, HB.out, ?_⟩
   have h := HO.out
   rw [YM (by omega)] at h
   show OwnB _ _ (.slice A' (split (l.take k)).length c') _
   rw [YM (by omega)]
   exact h
def joinL : List UInt8 → Option (List UInt8)
 | [] => some []
 | [_] => none
 | x :: y :: r => if x.toNat ≤ 15 ∧ y.toNat ≤ 15 then (joinL r).map fun t => (x <<< 4 ||| y) :: t else none
theorem wz : ∀ (p : List UInt8), p.length % 2 = 1 → joinL p = none
 | [], h => by simp at h
 | [_], _ => rfl
 | x :: y :: r, h => by
  rw [joinL, wz r (by simp at h; omega)]
  simp
theorem zn (p : List UInt8) (k : Nat) (h1 : k < p.length) (h2 : k + 1 < p.length) :
  joinL (p.drop k) = if p[k].toNat ≤ 15 ∧ p[k + 1].toNat ≤ 15 then (joinL (p.drop (k + 2))).map fun t => (p[k] <<< 4 ||| p[k + 1]) :: t else none := by
 rw [XI h1, XI h2, joinL]
def KR (base : Nat) (p : List UInt8) : VP := fun v w => ∃ v1, v = .tuple #[v1, .bool (joinL p).isSome] ∧ OwnB w base v1 ((joinL p).getD [])
theorem O4 (x y : Nat) (hx : x ≤ 15) (hy : y ≤ 15) (a b : UInt8) (ha : a.toNat = x) (hb : b.toNat = y) : (a <<< 4 ||| b).toNat = x * 16 + y := by
 have h : ∀ x : Fin 16, ∀ y : Fin 16, ((UInt8.ofNat x.1) <<< 4 ||| (UInt8.ofNat y.1)).toNat = x.1 * 16 + y.1 := by decide +kernel
 subst ha hb
 simpa using h ⟨a.toNat, by omega⟩ ⟨b.toNat, by omega⟩
theorem O5 (x y : Nat) (hx : x ≤ 15) (hy : y ≤ 15) : bits .or .u8 ((x : Int) * 16) (y : Int) = ((x * 16 + y : Nat) : Int) := by
 have h : ∀ x : Fin 16, ∀ y : Fin 16, bits .or .u8 ((x.1 : Int) * 16) (y.1 : Int) = ((x.1 * 16 + y.1 : Nat) : Int) := by decide +kernel
 exact h ⟨x, by omega⟩ ⟨y, by omega⟩
theorem uy (v1 : Value) (p : List UInt8) (w : World) (h1 : IsB w v1 p) (hlen : p.length ≤ 1073741824) :
  Calls Tryz.prog 108 #[v1] w (Ret (KR w.heap.size p) w) := by
 obtain ⟨A, c, rfl, hl1, hl2, hA⟩ := h1
 clear hl1 hl2
 have HA := Lib.hid hA
 clear hA
 by_cases hodd : p.length % 2 = 1
 ·
  have HJ := Lib.hid (wz p hodd)
  go_enter Tryz.func108, Tryz.ntmps108
  go_wp2
  refine bodyPost_ret (results_tmp2 rfl _ _ _) rfl ?_
  refine ⟨_, rfl, Below.refl _ _, .slice none 0 0, ?_, ?_⟩
  · rw [HJ.out]; rfl
  · rw [HJ.out]; exact OwnB.nil _ _
 ·
  have hev : p.length % 2 = 0 := by omega
  clear hodd
  have hevI : (p.length : Int) % 2 = 0 := by omega
  go_enter Tryz.func108, Tryz.ntmps108
  go_wp2
  clear hevI
  go_loopw [4, 5] (fun v i wr => ∃ (j : Nat) (pre : List UInt8), 2 * j ≤ p.length ∧ i = .int .i64 (2 * j : Nat) ∧ pre.length = j ∧ OwnB wr w.heap.size v pre ∧ Below w.heap.size w wr ∧ Hid (joinL p = (joinL (p.drop (2 * j))).map (pre ++ ·))) (fun _ i _ => p.length - (intOf i).toNat)
  case atStart => exact ⟨0, [], by omega, rfl, rfl, OwnB.nil w w.heap.size, Below.refl _ _, Lib.hid (by simp)⟩
  case round =>
   obtain ⟨j, pre, hj, rfl, hpre, hown, hb, hJ⟩ := hrel
   obtain ⟨A', c', rfl, hc1, hc2⟩ := cZ hown
   have hbs := hb.size
   have HO := Lib.hid hown
   have HB := Lib.hid hb
   have HP := Lib.hid hpre
   have hpl : pre.length ≤ j := by omega
   clear hown hb hpre
   by_cases h1 : 2 * j < p.length
   ·
    have h2 : 2 * j + 1 < p.length := by omega
    obtain ⟨b1, o1, rfl, hb1, c1⟩ := HA.out (by intro e; have := bG p; rw [e] at this; simp at this; omega)
    have hbw : b1 < wr.heap.size := by omega
    have r1 := (HB.out.cell (p := ⟨b1, o1 + 2 * j, none⟩) hb1).trans (c1 (2 * j) _ (jH p (2 * j) h1))
    have r2 := (HB.out.cell (p := ⟨b1, o1 + (2 * j + 1), none⟩) hb1).trans (c1 (2 * j + 1) _ (jH p (2 * j + 1) h2))
    have d1 := aZ (w := wr) (p := ⟨b1, o1 + 2 * j, none⟩) hbw r1
    have d2 := aZ (w := wr) (p := ⟨b1, o1 + (2 * j + 1), none⟩) hbw r2
    clear c1
    unfold bv at d1 d2 r1 r2
    have HS := Lib.hid (zn p (2 * j) h1 h2)
    have hx0 := jP p[2 * j]
    have hy0 := jP p[2 * j + 1]
    obtain ⟨x, hx⟩ : ∃ x, x = p[2 * j].toNat := ⟨_, rfl⟩
    obtain ⟨y, hy⟩ : ∃ y, y = p[2 * j + 1].toNat := ⟨_, rfl⟩
    rw [← hx] at d1 r1 hx0
    rw [← hy] at d2 r2 hy0
    have HX := Lib.hid hx
    have HY := Lib.hid hy
    clear hx hy
    by_cases hc : x ≤ 15 ∧ y ≤ 15
    ·
     obtain ⟨hcx, hcy⟩ := hc
     go_wp2
     refine dO 13 (by kernel_rfl) (by kernel_rfl) (by kernel_rfl) ?_
     simp only [Xp, Xu, mP, Xq]
     refine dS 12 (by kernel_rfl) ?_
     simp only [Xp, Xu, mP, Xq]
     repeat (go_big_quiet_step (fail))
     refine wpQuiet_nil ?_
     refine CJ 41 (fun v w => IsB w v [p[2 * j] <<< 4 ||| p[2 * j + 1]]) rfl rfl (by kernel_rfl) (by kernel_rfl) (sW _) (fun xw => ?_) ?_
     ·
      simp [go_sem, fZ]
      rw [O5 x y hcx hcy]
      refine ⟨ay _ _, Dz _ _ [p[2 * j] <<< 4 ||| p[2 * j + 1]] ?_ (by simp [maxLen])⟩
      simp [bvs, bv, O4 x y hcx hcy _ _ HX.out.symm HY.out.symm]
     refine iE (by kernel_rfl) ?_
     intro W hW
     replace hW := hW.gr
     have hbs2 := hW.size
     intro v22 h22
     obtain ⟨A22, c22, rfl, _, _, hrd⟩ := h22
     unfold pJ
     go_wp2_with (at_builtin; refine aV _ _ 38 bK _ _ _ _ _ _ _ (bvs [p[2 * j] <<< 4 ||| p[2 * j + 1]]) rfl rfl rfl rfl (nH HO.out hW) hrd (by simp [bvs]) (dR _) (by simp only [maxLen]; simp; omega) (by simp; omega) (by omega) ?_; intro A2 c2 w2 hown2 hg2 _)
     go_roundw
     case rel =>
      refine ⟨j + 1, pre ++ [p[2 * j] <<< 4 ||| p[2 * j + 1]], by omega, by go_num, by simp [HP.out], ?_, (HB.out.trans (hW.mono hbs)).grown hg2 (by omega) fun j hj => bI HO.out j hj, Lib.hid ?_⟩
      ·
       unfold OwnB
       rw [gZ, List.length_append]
       exact hown2
      ·
       rw [hJ.out, HS.out, if_pos ⟨by rw [← HX.out]; exact hcx, by rw [← HY.out]; exact hcy⟩, show 2 * (j + 1) = 2 * j + 2 by omega]
       cases joinL (p.drop (2 * j + 2)) <;> simp
     case measure => simp [intOf]; omega
    ·
     by_cases hcx : x ≤ 15
     ·
      have hcy : 15 < y := by omega
      have hno := Lib.hid hc
      clear hc
      go_wp2
      refine bodyPost_ret (results_tmp2 rfl _ _ _) rfl ?_
      refine ⟨_, rfl, HB.out, .slice none 0 0, ?_, ?_⟩
      · rw [hJ.out, HS.out, if_neg (by rw [← HX.out, ← HY.out]; exact hno.out)]; rfl
      · rw [hJ.out, HS.out, if_neg (by rw [← HX.out, ← HY.out]; exact hno.out)]; exact OwnB.nil _ _
     ·
      have hcx' : 15 < x := by omega
      have hno := Lib.hid hc
      clear hc hcx
      go_wp2
      refine bodyPost_ret (results_tmp2 rfl _ _ _) rfl ?_
      refine ⟨_, rfl, HB.out, .slice none 0 0, ?_, ?_⟩
      · rw [hJ.out, HS.out, if_neg (by rw [← HX.out, ← HY.out]; exact hno.out)]; rfl
      · rw [hJ.out, HS.out, if_neg (by rw [← HX.out, ← HY.out]; exact hno.out)]; exact OwnB.nil _ _
   ·
    have hd := Lib.hid (XP (Nat.le_of_not_lt h1))
    go_wp2
    refine bodyPost_ret (results_tmp2 rfl _ _ _) rfl ?_
    refine ⟨_, rfl, HB.out, .slice A' pre.length c', ?_, ?_⟩
    · rw [hJ.out, hd.out]; rfl
    · rw [hJ.out, hd.out]; simpa [joinL] using HO.out
end Go.Proofs.YtelbhdobjdnglaaGreat
