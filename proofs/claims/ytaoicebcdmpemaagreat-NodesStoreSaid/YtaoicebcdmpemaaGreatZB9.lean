/-
 Merged: lemmas of this claim.
 Conditions: none.
-/
import Derived.Test.YtaoicebcdmpemaaGreatZB8
import Derived.Test.YtaoicebcdmpemaaGreatZB0
namespace Go.Proofs.YtaoicebcdmpemaaGreat
set_option linter.unusedVariables false
set_option maxHeartbeats 2000000
open Go.RowKit Mono Rlp
namespace E
def bI (l : List Oper) (ix : List Nat) : List Oper := ix.filterMap (l[·]?)
def CH (N : Nat) (ops : Array Oper) (os1 : List Obj) (T : St → Prop) : List Oper → St → Prop
 | [], S => T S
 | o :: l, S => (∀ t, o.dst = some t → t < N) ∧ ((∃ inf : Inf, inf.yu = true ∧ OkI N ops S o inf ∧ CH N ops os1 T l (S.put o.dst inf.reg)) ∨
   ∃ os rest Φ, S.objs = os ++ (rest ++ os1) ∧ guardOf ops S o = some true ∧ lJ ops ⟨S.regs, rest ++ os1, S.facts⟩ o os Φ ∧ ∀ r os', Φ r os' → CH N ops os1 T l (St.put ⟨S.regs, os' ++ (rest ++ os1), S.facts⟩ o.dst r))
theorem CH.seg {N : Nat} {ops : Array Oper} {os1 : List Obj} {T : St → Prop} {l2 : List Oper} : ∀ (l1 : List Oper) (S : St) (E : List Fr), EM N ops (fun S' _ => CH N ops os1 T l2 S') l1 S E → CH N ops os1 T (l1 ++ l2) S
 | [], S, E, h => h
 | o :: l1, S, E, ⟨inf, h0, h1, h2, h3, h4⟩ => ⟨fun t ht => by
   rw [ht] at h1
   simp only [dL, LM, decide_eq_true_eq] at h1
   exact h1.1, .inl ⟨inf, h0, h3, CH.seg l1 _ _ h4⟩⟩
theorem CH.cut {N : Nat} {ops : Array Oper} {os1 : List Obj} {T : St → Prop} {l : List Oper} {S : St} (k : Nat) (h : EM N ops (fun S' _ => CH N ops os1 T (l.drop k) S') (l.take k) S []) : CH N ops os1 T l S := by
 have := CH.seg _ _ _ h
 rwa [LK] at this
theorem CH.nil {N : Nat} {ops : Array Oper} {os1 : List Obj} {T : St → Prop} {S : St} (h : T S) : CH N ops os1 T [] S := h
theorem CH.mut {N : Nat} {ops : Array Oper} {os1 os rest : List Obj} {T : St → Prop} {rs : List (Tmp × R)} {fs : List (Value × D)} {Φ : R → List Obj → Prop} {o : Oper} {l : List Oper} (hd : Fa N o.dst = true) (hg : guardOf ops ⟨rs, os ++ (rest ++ os1), fs⟩ o = some true) (hO : lJ ops ⟨rs, rest ++ os1, fs⟩ o os Φ)
  (k : ∀ r os', Φ r os' → CH N ops os1 T l (St.put ⟨rs, os' ++ (rest ++ os1), fs⟩ o.dst r)) : CH N ops os1 T (o :: l) ⟨rs, os ++ (rest ++ os1), fs⟩ := ⟨Ig hd, .inr ⟨os, rest, Φ, rfl, hg, hO, k⟩⟩
def oU (l : List Oper) (n : Nat) (free chain : List Nat) : Bool :=
 (List.range n).all (fun k => free.contains k != chain.contains k) && free.all (fun k => decide (k < n)) && chain.all (fun k => decide (k < n)) && decide (n ≤ l.length) &&
 (List.range free.length).all (fun i => (List.range i).all fun j => decide (free.getD j 0 < free.getD i 0)) && (List.range chain.length).all (fun i => (List.range i).all fun j => decide (chain.getD j 0 < chain.getD i 0)) &&
 (List.range chain.length).all (fun i => i == 0 || match l[chain.getD i 0]? with
  | some o => o.after.toList.any fun e => Region.binds .any e && e.on == chain.getD (i - 1) 0
  | none => false) &&
 (List.range n).all (fun k => match l[k]? with
  | some o => (o.looksAt l.toArray).all (fun t => (List.range n).all fun j => decide (j < k) || (l[j]?.bind (·.dst)) != some t) &&
   (match o.dst with
    | some t => (List.range k).all fun j => (l[j]?.bind (·.dst)) != some t
    | none => true)
  | none => false) &&
 free.all (fun k => match l[k]? with
  | some o => (o.looksAt l.toArray).all fun t => chain.all fun j => (l[j]?.bind (·.dst)) != some t
  | none => true)
structure F7 (l : List Oper) (n : Nat) (free chain : List Nat) : Prop where
 part : ∀ k, k < n → (k ∈ free ∧ k ∉ chain) ∨ (k ∉ free ∧ k ∈ chain)
 flt : ∀ k ∈ free, k < n
 clt : ∀ k ∈ chain, k < n
 le : n ≤ l.length
 fup : ∀ i j : Nat, j < i → i < free.length → free.getD j 0 < free.getD i 0
 cup : ∀ i j : Nat, j < i → i < chain.length → chain.getD j 0 < chain.getD i 0
 wait : ∀ (i : Nat) (o : Oper), 0 < i → i < chain.length → l[chain.getD i 0]? = some o → ∃ e ∈ o.after, Region.binds .any e = true ∧ e.on = chain.getD (i - 1) 0
 back : ∀ (k j : Nat) (o oj : Oper) (t : Tmp), k < n → l[k]? = some o → t ∈ o.looksAt l.toArray → k ≤ j → j < n → l[j]? = some oj → oj.dst ≠ some t
 free : ∀ (k j : Nat) (o oj : Oper) (t : Tmp), k ∈ free → l[k]? = some o → t ∈ o.looksAt l.toArray → j ∈ chain → l[j]? = some oj → oj.dst ≠ some t
 once : ∀ (k j : Nat) (o oj : Oper) (t : Tmp), k < n → l[k]? = some o → o.dst = some t → j < k → l[j]? = some oj → oj.dst ≠ some t
theorem xJ {l : List Oper} {n : Nat} {free chain : List Nat} (h : oU l n free chain = true) : F7 l n free chain := by
 unfold oU at h
 simp only [LM, KQ, Na, decide_eq_true_eq] at h
 obtain ⟨⟨⟨⟨⟨⟨⟨⟨h1, h2⟩, h3⟩, h4⟩, h5⟩, h6⟩, h7⟩, h8⟩, h9⟩ := h
 refine ⟨fun k hk => ?_, h2, h3, h4, fun i j hj hi => h5 i hi j hj, fun i j hj hi => h6 i hi j hj, fun i o hi hl ho => ?_, fun k j o oj t hk ho ht hkj hj hoj e => ?_, fun k j o oj t hk ho ht hj hoj e => ?_, fun k j o oj t hk ho ht hj hoj e => ?_⟩
 ·
  have := h1 k hk
  by_cases e1 : k ∈ free <;> by_cases e2 : k ∈ chain <;> simp [e1, e2] at this ⊢
 ·
  have := h7 i hl
  rw [ho] at this
  simp only [Bool.or_eq_true, beq_iff_eq] at this
  rcases this with h | h
  · omega
  ·
   obtain ⟨e, he, hb⟩ := List.any_eq_true.1 h
   simp only [LM, beq_iff_eq] at hb
   exact ⟨e, by simpa using he, hb.1, hb.2⟩
 ·
  have := h8 k hk
  rw [ho] at this
  simp only [LM, KQ, Na] at this
  have := this.1 t ht j hj
  rw [hoj] at this
  simp [e] at this
  omega
 ·
  have := h9 k hk
  rw [ho] at this
  simp only [KQ] at this
  have := this t ht j hj
  rw [hoj] at this
  simp [e] at this
 ·
  have := h8 k hk
  rw [ho] at this
  simp only [LM] at this
  have := this.2
  rw [ht] at this
  simp only [KQ, Na] at this
  have := this j hj
  rw [hoj] at this
  simp [e] at this
theorem kZ {l : List Oper} : ∀ (ix : List Nat), (∀ k ∈ ix, k < l.length) → (bI l ix).length = ix.length ∧ ∀ p : Nat, p < ix.length → (bI l ix)[p]? = l[ix.getD p 0]?
 | [], _ => ⟨rfl, fun p h => absurd h (by simp)⟩
 | k :: ix, h => by
  have hk := h k (by simp)
  obtain ⟨h1, h2⟩ := kZ ix fun j hj => h j (by simp [hj])
  have e : bI l (k :: ix) = l[k] :: bI l ix := by
   unfold bI
   rw [Lp]
   simp [hk]
  rw [e]
  refine ⟨by simp [h1], fun p hp => ?_⟩
  cases p with
  | zero => simp [hk]
  | succ p => simpa using h2 p (by simpa using hp)
theorem tH {V V' : VP} {r : Result Next} (h : dn Tryz.prog V r) (k : ∀ v w', V v w' → V' v w') : dn Tryz.prog V' r := by
 cases r with
 | ok x w' =>
  cases x <;> simp only [dn] at h ⊢
  case value v => exact k _ _ h
  case skip => exact k _ _ h
  case enter g args => exact h.mono fun e w'' ⟨v, he, hv⟩ => ⟨v, he, k _ _ hv⟩
 | halt x w' => simp only [dn] at h
theorem kY : ∀ (l : List Oper) (infs : List Inf) (k : Nat) (S : St) (t : Tmp) (r : R), look (bQ S l infs k).regs t = some r →
  (∃ q o i, q < k ∧ l[q]? = some o ∧ infs[q]? = some i ∧ o.dst = some t ∧ r = i.reg) ∨ look S.regs t = some r
 | _, _, 0, S, t, r, h => .inr (by simpa [bQ] using h)
 | [], infs, k + 1, S, t, r, h => .inr (by simpa [bQ] using h)
 | o :: l, [], k + 1, S, t, r, h => .inr (by simpa [bQ] using h)
 | o :: l, i :: infs, k + 1, S, t, r, h => by
  rw [bQ] at h
  rcases kY l infs k _ t r h with ⟨q, oq, iq, h1, h2, h3, h4, h5⟩ | h1
  · exact .inl ⟨q + 1, oq, iq, by omega, by simpa using h2, by simpa using h3, h4, h5⟩
  ·
   cases hd : o.dst with
   | none => rw [hd] at h1; exact .inr h1
   | some d =>
    rw [hd] at h1
    simp only [St.put, look] at h1
    split at h1
    ·
     rename_i e
     cases h1
     exact .inl ⟨0, o, i, by omega, rfl, rfl, by rw [hd, e], rfl⟩
    · exact .inr h1
section
variable {N : Nat} {X : Cx N} {S : St} {a : Act} {Q : Exit → Act → World → Prop} {l : List Oper}
structure Real (X : Cx N) (l : List Oper) (n : Nat) (ch : List Nat) (a : Act) (RF : List (Tmp × R)) (os1 : List Obj) (fs : List (Value × D)) (S : St) (L : Nat → Prop) (vs : Nat → Value) (u : World) : Prop where
 mem : Mem X S.objs S.facts u
 tail : ∃ os, S.objs = os ++ os1
 facts : S.facts = fs
 regs : ∀ t r, look S.regs t = some r → (∀ j o, j < n → l[j]? = some o → o.dst = some t → L j → aC (X.ok S.objs u) u r (vs j)) ∧ ((∀ j o, j < n → l[j]? = some o → o.dst ≠ some t) → aC (X.ok S.objs u) u r (a.tmps.getD t undef))
 free : ∀ t r, look RF t = some r → (∀ j o, j ∈ ch → l[j]? = some o → o.dst ≠ some t) → look S.regs t = some r
theorem EC.mD {id : Nat} (n : Nat) (free chain : List Nat) (os0 os1 : List Obj) (hB : monoB l.toArray n N = true) (hC : oU l n free chain = true) (hS : S.objs = os0 ++ os1)
  (h : EM N l.toArray (fun S' _ => CH N l.toArray os1 (fun S'' => EL X l.toArray Q (l.drop n) S'') (bI l chain) ⟨S'.regs, os0 ++ os1, S.facts⟩) (bI l free) ⟨S.regs, os1, S.facts⟩ []) : EC X Q (.region id l.toArray true) S := by
 constructor
 intro a ws ha
 have C := xJ hC
 obtain ⟨infs, hlen, hok, hT, hnp⟩ := jC _ _ _ h
 have hfree := kZ (l := l) free fun k hk => KA (C.flt k hk) C.le
 have hchain := kZ (l := l) chain fun k hk => KA (C.clt k hk) C.le
 rw [hfree.1] at hlen hT
 have hdst : ∀ k o, l[k]? = some o → aG l.toArray k = o.dst := fun k o ho => by unfold aG; simp [ho]
 have hsl : ∀ k o L vs (b : Act) t, k < n → l[k]? = some o → t ∈ o.looksAt l.toArray → jr l.toArray L vs a b k t → (∃ j oj, j < n ∧ l[j]? = some oj ∧ oj.dst = some t ∧ L j ∧ b.tmps.getD t undef = vs j) ∨ ((∀ j o, j < n → l[j]? = some o → o.dst ≠ some t) ∧ b.tmps.getD t undef = a.tmps.getD t undef) := fun k o L vs b t hk ho ht hs => by
  rcases hs with ⟨j, h1, h2, h3, h4, h5⟩ | ⟨h1, h2⟩
  ·
   have hj : j < l.length := by have := C.le; omega
   exact .inl ⟨j, l[j], by omega, by simp, by rw [← hdst j l[j] (by simp)]; exact h2, h4, h5⟩
  ·
   refine .inr ⟨fun j oj hj hoj e => ?_, h2⟩
   rcases KP j k with h3 | h3
   · exact h1 j h3 (by rw [hdst j oj hoj]; exact e)
   · exact C.back k j o oj t hk ho ht h3 hj hoj e
 have huniq : ∀ j j' o o' t, j < n → j' < n → l[j]? = some o → l[j']? = some o' → o.dst = some t → o'.dst = some t → j = j' := fun j j' o o' t hj hj' ho ho' hd hd' => by
  rcases MX j j' with h | h | h
  · exact absurd hd (C.once j' j o' o t hj' ho' hd' h ho)
  · exact h
  · exact absurd hd' (C.once j j' o o' t hj ho hd h ho')
 let RF := (bQ ⟨S.regs, os1, S.facts⟩ (bI l free) infs free.length).regs
 have hRF : ∀ t r, look RF t = some r → (∃ p o i, p < free.length ∧ l[free.getD p 0]? = some o ∧ infs[p]? = some i ∧ o.dst = some t ∧ r = i.reg) ∨ look S.regs t = some r := fun t r hr => by
  rcases kY _ _ _ _ _ _ hr with ⟨q, oq, iq, h1, h2, h3, h4, h5⟩ | h1
  · exact .inl ⟨q, oq, iq, h1, by rw [← hfree.2 q h1]; exact h2, h3, h4, h5⟩
  · exact .inr h1
 have hfl : ∀ p, p < free.length → free.getD p 0 < n ∧ free.getD p 0 ∈ free := fun p hp => by
  have : free.getD p 0 ∈ free := by
   rw [LZ, List.getElem?_eq_getElem hp]
   exact LH hp
  exact ⟨C.flt _ this, this⟩
 have hcl : ∀ p, p < chain.length → chain.getD p 0 < n ∧ chain.getD p 0 ∈ chain := fun p hp => by
  have : chain.getD p 0 ∈ chain := by
   rw [LZ, List.getElem?_eq_getElem hp]
   exact LH hp
  exact ⟨C.clt _ this, this⟩
 have hput : ∀ p o i, p < free.length → l[free.getD p 0]? = some o → infs[p]? = some i → ∀ t, o.dst = some t → look RF t = some i.reg := fun p o i hp ho hi t ht => by
  have hlk := (bZ (bI l free) infs free.length ⟨S.regs, os1, S.facts⟩ t (by rw [hlen, hfree.1]) (by rw [hfree.1]; exact Nat.le_refl _)).1
  refine hlk p o i hp (by rw [hfree.2 p hp]; exact ho) hi ht fun m om h1 h2 h3 e => ?_
  rw [hfree.2 m h2] at h3
  have := huniq _ _ _ _ t (hfl p hp).1 (hfl m h2).1 ho h3 ht e
  have := C.fup m p h1 h2
  omega
 have hmono : ∀ p o t r, p < free.length → l[free.getD p 0]? = some o → t ∈ o.looksAt l.toArray → look (bQ ⟨S.regs, os1, S.facts⟩ (bI l free) infs p).regs t = some r → look RF t = some r := fun p o t r hp ho ht hr => by
  rcases kY _ _ _ _ _ _ hr with ⟨q, oq, iq, h1, h2, h3, h4, h5⟩ | h1
  ·
   rw [h5]
   have hq : q < free.length := by omega
   exact hput q oq iq hq (by rw [← hfree.2 q hq]; exact h2) h3 t h4
  ·
   have hlk := (bZ (bI l free) infs free.length ⟨S.regs, os1, S.facts⟩ t (by rw [hlen, hfree.1]) (by rw [hfree.1]; exact Nat.le_refl _)).2
   have hpre := (bZ (bI l free) infs p ⟨S.regs, os1, S.facts⟩ t (by rw [hlen, hfree.1]) (by rw [hfree.1]; exact Nat.le_of_lt hp))
   by_cases hex : ∃ m om, m < p ∧ (bI l free)[m]? = some om ∧ om.dst = some t
   ·
    -- what was put ahead stays
    obtain ⟨m, om, g1, g2, g3⟩ := hex
    have hm : m < free.length := by omega
    obtain ⟨inf, hi⟩ : ∃ inf, infs[m]? = some inf := ⟨infs[m]'(by omega), by simp⟩
    have e1 := hpre.1 m om inf g1 g2 hi g3 fun m' om' h1 h2 h3 e => by
     rw [hfree.2 m' (by omega)] at h3
     rw [hfree.2 m hm] at g2
     have := huniq _ _ _ _ t (hfl m hm).1 (hfl m' (by omega)).1 g2 h3 g3 e
     have := C.fup m' m h1 (by omega)
     omega
    rw [hr] at e1
    cases e1
    exact hput m om inf hm (by rw [← hfree.2 m hm]; exact g2) hi t g3
   have := hlk fun m om h2 h3 e => by
    rcases KP m p with h4 | h4
    · exact hex ⟨m, om, h4, h3, e⟩
    ·
     rw [hfree.2 m h2] at h3
     have hle : free.getD p 0 ≤ free.getD m 0 := by
      rcases KP p m with h5 | h5
      · exact Nat.le_of_lt (C.fup m p h5 h2)
      · rw [show m = p by omega]; exact Nat.le_refl _
     exact C.back _ _ o om t (hfl p hp).1 ho ht hle (hfl m h2).1 h3 e
   show look (bQ ⟨S.regs, os1, S.facts⟩ (bI l free) infs free.length).regs t = some r
   rw [this]
   exact h1
 have hT' : CH N l.toArray os1 (fun S'' => EL X l.toArray Q (l.drop n) S'') (bI l chain) ⟨RF, os0 ++ os1, S.facts⟩ := hT
 clear hT h
 refine iO n (by kernel_rfl) (by rw [ha.size]; exact hB) (fun L vs u => ∃ i Si, i ≤ chain.length ∧ (∀ p, p < i → L (chain.getD p 0)) ∧ (∀ p, i ≤ p → p < chain.length → ¬ L (chain.getD p 0)) ∧ CH N l.toArray os1 (fun S'' => EL X l.toArray Q (l.drop n) S'') ((bI l chain).drop i) Si ∧ Real X l n chain a RF os1 S.facts Si L vs u) ?_ ?_ ?_ ?_
 ·
  rintro L L' vs vs' w hL hvs ⟨i, Si, h1, h2, h3, h4, h5⟩
  obtain rfl : L = L' := funext fun j => propext (hL j)
  refine ⟨i, Si, h1, h2, h3, h4, h5.mem, h5.tail, h5.facts, fun t r hr => ?_, h5.free⟩
  obtain ⟨g1, g2⟩ := h5.regs t r hr
  exact ⟨fun j o hj ho hd hL => by rw [← hvs j hL]; exact g1 j o hj ho hd hL, g2⟩
 ·
  have had : At X S a ws.drew := ha.gr (by exact ⟨rfl, rfl, rfl, Nat.le_refl _, fun _ _ => rfl⟩)
  refine ⟨0, ⟨RF, os0 ++ os1, S.facts⟩, Lm _, fun p hp => absurd hp (by omega), fun _ _ _ h => h.elim, by rw [J7]; exact hT', ?_, ⟨os0, rfl⟩, rfl, fun t r hr => ⟨fun _ _ _ _ _ h => h.elim, fun hno => ?_⟩, fun t r hr _ => hr⟩
  · rw [← hS]; exact had.mem
  ·
   rcases hRF t r hr with ⟨p, o, i, h1, h2, h3, h4, h5⟩ | h1
   · exact absurd h4 (hno _ o (hfl p h1).1 h2)
   ·
    rw [← hS]
    exact had.regs t r h1
 ·
  intro k o L vs b u hk ho hL hLk ⟨i, Si, h1, h2, h3, h4, h5⟩ hslot hwait
  rcases C.part k hk with ⟨hkf, hkc⟩ | ⟨hkf, hkc⟩
  ·
   -- a free operation
   obtain ⟨p, hp, rfl⟩ : ∃ p, p < free.length ∧ free.getD p 0 = k := by
    obtain ⟨p, hp⟩ := List.getElem?_of_mem hkf
    exact ⟨p, (Kw.1 hp).1, by rw [LZ, hp]; rfl⟩
   obtain ⟨inf, hi⟩ : ∃ inf, infs[p]? = some inf := ⟨infs[p]'(by omega), by simp⟩
   obtain ⟨hO, _, _⟩ := hok p o inf (by rw [hfree.2 p hp]; exact ho) hi
   have hkn : Kn X.mine (X.ok Si.objs u) (fun t => t ∈ o.looksAt l.toArray) (bQ ⟨S.regs, os1, S.facts⟩ (bI l free) infs p) b u := by
    obtain ⟨os, hos⟩ := h5.tail
    refine ⟨fun q hq => ?_, fun f hf => ?_, fun b hb => hb.2.1, fun t r ht hr => ?_⟩
    ·
     rw [(aQ _ _ _ _).1] at hq
     exact h5.mem.at_ q (by rw [hos]; exact KL _ hq)
    ·
     rw [(aQ _ _ _ _).2] at hf
     exact h5.mem.fact f (by rw [h5.facts]; exact hf)
    ·
     obtain ⟨g1, g2⟩ := h5.regs t r (h5.free t r (hmono p o t r hp ho ht hr) fun j oj hj hoj => C.free _ j o oj t hkf ho ht hj hoj)
     rcases hsl _ o L vs b t hk ho ht (hslot t ht) with ⟨j, oj, e1, e2, e3, e4, e5⟩ | ⟨e1, e2⟩
     · rw [e5]; exact g1 j oj e1 e2 e3 e4
     · rw [e2]; exact g2 e1
   have hnext : ∀ v u', Gr u u' → aC (X.ok Si.objs u') u' inf.reg v → ∃ i Si, i ≤ chain.length ∧ (∀ q, q < i → (chain.getD q 0 = free.getD p 0 ∨ L (chain.getD q 0))) ∧ (∀ q, i ≤ q → q < chain.length → ¬ (chain.getD q 0 = free.getD p 0 ∨ L (chain.getD q 0))) ∧ CH N l.toArray os1 (fun S'' => EL X l.toArray Q (l.drop n) S'') ((bI l chain).drop i) Si ∧ Real X l n chain a RF os1 S.facts Si (fun j => j = free.getD p 0 ∨ L j) (fun j => if j = free.getD p 0 then v else vs j) u' := fun v u' hg hv => by
    refine ⟨i, Si, h1, fun q hq => .inr (h2 q hq), fun q hq hq' e => ?_, h4, h5.mem.grown hg, h5.tail, h5.facts, fun t r hr => ?_, h5.free⟩
    ·
     rcases e with e | e
     · exact hkc (by rw [← e]; exact (hcl q hq').2)
     · exact h3 q hq hq' e
    ·
     obtain ⟨g1, g2⟩ := h5.regs t r hr
     refine ⟨fun j oj hj hoj hd hLj => ?_, fun hno => nO hg (g2 hno)⟩
     by_cases e : j = free.getD p 0
     ·
      rw [if_pos e]
      subst e
      obtain rfl : oj = o := Lu (hoj.symm.trans ho)
      have := h5.free t _ (hput p oj inf hp ho hi t hd) fun j' oj' hj' hoj' e' => by
       have := huniq _ _ _ _ t hk (C.clt j' hj') hoj hoj' hd e'
       exact hkc (by rw [this]; exact hj')
      rw [hr] at this
      cases this
      exact hv
     ·
      rw [if_neg e]
      exact nO hg (g1 j oj hj hoj hd (hLj.resolve_left e))
   cases inf with
   | still r =>
    obtain ⟨hg, hSt⟩ := hO
    refine ⟨fun _ => ?_, fun hw => by rw [aU hkn hg] at hw; cases hw⟩
    obtain ⟨v, e1, e2⟩ := hSt _ _ b u hkn
    rw [e1]
    exact hnext v u (Gr.refl u) e2
   | grow r =>
    obtain ⟨hg, hSt⟩ := hO
    refine ⟨fun _ => dD (hSt _ _ b u hkn) (fun v w' hgr hv => ?_), fun hw => by rw [aU hkn hg] at hw; cases hw⟩
    obtain ⟨r', rfl, hv⟩ := hv
    exact hnext v w' hgr (hv.mono (fun b hb => mV h5.mem hgr hb) fun _ _ => rfl)
   | put p q => cases hnp _ _ hi
   | skip =>
    refine ⟨fun hw => (by rw [aU hkn hO] at hw; cases hw), fun _ => ?_⟩
    exact hnext undef u (Gr.refl u) ⟨[], rfl, rfl⟩
   | new T d =>
    obtain ⟨hg, hSt⟩ := hO
    refine ⟨fun _ => ?_, fun hw => by rw [aU hkn hg] at hw; cases hw⟩
    obtain ⟨cs, e1, e2⟩ := hSt _ _ b u hkn
    rw [e1]
    exact hnext _ _ (aH u _) trivial
  ·
   -- the next of the chain
   obtain ⟨m, hm, rfl⟩ : ∃ m, m < chain.length ∧ chain.getD m 0 = k := by
    obtain ⟨p, hp⟩ := List.getElem?_of_mem hkc
    exact ⟨p, (Kw.1 hp).1, by rw [LZ, hp]; rfl⟩
   have hmi : m = i := by
    rcases MX m i with e | e | e
    · exact absurd (h2 m e) hLk
    · exact e
    ·
     exfalso
     obtain ⟨ed, he, hb, hon⟩ := C.wait m o (by omega) hm ho
     have := hwait ed he hb
     rw [hon] at this
     exact h3 (m - 1) (by omega) (by omega) this
   subst hmi
   have hdrop : (bI l chain).drop m = o :: (bI l chain).drop (m + 1) := by
    have hml : m < (bI l chain).length := by rw [hchain.1]; exact hm
    rw [KW hml]
    have := hchain.2 m hm
    rw [ho, List.getElem?_eq_getElem hml] at this
    rw [Lu this]
   rw [hdrop] at h4
   obtain ⟨hdN, h4⟩ := h4
   have hkreg : ∀ t r, t ∈ o.looksAt l.toArray → look Si.regs t = some r → aC (X.ok Si.objs u) u r (b.tmps.getD t undef) := fun t r ht hr => by
    obtain ⟨g1, g2⟩ := h5.regs t r hr
    rcases hsl _ o L vs b t hk ho ht (hslot t ht) with ⟨j, oj, e1, e2, e3, e4, e5⟩ | ⟨e1, e2⟩
    · rw [e5]; exact g1 j oj e1 e2 e3 e4
    · rw [e2]; exact g2 e1
   have hkn : Kn X.mine (X.ok Si.objs u) (fun t => t ∈ o.looksAt l.toArray) Si b u := ⟨h5.mem.at_, h5.mem.fact, fun b hb => hb.2.1, fun t r ht hr => hkreg t r ht hr⟩
   have hnext : ∀ v u' objs' r', Mem X objs' Si.facts u' → (∃ os, objs' = os ++ os1) → (∀ b, X.ok Si.objs u b → X.ok objs' u' b) → (∀ p : Addr, X.ok Si.objs u p.block → u'.cell? p = u.cell? p) → aC (X.ok objs' u') u' r' v →
     CH N l.toArray os1 (fun S'' => EL X l.toArray Q (l.drop n) S'') ((bI l chain).drop (m + 1)) (St.put ⟨Si.regs, objs', Si.facts⟩ o.dst r') →
     ∃ i Si, i ≤ chain.length ∧ (∀ q, q < i → (chain.getD q 0 = chain.getD m 0 ∨ L (chain.getD q 0))) ∧ (∀ q, i ≤ q → q < chain.length → ¬ (chain.getD q 0 = chain.getD m 0 ∨ L (chain.getD q 0))) ∧ CH N l.toArray os1 (fun S'' => EL X l.toArray Q (l.drop n) S'') ((bI l chain).drop i) Si ∧ Real X l n chain a RF os1 S.facts Si (fun j => j = chain.getD m 0 ∨ L j) (fun j => if j = chain.getD m 0 then v else vs j) u' := fun v u' objs' r' hmem htail hmok hcell hv hCH => by
    have hobj : (St.put ⟨Si.regs, objs', Si.facts⟩ o.dst r').objs = objs' := by cases o.dst <;> rfl
    have hfac : (St.put ⟨Si.regs, objs', Si.facts⟩ o.dst r').facts = Si.facts := by cases o.dst <;> rfl
    refine ⟨m + 1, _, by omega, fun q hq => ?_, fun q hq hq' e => ?_, hCH, by rw [hobj, hfac]; exact hmem, by rw [hobj]; exact htail, by rw [hfac]; exact h5.facts, fun t r hr => ?_, fun t r hr hno => ?_⟩
    ·
     rcases KP q m with e | e
     · exact .inr (h2 q e)
     · exact .inl (by rw [show q = m by omega])
    ·
     rcases e with e | e
     ·
      have := C.cup q m (by omega) hq'
      omega
     · exact h3 q (by omega) hq' e
    ·
     rw [hobj]
     have hcase : (o.dst = some t ∧ r = r') ∨ (o.dst ≠ some t ∧ look Si.regs t = some r) := by
      cases hd : o.dst with
      | none => rw [hd] at hr; exact .inr ⟨(fun e => by cases e), hr⟩
      | some d =>
       rw [hd] at hr
       simp only [St.put, look] at hr
       split at hr
       ·
        rename_i e
        cases hr
        exact .inl ⟨by rw [e], rfl⟩
       ·
        rename_i e
        exact .inr ⟨fun e' => e (by injection e'), hr⟩
     rcases hcase with ⟨hd, rfl⟩ | ⟨hd, hr⟩
     ·
      refine ⟨fun j oj hj hoj hd' _ => ?_, fun hno => absurd hd (hno _ o hk ho)⟩
      rw [if_pos (huniq _ _ _ _ t hj hk hoj ho hd' hd)]
      exact hv
     ·
      obtain ⟨g1, g2⟩ := h5.regs t r hr
      refine ⟨fun j oj hj hoj hd' hLj => ?_, fun hno => (g2 hno).mono hmok hcell⟩
      have hne : j ≠ chain.getD m 0 := fun e => by
       subst e
       obtain rfl : oj = o := Lu (hoj.symm.trans ho)
       exact hd hd'
      rw [if_neg hne]
      exact (g1 j oj hj hoj hd' (hLj.resolve_left hne)).mono hmok hcell
    ·
     cases hd : o.dst with
     | none => exact h5.free t r hr hno
     | some d =>
      simp only [St.put, look]
      rw [if_neg fun e => hno _ o hkc ho (by rw [hd, e])]
      exact h5.free t r hr hno
   rcases h4 with ⟨inf, hnp', hO, hCH⟩ | ⟨os, rest, Φ, hos, hg, hO, hCH⟩
   ·
    have hgr : ∀ v u', Gr u u' → aC (X.ok Si.objs u') u' inf.reg v → _ := fun v u' hg hv => hnext v u' Si.objs inf.reg (h5.mem.grown hg) h5.tail (fun b hb => um hg hb) (fun p hp => mQ hg p hp) hv hCH
    cases inf with
    | still r =>
     obtain ⟨hg, hSt⟩ := hO
     refine ⟨fun _ => ?_, fun hw => by rw [aU hkn hg] at hw; cases hw⟩
     obtain ⟨v, e1, e2⟩ := hSt _ _ b u hkn
     rw [e1]
     exact hgr v u (Gr.refl u) e2
    | grow r =>
     obtain ⟨hg, hSt⟩ := hO
     refine ⟨fun _ => dD (hSt _ _ b u hkn) (fun v w' hgr' hv => ?_), fun hw => by rw [aU hkn hg] at hw; cases hw⟩
     obtain ⟨r', rfl, hv⟩ := hv
     exact hgr v w' hgr' (hv.mono (fun b hb => mV h5.mem hgr' hb) fun _ _ => rfl)
    | put p q => cases hnp'
    | skip =>
     refine ⟨fun hw => (by rw [aU hkn hO] at hw; cases hw), fun _ => ?_⟩
     exact hgr undef u (Gr.refl u) ⟨[], rfl, rfl⟩
    | new T d =>
     obtain ⟨hg, hSt⟩ := hO
     refine ⟨fun _ => ?_, fun hw => by rw [aU hkn hg] at hw; cases hw⟩
     obtain ⟨cs, e1, e2⟩ := hSt _ _ b u hkn
     rw [e1]
     exact hgr _ _ (aH u _) trivial
   ·
    obtain ⟨rs, objs, fs⟩ := Si
    dsimp only at hos
    subst hos
    refine ⟨fun _ => ?_, fun hw => by rw [aU hkn hg] at hw; cases hw⟩
    have := hO.go X.mine (X.ok (os ++ (rest ++ os1)) u) b u ⟨fun q hq => hkn.objs q (KL _ hq), hkn.facts, hkn.lt, hkn.regs⟩ h5.mem.own
    refine tH this fun v u' ⟨r, os', e1, e2, e3⟩ => ?_
    exact hnext v u' (os' ++ (rest ++ os1)) r (h5.mem.turned e2) ⟨os' ++ rest, by rw [KY]⟩ (fun b hb => jR h5.mem e2 hb) (turned_cell h5.mem e2) (e3.mono (fun b hb => jw h5.mem e2 hb) fun _ _ => rfl) (hCH r os' e1)
 ·
  intro vs u b ⟨i, Si, h1, h2, h3, h4, h5⟩ hs hd hslot
  have hi : i = chain.length := by
   rcases KP i chain.length with e | e
   · exact absurd (hcl i e).1 (h3 i (Nat.le_refl _) e)
   · omega
  subst hi
  have hnil : (bI l chain).drop chain.length = [] := LJ (by rw [hchain.1]; exact Nat.le_refl _)
  rw [hnil] at h4
  have h4' : EL X l.toArray Q (l.drop n) Si := h4
  refine h4'.go b u ⟨h5.mem, fun t r hr => ?_, hs.trans ha.size, hd.trans ha.defers⟩
  obtain ⟨g1, g2⟩ := h5.regs t r hr
  rcases hslot t with ⟨j, e1, e2, e3, e4, e5⟩ | ⟨e1, e2⟩
  ·
   rw [e5]
   have hj : j < l.length := by have := C.le; omega
   exact g1 j l[j] e1 (by simp) (by rw [← hdst j l[j] (by simp)]; exact e2) e4
  ·
   rw [e2]
   exact g2 fun j o hj ho e => e1 j hj (by rw [hdst j o ho]; exact e)
end
end E
end Go.Proofs.YtaoicebcdmpemaaGreat
