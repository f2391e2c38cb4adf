/-
 Merged: lemmas of this claim.
 Conditions: none.
-/
import Derived.Test.YtelbhdobjdnglaaGreatZT8
import Derived.Laws.Slices
import Derived.Test.YtelbhdobjdnglaaGreatZT0
namespace Go.Proofs.YtelbhdobjdnglaaGreat
set_option linter.unusedVariables false
set_option maxHeartbeats 2000000
open Go.RowKit Mono Rlp
namespace E
def bJ (l : List Oper) (ix : List Nat) : List Oper := ix.filterMap (l[·]?)
def CH (N : Nat) (ops : Array Oper) (os1 : List Obj) (T : St → Prop) : List Oper → St → Prop
 | [], S => T S
 | o :: l, S => (∀ t, o.dst = some t → t < N) ∧ ((∃ inf : Inf, inf.JL = true ∧ OkI N ops S o inf ∧ CH N ops os1 T l (S.put o.dst inf.reg)) ∨
   ∃ os rest Φ, S.objs = os ++ (rest ++ os1) ∧ guardOf ops S o = some true ∧ Ec ops ⟨S.regs, rest ++ os1, S.facts⟩ o os Φ ∧ ∀ r os', Φ r os' → CH N ops os1 T l (St.put ⟨S.regs, os' ++ (rest ++ os1), S.facts⟩ o.dst r))
theorem CH.seg {N : Nat} {ops : Array Oper} {os1 : List Obj} {T : St → Prop} {l2 : List Oper} : ∀ (l1 : List Oper) (S : St) (E : List Fr), EM N ops (fun S' _ => CH N ops os1 T l2 S') l1 S E → CH N ops os1 T (l1 ++ l2) S
 | [], S, E, h => h
 | o :: l1, S, E, ⟨inf, h0, h1, h2, h3, h4⟩ => ⟨fun t ht => by
   rw [ht] at h1
   simp only [fF, YB, decide_eq_true_eq] at h1
   exact h1.1, .inl ⟨inf, h0, h3, CH.seg l1 _ _ h4⟩⟩
theorem CH.cut {N : Nat} {ops : Array Oper} {os1 : List Obj} {T : St → Prop} {l : List Oper} {S : St} (k : Nat) (h : EM N ops (fun S' _ => CH N ops os1 T (l.drop k) S') (l.take k) S []) : CH N ops os1 T l S := by
 have := CH.seg _ _ _ h
 rwa [X7] at this
theorem CH.nil {N : Nat} {ops : Array Oper} {os1 : List Obj} {T : St → Prop} {S : St} (h : T S) : CH N ops os1 T [] S := h
theorem CH.mut {N : Nat} {ops : Array Oper} {os1 os rest : List Obj} {T : St → Prop} {rs : List (Tmp × R)} {fs : List (Value × D)} {Φ : R → List Obj → Prop} {o : Oper} {l : List Oper} (hd : Tf N o.dst = true) (hg : guardOf ops ⟨rs, os ++ (rest ++ os1), fs⟩ o = some true) (hO : Ec ops ⟨rs, rest ++ os1, fs⟩ o os Φ)
  (k : ∀ r os', Φ r os' → CH N ops os1 T l (St.put ⟨rs, os' ++ (rest ++ os1), fs⟩ o.dst r)) : CH N ops os1 T (o :: l) ⟨rs, os ++ (rest ++ os1), fs⟩ := ⟨Vk hd, .inr ⟨os, rest, Φ, rfl, hg, hO, k⟩⟩
def zW (l : List Oper) (n : Nat) (free chain : List Nat) : Bool :=
 (List.range n).all (fun k => free.contains k != chain.contains k) && free.all (fun k => decide (k < n)) && chain.all (fun k => decide (k < n)) && decide (n ≤ l.length) &&
 (List.range free.length).all (fun i => (List.range i).all fun j => decide (free.getD j 0 < free.getD i 0)) && (List.range chain.length).all (fun i => (List.range i).all fun j => decide (chain.getD j 0 < chain.getD i 0)) &&
 (List.range chain.length).all (fun i => i == 0 || match l[chain.getD i 0]? with
  | some o => o.after.toList.any fun e => Region.binds .any e && e.on == chain.getD (i - 1) 0
  | none => false) &&
 (List.range n).all (fun k => match l[k]? with
  | some o => (o.looksAt l.toArray).all (fun t => (List.range n).all fun j => decide (j < k) || (l[j]?.bind (·.dst)) != some t) &&
   (match o.dst with
    | some t => (List.range k).all fun j => (l[j]?.bind (·.dst)) != some t
    | none => true)
  | none => false) &&
 free.all (fun k => match l[k]? with
  | some o => (o.looksAt l.toArray).all fun t => chain.all fun j => (l[j]?.bind (·.dst)) != some t
  | none => true)
structure TN (l : List Oper) (n : Nat) (free chain : List Nat) : Prop where
 part : ∀ k, k < n → (k ∈ free ∧ k ∉ chain) ∨ (k ∉ free ∧ k ∈ chain)
 flt : ∀ k ∈ free, k < n
 clt : ∀ k ∈ chain, k < n
 le : n ≤ l.length
 fup : ∀ i j : Nat, j < i → i < free.length → free.getD j 0 < free.getD i 0
 cup : ∀ i j : Nat, j < i → i < chain.length → chain.getD j 0 < chain.getD i 0
 wait : ∀ (i : Nat) (o : Oper), 0 < i → i < chain.length → l[chain.getD i 0]? = some o → ∃ e ∈ o.after, Region.binds .any e = true ∧ e.on = chain.getD (i - 1) 0
 back : ∀ (k j : Nat) (o oj : Oper) (t : Tmp), k < n → l[k]? = some o → t ∈ o.looksAt l.toArray → k ≤ j → j < n → l[j]? = some oj → oj.dst ≠ some t
 free : ∀ (k j : Nat) (o oj : Oper) (t : Tmp), k ∈ free → l[k]? = some o → t ∈ o.looksAt l.toArray → j ∈ chain → l[j]? = some oj → oj.dst ≠ some t
 once : ∀ (k j : Nat) (o oj : Oper) (t : Tmp), k < n → l[k]? = some o → o.dst = some t → j < k → l[j]? = some oj → oj.dst ≠ some t
theorem Jc {l : List Oper} {n : Nat} {free chain : List Nat} (h : zW l n free chain = true) : TN l n free chain := by
 unfold zW at h
 simp only [YB, X6, Yu, decide_eq_true_eq] at h
 obtain ⟨⟨⟨⟨⟨⟨⟨⟨h1, h2⟩, h3⟩, h4⟩, h5⟩, h6⟩, h7⟩, h8⟩, h9⟩ := h
 refine ⟨fun k hk => ?_, h2, h3, h4, fun i j hj hi => h5 i hi j hj, fun i j hj hi => h6 i hi j hj, fun i o hi hl ho => ?_, fun k j o oj t hk ho ht hkj hj hoj e => ?_, fun k j o oj t hk ho ht hj hoj e => ?_, fun k j o oj t hk ho ht hj hoj e => ?_⟩
 ·
  have := h1 k hk
  by_cases e1 : k ∈ free <;> by_cases e2 : k ∈ chain <;> simp [e1, e2] at this ⊢
 ·
  have := h7 i hl
  rw [ho] at this
  simp only [ZK, beq_iff_eq] at this
  rcases this with h | h
  · omega
  ·
   obtain ⟨e, he, hb⟩ := Y5.1 h
   simp only [YB, beq_iff_eq] at hb
   exact ⟨e, by simpa using he, hb.1, hb.2⟩
 ·
  have := h8 k hk
  rw [ho] at this
  simp only [YB, X6, Yu] at this
  have := this.1 t ht j hj
  rw [hoj] at this
  simp [e] at this
  omega
 ·
  have := h9 k hk
  rw [ho] at this
  simp only [X6] at this
  have := this t ht j hj
  rw [hoj] at this
  simp [e] at this
 ·
  have := h8 k hk
  rw [ho] at this
  simp only [YB] at this
  have := this.2
  rw [ht] at this
  simp only [X6, Yu] at this
  have := this j hj
  rw [hoj] at this
  simp [e] at this
theorem nY {l : List Oper} : ∀ (ix : List Nat), (∀ k ∈ ix, k < l.length) → (bJ l ix).length = ix.length ∧ ∀ p : Nat, p < ix.length → (bJ l ix)[p]? = l[ix.getD p 0]?
 | [], _ => ⟨rfl, fun p h => absurd h (by simp)⟩
 | k :: ix, h => by
  have hk := h k (by simp)
  obtain ⟨h1, h2⟩ := nY ix fun j hj => h j (by simp [hj])
  have e : bJ l (k :: ix) = l[k] :: bJ l ix := by
   unfold bJ
   rw [XD]
   simp [hk]
  rw [e]
  refine ⟨by simp [h1], fun p hp => ?_⟩
  cases p with
  | zero => simp [hk]
  | succ p => simpa using h2 p (by simpa using hp)
theorem wS {V V' : VP} {r : Result Next} (h : jq Tryz.prog V r) (k : ∀ v w', V v w' → V' v w') : jq Tryz.prog V' r := by
 cases r with
 | ok x w' =>
  cases x <;> simp only [jq] at h ⊢
  case value v => exact k _ _ h
  case skip => exact k _ _ h
  case enter g args => exact h.mono fun e w'' ⟨v, he, hv⟩ => ⟨v, he, k _ _ hv⟩
 | halt x w' => simp only [jq] at h
theorem nP : ∀ (l : List Oper) (infs : List Inf) (k : Nat) (S : St) (t : Tmp) (r : R), look (iy S l infs k).regs t = some r →
  (∃ q o i, q < k ∧ l[q]? = some o ∧ infs[q]? = some i ∧ o.dst = some t ∧ r = i.reg) ∨ look S.regs t = some r
 | _, _, 0, S, t, r, h => .inr (by simpa [iy] using h)
 | [], infs, k + 1, S, t, r, h => .inr (by simpa [iy] using h)
 | o :: l, [], k + 1, S, t, r, h => .inr (by simpa [iy] using h)
 | o :: l, i :: infs, k + 1, S, t, r, h => by
  rw [iy] at h
  rcases nP l infs k _ t r h with ⟨q, oq, iq, h1, h2, h3, h4, h5⟩ | h1
  · exact .inl ⟨q + 1, oq, iq, by omega, by simpa using h2, by simpa using h3, h4, h5⟩
  ·
   cases hd : o.dst with
   | none => rw [hd] at h1; exact .inr h1
   | some d =>
    rw [hd] at h1
    simp only [St.put, look] at h1
    split at h1
    ·
     rename_i e
     cases h1
     exact .inl ⟨0, o, i, by omega, rfl, rfl, by rw [hd, e], rfl⟩
    · exact .inr h1
section
variable {N : Nat} {X : Cx N} {S : St} {a : Act} {Q : Exit → Act → World → Prop} {l : List Oper}
structure Real (X : Cx N) (l : List Oper) (n : Nat) (ch : List Nat) (a : Act) (RF : List (Tmp × R)) (os1 : List Obj) (fs : List (Value × D)) (S : St) (L : Nat → Prop) (vs : Nat → Value) (u : World) : Prop where
 mem : Mem X S.objs S.facts u
 tail : ∃ os, S.objs = os ++ os1
 facts : S.facts = fs
 regs : ∀ t r, look S.regs t = some r → (∀ j o, j < n → l[j]? = some o → o.dst = some t → L j → cO (X.ok S.objs u) u r (vs j)) ∧ ((∀ j o, j < n → l[j]? = some o → o.dst ≠ some t) → cO (X.ok S.objs u) u r (a.tmps.getD t undef))
 free : ∀ t r, look RF t = some r → (∀ j o, j ∈ ch → l[j]? = some o → o.dst ≠ some t) → look S.regs t = some r
theorem EC.iU {id : Nat} (n : Nat) (free chain : List Nat) (os0 os1 : List Obj) (hB : monoB l.toArray n N = true) (hC : zW l n free chain = true) (hS : S.objs = os0 ++ os1)
  (h : EM N l.toArray (fun S' _ => CH N l.toArray os1 (fun S'' => EL X l.toArray Q (l.drop n) S'') (bJ l chain) ⟨S'.regs, os0 ++ os1, S.facts⟩) (bJ l free) ⟨S.regs, os1, S.facts⟩ []) : EC X Q (.region id l.toArray true) S := by
 constructor
 intro a ws ha
 have C := Jc hC
 obtain ⟨infs, hlen, hok, hT, hnp⟩ := pK _ _ _ h
 have hfree := nY (l := l) free fun k hk => XM (C.flt k hk) C.le
 have hchain := nY (l := l) chain fun k hk => XM (C.clt k hk) C.le
 rw [hfree.1] at hlen hT
 have hdst : ∀ k o, l[k]? = some o → dM l.toArray k = o.dst := fun k o ho => by unfold dM; simp [ho]
 have hsl : ∀ k o L vs (b : Act) t, k < n → l[k]? = some o → t ∈ o.looksAt l.toArray → pU l.toArray L vs a b k t → (∃ j oj, j < n ∧ l[j]? = some oj ∧ oj.dst = some t ∧ L j ∧ b.tmps.getD t undef = vs j) ∨ ((∀ j o, j < n → l[j]? = some o → o.dst ≠ some t) ∧ b.tmps.getD t undef = a.tmps.getD t undef) := fun k o L vs b t hk ho ht hs => by
  rcases hs with ⟨j, h1, h2, h3, h4, h5⟩ | ⟨h1, h2⟩
  ·
   have hj : j < l.length := by have := C.le; omega
   exact .inl ⟨j, l[j], by omega, by simp, by rw [← hdst j l[j] (by simp)]; exact h2, h4, h5⟩
  ·
   refine .inr ⟨fun j oj hj hoj e => ?_, h2⟩
   rcases XY j k with h3 | h3
   · exact h1 j h3 (by rw [hdst j oj hoj]; exact e)
   · exact C.back k j o oj t hk ho ht h3 hj hoj e
 have huniq : ∀ j j' o o' t, j < n → j' < n → l[j]? = some o → l[j']? = some o' → o.dst = some t → o'.dst = some t → j = j' := fun j j' o o' t hj hj' ho ho' hd hd' => by
  rcases Zh j j' with h | h | h
  · exact absurd hd (C.once j' j o' o t hj' ho' hd' h ho)
  · exact h
  · exact absurd hd' (C.once j j' o o' t hj ho hd h ho')
 let RF := (iy ⟨S.regs, os1, S.facts⟩ (bJ l free) infs free.length).regs
 have hRF : ∀ t r, look RF t = some r → (∃ p o i, p < free.length ∧ l[free.getD p 0]? = some o ∧ infs[p]? = some i ∧ o.dst = some t ∧ r = i.reg) ∨ look S.regs t = some r := fun t r hr => by
  rcases nP _ _ _ _ _ _ hr with ⟨q, oq, iq, h1, h2, h3, h4, h5⟩ | h1
  · exact .inl ⟨q, oq, iq, h1, by rw [← hfree.2 q h1]; exact h2, h3, h4, h5⟩
  · exact .inr h1
 have hfl : ∀ p, p < free.length → free.getD p 0 < n ∧ free.getD p 0 ∈ free := fun p hp => by
  have : free.getD p 0 ∈ free := by
   rw [List.getD_eq_getElem?_getD, List.getElem?_eq_getElem hp]
   exact XW hp
  exact ⟨C.flt _ this, this⟩
 have hcl : ∀ p, p < chain.length → chain.getD p 0 < n ∧ chain.getD p 0 ∈ chain := fun p hp => by
  have : chain.getD p 0 ∈ chain := by
   rw [List.getD_eq_getElem?_getD, List.getElem?_eq_getElem hp]
   exact XW hp
  exact ⟨C.clt _ this, this⟩
 have hput : ∀ p o i, p < free.length → l[free.getD p 0]? = some o → infs[p]? = some i → ∀ t, o.dst = some t → look RF t = some i.reg := fun p o i hp ho hi t ht => by
  have hlk := (gW (bJ l free) infs free.length ⟨S.regs, os1, S.facts⟩ t (by rw [hlen, hfree.1]) (by rw [hfree.1]; exact Nat.le_refl _)).1
  refine hlk p o i hp (by rw [hfree.2 p hp]; exact ho) hi ht fun m om h1 h2 h3 e => ?_
  rw [hfree.2 m h2] at h3
  have := huniq _ _ _ _ t (hfl p hp).1 (hfl m h2).1 ho h3 ht e
  have := C.fup m p h1 h2
  omega
 have hmono : ∀ p o t r, p < free.length → l[free.getD p 0]? = some o → t ∈ o.looksAt l.toArray → look (iy ⟨S.regs, os1, S.facts⟩ (bJ l free) infs p).regs t = some r → look RF t = some r := fun p o t r hp ho ht hr => by
  rcases nP _ _ _ _ _ _ hr with ⟨q, oq, iq, h1, h2, h3, h4, h5⟩ | h1
  ·
   rw [h5]
   have hq : q < free.length := by omega
   exact hput q oq iq hq (by rw [← hfree.2 q hq]; exact h2) h3 t h4
  ·
   have hlk := (gW (bJ l free) infs free.length ⟨S.regs, os1, S.facts⟩ t (by rw [hlen, hfree.1]) (by rw [hfree.1]; exact Nat.le_refl _)).2
   have hpre := (gW (bJ l free) infs p ⟨S.regs, os1, S.facts⟩ t (by rw [hlen, hfree.1]) (by rw [hfree.1]; exact Nat.le_of_lt hp))
   by_cases hex : ∃ m om, m < p ∧ (bJ l free)[m]? = some om ∧ om.dst = some t
   ·
    -- what was put ahead stays
    obtain ⟨m, om, g1, g2, g3⟩ := hex
    have hm : m < free.length := by omega
    obtain ⟨inf, hi⟩ : ∃ inf, infs[m]? = some inf := ⟨infs[m]'(by omega), by simp⟩
    have e1 := hpre.1 m om inf g1 g2 hi g3 fun m' om' h1 h2 h3 e => by
     rw [hfree.2 m' (by omega)] at h3
     rw [hfree.2 m hm] at g2
     have := huniq _ _ _ _ t (hfl m hm).1 (hfl m' (by omega)).1 g2 h3 g3 e
     have := C.fup m' m h1 (by omega)
     omega
    rw [hr] at e1
    cases e1
    exact hput m om inf hm (by rw [← hfree.2 m hm]; exact g2) hi t g3
   have := hlk fun m om h2 h3 e => by
    rcases XY m p with h4 | h4
    · exact hex ⟨m, om, h4, h3, e⟩
    ·
     rw [hfree.2 m h2] at h3
     have hle : free.getD p 0 ≤ free.getD m 0 := by
      rcases XY p m with h5 | h5
      · exact Nat.le_of_lt (C.fup m p h5 h2)
      · rw [show m = p by omega]; exact Nat.le_refl _
     exact C.back _ _ o om t (hfl p hp).1 ho ht hle (hfl m h2).1 h3 e
   show look (iy ⟨S.regs, os1, S.facts⟩ (bJ l free) infs free.length).regs t = some r
   rw [this]
   exact h1
 have hT' : CH N l.toArray os1 (fun S'' => EL X l.toArray Q (l.drop n) S'') (bJ l chain) ⟨RF, os0 ++ os1, S.facts⟩ := hT
 clear hT h
 refine lX n (by kernel_rfl) (by rw [ha.size]; exact hB) (fun L vs u => ∃ i Si, i ≤ chain.length ∧ (∀ p, p < i → L (chain.getD p 0)) ∧ (∀ p, i ≤ p → p < chain.length → ¬ L (chain.getD p 0)) ∧ CH N l.toArray os1 (fun S'' => EL X l.toArray Q (l.drop n) S'') ((bJ l chain).drop i) Si ∧ Real X l n chain a RF os1 S.facts Si L vs u) ?_ ?_ ?_ ?_
 ·
  rintro L L' vs vs' w hL hvs ⟨i, Si, h1, h2, h3, h4, h5⟩
  obtain rfl : L = L' := funext fun j => propext (hL j)
  refine ⟨i, Si, h1, h2, h3, h4, h5.mem, h5.tail, h5.facts, fun t r hr => ?_, h5.free⟩
  obtain ⟨g1, g2⟩ := h5.regs t r hr
  exact ⟨fun j o hj ho hd hL => by rw [← hvs j hL]; exact g1 j o hj ho hd hL, g2⟩
 ·
  have had : At X S a ws.drew := ha.gr (by exact ⟨rfl, rfl, rfl, Nat.le_refl _, fun _ _ => rfl⟩)
  refine ⟨0, ⟨RF, os0 ++ os1, S.facts⟩, XQ _, fun p hp => absurd hp (by omega), fun _ _ _ h => h.elim, by rw [Xq]; exact hT', ?_, ⟨os0, rfl⟩, rfl, fun t r hr => ⟨fun _ _ _ _ _ h => h.elim, fun hno => ?_⟩, fun t r hr _ => hr⟩
  · rw [← hS]; exact had.mem
  ·
   rcases hRF t r hr with ⟨p, o, i, h1, h2, h3, h4, h5⟩ | h1
   · exact absurd h4 (hno _ o (hfl p h1).1 h2)
   ·
    rw [← hS]
    exact had.regs t r h1
 ·
  intro k o L vs b u hk ho hL hLk ⟨i, Si, h1, h2, h3, h4, h5⟩ hslot hwait
  rcases C.part k hk with ⟨hkf, hkc⟩ | ⟨hkf, hkc⟩
  ·
   -- a free operation
   obtain ⟨p, hp, rfl⟩ : ∃ p, p < free.length ∧ free.getD p 0 = k := by
    obtain ⟨p, hp⟩ := Zx hkf
    exact ⟨p, (XC.1 hp).1, by rw [List.getD_eq_getElem?_getD, hp]; rfl⟩
   obtain ⟨inf, hi⟩ : ∃ inf, infs[p]? = some inf := ⟨infs[p]'(by omega), by simp⟩
   obtain ⟨hO, _, _⟩ := hok p o inf (by rw [hfree.2 p hp]; exact ho) hi
   have hkn : Kn X.mine (X.ok Si.objs u) (fun t => t ∈ o.looksAt l.toArray) (iy ⟨S.regs, os1, S.facts⟩ (bJ l free) infs p) b u := by
    obtain ⟨os, hos⟩ := h5.tail
    refine ⟨fun q hq => ?_, fun f hf => ?_, fun b hb => hb.2.1, fun t r ht hr => ?_⟩
    ·
     rw [(dU _ _ _ _).1] at hq
     exact h5.mem.at_ q (by rw [hos]; exact Ya _ hq)
    ·
     rw [(dU _ _ _ _).2] at hf
     exact h5.mem.fact f (by rw [h5.facts]; exact hf)
    ·
     obtain ⟨g1, g2⟩ := h5.regs t r (h5.free t r (hmono p o t r hp ho ht hr) fun j oj hj hoj => C.free _ j o oj t hkf ho ht hj hoj)
     rcases hsl _ o L vs b t hk ho ht (hslot t ht) with ⟨j, oj, e1, e2, e3, e4, e5⟩ | ⟨e1, e2⟩
     · rw [e5]; exact g1 j oj e1 e2 e3 e4
     · rw [e2]; exact g2 e1
   have hnext : ∀ v u', Gr u u' → cO (X.ok Si.objs u') u' inf.reg v → ∃ i Si, i ≤ chain.length ∧ (∀ q, q < i → (chain.getD q 0 = free.getD p 0 ∨ L (chain.getD q 0))) ∧ (∀ q, i ≤ q → q < chain.length → ¬ (chain.getD q 0 = free.getD p 0 ∨ L (chain.getD q 0))) ∧ CH N l.toArray os1 (fun S'' => EL X l.toArray Q (l.drop n) S'') ((bJ l chain).drop i) Si ∧ Real X l n chain a RF os1 S.facts Si (fun j => j = free.getD p 0 ∨ L j) (fun j => if j = free.getD p 0 then v else vs j) u' := fun v u' hg hv => by
    refine ⟨i, Si, h1, fun q hq => .inr (h2 q hq), fun q hq hq' e => ?_, h4, h5.mem.grown hg, h5.tail, h5.facts, fun t r hr => ?_, h5.free⟩
    ·
     rcases e with e | e
     · exact hkc (by rw [← e]; exact (hcl q hq').2)
     · exact h3 q hq hq' e
    ·
     obtain ⟨g1, g2⟩ := h5.regs t r hr
     refine ⟨fun j oj hj hoj hd hLj => ?_, fun hno => qE hg (g2 hno)⟩
     by_cases e : j = free.getD p 0
     ·
      rw [if_pos e]
      subst e
      obtain rfl : oj = o := X3 (hoj.symm.trans ho)
      have := h5.free t _ (hput p oj inf hp ho hi t hd) fun j' oj' hj' hoj' e' => by
       have := huniq _ _ _ _ t hk (C.clt j' hj') hoj hoj' hd e'
       exact hkc (by rw [this]; exact hj')
      rw [hr] at this
      cases this
      exact hv
     ·
      rw [if_neg e]
      exact qE hg (g1 j oj hj hoj hd (hLj.resolve_left e))
   cases inf with
   | still r =>
    obtain ⟨hg, hSt⟩ := hO
    refine ⟨fun _ => ?_, fun hw => by rw [dn hkn hg] at hw; cases hw⟩
    obtain ⟨v, e1, e2⟩ := hSt _ _ b u hkn
    rw [e1]
    exact hnext v u (Gr.refl u) e2
   | grow r =>
    obtain ⟨hg, hSt⟩ := hO
    refine ⟨fun _ => iD (hSt _ _ b u hkn) (fun v w' hgr hv => ?_), fun hw => by rw [dn hkn hg] at hw; cases hw⟩
    obtain ⟨r', rfl, hv⟩ := hv
    exact hnext v w' hgr (hv.mono (fun b hb => rY h5.mem hgr hb) fun _ _ => rfl)
   | put p q => cases hnp _ _ hi
   | skip =>
    refine ⟨fun hw => (by rw [dn hkn hO] at hw; cases hw), fun _ => ?_⟩
    exact hnext undef u (Gr.refl u) ⟨[], rfl, rfl⟩
   | new T d =>
    obtain ⟨hg, hSt⟩ := hO
    refine ⟨fun _ => ?_, fun hw => by rw [dn hkn hg] at hw; cases hw⟩
    obtain ⟨cs, e1, e2⟩ := hSt _ _ b u hkn
    rw [e1]
    exact hnext _ _ (ay u _) trivial
  ·
   -- the next of the chain
   obtain ⟨m, hm, rfl⟩ : ∃ m, m < chain.length ∧ chain.getD m 0 = k := by
    obtain ⟨p, hp⟩ := Zx hkc
    exact ⟨p, (XC.1 hp).1, by rw [List.getD_eq_getElem?_getD, hp]; rfl⟩
   have hmi : m = i := by
    rcases Zh m i with e | e | e
    · exact absurd (h2 m e) hLk
    · exact e
    ·
     exfalso
     obtain ⟨ed, he, hb, hon⟩ := C.wait m o (by omega) hm ho
     have := hwait ed he hb
     rw [hon] at this
     exact h3 (m - 1) (by omega) (by omega) this
   subst hmi
   have hdrop : (bJ l chain).drop m = o :: (bJ l chain).drop (m + 1) := by
    have hml : m < (bJ l chain).length := by rw [hchain.1]; exact hm
    rw [XI hml]
    have := hchain.2 m hm
    rw [ho, List.getElem?_eq_getElem hml] at this
    rw [X3 this]
   rw [hdrop] at h4
   obtain ⟨hdN, h4⟩ := h4
   have hkreg : ∀ t r, t ∈ o.looksAt l.toArray → look Si.regs t = some r → cO (X.ok Si.objs u) u r (b.tmps.getD t undef) := fun t r ht hr => by
    obtain ⟨g1, g2⟩ := h5.regs t r hr
    rcases hsl _ o L vs b t hk ho ht (hslot t ht) with ⟨j, oj, e1, e2, e3, e4, e5⟩ | ⟨e1, e2⟩
    · rw [e5]; exact g1 j oj e1 e2 e3 e4
    · rw [e2]; exact g2 e1
   have hkn : Kn X.mine (X.ok Si.objs u) (fun t => t ∈ o.looksAt l.toArray) Si b u := ⟨h5.mem.at_, h5.mem.fact, fun b hb => hb.2.1, fun t r ht hr => hkreg t r ht hr⟩
   have hnext : ∀ v u' objs' r', Mem X objs' Si.facts u' → (∃ os, objs' = os ++ os1) → (∀ b, X.ok Si.objs u b → X.ok objs' u' b) → (∀ p : Addr, X.ok Si.objs u p.block → u'.cell? p = u.cell? p) → cO (X.ok objs' u') u' r' v →
     CH N l.toArray os1 (fun S'' => EL X l.toArray Q (l.drop n) S'') ((bJ l chain).drop (m + 1)) (St.put ⟨Si.regs, objs', Si.facts⟩ o.dst r') →
     ∃ i Si, i ≤ chain.length ∧ (∀ q, q < i → (chain.getD q 0 = chain.getD m 0 ∨ L (chain.getD q 0))) ∧ (∀ q, i ≤ q → q < chain.length → ¬ (chain.getD q 0 = chain.getD m 0 ∨ L (chain.getD q 0))) ∧ CH N l.toArray os1 (fun S'' => EL X l.toArray Q (l.drop n) S'') ((bJ l chain).drop i) Si ∧ Real X l n chain a RF os1 S.facts Si (fun j => j = chain.getD m 0 ∨ L j) (fun j => if j = chain.getD m 0 then v else vs j) u' := fun v u' objs' r' hmem htail hmok hcell hv hCH => by
    have hobj : (St.put ⟨Si.regs, objs', Si.facts⟩ o.dst r').objs = objs' := by cases o.dst <;> rfl
    have hfac : (St.put ⟨Si.regs, objs', Si.facts⟩ o.dst r').facts = Si.facts := by cases o.dst <;> rfl
    refine ⟨m + 1, _, by omega, fun q hq => ?_, fun q hq hq' e => ?_, hCH, by rw [hobj, hfac]; exact hmem, by rw [hobj]; exact htail, by rw [hfac]; exact h5.facts, fun t r hr => ?_, fun t r hr hno => ?_⟩
    ·
     rcases XY q m with e | e
     · exact .inr (h2 q e)
     · exact .inl (by rw [show q = m by omega])
    ·
     rcases e with e | e
     ·
      have := C.cup q m (by omega) hq'
      omega
     · exact h3 q (by omega) hq' e
    ·
     rw [hobj]
     have hcase : (o.dst = some t ∧ r = r') ∨ (o.dst ≠ some t ∧ look Si.regs t = some r) := by
      cases hd : o.dst with
      | none => rw [hd] at hr; exact .inr ⟨(fun e => by cases e), hr⟩
      | some d =>
       rw [hd] at hr
       simp only [St.put, look] at hr
       split at hr
       ·
        rename_i e
        cases hr
        exact .inl ⟨by rw [e], rfl⟩
       ·
        rename_i e
        exact .inr ⟨fun e' => e (by injection e'), hr⟩
     rcases hcase with ⟨hd, rfl⟩ | ⟨hd, hr⟩
     ·
      refine ⟨fun j oj hj hoj hd' _ => ?_, fun hno => absurd hd (hno _ o hk ho)⟩
      rw [if_pos (huniq _ _ _ _ t hj hk hoj ho hd' hd)]
      exact hv
     ·
      obtain ⟨g1, g2⟩ := h5.regs t r hr
      refine ⟨fun j oj hj hoj hd' hLj => ?_, fun hno => (g2 hno).mono hmok hcell⟩
      have hne : j ≠ chain.getD m 0 := fun e => by
       subst e
       obtain rfl : oj = o := X3 (hoj.symm.trans ho)
       exact hd hd'
      rw [if_neg hne]
      exact (g1 j oj hj hoj hd' (hLj.resolve_left hne)).mono hmok hcell
    ·
     cases hd : o.dst with
     | none => exact h5.free t r hr hno
     | some d =>
      simp only [St.put, look]
      rw [if_neg fun e => hno _ o hkc ho (by rw [hd, e])]
      exact h5.free t r hr hno
   rcases h4 with ⟨inf, hnp', hO, hCH⟩ | ⟨os, rest, Φ, hos, hg, hO, hCH⟩
   ·
    have hgr : ∀ v u', Gr u u' → cO (X.ok Si.objs u') u' inf.reg v → _ := fun v u' hg hv => hnext v u' Si.objs inf.reg (h5.mem.grown hg) h5.tail (fun b hb => Bv hg hb) (fun p hp => uI hg p hp) hv hCH
    cases inf with
    | still r =>
     obtain ⟨hg, hSt⟩ := hO
     refine ⟨fun _ => ?_, fun hw => by rw [dn hkn hg] at hw; cases hw⟩
     obtain ⟨v, e1, e2⟩ := hSt _ _ b u hkn
     rw [e1]
     exact hgr v u (Gr.refl u) e2
    | grow r =>
     obtain ⟨hg, hSt⟩ := hO
     refine ⟨fun _ => iD (hSt _ _ b u hkn) (fun v w' hgr' hv => ?_), fun hw => by rw [dn hkn hg] at hw; cases hw⟩
     obtain ⟨r', rfl, hv⟩ := hv
     exact hgr v w' hgr' (hv.mono (fun b hb => rY h5.mem hgr' hb) fun _ _ => rfl)
    | put p q => cases hnp'
    | skip =>
     refine ⟨fun hw => (by rw [dn hkn hO] at hw; cases hw), fun _ => ?_⟩
     exact hgr undef u (Gr.refl u) ⟨[], rfl, rfl⟩
    | new T d =>
     obtain ⟨hg, hSt⟩ := hO
     refine ⟨fun _ => ?_, fun hw => by rw [dn hkn hg] at hw; cases hw⟩
     obtain ⟨cs, e1, e2⟩ := hSt _ _ b u hkn
     rw [e1]
     exact hgr _ _ (ay u _) trivial
   ·
    obtain ⟨rs, objs, fs⟩ := Si
    dsimp only at hos
    subst hos
    refine ⟨fun _ => ?_, fun hw => by rw [dn hkn hg] at hw; cases hw⟩
    have := hO.go X.mine (X.ok (os ++ (rest ++ os1)) u) b u ⟨fun q hq => hkn.objs q (Ya _ hq), hkn.facts, hkn.lt, hkn.regs⟩ h5.mem.own
    refine wS this fun v u' ⟨r, os', e1, e2, e3⟩ => ?_
    exact hnext v u' (os' ++ (rest ++ os1)) r (h5.mem.turned e2) ⟨os' ++ rest, by rw [List.append_assoc]⟩ (fun b hb => oP h5.mem e2 hb) (turned_cell h5.mem e2) (e3.mono (fun b hb => nN h5.mem e2 hb) fun _ _ => rfl) (hCH r os' e1)
 ·
  intro vs u b ⟨i, Si, h1, h2, h3, h4, h5⟩ hs hd hslot
  have hi : i = chain.length := by
   rcases XY i chain.length with e | e
   · exact absurd (hcl i e).1 (h3 i (Nat.le_refl _) e)
   · omega
  subst hi
  have hnil : (bJ l chain).drop chain.length = [] := XP (by rw [hchain.1]; exact Nat.le_refl _)
  rw [hnil] at h4
  have h4' : EL X l.toArray Q (l.drop n) Si := h4
  refine h4'.go b u ⟨h5.mem, fun t r hr => ?_, hs.trans ha.size, hd.trans ha.defers⟩
  obtain ⟨g1, g2⟩ := h5.regs t r hr
  rcases hslot t with ⟨j, e1, e2, e3, e4, e5⟩ | ⟨e1, e2⟩
  ·
   rw [e5]
   have hj : j < l.length := by have := C.le; omega
   exact g1 j l[j] e1 (by simp) (by rw [← hdst j l[j] (by simp)]; exact e2) e4
  ·
   rw [e2]
   exact g2 fun j o hj ho e => e1 j hj (by rw [hdst j o ho]; exact e)
end
def fK (v : Value) (n : Nat) : Value :=
 match v with
 | .slice (some a) _ _ => .pointer (some ⟨a.block, a.off + n, none⟩)
 | _ => .pointer none
theorem xC (v : Value) (n : Nat) : (fK v n).oneCell' = true := by
 unfold fK
 split <;> rfl
def NG (S : St) : List Operand → Option (List Value)
 | [] => some []
 | x :: xs => match ev S x, NG S xs with
  | some (.val (.v v)), some vs => some (v :: vs)
  | _, _ => none
section
variable {N : Nat} {X : Cx N} {S S' : St} {a : Act} {w w' : World} {ops : Array Oper} {o : Oper} {Q : Exit → Act → World → Prop} {l : List Oper} {TT : St → List Fr → Prop} {EE : List Fr} {rs : List (Tmp × R)} {os : List Obj} {fs : List (Value × D)} {base ok : Nat → Prop} {L : Tmp → Prop}
theorem zvI {T : Nat} {d : D} (h : assoc jJ T = some d) : KJ T d := CG.get _ _ _ Uk h
theorem cnI {T : Nat} (h : cnL.contains T = true) : ∃ d, Tryz.prog.underlying T = some d ∧ ∀ ms, d ≠ .interface ms := by
 have := X6.1 Vl T (by simpa using h)
 unfold cnB at this
 split at this
 · cases this
 ·
  rename_i d hd h1
  exact ⟨d, h1, fun ms e => hd ms e⟩
 · cases this
theorem dG {x : Operand} (h : x ∈ o.op.operands.toList) : ∀ t, x = .tmp t → t ∈ o.looksAt ops := fun t e => aQ e h
theorem JY {x : Operand} {p : Addr} (ho : o.op = .nilCheck x) (hx : ev S x = some (.val (.v (.pointer (some p))))) : Still ops S o (.val (.v (.pointer (some p)))) := fun base ok a w ha => by
 have h1 := iT ha hx (dG (by rw [ho]; simp [Op.operands]))
 refine ⟨_, ?_, jK rfl⟩
 unfold execOp
 simp only [ho, h1, XR]
theorem V8 {d : D} {x : Value} (h : bY ok w (.pd d) x) : ∃ b n cs, x = .pointer (some ⟨b, n, none⟩) ∧ ok b ∧ w.rangeAt b n cs ∧ Reads ok w d cs := by
 have h1 := (bM rfl).1 h
 rw [Reads] at h1
 obtain ⟨b, n, cs, h2, h3, h4, h5⟩ := h1
 exact ⟨b, n, cs, by simpa using h2, h3, h4, h5⟩
theorem zA {x : Operand} {d : D} (ho : o.op = .nilCheck x) (hx : ev S x = some (.val (.pd d))) : Still ops S o (.val (.pd d)) := fun base ok a w ha => by
 have h0 := ha.ev hx (dG (by rw [ho]; simp [Op.operands]))
 obtain ⟨b, n, cs, h1, _⟩ := V8 h0
 refine ⟨a.eval x, ?_, h0⟩
 unfold execOp
 simp only [ho, h1, XR]
theorem JZ {T : Nat} {x : Operand} {d : D} (ho : o.op = .makeInterface T x) (hx : ev S x = some (.val d)) (hT : cnL.contains T = true) : Still ops S o (.val (.ifc T d)) := fun base ok a w ha => by
 obtain ⟨cs, h1, h2⟩ := ha.ev hx (dG (by rw [ho]; simp [Op.operands]))
 obtain ⟨de, h3, h4⟩ := cnI hT
 refine ⟨.iface T (a.eval x), ?_, (bM rfl).2 (by rw [Reads]; exact ⟨cs, by rw [h2], h1⟩)⟩
 unfold execOp
 have hr : (Instr.makeInterface T (a.eval x)).run Tryz.prog w = .ok (.iface T (a.eval x)) w := by
  unfold Instr.makeInterface
  rw [XO, run_underlying h3, XF]
  cases de <;> first | exact absurd rfl (h4 _) | rfl
 simp only [ho, XO, hr, XF, XR]
theorem Px {T : TypeId} {d : D} {x : Value} (h : bY ok w (.ifc T d) x) : ∃ cs, x = .iface T (form d cs) ∧ Reads ok w d cs := by
 have h1 := (bM rfl).1 h
 rw [Reads] at h1
 obtain ⟨cs, h2, h3⟩ := h1
 exact ⟨cs, by simpa using h2, h3⟩
theorem SB {x : Operand} {T : Nat} {U : TypeId} {d : D} (ho : o.op = .typeAssert x U T true) (hx : ev S x = some (.val (.ifc T d))) (hT : cnL.contains T = true) : Still ops S o (.tpl [d, .v (.bool true)]) := fun base ok a w ha => by
 obtain ⟨cs, h1, h2⟩ := Px (ha.ev hx (dG (by rw [ho]; simp [Op.operands])))
 obtain ⟨de, h3, h4⟩ := cnI hT
 refine ⟨.tuple #[form d cs, .bool true], ?_, [form d cs, .bool true], rfl, _, _, rfl, ⟨cs, h2, rfl⟩, _, _, rfl, jK rfl, rfl⟩
 unfold execOp
 have hr : (Instr.typeAssert (.iface T (form d cs)) U T true).run Tryz.prog w = .ok (.tuple #[form d cs, .bool true]) w := by
  simp only [Instr.typeAssert, XO, run_underlying h3, XF]
  cases de <;> first | exact absurd rfl (h4 _) | simp
 simp only [ho, h1, XO, hr, XF, XR]
theorem U9 {x : Operand} {T T1 : Nat} {U : TypeId} {d dz : D} (ho : o.op = .typeAssert x U T true) (hx : ev S x = some (.val (.ifc T1 d))) (hT : cnL.contains T = true) (hne : Nat.beq T1 T = false) (hz : assoc jJ T = some dz) : Still ops S o (.tpl [dz, .v (.bool false)]) := fun base ok a w ha => by
 obtain ⟨cs, h1, h2⟩ := Px (ha.ev hx (dG (by rw [ho]; simp [Op.operands])))
 obtain ⟨de, h3, h4⟩ := cnI hT
 obtain ⟨z, h5, h6⟩ := (zvI hz).get
 have hne' : ¬ T1 = T := fun e => by subst e; simp at hne
 refine ⟨.tuple #[z, .bool false], ?_, [z, .bool false], rfl, _, _, rfl, h6 _ _, _, _, rfl, jK rfl, rfl⟩
 unfold execOp
 have hr : (Instr.typeAssert (.iface T1 (form d cs)) U T true).run Tryz.prog w = .ok (.tuple #[z, .bool false]) w := by
  simp only [Instr.typeAssert, XO, run_underlying h3, XF]
  cases de <;> first | exact absurd rfl (h4 _) | simp [hne', h5]
 simp only [ho, h1, XO, hr, XF, XR]
theorem SC {x : Operand} {T : Nat} {U : TypeId} {dz : D} (ho : o.op = .typeAssert x U T true) (hx : ev S x = some (.val (.v .nilIface))) (hT : cnL.contains T = true) (hz : assoc jJ T = some dz) : Still ops S o (.tpl [dz, .v (.bool false)]) := fun base ok a w ha => by
 have h1 := iT ha hx (dG (by rw [ho]; simp [Op.operands]))
 obtain ⟨de, h3, h4⟩ := cnI hT
 obtain ⟨z, h5, h6⟩ := (zvI hz).get
 refine ⟨.tuple #[z, .bool false], ?_, [z, .bool false], rfl, _, _, rfl, h6 _ _, _, _, rfl, jK rfl, rfl⟩
 unfold execOp
 have hr : (Instr.typeAssert .nilIface U T true).run Tryz.prog w = .ok (.tuple #[z, .bool false]) w := by
  simp only [Instr.typeAssert, XO, run_underlying h3, XF]
  cases de <;> first | exact absurd rfl (h4 _) | simp [h5]
 simp only [ho, h1, XO, hr, XF, XR]
theorem Kn.map {L : Tmp → Prop} (h : Kn base ok L S a w) {i g n c : Nat} {es : List Ent} (hi : S.objs[i]? = some (.map g n c es)) : Obj.At base ok w (.map g n c es) := h.objs _ (XZ hi)
theorem lq {z : Nat} : ∀ rows : List (List Value), (∀ r ∈ rows, r.length = z) → rows.flatten.length = rows.length * z
 | [], _ => by simp
 | r :: rows, h => by
  rw [X8, List.length_append, h r (by simp), lq rows fun r hr => h r (by simp [hr]), List.length_cons, YA, YQ, YV]
theorem Gg {z : Nat} : ∀ (rows : List (List Value)) (k : Nat) (r : List Value), (∀ r ∈ rows, r.length = z) → rows[k]? = some r → ∃ A B, rows.flatten = A ++ r ++ B ∧ A.length = k * z ∧ ∀ r', (rows.set k r').flatten = A ++ r' ++ B
 | [], k, r, _, h => by simp at h
 | x :: rows, 0, r, hl, h => by
  cases h
  exact ⟨[], rows.flatten, by simp, by simp, fun r' => by simp⟩
 | x :: rows, k + 1, r, hl, h => by
  obtain ⟨A, B, h1, h2, h3⟩ := Gg rows k r (fun r hr => hl r (by simp [hr])) (by simpa using h)
  refine ⟨x ++ A, B, by simp [h1], ?_, fun r' => ?_⟩
  · rw [List.length_append, h2, hl x (by simp), YA, YQ, YV]
  ·
   rw [YU, X8, h3 r']
   simp
theorem au.set {z : Nat} : ∀ (ds : List D) (rows : List (List Value)) (k : Nat) (d : D) (r : List Value), au ok w z ds rows → Reads ok w d r → r.length = z → au ok w z (ds.set k d) (rows.set k r)
 | [], rows, k, d, r, h, _, _ => by rw [au] at h; subst h; simp only [List.set_nil]; rw [au]
 | e :: ds, rows, k, d, r, h, hd, hr => by
  rw [au] at h
  obtain ⟨x, rest, rfl, h1, h2, h3⟩ := h
  cases k with
  | zero => rw [YX, YX, au]; exact ⟨r, rest, rfl, hr, hd, h3⟩
  | succ k => rw [YU, YU, au]; exact ⟨x, _, rfl, h1, h2, au.set ds rest k d r h3 hd hr⟩
structure Ac (base ok : Nat → Prop) (w : World) (v : Value) (e z : Nat) (ds : List D) (g c : Nat) (cur : Array Value) (rows : List (List Value)) : Prop where
 val : v = .slice (some ⟨g, 0, none⟩) ds.length c
 heap : w.heap[g]? = some (.cells cur e (0, 0))
 cells : cur.toList.take (ds.length * z) = rows.flatten
 size : cur.size = c * z
 le : ds.length ≤ c
 max : c ≤ maxLen
 rows : au ok w z ds rows
 mine : base g
theorem row_in {e z : Nat} {v : Value} {ds : List D} (h : Obj.At base ok w (.row v e z ds)) (h0 : 0 < ds.length) : ∃ g c cur rows, Ac base ok w v e z ds g c cur rows := by
 obtain ⟨rows, ⟨h1, hb⟩, h2⟩ := h
 rcases h1.2 with ⟨_, e⟩ | ⟨g, c, cur, e1, _, e2, e3, e4, e5, e6⟩
 · omega
 · exact ⟨g, c, cur, rows, e1, e2, e6, e5, e3, e4, h2, hb g (by rw [e1]; rfl)⟩
theorem Ac.at {e z g c : Nat} {v : Value} {ds : List D} {cur : Array Value} {rows : List (List Value)} (h : Ac base ok w v e z ds g c cur rows) : Obj.At base ok w (.row v e z ds) := by
 refine ⟨rows, ⟨⟨?_, .inr ⟨g, c, cur, h.val, XQ _, h.heap, h.le, h.max, h.size, h.cells⟩⟩, fun b hb => ?_⟩, h.rows⟩
 ·
  obtain ⟨h1, h2⟩ := au.lens ds rows h.rows
  rw [lq rows h2, h1]
 ·
  rw [h.val] at hb
  cases hb
  exact h.mine
theorem Ac.elem {e z g c : Nat} {v : Value} {ds : List D} {cur : Array Value} {rows : List (List Value)} (h : Ac base ok w v e z ds g c cur rows) {k : Nat} {d : D} (hk : ds[k]? = some d) : ∃ r A B, rows[k]? = some r ∧ r.length = z ∧ Reads ok w d r ∧ cur.toList = A ++ r ++ B ∧ A.length = k * z ∧ ∀ r', r'.length = z → (A ++ r' ++ B).take (ds.length * z) = (rows.set k r').flatten := by
 obtain ⟨hk', rfl⟩ := XC.1 hk
 obtain ⟨r, h1, h2, h3⟩ := au.get ds rows h.rows k hk'
 obtain ⟨hl1, hl2⟩ := au.lens ds rows h.rows
 obtain ⟨A, B, g1, g2, g3⟩ := Gg rows k r hl2 h1
 obtain ⟨sp, hsplit⟩ : ∃ sp, cur.toList = rows.flatten ++ sp := ⟨cur.toList.drop (ds.length * z), by rw [← h.cells, X7]⟩
 refine ⟨r, A, B ++ sp, h1, h2, h3, by rw [hsplit, g1]; simp, g2, fun r' hr' => ?_⟩
 have hlen : (A ++ r' ++ B).length = ds.length * z := by
  have := congrArg List.length g1
  rw [lq rows hl2, hl1] at this
  simp only [List.length_append] at this ⊢
  omega
 rw [g3 r', ← List.append_assoc, Za hlen]
theorem FZ {x y : Operand} {T e z b : Nat} {k : Int} {v : Value} {ds : List D} (ho : o.op = .indexAddr T x y) (hx : ev S x = some (.val (.v v))) (i : Nat) (hi : S.objs[i]? = some (.row v e z ds)) (hy : ev S y = some (.val (.v (.int .i64 k)))) (hT : assoc slL T = some (e, z, b)) (hk : 0 ≤ k ∧ k.toNat < ds.length) : Still ops S o (.val (.v (fK v (k.toNat * z)))) := fun base ok a w ha => by
 have hx' := iT ha hx (dG (by rw [ho]; simp [Op.operands]))
 have hy' := iT ha hy (dG (by rw [ho]; simp [Op.operands]))
 obtain ⟨g, c, cur, rows, H⟩ := row_in (ha.objs _ (XZ hi)) (by omega)
 refine ⟨_, ?_, jK (xC _ _)⟩
 have hlt : k < (ds.length : Int) := by omega
 unfold execOp
 simp [ho, hx', hy', H.val, Instr.indexAt, run_underlying (slI hT).und, asIntOf, hk.1, hlt, jZ (slI hT).size, eu, fK]
theorem IU {x : Operand} {T k off sz e z n : Nat} {ag : Bool} {v : Value} {ds : List D} {lf : List (Nat × Nat × Bool)} (ho : o.op = .fieldAddr T x k) (hx : ev S x = some (.val (.v (fK v n)))) (i : Nat) (hi : S.objs[i]? = some (.row v e z ds)) (hk0 : 0 < ds.length) (h : assoc stL T = some lf) (hk : lf[k]? = some (off, sz, ag)) (h0 : Nat.blt 0 sz = true) : Still ops S o (.val (.v (fK v (n + off)))) := fun base ok a w ha => by
 have hx' := iT ha hx (dG (by rw [ho]; simp [Op.operands]))
 obtain ⟨g, c, cur, rows, H⟩ := row_in (ha.objs _ (XZ hi)) hk0
 refine ⟨_, ?_, jK (xC _ _)⟩
 unfold execOp
 have e1 : fK v n = .pointer (some ⟨g, n, none⟩) := by rw [H.val]; simp [fK]
 have e2 : fK v (n + off) = .pointer (some ⟨g, n + off, none⟩) := by rw [H.val]; simp [fK]
 simp only [ho, hx', e1, e2, XO, qA (Va h hk h0), XF, XR]
theorem Nj {x : Operand} {T sz e z n k off : Nat} {ag : Bool} {v : Value} {ds : List D} {d d' : D} (hk : n = k * z + off ∧ ds[k]? = some d) (ho : o.op = .load T x) (hx : ev S x = some (.val (.v (fK v n)))) (i : Nat) (hi : S.objs[i]? = some (.row v e z ds)) (hT : assoc tyL T = some (sz, ag)) (hs : d.sub off sz ag = some d') : Still ops S o (.val d') := fun base ok a w ha => by
 have hx' := iT ha hx (dG (by rw [ho]; simp [Op.operands]))
 obtain ⟨g, c, cur, rows, H⟩ := row_in (ha.objs _ (XZ hi)) (by have := (XC.1 hk.2).1; omega)
 obtain ⟨r, A, B, h1, h2, h3, h4, h5, _⟩ := H.elem hk.2
 obtain ⟨e1, e2, pre, mid, post, rfl, e3, e4⟩ := nO d off sz ag d' r hs h3
 have hh : w.heap[g]? = some (.cells (A ++ (pre ++ mid ++ post) ++ B).toArray e (0, 0)) := by rw [← h4]; exact H.heap
 have hr := jC hh
 rw [show A ++ (pre ++ mid ++ post) ++ B = (A ++ pre) ++ mid ++ (post ++ B) by simp] at hr
 have hr := l7 hr
 rw [XU, List.length_append, h5, e3, ← hk.1] at hr
 refine ⟨form d' mid, ?_, mid, e4, rfl⟩
 have ep : fK v n = .pointer (some ⟨g, n, none⟩) := by rw [H.val]; simp [fK]
 unfold execOp
 simp only [ho, hx', ep, XO, oV (d := d') (by rw [e1, e2]; exact tyI hT) e4 hr, XF, XR]
theorem qP {T e z b : Nat} (hT : assoc slL T = some (e, z, b)) : Tryz.prog.underlying T = some (.slice (Tryz.prog.elem T)) ∧ ∀ w, (sizeOf (Tryz.prog.elem T)).run Tryz.prog w = .ok z w := by
 have h := slI hT
 have : Tryz.prog.elem T = e := by
  unfold Program.elem
  rw [h.und]
 rw [this]
 exact ⟨h.und, jZ h.size⟩
theorem OT {A : Option Addr} {xs : List Value} (h : RdP ok w A xs) (m : Nat) : RdP ok w A (xs.take m) := fun hn => by
 obtain ⟨b, o, e, hb, hc⟩ := h (fun e => hn (by rw [e]; simp))
 refine ⟨b, o, e, hb, fun j u hu => hc j u ?_⟩
 rw [Y7] at hu
 split at hu
 · exact hu
 · cases hu
theorem Nu {z : Nat} (rows : List (List Value)) (h : ∀ r ∈ rows, r.length = z) : ∀ k, (rows.take k).flatten = rows.flatten.take (k * z) := by
 induction rows with
 | nil => intro k; simp
 | cons r rows ih =>
  intro k
  cases k with
  | zero => simp
  | succ k =>
   have hr := h r (by simp)
   rw [Xp, X8, X8, ih (fun r hr => h r (by simp [hr])) k, YA, YQ, List.take_append, YM (by omega : r.length ≤ k * z + z)]
   congr 2
   omega
theorem Nv {z : Nat} (rows : List (List Value)) (h : ∀ r ∈ rows, r.length = z) : ∀ k, (rows.drop k).flatten = rows.flatten.drop (k * z) := by
 induction rows with
 | nil => intro k; simp
 | cons r rows ih =>
  intro k
  cases k with
  | zero => simp
  | succ k =>
   have hr := h r (by simp)
   rw [mP, X8, ih (fun r hr => h r (by simp [hr])) k, YA, YQ, List.drop_append, List.drop_of_length_le (by omega : r.length ≤ k * z + z), List.nil_append]
   congr 1
   omega
theorem TV {z c : Nat} {A : Option Addr} {ds : List D} {rows : List (List Value)} (h1 : ds.length ≤ c) (h2 : c ≤ maxLen) (h3 : A = none → ds.length = 0 ∧ c = 0) (h4 : RdP ok w A rows.flatten) (h5 : au ok w z ds rows) : bY ok w (.sl z ds) (.slice A ds.length c) := (bM rfl).2 (by rw [Reads]; exact ⟨A, c, rows, rfl, h1, h2, h3, h4, h5⟩)
theorem U7 {x y : Operand} {T e z b : Nat} {k : Int} {ds : List D} (ho : o.op = .slice T x none (some y) none) (hx : ev S x = some (.val (.sl z ds))) (hy : ev S y = some (.val (.v (.int .i64 k)))) (hT : assoc slL T = some (e, z, b)) (hk : 0 ≤ k ∧ k.toNat ≤ ds.length) : Still ops S o (.val (.sl z (ds.take k.toNat))) := fun base ok a w ha => by
 obtain ⟨A, c, rows, h1, h2, h3, h4, h5, h6⟩ := wR (ha.ev hx (dG (by rw [ho]; simp [Op.operands])))
 have hy' := iT ha hy (dG (by rw [ho]; simp [Op.operands]))
 obtain ⟨hu, hs⟩ := qP hT
 have hlen : (ds.take k.toNat).length = k.toNat := by rw [List.length_take]; omega
 refine ⟨.slice A k.toNat c, ?_, by
  have := TV (ok := ok) (w := w) (A := A) (c := c) (ds := ds.take k.toNat) (rows := rows.take k.toNat) (z := z) (by omega) h3 (fun e => by have := h4 e; omega) (by rw [Nu rows (au.lens ds rows h6).2]; exact OT h5 _) (au.take ds rows k.toNat h6)
  rwa [hlen] at this⟩
 unfold execOp
 have hr : (Instr.sliceAt T (.slice A ds.length c) none (some (.int .i64 k)) none).run Tryz.prog w = .ok (.slice A k.toNat c) w := by
  rw [run_sliceAt_slice (P := Tryz.prog) w T _ _ _ _ hu, run_slice_h (P := Tryz.prog) w T A ds.length c hu .i64 k hk.1 (by omega), hs]
  cases A with
  | none => simp [sliced, Result.andThen]
  | some p =>
   have : p.add 0 = p := by cases p; simp [Addr.add]
   simp [sliced, Result.andThen, this]
 simp only [ho, h1, hy', Zc, YI, XO, hr, XF, XR]
theorem EU {z : Nat} {A : Option Addr} {xs : List Value} {n c : Nat} (h : RdP ok w A xs) (hn : xs.length = n * z) (hc : n ≤ c) (k : Nat) (hk : k ≤ n) : RdP ok w (if c = k then A else A.map (·.add (k * z))) (xs.drop (k * z)) := fun hne => by
 have hlt : k * z < xs.length := by
  rcases XY (k * z) xs.length with h1 | h1
  · exact h1
  · exact absurd (XP h1) hne
 have hk' : k < n := by
  rcases XY k n with h1 | h1
  · exact h1
  ·
   have := ZA z h1
   omega
 obtain ⟨b, o, rfl, hb, hcell⟩ := h (fun e => by rw [e] at hlt; simp at hlt)
 rw [if_neg (by omega)]
 refine ⟨b, o + k * z, by simp [eu], hb, fun j u hu => ?_⟩
 rw [Nat.add_assoc]
 exact hcell _ u (by rw [← hu, Zm])
theorem FY {x y : Operand} {T e z b : Nat} {k : Int} {ds : List D} (ho : o.op = .slice T x (some y) none none) (hx : ev S x = some (.val (.sl z ds))) (hy : ev S y = some (.val (.v (.int .i64 k)))) (hT : assoc slL T = some (e, z, b)) (hk : 0 ≤ k ∧ k.toNat ≤ ds.length) : Still ops S o (.val (.sl z (ds.drop k.toNat))) := fun base ok a w ha => by
 obtain ⟨A, c, rows, h1, h2, h3, h4, h5, h6⟩ := wR (ha.ev hx (dG (by rw [ho]; simp [Op.operands])))
 have hy' := iT ha hy (dG (by rw [ho]; simp [Op.operands]))
 obtain ⟨hu, hs⟩ := qP hT
 obtain ⟨hl1, hl2⟩ := au.lens ds rows h6
 have hlen : (ds.drop k.toNat).length = ds.length - k.toNat := by rw [Xx]
 refine ⟨.slice (if c = k.toNat then A else A.map (·.add (k.toNat * z))) (ds.length - k.toNat) (c - k.toNat), ?_, by
  have := TV (ok := ok) (w := w) (A := if c = k.toNat then A else A.map (·.add (k.toNat * z))) (c := c - k.toNat) (ds := ds.drop k.toNat) (rows := rows.drop k.toNat) (z := z) (by omega) (by omega) (fun e => by
   have : A = none := by
    split at e
    · exact e
    · simpa using e
   have := h4 this
   omega) (by rw [Nv rows hl2]; exact EU h5 (by rw [lq rows hl2, hl1]) h2 _ hk.2) (au.drop ds rows k.toNat h6)
  rwa [hlen] at this⟩
 unfold execOp
 have hr : (Instr.sliceAt T (.slice A ds.length c) (some (.int .i64 k)) none none).run Tryz.prog w = .ok (.slice (if c = k.toNat then A else A.map (·.add (k.toNat * z))) (ds.length - k.toNat) (c - k.toNat)) w := by
  rw [run_sliceAt_slice (P := Tryz.prog) w T _ _ _ _ hu, run_slice_l (P := Tryz.prog) w T A ds.length c hu .i64 k hk.1 (by omega), hs]
  rfl
 simp only [ho, h1, hy', Zc, YI, XO, hr, XF, XR]
theorem Ce : ∀ (xs : List Operand) (vs : List Value), NG S xs = some vs → (∀ t, .tmp t ∈ xs → L t) → Kn base ok L S a w → xs.map a.eval = vs
 | [], vs, h, _, _ => by cases h; rfl
 | x :: xs, vs, h, hL, ha => by
  rw [NG] at h
  split at h
  ·
   rename_i v vs' h1 h2
   cases h
   rw [X0, iT ha h1 fun t e => hL t (by simp [e]), Ce xs vs' h2 (fun t ht => hL t (by simp [ht])) ha]
  · cases h
end
section
variable {N : Nat} {X : Cx N} {S S' : St} {a : Act} {w w' : World} {ops : Array Oper} {o : Oper} {Q : Exit → Act → World → Prop} {l : List Oper} {TT : St → List Fr → Prop} {EE : List Fr} {rs : List (Tmp × R)} {os : List Obj} {fs : List (Value × D)}
theorem jl {t ty : Nat} {pos : String} {af : Array Edge} {gd : Option (Nat × Bool)} {x : Operand} {p : Addr} (hx : ev (⟨rs, os, fs⟩ : St) x = some (.val (.v (.pointer (some p))))) (hg : guardOf ops ⟨rs, os, fs⟩ ⟨some t, .nilCheck x, ty, pos, af, gd⟩ = some true) (hN : Nat.blt t N = true) (kk : EL X ops Q l ⟨(t, (.val (.v (.pointer (some p))))) :: rs, os, fs⟩) : EL X ops Q (⟨some t, .nilCheck x, ty, pos, af, gd⟩ :: l) ⟨rs, os, fs⟩ := ES.still (JY rfl hx) hg rfl hN kk
theorem gU {t ty : Nat} {pos : String} {af : Array Edge} {gd : Option (Nat × Bool)} {x : Operand} {p : Addr} (hx : ev (⟨rs, os, fs⟩ : St) x = some (.val (.v (.pointer (some p))))) (hg : guardOf ops ⟨rs, os, fs⟩ ⟨some t, .nilCheck x, ty, pos, af, gd⟩ = some true) (hoff : fF N (some t) EE = true) (kk : EM N ops TT l ⟨(t, (.val (.v (.pointer (some p))))) :: rs, os, fs⟩ EE) : EM N ops TT (⟨some t, .nilCheck x, ty, pos, af, gd⟩ :: l) ⟨rs, os, fs⟩ EE := EH.still (JY rfl hx) hg rfl hoff kk
theorem kU {t ty : Nat} {pos : String} {af : Array Edge} {gd : Option (Nat × Bool)} {x : Operand} {d : D} (hx : ev (⟨rs, os, fs⟩ : St) x = some (.val (.pd d))) (hg : guardOf ops ⟨rs, os, fs⟩ ⟨some t, .nilCheck x, ty, pos, af, gd⟩ = some true) (hN : Nat.blt t N = true) (kk : EL X ops Q l ⟨(t, (.val (.pd d))) :: rs, os, fs⟩) : EL X ops Q (⟨some t, .nilCheck x, ty, pos, af, gd⟩ :: l) ⟨rs, os, fs⟩ := ES.still (zA rfl hx) hg rfl hN kk
theorem oM {t ty : Nat} {pos : String} {af : Array Edge} {gd : Option (Nat × Bool)} {x : Operand} {d : D} (hx : ev (⟨rs, os, fs⟩ : St) x = some (.val (.pd d))) (hg : guardOf ops ⟨rs, os, fs⟩ ⟨some t, .nilCheck x, ty, pos, af, gd⟩ = some true) (hoff : fF N (some t) EE = true) (kk : EM N ops TT l ⟨(t, (.val (.pd d))) :: rs, os, fs⟩ EE) : EM N ops TT (⟨some t, .nilCheck x, ty, pos, af, gd⟩ :: l) ⟨rs, os, fs⟩ EE := EH.still (zA rfl hx) hg rfl hoff kk
theorem iw {t ty : Nat} {pos : String} {af : Array Edge} {gd : Option (Nat × Bool)} {T : Nat} {x : Operand} {d : D} (hx : ev (⟨rs, os, fs⟩ : St) x = some (.val d)) (hT : cnL.contains T = true) (hg : guardOf ops ⟨rs, os, fs⟩ ⟨some t, .makeInterface T x, ty, pos, af, gd⟩ = some true) (hN : Nat.blt t N = true) (kk : EL X ops Q l ⟨(t, (.val (.ifc T d))) :: rs, os, fs⟩) : EL X ops Q (⟨some t, .makeInterface T x, ty, pos, af, gd⟩ :: l) ⟨rs, os, fs⟩ := ES.still (JZ rfl hx hT) hg rfl hN kk
theorem Ed {t ty : Nat} {pos : String} {af : Array Edge} {gd : Option (Nat × Bool)} {T : Nat} {x : Operand} {d : D} (hx : ev (⟨rs, os, fs⟩ : St) x = some (.val d)) (hT : cnL.contains T = true) (hg : guardOf ops ⟨rs, os, fs⟩ ⟨some t, .makeInterface T x, ty, pos, af, gd⟩ = some true) (hoff : fF N (some t) EE = true) (kk : EM N ops TT l ⟨(t, (.val (.ifc T d))) :: rs, os, fs⟩ EE) : EM N ops TT (⟨some t, .makeInterface T x, ty, pos, af, gd⟩ :: l) ⟨rs, os, fs⟩ EE := EH.still (JZ rfl hx hT) hg rfl hoff kk
theorem eP {t ty : Nat} {pos : String} {af : Array Edge} {gd : Option (Nat × Bool)} {x : Operand} {T : Nat} {U : TypeId} {d : D} (hx : ev (⟨rs, os, fs⟩ : St) x = some (.val (.ifc T d))) (hT : cnL.contains T = true) (hg : guardOf ops ⟨rs, os, fs⟩ ⟨some t, .typeAssert x U T true, ty, pos, af, gd⟩ = some true) (hN : Nat.blt t N = true) (kk : EL X ops Q l ⟨(t, (.tpl [d, .v (.bool true)])) :: rs, os, fs⟩) : EL X ops Q (⟨some t, .typeAssert x U T true, ty, pos, af, gd⟩ :: l) ⟨rs, os, fs⟩ := ES.still (SB rfl hx hT) hg rfl hN kk
theorem iC {t ty : Nat} {pos : String} {af : Array Edge} {gd : Option (Nat × Bool)} {x : Operand} {T T1 : Nat} {U : TypeId} {d dz : D} (hx : ev (⟨rs, os, fs⟩ : St) x = some (.val (.ifc T1 d))) (hT : cnL.contains T = true) (hne : Nat.beq T1 T = false) (hz : assoc jJ T = some dz) (hg : guardOf ops ⟨rs, os, fs⟩ ⟨some t, .typeAssert x U T true, ty, pos, af, gd⟩ = some true) (hN : Nat.blt t N = true) (kk : EL X ops Q l ⟨(t, (.tpl [dz, .v (.bool false)])) :: rs, os, fs⟩) : EL X ops Q (⟨some t, .typeAssert x U T true, ty, pos, af, gd⟩ :: l) ⟨rs, os, fs⟩ := ES.still (U9 rfl hx hT hne hz) hg rfl hN kk
theorem KP {t ty : Nat} {pos : String} {af : Array Edge} {gd : Option (Nat × Bool)} {x : Operand} {T : Nat} {U : TypeId} {dz : D} (hx : ev (⟨rs, os, fs⟩ : St) x = some (.val (.v .nilIface))) (hT : cnL.contains T = true) (hz : assoc jJ T = some dz) (hg : guardOf ops ⟨rs, os, fs⟩ ⟨some t, .typeAssert x U T true, ty, pos, af, gd⟩ = some true) (hN : Nat.blt t N = true) (kk : EL X ops Q l ⟨(t, (.tpl [dz, .v (.bool false)])) :: rs, os, fs⟩) : EL X ops Q (⟨some t, .typeAssert x U T true, ty, pos, af, gd⟩ :: l) ⟨rs, os, fs⟩ := ES.still (SC rfl hx hT hz) hg rfl hN kk
theorem QL {t ty : Nat} {pos : String} {af : Array Edge} {gd : Option (Nat × Bool)} {x y : Operand} {T e z b i : Nat} {k : Int} {v : Value} {ds : List D} (hx : ev (⟨rs, os, fs⟩ : St) x = some (.val (.v v))) (hi : os[i]? = some (.row v e z ds)) (hy : ev (⟨rs, os, fs⟩ : St) y = some (.val (.v (.int .i64 k)))) (hT : assoc slL T = some (e, z, b)) (hk : 0 ≤ k ∧ k.toNat < ds.length) (hg : guardOf ops ⟨rs, os, fs⟩ ⟨some t, .indexAddr T x y, ty, pos, af, gd⟩ = some true) (hN : Nat.blt t N = true) (kk : EL X ops Q l ⟨(t, (.val (.v (fK v (k.toNat * z))))) :: rs, os, fs⟩) : EL X ops Q (⟨some t, .indexAddr T x y, ty, pos, af, gd⟩ :: l) ⟨rs, os, fs⟩ := ES.still (FZ rfl hx i hi hy hT hk) hg rfl hN kk
theorem jw {t ty : Nat} {pos : String} {af : Array Edge} {gd : Option (Nat × Bool)} {x y : Operand} {T e z b i : Nat} {k : Int} {v : Value} {ds : List D} (hx : ev (⟨rs, os, fs⟩ : St) x = some (.val (.v v))) (hi : os[i]? = some (.row v e z ds)) (hy : ev (⟨rs, os, fs⟩ : St) y = some (.val (.v (.int .i64 k)))) (hT : assoc slL T = some (e, z, b)) (hk : 0 ≤ k ∧ k.toNat < ds.length) (hg : guardOf ops ⟨rs, os, fs⟩ ⟨some t, .indexAddr T x y, ty, pos, af, gd⟩ = some true) (hoff : fF N (some t) EE = true) (kk : EM N ops TT l ⟨(t, (.val (.v (fK v (k.toNat * z))))) :: rs, os, fs⟩ EE) : EM N ops TT (⟨some t, .indexAddr T x y, ty, pos, af, gd⟩ :: l) ⟨rs, os, fs⟩ EE := EH.still (FZ rfl hx i hi hy hT hk) hg rfl hoff kk
theorem mO {t ty : Nat} {pos : String} {af : Array Edge} {gd : Option (Nat × Bool)} {x : Operand} {T k off sz e z i n : Nat} {ag : Bool} {v : Value} {ds : List D} {lf : List (Nat × Nat × Bool)} (hx : ev (⟨rs, os, fs⟩ : St) x = some (.val (.v (fK v n)))) (hi : os[i]? = some (.row v e z ds)) (hk0 : 0 < ds.length) (h : assoc stL T = some lf) (hk : lf[k]? = some (off, sz, ag)) (h0 : Nat.blt 0 sz = true) (hg : guardOf ops ⟨rs, os, fs⟩ ⟨some t, .fieldAddr T x k, ty, pos, af, gd⟩ = some true) (hoff : fF N (some t) EE = true) (kk : EM N ops TT l ⟨(t, (.val (.v (fK v (n + off))))) :: rs, os, fs⟩ EE) : EM N ops TT (⟨some t, .fieldAddr T x k, ty, pos, af, gd⟩ :: l) ⟨rs, os, fs⟩ EE := EH.still (IU rfl hx i hi hk0 h hk h0) hg rfl hoff kk
theorem kV {t ty : Nat} {pos : String} {af : Array Edge} {gd : Option (Nat × Bool)} {x : Operand} {T sz e z i n k off : Nat} {ag : Bool} {v : Value} {ds : List D} {d d' : D} (hx : ev (⟨rs, os, fs⟩ : St) x = some (.val (.v (fK v n)))) (hi : os[i]? = some (.row v e z ds)) (hk : n = k * z + off ∧ ds[k]? = some d) (hT : assoc tyL T = some (sz, ag)) (hs : d.sub off sz ag = some d') (hg : guardOf ops ⟨rs, os, fs⟩ ⟨some t, .load T x, ty, pos, af, gd⟩ = some true) (hoff : fF N (some t) EE = true) (kk : EM N ops TT l ⟨(t, (.val d')) :: rs, os, fs⟩ EE) : EM N ops TT (⟨some t, .load T x, ty, pos, af, gd⟩ :: l) ⟨rs, os, fs⟩ EE := EH.still (Nj hk rfl hx i hi hT hs) hg rfl hoff kk
theorem Jm {t ty : Nat} {pos : String} {af : Array Edge} {gd : Option (Nat × Bool)} {x y : Operand} {T e z b : Nat} {k : Int} {ds : List D} (hx : ev (⟨rs, os, fs⟩ : St) x = some (.val (.sl z ds))) (hy : ev (⟨rs, os, fs⟩ : St) y = some (.val (.v (.int .i64 k)))) (hT : assoc slL T = some (e, z, b)) (hk : 0 ≤ k ∧ k.toNat ≤ ds.length) (hg : guardOf ops ⟨rs, os, fs⟩ ⟨some t, .slice T x none (some y) none, ty, pos, af, gd⟩ = some true) (hoff : fF N (some t) EE = true) (kk : EM N ops TT l ⟨(t, (.val (.sl z (ds.take k.toNat)))) :: rs, os, fs⟩ EE) : EM N ops TT (⟨some t, .slice T x none (some y) none, ty, pos, af, gd⟩ :: l) ⟨rs, os, fs⟩ EE := EH.still (U7 rfl hx hy hT hk) hg rfl hoff kk
theorem GX {t ty : Nat} {pos : String} {af : Array Edge} {gd : Option (Nat × Bool)} {x y : Operand} {T e z b : Nat} {k : Int} {ds : List D} (hx : ev (⟨rs, os, fs⟩ : St) x = some (.val (.sl z ds))) (hy : ev (⟨rs, os, fs⟩ : St) y = some (.val (.v (.int .i64 k)))) (hT : assoc slL T = some (e, z, b)) (hk : 0 ≤ k ∧ k.toNat ≤ ds.length) (hg : guardOf ops ⟨rs, os, fs⟩ ⟨some t, .slice T x (some y) none none, ty, pos, af, gd⟩ = some true) (hN : Nat.blt t N = true) (kk : EL X ops Q l ⟨(t, (.val (.sl z (ds.drop k.toNat)))) :: rs, os, fs⟩) : EL X ops Q (⟨some t, .slice T x (some y) none none, ty, pos, af, gd⟩ :: l) ⟨rs, os, fs⟩ := ES.still (FY rfl hx hy hT hk) hg rfl hN kk
theorem Am {t ty : Nat} {pos : String} {af : Array Edge} {gd : Option (Nat × Bool)} {x y : Operand} {T e z b : Nat} {k : Int} {ds : List D} (hx : ev (⟨rs, os, fs⟩ : St) x = some (.val (.sl z ds))) (hy : ev (⟨rs, os, fs⟩ : St) y = some (.val (.v (.int .i64 k)))) (hT : assoc slL T = some (e, z, b)) (hk : 0 ≤ k ∧ k.toNat ≤ ds.length) (hg : guardOf ops ⟨rs, os, fs⟩ ⟨some t, .slice T x (some y) none none, ty, pos, af, gd⟩ = some true) (hoff : fF N (some t) EE = true) (kk : EM N ops TT l ⟨(t, (.val (.sl z (ds.drop k.toNat)))) :: rs, os, fs⟩ EE) : EM N ops TT (⟨some t, .slice T x (some y) none none, ty, pos, af, gd⟩ :: l) ⟨rs, os, fs⟩ EE := EH.still (FY rfl hx hy hT hk) hg rfl hoff kk
end
end E
end Go.Proofs.YtelbhdobjdnglaaGreat
