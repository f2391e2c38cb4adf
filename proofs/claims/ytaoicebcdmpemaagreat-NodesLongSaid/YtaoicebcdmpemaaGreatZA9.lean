/-
 Merged: lemmas of this claim.
 Conditions: none.
-/
import Derived.Test.YtaoicebcdmpemaaGreatZA8
import Derived.Laws.Slices
import Derived.Test.YtaoicebcdmpemaaGreatZA0
namespace Go.Proofs.YtaoicebcdmpemaaGreat
set_option linter.unusedVariables false
set_option maxHeartbeats 2000000
open Go.RowKit Mono Rlp
namespace E
def bG (l : List Oper) (ix : List Nat) : List Oper := ix.filterMap (l[·]?)
def CH (N : Nat) (ops : Array Oper) (os1 : List Obj) (T : St → Prop) : List Oper → St → Prop
 | [], S => T S
 | o :: l, S => (∀ t, o.dst = some t → t < N) ∧ ((∃ inf : Inf, inf.vk = true ∧ OkI N ops S o inf ∧ CH N ops os1 T l (S.put o.dst inf.reg)) ∨
   ∃ os rest Φ, S.objs = os ++ (rest ++ os1) ∧ guardOf ops S o = some true ∧ jW ops ⟨S.regs, rest ++ os1, S.facts⟩ o os Φ ∧ ∀ r os', Φ r os' → CH N ops os1 T l (St.put ⟨S.regs, os' ++ (rest ++ os1), S.facts⟩ o.dst r))
theorem CH.seg {N : Nat} {ops : Array Oper} {os1 : List Obj} {T : St → Prop} {l2 : List Oper} : ∀ (l1 : List Oper) (S : St) (E : List Fr), EM N ops (fun S' _ => CH N ops os1 T l2 S') l1 S E → CH N ops os1 T (l1 ++ l2) S
 | [], S, E, h => h
 | o :: l1, S, E, ⟨inf, h0, h1, h2, h3, h4⟩ => ⟨fun t ht => by
   rw [ht] at h1
   simp only [dF, Ik, decide_eq_true_eq] at h1
   exact h1.1, .inl ⟨inf, h0, h3, CH.seg l1 _ _ h4⟩⟩
theorem CH.cut {N : Nat} {ops : Array Oper} {os1 : List Obj} {T : St → Prop} {l : List Oper} {S : St} (k : Nat) (h : EM N ops (fun S' _ => CH N ops os1 T (l.drop k) S') (l.take k) S []) : CH N ops os1 T l S := by
 have := CH.seg _ _ _ h
 rwa [Jd] at this
theorem CH.nil {N : Nat} {ops : Array Oper} {os1 : List Obj} {T : St → Prop} {S : St} (h : T S) : CH N ops os1 T [] S := h
theorem CH.mut {N : Nat} {ops : Array Oper} {os1 os rest : List Obj} {T : St → Prop} {rs : List (Tmp × R)} {fs : List (Value × D)} {Φ : R → List Obj → Prop} {o : Oper} {l : List Oper} (hd : BZ N o.dst = true) (hg : guardOf ops ⟨rs, os ++ (rest ++ os1), fs⟩ o = some true) (hO : jW ops ⟨rs, rest ++ os1, fs⟩ o os Φ)
  (k : ∀ r os', Φ r os' → CH N ops os1 T l (St.put ⟨rs, os' ++ (rest ++ os1), fs⟩ o.dst r)) : CH N ops os1 T (o :: l) ⟨rs, os ++ (rest ++ os1), fs⟩ := ⟨EG hd, .inr ⟨os, rest, Φ, rfl, hg, hO, k⟩⟩
def mG (l : List Oper) (n : Nat) (free chain : List Nat) : Bool :=
 (List.range n).all (fun k => free.contains k != chain.contains k) && free.all (fun k => decide (k < n)) && chain.all (fun k => decide (k < n)) && decide (n ≤ l.length) &&
 (List.range free.length).all (fun i => (List.range i).all fun j => decide (free.getD j 0 < free.getD i 0)) && (List.range chain.length).all (fun i => (List.range i).all fun j => decide (chain.getD j 0 < chain.getD i 0)) &&
 (List.range chain.length).all (fun i => i == 0 || match l[chain.getD i 0]? with
  | some o => o.after.toList.any fun e => Region.binds .any e && e.on == chain.getD (i - 1) 0
  | none => false) &&
 (List.range n).all (fun k => match l[k]? with
  | some o => (o.looksAt l.toArray).all (fun t => (List.range n).all fun j => decide (j < k) || (l[j]?.bind (·.dst)) != some t) &&
   (match o.dst with
    | some t => (List.range k).all fun j => (l[j]?.bind (·.dst)) != some t
    | none => true)
  | none => false) &&
 free.all (fun k => match l[k]? with
  | some o => (o.looksAt l.toArray).all fun t => chain.all fun j => (l[j]?.bind (·.dst)) != some t
  | none => true)
structure Dk (l : List Oper) (n : Nat) (free chain : List Nat) : Prop where
 part : ∀ k, k < n → (k ∈ free ∧ k ∉ chain) ∨ (k ∉ free ∧ k ∈ chain)
 flt : ∀ k ∈ free, k < n
 clt : ∀ k ∈ chain, k < n
 le : n ≤ l.length
 fup : ∀ i j : Nat, j < i → i < free.length → free.getD j 0 < free.getD i 0
 cup : ∀ i j : Nat, j < i → i < chain.length → chain.getD j 0 < chain.getD i 0
 wait : ∀ (i : Nat) (o : Oper), 0 < i → i < chain.length → l[chain.getD i 0]? = some o → ∃ e ∈ o.after, Region.binds .any e = true ∧ e.on = chain.getD (i - 1) 0
 back : ∀ (k j : Nat) (o oj : Oper) (t : Tmp), k < n → l[k]? = some o → t ∈ o.looksAt l.toArray → k ≤ j → j < n → l[j]? = some oj → oj.dst ≠ some t
 free : ∀ (k j : Nat) (o oj : Oper) (t : Tmp), k ∈ free → l[k]? = some o → t ∈ o.looksAt l.toArray → j ∈ chain → l[j]? = some oj → oj.dst ≠ some t
 once : ∀ (k j : Nat) (o oj : Oper) (t : Tmp), k < n → l[k]? = some o → o.dst = some t → j < k → l[j]? = some oj → oj.dst ≠ some t
theorem uK {l : List Oper} {n : Nat} {free chain : List Nat} (h : mG l n free chain = true) : Dk l n free chain := by
 unfold mG at h
 simp only [Ik, Ho, Jh, decide_eq_true_eq] at h
 obtain ⟨⟨⟨⟨⟨⟨⟨⟨h1, h2⟩, h3⟩, h4⟩, h5⟩, h6⟩, h7⟩, h8⟩, h9⟩ := h
 refine ⟨fun k hk => ?_, h2, h3, h4, fun i j hj hi => h5 i hi j hj, fun i j hj hi => h6 i hi j hj, fun i o hi hl ho => ?_, fun k j o oj t hk ho ht hkj hj hoj e => ?_, fun k j o oj t hk ho ht hj hoj e => ?_, fun k j o oj t hk ho ht hj hoj e => ?_⟩
 ·
  have := h1 k hk
  by_cases e1 : k ∈ free <;> by_cases e2 : k ∈ chain <;> simp [e1, e2] at this ⊢
 ·
  have := h7 i hl
  rw [ho] at this
  simp only [Bool.or_eq_true, beq_iff_eq] at this
  rcases this with h | h
  · omega
  ·
   obtain ⟨e, he, hb⟩ := List.any_eq_true.1 h
   simp only [Ik, beq_iff_eq] at hb
   exact ⟨e, by simpa using he, hb.1, hb.2⟩
 ·
  have := h8 k hk
  rw [ho] at this
  simp only [Ik, Ho, Jh] at this
  have := this.1 t ht j hj
  rw [hoj] at this
  simp [e] at this
  omega
 ·
  have := h9 k hk
  rw [ho] at this
  simp only [Ho] at this
  have := this t ht j hj
  rw [hoj] at this
  simp [e] at this
 ·
  have := h8 k hk
  rw [ho] at this
  simp only [Ik] at this
  have := this.2
  rw [ht] at this
  simp only [Ho, Jh] at this
  have := this j hj
  rw [hoj] at this
  simp [e] at this
theorem jO {l : List Oper} : ∀ (ix : List Nat), (∀ k ∈ ix, k < l.length) → (bG l ix).length = ix.length ∧ ∀ p : Nat, p < ix.length → (bG l ix)[p]? = l[ix.getD p 0]?
 | [], _ => ⟨rfl, fun p h => absurd h (by simp)⟩
 | k :: ix, h => by
  have hk := h k (by simp)
  obtain ⟨h1, h2⟩ := jO ix fun j hj => h j (by simp [hj])
  have e : bG l (k :: ix) = l[k] :: bG l ix := by
   unfold bG
   rw [Je]
   simp [hk]
  rw [e]
  refine ⟨by simp [h1], fun p hp => ?_⟩
  cases p with
  | zero => simp [hk]
  | succ p => simpa using h2 p (by simpa using hp)
theorem qp {V V' : VP} {r : Result Next} (h : bZ Tryz.prog V r) (k : ∀ v w', V v w' → V' v w') : bZ Tryz.prog V' r := by
 cases r with
 | ok x w' =>
  cases x <;> simp only [bZ] at h ⊢
  case value v => exact k _ _ h
  case skip => exact k _ _ h
  case enter g args => exact h.mono fun e w'' ⟨v, he, hv⟩ => ⟨v, he, k _ _ hv⟩
 | halt x w' => simp only [bZ] at h
theorem jM : ∀ (l : List Oper) (infs : List Inf) (k : Nat) (S : St) (t : Tmp) (r : R), look (bH S l infs k).regs t = some r →
  (∃ q o i, q < k ∧ l[q]? = some o ∧ infs[q]? = some i ∧ o.dst = some t ∧ r = i.reg) ∨ look S.regs t = some r
 | _, _, 0, S, t, r, h => .inr (by simpa [bH] using h)
 | [], infs, k + 1, S, t, r, h => .inr (by simpa [bH] using h)
 | o :: l, [], k + 1, S, t, r, h => .inr (by simpa [bH] using h)
 | o :: l, i :: infs, k + 1, S, t, r, h => by
  rw [bH] at h
  rcases jM l infs k _ t r h with ⟨q, oq, iq, h1, h2, h3, h4, h5⟩ | h1
  · exact .inl ⟨q + 1, oq, iq, by omega, by simpa using h2, by simpa using h3, h4, h5⟩
  ·
   cases hd : o.dst with
   | none => rw [hd] at h1; exact .inr h1
   | some d =>
    rw [hd] at h1
    simp only [St.put, look] at h1
    split at h1
    ·
     rename_i e
     cases h1
     exact .inl ⟨0, o, i, by omega, rfl, rfl, by rw [hd, e], rfl⟩
    · exact .inr h1
section
variable {N : Nat} {X : Cx N} {S : St} {a : Act} {Q : Exit → Act → World → Prop} {l : List Oper}
structure Real (X : Cx N) (l : List Oper) (n : Nat) (ch : List Nat) (a : Act) (RF : List (Tmp × R)) (os1 : List Obj) (fs : List (Value × D)) (S : St) (L : Nat → Prop) (vs : Nat → Value) (u : World) : Prop where
 mem : Mem X S.objs S.facts u
 tail : ∃ os, S.objs = os ++ os1
 facts : S.facts = fs
 regs : ∀ t r, look S.regs t = some r → (∀ j o, j < n → l[j]? = some o → o.dst = some t → L j → aB (X.ok S.objs u) u r (vs j)) ∧ ((∀ j o, j < n → l[j]? = some o → o.dst ≠ some t) → aB (X.ok S.objs u) u r (a.tmps.getD t undef))
 free : ∀ t r, look RF t = some r → (∀ j o, j ∈ ch → l[j]? = some o → o.dst ≠ some t) → look S.regs t = some r
theorem EC.Dw {id : Nat} (n : Nat) (free chain : List Nat) (os0 os1 : List Obj) (hB : monoB l.toArray n N = true) (hC : mG l n free chain = true) (hS : S.objs = os0 ++ os1)
  (h : EM N l.toArray (fun S' _ => CH N l.toArray os1 (fun S'' => EL X l.toArray Q (l.drop n) S'') (bG l chain) ⟨S'.regs, os0 ++ os1, S.facts⟩) (bG l free) ⟨S.regs, os1, S.facts⟩ []) : EC X Q (.region id l.toArray true) S := by
 constructor
 intro a ws ha
 have C := uK hC
 obtain ⟨infs, hlen, hok, hT, hnp⟩ := iU _ _ _ h
 have hfree := jO (l := l) free fun k hk => GZ (C.flt k hk) C.le
 have hchain := jO (l := l) chain fun k hk => GZ (C.clt k hk) C.le
 rw [hfree.1] at hlen hT
 have hdst : ∀ k o, l[k]? = some o → aF l.toArray k = o.dst := fun k o ho => by unfold aF; simp [ho]
 have hsl : ∀ k o L vs (b : Act) t, k < n → l[k]? = some o → t ∈ o.looksAt l.toArray → iO l.toArray L vs a b k t → (∃ j oj, j < n ∧ l[j]? = some oj ∧ oj.dst = some t ∧ L j ∧ b.tmps.getD t undef = vs j) ∨ ((∀ j o, j < n → l[j]? = some o → o.dst ≠ some t) ∧ b.tmps.getD t undef = a.tmps.getD t undef) := fun k o L vs b t hk ho ht hs => by
  rcases hs with ⟨j, h1, h2, h3, h4, h5⟩ | ⟨h1, h2⟩
  ·
   have hj : j < l.length := by have := C.le; omega
   exact .inl ⟨j, l[j], by omega, by simp, by rw [← hdst j l[j] (by simp)]; exact h2, h4, h5⟩
  ·
   refine .inr ⟨fun j oj hj hoj e => ?_, h2⟩
   rcases Hu j k with h3 | h3
   · exact h1 j h3 (by rw [hdst j oj hoj]; exact e)
   · exact C.back k j o oj t hk ho ht h3 hj hoj e
 have huniq : ∀ j j' o o' t, j < n → j' < n → l[j]? = some o → l[j']? = some o' → o.dst = some t → o'.dst = some t → j = j' := fun j j' o o' t hj hj' ho ho' hd hd' => by
  rcases I9 j j' with h | h | h
  · exact absurd hd (C.once j' j o' o t hj' ho' hd' h ho)
  · exact h
  · exact absurd hd' (C.once j j' o o' t hj ho hd h ho')
 let RF := (bH ⟨S.regs, os1, S.facts⟩ (bG l free) infs free.length).regs
 have hRF : ∀ t r, look RF t = some r → (∃ p o i, p < free.length ∧ l[free.getD p 0]? = some o ∧ infs[p]? = some i ∧ o.dst = some t ∧ r = i.reg) ∨ look S.regs t = some r := fun t r hr => by
  rcases jM _ _ _ _ _ _ hr with ⟨q, oq, iq, h1, h2, h3, h4, h5⟩ | h1
  · exact .inl ⟨q, oq, iq, h1, by rw [← hfree.2 q h1]; exact h2, h3, h4, h5⟩
  · exact .inr h1
 have hfl : ∀ p, p < free.length → free.getD p 0 < n ∧ free.getD p 0 ∈ free := fun p hp => by
  have : free.getD p 0 ∈ free := by
   rw [Io, Hz hp]
   exact List.getElem_mem hp
  exact ⟨C.flt _ this, this⟩
 have hcl : ∀ p, p < chain.length → chain.getD p 0 < n ∧ chain.getD p 0 ∈ chain := fun p hp => by
  have : chain.getD p 0 ∈ chain := by
   rw [Io, Hz hp]
   exact List.getElem_mem hp
  exact ⟨C.clt _ this, this⟩
 have hput : ∀ p o i, p < free.length → l[free.getD p 0]? = some o → infs[p]? = some i → ∀ t, o.dst = some t → look RF t = some i.reg := fun p o i hp ho hi t ht => by
  have hlk := (bT (bG l free) infs free.length ⟨S.regs, os1, S.facts⟩ t (by rw [hlen, hfree.1]) (by rw [hfree.1]; exact Nat.le_refl _)).1
  refine hlk p o i hp (by rw [hfree.2 p hp]; exact ho) hi ht fun m om h1 h2 h3 e => ?_
  rw [hfree.2 m h2] at h3
  have := huniq _ _ _ _ t (hfl p hp).1 (hfl m h2).1 ho h3 ht e
  have := C.fup m p h1 h2
  omega
 have hmono : ∀ p o t r, p < free.length → l[free.getD p 0]? = some o → t ∈ o.looksAt l.toArray → look (bH ⟨S.regs, os1, S.facts⟩ (bG l free) infs p).regs t = some r → look RF t = some r := fun p o t r hp ho ht hr => by
  rcases jM _ _ _ _ _ _ hr with ⟨q, oq, iq, h1, h2, h3, h4, h5⟩ | h1
  ·
   rw [h5]
   have hq : q < free.length := by omega
   exact hput q oq iq hq (by rw [← hfree.2 q hq]; exact h2) h3 t h4
  ·
   have hlk := (bT (bG l free) infs free.length ⟨S.regs, os1, S.facts⟩ t (by rw [hlen, hfree.1]) (by rw [hfree.1]; exact Nat.le_refl _)).2
   have hpre := (bT (bG l free) infs p ⟨S.regs, os1, S.facts⟩ t (by rw [hlen, hfree.1]) (by rw [hfree.1]; exact Nat.le_of_lt hp))
   by_cases hex : ∃ m om, m < p ∧ (bG l free)[m]? = some om ∧ om.dst = some t
   ·
    -- what was put ahead stays
    obtain ⟨m, om, g1, g2, g3⟩ := hex
    have hm : m < free.length := by omega
    obtain ⟨inf, hi⟩ : ∃ inf, infs[m]? = some inf := ⟨infs[m]'(by omega), by simp⟩
    have e1 := hpre.1 m om inf g1 g2 hi g3 fun m' om' h1 h2 h3 e => by
     rw [hfree.2 m' (by omega)] at h3
     rw [hfree.2 m hm] at g2
     have := huniq _ _ _ _ t (hfl m hm).1 (hfl m' (by omega)).1 g2 h3 g3 e
     have := C.fup m' m h1 (by omega)
     omega
    rw [hr] at e1
    cases e1
    exact hput m om inf hm (by rw [← hfree.2 m hm]; exact g2) hi t g3
   have := hlk fun m om h2 h3 e => by
    rcases Hu m p with h4 | h4
    · exact hex ⟨m, om, h4, h3, e⟩
    ·
     rw [hfree.2 m h2] at h3
     have hle : free.getD p 0 ≤ free.getD m 0 := by
      rcases Hu p m with h5 | h5
      · exact Nat.le_of_lt (C.fup m p h5 h2)
      · rw [show m = p by omega]; exact Nat.le_refl _
     exact C.back _ _ o om t (hfl p hp).1 ho ht hle (hfl m h2).1 h3 e
   show look (bH ⟨S.regs, os1, S.facts⟩ (bG l free) infs free.length).regs t = some r
   rw [this]
   exact h1
 have hT' : CH N l.toArray os1 (fun S'' => EL X l.toArray Q (l.drop n) S'') (bG l chain) ⟨RF, os0 ++ os1, S.facts⟩ := hT
 clear hT h
 refine gK n (by kernel_rfl) (by rw [ha.size]; exact hB) (fun L vs u => ∃ i Si, i ≤ chain.length ∧ (∀ p, p < i → L (chain.getD p 0)) ∧ (∀ p, i ≤ p → p < chain.length → ¬ L (chain.getD p 0)) ∧ CH N l.toArray os1 (fun S'' => EL X l.toArray Q (l.drop n) S'') ((bG l chain).drop i) Si ∧ Real X l n chain a RF os1 S.facts Si L vs u) ?_ ?_ ?_ ?_
 ·
  rintro L L' vs vs' w hL hvs ⟨i, Si, h1, h2, h3, h4, h5⟩
  obtain rfl : L = L' := funext fun j => propext (hL j)
  refine ⟨i, Si, h1, h2, h3, h4, h5.mem, h5.tail, h5.facts, fun t r hr => ?_, h5.free⟩
  obtain ⟨g1, g2⟩ := h5.regs t r hr
  exact ⟨fun j o hj ho hd hL => by rw [← hvs j hL]; exact g1 j o hj ho hd hL, g2⟩
 ·
  have had : At X S a ws.drew := ha.gr (by exact ⟨rfl, rfl, rfl, Nat.le_refl _, fun _ _ => rfl⟩)
  refine ⟨0, ⟨RF, os0 ++ os1, S.facts⟩, I8 _, fun p hp => absurd hp (by omega), fun _ _ _ h => h.elim, by rw [GV]; exact hT', ?_, ⟨os0, rfl⟩, rfl, fun t r hr => ⟨fun _ _ _ _ _ h => h.elim, fun hno => ?_⟩, fun t r hr _ => hr⟩
  · rw [← hS]; exact had.mem
  ·
   rcases hRF t r hr with ⟨p, o, i, h1, h2, h3, h4, h5⟩ | h1
   · exact absurd h4 (hno _ o (hfl p h1).1 h2)
   ·
    rw [← hS]
    exact had.regs t r h1
 ·
  intro k o L vs b u hk ho hL hLk ⟨i, Si, h1, h2, h3, h4, h5⟩ hslot hwait
  rcases C.part k hk with ⟨hkf, hkc⟩ | ⟨hkf, hkc⟩
  ·
   -- a free operation
   obtain ⟨p, hp, rfl⟩ : ∃ p, p < free.length ∧ free.getD p 0 = k := by
    obtain ⟨p, hp⟩ := List.getElem?_of_mem hkf
    exact ⟨p, (G5.1 hp).1, by rw [Io, hp]; rfl⟩
   obtain ⟨inf, hi⟩ : ∃ inf, infs[p]? = some inf := ⟨infs[p]'(by omega), by simp⟩
   obtain ⟨hO, _, _⟩ := hok p o inf (by rw [hfree.2 p hp]; exact ho) hi
   have hkn : Kn X.mine (X.ok Si.objs u) (fun t => t ∈ o.looksAt l.toArray) (bH ⟨S.regs, os1, S.facts⟩ (bG l free) infs p) b u := by
    obtain ⟨os, hos⟩ := h5.tail
    refine ⟨fun q hq => ?_, fun f hf => ?_, fun b hb => hb.2.1, fun t r ht hr => ?_⟩
    ·
     rw [(aJ _ _ _ _).1] at hq
     exact h5.mem.at_ q (by rw [hos]; exact Hl _ hq)
    ·
     rw [(aJ _ _ _ _).2] at hf
     exact h5.mem.fact f (by rw [h5.facts]; exact hf)
    ·
     obtain ⟨g1, g2⟩ := h5.regs t r (h5.free t r (hmono p o t r hp ho ht hr) fun j oj hj hoj => C.free _ j o oj t hkf ho ht hj hoj)
     rcases hsl _ o L vs b t hk ho ht (hslot t ht) with ⟨j, oj, e1, e2, e3, e4, e5⟩ | ⟨e1, e2⟩
     · rw [e5]; exact g1 j oj e1 e2 e3 e4
     · rw [e2]; exact g2 e1
   have hnext : ∀ v u', Gr u u' → aB (X.ok Si.objs u') u' inf.reg v → ∃ i Si, i ≤ chain.length ∧ (∀ q, q < i → (chain.getD q 0 = free.getD p 0 ∨ L (chain.getD q 0))) ∧ (∀ q, i ≤ q → q < chain.length → ¬ (chain.getD q 0 = free.getD p 0 ∨ L (chain.getD q 0))) ∧ CH N l.toArray os1 (fun S'' => EL X l.toArray Q (l.drop n) S'') ((bG l chain).drop i) Si ∧ Real X l n chain a RF os1 S.facts Si (fun j => j = free.getD p 0 ∨ L j) (fun j => if j = free.getD p 0 then v else vs j) u' := fun v u' hg hv => by
    refine ⟨i, Si, h1, fun q hq => .inr (h2 q hq), fun q hq hq' e => ?_, h4, h5.mem.grown hg, h5.tail, h5.facts, fun t r hr => ?_, h5.free⟩
    ·
     rcases e with e | e
     · exact hkc (by rw [← e]; exact (hcl q hq').2)
     · exact h3 q hq hq' e
    ·
     obtain ⟨g1, g2⟩ := h5.regs t r hr
     refine ⟨fun j oj hj hoj hd hLj => ?_, fun hno => lF hg (g2 hno)⟩
     by_cases e : j = free.getD p 0
     ·
      rw [if_pos e]
      subst e
      obtain rfl : oj = o := Ie (hoj.symm.trans ho)
      have := h5.free t _ (hput p oj inf hp ho hi t hd) fun j' oj' hj' hoj' e' => by
       have := huniq _ _ _ _ t hk (C.clt j' hj') hoj hoj' hd e'
       exact hkc (by rw [this]; exact hj')
      rw [hr] at this
      cases this
      exact hv
     ·
      rw [if_neg e]
      exact lF hg (g1 j oj hj hoj hd (hLj.resolve_left e))
   cases inf with
   | still r =>
    obtain ⟨hg, hSt⟩ := hO
    refine ⟨fun _ => ?_, fun hw => by rw [aS hkn hg] at hw; cases hw⟩
    obtain ⟨v, e1, e2⟩ := hSt _ _ b u hkn
    rw [e1]
    exact hnext v u (Gr.refl u) e2
   | grow r =>
    obtain ⟨hg, hSt⟩ := hO
    refine ⟨fun _ => cZ (hSt _ _ b u hkn) (fun v w' hgr hv => ?_), fun hw => by rw [aS hkn hg] at hw; cases hw⟩
    obtain ⟨r', rfl, hv⟩ := hv
    exact hnext v w' hgr (hv.mono (fun b hb => kR h5.mem hgr hb) fun _ _ => rfl)
   | put p q => cases hnp _ _ hi
   | skip =>
    refine ⟨fun hw => (by rw [aS hkn hO] at hw; cases hw), fun _ => ?_⟩
    exact hnext undef u (Gr.refl u) ⟨[], rfl, rfl⟩
   | new T d =>
    obtain ⟨hg, hSt⟩ := hO
    refine ⟨fun _ => ?_, fun hw => by rw [aS hkn hg] at hw; cases hw⟩
    obtain ⟨cs, e1, e2⟩ := hSt _ _ b u hkn
    rw [e1]
    exact hnext _ _ (aG u _) trivial
  ·
   -- the next of the chain
   obtain ⟨m, hm, rfl⟩ : ∃ m, m < chain.length ∧ chain.getD m 0 = k := by
    obtain ⟨p, hp⟩ := List.getElem?_of_mem hkc
    exact ⟨p, (G5.1 hp).1, by rw [Io, hp]; rfl⟩
   have hmi : m = i := by
    rcases I9 m i with e | e | e
    · exact absurd (h2 m e) hLk
    · exact e
    ·
     exfalso
     obtain ⟨ed, he, hb, hon⟩ := C.wait m o (by omega) hm ho
     have := hwait ed he hb
     rw [hon] at this
     exact h3 (m - 1) (by omega) (by omega) this
   subst hmi
   have hdrop : (bG l chain).drop m = o :: (bG l chain).drop (m + 1) := by
    have hml : m < (bG l chain).length := by rw [hchain.1]; exact hm
    rw [List.drop_eq_getElem_cons hml]
    have := hchain.2 m hm
    rw [ho, Hz hml] at this
    rw [Ie this]
   rw [hdrop] at h4
   obtain ⟨hdN, h4⟩ := h4
   have hkreg : ∀ t r, t ∈ o.looksAt l.toArray → look Si.regs t = some r → aB (X.ok Si.objs u) u r (b.tmps.getD t undef) := fun t r ht hr => by
    obtain ⟨g1, g2⟩ := h5.regs t r hr
    rcases hsl _ o L vs b t hk ho ht (hslot t ht) with ⟨j, oj, e1, e2, e3, e4, e5⟩ | ⟨e1, e2⟩
    · rw [e5]; exact g1 j oj e1 e2 e3 e4
    · rw [e2]; exact g2 e1
   have hkn : Kn X.mine (X.ok Si.objs u) (fun t => t ∈ o.looksAt l.toArray) Si b u := ⟨h5.mem.at_, h5.mem.fact, fun b hb => hb.2.1, fun t r ht hr => hkreg t r ht hr⟩
   have hnext : ∀ v u' objs' r', Mem X objs' Si.facts u' → (∃ os, objs' = os ++ os1) → (∀ b, X.ok Si.objs u b → X.ok objs' u' b) → (∀ p : Addr, X.ok Si.objs u p.block → u'.cell? p = u.cell? p) → aB (X.ok objs' u') u' r' v →
     CH N l.toArray os1 (fun S'' => EL X l.toArray Q (l.drop n) S'') ((bG l chain).drop (m + 1)) (St.put ⟨Si.regs, objs', Si.facts⟩ o.dst r') →
     ∃ i Si, i ≤ chain.length ∧ (∀ q, q < i → (chain.getD q 0 = chain.getD m 0 ∨ L (chain.getD q 0))) ∧ (∀ q, i ≤ q → q < chain.length → ¬ (chain.getD q 0 = chain.getD m 0 ∨ L (chain.getD q 0))) ∧ CH N l.toArray os1 (fun S'' => EL X l.toArray Q (l.drop n) S'') ((bG l chain).drop i) Si ∧ Real X l n chain a RF os1 S.facts Si (fun j => j = chain.getD m 0 ∨ L j) (fun j => if j = chain.getD m 0 then v else vs j) u' := fun v u' objs' r' hmem htail hmok hcell hv hCH => by
    have hobj : (St.put ⟨Si.regs, objs', Si.facts⟩ o.dst r').objs = objs' := by cases o.dst <;> rfl
    have hfac : (St.put ⟨Si.regs, objs', Si.facts⟩ o.dst r').facts = Si.facts := by cases o.dst <;> rfl
    refine ⟨m + 1, _, by omega, fun q hq => ?_, fun q hq hq' e => ?_, hCH, by rw [hobj, hfac]; exact hmem, by rw [hobj]; exact htail, by rw [hfac]; exact h5.facts, fun t r hr => ?_, fun t r hr hno => ?_⟩
    ·
     rcases Hu q m with e | e
     · exact .inr (h2 q e)
     · exact .inl (by rw [show q = m by omega])
    ·
     rcases e with e | e
     ·
      have := C.cup q m (by omega) hq'
      omega
     · exact h3 q (by omega) hq' e
    ·
     rw [hobj]
     have hcase : (o.dst = some t ∧ r = r') ∨ (o.dst ≠ some t ∧ look Si.regs t = some r) := by
      cases hd : o.dst with
      | none => rw [hd] at hr; exact .inr ⟨(fun e => by cases e), hr⟩
      | some d =>
       rw [hd] at hr
       simp only [St.put, look] at hr
       split at hr
       ·
        rename_i e
        cases hr
        exact .inl ⟨by rw [e], rfl⟩
       ·
        rename_i e
        exact .inr ⟨fun e' => e (by injection e'), hr⟩
     rcases hcase with ⟨hd, rfl⟩ | ⟨hd, hr⟩
     ·
      refine ⟨fun j oj hj hoj hd' _ => ?_, fun hno => absurd hd (hno _ o hk ho)⟩
      rw [if_pos (huniq _ _ _ _ t hj hk hoj ho hd' hd)]
      exact hv
     ·
      obtain ⟨g1, g2⟩ := h5.regs t r hr
      refine ⟨fun j oj hj hoj hd' hLj => ?_, fun hno => (g2 hno).mono hmok hcell⟩
      have hne : j ≠ chain.getD m 0 := fun e => by
       subst e
       obtain rfl : oj = o := Ie (hoj.symm.trans ho)
       exact hd hd'
      rw [if_neg hne]
      exact (g1 j oj hj hoj hd' (hLj.resolve_left hne)).mono hmok hcell
    ·
     cases hd : o.dst with
     | none => exact h5.free t r hr hno
     | some d =>
      simp only [St.put, look]
      rw [if_neg fun e => hno _ o hkc ho (by rw [hd, e])]
      exact h5.free t r hr hno
   rcases h4 with ⟨inf, hnp', hO, hCH⟩ | ⟨os, rest, Φ, hos, hg, hO, hCH⟩
   ·
    have hgr : ∀ v u', Gr u u' → aB (X.ok Si.objs u') u' inf.reg v → _ := fun v u' hg hv => hnext v u' Si.objs inf.reg (h5.mem.grown hg) h5.tail (fun b hb => qI hg hb) (fun p hp => kQ hg p hp) hv hCH
    cases inf with
    | still r =>
     obtain ⟨hg, hSt⟩ := hO
     refine ⟨fun _ => ?_, fun hw => by rw [aS hkn hg] at hw; cases hw⟩
     obtain ⟨v, e1, e2⟩ := hSt _ _ b u hkn
     rw [e1]
     exact hgr v u (Gr.refl u) e2
    | grow r =>
     obtain ⟨hg, hSt⟩ := hO
     refine ⟨fun _ => cZ (hSt _ _ b u hkn) (fun v w' hgr' hv => ?_), fun hw => by rw [aS hkn hg] at hw; cases hw⟩
     obtain ⟨r', rfl, hv⟩ := hv
     exact hgr v w' hgr' (hv.mono (fun b hb => kR h5.mem hgr' hb) fun _ _ => rfl)
    | put p q => cases hnp'
    | skip =>
     refine ⟨fun hw => (by rw [aS hkn hO] at hw; cases hw), fun _ => ?_⟩
     exact hgr undef u (Gr.refl u) ⟨[], rfl, rfl⟩
    | new T d =>
     obtain ⟨hg, hSt⟩ := hO
     refine ⟨fun _ => ?_, fun hw => by rw [aS hkn hg] at hw; cases hw⟩
     obtain ⟨cs, e1, e2⟩ := hSt _ _ b u hkn
     rw [e1]
     exact hgr _ _ (aG u _) trivial
   ·
    obtain ⟨rs, objs, fs⟩ := Si
    dsimp only at hos
    subst hos
    refine ⟨fun _ => ?_, fun hw => by rw [aS hkn hg] at hw; cases hw⟩
    have := hO.go X.mine (X.ok (os ++ (rest ++ os1)) u) b u ⟨fun q hq => hkn.objs q (Hl _ hq), hkn.facts, hkn.lt, hkn.regs⟩ h5.mem.own
    refine qp this fun v u' ⟨r, os', e1, e2, e3⟩ => ?_
    exact hnext v u' (os' ++ (rest ++ os1)) r (h5.mem.turned e2) ⟨os' ++ rest, by rw [Ib]⟩ (fun b hb => jg h5.mem e2 hb) (turned_cell h5.mem e2) (e3.mono (fun b hb => iQ h5.mem e2 hb) fun _ _ => rfl) (hCH r os' e1)
 ·
  intro vs u b ⟨i, Si, h1, h2, h3, h4, h5⟩ hs hd hslot
  have hi : i = chain.length := by
   rcases Hu i chain.length with e | e
   · exact absurd (hcl i e).1 (h3 i (Nat.le_refl _) e)
   · omega
  subst hi
  have hnil : (bG l chain).drop chain.length = [] := List.drop_eq_nil_of_le (by rw [hchain.1]; exact Nat.le_refl _)
  rw [hnil] at h4
  have h4' : EL X l.toArray Q (l.drop n) Si := h4
  refine h4'.go b u ⟨h5.mem, fun t r hr => ?_, hs.trans ha.size, hd.trans ha.defers⟩
  obtain ⟨g1, g2⟩ := h5.regs t r hr
  rcases hslot t with ⟨j, e1, e2, e3, e4, e5⟩ | ⟨e1, e2⟩
  ·
   rw [e5]
   have hj : j < l.length := by have := C.le; omega
   exact g1 j l[j] e1 (by simp) (by rw [← hdst j l[j] (by simp)]; exact e2) e4
  ·
   rw [e2]
   exact g2 fun j o hj ho e => e1 j hj (by rw [hdst j o ho]; exact e)
end
def bg (v : Value) (n : Nat) : Value :=
 match v with
 | .slice (some a) _ _ => .pointer (some ⟨a.block, a.off + n, none⟩)
 | _ => .pointer none
theorem iM (v : Value) (n : Nat) : (bg v n).oneCell' = true := by
 unfold bg
 split <;> rfl
def pO (S : St) : List Operand → Option (List Value)
 | [] => some []
 | x :: xs => match ev S x, pO S xs with
  | some (.val (.v v)), some vs => some (v :: vs)
  | _, _ => none
section
variable {N : Nat} {X : Cx N} {S S' : St} {a : Act} {w w' : World} {ops : Array Oper} {o : Oper} {Q : Exit → Act → World → Prop} {l : List Oper} {TT : St → List Fr → Prop} {EE : List Fr} {rs : List (Tmp × R)} {os : List Obj} {fs : List (Value × D)} {base ok : Nat → Prop} {L : Tmp → Prop}
variable {t ty : Nat} {pos : String} {af : Array Edge} {gd : Option (Nat × Bool)}
theorem yU {T K n e : Nat} (h : assoc lK T = some (K, n, e)) : Tryz.prog.underlying T = some (.map K e) ∧ rV K n := D5 (by
 have := Ho.1 Bo _ (dB _ _ _ h)
 simpa using this)
theorem zvI {T : Nat} {d : D} (h : assoc bP T = some d) : rU T d := oJ.get _ _ _ Dy h
theorem cnI {T : Nat} (h : cnL.contains T = true) : ∃ d, Tryz.prog.underlying T = some d ∧ ∀ ms, d ≠ .interface ms := by
 have := Ho.1 EI T (by simpa using h)
 unfold cnB at this
 split at this
 · cases this
 ·
  rename_i d hd h1
  exact ⟨d, h1, fun ms e => hd ms e⟩
 · cases this
theorem aN {x : Operand} (h : x ∈ o.op.operands.toList) : ∀ t, x = .tmp t → t ∈ o.looksAt ops := fun t e => ak e h
theorem vH {x : Operand} {p : Addr} (ho : o.op = .nilCheck x) (hx : ev S x = some (.val (.v (.pointer (some p))))) : Still ops S o (.val (.v (.pointer (some p)))) := fun base ok a w ha => by
 have h1 := dI ha hx (aN (by rw [ho]; simp [Op.operands]))
 refine ⟨_, ?_, dM rfl⟩
 unfold execOp
 simp only [ho, h1, GY]
theorem FH {d : D} {x : Value} (h : aW ok w (.pd d) x) : ∃ b n cs, x = .pointer (some ⟨b, n, none⟩) ∧ ok b ∧ w.rangeAt b n cs ∧ Reads ok w d cs := by
 have h1 := (aT rfl).1 h
 rw [Reads] at h1
 obtain ⟨b, n, cs, h2, h3, h4, h5⟩ := h1
 exact ⟨b, n, cs, by simpa using h2, h3, h4, h5⟩
theorem lW {x : Operand} {d : D} (ho : o.op = .nilCheck x) (hx : ev S x = some (.val (.pd d))) : Still ops S o (.val (.pd d)) := fun base ok a w ha => by
 have h0 := ha.ev hx (aN (by rw [ho]; simp [Op.operands]))
 obtain ⟨b, n, cs, h1, _⟩ := FH h0
 refine ⟨a.eval x, ?_, h0⟩
 unfold execOp
 simp only [ho, h1, GY]
theorem vI {T : Nat} {x : Operand} {d : D} (ho : o.op = .makeInterface T x) (hx : ev S x = some (.val d)) (hT : cnL.contains T = true) : Still ops S o (.val (.ifc T d)) := fun base ok a w ha => by
 obtain ⟨cs, h1, h2⟩ := ha.ev hx (aN (by rw [ho]; simp [Op.operands]))
 obtain ⟨de, h3, h4⟩ := cnI hT
 refine ⟨.iface T (a.eval x), ?_, (aT rfl).2 (by rw [Reads]; exact ⟨cs, by rw [h2], h1⟩)⟩
 unfold execOp
 have hr : (Instr.makeInterface T (a.eval x)).run Tryz.prog w = .ok (.iface T (a.eval x)) w := by
  unfold Instr.makeInterface
  rw [GR, run_underlying h3, GK]
  cases de <;> first | exact absurd rfl (h4 _) | rfl
 simp only [ho, GR, hr, GK, GY]
theorem uz {T : TypeId} {d : D} {x : Value} (h : aW ok w (.ifc T d) x) : ∃ cs, x = .iface T (form d cs) ∧ Reads ok w d cs := by
 have h1 := (aT rfl).1 h
 rw [Reads] at h1
 obtain ⟨cs, h2, h3⟩ := h1
 exact ⟨cs, by simpa using h2, h3⟩
theorem BM {x : Operand} {T : Nat} {U : TypeId} {d : D} (ho : o.op = .typeAssert x U T true) (hx : ev S x = some (.val (.ifc T d))) (hT : cnL.contains T = true) : Still ops S o (.tpl [d, .v (.bool true)]) := fun base ok a w ha => by
 obtain ⟨cs, h1, h2⟩ := uz (ha.ev hx (aN (by rw [ho]; simp [Op.operands])))
 obtain ⟨de, h3, h4⟩ := cnI hT
 refine ⟨.tuple #[form d cs, .bool true], ?_, [form d cs, .bool true], rfl, _, _, rfl, ⟨cs, h2, rfl⟩, _, _, rfl, dM rfl, rfl⟩
 unfold execOp
 have hr : (Instr.typeAssert (.iface T (form d cs)) U T true).run Tryz.prog w = .ok (.tuple #[form d cs, .bool true]) w := by
  simp only [Instr.typeAssert, GR, run_underlying h3, GK]
  cases de <;> first | exact absurd rfl (h4 _) | simp
 simp only [ho, h1, GR, hr, GK, GY]
theorem Eu {x : Operand} {T T1 : Nat} {U : TypeId} {d dz : D} (ho : o.op = .typeAssert x U T true) (hx : ev S x = some (.val (.ifc T1 d))) (hT : cnL.contains T = true) (hne : Nat.beq T1 T = false) (hz : assoc bP T = some dz) : Still ops S o (.tpl [dz, .v (.bool false)]) := fun base ok a w ha => by
 obtain ⟨cs, h1, h2⟩ := uz (ha.ev hx (aN (by rw [ho]; simp [Op.operands])))
 obtain ⟨de, h3, h4⟩ := cnI hT
 obtain ⟨z, h5, h6⟩ := (zvI hz).get
 have hne' : ¬ T1 = T := fun e => by subst e; simp at hne
 refine ⟨.tuple #[z, .bool false], ?_, [z, .bool false], rfl, _, _, rfl, h6 _ _, _, _, rfl, dM rfl, rfl⟩
 unfold execOp
 have hr : (Instr.typeAssert (.iface T1 (form d cs)) U T true).run Tryz.prog w = .ok (.tuple #[z, .bool false]) w := by
  simp only [Instr.typeAssert, GR, run_underlying h3, GK]
  cases de <;> first | exact absurd rfl (h4 _) | simp [hne', h5]
 simp only [ho, h1, GR, hr, GK, GY]
theorem BN {x : Operand} {T : Nat} {U : TypeId} {dz : D} (ho : o.op = .typeAssert x U T true) (hx : ev S x = some (.val (.v .nilIface))) (hT : cnL.contains T = true) (hz : assoc bP T = some dz) : Still ops S o (.tpl [dz, .v (.bool false)]) := fun base ok a w ha => by
 have h1 := dI ha hx (aN (by rw [ho]; simp [Op.operands]))
 obtain ⟨de, h3, h4⟩ := cnI hT
 obtain ⟨z, h5, h6⟩ := (zvI hz).get
 refine ⟨.tuple #[z, .bool false], ?_, [z, .bool false], rfl, _, _, rfl, h6 _ _, _, _, rfl, dM rfl, rfl⟩
 unfold execOp
 have hr : (Instr.typeAssert .nilIface U T true).run Tryz.prog w = .ok (.tuple #[z, .bool false]) w := by
  simp only [Instr.typeAssert, GR, run_underlying h3, GK]
  cases de <;> first | exact absurd rfl (h4 _) | simp [h5]
 simp only [ho, h1, GR, hr, GK, GY]
theorem Kn.map {L : Tmp → Prop} (h : Kn base ok L S a w) {i g n c : Nat} {es : List Ent} (hi : S.objs[i]? = some (.map g n c es)) : Obj.At base ok w (.map g n c es) := h.objs _ (Hf hi)
theorem zu {x y : Operand} {T K n E g c : Nat} {es : List Ent} {l1 : List UInt8} {dz d' : D} (hget : (iF es l1).getD dz = d') (ho : o.op = .lookup T x y false) (hx : ev S x = some (.val (.v (.map (some g))))) (i : Nat) (hi : S.objs[i]? = some (.map g n c es)) (hy : ev S y = some (.val (.arr n l1))) (hT : assoc lK T = some (K, n, E)) (hz : assoc bP E = some dz) : Still ops S o (.val d') := fun base ok a w ha => by
 have h1 := dI ha hx (aN (by rw [ho]; simp [Op.operands]))
 obtain ⟨h2, h3⟩ := kT (ha.ev hy (aN (by rw [ho]; simp [Op.operands])))
 obtain ⟨v, h4, h5⟩ := sN (yU hT).1 (yU hT).2 (zvI hz) (ha.map hi) l1 h2 false
 refine ⟨v, ?_, by rw [← hget]; exact h5⟩
 unfold execOp
 simp only [ho, h1, h3, GR, h4, GK, GY]
 rfl
theorem qU {x : Operand} {T K n E g c : Nat} {es : List Ent} (ho : o.op = .call { callee := .builtin .len, args := #[x], argTypes := #[T] }) (hx : ev S x = some (.val (.v (.map (some g))))) (i : Nat) (hi : S.objs[i]? = some (.map g n c es)) (hT : assoc lK T = some (K, n, E)) : Still ops S o (.val (.v (.int .i64 es.length))) := fun base ok a w ha => by
 have h1 := dI ha hx (aN (by rw [ho]; simp [Op.operands, Call.operands]))
 have hr := sO o.type (yU hT).1 (ha.map hi)
 refine ⟨_, ?_, dM rfl⟩
 unfold execOp
 simp only [ho, resolve, invoke, builtin, GR, GY, GK, Iz, G9, H9, h1, hr]
theorem rC {z : Nat} : ∀ rows : List (List Value), (∀ r ∈ rows, r.length = z) → rows.flatten.length = rows.length * z
 | [], _ => by simp
 | r :: rows, h => by
  rw [Ht, List.length_append, h r (by simp), rC rows fun r hr => h r (by simp [hr]), H8, IL, I7, Nat.add_comm]
theorem ah.set {z : Nat} : ∀ (ds : List D) (rows : List (List Value)) (k : Nat) (d : D) (r : List Value), ah ok w z ds rows → Reads ok w d r → r.length = z → ah ok w z (ds.set k d) (rows.set k r)
 | [], rows, k, d, r, h, _, _ => by rw [ah] at h; subst h; simp only [List.set_nil]; rw [ah]
 | e :: ds, rows, k, d, r, h, hd, hr => by
  rw [ah] at h
  obtain ⟨x, rest, rfl, h1, h2, h3⟩ := h
  cases k with
  | zero => rw [II, II, ah]; exact ⟨r, rest, rfl, hr, hd, h3⟩
  | succ k => rw [IG, IG, ah]; exact ⟨x, _, rfl, h1, h2, ah.set ds rest k d r h3 hd hr⟩
structure Ac (base ok : Nat → Prop) (w : World) (v : Value) (e z : Nat) (ds : List D) (g c : Nat) (cur : Array Value) (rows : List (List Value)) : Prop where
 val : v = .slice (some ⟨g, 0, none⟩) ds.length c
 heap : w.heap[g]? = some (.cells cur e (0, 0))
 cells : cur.toList.take (ds.length * z) = rows.flatten
 size : cur.size = c * z
 le : ds.length ≤ c
 max : c ≤ maxLen
 rows : ah ok w z ds rows
 mine : base g
theorem row_in {e z : Nat} {v : Value} {ds : List D} (h : Obj.At base ok w (.row v e z ds)) (h0 : 0 < ds.length) : ∃ g c cur rows, Ac base ok w v e z ds g c cur rows := by
 obtain ⟨rows, ⟨h1, hb⟩, h2⟩ := h
 rcases h1.2 with ⟨_, e⟩ | ⟨g, c, cur, e1, _, e2, e3, e4, e5, e6⟩
 · omega
 · exact ⟨g, c, cur, rows, e1, e2, e6, e5, e3, e4, h2, hb g (by rw [e1]; rfl)⟩
theorem Ac.at {e z g c : Nat} {v : Value} {ds : List D} {cur : Array Value} {rows : List (List Value)} (h : Ac base ok w v e z ds g c cur rows) : Obj.At base ok w (.row v e z ds) := by
 refine ⟨rows, ⟨⟨?_, .inr ⟨g, c, cur, h.val, I8 _, h.heap, h.le, h.max, h.size, h.cells⟩⟩, fun b hb => ?_⟩, h.rows⟩
 ·
  obtain ⟨h1, h2⟩ := ah.lens ds rows h.rows
  rw [rC rows h2, h1]
 ·
  rw [h.val] at hb
  cases hb
  exact h.mine
theorem zn {x y : Operand} {T e z b : Nat} {k : Int} {v : Value} {ds : List D} (ho : o.op = .indexAddr T x y) (hx : ev S x = some (.val (.v v))) (i : Nat) (hi : S.objs[i]? = some (.row v e z ds)) (hy : ev S y = some (.val (.v (.int .i64 k)))) (hT : assoc slL T = some (e, z, b)) (hk : 0 ≤ k ∧ k.toNat < ds.length) : Still ops S o (.val (.v (bg v (k.toNat * z)))) := fun base ok a w ha => by
 have hx' := dI ha hx (aN (by rw [ho]; simp [Op.operands]))
 have hy' := dI ha hy (aN (by rw [ho]; simp [Op.operands]))
 obtain ⟨g, c, cur, rows, H⟩ := row_in (ha.objs _ (Hf hi)) (by omega)
 refine ⟨_, ?_, dM (iM _ _)⟩
 have hlt : k < (ds.length : Int) := by omega
 unfold execOp
 simp [ho, hx', hy', H.val, Instr.indexAt, run_underlying (slI hT).und, asIntOf, hk.1, hlt, jA (slI hT).size, bQ, bg]
theorem qQ {x : Operand} {e z n : Nat} {v : Value} {ds : List D} (ho : o.op = .nilCheck x) (hx : ev S x = some (.val (.v (bg v n)))) (i : Nat) (hi : S.objs[i]? = some (.row v e z ds)) (hk : 0 < ds.length) : Still ops S o (.val (.v (bg v n))) := fun base ok a w ha => by
 have hx' := dI ha hx (aN (by rw [ho]; simp [Op.operands]))
 obtain ⟨g, c, cur, rows, H⟩ := row_in (ha.objs _ (Hf hi)) hk
 refine ⟨_, ?_, dM (iM _ _)⟩
 unfold execOp
 simp only [ho, hx', H.val, bg, GY]
theorem lV {x : Operand} {T k off sz e z n : Nat} {ag : Bool} {v : Value} {ds : List D} {lf : List (Nat × Nat × Bool)} (ho : o.op = .fieldAddr T x k) (hx : ev S x = some (.val (.v (bg v n)))) (i : Nat) (hi : S.objs[i]? = some (.row v e z ds)) (hk0 : 0 < ds.length) (h : assoc stL T = some lf) (hk : lf[k]? = some (off, sz, ag)) (h0 : Nat.blt 0 sz = true) : Still ops S o (.val (.v (bg v (n + off)))) := fun base ok a w ha => by
 have hx' := dI ha hx (aN (by rw [ho]; simp [Op.operands]))
 obtain ⟨g, c, cur, rows, H⟩ := row_in (ha.objs _ (Hf hi)) hk0
 refine ⟨_, ?_, dM (iM _ _)⟩
 unfold execOp
 have e1 : bg v n = .pointer (some ⟨g, n, none⟩) := by rw [H.val]; simp [bg]
 have e2 : bg v (n + off) = .pointer (some ⟨g, n + off, none⟩) := by rw [H.val]; simp [bg]
 simp only [ho, hx', e1, e2, GR, gY (Ew h hk h0), GK, GY]
theorem jT : ∀ (xs : List Operand) (vs : List Value), pO S xs = some vs → (∀ t, .tmp t ∈ xs → L t) → Kn base ok L S a w → xs.map a.eval = vs
 | [], vs, h, _, _ => by cases h; rfl
 | x :: xs, vs, h, hL, ha => by
  rw [pO] at h
  split at h
  ·
   rename_i v vs' h1 h2
   cases h
   rw [G9, dI ha h1 fun t e => hL t (by simp [e]), jT xs vs' h2 (fun t ht => hL t (by simp [ht])) ha]
  · cases h
theorem qR {f : FuncId} {caps : Array Operand} {xs : List Value} (ho : o.op = .makeFunc (.func f) #[] caps) (hx : pO S caps.toList = some xs) : Still ops S o (.val (.v (.func (.func f) #[] xs.toArray))) := fun base ok a w ha => by
 have h1 := jT caps.toList xs hx (fun t ht => ak (x := .tmp t) rfl (by rw [ho]; simp [Op.operands]; simpa using ht)) ha
 refine ⟨_, ?_, dM rfl⟩
 unfold execOp
 have h2 : caps.map a.eval = xs.toArray := by
  apply IV
  simpa using h1
 simp only [ho, h2, Instr.makeFunc, GR, GY, GK, Iz, H9]
end
section
variable {N : Nat} {X : Cx N} {S S' : St} {a : Act} {w w' : World} {ops : Array Oper} {o : Oper} {Q : Exit → Act → World → Prop} {l : List Oper} {TT : St → List Fr → Prop} {EE : List Fr} {rs : List (Tmp × R)} {os : List Obj} {fs : List (Value × D)}
variable {t ty : Nat} {pos : String} {af : Array Edge} {gd : Option (Nat × Bool)}
theorem CG {x : Operand} {p : Addr} (hx : ev (⟨rs, os, fs⟩ : St) x = some (.val (.v (.pointer (some p))))) : PS X ops Q l rs os fs t ty pos af gd (.nilCheck x) (.val (.v (.pointer (some p)))) := fun hg hN kk => ES.still (vH rfl hx) hg rfl hN kk
theorem CZ {x : Operand} {p : Addr} (hx : ev (⟨rs, os, fs⟩ : St) x = some (.val (.v (.pointer (some p))))) : HS N ops TT l rs os fs EE t ty pos af gd (.nilCheck x) (.val (.v (.pointer (some p)))) := fun hg hoff kk => EH.still (vH rfl hx) hg rfl hoff kk
theorem xX {x : Operand} {d : D} (hx : eV rs os fs x (.pd d)) : PS X ops Q l rs os fs t ty pos af gd (.nilCheck x) (.val (.pd d)) := fun hg hN kk => ES.still (lW rfl hx) hg rfl hN kk
theorem yc {x : Operand} {d : D} (hx : eV rs os fs x (.pd d)) : HS N ops TT l rs os fs EE t ty pos af gd (.nilCheck x) (.val (.pd d)) := fun hg hoff kk => EH.still (lW rfl hx) hg rfl hoff kk
theorem CJ {T : Nat} {x : Operand} {d : D} (hx : eV rs os fs x d) (hT : cnL.contains T = true) : PS X ops Q l rs os fs t ty pos af gd (.makeInterface T x) (.val (.ifc T d)) := fun hg hN kk => ES.still (vI rfl hx hT) hg rfl hN kk
theorem C9 {T : Nat} {x : Operand} {d : D} (hx : eV rs os fs x d) (hT : cnL.contains T = true) : HS N ops TT l rs os fs EE t ty pos af gd (.makeInterface T x) (.val (.ifc T d)) := fun hg hoff kk => EH.still (vI rfl hx hT) hg rfl hoff kk
theorem CW {x : Operand} {T : Nat} {U : TypeId} {d : D} (hx : eV rs os fs x (.ifc T d)) (hT : cnL.contains T = true) : PS X ops Q l rs os fs t ty pos af gd (.typeAssert x U T true) (.tpl [d, .v (.bool true)]) := fun hg hN kk => ES.still (BM rfl hx hT) hg rfl hN kk
theorem EZ {x : Operand} {T T1 : Nat} {U : TypeId} {d dz : D} (hx : eV rs os fs x (.ifc T1 d)) (hT : cnL.contains T = true) (hne : Nat.beq T1 T = false) (hz : assoc bP T = some dz) : PS X ops Q l rs os fs t ty pos af gd (.typeAssert x U T true) (.tpl [dz, .v (.bool false)]) := fun hg hN kk => ES.still (Eu rfl hx hT hne hz) hg rfl hN kk
theorem CX {x : Operand} {T : Nat} {U : TypeId} {dz : D} (hx : eV rs os fs x (.v .nilIface)) (hT : cnL.contains T = true) (hz : assoc bP T = some dz) : PS X ops Q l rs os fs t ty pos af gd (.typeAssert x U T true) (.tpl [dz, .v (.bool false)]) := fun hg hN kk => ES.still (BN rfl hx hT hz) hg rfl hN kk
theorem AB {x y : Operand} {T K n E g c i : Nat} {es : List Ent} {l1 : List UInt8} {dz d' : D} (hget : (iF es l1).getD dz = d') (hx : ev (⟨rs, os, fs⟩ : St) x = some (.val (.v (.map (some g))))) (hi : os[i]? = some (.map g n c es)) (hy : eV rs os fs y (.arr n l1)) (hT : assoc lK T = some (K, n, E)) (hz : assoc bP E = some dz) : HS N ops TT l rs os fs EE t ty pos af gd (.lookup T x y false) (.val d') := fun hg hoff kk => EH.still (zu hget rfl hx i hi hy hT hz) hg rfl hoff kk
theorem Ap {x : Operand} {T K n E g c i : Nat} {es : List Ent} (hx : ev (⟨rs, os, fs⟩ : St) x = some (.val (.v (.map (some g))))) (hi : os[i]? = some (.map g n c es)) (hT : assoc lK T = some (K, n, E)) : PS X ops Q l rs os fs t ty pos af gd (.call { callee := .builtin .len, args := #[x], argTypes := #[T] }) (.val (.v (.int .i64 es.length))) := fun hg hN kk => ES.still (qU rfl hx i hi hT) hg rfl hN kk
theorem AP {x : Operand} {T K n E g c i : Nat} {es : List Ent} (hx : ev (⟨rs, os, fs⟩ : St) x = some (.val (.v (.map (some g))))) (hi : os[i]? = some (.map g n c es)) (hT : assoc lK T = some (K, n, E)) : HS N ops TT l rs os fs EE t ty pos af gd (.call { callee := .builtin .len, args := #[x], argTypes := #[T] }) (.val (.v (.int .i64 es.length))) := fun hg hoff kk => EH.still (qU rfl hx i hi hT) hg rfl hoff kk
theorem Af {x y : Operand} {T e z b i : Nat} {k : Int} {v : Value} {ds : List D} (hx : eV rs os fs x (.v v)) (hi : os[i]? = some (.row v e z ds)) (hy : eV rs os fs y (.v (.int .i64 k))) (hT : assoc slL T = some (e, z, b)) (hk : 0 ≤ k ∧ k.toNat < ds.length) : PS X ops Q l rs os fs t ty pos af gd (.indexAddr T x y) (.val (.v (bg v (k.toNat * z)))) := fun hg hN kk => ES.still (zn rfl hx i hi hy hT hk) hg rfl hN kk
theorem Ae {x : Operand} {e z i : Nat} {v : Value} {ds : List D} {n : Nat} (hx : eV rs os fs x (.v (bg v n))) (hi : os[i]? = some (.row v e z ds)) (hk : 0 < ds.length) : PS X ops Q l rs os fs t ty pos af gd (.nilCheck x) (.val (.v (bg v n))) := fun hg hN kk => ES.still (qQ rfl hx i hi hk) hg rfl hN kk
theorem Az {x : Operand} {e z i : Nat} {v : Value} {ds : List D} {n : Nat} (hx : eV rs os fs x (.v (bg v n))) (hi : os[i]? = some (.row v e z ds)) (hk : 0 < ds.length) : HS N ops TT l rs os fs EE t ty pos af gd (.nilCheck x) (.val (.v (bg v n))) := fun hg hoff kk => EH.still (qQ rfl hx i hi hk) hg rfl hoff kk
theorem uO {x : Operand} {T k off sz e z i n : Nat} {ag : Bool} {v : Value} {ds : List D} {lf : List (Nat × Nat × Bool)} (hx : eV rs os fs x (.v (bg v n))) (hi : os[i]? = some (.row v e z ds)) (hk0 : 0 < ds.length) (h : assoc stL T = some lf) (hk : lf[k]? = some (off, sz, ag)) (h0 : Nat.blt 0 sz = true) : PS X ops Q l rs os fs t ty pos af gd (.fieldAddr T x k) (.val (.v (bg v (n + off)))) := fun hg hN kk => ES.still (lV rfl hx i hi hk0 h hk h0) hg rfl hN kk
theorem uP {x : Operand} {T k off sz e z i n : Nat} {ag : Bool} {v : Value} {ds : List D} {lf : List (Nat × Nat × Bool)} (hx : eV rs os fs x (.v (bg v n))) (hi : os[i]? = some (.row v e z ds)) (hk0 : 0 < ds.length) (h : assoc stL T = some lf) (hk : lf[k]? = some (off, sz, ag)) (h0 : Nat.blt 0 sz = true) : HS N ops TT l rs os fs EE t ty pos af gd (.fieldAddr T x k) (.val (.v (bg v (n + off)))) := fun hg hoff kk => EH.still (lV rfl hx i hi hk0 h hk h0) hg rfl hoff kk
theorem Ah {f : FuncId} {caps : Array Operand} {xs : List Value} (hx : pO (⟨rs, os, fs⟩ : St) caps.toList = some xs) : PS X ops Q l rs os fs t ty pos af gd (.makeFunc (.func f) #[] caps) (.val (.v (.func (.func f) #[] xs.toArray))) := fun hg hN kk => ES.still (qR rfl hx) hg rfl hN kk
theorem AA {f : FuncId} {caps : Array Operand} {xs : List Value} (hx : pO (⟨rs, os, fs⟩ : St) caps.toList = some xs) : HS N ops TT l rs os fs EE t ty pos af gd (.makeFunc (.func f) #[] caps) (.val (.v (.func (.func f) #[] xs.toArray))) := fun hg hoff kk => EH.still (qR rfl hx) hg rfl hoff kk
end
end E
end Go.Proofs.YtaoicebcdmpemaaGreat
