/-
 Merged: lemmas of this claim.
 Conditions: none.
-/
import Derived.Test.YtelbhdobjdnglaaGreatZC1
import Derived.Test.YtelbhdobjdnglaaGreatZC4
import Derived.Test.YtelbhdobjdnglaaGreatZC2
import Derived.Test.YtelbhdobjdnglaaGreatZC0
namespace Go.Proofs.YtelbhdobjdnglaaGreat
set_option linter.unusedVariables false
open Go.RowKit
namespace Mono
variable {P : Program}
def pK (ops : Array Oper) (L : Nat → Prop) (vs : Nat → Value) (a0 a : Act) (k : Nat) (t : Tmp) : Prop :=
 (∃ j, j < k ∧ dI ops j = some t ∧ (∀ i, j < i → i < k → dI ops i ≠ some t) ∧ L j ∧ a.tmps.getD t undef = vs j) ∨ ((∀ j, j < k → dI ops j ≠ some t) ∧ a.tmps.getD t undef = a0.tmps.getD t undef)
abbrev zJ (listed : Array Bool) : Nat → Prop := fun j => listed.getD j false = true
section
variable {ops : Array Oper} {n : Nat} {a0 : Act} {listed : Array Bool} {vs : Nat → Value} {a : Act} {w : World}
theorem Inv.slots (F : oM .any ops n) (I : Inv .any ops a0 (fun _ => True) (fun _ _ _ => True) n listed vs a w) (hrange : ∀ j t, dI ops j = some t → t < a0.tmps.size) {i : Nat} {oi : Oper} (hi : i ∈ Region.ready .any ops listed) (hin : i < n) (ho : ops[i]? = some oi) :
  ∀ t ∈ oi.looksAt ops, pK ops (zJ listed) vs a0 a i t := by
 intro t ht
 obtain ⟨hun, o', ho', hall⟩ := mem_ready.1 hi
 have : o' = oi := Xr (ho'.symm.trans ho)
 subst this
 have hbefore : ∀ j, j < i → dI ops j = some t → listed.getD j false = true := by
  intro j hj hd
  obtain ⟨oj, hoj, hdj⟩ : ∃ oj, ops[j]? = some oj ∧ oj.dst = some t := by
   unfold dI at hd
   cases h : ops[j]? with
   | none => simp [h] at hd
   | some oj => exact ⟨oj, rfl, by simpa [h] using hd⟩
  rcases qg .any o' j with hw | ⟨e, he, hb, hon⟩
  ·
   have hap := F.free j oj (by omega) hoj i o' hj ho hw
   exact absurd ht ((Oper.apart_spec hap).1 t hdj)
  ·
   rw [← hon]
   exact hall e he hb
 have hbehind : ∀ j, i < j → dI ops j = some t → listed.getD j false = true → False := by
  intro j hj hd hl
  obtain ⟨oj, hoj, hdj⟩ : ∃ oj, ops[j]? = some oj ∧ oj.dst = some t := by
   unfold dI at hd
   cases h : ops[j]? with
   | none => simp [h] at hd
   | some oj => exact ⟨oj, rfl, by simpa [h] using hd⟩
  rcases qg .any oj i with hw | ⟨e, he, hb, hon⟩
  ·
   have hap := F.free i o' hin ho j oj hj hoj hw
   exact (Oper.apart_spec hap).2.2 t hdj ht
  ·
   have := I.head.closed j oj hoj hl e he hb
   rw [hon, getD_both hun] at this
   cases this
 have hself : listed.getD i false = false := getD_both hun
 by_cases hex : ∃ j, j < i ∧ dI ops j = some t
 ·
  obtain ⟨j, hj, hd, hmax⟩ := mX (fun j => dI ops j = some t) i hex
  refine .inl ⟨j, hj, hd, fun i' h1 h2 e => by have := hmax i' h2 e; omega, hbefore j hj hd, ?_⟩
  refine I.slot t (hrange j t hd) j (hbefore j hj hd) hd fun i' hl' hd' => ?_
  rcases YS i' i with h | h | h
  · exact hmax i' h hd'
  · subst h; rw [hself] at hl'; cases hl'
  · exact (hbehind i' h hd' hl').elim
 ·
  refine .inr ⟨fun j hj hd => hex ⟨j, hj, hd⟩, I.slot0 t fun j hl hd => ?_⟩
  rcases YS j i with h | h | h
  · exact hex ⟨j, h, hd⟩
  · subst h; rw [hself] at hl; cases hl
  · exact hbehind j h hd hl
end
def iW (P : Program) (V : VP) : Result Next → Prop
 | .ok (.value v) w' => V v w'
 | .ok .skip w' => V undef w'
 | .ok (.enter f args) w' => Calls P f args w' fun e w'' => ∃ v, e = .returned v ∧ V v w''
 | _ => False
theorem gY {P : Program} {V V' : VP} {w : World} {r : Result Next} (h : fP P V w r) (k : ∀ v w', Gr w w' → V v w' → V' v w') : iW P V' r := by
 cases r with
 | ok x w' =>
  cases x <;> simp only [fP, iW] at h ⊢
  case value v => exact k _ _ h.1 h.2
  case skip => exact k _ _ h.1 h.2
  case enter g args => exact h.2.mono fun e w'' ⟨v, he, hg, hv⟩ => ⟨v, he, k _ _ (h.1.trans hg) hv⟩
 | halt x w' => simp only [fP] at h
theorem Inv.world {md : Region.Mode} {ops : Array Oper} {a0 : Act} {n : Nat} {listed : Array Bool} {vs : Nat → Value} {a : Act} {w w' : World} (h : Inv md ops a0 (fun _ => True) (fun _ _ _ => True) n listed vs a w) : Inv md ops a0 (fun _ => True) (fun _ _ _ => True) n listed vs a w' :=
 ⟨h.head, trivial, fun _ _ => trivial, h.defers, h.size, h.slot, h.slot0⟩
theorem CZ {ops : Array Oper} {Q : Exit → Act → World → Prop} {n : Nat} {a0 : Act} (F : oM .any ops n) (hrange : ∀ j t, dI ops j = some t → t < a0.tmps.size)
  (G : (Nat → Prop) → (Nat → Value) → World → Prop)
  (hcongr : ∀ L L' vs vs' w, (∀ j, L j ↔ L' j) → (∀ j, L j → vs j = vs' j) → G L vs w → G L' vs' w)
  (hstep : ∀ k o L vs b u, k < n → ops[k]? = some o → (∀ j, L j → j < n) → ¬ L k → G L vs u → (∀ t ∈ o.looksAt ops, pK ops L vs a0 b k t) → (∀ e ∈ o.after, Region.binds .any e = true → L e.on) →
   (Region.wanted o (yielded ops b.tmps) = true → iW P (fun v w' => G (fun j => j = k ∨ L j) (fun j => if j = k then v else vs j) w') ((execOp b.eval o).run P u)) ∧
   (Region.wanted o (yielded ops b.tmps) = false → G (fun j => j = k ∨ L j) (fun j => if j = k then undef else vs j) u))
  (hend : ∀ vs u, G (fun j => j < n) vs u → wpList P ops Q (ops.toList.drop n) (iG ops vs a0 n) u) :
  ∀ (f : Nat) (listed : Array Bool) (vs : Nat → Value) (a : Act) (w : World), left listed n = f → Inv .any ops a0 (fun _ => True) (fun _ _ _ => True) n listed vs a w → G (zJ listed) vs w → wpAny P .any ops Q (f + (ops.size - n)) listed a w := by
 intro f
 induction f with
 | zero =>
  intro listed vs a w hf I hG
  have hle := F.le
  have hall := vK hf (by rw [I.head.size]; exact hle)
  obtain ⟨L, hL1, hL2, hL3⟩ := F.tail
  have htail : ∀ j, listed.getD j false = true → j < n := by
   intro j hl
   rcases Xx j n with h | h
   · exact h
   ·
    have hjs : j < listed.size := by
     rcases Xx j listed.size with h' | h'
     · exact h'
     · simp [Array.getElem?_eq_none h'] at hl
    have := I.head.tail j h (by rw [← I.head.size]; exact hjs)
    rw [getD_both this] at hl
    cases hl
  have hLl : L = listed := by
   apply Array.ext (hL1.trans I.head.size.symm)
   intro i h1 h2
   have e1 : L[i] = L.getD i false := by simp [h1]
   have e2 : listed[i] = listed.getD i false := by simp [h2]
   rw [e1, e2]
   by_cases hin : i < n
   · rw [(hL2 i).2 hin, hall i hin]
   ·
    have := I.head.tail i (by omega) (by rw [← I.head.size]; exact h2)
    rw [getD_both this]
    cases hx : L.getD i false with
    | false => rfl
    | true => exact absurd ((hL2 i).1 hx) hin
  subst hLl
  rw [I.done hall]
  have := wpAny_of_seq (P := P) (md := .any) (ops := ops) (Q' := Q) (ops.toList.drop n) n L (iG ops vs a0 n) w (fun j => by simp [List.getElem?_drop]) (by simpa using hL3)
   (hend vs w (hcongr _ _ vs vs w (fun j => ⟨htail j, hall j⟩) (fun _ _ => rfl) hG))
  simpa using this
 | succ f ih =>
  intro listed vs a w hf I hG
  have hle := F.le
  obtain ⟨j0, hj0, hun0, hbef⟩ := zk n (by rw [I.head.size]; exact hle) (by omega : 0 < left listed n)
  rw [show f + 1 + (ops.size - n) = (f + (ops.size - n)) + 1 by omega]
  refine ⟨fun hnil => ?_, fun i hi => ?_⟩
  ·
   exfalso
   have hj0s : j0 < ops.size := by omega
   have hr : j0 ∈ Region.ready .any ops listed := mem_ready.2 ⟨hun0, ops[j0], by simp [hj0s], fun e he hb => hbef _ (F.before j0 ops[j0] hj0 (by simp [hj0s]) e he hb)⟩
   rw [hnil] at hr
   cases hr
  ·
   have hin : i < n := by
    rcases Xx i n with h | h
    · exact h
    · exact absurd hi (F.waits listed I.head j0 hj0 hun0 i h)
   obtain ⟨hun, oi, ho, hall⟩ := mem_ready.1 hi
   have htail : ∀ j, listed.getD j false = true → j < n := by
    intro j hl
    rcases Xx j n with h | h
    · exact h
    ·
     have hjs : j < listed.size := by
      rcases Xx j listed.size with h' | h'
      · exact h'
      · simp [Array.getElem?_eq_none h'] at hl
     have := I.head.tail j h (by rw [← I.head.size]; exact hjs)
     rw [getD_both this] at hl
     cases hl
   have hob := hstep i oi (zJ listed) vs a w hin ho htail (by show ¬ listed.getD i false = true; rw [getD_both hun]; decide) hG (I.slots F hrange hi hin ho) hall
   have hsz : i < listed.size := by rw [I.head.size]; omega
   have hdone : ∀ j, (j = i ∨ zJ listed j) ↔ zJ (listed.setIfInBounds i true) j := by
    intro j
    show _ ↔ (listed.setIfInBounds i true).getD j false = true
    by_cases hij : i = j
    ·
     subst hij
     simp [hsz]
    ·
     rw [getD_set_ne false hij]
     constructor
     ·
      rintro (h | h)
      · exact absurd h.symm hij
      · exact h
     · exact .inr
   have hnext : ∀ v w', G (fun j => j = i ∨ zJ listed j) (fun j => if j = i then v else vs j) w' → wpAny P .any ops Q (f + (ops.size - n)) (listed.setIfInBounds i true) (a.put oi.dst v) w' := fun v w' hv =>
    ih _ (fun j => if j = i then v else vs j) _ _ (by have := zi hsz hun n hin; omega) (I.world.step F (fun _ _ _ _ _ _ _ => trivial) (fun _ _ _ _ => trivial) hi hin ho (Gr.refl w') trivial) (hcongr _ _ _ _ _ hdone (fun _ _ => rfl) hv)
   unfold wpOp
   simp only [ho]
   cases hw : Region.wanted oi (yielded ops a.tmps) with
   | true =>
    simp only [if_true]
    refine .inl ?_
    have h1 := hob.1 hw
    unfold Oper.wp
    generalize (execOp a.eval oi).run P w = r at *
    cases r with
    | ok x w' =>
     cases x <;> simp only [iW] at h1 <;> simp only [Oper.upon]
     case value v => exact hnext _ _ h1
     case skip => exact hnext _ _ h1
     case enter g args =>
      refine h1.mono fun e w'' ⟨v, he, hv⟩ => ?_
      subst he
      exact hnext _ _ hv
    | halt x w' => simp only [iW] at h1
   | false =>
    simp only [Yi, if_false]
    exact hnext _ _ (hob.2 hw)
theorem D6 {ops : Array Oper} {n : Nat} {a0 : Act} (vs : Nat → Value) (hrange : ∀ j t, dI ops j = some t → t < a0.tmps.size) (t : Tmp) : pK ops (fun j => j < n) vs a0 (iG ops vs a0 n) n t := by
 by_cases hex : ∃ j, j < n ∧ dI ops j = some t
 ·
  obtain ⟨j, hj, hd, hmax⟩ := mX (fun j => dI ops j = some t) n hex
  exact .inl ⟨j, hj, hd, fun i' h1 h2 e => (by have := hmax i' h2 e; omega), hj, lC vs a0 t (hrange j t hd) j n hj hd hmax⟩
 · exact .inr ⟨fun j hj hd => hex ⟨j, hj, hd⟩, lu vs a0 t n fun j hj hd => hex ⟨j, hj, hd⟩⟩
theorem lK {id : Nat} {Q : Exit → Act → World → Prop} {a : Act} {w : World} {l : List Oper} (n : Nat) (hm : P.follows .mixedOrders = true) (hB : monoB l.toArray n a.tmps.size = true)
  (G : (Nat → Prop) → (Nat → Value) → World → Prop)
  (hcongr : ∀ L L' vs vs' w, (∀ j, L j ↔ L' j) → (∀ j, L j → vs j = vs' j) → G L vs w → G L' vs' w)
  (h0 : G (fun _ => False) (fun _ => undef) w.drew)
  (hstep : ∀ k o L vs b u, k < n → l[k]? = some o → (∀ j, L j → j < n) → ¬ L k → G L vs u → (∀ t ∈ o.looksAt l.toArray, pK l.toArray L vs a b k t) → (∀ e ∈ o.after, Region.binds .any e = true → L e.on) →
   (Region.wanted o (yielded l.toArray b.tmps) = true → iW P (fun v w' => G (fun j => j = k ∨ L j) (fun j => if j = k then v else vs j) w') ((execOp b.eval o).run P u)) ∧
   (Region.wanted o (yielded l.toArray b.tmps) = false → G (fun j => j = k ∨ L j) (fun j => if j = k then undef else vs j) u))
  (hend : ∀ vs u b, G (fun j => j < n) vs u → b.tmps.size = a.tmps.size → b.defers = a.defers → (∀ t, pK l.toArray (fun j => j < n) vs a b n t) → wpList P l.toArray Q (l.drop n) b u) : (Code.region id l.toArray true).wp P Q a w := by
 have F := jU hB
 have hr := qB hB
 refine wp_region_any hm ?_
 have hleft : left (Array.replicate l.toArray.size false) n = n := by
  unfold left
  have hle' := F.le
  have : (List.range n).countP (fun j => !(Array.replicate l.toArray.size false).getD j true) = (List.range n).countP (fun _ => true) :=
   List.countP_congr fun j hj => by
    have := X7.1 hj
    rw [getD_in (by simp; simpa using Xd this hle') (getD_replicate_false _ _)]
    simp
  rw [this]
  simp
 have := CZ (Q := Q) F hr G hcongr (fun k o L vs b u hk ho => hstep k o L vs b u hk (by simpa using ho)) (fun vs u hG => hend vs u _ hG (jo vs a n) (jT vs a n) fun t => D6 vs hr t) n _ (fun _ => undef) a w.drew hleft
  ⟨⟨by simp, fun j oj _ hl => (by rw [getD_replicate_false] at hl; cases hl), fun t _ ht => getD_in (by simpa using ht) (getD_replicate_false _ _)⟩, trivial,
   fun j hl => trivial, rfl, rfl, fun t _ j hl => (by rw [getD_replicate_false] at hl; cases hl), fun t _ => rfl⟩
  (hcongr _ _ _ _ _ (fun j => ⟨fun h => h.elim, fun h => (by rw [show zJ (Array.replicate l.toArray.size false) j = ((Array.replicate l.toArray.size false).getD j false = true) from rfl, getD_replicate_false] at h; cases h)⟩) (fun _ h => h.elim) h0)
 rw [show n + (l.toArray.size - n) = l.toArray.size by have := F.le; omega] at this
 exact this
theorem su {id : Nat} {Q : Exit → Act → World → Prop} {a : Act} {w : World} {l : List Oper} (n : Nat) (hm : P.follows .mixedOrders = true) (hB : monoB l.toArray n a.tmps.size = true)
  (G : (Nat → Prop) → (Nat → Value) → World → Prop)
  (hcongr : ∀ L L' vs vs' w, (∀ j, L j ↔ L' j) → (∀ j, L j → vs j = vs' j) → G L vs w → G L' vs' w)
  (h0 : G (fun _ => False) (fun _ => undef) w.drew)
  (hstep : ∀ k o L vs b u, k < n → l[k]? = some o → (∀ j, L j → j < n) → ¬ L k → G L vs u → (∀ t ∈ o.looksAt l.toArray, pK l.toArray L vs a b k t) →
   (Region.wanted o (yielded l.toArray b.tmps) = true → iW P (fun v w' => G (fun j => j = k ∨ L j) (fun j => if j = k then v else vs j) w') ((execOp b.eval o).run P u)) ∧
   (Region.wanted o (yielded l.toArray b.tmps) = false → G (fun j => j = k ∨ L j) (fun j => if j = k then undef else vs j) u))
  (hend : ∀ vs u b, G (fun j => j < n) vs u → b.tmps.size = a.tmps.size → b.defers = a.defers → (∀ t, pK l.toArray (fun j => j < n) vs a b n t) → wpList P l.toArray Q (l.drop n) b u) : (Code.region id l.toArray true).wp P Q a w :=
 lK n hm hB G hcongr h0 (fun k o L vs b u h1 h2 h3 h4 h5 h6 _ => hstep k o L vs b u h1 h2 h3 h4 h5 h6) hend
end Mono
end Go.Proofs.YtelbhdobjdnglaaGreat
namespace Go.Proofs.YtelbhdobjdnglaaGreat
set_option linter.unusedVariables false
set_option maxHeartbeats 1000000
open Go.RowKit Mono Rlp
namespace E
inductive Inf where
 | still (r : R)
 | grow (r : R)
 | skip
 | new (T : TypeId) (d : D)
 | put (p q : Obj)
def Inf.JK : Inf → Bool
 | .put _ _ => false
 | _ => true
def Inf.reg : Inf → R
 | .still r => r
 | .grow r => r
 | .skip => .tpl []
 | _ => .any
def Em (ops : Array Oper) (S : St) (o : Oper) (T : TypeId) (d : D) : Prop :=
 ∀ base ok a w, Kn base ok (fun t => t ∈ o.looksAt ops) S a w → ∃ cs : List Value, (execOp a.eval o).run Tryz.prog w = .ok (.value (.pointer (some ⟨w.heap.size, 0, none⟩))) (w.alloc (.cells cs.toArray T)) ∧ Reads ok w d cs
abbrev Fr := Tmp × TypeId × D
def Puts (ops : Array Oper) (S : St) (o : Oper) (p q : Obj) : Prop :=
 q.blk = p.blk ∧ ∀ base ok a w, Kn base ok (fun t => t ∈ o.looksAt ops) S a w → (∀ g, p.blk = some g → ¬ ok g) → p.At base ok w → ∃ w' g, (execOp a.eval o).run Tryz.prog w = .ok .skip w' ∧ p.blk = some g ∧ w.grownBy w' (some g) ∧ q.At base ok w'
def OkI (N : Nat) (ops : Array Oper) (S : St) (o : Oper) : Inf → Prop
 | .still r => guardOf ops S o = some true ∧ Still ops S o r
 | .grow r => guardOf ops S o = some true ∧ oN ops S o (· = r)
 | .skip => guardOf ops S o = some false
 | .new T d => guardOf ops S o = some true ∧ Em ops S o T d
 | .put p q => guardOf ops S o = some true ∧ o.dst = none ∧ Puts ops S o p q
def fM (N : Nat) (d : Option Tmp) (E : List Fr) : Bool :=
 match d with
 | some t => decide (t < N) && E.all fun x => x.1 != t
 | none => true
def wU (E : List Fr) (d : Option Tmp) : Inf → List Fr
 | .new T x => match d with
  | some t => E ++ [(t, T, x)]
  | none => E
 | _ => E
def EM (N : Nat) (ops : Array Oper) (T : St → List Fr → Prop) : List Oper → St → List Fr → Prop
 | [], S, E => T S E
 | o :: l, S, E => ∃ inf : Inf, inf.JK = true ∧ fM N o.dst E = true ∧ ((∃ T d, inf = .new T d) → o.dst ≠ none) ∧ OkI N ops S o inf ∧ EM N ops T l (S.put o.dst inf.reg) (wU E o.dst inf)
section
variable {N : Nat} {X : Cx N} {S S' : St} {a : Act} {w w' : World} {ops : Array Oper} {o : Oper} {Q : Exit → Act → World → Prop} {l : List Oper} {T : St → List Fr → Prop} {E : List Fr}
theorem EM.nil (h : T S E) : EM N ops T [] S E := h
theorem EM.still {r : R} (hg : guardOf ops S o = some true) (hd : fM N o.dst E = true) (hO : Still ops S o r) (k : EM N ops T l (S.put o.dst r) E) : EM N ops T (o :: l) S E := ⟨.still r, rfl, hd, (fun ⟨_, _, e⟩ => by cases e), ⟨hg, hO⟩, k⟩
theorem EM.grow {r : R} (hg : guardOf ops S o = some true) (hd : fM N o.dst E = true) (hO : oN ops S o (· = r)) (k : EM N ops T l (S.put o.dst r) E) : EM N ops T (o :: l) S E := ⟨.grow r, rfl, hd, (fun ⟨_, _, e⟩ => by cases e), ⟨hg, hO⟩, k⟩
theorem EM.skip (hg : guardOf ops S o = some false) (hd : fM N o.dst E = true) (k : EM N ops T l (S.put o.dst (.tpl [])) E) : EM N ops T (o :: l) S E := ⟨.skip, rfl, hd, (fun ⟨_, _, e⟩ => by cases e), hg, k⟩
theorem EM.new {t : Tmp} {Ty : TypeId} {d : D} (hg : guardOf ops S o = some true) (ht : o.dst = some t) (hd : fM N (some t) E = true) (hO : Em ops S o Ty d) (k : EM N ops T l (S.put (some t) .any) (E ++ [(t, Ty, d)])) : EM N ops T (o :: l) S E :=
 ⟨.new Ty d, rfl, by rw [ht]; exact hd, fun _ => (by rw [ht]; exact fun e => by cases e), ⟨hg, hO⟩, by rw [ht]; exact k⟩
theorem DJ {Ty : TypeId} {d : D} (ho : o.op = .alloc Ty) (hz : Zero Ty d) : Em ops S o Ty d := fun base ok a w ha => by
 obtain ⟨z, hz, hr⟩ := hz
 refine ⟨z.cells.toList, ?_, hr ok w⟩
 unfold execOp
 simp only [ho, WX, Bd hz, WV, Xc]
theorem JL {Ty : TypeId} {x : Operand} {d : D} (ho : o.op = .box Ty x) (hx : ev S x = some (.val d)) : Em ops S o Ty d := fun base ok a w ha => by
 obtain ⟨cs, h1, h2⟩ := ha.ev hx fun t e => aU e (by rw [ho]; simp [Op.operands])
 refine ⟨cs, ?_, h1⟩
 have := lZ h1
 unfold execOp
 simp [ho, Instr.box, newVar, newRow, h2, this]
def gV (S : St) : List Oper → List Inf → Nat → St
 | _, _, 0 => S
 | o :: l, i :: infs, k + 1 => gV (S.put o.dst i.reg) l infs k
 | _, _, _ => S
def Nh (E : List Fr) : List Oper → List Inf → List Fr
 | o :: l, i :: infs => Nh (wU E o.dst i) l infs
 | _, _ => E
theorem pz : ∀ (l : List Oper) (S : St) (E : List Fr), EM N ops T l S E → ∃ infs : List Inf, infs.length = l.length ∧
  (∀ k o i, l[k]? = some o → infs[k]? = some i → OkI N ops (gV S l infs k) o i ∧ (∀ t, o.dst = some t → t < N ∧ (∀ x ∈ E, x.1 ≠ t) ∧ ∀ j oj T d, j < k → l[j]? = some oj → infs[j]? = some (.new T d) → oj.dst ≠ some t) ∧ ((∃ T d, i = .new T d) → o.dst ≠ none)) ∧
  T (gV S l infs l.length) (Nh E l infs) ∧ ∀ (k : Nat) (i : Inf), infs[k]? = some i → i.JK = true
 | [], S, E, h => ⟨[], rfl, (fun k o i h => by simp at h), h, fun k i h => by simp at h⟩
 | o :: l, S, E, h => by
  obtain ⟨inf, h0, h1, h1', h2, h3⟩ := h
  obtain ⟨infs, h4, h5, h6, h7⟩ := pz l _ _ h3
  have hoff : ∀ t, o.dst = some t → t < N ∧ ∀ x ∈ E, x.1 ≠ t := fun t ht => by
   rw [ht] at h1
   simp only [fM, XG, decide_eq_true_eq] at h1
   exact ⟨h1.1, fun x hx => by simpa using Xk.1 h1.2 x hx⟩
  refine ⟨inf :: infs, by simp [h4], fun k o' i hk hi => ?_, h6, fun k i hi => by
   cases k with
   | zero =>
    cases hi
    exact h0
   | succ k => exact h7 k i (by simpa using hi)⟩
  cases k with
  | zero =>
   cases hk
   cases hi
   exact ⟨h2, fun t ht => ⟨(hoff t ht).1, (hoff t ht).2, fun j _ _ _ hj => by omega⟩, h1'⟩
  | succ k =>
   obtain ⟨g1, g2, g3⟩ := h5 k o' i (by simpa using hk) (by simpa using hi)
   refine ⟨g1, fun t ht => ⟨(g2 t ht).1, fun x hx => (g2 t ht).2.1 x ?_, fun j oj T d hj hoj hij => ?_⟩, g3⟩
   ·
    unfold wU
    split
    ·
     split
     · exact XC _ hx
     · exact hx
    · exact hx
   ·
    cases j with
    | zero =>
     cases hoj
     cases hij
     intro e
     exact (g2 t ht).2.1 (t, T, d) (by unfold wU; rw [e]; simp) rfl
    | succ j => exact (g2 t ht).2.2 j oj T d (by omega) (by simpa using hoj) (by simpa using hij)
theorem dS : ∀ (l : List Oper) (infs : List Inf) (k : Nat) (S : St), (gV S l infs k).objs = S.objs ∧ (gV S l infs k).facts = S.facts
 | _, _, 0, S => by simp [gV]
 | [], infs, k + 1, S => by simp [gV]
 | o :: l, [], k + 1, S => by simp [gV]
 | o :: l, i :: infs, k + 1, S => by
  rw [gV]
  have := dS l infs k (S.put o.dst i.reg)
  rw [this.1, this.2]
  unfold St.put
  split <;> simp
theorem gB : ∀ (l : List Oper) (infs : List Inf) (k : Nat) (S : St) (t : Tmp), infs.length = l.length → k ≤ l.length →
  (∀ j oj i, j < k → l[j]? = some oj → infs[j]? = some i → oj.dst = some t → (∀ m om, j < m → m < k → l[m]? = some om → om.dst ≠ some t) → look (gV S l infs k).regs t = some i.reg) ∧
  ((∀ j oj, j < k → l[j]? = some oj → oj.dst ≠ some t) → look (gV S l infs k).regs t = look S.regs t)
 | _, _, 0, S, t, _, _ => ⟨(fun j _ _ h => by omega), fun _ => by simp [gV]⟩
 | [], infs, k + 1, S, t, _, h => by simp at h
 | o :: l, [], k + 1, S, t, h, _ => by simp at h
 | o :: l, i :: infs, k + 1, S, t, hl, hk => by
  rw [gV]
  have ih := gB l infs k (S.put o.dst i.reg) t (by simpa using hl) (by simpa using hk)
  refine ⟨fun j oj i' hj hoj hi hd hlast => ?_, fun hno => ?_⟩
  ·
   cases j with
   | zero =>
    cases hoj
    cases hi
    rw [ih.2 fun m om hm hom => hlast (m + 1) om (by omega) (by omega) (by simpa using hom), hd]
    simp [St.put, look]
   | succ j => exact ih.1 j oj i' (by omega) (by simpa using hoj) (by simpa using hi) hd fun m om h1 h2 hom => hlast (m + 1) om (by omega) (by omega) (by simpa using hom)
  ·
   rw [ih.2 fun m om hm hom => hno (m + 1) om (by omega) (by simpa using hom)]
   have := hno 0 o (by omega) rfl
   cases hd : o.dst with
   | none => rfl
   | some d =>
    simp only [St.put, look]
    rw [if_neg (fun e => this (by rw [hd, e]))]
structure GG (X : Cx N) (S : St) (infs : List Inf) (ws : World) (F : Nat → Nat → Prop) (L : Nat → Prop) (vs : Nat → Value) (u : World) : Prop where
 gr : Gr ws u
 lo : ∀ j, L j → ∀ b, F j b → ws.heap.size ≤ b ∧ b < u.heap.size
 dis : ∀ i j b, L i → L j → i ≠ j → F i b → ¬ F j b
 val : ∀ j i, L j → infs[j]? = some i → (match i with
  | .new T d => ∃ g cs, vs j = .pointer (some ⟨g, 0, none⟩) ∧ (∀ b, F j b ↔ b = g) ∧ u.heap[g]? = some (.cells cs.toArray T (0, 0)) ∧ Reads (fun b => X.ok S.objs ws b ∨ ∃ i, L i ∧ (∀ T d, infs[i]? ≠ some (.new T d)) ∧ F i b) u d cs
  | i => bU (fun b => X.ok S.objs ws b ∨ ∃ i, L i ∧ (∀ T d, infs[i]? ≠ some (.new T d)) ∧ F i b) u i.reg (vs j))
abbrev zone (X : Cx N) (S : St) (infs : List Inf) (ws : World) (F : Nat → Nat → Prop) (L : Nat → Prop) (b : Nat) : Prop := X.ok S.objs ws b ∨ ∃ i, L i ∧ (∀ T d, infs[i]? ≠ some (.new T d)) ∧ F i b
theorem GG.lt {infs : List Inf} {ws : World} {F : Nat → Nat → Prop} {L : Nat → Prop} {vs : Nat → Value} {u : World} (h : GG X S infs ws F L vs u) {b : Nat} (hb : zone X S infs ws F L b) : b < u.heap.size := by
 rcases hb with hb | ⟨i, h1, _, h2⟩
 · exact Xd hb.2.1 h.gr.size
 · exact (h.lo i h1 b h2).2
theorem GG.step {infs : List Inf} {ws : World} {F : Nat → Nat → Prop} {L : Nat → Prop} {vs : Nat → Value} {u u' : World} (h : GG X S infs ws F L vs u) {k : Nat} (hk : ¬ L k) (hg : Gr u u') (v : Value) (f : Nat → Prop) (hf : ∀ b, f b → u.heap.size ≤ b ∧ b < u'.heap.size)
  (hv : ∀ i, infs[k]? = some i → (∀ b, zone X S infs ws F L b → zone X S infs ws (fun j => if j = k then f else F j) (fun j => j = k ∨ L j) b) → (match i with
   | .new T d => ∃ g cs, v = .pointer (some ⟨g, 0, none⟩) ∧ (∀ b, f b ↔ b = g) ∧ u'.heap[g]? = some (.cells cs.toArray T (0, 0)) ∧ Reads (zone X S infs ws (fun j => if j = k then f else F j) (fun j => j = k ∨ L j)) u' d cs
   | i => bU (zone X S infs ws (fun j => if j = k then f else F j) (fun j => j = k ∨ L j)) u' i.reg v)) :
  GG X S infs ws (fun j => if j = k then f else F j) (fun j => j = k ∨ L j) (fun j => if j = k then v else vs j) u' := by
 have hF : ∀ j, L j → (if j = k then f else F j) = F j := fun j hj => if_neg fun e => hk (by rw [← e]; exact hj)
 have hz : ∀ b, zone X S infs ws F L b → zone X S infs ws (fun j => if j = k then f else F j) (fun j => j = k ∨ L j) b := fun b hb => by
  rcases hb with hb | ⟨i, h1, h2, h3⟩
  · exact .inl hb
  · exact .inr ⟨i, .inr h1, h2, by show (if i = k then f else F i) b; rw [hF i h1]; exact h3⟩
 have hc : ∀ p : Addr, zone X S infs ws F L p.block → u'.cell? p = u.cell? p := fun p hp => hg.cell (h.lt hp)
 refine ⟨h.gr.trans hg, fun j hj b hb => ?_, fun i j b hi hj hij hb => ?_, fun j i hj hi => ?_⟩
 ·
  by_cases e : j = k
  ·
   rw [if_pos e] at hb
   exact ⟨XD h.gr.size (hf b hb).1, (hf b hb).2⟩
  ·
   rw [if_neg e] at hb
   have := h.lo j (hj.resolve_left e) b hb
   exact ⟨this.1, Xd this.2 hg.size⟩
 ·
  by_cases e1 : i = k
  ·
   by_cases e2 : j = k
   · exact absurd (e1.trans e2.symm) hij
   ·
    rw [if_pos e1] at hb
    rw [if_neg e2]
    intro hb2
    have := (h.lo j (hj.resolve_left e2) b hb2).2
    have := (hf b hb).1
    omega
  ·
   rw [if_neg e1] at hb
   by_cases e2 : j = k
   ·
    rw [if_pos e2]
    intro hb2
    have := (h.lo i (hi.resolve_left e1) b hb).2
    have := (hf b hb2).1
    omega
   ·
    rw [if_neg e2]
    exact h.dis i j b (hi.resolve_left e1) (hj.resolve_left e2) hij hb
 ·
  by_cases e : j = k
  ·
   subst e
   simp only [if_true]
   exact hv i hi hz
  ·
   have hj' := hj.resolve_left e
   have h0 := h.val j i hj' hi
   simp only [if_neg e]
   cases i with
   | new T d =>
    obtain ⟨g, cs, g1, g2, g3, g4⟩ := h0
    exact ⟨g, cs, g1, g2, (hg.block g (lt_of_some g3)).trans g3, Reads.mono hz hc _ _ g4⟩
   | still r => exact bU.mono hz hc h0
   | grow r => exact bU.mono hz hc h0
   | skip => exact bU.mono hz hc h0
   | put p q => trivial
theorem DZ {V V' : VP} (h : ∀ v w', Gr w w' → V v w' → V' v w') {r : Result Next} (hr : fP Tryz.prog V w r) : fP Tryz.prog V' w r := by
 cases r with
 | ok x w' =>
  cases x <;> simp only [fP] at hr ⊢
  case value v => exact ⟨hr.1, h _ _ hr.1 hr.2⟩
  case skip => exact ⟨hr.1, h _ _ hr.1 hr.2⟩
  case enter f args => exact ⟨hr.1, hr.2.mono fun e w'' ⟨v, h1, h2, h3⟩ => ⟨v, h1, h2, h v w'' (hr.1.trans h2) h3⟩⟩
 | halt x w' => simp only [fP] at hr
def SN (S : St) : List (Fr × Nat) → St
 | [] => S
 | ((t, T, d), g) :: E => SN ⟨(t, .val (.v (.pointer (some ⟨g, 0, none⟩)))) :: S.regs, .var g T d :: S.objs, S.facts⟩ E
def JJ (k : St → Prop) : List Fr → St → Prop
 | [], S => k S
 | (t, T, d) :: E, S => ∀ g, JJ k E ⟨(t, .val (.v (.pointer (some ⟨g, 0, none⟩)))) :: S.regs, .var g T d :: S.objs, S.facts⟩
theorem BK {k : St → Prop} : ∀ (E : List (Fr × Nat)) (S : St), JJ k (E.map (·.1)) S → k (SN S E)
 | [], S, h => h
 | ((t, T, d), g) :: E, S, h => BK E _ (h g)
structure Good (X : Cx N) (z : Nat → Prop) (S : St) (b : Act) (u : World) : Prop where
 at_ : ∀ o ∈ S.objs, o.At X.mine z u
 apart : S.objs.Pairwise fun o p => ∀ b, o.blk = some b → p.blk ≠ some b
 off : ∀ o ∈ S.objs, ∀ b, z b → o.blk ≠ some b
 fact : ∀ f ∈ S.facts, Reads z u f.2 [f.1]
 regs : ∀ t r, look S.regs t = some r → bU z u r (b.tmps.getD t undef)
theorem Good.ext {z : Nat → Prop} {b : Act} {u : World} : ∀ (E : List (Fr × Nat)) (S : St), Good X z S b u → (∀ e ∈ E, X.mine e.2 ∧ ¬ z e.2 ∧ b.tmps.getD e.1.1 undef = .pointer (some ⟨e.2, 0, none⟩) ∧ ∃ cs, u.heap[e.2]? = some (.cells cs.toArray e.1.2.1 (0, 0)) ∧ Reads z u e.1.2.2 cs) →
  (E.map (·.2)).Nodup → (∀ e ∈ E, ∀ o ∈ S.objs, o.blk ≠ some e.2) → Good X z (SN S E) b u
 | [], S, h, _, _, _ => h
 | ((t, T, d), g) :: E, S, h, hE, hn, ho => by
  rw [SN]
  obtain ⟨h1, h2, h3, cs, h4, h5⟩ := hE ((t, T, d), g) (by simp)
  simp only [Xm, XV] at hn
  refine Good.ext E _ ⟨fun o hm => ?_, Yc.2 ⟨fun o hm b e => ?_, h.apart⟩, fun o hm b hb => ?_, h.fact, fun t' r hr => ?_⟩ (fun e he => hE e (by simp [he])) hn.2 fun e he o hm => ?_
  ·
   rcases Xb.1 hm with rfl | hm
   · exact ⟨h1, cs, h4, h5⟩
   · exact h.at_ o hm
  ·
   cases e
   exact ho ((t, T, d), g) (by simp) o hm
  ·
   rcases Xb.1 hm with rfl | hm
   ·
    intro e
    cases e
    exact h2 hb
   · exact h.off o hm b hb
  ·
   simp only [look] at hr
   split at hr
   ·
    rename_i e
    cases hr
    subst e
    exact aY.2 ⟨rfl, h3⟩
   · exact h.regs t' r hr
  ·
   rcases Xb.1 hm with rfl | hm
   ·
    intro e'
    simp only [Obj.blk, Xw] at e'
    exact hn.1 (Xg.2 ⟨e, he, e'.symm⟩)
   · exact ho e (by simp [he]) o hm
theorem Good.at {z : Nat → Prop} {b : Act} {u : World} (h : Good X z S b u) (hg : GrE X.own0 X.w0 u) (hz : ∀ b, z b → (X.ok0 b ∨ X.mine b) ∧ b < u.heap.size) (hs : b.tmps.size = N) (hd : b.defers = []) : At X S b u := by
 have hok : ∀ b, z b → X.ok S.objs u b := fun b hb => ⟨(hz b hb).1, (hz b hb).2, fun o ho => h.off o ho b hb⟩
 refine ⟨⟨hg, h.apart, fun o ho => ?_, fun f hf => Reads.mono hok (fun _ _ => rfl) _ _ (h.fact f hf)⟩, fun t r hr => (h.regs t r hr).mono hok fun _ _ => rfl, hs, hd⟩
 exact (h.at_ o ho).move hok (fun _ _ => rfl) fun _ _ => rfl
def nK (k : Nat) (d : Option Tmp) : Inf → List (Fr × Nat)
 | .new T x => match d with
  | some t => [((t, T, x), k)]
  | none => []
 | _ => []
theorem PE (k : Nat) (E : List Fr) (d : Option Tmp) (i : Inf) : wU E d i = E ++ (nK k d i).map (·.1) := by
 cases i <;> cases d <;> simp [wU, nK]
theorem qM {k : Nat} {d : Option Tmp} {i : Inf} {e : Fr × Nat} (h : e ∈ nK k d i) : e.2 = k ∧ d = some e.1.1 ∧ i = .new e.1.2.1 e.1.2.2 := by
 cases i <;> cases d <;> simp [nK] at h
 subst h
 exact ⟨rfl, rfl, rfl⟩
theorem tH (k : Nat) (d : Option Tmp) (i : Inf) : ((nK k d i).map (·.2)).Nodup := by
 cases i <;> cases d <;> simp [nK]
def iV : Nat → List Oper → List Inf → List (Fr × Nat)
 | k, o :: l, i :: infs => nK k o.dst i ++ iV (k + 1) l infs
 | _, [], _ => []
 | _, _ :: _, [] => []
theorem Gg : ∀ (l : List Oper) (infs : List Inf) (k : Nat) (E : List Fr), Nh E l infs = E ++ (iV k l infs).map (·.1)
 | [], infs, k, E => by cases infs <;> simp [Nh, iV]
 | o :: l, [], k, E => by simp [Nh, iV]
 | o :: l, i :: infs, k, E => by
  rw [Nh, iV, Gg l infs (k + 1), PE k, XK, Xp]
theorem iI : ∀ (l : List Oper) (infs : List Inf) (k : Nat) (e : Fr × Nat), e ∈ iV k l infs → ∃ j o, e.2 = k + j ∧ l[j]? = some o ∧ o.dst = some e.1.1 ∧ infs[j]? = some (.new e.1.2.1 e.1.2.2)
 | [], infs, k, e, h => by cases infs <;> simp [iV] at h
 | o :: l, [], k, e, h => by simp [iV] at h
 | o :: l, i :: infs, k, e, h => by
  rw [iV] at h
  rcases Xq.1 h with h | h
  ·
   obtain ⟨h1, h2, h3⟩ := qM h
   exact ⟨0, o, h1, rfl, h2, by rw [h3]; rfl⟩
  ·
   obtain ⟨j, o', h1, h2, h3, h4⟩ := iI l infs (k + 1) e h
   exact ⟨j + 1, o', by omega, by simpa using h2, h3, by simpa using h4⟩
theorem lY : ∀ (l : List Oper) (infs : List Inf) (k : Nat), ((iV k l infs).map (·.2)).Nodup
 | [], infs, k => by cases infs <;> simp [iV]
 | o :: l, [], k => by simp [iV]
 | o :: l, i :: infs, k => by
  rw [iV, XK]
  refine YQ.2 ⟨tH k o.dst i, lY l infs (k + 1), fun x hx y hy e => ?_⟩
  subst e
  obtain ⟨e, he, rfl⟩ := Xg.1 hy
  obtain ⟨j, o', h1, _⟩ := iI l infs (k + 1) e he
  obtain ⟨e', he', h2⟩ := Xg.1 hx
  have := (qM he').1
  omega
theorem EC.draw {id : Nat} (n : Nat) (hB : monoB l.toArray n N = true) (h : EM N l.toArray (fun S' E => JJ (EL X l.toArray Q (l.drop n)) E S') (l.take n) S []) : EC X Q (.region id l.toArray true) S := by
 constructor
 intro a ws ha
 obtain ⟨infs, hlen, hok, hT, hnp⟩ := pz _ _ _ h
 have hle : n ≤ l.length := by simpa using (jU hB).le
 have hln : (l.take n).length = n := by simp; omega
 rw [hln] at hlen hT
 have htake : ∀ k, k < n → (l.take n)[k]? = l[k]? := fun k hk => by rw [YH, if_pos hk]
 have hdst : ∀ k o, l[k]? = some o → dI l.toArray k = o.dst := fun k o ho => by unfold dI; simp [ho]
 have hks := ha.kn fun _ => True
 refine su n (by kernel_rfl) (by rw [ha.size]; exact hB) (fun L vs u => ∃ F, GG X S infs ws F L vs u) ?_ ?_ ?_ ?_
 ·
  rintro L L' vs vs' w hL hvs ⟨F, hG⟩
  obtain rfl : L = L' := funext fun j => propext (hL j)
  refine ⟨F, hG.gr, hG.lo, hG.dis, fun j i hj hi => ?_⟩
  rw [← hvs j hj]
  exact hG.val j i hj hi
 · exact ⟨fun _ _ => False, ⟨⟨rfl, rfl, rfl, Nat.le_refl _, fun _ _ => rfl⟩, fun _ h => h.elim, fun _ _ _ h => h.elim, fun _ _ h => h.elim⟩⟩
 ·
  intro k o L vs b u hk ho hL hLk ⟨F, hG⟩ hslot
  obtain ⟨i, hi⟩ : ∃ i, infs[k]? = some i := ⟨infs[k], by simp [hlen, hk]⟩
  obtain ⟨hO, hof, _⟩ := hok k o i (by rw [htake k hk]; exact ho) hi
  have hc : ∀ p : Addr, X.ok S.objs ws p.block → u.cell? p = ws.cell? p := fun p hp => hG.gr.cell hp.2.1
  have hkn : Kn X.mine (zone X S infs ws F L) (fun t => t ∈ o.looksAt l.toArray) (gV S (l.take n) infs k) b u := by
   refine ⟨fun p hp => ?_, fun f hf => ?_, fun b hb => hG.lt hb, fun t r ht hr => ?_⟩
   ·
    rw [(dS _ _ _ _).1] at hp
    have hat := hks.objs p hp
    exact hat.move (fun _ => .inl) hc fun g hb => hG.gr.block g (Obj.eP hat hb).2
   ·
    rw [(dS _ _ _ _).2] at hf
    exact Reads.mono (fun _ => .inl) hc _ _ (hks.facts f hf)
   ·
    have hlk := gB (l.take n) infs k S t (by rw [hlen, hln]) (by omega)
    rcases hslot t ht with ⟨j, h1, h2, h3, h4, h5⟩ | ⟨h1, h2⟩
    ·
     have hjl : j < l.length := by omega
     have hoj : l[j]? = some l[j] := by simp
     have hij : infs[j]? = some infs[j] := by simp
     rw [hlk.1 j l[j] infs[j] h1 (by rw [htake j (by omega)]; exact hoj) hij (by rw [← hdst j _ hoj]; exact h2) fun m om h6 h7 hom => by
      rw [htake m (by omega)] at hom
      rw [← hdst m _ hom]
      exact h3 m h6 h7] at hr
     cases hr
     rw [h5]
     have := hG.val j _ h4 hij
     cases hinf : infs[j] with
     | new T d => trivial
     | still r => rw [hinf] at this; exact this
     | grow r => rw [hinf] at this; exact this
     | skip => rw [hinf] at this; exact this
     | put p q => trivial
    ·
     rw [hlk.2 fun j oj hj hoj => by
      rw [htake j (by omega)] at hoj
      rw [← hdst j _ hoj]
      exact h1 j hj] at hr
     rw [h2]
     exact (ha.regs t r hr).mono (fun _ => .inl) hc
  have hstep : ∀ v u', Gr u u' → ∀ f : Nat → Prop, (∀ b, f b → u.heap.size ≤ b ∧ b < u'.heap.size) → ((∀ b, zone X S infs ws F L b → zone X S infs ws (fun j => if j = k then f else F j) (fun j => j = k ∨ L j) b) → (match i with
   | .new T d => ∃ g cs, v = .pointer (some ⟨g, 0, none⟩) ∧ (∀ b, f b ↔ b = g) ∧ u'.heap[g]? = some (.cells cs.toArray T (0, 0)) ∧ Reads (zone X S infs ws (fun j => if j = k then f else F j) (fun j => j = k ∨ L j)) u' d cs
   | i => bU (zone X S infs ws (fun j => if j = k then f else F j) (fun j => j = k ∨ L j)) u' i.reg v)) → ∃ F, GG X S infs ws F (fun j => j = k ∨ L j) (fun j => if j = k then v else vs j) u' := fun v u' hg f hf hv =>
   ⟨_, hG.step hLk hg v f hf fun i' hi' hz => by
    obtain rfl : i' = i := Xr (hi'.symm.trans hi)
    exact hv hz⟩
  cases i with
  | still r =>
   obtain ⟨hg, hS⟩ := hO
   refine ⟨fun _ => ?_, fun hw => by rw [bZ hkn hg] at hw; cases hw⟩
   obtain ⟨v, h1, h2⟩ := hS _ _ b u hkn
   rw [h1]
   exact (hstep v u (Gr.refl u) (fun _ => False) (fun _ h => h.elim) fun hz => bU.mono hz (fun _ _ => rfl) h2)
  | grow r =>
   obtain ⟨hg, hS⟩ := hO
   refine ⟨fun _ => gY (hS _ _ b u hkn) (fun v w' hgr hv => ?_), fun hw => by rw [bZ hkn hg] at hw; cases hw⟩
   obtain ⟨r', rfl, hv⟩ := hv
   refine hstep v w' hgr (fun b => u.heap.size ≤ b ∧ b < w'.heap.size) (fun _ h => h) fun hz => bU.mono (fun b hb => ?_) (fun _ _ => rfl) hv
   rcases hb.1 with h1 | h1
   · exact hz b h1
   · exact .inr ⟨k, .inl rfl, (fun T d e => by rw [hi] at e; cases e), by show (if k = k then _ else F k) b; rw [if_pos rfl]; exact ⟨h1, hb.2⟩⟩
  | put p q => cases hnp k _ hi
  | skip =>
   refine ⟨fun hw => (by rw [bZ hkn hO] at hw; cases hw), fun _ => ?_⟩
   exact hstep undef u (Gr.refl u) (fun _ => False) (fun _ h => h.elim) fun _ => ⟨[], rfl, rfl⟩
  | new T d =>
   obtain ⟨hg, hS⟩ := hO
   refine ⟨fun _ => ?_, fun hw => by rw [bZ hkn hg] at hw; cases hw⟩
   obtain ⟨cs, h1, h2⟩ := hS _ _ b u hkn
   rw [h1]
   have hgr := au u (.cells cs.toArray T)
   exact hstep _ _ hgr (fun b => b = u.heap.size) (fun b e => by subst e; simp) fun hz => ⟨u.heap.size, cs, rfl, fun b => Iff.rfl, heap_alloc_new u _, Reads.mono hz (fun p hp => hgr.cell (hG.lt hp)) _ _ h2⟩
 ·
  intro vs u b ⟨F, hG⟩ hs hd hslot
  have hc : ∀ p : Addr, X.ok S.objs ws p.block → u.cell? p = ws.cell? p := fun p hp => hG.gr.cell hp.2.1
  have hsz := ha.mem.gr.size
  have hgood : Good X (zone X S infs ws F fun j => j < n) (gV S (l.take n) infs n) b u := by
   refine ⟨fun p hp => ?_, by rw [(dS _ _ _ _).1]; exact ha.mem.apart, fun p hp b hb e => ?_, fun f hf => ?_, fun t r hr => ?_⟩
   ·
    rw [(dS _ _ _ _).1] at hp
    have hat := hks.objs p hp
    exact hat.move (fun _ => .inl) hc fun g hb => hG.gr.block g (Obj.eP hat hb).2
   ·
    rw [(dS _ _ _ _).1] at hp
    rcases hb with hb | ⟨i, h1, _, h2⟩
    · exact hb.2.2 p hp e
    ·
     have := (Obj.eP (ha.mem.at_ p hp) e).2
     have := (hG.lo i h1 b h2).1
     omega
   ·
    rw [(dS _ _ _ _).2] at hf
    exact Reads.mono (fun _ => .inl) hc _ _ (hks.facts f hf)
   ·
    have hlk := gB (l.take n) infs n S t (by rw [hlen, hln]) (by omega)
    rcases hslot t with ⟨j, h1, h2, h3, h4, h5⟩ | ⟨h1, h2⟩
    ·
     have hjl : j < l.length := by omega
     have hoj : l[j]? = some l[j] := by simp
     have hij : infs[j]? = some infs[j] := by simp
     rw [hlk.1 j l[j] infs[j] h1 (by rw [htake j (by omega)]; exact hoj) hij (by rw [← hdst j _ hoj]; exact h2) fun m om h6 h7 hom => by
      rw [htake m (by omega)] at hom
      rw [← hdst m _ hom]
      exact h3 m h6 h7] at hr
     cases hr
     rw [h5]
     have := hG.val j _ h4 hij
     cases hinf : infs[j] with
     | new T d => trivial
     | still r => rw [hinf] at this; exact this
     | grow r => rw [hinf] at this; exact this
     | skip => rw [hinf] at this; exact this
     | put p q => trivial
    ·
     rw [hlk.2 fun j oj hj hoj => by
      rw [htake j (by omega)] at hoj
      rw [← hdst j _ hoj]
      exact h1 j hj] at hr
     rw [h2]
     exact (ha.regs t r hr).mono (fun _ => .inl) hc
  let gOf : Nat → Nat := fun j => match vs j with
   | .pointer (some p) => p.block
   | _ => 0
  have hfr : ∀ j T d, infs[j]? = some (.new T d) → ∃ cs, vs j = .pointer (some ⟨gOf j, 0, none⟩) ∧ (∀ b, F j b ↔ b = gOf j) ∧ u.heap[gOf j]? = some (.cells cs.toArray T (0, 0)) ∧ Reads (zone X S infs ws F fun j => j < n) u d cs := fun j T d hj => by
   have hjn : j < n := by
    have := (Xf.1 hj).1
    omega
   obtain ⟨g, cs, g1, g2, g3, g4⟩ := hG.val j _ hjn hj
   have hg : gOf j = g := by simp only [gOf, g1]
   rw [hg]
   exact ⟨cs, g1, g2, g3, g4⟩
  have hE := Gg (l.take n) infs 0 []
  rw [WJ] at hE
  rw [hE] at hT
  have hmm : (iV 0 (l.take n) infs).map (·.1) = ((iV 0 (l.take n) infs).map fun e => (e.1, gOf e.2)).map (·.1) := by simp [List.map_map, Function.comp_def]
  rw [hmm] at hT
  have hEL := BK _ _ hT
  refine hEL.go b u ((Good.ext _ _ hgood (fun e he => ?_) ?_ fun e he o ho => ?_).at (ha.mem.gr.trans (.of hG.gr)) (fun b hb => ?_) (hs.trans ha.size) (hd.trans ha.defers))
  ·
   obtain ⟨e0, he0, rfl⟩ := Xg.1 he
   obtain ⟨j, o, h1, h2, h3, h4⟩ := iI _ _ _ _ he0
   rw [Xj] at h1
   have hjn : j < n := by
    have := (Xf.1 h4).1
    omega
   obtain ⟨cs, g1, g2, g3, g4⟩ := hfr j _ _ h4
   rw [htake j hjn] at h2
   dsimp only
   rw [h1]
   refine ⟨.inr (XD hsz (hG.lo j hjn _ ((g2 _).2 rfl)).1), fun hz => ?_, ?_, cs, g3, g4⟩
   ·
    rcases hz with hz | ⟨i, k1, k2, k3⟩
    ·
     have := (hG.lo j hjn _ ((g2 _).2 rfl)).1
     have := hz.2.1
     omega
    ·
     by_cases e : i = j
     ·
      subst e
      exact k2 _ _ h4
     · exact hG.dis i j _ k1 hjn e k3 ((g2 _).2 rfl)
   ·
    rcases hslot e0.1.1 with ⟨j', k1, k2, k3, k4, k5⟩ | ⟨k1, k2⟩
    ·
     have hjj : j' = j := by
      rcases YS j' j with h | h | h
      · exact absurd ((hdst j o h2).trans h3) (k3 j h hjn)
      · exact h
      ·
       exfalso
       have hoj' : l[j']? = some l[j'] := by simp
       have hij' : infs[j']? = some infs[j'] := by simp
       exact ((hok j' l[j'] infs[j'] (by rw [htake j' k1]; exact hoj') hij').2.1 e0.1.1 (by rw [← hdst j' _ hoj']; exact k2)).2.2 j o _ _ h (by rw [htake j hjn]; exact h2) h4 h3
     subst hjj
     rw [k5]
     exact g1
    · exact absurd ((hdst j o h2).trans h3) (k1 j hjn)
  ·
   have hnd := lY (l.take n) infs 0
   rw [XU]
   have : ((fun e : Fr × Nat => e.2) ∘ fun e : Fr × Nat => (e.1, gOf e.2)) = gOf ∘ fun e => e.2 := rfl
   rw [show ((fun x : Fr × Nat => x.2) ∘ fun e : Fr × Nat => (e.1, gOf e.2)) = gOf ∘ (fun e => e.2) from rfl, ← XU]
   have hinj : ∀ x ∈ (iV 0 (l.take n) infs).map (·.2), ∀ y ∈ (iV 0 (l.take n) infs).map (·.2), gOf x = gOf y → x = y := by
    intro x hx y hy e
    obtain ⟨ex, hex, rfl⟩ := Xg.1 hx
    obtain ⟨ey, hey, rfl⟩ := Xg.1 hy
    obtain ⟨jx, ox, a1, a2, a3, a4⟩ := iI _ _ _ _ hex
    obtain ⟨jy, oy, b1, b2, b3, b4⟩ := iI _ _ _ _ hey
    rw [Xj] at a1 b1
    rw [a1, b1] at e ⊢
    obtain ⟨_, c1, c2, _⟩ := hfr jx _ _ a4
    obtain ⟨_, d1, d2, _⟩ := hfr jy _ _ b4
    by_cases hne : jx = jy
    · exact hne
    ·
     exfalso
     have hx' : jx < n := by have := (Xf.1 a4).1; omega
     have hy' : jy < n := by have := (Xf.1 b4).1; omega
     exact hG.dis jx jy (gOf jx) hx' hy' hne ((c2 _).2 rfl) ((d2 _).2 e)
   clear hT hEL hmm hE
   revert hnd hinj
   generalize (iV 0 (l.take n) infs).map (·.2) = m
   intro hnd hinj
   induction m with
   | nil => simp
   | cons x m ih =>
    simp only [Xm, XV] at hnd ⊢
    refine ⟨fun hm => ?_, ih hnd.2 fun p hp q hq => hinj p (by simp [hp]) q (by simp [hq])⟩
    obtain ⟨y, hy, e⟩ := Xg.1 hm
    have := hinj x (by simp) y (by simp [hy]) e.symm
    subst this
    exact hnd.1 hy
  ·
   obtain ⟨e0, he0, rfl⟩ := Xg.1 he
   obtain ⟨j, o', h1, h2, h3, h4⟩ := iI _ _ _ _ he0
   rw [Xj] at h1
   have hjn : j < n := by
    have := (Xf.1 h4).1
    omega
   obtain ⟨cs, g1, g2, g3, g4⟩ := hfr j _ _ h4
   rw [(dS _ _ _ _).1] at ho
   dsimp only
   rw [h1]
   intro e
   have := (Obj.eP (ha.mem.at_ o ho) e).2
   have := (hG.lo j hjn _ ((g2 _).2 rfl)).1
   omega
  ·
   refine ⟨?_, hG.lt hb⟩
   rcases hb with hb | ⟨i, k1, _, k3⟩
   · exact hb.1
   · exact .inr (.inr (XD hsz (hG.lo i k1 b k3).1))
end
end E
end Go.Proofs.YtelbhdobjdnglaaGreat
namespace Go.Proofs.YtelbhdobjdnglaaGreat
set_option linter.unusedVariables false
namespace Rlp
def strip : List UInt8 → List UInt8
 | [] => []
 | b :: l => if b = 0 then strip l else b :: l
theorem AP (l : List UInt8) : ∀ n, l.foldl (fun n b => n * 256 + b.toNat) n = n * 256 ^ l.length + val l := by
 induction l with
 | nil => intro n; simp [val]
 | cons b l ih =>
  intro n
  have h1 := ih (n * 256 + b.toNat)
  have h2 := ih b.toNat
  have h3 : val (b :: l) = b.toNat * 256 ^ l.length + val l := by
   unfold val at h2 ⊢
   rw [XJ, Za, Xj, h2]
  rw [XJ, h1, h3, WS, Nat.pow_succ, X5, Nat.mul_assoc, Nat.mul_comm 256, Y0]
theorem nP (b : UInt8) (l : List UInt8) : val (b :: l) = b.toNat * 256 ^ l.length + val l := by
 have h := AP l b.toNat
 unfold val at h ⊢
 rw [XJ, Za, Xj, h]
theorem AL (n : Nat) (l : List UInt8) : val (List.replicate n 0 ++ l) = val l := by
 induction n with
 | zero => rfl
 | succ n ih => rw [YB, WL, nP, ih]; simp
theorem uZ : ∀ l : List UInt8, val (strip l) = val l
 | [] => rfl
 | b :: l => by
  rw [strip]
  split
  ·
   rename_i h
   subst h
   rw [uZ l, nP]
   simp
  · rfl
theorem Ht (l : List UInt8) (k : Nat) (h : ∀ j (hj : j < l.length), j < k → l[j] = 0) : strip (l.drop k) = strip l := by
 induction k generalizing l with
 | zero => rfl
 | succ k ih =>
  cases l with
  | nil => rfl
  | cons b l =>
   have h0 : b = 0 := h 0 (by simp) (by omega)
   subst h0
   rw [WG, ih l (fun j hj hjk => h (j + 1) (by simpa using hj) (by omega)), strip, if_pos rfl]
theorem Hf (l : List UInt8) : val l < 256 ^ l.length := by
 induction l with
 | nil => simp [val]
 | cons b l ih =>
  have hb := b.toNat_lt
  rw [nP, WS, Nat.pow_succ]
  have h1 : b.toNat * 256 ^ l.length ≤ 255 * 256 ^ l.length := Ye _ (by omega)
  omega
def uD : Raw → Option (List UInt8)
 | .mk false bs _ => if bs.head? = some 0 then none else some bs
 | .mk true _ _ => none
def pad (bs : List UInt8) : List UInt8 := List.replicate (32 - bs.length) 0 ++ bs
theorem lV (bs : List UInt8) (h : bs.length ≤ 32) : (pad bs).length = 32 := by
 unfold pad
 rw [List.length_append, Y9]
 omega
def zero32 : List UInt8 := List.replicate 32 0
theorem dL : zero32.length = 32 := by simp [zero32]
def eF (x : Raw) : Option (List UInt8) := (uD x).bind fun bs => if bs.length ≤ 32 then some (pad bs) else none
def lX (x : Raw) : Option Nat := (uD x).bind fun bs => if bs.length ≤ 8 ∧ val bs ≤ 9223372036854775807 then some (val bs) else none
def fJ (l : List UInt8) : Option Nat := if val l ≤ 9223372036854775807 then some (val l) else none
theorem Dc {x : Raw} {l : List UInt8} (h : eF x = some l) : l.length = 32 := by
 unfold eF at h
 cases hb : uD x with
 | none => rw [hb] at h; cases h
 | some bs =>
  rw [hb] at h
  simp only [Option.bind_some] at h
  split at h
  · cases h; exact lV bs (by assumption)
  · cases h
theorem Md {x : Raw} {bs : List UInt8} (h : uD x = some bs) : bs.head? ≠ some 0 := by
 obtain ⟨l, b, xs⟩ := x
 cases l
 ·
  rw [uD] at h
  split at h
  · cases h
  · cases h; assumption
 · cases h
theorem NV (bs : List UInt8) (h : bs.head? ≠ some 0) (h2 : 8 < bs.length) : 9223372036854775807 < val bs := by
 cases bs with
 | nil => simp at h2
 | cons b l =>
  have hb : b ≠ 0 := by simpa using h
  have hb0 : 0 < b.toNat := by
   rcases Ya b.toNat with h0 | h0
   · exact absurd (XR.1 (by rw [h0]; rfl)) hb
   · exact h0
  rw [nP]
  have h3 : 256 ^ 8 ≤ 256 ^ l.length := YT (by omega) (by simp at h2; omega)
  have h4 : 1 * 256 ^ l.length ≤ b.toNat * 256 ^ l.length := Ye _ hb0
  omega
theorem MQ (x : Raw) : lX x = (eF x).bind fJ := by
 unfold lX eF
 cases hb : uD x with
 | none => rfl
 | some bs =>
  have hh := Md hb
  simp only [Option.bind_some]
  by_cases h8 : bs.length ≤ 8
  ·
   rw [if_pos (show bs.length ≤ 32 by omega), Option.bind_some]
   unfold fJ pad
   rw [AL]
   by_cases hv : val bs ≤ 9223372036854775807
   · rw [if_pos ⟨h8, hv⟩, if_pos hv]
   · rw [if_neg (fun h => hv h.2), if_neg hv]
  ·
   rw [if_neg (fun h => h8 h.1)]
   have := NV bs hh (by omega)
   split
   ·
    rw [Option.bind_some]
    unfold fJ pad
    rw [AL, if_neg (by omega)]
   · rfl
theorem AO (l : List UInt8) (k : Nat) (h : k ≤ l.length) : val l = val (l.take k) * 256 ^ (l.length - k) + val (l.drop k) := by
 have h1 := AP (l.drop k) (val (l.take k))
 have h2 : l = l.take k ++ l.drop k := (XE k l).symm
 conv => lhs; rw [h2]
 unfold val at h1 ⊢
 rw [YP, h1, W9]
theorem sD (l : List UInt8) (k : Nat) (h : k ≤ l.length) (hz : ∀ j (hj : j < l.length), j < k → l[j] = 0) : val l = val (l.drop k) := by
 rw [← uZ l, ← Ht l k hz, uZ]
theorem Dh (l : List UInt8) (hl : l.length = 32) (j : Nat) (hj : j < 24) (hn : l[j]'(by omega) ≠ 0) : fJ l = none := by
 unfold fJ
 rw [if_neg]
 have h1 := AO l (j + 1) (by omega)
 have h2 : l.take (j + 1) = l.take j ++ [l[j]'(by omega)] := (List.take_append_getElem (by omega)).symm
 rw [h2, xY] at h1
 have hb0 : 0 < (l[j]'(by omega)).toNat := by
  rcases Ya (l[j]'(by omega)).toNat with h0 | h0
  · exact absurd (XR.1 (by rw [h0]; rfl)) hn
  · exact h0
 have h3 : 256 ^ 8 ≤ 256 ^ (l.length - (j + 1)) := YT (by omega) (by omega)
 have h4 : 1 * 256 ^ (l.length - (j + 1)) ≤ (val (l.take j) * 256 + (l[j]'(by omega)).toNat) * 256 ^ (l.length - (j + 1)) := Ye _ (by omega)
 omega
theorem Et (l : List UInt8) (hl : l.length = 32) (hz : ∀ j (hj : j < l.length), j < 24 → l[j] = 0) (ht : 128 ≤ (l[24]'(by omega)).toNat) : fJ l = none := by
 unfold fJ
 rw [if_neg]
 have h1 := sD l 24 (by omega) hz
 rw [Xn (by omega : 24 < l.length), nP, W9, show l.length - (24 + 1) = 7 by omega] at h1
 omega
theorem Eu (l : List UInt8) (hl : l.length = 32) (hz : ∀ j (hj : j < l.length), j < 24 → l[j] = 0) (ht : (l[24]'(by omega)).toNat < 128) : fJ l = some (val (l.drop 24)) ∧ val (l.drop 24) ≤ 9223372036854775807 := by
 have h1 := sD l 24 (by omega) hz
 have h2 := h1
 rw [Xn (by omega : 24 < l.length), nP, W9, show l.length - (24 + 1) = 7 by omega] at h2
 have h3 := Hf (l.drop (24 + 1))
 rw [W9, show l.length - (24 + 1) = 7 by omega] at h3
 refine ⟨?_, ?_⟩
 ·
  unfold fJ
  rw [if_pos (by omega), h1]
 ·
  rw [← h1]
  omega
end Rlp
end Go.Proofs.YtelbhdobjdnglaaGreat
