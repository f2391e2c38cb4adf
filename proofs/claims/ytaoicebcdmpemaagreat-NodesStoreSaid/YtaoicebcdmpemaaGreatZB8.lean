/-
 Merged: lemmas of this claim.
 Conditions: none.
-/
import Derived.Test.YtaoicebcdmpemaaGreatZB7
import Derived.Test.YtaoicebcdmpemaaGreatZB0
namespace Go.Proofs.YtaoicebcdmpemaaGreat
set_option linter.unusedVariables false
set_option maxHeartbeats 1000000
open Go.RowKit Mono Rlp
namespace E
namespace W
inductive Kd where
 | var (T : TypeId)
 | row (e n : Nat)
def Kd.ty : Kd → TypeId
 | .var T => T
 | .row e _ => e
def Kd.val (g : Nat) : Kd → Value
 | .var _ => .pointer (some ⟨g, 0, none⟩)
 | .row _ n => .slice (some ⟨g, 0, none⟩) n n
def gOf : Value → Nat
 | .pointer (some p) => p.block
 | .slice (some p) _ _ => p.block
 | _ => 0
theorem yF (K : Kd) (g : Nat) : gOf (K.val g) = g := by cases K <;> rfl
theorem Eb (K : Kd) (g : Nat) : (K.val g).oneCell' = true := by cases K <;> rfl
inductive Inf where
 | still (r : R)
 | grow (r : R)
 | skip
 | new (K : Kd) (d : D)
def Inf.kind : Inf → Nat
 | .still _ => 0
 | .grow _ => 1
 | .skip => 2
 | .new _ _ => 3
def Inf.reg (g : Nat) : Inf → R
 | .still r => r
 | .grow r => r
 | .skip => .any
 | .new K _ => .val (.v (K.val g))
abbrev Fr := Tmp × Kd × D × Nat
structure Frs where
 H : Nat → Nat
 G : Nat → R
 ks : Nat → Nat
 k : Nat
 l : List Fr
def gy (k : Nat) (d : Option Tmp) : Inf → List Fr
 | .new K x => match d with
  | some t => [(t, K, x, k)]
  | none => []
 | _ => []
def Frs.next (E : Frs) (d : Option Tmp) (i : Inf) : Frs := ⟨E.H, E.G, E.ks, E.k + 1, E.l ++ gy E.k d i⟩
def sQ (ops : Array Oper) (S : St) (o : Oper) (K : Kd) (d : D) : Prop :=
 ∀ base ok a w, Kn base ok (fun t => t ∈ o.looksAt ops) S a w → ∃ cs : List Value, (execOp a.eval o).run Tryz.prog w = .ok (.value (K.val w.heap.size)) (w.alloc (.cells cs.toArray K.ty)) ∧ Reads ok w d cs
def OkI (ops : Array Oper) (S : St) (o : Oper) (G : R) : Inf → Prop
 | .still r => guardOf ops S o = some true ∧ Still ops S o r
 | .grow r => guardOf ops S o = some true ∧ ig ops S o (· = r) ∧ G = r
 | .skip => guardOf ops S o = some false
 | .new K d => guardOf ops S o = some true ∧ sQ ops S o K d
def dL (N : Nat) (d : Option Tmp) (E : Frs) : Bool :=
 match d with
 | some t => decide (t < N) && E.l.all fun x => x.1 != t
 | none => true
def EM (N : Nat) (ops : Array Oper) (T : St → Frs → Prop) : List Oper → St → Frs → Prop
 | [], S, E => T S E
 | o :: l, S, E => ∃ inf : Inf, dL N o.dst E = true ∧ (inf.kind = 3 → o.dst ≠ none) ∧ E.ks E.k = inf.kind ∧ OkI ops S o (E.G E.k) inf ∧ EM N ops T l (S.put o.dst (inf.reg (E.H E.k))) (E.next o.dst inf)
section
variable {N : Nat} {X : Cx N} {S S' : St} {a : Act} {w w' : World} {ops : Array Oper} {o : Oper} {Q : Exit → Act → World → Prop} {l : List Oper} {T : St → Frs → Prop} {E : Frs}
theorem rO {Ty : TypeId} {d : D} (ho : o.op = .alloc Ty) (hz : Zero Ty d) : sQ ops S o (.var Ty) d := fun base ok a w ha => E.rO ho hz base ok a w ha
theorem Bf {Ty : TypeId} {x : Operand} {d : D} (ho : o.op = .box Ty x) (hx : ev S x = some (.val d)) : sQ ops S o (.var Ty) d := fun base ok a w ha => E.Bf ho hx base ok a w ha
def bQ (H : Nat → Nat) : Nat → St → List Oper → List Inf → Nat → St
 | _, S, _, _, 0 => S
 | k0, S, o :: l, i :: infs, k + 1 => bQ H (k0 + 1) (S.put o.dst (i.reg (H k0))) l infs k
 | _, S, _, _, _ => S
def cZ : Nat → List Oper → List Inf → List Fr
 | k, o :: l, i :: infs => gy k o.dst i ++ cZ (k + 1) l infs
 | _, [], _ => []
 | _, _ :: _, [] => []
theorem ji {k : Nat} {d : Option Tmp} {i : Inf} {e : Fr} (h : e ∈ gy k d i) : e.2.2.2 = k ∧ d = some e.1 ∧ i = .new e.2.1 e.2.2.1 := by
 cases i <;> cases d <;> simp [gy] at h
 subst h
 exact ⟨rfl, rfl, rfl⟩
theorem jW (k : Nat) (d : Option Tmp) (i : Inf) : ((gy k d i).map fun e => e.2.2.2).Nodup := by
 cases i <;> cases d <;> simp [gy]
theorem bV : ∀ (l : List Oper) (infs : List Inf) (k : Nat) (e : Fr), e ∈ cZ k l infs → ∃ j o, e.2.2.2 = k + j ∧ l[j]? = some o ∧ o.dst = some e.1 ∧ infs[j]? = some (.new e.2.1 e.2.2.1)
 | [], infs, k, e, h => by cases infs <;> simp [cZ] at h
 | o :: l, [], k, e, h => by simp [cZ] at h
 | o :: l, i :: infs, k, e, h => by
  rw [cZ] at h
  rcases Lh.1 h with h | h
  ·
   obtain ⟨h1, h2, h3⟩ := ji h
   exact ⟨0, o, h1, rfl, h2, by rw [h3]; rfl⟩
  ·
   obtain ⟨j, o', h1, h2, h3, h4⟩ := bV l infs (k + 1) e h
   exact ⟨j + 1, o', by omega, by simpa using h2, h3, by simpa using h4⟩
theorem fG : ∀ (l : List Oper) (infs : List Inf) (k : Nat), ((cZ k l infs).map fun e => e.2.2.2).Nodup
 | [], infs, k => by cases infs <;> simp [cZ]
 | o :: l, [], k => by simp [cZ]
 | o :: l, i :: infs, k => by
  rw [cZ, LG]
  refine MW.2 ⟨jW k o.dst i, fG l infs (k + 1), fun x hx y hy e => ?_⟩
  subst e
  obtain ⟨e, he, rfl⟩ := KI.1 hy
  obtain ⟨j, o', h1, _⟩ := bV l infs (k + 1) e he
  obtain ⟨e', he', h2⟩ := KI.1 hx
  have := (ji he').1
  omega
theorem jC : ∀ (l : List Oper) (S : St) (E : Frs), EM N ops T l S E → ∃ infs : List Inf, infs.length = l.length ∧
  (∀ k o i, l[k]? = some o → infs[k]? = some i → OkI ops (bQ E.H E.k S l infs k) o (E.G (E.k + k)) i ∧ E.ks (E.k + k) = i.kind ∧ (∀ t, o.dst = some t → t < N ∧ (∀ x ∈ E.l, x.1 ≠ t) ∧ ∀ j oj K d, j < k → l[j]? = some oj → infs[j]? = some (.new K d) → oj.dst ≠ some t) ∧ (i.kind = 3 → o.dst ≠ none)) ∧
  T (bQ E.H E.k S l infs l.length) ⟨E.H, E.G, E.ks, E.k + l.length, E.l ++ cZ E.k l infs⟩
 | [], S, E, h => ⟨[], rfl, (fun k o i h => by simp at h), by
  have h' : T S E := h
  simpa [cZ, bQ] using h'⟩
 | o :: l, S, E, h => by
  obtain ⟨inf, h1, h1', h0, h2, h3⟩ := h
  obtain ⟨infs, h4, h5, h6⟩ := jC l _ _ h3
  have hoff : ∀ t, o.dst = some t → t < N ∧ ∀ x ∈ E.l, x.1 ≠ t := fun t ht => by
   rw [ht] at h1
   simp only [dL, LM, decide_eq_true_eq] at h1
   exact ⟨h1.1, fun x hx => by simpa using KQ.1 h1.2 x hx⟩
  refine ⟨inf :: infs, by simp [h4], fun k o' i hk hi => ?_, by
   have e : E.k + (o :: l).length = E.k + 1 + l.length := by simp; omega
   rw [e, cZ, ← KY]
   exact h6⟩
  cases k with
  | zero =>
   cases hk
   cases hi
   exact ⟨h2, h0, fun t ht => ⟨(hoff t ht).1, (hoff t ht).2, fun j _ _ _ hj => by omega⟩, h1'⟩
  | succ k =>
   obtain ⟨g1, g0, g2, g3⟩ := h5 k o' i (by simpa using hk) (by simpa using hi)
   have e : E.k + (k + 1) = (E.next o.dst inf).k + k := by show _ = E.k + 1 + k; omega
   rw [e]
   refine ⟨g1, g0, fun t ht => ⟨(g2 t ht).1, fun x hx => (g2 t ht).2.1 x (KO _ hx), fun j oj K d hj hoj hij => ?_⟩, g3⟩
   cases j with
   | zero =>
    cases hoj
    cases hij
    intro e
    exact (g2 t ht).2.1 (t, K, d, E.k) (KL _ (by rw [e]; simp [gy])) rfl
   | succ j => exact (g2 t ht).2.2 j oj K d (by omega) (by simpa using hoj) (by simpa using hij)
theorem aQ (H : Nat → Nat) : ∀ (l : List Oper) (infs : List Inf) (k k0 : Nat) (S : St), (bQ H k0 S l infs k).objs = S.objs ∧ (bQ H k0 S l infs k).facts = S.facts
 | _, _, 0, _, S => by simp [bQ]
 | [], infs, k + 1, _, S => by simp [bQ]
 | o :: l, [], k + 1, _, S => by simp [bQ]
 | o :: l, i :: infs, k + 1, k0, S => by
  rw [bQ]
  have := aQ H l infs k (k0 + 1) (S.put o.dst (i.reg (H k0)))
  rw [this.1, this.2]
  unfold St.put
  split <;> simp
theorem bZ (H : Nat → Nat) : ∀ (l : List Oper) (infs : List Inf) (k k0 : Nat) (S : St) (t : Tmp), infs.length = l.length → k ≤ l.length →
  (∀ j oj i, j < k → l[j]? = some oj → infs[j]? = some i → oj.dst = some t → (∀ m om, j < m → m < k → l[m]? = some om → om.dst ≠ some t) → look (bQ H k0 S l infs k).regs t = some (i.reg (H (k0 + j)))) ∧
  ((∀ j oj, j < k → l[j]? = some oj → oj.dst ≠ some t) → look (bQ H k0 S l infs k).regs t = look S.regs t)
 | _, _, 0, _, S, t, _, _ => ⟨(fun j _ _ h => by omega), fun _ => by simp [bQ]⟩
 | [], infs, k + 1, _, S, t, _, h => by simp at h
 | o :: l, [], k + 1, _, S, t, h, _ => by simp at h
 | o :: l, i :: infs, k + 1, k0, S, t, hl, hk => by
  rw [bQ]
  have ih := bZ H l infs k (k0 + 1) (S.put o.dst (i.reg (H k0))) t (by simpa using hl) (by simpa using hk)
  refine ⟨fun j oj i' hj hoj hi hd hlast => ?_, fun hno => ?_⟩
  ·
   cases j with
   | zero =>
    cases hoj
    cases hi
    rw [ih.2 fun m om hm hom => hlast (m + 1) om (by omega) (by omega) (by simpa using hom), hd]
    simp [St.put, look]
   | succ j =>
    rw [show k0 + (j + 1) = k0 + 1 + j by omega]
    exact ih.1 j oj i' (by omega) (by simpa using hoj) (by simpa using hi) hd fun m om h1 h2 hom => hlast (m + 1) om (by omega) (by omega) (by simpa using hom)
  ·
   rw [ih.2 fun m om hm hom => hno (m + 1) om (by omega) (by simpa using hom)]
   have := hno 0 o (by omega) rfl
   cases hd : o.dst with
   | none => rfl
   | some d =>
    simp only [St.put, look]
    rw [if_neg (fun e => this (by rw [hd, e]))]
abbrev zone (X : Cx N) (S : St) (ks : Nat → Nat) (ws : World) (F : Nat → Nat → Prop) (L : Nat → Prop) (b : Nat) : Prop := X.ok S.objs ws b ∨ ∃ i, L i ∧ ks i ≠ 3 ∧ F i b
def Ag (ks : Nat → Nat) (H : Nat → Nat) (L : Nat → Prop) (vs : Nat → Value) : Prop := ∀ j, L j → ks j = 3 → gOf (vs j) = H j
def JD (z : Nat → Prop) (u : World) (f : Nat → Prop) (v : Value) : Inf → Prop
 | .new K d => ∃ g cs, v = K.val g ∧ (∀ b, f b ↔ b = g) ∧ u.heap[g]? = some (.cells cs.toArray K.ty (0, 0)) ∧ Reads z u d cs
 | .still r => aC z u r v
 | .grow r => aC z u r v
 | .skip => True
structure GG (X : Cx N) (S : St) (ks : Nat → Nat) (infs : (Nat → Nat) → List Inf) (ws : World) (F : Nat → Nat → Prop) (L : Nat → Prop) (vs : Nat → Value) (u : World) : Prop where
 gr : Gr ws u
 lo : ∀ j, L j → ∀ b, F j b → ws.heap.size ≤ b ∧ b < u.heap.size
 dis : ∀ i j b, L i → L j → i ≠ j → F i b → ¬ F j b
 val : ∀ H, Ag ks H L vs → ∀ j i, L j → (infs H)[j]? = some i → JD (zone X S ks ws F L) u (F j) (vs j) i
theorem GG.lt {ks : Nat → Nat} {infs : (Nat → Nat) → List Inf} {ws : World} {F : Nat → Nat → Prop} {L : Nat → Prop} {vs : Nat → Value} {u : World} (h : GG X S ks infs ws F L vs u) {b : Nat} (hb : zone X S ks ws F L b) : b < u.heap.size := by
 rcases hb with hb | ⟨i, h1, _, h2⟩
 · exact KA hb.2.1 h.gr.size
 · exact (h.lo i h1 b h2).2
theorem Ag.of {ks : Nat → Nat} {H : Nat → Nat} {L : Nat → Prop} {vs : Nat → Value} {k : Nat} {v : Value} (hk : ¬ L k) (h : Ag ks H (fun j => j = k ∨ L j) (fun j => if j = k then v else vs j)) : Ag ks H L vs := fun j hj h3 => by
 have := h j (.inr hj) h3
 have e : (if j = k then v else vs j) = vs j := if_neg fun e => hk (by rw [← e]; exact hj)
 rw [← e]
 exact this
theorem GG.step {ks : Nat → Nat} {infs : (Nat → Nat) → List Inf} {ws : World} {F : Nat → Nat → Prop} {L : Nat → Prop} {vs : Nat → Value} {u u' : World} (h : GG X S ks infs ws F L vs u) {k : Nat} (hk : ¬ L k) (hg : Gr u u') (v : Value) (f : Nat → Prop) (hf : ∀ b, f b → u.heap.size ≤ b ∧ b < u'.heap.size)
  (hv : ∀ H, Ag ks H (fun j => j = k ∨ L j) (fun j => if j = k then v else vs j) → ∀ i, (infs H)[k]? = some i → (∀ b, zone X S ks ws F L b → zone X S ks ws (fun j => if j = k then f else F j) (fun j => j = k ∨ L j) b) →
   JD (zone X S ks ws (fun j => if j = k then f else F j) (fun j => j = k ∨ L j)) u' f v i) :
  GG X S ks infs ws (fun j => if j = k then f else F j) (fun j => j = k ∨ L j) (fun j => if j = k then v else vs j) u' := by
 have hF : ∀ j, L j → (if j = k then f else F j) = F j := fun j hj => if_neg fun e => hk (by rw [← e]; exact hj)
 have hz : ∀ b, zone X S ks ws F L b → zone X S ks ws (fun j => if j = k then f else F j) (fun j => j = k ∨ L j) b := fun b hb => by
  rcases hb with hb | ⟨i, h1, h2, h3⟩
  · exact .inl hb
  · exact .inr ⟨i, .inr h1, h2, by show (if i = k then f else F i) b; rw [hF i h1]; exact h3⟩
 have hc : ∀ p : Addr, zone X S ks ws F L p.block → u'.cell? p = u.cell? p := fun p hp => hg.cell (h.lt hp)
 refine ⟨h.gr.trans hg, fun j hj b hb => ?_, fun i j b hi hj hij hb => ?_, fun H hH j i hj hi => ?_⟩
 ·
  by_cases e : j = k
  ·
   rw [if_pos e] at hb
   exact ⟨La h.gr.size (hf b hb).1, (hf b hb).2⟩
  ·
   rw [if_neg e] at hb
   have := h.lo j (hj.resolve_left e) b hb
   exact ⟨this.1, KA this.2 hg.size⟩
 ·
  by_cases e1 : i = k
  ·
   by_cases e2 : j = k
   · exact absurd (e1.trans e2.symm) hij
   ·
    rw [if_pos e1] at hb
    rw [if_neg e2]
    intro hb2
    have := (h.lo j (hj.resolve_left e2) b hb2).2
    have := (hf b hb).1
    omega
  ·
   rw [if_neg e1] at hb
   by_cases e2 : j = k
   ·
    rw [if_pos e2]
    intro hb2
    have := (h.lo i (hi.resolve_left e1) b hb).2
    have := (hf b hb2).1
    omega
   ·
    rw [if_neg e2]
    exact h.dis i j b (hi.resolve_left e1) (hj.resolve_left e2) hij hb
 ·
  by_cases e : j = k
  ·
   subst e
   simp only [if_true]
   exact hv H hH i hi hz
  ·
   have hj' := hj.resolve_left e
   have h0 := h.val H (hH.of hk) j i hj' hi
   simp only [if_neg e]
   cases i with
   | new K d =>
    obtain ⟨g, cs, g1, g2, g3, g4⟩ := h0
    exact ⟨g, cs, g1, g2, (hg.block g (lt_of_some g3)).trans g3, Reads.mono hz hc _ _ g4⟩
   | still r => exact aC.mono hz hc h0
   | grow r => exact aC.mono hz hc h0
   | skip => trivial
def uo (H : Nat → Nat) (e : Fr) : Obj := .var (H e.2.2.2) e.2.1.ty e.2.2.1
theorem Good.ext {H : Nat → Nat} {z : Nat → Prop} {b : Act} {u : World} : ∀ (E : List Fr) (S : St), Good X z S b u → (∀ e ∈ E, X.mine (H e.2.2.2) ∧ ¬ z (H e.2.2.2) ∧ ∃ cs, u.heap[H e.2.2.2]? = some (.cells cs.toArray e.2.1.ty (0, 0)) ∧ Reads z u e.2.2.1 cs) →
  (E.map fun e => H e.2.2.2).Nodup → (∀ e ∈ E, ∀ o ∈ S.objs, o.blk ≠ some (H e.2.2.2)) → Good X z ⟨S.regs, E.map (uo H) ++ S.objs, S.facts⟩ b u
 | [], S, h, _, _, _ => h
 | e :: E, S, h, hE, hn, ho => by
  obtain ⟨h1, h2, cs, h4, h5⟩ := hE e (by simp)
  simp only [KD, ML] at hn
  have ih := Good.ext E S h (fun e he => hE e (by simp [he])) hn.2 fun e he => ho e (by simp [he])
  rw [KD, Ko]
  refine ⟨fun o hm => ?_, KR.2 ⟨fun o hm b hb => ?_, ih.apart⟩, fun o hm b hb => ?_, ih.fact, ih.regs⟩
  ·
   rcases Kz.1 hm with rfl | hm
   · exact ⟨h1, cs, h4, h5⟩
   · exact ih.at_ o hm
  ·
   obtain rfl : H e.2.2.2 = b := by simpa [uo, Obj.blk] using hb
   rcases Lh.1 hm with hm | hm
   ·
    obtain ⟨e', he', rfl⟩ := KI.1 hm
    intro hb'
    obtain h : H e'.2.2.2 = H e.2.2.2 := by simpa [uo, Obj.blk] using hb'
    exact hn.1 (KI.2 ⟨e', he', h⟩)
   · exact ho e (by simp) o hm
  ·
   rcases Kz.1 hm with rfl | hm
   ·
    intro hb'
    obtain rfl : H e.2.2.2 = b := by simpa [uo, Obj.blk] using hb'
    exact h2 hb
   · exact ih.off o hm b hb
theorem draw {id : Nat} (n : Nat) (ks : Nat → Nat) (G : Nat → R) (hB : monoB l.toArray n N = true)
  (h : ∀ H : Nat → Nat, EM N l.toArray (fun S' E => EL X l.toArray Q (l.drop n) ⟨S'.regs, E.l.map (uo H) ++ S'.objs, S'.facts⟩) (l.take n) S ⟨H, G, ks, 0, []⟩) : EC X Q (.region id l.toArray true) S := by
 constructor
 intro a ws ha
 have hall := fun H => jC _ _ _ (h H)
 obtain ⟨infs, hsp⟩ := Classical.axiomOfChoice hall
 have hle : n ≤ l.length := by simpa using (dQ hB).le
 have hln : (l.take n).length = n := by simp; omega
 have hlen : ∀ H, (infs H).length = n := fun H => (hsp H).1.trans hln
 have hok := fun H => (hsp H).2.1
 have htake : ∀ k, k < n → (l.take n)[k]? = l[k]? := fun k hk => by rw [Np, if_pos hk]
 have hdst : ∀ k o, l[k]? = some o → aG l.toArray k = o.dst := fun k o ho => by unfold aG; simp [ho]
 have hks := ha.kn fun _ => True
 have hkind : ∀ H j i, (infs H)[j]? = some i → ks j = i.kind := fun H j i hi => by
  have hj : j < n := by
   have := (Kw.1 hi).1
   rw [hlen H] at this
   exact this
  have := (hok H j l[j] i (by rw [htake j hj]; simp) hi).2.1
  simpa using this
 have hreg : ∀ H F L vs u, GG X S ks infs ws F L vs u → Ag ks H L vs → ∀ j, L j → ∀ i, (infs H)[j]? = some i → aC (zone X S ks ws F L) u (i.reg (H j)) (vs j) := fun H F L vs u hG hA j hj i hi => by
  have hv := hG.val H hA j i hj hi
  have hk := hkind H j i hi
  cases i with
  | still r => exact hv
  | grow r => exact hv
  | skip => trivial
  | new K d =>
   obtain ⟨g, cs, g1, _⟩ := hv
   have := hA j hj hk
   rw [g1, yF] at this
   subst this
   rw [g1]
   exact ay.2 ⟨Eb K _, rfl⟩
 refine jK n (by kernel_rfl) (by rw [ha.size]; exact hB) (fun L vs u => ∃ F, GG X S ks infs ws F L vs u) ?_ ?_ ?_ ?_
 ·
  rintro L L' vs vs' w hL hvs ⟨F, hG⟩
  obtain rfl : L = L' := funext fun j => propext (hL j)
  refine ⟨F, hG.gr, hG.lo, hG.dis, fun H hA j i hj hi => ?_⟩
  rw [← hvs j hj]
  exact hG.val H (fun j hj h3 => by rw [hvs j hj]; exact hA j hj h3) j i hj hi
 · exact ⟨fun _ _ => False, ⟨⟨rfl, rfl, rfl, Nat.le_refl _, fun _ _ => rfl⟩, fun _ h => h.elim, fun _ _ _ h => h.elim, fun _ _ _ _ h => h.elim⟩⟩
 ·
  intro k o L vs b u hk ho hL hLk ⟨F, hG⟩ hslot
  have hinf : ∀ H, ∃ i, (infs H)[k]? = some i := fun H => ⟨(infs H)[k]'(by rw [hlen H]; exact hk), by simp⟩
  have hO : ∀ H i, (infs H)[k]? = some i → OkI l.toArray (bQ H 0 S (l.take n) (infs H) k) o (G k) i := fun H i hi => by
   have := (hok H k o i (by rw [htake k hk]; exact ho) hi).1
   simpa using this
  have hc : ∀ p : Addr, X.ok S.objs ws p.block → u.cell? p = ws.cell? p := fun p hp => hG.gr.cell hp.2.1
  have hkn : ∀ H, Ag ks H L vs → Kn X.mine (zone X S ks ws F L) (fun t => t ∈ o.looksAt l.toArray) (bQ H 0 S (l.take n) (infs H) k) b u := fun H hA => by
   refine ⟨fun p hp => ?_, fun f hf => ?_, fun b hb => hG.lt hb, fun t r ht hr => ?_⟩
   ·
    rw [(aQ _ _ _ _ _ _).1] at hp
    have hat := hks.objs p hp
    exact hat.move (fun _ => .inl) hc fun g hb => hG.gr.block g (Obj.bn hat hb).2
   ·
    rw [(aQ _ _ _ _ _ _).2] at hf
    exact Reads.mono (fun _ => .inl) hc _ _ (hks.facts f hf)
   ·
    have hlk := bZ H (l.take n) (infs H) k 0 S t (by rw [hlen H, hln]) (by omega)
    rcases hslot t ht with ⟨j, h1, h2, h3, h4, h5⟩ | ⟨h1, h2⟩
    ·
     have hjl : j < l.length := by omega
     have hoj : l[j]? = some l[j] := by simp
     have hij : (infs H)[j]? = some ((infs H)[j]'(by rw [hlen H]; omega)) := by simp
     rw [hlk.1 j l[j] _ h1 (by rw [htake j (by omega)]; exact hoj) hij (by rw [← hdst j _ hoj]; exact h2) fun m om h6 h7 hom => by
      rw [htake m (by omega)] at hom
      rw [← hdst m _ hom]
      exact h3 m h6 h7, KJ] at hr
     cases hr
     rw [h5]
     exact hreg H F L vs u hG hA j h4 _ hij
    ·
     rw [hlk.2 fun j oj hj hoj => by
      rw [htake j (by omega)] at hoj
      rw [← hdst j _ hoj]
      exact h1 j hj] at hr
     rw [h2]
     exact (ha.regs t r hr).mono (fun _ => .inl) hc
  have hA0 : Ag ks (fun j => gOf (vs j)) L vs := fun j _ _ => rfl
  obtain ⟨i0, hi0⟩ := hinf fun j => gOf (vs j)
  have hO0 := hO _ _ hi0
  have hk0 := hkind _ _ _ hi0
  have hkn0 := hkn _ hA0
  cases i0 with
  | still r0 =>
   obtain ⟨hg, hS⟩ := hO0
   refine ⟨fun _ => ?_, fun hw => by rw [aU hkn0 hg] at hw; cases hw⟩
   obtain ⟨v, h1, h2⟩ := hS _ _ b u hkn0
   rw [h1]
   refine ⟨_, hG.step hLk (Gr.refl u) v (fun _ => False) (fun _ h => h.elim) fun H hH i hi hz => ?_⟩
   have hO1 := hO _ _ hi
   have hk1 := hkind _ _ _ hi
   rw [hk0] at hk1
   cases i <;> simp only [Inf.kind] at hk1 <;> first | cases hk1 | skip
   obtain ⟨_, hS1⟩ := hO1
   obtain ⟨v', h3, h4⟩ := hS1 _ _ b u (hkn H (hH.of hLk))
   rw [h1] at h3
   cases h3
   exact aC.mono hz (fun _ _ => rfl) h4
  | grow r0 =>
   obtain ⟨hg, hS, hGr⟩ := hO0
   refine ⟨fun _ => dD (hS _ _ b u hkn0) (fun v w' hgr hv => ?_), fun hw => by rw [aU hkn0 hg] at hw; cases hw⟩
   obtain ⟨r', rfl, hv⟩ := hv
   refine ⟨_, hG.step hLk hgr v (fun b => u.heap.size ≤ b ∧ b < w'.heap.size) (fun _ h => h) fun H hH i hi hz => ?_⟩
   have hO1 := hO _ _ hi
   have hk1 := hkind _ _ _ hi
   rw [hk0] at hk1
   cases i <;> simp only [Inf.kind] at hk1 <;> first | cases hk1 | skip
   obtain ⟨_, _, hGr1⟩ := hO1
   rw [hGr] at hGr1
   subst hGr1
   refine aC.mono (fun b hb => ?_) (fun _ _ => rfl) hv
   rcases hb.1 with h1 | h1
   · exact hz b h1
   · exact .inr ⟨k, .inl rfl, (by rw [hk0]; simp [Inf.kind]), by show (if k = k then _ else F k) b; rw [if_pos rfl]; exact ⟨h1, hb.2⟩⟩
  | skip =>
   refine ⟨fun hw => (by rw [aU hkn0 hO0] at hw; cases hw), fun _ => ?_⟩
   refine ⟨_, hG.step hLk (Gr.refl u) undef (fun _ => False) (fun _ h => h.elim) fun H hH i hi hz => ?_⟩
   have hk1 := hkind _ _ _ hi
   rw [hk0] at hk1
   cases i <;> simp only [Inf.kind] at hk1 <;> first | (cases hk1; done) | exact True.intro
  | new K0 d0 =>
   obtain ⟨hg, hS⟩ := hO0
   refine ⟨fun _ => ?_, fun hw => by rw [aU hkn0 hg] at hw; cases hw⟩
   obtain ⟨cs0, h1, _⟩ := hS _ _ b u hkn0
   rw [h1]
   refine ⟨_, hG.step hLk (aH u _) _ (fun b => b = u.heap.size) (fun b e => by subst e; simp) fun H hH i hi hz => ?_⟩
   have hO1 := hO _ _ hi
   have hk1 := hkind _ _ _ hi
   rw [hk0] at hk1
   cases i <;> simp only [Inf.kind] at hk1 <;> first | cases hk1 | skip
   rename_i K d
   obtain ⟨_, hS1⟩ := hO1
   obtain ⟨cs, h3, h4⟩ := hS1 _ _ b u (hkn H (hH.of hLk))
   rw [h1] at h3
   have e1 : K0.val u.heap.size = K.val u.heap.size := by
    injection h3 with e _
    injection e
   have e2 : u.alloc (.cells cs0.toArray K0.ty) = u.alloc (.cells cs.toArray K.ty) := by
    injection h3
   rw [e1, e2]
   exact ⟨u.heap.size, cs, rfl, fun b => Iff.rfl, heap_alloc_new u _, Reads.mono hz (fun p hp => (aH u _).cell (hG.lt hp)) _ _ h4⟩
 ·
  intro vs u b ⟨F, hG⟩ hs hd hslot
  generalize hH : (fun j => gOf (vs j)) = H
  have hA : Ag ks H (fun j => j < n) vs := fun j _ _ => by rw [← hH]
  have hT := (hsp H).2.2
  simp only [J8] at hT
  rw [hln] at hT
  have hc : ∀ p : Addr, X.ok S.objs ws p.block → u.cell? p = ws.cell? p := fun p hp => hG.gr.cell hp.2.1
  have hsz := ha.mem.gr.size
  have hgood : Good X (zone X S ks ws F fun j => j < n) (bQ H 0 S (l.take n) (infs H) n) b u := by
   refine ⟨fun p hp => ?_, by rw [(aQ _ _ _ _ _ _).1]; exact ha.mem.apart, fun p hp b hb e => ?_, fun f hf => ?_, fun t r hr => ?_⟩
   ·
    rw [(aQ _ _ _ _ _ _).1] at hp
    have hat := hks.objs p hp
    exact hat.move (fun _ => .inl) hc fun g hb => hG.gr.block g (Obj.bn hat hb).2
   ·
    rw [(aQ _ _ _ _ _ _).1] at hp
    rcases hb with hb | ⟨i, h1, _, h2⟩
    · exact hb.2.2 p hp e
    ·
     have := (Obj.bn (ha.mem.at_ p hp) e).2
     have := (hG.lo i h1 b h2).1
     omega
   ·
    rw [(aQ _ _ _ _ _ _).2] at hf
    exact Reads.mono (fun _ => .inl) hc _ _ (hks.facts f hf)
   ·
    have hlk := bZ H (l.take n) (infs H) n 0 S t (by rw [hlen H, hln]) (by omega)
    rcases hslot t with ⟨j, h1, h2, h3, h4, h5⟩ | ⟨h1, h2⟩
    ·
     have hjl : j < l.length := by omega
     have hoj : l[j]? = some l[j] := by simp
     have hij : (infs H)[j]? = some ((infs H)[j]'(by rw [hlen H]; omega)) := by simp
     rw [hlk.1 j l[j] _ h1 (by rw [htake j (by omega)]; exact hoj) hij (by rw [← hdst j _ hoj]; exact h2) fun m om h6 h7 hom => by
      rw [htake m (by omega)] at hom
      rw [← hdst m _ hom]
      exact h3 m h6 h7, KJ] at hr
     cases hr
     rw [h5]
     exact hreg H F _ vs u hG hA j h4 _ hij
    ·
     rw [hlk.2 fun j oj hj hoj => by
      rw [htake j (by omega)] at hoj
      rw [← hdst j _ hoj]
      exact h1 j hj] at hr
     rw [h2]
     exact (ha.regs t r hr).mono (fun _ => .inl) hc
  have hfr : ∀ j K d, (infs H)[j]? = some (.new K d) → j < n ∧ ∃ cs, (∀ b, F j b ↔ b = H j) ∧ u.heap[H j]? = some (.cells cs.toArray K.ty (0, 0)) ∧ Reads (zone X S ks ws F fun j => j < n) u d cs := fun j K d hj => by
   have hjn : j < n := by
    have := (Kw.1 hj).1
    rw [hlen H] at this
    exact this
   obtain ⟨g, cs, g1, g2, g3, g4⟩ := hG.val H hA j _ hjn hj
   have hg := hA j hjn (hkind H j _ hj)
   rw [g1, yF] at hg
   subst hg
   exact ⟨hjn, cs, g2, g3, g4⟩
  refine hT.go b u ((Good.ext _ _ hgood (fun e he => ?_) ?_ fun e he o ho => ?_).at (ha.mem.gr.trans (.of hG.gr)) (fun b hb => ?_) (hs.trans ha.size) (hd.trans ha.defers))
  ·
   obtain ⟨j, o, h1, h2, h3, h4⟩ := bV _ _ _ _ he
   rw [KJ] at h1
   obtain ⟨hjn, cs, g2, g3, g4⟩ := hfr j _ _ h4
   rw [h1]
   refine ⟨.inr (La hsz (hG.lo j hjn _ ((g2 _).2 rfl)).1), fun hz => ?_, cs, g3, g4⟩
   rcases hz with hz | ⟨i, k1, k2, k3⟩
   ·
    have := (hG.lo j hjn _ ((g2 _).2 rfl)).1
    have := hz.2.1
    omega
   ·
    by_cases e : i = j
    ·
     subst e
     exact k2 (hkind H i _ h4)
    · exact hG.dis i j _ k1 hjn e k3 ((g2 _).2 rfl)
  ·
   have hnd := fG (l.take n) (infs H) 0
   have hinj : ∀ x ∈ (cZ 0 (l.take n) (infs H)).map (fun e => e.2.2.2), ∀ y ∈ (cZ 0 (l.take n) (infs H)).map (fun e => e.2.2.2), H x = H y → x = y := by
    intro x hx y hy e
    obtain ⟨ex, hex, rfl⟩ := KI.1 hx
    obtain ⟨ey, hey, rfl⟩ := KI.1 hy
    obtain ⟨jx, ox, a1, a2, a3, a4⟩ := bV _ _ _ _ hex
    obtain ⟨jy, oy, b1, b2, b3, b4⟩ := bV _ _ _ _ hey
    rw [KJ] at a1 b1
    rw [a1, b1] at e ⊢
    obtain ⟨hx', _, c2, _⟩ := hfr jx _ _ a4
    obtain ⟨hy', _, d2, _⟩ := hfr jy _ _ b4
    by_cases hne : jx = jy
    · exact hne
    · exact absurd ((d2 _).2 e) (hG.dis jx jy (H jx) hx' hy' hne ((c2 _).2 rfl))
   have hmap : (cZ 0 (l.take n) (infs H)).map (fun e => H e.2.2.2) = ((cZ 0 (l.take n) (infs H)).map (fun e => e.2.2.2)).map H := by rw [LU]; rfl
   rw [hmap]
   revert hnd hinj
   generalize (cZ 0 (l.take n) (infs H)).map (fun e => e.2.2.2) = m
   intro hnd hinj
   induction m with
   | nil => simp
   | cons x m ih =>
    simp only [KD, ML] at hnd ⊢
    refine ⟨fun hm => ?_, ih hnd.2 fun p hp q hq => hinj p (by simp [hp]) q (by simp [hq])⟩
    obtain ⟨y, hy, e⟩ := KI.1 hm
    have := hinj x (by simp) y (by simp [hy]) e.symm
    subst this
    exact hnd.1 hy
  ·
   obtain ⟨j, o', h1, h2, h3, h4⟩ := bV _ _ _ _ he
   rw [KJ] at h1
   obtain ⟨hjn, cs, g2, g3, g4⟩ := hfr j _ _ h4
   rw [(aQ _ _ _ _ _ _).1] at ho
   rw [h1]
   intro e
   have := (Obj.bn (ha.mem.at_ o ho) e).2
   have := (hG.lo j hjn _ ((g2 _).2 rfl)).1
   omega
  ·
   refine ⟨?_, hG.lt hb⟩
   rcases hb with hb | ⟨i, k1, _, k3⟩
   · exact hb.1
   · exact .inr (.inr (La hsz (hG.lo i k1 b k3).1))
end
end W
section
variable {N : Nat} {X : Cx N} {S S' : St} {a : Act} {w w' : World} {ops : Array Oper} {o : Oper} {Q : Exit → Act → World → Prop} {K : Act → World → Prop} {l : List Oper} {c : Code} {TT : St → List Fr → Prop} {EE : List Fr} {rs : List (Tmp × R)} {os : List Obj} {fs : List (Value × D)}
variable {t ty : Nat} {pos : String} {af : Array Edge} {gd : Option (Nat × Bool)}
end
namespace W
section
variable {N : Nat} {X : Cx N} {S S' : St} {a : Act} {w w' : World} {ops : Array Oper} {o : Oper} {Q : Exit → Act → World → Prop} {l : List Oper} {T : St → Frs → Prop} {E : Frs} {rs : List (Tmp × R)} {os : List Obj} {fs : List (Value × D)} {H : Nat → Nat} {G : Nat → R} {ks : Nat → Nat} {k : Nat} {fl : List Fr}
variable {t ty : Nat} {pos : String} {af : Array Edge} {gd : Option (Nat × Bool)}
theorem nil (h : T S E) : EM N ops T [] S E := h
theorem still {t : Tmp} {r : R} (hO : Still ops ⟨rs, os, fs⟩ o r) (hg : guardOf ops ⟨rs, os, fs⟩ o = some true) (hd : o.dst = some t) (hoff : dL N (some t) ⟨H, G, ks, k, fl⟩ = true) (hk : ks k = 0) (kk : EM N ops T l ⟨(t, r) :: rs, os, fs⟩ ⟨H, G, ks, k + 1, fl⟩) : EM N ops T (o :: l) ⟨rs, os, fs⟩ ⟨H, G, ks, k, fl⟩ :=
 ⟨.still r, by rw [hd]; exact hoff, (fun e => by cases e), hk, ⟨hg, hO⟩, by
  rw [hd]
  have : fl ++ gy k (some t) (Inf.still r) = fl := by simp [gy]
  unfold Frs.next
  rw [this]
  exact kk⟩
theorem grow {t : Tmp} {r : R} (hO : ig ops ⟨rs, os, fs⟩ o (· = r)) (hG : G k = r) (hg : guardOf ops ⟨rs, os, fs⟩ o = some true) (hd : o.dst = some t) (hoff : dL N (some t) ⟨H, G, ks, k, fl⟩ = true) (hk : ks k = 1) (kk : EM N ops T l ⟨(t, r) :: rs, os, fs⟩ ⟨H, G, ks, k + 1, fl⟩) : EM N ops T (o :: l) ⟨rs, os, fs⟩ ⟨H, G, ks, k, fl⟩ :=
 ⟨.grow r, by rw [hd]; exact hoff, (fun e => by cases e), hk, ⟨hg, hO, hG⟩, by
  rw [hd]
  have : fl ++ gy k (some t) (Inf.grow r) = fl := by simp [gy]
  unfold Frs.next
  rw [this]
  exact kk⟩
theorem skip {t : Tmp} (hg : guardOf ops ⟨rs, os, fs⟩ o = some false) (hd : o.dst = some t) (hoff : dL N (some t) ⟨H, G, ks, k, fl⟩ = true) (hk : ks k = 2) (kk : EM N ops T l ⟨(t, .any) :: rs, os, fs⟩ ⟨H, G, ks, k + 1, fl⟩) : EM N ops T (o :: l) ⟨rs, os, fs⟩ ⟨H, G, ks, k, fl⟩ :=
 ⟨.skip, by rw [hd]; exact hoff, (fun e => by cases e), hk, hg, by
  rw [hd]
  have : fl ++ gy k (some t) Inf.skip = fl := by simp [gy]
  unfold Frs.next
  rw [this]
  exact kk⟩
theorem new {t : Tmp} (K : Kd) (d : D) (hO : sQ ops ⟨rs, os, fs⟩ o K d) (hg : guardOf ops ⟨rs, os, fs⟩ o = some true) (hd : o.dst = some t) (hoff : dL N (some t) ⟨H, G, ks, k, fl⟩ = true) (hk : ks k = 3) (kk : EM N ops T l ⟨(t, .val (.v (K.val (H k)))) :: rs, os, fs⟩ ⟨H, G, ks, k + 1, fl ++ [(t, K, d, k)]⟩) : EM N ops T (o :: l) ⟨rs, os, fs⟩ ⟨H, G, ks, k, fl⟩ :=
 ⟨.new K d, by rw [hd]; exact hoff, (fun _ => by rw [hd]; exact fun e => by cases e), hk, ⟨hg, hO⟩, by
  rw [hd]
  exact kk⟩
end
end W
abbrev Apart (os : List Obj) : Prop := os.Pairwise fun o p => ∀ b, o.blk = some b → p.blk ≠ some b
def iw (os : List Obj) (b : Nat) : Prop := ∃ o ∈ os, o.blk = some b
structure Own (ok : Nat → Prop) (os : List Obj) (w : World) : Prop where
 at_ : ∀ o ∈ os, o.At (fun _ => True) ok w
 apart : Apart os
 off : ∀ b, iw os b → ¬ ok b
def okM (ok : Nat → Prop) (os : List Obj) (w : World) (os' : List Obj) (w' : World) (b : Nat) : Prop := (ok b ∨ iw os b ∨ w.heap.size ≤ b) ∧ b < w'.heap.size ∧ ∀ o ∈ os', o.blk ≠ some b
structure Turned (ok : Nat → Prop) (os : List Obj) (w : World) (os' : List Obj) (w' : World) : Prop where
 gr : GrE (iw os) w w'
 apart : Apart os'
 at_ : ∀ o ∈ os', o.At (fun b => iw os b ∨ w.heap.size ≤ b) (okM ok os w os' w') w'
structure lJ (ops : Array Oper) (S : St) (o : Oper) (os : List Obj) (Φ : R → List Obj → Prop) : Prop where
 go : ∀ base ok a w, Kn base ok (fun t => t ∈ o.looksAt ops) S a w → Own ok os w → dn Tryz.prog (fun v w' => ∃ r os', Φ r os' ∧ Turned ok os w os' w' ∧ aC (okM ok os w os' w') w' r v) ((execOp a.eval o).run Tryz.prog w)
structure FnM (f : FuncId) (ds : List D) (os : List Obj) (Φ : R → List Obj → Prop) : Prop where
 go : ∀ (ok : Nat → Prop) (w : World) (xs : List Value), (∀ b, ok b → b < w.heap.size) → Own ok os w → bC ok w ds xs →
  Calls Tryz.prog f xs.toArray w fun e w' => ∃ v r os', e = .returned v ∧ Φ r os' ∧ Turned ok os w os' w' ∧ aC (okM ok os w os' w') w' r v
theorem FnM.mono {f : FuncId} {ds : List D} {os : List Obj} {Φ Ψ : R → List Obj → Prop} (h : FnM f ds os Φ) (k : ∀ r os', Φ r os' → Ψ r os') : FnM f ds os Ψ := ⟨fun ok w xs h1 h2 h3 => (h.go ok w xs h1 h2 h3).mono fun e w' ⟨v, r, os', e1, e2, e3⟩ => ⟨v, r, os', e1, k _ _ e2, e3⟩⟩
theorem iw.perm {os os' : List Obj} (h : os.Perm os') (b : Nat) : iw os b ↔ iw os' b := ⟨fun ⟨o, h1, h2⟩ => ⟨o, h.mem_iff.1 h1, h2⟩, fun ⟨o, h1, h2⟩ => ⟨o, h.mem_iff.2 h1, h2⟩⟩
theorem Apart.perm {os os' : List Obj} (h : os.Perm os') (ha : Apart os) : Apart os' := h.pairwise ha fun {x y} hxy b hb e => hxy b e hb
theorem Own.perm {ok : Nat → Prop} {os os' : List Obj} {w : World} (h : os.Perm os') (ho : Own ok os w) : Own ok os' w := ⟨fun o hm => ho.at_ o (h.mem_iff.2 hm), Apart.perm h ho.apart, fun b hb => ho.off b ((iw.perm h b).2 hb)⟩
theorem FnM.perm {f : FuncId} {ds : List D} {os os2 : List Obj} {Φ : R → List Obj → Prop} (h : FnM f ds os Φ) (hp : os.Perm os2) : FnM f ds os2 Φ := by
 have hb : iw os = iw os2 := funext fun b => propext (iw.perm hp b)
 refine ⟨fun ok w xs h1 h2 h3 => (h.go ok w xs h1 (h2.perm hp.symm) h3).mono fun e w' ⟨v, r, os', e1, e2, e3, e4⟩ => ⟨v, r, os', e1, e2, ?_, ?_⟩⟩
 ·
  refine ⟨hb ▸ e3.gr, e3.apart, fun o ho => ?_⟩
  have := e3.at_ o ho
  unfold okM at this ⊢
  rw [hb] at this
  exact this
 ·
  unfold okM at e4 ⊢
  rw [hb] at e4
  exact e4
section
variable {N : Nat} {X : Cx N} {S : St} {a : Act} {w w' : World} {ops : Array Oper} {o : Oper} {Q : Exit → Act → World → Prop} {l : List Oper} {rs : List (Tmp × R)} {os os' rest : List Obj} {fs : List (Value × D)} {Φ : R → List Obj → Prop}
theorem Mem.own (h : Mem X (os ++ rest) fs w) : Own (X.ok (os ++ rest) w) os w :=
 ⟨fun o ho => (h.at_ o (KO _ ho)).iD fun _ _ => trivial, (Lj.1 h.apart).1, fun b ⟨o, ho, hb⟩ hk => hk.2.2 o (KO _ ho) hb⟩
theorem jw (h : Mem X (os ++ rest) fs w) (ht : Turned (X.ok (os ++ rest) w) os w os' w') {b : Nat} (hb : okM (X.ok (os ++ rest) w) os w os' w' b) : X.ok (os' ++ rest) w' b := by
 have hsz := h.gr.size
 refine ⟨?_, hb.2.1, fun o ho => ?_⟩
 ·
  rcases hb.1 with h1 | ⟨o, ho, e⟩ | h1
  · exact h1.1
  · exact .inr (Obj.bn (h.at_ o (KO _ ho)) e).1
  · exact .inr (.inr (La hsz h1))
 ·
  rcases Lh.1 ho with ho | ho
  · exact hb.2.2 o ho
  ·
   intro e
   have hlt := (Obj.bn (h.at_ o (KL _ ho)) e).2
   rcases hb.1 with h1 | ⟨o', ho', e'⟩ | h1
   · exact h1.2.2 o (KL _ ho) e
   · exact (Lj.1 h.apart).2.2 o' ho' o ho b e' e
   · omega
theorem jR (h : Mem X (os ++ rest) fs w) (ht : Turned (X.ok (os ++ rest) w) os w os' w') {b : Nat} (hb : X.ok (os ++ rest) w b) : X.ok (os' ++ rest) w' b := jw h ht ⟨.inl hb, KA hb.2.1 ht.gr.size, fun o ho e => by
 rcases (Obj.bn (ht.at_ o ho) e).1 with ⟨o', ho', e'⟩ | h1
 · exact hb.2.2 o' (KO _ ho') e'
 ·
  have := hb.2.1
  omega⟩
theorem turned_cell (h : Mem X (os ++ rest) fs w) (ht : Turned (X.ok (os ++ rest) w) os w os' w') (p : Addr) (hp : X.ok (os ++ rest) w p.block) : w'.cell? p = w.cell? p := ht.gr.cell hp.2.1 fun ⟨o, ho, e⟩ => hp.2.2 o (KO _ ho) e
theorem Mem.turned (h : Mem X (os ++ rest) fs w) (ht : Turned (X.ok (os ++ rest) w) os w os' w') : Mem X (os' ++ rest) fs w' := by
 have hold : ∀ b, X.ok (os ++ rest) w b → X.ok (os' ++ rest) w' b := fun b => jR h ht
 have hcell := turned_cell h ht
 have hap := Lj.1 h.apart
 refine ⟨h.gr.step ht.gr fun b ⟨o, ho, e⟩ => (Obj.bn (h.at_ o (KO _ ho)) e).1, Lj.2 ⟨ht.apart, hap.2.1, fun o ho p hp b e e' => ?_⟩, fun o ho => ?_, fun f hf => Reads.mono hold hcell _ _ (h.fact f hf)⟩
 ·
  have hlt := (Obj.bn (h.at_ p (KL _ hp)) e').2
  rcases (Obj.bn (ht.at_ o ho) e).1 with ⟨o', ho', e''⟩ | h1
  · exact hap.2.2 o' ho' p hp b e'' e'
  · omega
 ·
  rcases Lh.1 ho with ho | ho
  ·
   refine ((ht.at_ o ho).move (fun b hb => jw h ht hb) (fun _ _ => rfl) fun _ _ => rfl).iD fun b e => ?_
   rcases (Obj.bn (ht.at_ o ho) e).1 with ⟨o', ho', e'⟩ | h1
   · exact (Obj.bn (h.at_ o' (KO _ ho')) e').1
   · exact .inr (La h.gr.size h1)
  ·
   have hat := h.at_ o (KL _ ho)
   exact hat.move hold hcell fun g e => ht.gr.block g (Obj.bn hat e).2 fun ⟨o', ho', e'⟩ => hap.2.2 o' ho' o ho g e' e
theorem EL.mut (hg : guardOf ops ⟨rs, os ++ rest, fs⟩ o = some true) (hd : ∀ t, o.dst = some t → t < N) (hO : lJ ops ⟨rs, rest, fs⟩ o os Φ) (k : ∀ r os', Φ r os' → EL X ops Q l (St.put ⟨rs, os' ++ rest, fs⟩ o.dst r)) : EL X ops Q (o :: l) ⟨rs, os ++ rest, fs⟩ := by
 constructor
 intro a w ha
 have hk := ha.kn fun t => t ∈ o.looksAt ops
 have h1 := hO.go _ _ a w ⟨fun o ho => hk.objs o (KL _ ho), hk.facts, hk.lt, hk.regs⟩ ha.mem.own
 have hnext : ∀ v w', (∃ r os', Φ r os' ∧ Turned (X.ok (os ++ rest) w) os w os' w' ∧ aC (okM (X.ok (os ++ rest) w) os w os' w') w' r v) → wpList Tryz.prog ops Q l (a.put o.dst v) w' := by
  rintro v w' ⟨r, os', hΦ, ht, hv⟩
  have hat : At X ⟨rs, os' ++ rest, fs⟩ a w' := ⟨ha.mem.turned ht, fun t r hr => (ha.regs t r hr).mono (fun b hb => jR ha.mem ht hb) (turned_cell ha.mem ht), ha.size, ha.defers⟩
  exact (k r os' hΦ).go _ _ (hat.put hd (hv.mono (fun b hb => jw ha.mem ht hb) fun _ _ => rfl))
 unfold wpList
 rw [if_pos (bK ha hg)]
 refine .inl ?_
 unfold Oper.wp
 generalize (execOp a.eval o).run Tryz.prog w = res at *
 cases res with
 | ok x w' =>
  cases x <;> simp only [dn] at h1 <;> simp only [Oper.upon]
  case value v => exact hnext _ _ h1
  case skip => exact hnext _ _ h1
  case enter g args =>
   refine h1.mono fun e w'' ⟨v, he, hv⟩ => ?_
   subst he
   exact hnext _ _ hv
 | halt x w' => simp only [dn] at h1
theorem Bj {f : FuncId} {args : Array Operand} {tys : Array TypeId} {ds ds' : List D} (hF : FnM f ds' os Φ) (ho : o.op = .call { callee := .value (.func f), args := args, argTypes := tys }) (hx : evs S args.toList = some ds) (hR : aj S.facts ds ds') (hf : Enters f) : lJ ops S o os Φ := .mk fun base ok a w ha hown => by
 have hr := aj.nN ha.facts _ _ _ hR (ha.evs _ _ hx fun t ht => ak (x := .tmp t) rfl (by rw [ho]; simp only [Op.operands, Call.operands]; simp; simpa using ht))
 have hrun : (execOp a.eval o).run Tryz.prog w = .ok (.enter f (args.map a.eval)) w := by
  unfold execOp
  simp [ho, resolve, Act.eval, Deferred.ofValue, invoke, hf (args.map a.eval) w]
 rw [hrun]
 have := hF.go ok w _ ha.lt hown hr
 have he : (args.toList.map a.eval).toArray = args.map a.eval := by
  apply Array.ext'
  simp
 rw [he] at this
 simp only [dn]
 refine this.mono ?_
 rintro e w' ⟨v, r, os', rfl, h1, h2, h3⟩
 exact ⟨v, rfl, r, os', h1, h2, h3⟩
def jZ (X : Cx N) (Φ : R → List Obj → Prop) (e : Ending) (w' : World) : Prop := ∃ v r os', e = .returned v ∧ Φ r os' ∧ Mem X os' [] w' ∧ aC (X.ok os' w') w' r v
theorem FnM.walk {f : FuncId} {fn : Func} {c : Code} {ds : List D} (N : Nat) (hf : Tryz.prog.funcs[f]? = some fn) (hb : fn.body = some c) (hN : fn.ntmps = N) (hl : ds.length ≤ N)
  (h : ∀ X : Cx N, EC X (bodyPost Tryz.prog fn (jZ X Φ)) c ⟨jd 0 ds, os, []⟩) : FnM f ds os Φ := by
 constructor
 intro ok w xs hok hown hr
 have hxl := fE ds xs hr
 refine Calls.mono (calls_of_wp hf hb ((h ⟨w, ok, iw os, hok⟩).go _ w ⟨⟨.refl w, hown.apart, fun o ho => ?_, (fun f hf => by cases hf)⟩, fun t r ht => ?_, ?_, rfl⟩)) ?_
 · exact ((hown.at_ o ho).move (fun b hb => ⟨.inl hb, hok b hb, fun o' ho' e => hown.off b ⟨o', ho', e⟩ hb⟩) (fun _ _ => rfl) fun _ _ => rfl).iD fun b e => .inl ⟨o, ho, e⟩
 ·
  refine gI ds xs 0 _ (bC.mono (fun b hb => ⟨.inl hb, hok b hb, fun o' ho' e => hown.off b ⟨o', ho', e⟩ hb⟩) (fun _ _ => rfl) ds xs hr) (fun j x hx => ?_) t r ht
  have hj := (Kw.1 hx).1
  have : (xs.toArray ++ Array.replicate (fn.ntmps - xs.toArray.size) undef)[j]? = some x := by
   rw [MO (by simpa using hj)]
   simpa using hx
  rw [KJ, MI, this]
  rfl
 ·
  simp [hN]
  omega
 ·
  rintro e w' ⟨v, r, os', rfl, h1, h2, h3⟩
  exact ⟨v, r, os', rfl, h1, ⟨h2.gr, h2.apart, h2.at_⟩, h3⟩
variable {fn : Func}
theorem EK.GH {t : Tmp} {d d' : D} (hres : fn.results = #[.tmp t]) (hl : look S.regs t = some (.val d)) (hR : aj S.facts [d] [d']) (hΦ : Φ (.val d') S.objs) : EK X (bodyPost Tryz.prog fn (jZ X Φ) .ret) S := by
 constructor
 intro a w ha
 exact bodyPost_ret (results_tmp hres a.tmps Tryz.prog w) ha.defers ⟨_, _, S.objs, rfl, hΦ, ha.mem.less (Lc _) (fun f hf => by cases hf), Refine1.gJ ha.mem.fact hR (ha.regs t _ hl)⟩
theorem EK.Gz {t u : Tmp} {d e d' e' : D} (hres : fn.results = #[.tmp t, .tmp u]) (hl : look S.regs t = some (.val d)) (hk : look S.regs u = some (.val e)) (hR : aj S.facts [d, e] [d', e']) (hΦ : Φ (.tpl [d', e']) S.objs) : EK X (bodyPost Tryz.prog fn (jZ X Φ) .ret) S := by
 constructor
 intro a w ha
 obtain ⟨h1, h2⟩ := hR.cons
 exact bodyPost_ret (results_tmp2 hres a.tmps Tryz.prog w) ha.defers ⟨_, _, S.objs, rfl, hΦ, ha.mem.less (Lc _) (fun f hf => by cases hf), [a.tmps.getD t undef, a.tmps.getD u undef], rfl, _, _, rfl, Refine1.gJ ha.mem.fact h1 (ha.regs t _ hl), _, _, rfl, Refine1.gJ ha.mem.fact h2 (ha.regs u _ hk), rfl⟩
end
end E
end Go.Proofs.YtaoicebcdmpemaaGreat
