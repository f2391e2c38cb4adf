/-
 Merged: lemmas of this claim.
 Conditions: none.
-/
import Derived.Test.YtaoicebcdmpemaaGreatZB4
import Derived.Test.YtaoicebcdmpemaaGreatZB2
import Derived.Test.YtaoicebcdmpemaaGreatZB0
namespace Go.Proofs.YtaoicebcdmpemaaGreat
set_option linter.unusedVariables false
set_option maxHeartbeats 1000000
open Go.RowKit Mono Rlp
namespace E
inductive Inf where
 | still (r : R)
 | grow (r : R)
 | skip
 | new (T : TypeId) (d : D)
 | put (p q : Obj)
def Inf.yu : Inf → Bool
 | .put _ _ => false
 | _ => true
def Inf.reg : Inf → R
 | .still r => r
 | .grow r => r
 | .skip => .tpl []
 | _ => .any
def sQ (ops : Array Oper) (S : St) (o : Oper) (T : TypeId) (d : D) : Prop :=
 ∀ base ok a w, Kn base ok (fun t => t ∈ o.looksAt ops) S a w → ∃ cs : List Value, (execOp a.eval o).run Tryz.prog w = .ok (.value (.pointer (some ⟨w.heap.size, 0, none⟩))) (w.alloc (.cells cs.toArray T)) ∧ Reads ok w d cs
abbrev Fr := Tmp × TypeId × D
def Puts (ops : Array Oper) (S : St) (o : Oper) (p q : Obj) : Prop :=
 q.blk = p.blk ∧ ∀ base ok a w, Kn base ok (fun t => t ∈ o.looksAt ops) S a w → (∀ g, p.blk = some g → ¬ ok g) → p.At base ok w → ∃ w' g, (execOp a.eval o).run Tryz.prog w = .ok .skip w' ∧ p.blk = some g ∧ w.grownBy w' (some g) ∧ q.At base ok w'
def OkI (N : Nat) (ops : Array Oper) (S : St) (o : Oper) : Inf → Prop
 | .still r => guardOf ops S o = some true ∧ Still ops S o r
 | .grow r => guardOf ops S o = some true ∧ ig ops S o (· = r)
 | .skip => guardOf ops S o = some false
 | .new T d => guardOf ops S o = some true ∧ sQ ops S o T d
 | .put p q => guardOf ops S o = some true ∧ o.dst = none ∧ Puts ops S o p q
def dL (N : Nat) (d : Option Tmp) (E : List Fr) : Bool :=
 match d with
 | some t => decide (t < N) && E.all fun x => x.1 != t
 | none => true
def lV (E : List Fr) (d : Option Tmp) : Inf → List Fr
 | .new T x => match d with
  | some t => E ++ [(t, T, x)]
  | none => E
 | _ => E
def EM (N : Nat) (ops : Array Oper) (T : St → List Fr → Prop) : List Oper → St → List Fr → Prop
 | [], S, E => T S E
 | o :: l, S, E => ∃ inf : Inf, inf.yu = true ∧ dL N o.dst E = true ∧ ((∃ T d, inf = .new T d) → o.dst ≠ none) ∧ OkI N ops S o inf ∧ EM N ops T l (S.put o.dst inf.reg) (lV E o.dst inf)
section
variable {N : Nat} {X : Cx N} {S S' : St} {a : Act} {w w' : World} {ops : Array Oper} {o : Oper} {Q : Exit → Act → World → Prop} {l : List Oper} {T : St → List Fr → Prop} {E : List Fr}
theorem EM.nil (h : T S E) : EM N ops T [] S E := h
theorem EM.still {r : R} (hg : guardOf ops S o = some true) (hd : dL N o.dst E = true) (hO : Still ops S o r) (k : EM N ops T l (S.put o.dst r) E) : EM N ops T (o :: l) S E := ⟨.still r, rfl, hd, (fun ⟨_, _, e⟩ => by cases e), ⟨hg, hO⟩, k⟩
theorem EM.grow {r : R} (hg : guardOf ops S o = some true) (hd : dL N o.dst E = true) (hO : ig ops S o (· = r)) (k : EM N ops T l (S.put o.dst r) E) : EM N ops T (o :: l) S E := ⟨.grow r, rfl, hd, (fun ⟨_, _, e⟩ => by cases e), ⟨hg, hO⟩, k⟩
theorem EM.skip (hg : guardOf ops S o = some false) (hd : dL N o.dst E = true) (k : EM N ops T l (S.put o.dst (.tpl [])) E) : EM N ops T (o :: l) S E := ⟨.skip, rfl, hd, (fun ⟨_, _, e⟩ => by cases e), hg, k⟩
theorem EM.new {t : Tmp} {Ty : TypeId} {d : D} (hg : guardOf ops S o = some true) (ht : o.dst = some t) (hd : dL N (some t) E = true) (hO : sQ ops S o Ty d) (k : EM N ops T l (S.put (some t) .any) (E ++ [(t, Ty, d)])) : EM N ops T (o :: l) S E :=
 ⟨.new Ty d, rfl, by rw [ht]; exact hd, fun _ => (by rw [ht]; exact fun e => by cases e), ⟨hg, hO⟩, by rw [ht]; exact k⟩
theorem rO {Ty : TypeId} {d : D} (ho : o.op = .alloc Ty) (hz : Zero Ty d) : sQ ops S o Ty d := fun base ok a w ha => by
 obtain ⟨z, hz, hr⟩ := hz
 refine ⟨z.cells.toList, ?_, hr ok w⟩
 unfold execOp
 simp only [ho, Kq, qj hz, J6, Ku]
theorem Bf {Ty : TypeId} {x : Operand} {d : D} (ho : o.op = .box Ty x) (hx : ev S x = some (.val d)) : sQ ops S o Ty d := fun base ok a w ha => by
 obtain ⟨cs, h1, h2⟩ := ha.ev hx fun t e => ak e (by rw [ho]; simp [Op.operands])
 refine ⟨cs, ?_, h1⟩
 have := fH h1
 unfold execOp
 simp [ho, Instr.box, newVar, newRow, h2, this]
def bQ (S : St) : List Oper → List Inf → Nat → St
 | _, _, 0 => S
 | o :: l, i :: infs, k + 1 => bQ (S.put o.dst i.reg) l infs k
 | _, _, _ => S
def zL (E : List Fr) : List Oper → List Inf → List Fr
 | o :: l, i :: infs => zL (lV E o.dst i) l infs
 | _, _ => E
theorem jC : ∀ (l : List Oper) (S : St) (E : List Fr), EM N ops T l S E → ∃ infs : List Inf, infs.length = l.length ∧
  (∀ k o i, l[k]? = some o → infs[k]? = some i → OkI N ops (bQ S l infs k) o i ∧ (∀ t, o.dst = some t → t < N ∧ (∀ x ∈ E, x.1 ≠ t) ∧ ∀ j oj T d, j < k → l[j]? = some oj → infs[j]? = some (.new T d) → oj.dst ≠ some t) ∧ ((∃ T d, i = .new T d) → o.dst ≠ none)) ∧
  T (bQ S l infs l.length) (zL E l infs) ∧ ∀ (k : Nat) (i : Inf), infs[k]? = some i → i.yu = true
 | [], S, E, h => ⟨[], rfl, (fun k o i h => by simp at h), h, fun k i h => by simp at h⟩
 | o :: l, S, E, h => by
  obtain ⟨inf, h0, h1, h1', h2, h3⟩ := h
  obtain ⟨infs, h4, h5, h6, h7⟩ := jC l _ _ h3
  have hoff : ∀ t, o.dst = some t → t < N ∧ ∀ x ∈ E, x.1 ≠ t := fun t ht => by
   rw [ht] at h1
   simp only [dL, LM, decide_eq_true_eq] at h1
   exact ⟨h1.1, fun x hx => by simpa using KQ.1 h1.2 x hx⟩
  refine ⟨inf :: infs, by simp [h4], fun k o' i hk hi => ?_, h6, fun k i hi => by
   cases k with
   | zero =>
    cases hi
    exact h0
   | succ k => exact h7 k i (by simpa using hi)⟩
  cases k with
  | zero =>
   cases hk
   cases hi
   exact ⟨h2, fun t ht => ⟨(hoff t ht).1, (hoff t ht).2, fun j _ _ _ hj => by omega⟩, h1'⟩
  | succ k =>
   obtain ⟨g1, g2, g3⟩ := h5 k o' i (by simpa using hk) (by simpa using hi)
   refine ⟨g1, fun t ht => ⟨(g2 t ht).1, fun x hx => (g2 t ht).2.1 x ?_, fun j oj T d hj hoj hij => ?_⟩, g3⟩
   ·
    unfold lV
    split
    ·
     split
     · exact KO _ hx
     · exact hx
    · exact hx
   ·
    cases j with
    | zero =>
     cases hoj
     cases hij
     intro e
     exact (g2 t ht).2.1 (t, T, d) (by unfold lV; rw [e]; simp) rfl
    | succ j => exact (g2 t ht).2.2 j oj T d (by omega) (by simpa using hoj) (by simpa using hij)
theorem aQ : ∀ (l : List Oper) (infs : List Inf) (k : Nat) (S : St), (bQ S l infs k).objs = S.objs ∧ (bQ S l infs k).facts = S.facts
 | _, _, 0, S => by simp [bQ]
 | [], infs, k + 1, S => by simp [bQ]
 | o :: l, [], k + 1, S => by simp [bQ]
 | o :: l, i :: infs, k + 1, S => by
  rw [bQ]
  have := aQ l infs k (S.put o.dst i.reg)
  rw [this.1, this.2]
  unfold St.put
  split <;> simp
theorem bZ : ∀ (l : List Oper) (infs : List Inf) (k : Nat) (S : St) (t : Tmp), infs.length = l.length → k ≤ l.length →
  (∀ j oj i, j < k → l[j]? = some oj → infs[j]? = some i → oj.dst = some t → (∀ m om, j < m → m < k → l[m]? = some om → om.dst ≠ some t) → look (bQ S l infs k).regs t = some i.reg) ∧
  ((∀ j oj, j < k → l[j]? = some oj → oj.dst ≠ some t) → look (bQ S l infs k).regs t = look S.regs t)
 | _, _, 0, S, t, _, _ => ⟨(fun j _ _ h => by omega), fun _ => by simp [bQ]⟩
 | [], infs, k + 1, S, t, _, h => by simp at h
 | o :: l, [], k + 1, S, t, h, _ => by simp at h
 | o :: l, i :: infs, k + 1, S, t, hl, hk => by
  rw [bQ]
  have ih := bZ l infs k (S.put o.dst i.reg) t (by simpa using hl) (by simpa using hk)
  refine ⟨fun j oj i' hj hoj hi hd hlast => ?_, fun hno => ?_⟩
  ·
   cases j with
   | zero =>
    cases hoj
    cases hi
    rw [ih.2 fun m om hm hom => hlast (m + 1) om (by omega) (by omega) (by simpa using hom), hd]
    simp [St.put, look]
   | succ j => exact ih.1 j oj i' (by omega) (by simpa using hoj) (by simpa using hi) hd fun m om h1 h2 hom => hlast (m + 1) om (by omega) (by omega) (by simpa using hom)
  ·
   rw [ih.2 fun m om hm hom => hno (m + 1) om (by omega) (by simpa using hom)]
   have := hno 0 o (by omega) rfl
   cases hd : o.dst with
   | none => rfl
   | some d =>
    simp only [St.put, look]
    rw [if_neg (fun e => this (by rw [hd, e]))]
structure GG (X : Cx N) (S : St) (infs : List Inf) (ws : World) (F : Nat → Nat → Prop) (L : Nat → Prop) (vs : Nat → Value) (u : World) : Prop where
 gr : Gr ws u
 lo : ∀ j, L j → ∀ b, F j b → ws.heap.size ≤ b ∧ b < u.heap.size
 dis : ∀ i j b, L i → L j → i ≠ j → F i b → ¬ F j b
 val : ∀ j i, L j → infs[j]? = some i → (match i with
  | .new T d => ∃ g cs, vs j = .pointer (some ⟨g, 0, none⟩) ∧ (∀ b, F j b ↔ b = g) ∧ u.heap[g]? = some (.cells cs.toArray T (0, 0)) ∧ Reads (fun b => X.ok S.objs ws b ∨ ∃ i, L i ∧ (∀ T d, infs[i]? ≠ some (.new T d)) ∧ F i b) u d cs
  | i => aC (fun b => X.ok S.objs ws b ∨ ∃ i, L i ∧ (∀ T d, infs[i]? ≠ some (.new T d)) ∧ F i b) u i.reg (vs j))
abbrev zone (X : Cx N) (S : St) (infs : List Inf) (ws : World) (F : Nat → Nat → Prop) (L : Nat → Prop) (b : Nat) : Prop := X.ok S.objs ws b ∨ ∃ i, L i ∧ (∀ T d, infs[i]? ≠ some (.new T d)) ∧ F i b
theorem GG.lt {infs : List Inf} {ws : World} {F : Nat → Nat → Prop} {L : Nat → Prop} {vs : Nat → Value} {u : World} (h : GG X S infs ws F L vs u) {b : Nat} (hb : zone X S infs ws F L b) : b < u.heap.size := by
 rcases hb with hb | ⟨i, h1, _, h2⟩
 · exact KA hb.2.1 h.gr.size
 · exact (h.lo i h1 b h2).2
theorem GG.step {infs : List Inf} {ws : World} {F : Nat → Nat → Prop} {L : Nat → Prop} {vs : Nat → Value} {u u' : World} (h : GG X S infs ws F L vs u) {k : Nat} (hk : ¬ L k) (hg : Gr u u') (v : Value) (f : Nat → Prop) (hf : ∀ b, f b → u.heap.size ≤ b ∧ b < u'.heap.size)
  (hv : ∀ i, infs[k]? = some i → (∀ b, zone X S infs ws F L b → zone X S infs ws (fun j => if j = k then f else F j) (fun j => j = k ∨ L j) b) → (match i with
   | .new T d => ∃ g cs, v = .pointer (some ⟨g, 0, none⟩) ∧ (∀ b, f b ↔ b = g) ∧ u'.heap[g]? = some (.cells cs.toArray T (0, 0)) ∧ Reads (zone X S infs ws (fun j => if j = k then f else F j) (fun j => j = k ∨ L j)) u' d cs
   | i => aC (zone X S infs ws (fun j => if j = k then f else F j) (fun j => j = k ∨ L j)) u' i.reg v)) :
  GG X S infs ws (fun j => if j = k then f else F j) (fun j => j = k ∨ L j) (fun j => if j = k then v else vs j) u' := by
 have hF : ∀ j, L j → (if j = k then f else F j) = F j := fun j hj => if_neg fun e => hk (by rw [← e]; exact hj)
 have hz : ∀ b, zone X S infs ws F L b → zone X S infs ws (fun j => if j = k then f else F j) (fun j => j = k ∨ L j) b := fun b hb => by
  rcases hb with hb | ⟨i, h1, h2, h3⟩
  · exact .inl hb
  · exact .inr ⟨i, .inr h1, h2, by show (if i = k then f else F i) b; rw [hF i h1]; exact h3⟩
 have hc : ∀ p : Addr, zone X S infs ws F L p.block → u'.cell? p = u.cell? p := fun p hp => hg.cell (h.lt hp)
 refine ⟨h.gr.trans hg, fun j hj b hb => ?_, fun i j b hi hj hij hb => ?_, fun j i hj hi => ?_⟩
 ·
  by_cases e : j = k
  ·
   rw [if_pos e] at hb
   exact ⟨La h.gr.size (hf b hb).1, (hf b hb).2⟩
  ·
   rw [if_neg e] at hb
   have := h.lo j (hj.resolve_left e) b hb
   exact ⟨this.1, KA this.2 hg.size⟩
 ·
  by_cases e1 : i = k
  ·
   by_cases e2 : j = k
   · exact absurd (e1.trans e2.symm) hij
   ·
    rw [if_pos e1] at hb
    rw [if_neg e2]
    intro hb2
    have := (h.lo j (hj.resolve_left e2) b hb2).2
    have := (hf b hb).1
    omega
  ·
   rw [if_neg e1] at hb
   by_cases e2 : j = k
   ·
    rw [if_pos e2]
    intro hb2
    have := (h.lo i (hi.resolve_left e1) b hb).2
    have := (hf b hb2).1
    omega
   ·
    rw [if_neg e2]
    exact h.dis i j b (hi.resolve_left e1) (hj.resolve_left e2) hij hb
 ·
  by_cases e : j = k
  ·
   subst e
   simp only [if_true]
   exact hv i hi hz
  ·
   have hj' := hj.resolve_left e
   have h0 := h.val j i hj' hi
   simp only [if_neg e]
   cases i with
   | new T d =>
    obtain ⟨g, cs, g1, g2, g3, g4⟩ := h0
    exact ⟨g, cs, g1, g2, (hg.block g (lt_of_some g3)).trans g3, Reads.mono hz hc _ _ g4⟩
   | still r => exact aC.mono hz hc h0
   | grow r => exact aC.mono hz hc h0
   | skip => exact aC.mono hz hc h0
   | put p q => trivial
theorem rX {V V' : VP} (h : ∀ v w', Gr w w' → V v w' → V' v w') {r : Result Next} (hr : bJ Tryz.prog V w r) : bJ Tryz.prog V' w r := by
 cases r with
 | ok x w' =>
  cases x <;> simp only [bJ] at hr ⊢
  case value v => exact ⟨hr.1, h _ _ hr.1 hr.2⟩
  case skip => exact ⟨hr.1, h _ _ hr.1 hr.2⟩
  case enter f args => exact ⟨hr.1, hr.2.mono fun e w'' ⟨v, h1, h2, h3⟩ => ⟨v, h1, h2, h v w'' (hr.1.trans h2) h3⟩⟩
 | halt x w' => simp only [bJ] at hr
def E8 (S : St) : List (Fr × Nat) → St
 | [] => S
 | ((t, T, d), g) :: E => E8 ⟨(t, .val (.v (.pointer (some ⟨g, 0, none⟩)))) :: S.regs, .var g T d :: S.objs, S.facts⟩ E
def nV (k : St → Prop) : List Fr → St → Prop
 | [], S => k S
 | (t, T, d) :: E, S => ∀ g, nV k E ⟨(t, .val (.v (.pointer (some ⟨g, 0, none⟩)))) :: S.regs, .var g T d :: S.objs, S.facts⟩
theorem qw {k : St → Prop} : ∀ (E : List (Fr × Nat)) (S : St), nV k (E.map (·.1)) S → k (E8 S E)
 | [], S, h => h
 | ((t, T, d), g) :: E, S, h => qw E _ (h g)
structure Good (X : Cx N) (z : Nat → Prop) (S : St) (b : Act) (u : World) : Prop where
 at_ : ∀ o ∈ S.objs, o.At X.mine z u
 apart : S.objs.Pairwise fun o p => ∀ b, o.blk = some b → p.blk ≠ some b
 off : ∀ o ∈ S.objs, ∀ b, z b → o.blk ≠ some b
 fact : ∀ f ∈ S.facts, Reads z u f.2 [f.1]
 regs : ∀ t r, look S.regs t = some r → aC z u r (b.tmps.getD t undef)
theorem Good.ext {z : Nat → Prop} {b : Act} {u : World} : ∀ (E : List (Fr × Nat)) (S : St), Good X z S b u → (∀ e ∈ E, X.mine e.2 ∧ ¬ z e.2 ∧ b.tmps.getD e.1.1 undef = .pointer (some ⟨e.2, 0, none⟩) ∧ ∃ cs, u.heap[e.2]? = some (.cells cs.toArray e.1.2.1 (0, 0)) ∧ Reads z u e.1.2.2 cs) →
  (E.map (·.2)).Nodup → (∀ e ∈ E, ∀ o ∈ S.objs, o.blk ≠ some e.2) → Good X z (E8 S E) b u
 | [], S, h, _, _, _ => h
 | ((t, T, d), g) :: E, S, h, hE, hn, ho => by
  rw [E8]
  obtain ⟨h1, h2, h3, cs, h4, h5⟩ := hE ((t, T, d), g) (by simp)
  simp only [KD, ML] at hn
  refine Good.ext E _ ⟨fun o hm => ?_, KR.2 ⟨fun o hm b e => ?_, h.apart⟩, fun o hm b hb => ?_, h.fact, fun t' r hr => ?_⟩ (fun e he => hE e (by simp [he])) hn.2 fun e he o hm => ?_
  ·
   rcases Kz.1 hm with rfl | hm
   · exact ⟨h1, cs, h4, h5⟩
   · exact h.at_ o hm
  ·
   cases e
   exact ho ((t, T, d), g) (by simp) o hm
  ·
   rcases Kz.1 hm with rfl | hm
   ·
    intro e
    cases e
    exact h2 hb
   · exact h.off o hm b hb
  ·
   simp only [look] at hr
   split at hr
   ·
    rename_i e
    cases hr
    subst e
    exact ay.2 ⟨rfl, h3⟩
   · exact h.regs t' r hr
  ·
   rcases Kz.1 hm with rfl | hm
   ·
    intro e'
    simp only [Obj.blk, MB] at e'
    exact hn.1 (KI.2 ⟨e, he, e'.symm⟩)
   · exact ho e (by simp [he]) o hm
theorem Good.at {z : Nat → Prop} {b : Act} {u : World} (h : Good X z S b u) (hg : GrE X.own0 X.w0 u) (hz : ∀ b, z b → (X.ok0 b ∨ X.mine b) ∧ b < u.heap.size) (hs : b.tmps.size = N) (hd : b.defers = []) : At X S b u := by
 have hok : ∀ b, z b → X.ok S.objs u b := fun b hb => ⟨(hz b hb).1, (hz b hb).2, fun o ho => h.off o ho b hb⟩
 refine ⟨⟨hg, h.apart, fun o ho => ?_, fun f hf => Reads.mono hok (fun _ _ => rfl) _ _ (h.fact f hf)⟩, fun t r hr => (h.regs t r hr).mono hok fun _ _ => rfl, hs, hd⟩
 exact (h.at_ o ho).move hok (fun _ _ => rfl) fun _ _ => rfl
def gy (k : Nat) (d : Option Tmp) : Inf → List (Fr × Nat)
 | .new T x => match d with
  | some t => [((t, T, x), k)]
  | none => []
 | _ => []
theorem BU (k : Nat) (E : List Fr) (d : Option Tmp) (i : Inf) : lV E d i = E ++ (gy k d i).map (·.1) := by
 cases i <;> cases d <;> simp [lV, gy]
theorem ji {k : Nat} {d : Option Tmp} {i : Inf} {e : Fr × Nat} (h : e ∈ gy k d i) : e.2 = k ∧ d = some e.1.1 ∧ i = .new e.1.2.1 e.1.2.2 := by
 cases i <;> cases d <;> simp [gy] at h
 subst h
 exact ⟨rfl, rfl, rfl⟩
theorem jW (k : Nat) (d : Option Tmp) (i : Inf) : ((gy k d i).map (·.2)).Nodup := by
 cases i <;> cases d <;> simp [gy]
def cZ : Nat → List Oper → List Inf → List (Fr × Nat)
 | k, o :: l, i :: infs => gy k o.dst i ++ cZ (k + 1) l infs
 | _, [], _ => []
 | _, _ :: _, [] => []
theorem uQ : ∀ (l : List Oper) (infs : List Inf) (k : Nat) (E : List Fr), zL E l infs = E ++ (cZ k l infs).map (·.1)
 | [], infs, k, E => by cases infs <;> simp [zL, cZ]
 | o :: l, [], k, E => by simp [zL, cZ]
 | o :: l, i :: infs, k, E => by
  rw [zL, cZ, uQ l infs (k + 1), BU k, LG, KY]
theorem bV : ∀ (l : List Oper) (infs : List Inf) (k : Nat) (e : Fr × Nat), e ∈ cZ k l infs → ∃ j o, e.2 = k + j ∧ l[j]? = some o ∧ o.dst = some e.1.1 ∧ infs[j]? = some (.new e.1.2.1 e.1.2.2)
 | [], infs, k, e, h => by cases infs <;> simp [cZ] at h
 | o :: l, [], k, e, h => by simp [cZ] at h
 | o :: l, i :: infs, k, e, h => by
  rw [cZ] at h
  rcases Lh.1 h with h | h
  ·
   obtain ⟨h1, h2, h3⟩ := ji h
   exact ⟨0, o, h1, rfl, h2, by rw [h3]; rfl⟩
  ·
   obtain ⟨j, o', h1, h2, h3, h4⟩ := bV l infs (k + 1) e h
   exact ⟨j + 1, o', by omega, by simpa using h2, h3, by simpa using h4⟩
theorem fG : ∀ (l : List Oper) (infs : List Inf) (k : Nat), ((cZ k l infs).map (·.2)).Nodup
 | [], infs, k => by cases infs <;> simp [cZ]
 | o :: l, [], k => by simp [cZ]
 | o :: l, i :: infs, k => by
  rw [cZ, LG]
  refine MW.2 ⟨jW k o.dst i, fG l infs (k + 1), fun x hx y hy e => ?_⟩
  subst e
  obtain ⟨e, he, rfl⟩ := KI.1 hy
  obtain ⟨j, o', h1, _⟩ := bV l infs (k + 1) e he
  obtain ⟨e', he', h2⟩ := KI.1 hx
  have := (ji he').1
  omega
theorem EC.draw {id : Nat} (n : Nat) (hB : monoB l.toArray n N = true) (h : EM N l.toArray (fun S' E => nV (EL X l.toArray Q (l.drop n)) E S') (l.take n) S []) : EC X Q (.region id l.toArray true) S := by
 constructor
 intro a ws ha
 obtain ⟨infs, hlen, hok, hT, hnp⟩ := jC _ _ _ h
 have hle : n ≤ l.length := by simpa using (dQ hB).le
 have hln : (l.take n).length = n := by simp; omega
 rw [hln] at hlen hT
 have htake : ∀ k, k < n → (l.take n)[k]? = l[k]? := fun k hk => by rw [Np, if_pos hk]
 have hdst : ∀ k o, l[k]? = some o → aG l.toArray k = o.dst := fun k o ho => by unfold aG; simp [ho]
 have hks := ha.kn fun _ => True
 refine jK n (by kernel_rfl) (by rw [ha.size]; exact hB) (fun L vs u => ∃ F, GG X S infs ws F L vs u) ?_ ?_ ?_ ?_
 ·
  rintro L L' vs vs' w hL hvs ⟨F, hG⟩
  obtain rfl : L = L' := funext fun j => propext (hL j)
  refine ⟨F, hG.gr, hG.lo, hG.dis, fun j i hj hi => ?_⟩
  rw [← hvs j hj]
  exact hG.val j i hj hi
 · exact ⟨fun _ _ => False, ⟨⟨rfl, rfl, rfl, Nat.le_refl _, fun _ _ => rfl⟩, fun _ h => h.elim, fun _ _ _ h => h.elim, fun _ _ h => h.elim⟩⟩
 ·
  intro k o L vs b u hk ho hL hLk ⟨F, hG⟩ hslot
  obtain ⟨i, hi⟩ : ∃ i, infs[k]? = some i := ⟨infs[k], by simp [hlen, hk]⟩
  obtain ⟨hO, hof, _⟩ := hok k o i (by rw [htake k hk]; exact ho) hi
  have hc : ∀ p : Addr, X.ok S.objs ws p.block → u.cell? p = ws.cell? p := fun p hp => hG.gr.cell hp.2.1
  have hkn : Kn X.mine (zone X S infs ws F L) (fun t => t ∈ o.looksAt l.toArray) (bQ S (l.take n) infs k) b u := by
   refine ⟨fun p hp => ?_, fun f hf => ?_, fun b hb => hG.lt hb, fun t r ht hr => ?_⟩
   ·
    rw [(aQ _ _ _ _).1] at hp
    have hat := hks.objs p hp
    exact hat.move (fun _ => .inl) hc fun g hb => hG.gr.block g (Obj.bn hat hb).2
   ·
    rw [(aQ _ _ _ _).2] at hf
    exact Reads.mono (fun _ => .inl) hc _ _ (hks.facts f hf)
   ·
    have hlk := bZ (l.take n) infs k S t (by rw [hlen, hln]) (by omega)
    rcases hslot t ht with ⟨j, h1, h2, h3, h4, h5⟩ | ⟨h1, h2⟩
    ·
     have hjl : j < l.length := by omega
     have hoj : l[j]? = some l[j] := by simp
     have hij : infs[j]? = some infs[j] := by simp
     rw [hlk.1 j l[j] infs[j] h1 (by rw [htake j (by omega)]; exact hoj) hij (by rw [← hdst j _ hoj]; exact h2) fun m om h6 h7 hom => by
      rw [htake m (by omega)] at hom
      rw [← hdst m _ hom]
      exact h3 m h6 h7] at hr
     cases hr
     rw [h5]
     have := hG.val j _ h4 hij
     cases hinf : infs[j] with
     | new T d => trivial
     | still r => rw [hinf] at this; exact this
     | grow r => rw [hinf] at this; exact this
     | skip => rw [hinf] at this; exact this
     | put p q => trivial
    ·
     rw [hlk.2 fun j oj hj hoj => by
      rw [htake j (by omega)] at hoj
      rw [← hdst j _ hoj]
      exact h1 j hj] at hr
     rw [h2]
     exact (ha.regs t r hr).mono (fun _ => .inl) hc
  have hstep : ∀ v u', Gr u u' → ∀ f : Nat → Prop, (∀ b, f b → u.heap.size ≤ b ∧ b < u'.heap.size) → ((∀ b, zone X S infs ws F L b → zone X S infs ws (fun j => if j = k then f else F j) (fun j => j = k ∨ L j) b) → (match i with
   | .new T d => ∃ g cs, v = .pointer (some ⟨g, 0, none⟩) ∧ (∀ b, f b ↔ b = g) ∧ u'.heap[g]? = some (.cells cs.toArray T (0, 0)) ∧ Reads (zone X S infs ws (fun j => if j = k then f else F j) (fun j => j = k ∨ L j)) u' d cs
   | i => aC (zone X S infs ws (fun j => if j = k then f else F j) (fun j => j = k ∨ L j)) u' i.reg v)) → ∃ F, GG X S infs ws F (fun j => j = k ∨ L j) (fun j => if j = k then v else vs j) u' := fun v u' hg f hf hv =>
   ⟨_, hG.step hLk hg v f hf fun i' hi' hz => by
    obtain rfl : i' = i := Lu (hi'.symm.trans hi)
    exact hv hz⟩
  cases i with
  | still r =>
   obtain ⟨hg, hS⟩ := hO
   refine ⟨fun _ => ?_, fun hw => by rw [aU hkn hg] at hw; cases hw⟩
   obtain ⟨v, h1, h2⟩ := hS _ _ b u hkn
   rw [h1]
   exact (hstep v u (Gr.refl u) (fun _ => False) (fun _ h => h.elim) fun hz => aC.mono hz (fun _ _ => rfl) h2)
  | grow r =>
   obtain ⟨hg, hS⟩ := hO
   refine ⟨fun _ => dD (hS _ _ b u hkn) (fun v w' hgr hv => ?_), fun hw => by rw [aU hkn hg] at hw; cases hw⟩
   obtain ⟨r', rfl, hv⟩ := hv
   refine hstep v w' hgr (fun b => u.heap.size ≤ b ∧ b < w'.heap.size) (fun _ h => h) fun hz => aC.mono (fun b hb => ?_) (fun _ _ => rfl) hv
   rcases hb.1 with h1 | h1
   · exact hz b h1
   · exact .inr ⟨k, .inl rfl, (fun T d e => by rw [hi] at e; cases e), by show (if k = k then _ else F k) b; rw [if_pos rfl]; exact ⟨h1, hb.2⟩⟩
  | put p q => cases hnp k _ hi
  | skip =>
   refine ⟨fun hw => (by rw [aU hkn hO] at hw; cases hw), fun _ => ?_⟩
   exact hstep undef u (Gr.refl u) (fun _ => False) (fun _ h => h.elim) fun _ => ⟨[], rfl, rfl⟩
  | new T d =>
   obtain ⟨hg, hS⟩ := hO
   refine ⟨fun _ => ?_, fun hw => by rw [aU hkn hg] at hw; cases hw⟩
   obtain ⟨cs, h1, h2⟩ := hS _ _ b u hkn
   rw [h1]
   have hgr := aH u (.cells cs.toArray T)
   exact hstep _ _ hgr (fun b => b = u.heap.size) (fun b e => by subst e; simp) fun hz => ⟨u.heap.size, cs, rfl, fun b => Iff.rfl, heap_alloc_new u _, Reads.mono hz (fun p hp => hgr.cell (hG.lt hp)) _ _ h2⟩
 ·
  intro vs u b ⟨F, hG⟩ hs hd hslot
  have hc : ∀ p : Addr, X.ok S.objs ws p.block → u.cell? p = ws.cell? p := fun p hp => hG.gr.cell hp.2.1
  have hsz := ha.mem.gr.size
  have hgood : Good X (zone X S infs ws F fun j => j < n) (bQ S (l.take n) infs n) b u := by
   refine ⟨fun p hp => ?_, by rw [(aQ _ _ _ _).1]; exact ha.mem.apart, fun p hp b hb e => ?_, fun f hf => ?_, fun t r hr => ?_⟩
   ·
    rw [(aQ _ _ _ _).1] at hp
    have hat := hks.objs p hp
    exact hat.move (fun _ => .inl) hc fun g hb => hG.gr.block g (Obj.bn hat hb).2
   ·
    rw [(aQ _ _ _ _).1] at hp
    rcases hb with hb | ⟨i, h1, _, h2⟩
    · exact hb.2.2 p hp e
    ·
     have := (Obj.bn (ha.mem.at_ p hp) e).2
     have := (hG.lo i h1 b h2).1
     omega
   ·
    rw [(aQ _ _ _ _).2] at hf
    exact Reads.mono (fun _ => .inl) hc _ _ (hks.facts f hf)
   ·
    have hlk := bZ (l.take n) infs n S t (by rw [hlen, hln]) (by omega)
    rcases hslot t with ⟨j, h1, h2, h3, h4, h5⟩ | ⟨h1, h2⟩
    ·
     have hjl : j < l.length := by omega
     have hoj : l[j]? = some l[j] := by simp
     have hij : infs[j]? = some infs[j] := by simp
     rw [hlk.1 j l[j] infs[j] h1 (by rw [htake j (by omega)]; exact hoj) hij (by rw [← hdst j _ hoj]; exact h2) fun m om h6 h7 hom => by
      rw [htake m (by omega)] at hom
      rw [← hdst m _ hom]
      exact h3 m h6 h7] at hr
     cases hr
     rw [h5]
     have := hG.val j _ h4 hij
     cases hinf : infs[j] with
     | new T d => trivial
     | still r => rw [hinf] at this; exact this
     | grow r => rw [hinf] at this; exact this
     | skip => rw [hinf] at this; exact this
     | put p q => trivial
    ·
     rw [hlk.2 fun j oj hj hoj => by
      rw [htake j (by omega)] at hoj
      rw [← hdst j _ hoj]
      exact h1 j hj] at hr
     rw [h2]
     exact (ha.regs t r hr).mono (fun _ => .inl) hc
  let gOf : Nat → Nat := fun j => match vs j with
   | .pointer (some p) => p.block
   | _ => 0
  have hfr : ∀ j T d, infs[j]? = some (.new T d) → ∃ cs, vs j = .pointer (some ⟨gOf j, 0, none⟩) ∧ (∀ b, F j b ↔ b = gOf j) ∧ u.heap[gOf j]? = some (.cells cs.toArray T (0, 0)) ∧ Reads (zone X S infs ws F fun j => j < n) u d cs := fun j T d hj => by
   have hjn : j < n := by
    have := (Kw.1 hj).1
    omega
   obtain ⟨g, cs, g1, g2, g3, g4⟩ := hG.val j _ hjn hj
   have hg : gOf j = g := by simp only [gOf, g1]
   rw [hg]
   exact ⟨cs, g1, g2, g3, g4⟩
  have hE := uQ (l.take n) infs 0 []
  rw [J8] at hE
  rw [hE] at hT
  have hmm : (cZ 0 (l.take n) infs).map (·.1) = ((cZ 0 (l.take n) infs).map fun e => (e.1, gOf e.2)).map (·.1) := by simp [List.map_map, Function.comp_def]
  rw [hmm] at hT
  have hEL := qw _ _ hT
  refine hEL.go b u ((Good.ext _ _ hgood (fun e he => ?_) ?_ fun e he o ho => ?_).at (ha.mem.gr.trans (.of hG.gr)) (fun b hb => ?_) (hs.trans ha.size) (hd.trans ha.defers))
  ·
   obtain ⟨e0, he0, rfl⟩ := KI.1 he
   obtain ⟨j, o, h1, h2, h3, h4⟩ := bV _ _ _ _ he0
   rw [KJ] at h1
   have hjn : j < n := by
    have := (Kw.1 h4).1
    omega
   obtain ⟨cs, g1, g2, g3, g4⟩ := hfr j _ _ h4
   rw [htake j hjn] at h2
   dsimp only
   rw [h1]
   refine ⟨.inr (La hsz (hG.lo j hjn _ ((g2 _).2 rfl)).1), fun hz => ?_, ?_, cs, g3, g4⟩
   ·
    rcases hz with hz | ⟨i, k1, k2, k3⟩
    ·
     have := (hG.lo j hjn _ ((g2 _).2 rfl)).1
     have := hz.2.1
     omega
    ·
     by_cases e : i = j
     ·
      subst e
      exact k2 _ _ h4
     · exact hG.dis i j _ k1 hjn e k3 ((g2 _).2 rfl)
   ·
    rcases hslot e0.1.1 with ⟨j', k1, k2, k3, k4, k5⟩ | ⟨k1, k2⟩
    ·
     have hjj : j' = j := by
      rcases MX j' j with h | h | h
      · exact absurd ((hdst j o h2).trans h3) (k3 j h hjn)
      · exact h
      ·
       exfalso
       have hoj' : l[j']? = some l[j'] := by simp
       have hij' : infs[j']? = some infs[j'] := by simp
       exact ((hok j' l[j'] infs[j'] (by rw [htake j' k1]; exact hoj') hij').2.1 e0.1.1 (by rw [← hdst j' _ hoj']; exact k2)).2.2 j o _ _ h (by rw [htake j hjn]; exact h2) h4 h3
     subst hjj
     rw [k5]
     exact g1
    · exact absurd ((hdst j o h2).trans h3) (k1 j hjn)
  ·
   have hnd := fG (l.take n) infs 0
   rw [LU]
   have : ((fun e : Fr × Nat => e.2) ∘ fun e : Fr × Nat => (e.1, gOf e.2)) = gOf ∘ fun e => e.2 := rfl
   rw [show ((fun x : Fr × Nat => x.2) ∘ fun e : Fr × Nat => (e.1, gOf e.2)) = gOf ∘ (fun e => e.2) from rfl, ← LU]
   have hinj : ∀ x ∈ (cZ 0 (l.take n) infs).map (·.2), ∀ y ∈ (cZ 0 (l.take n) infs).map (·.2), gOf x = gOf y → x = y := by
    intro x hx y hy e
    obtain ⟨ex, hex, rfl⟩ := KI.1 hx
    obtain ⟨ey, hey, rfl⟩ := KI.1 hy
    obtain ⟨jx, ox, a1, a2, a3, a4⟩ := bV _ _ _ _ hex
    obtain ⟨jy, oy, b1, b2, b3, b4⟩ := bV _ _ _ _ hey
    rw [KJ] at a1 b1
    rw [a1, b1] at e ⊢
    obtain ⟨_, c1, c2, _⟩ := hfr jx _ _ a4
    obtain ⟨_, d1, d2, _⟩ := hfr jy _ _ b4
    by_cases hne : jx = jy
    · exact hne
    ·
     exfalso
     have hx' : jx < n := by have := (Kw.1 a4).1; omega
     have hy' : jy < n := by have := (Kw.1 b4).1; omega
     exact hG.dis jx jy (gOf jx) hx' hy' hne ((c2 _).2 rfl) ((d2 _).2 e)
   clear hT hEL hmm hE
   revert hnd hinj
   generalize (cZ 0 (l.take n) infs).map (·.2) = m
   intro hnd hinj
   induction m with
   | nil => simp
   | cons x m ih =>
    simp only [KD, ML] at hnd ⊢
    refine ⟨fun hm => ?_, ih hnd.2 fun p hp q hq => hinj p (by simp [hp]) q (by simp [hq])⟩
    obtain ⟨y, hy, e⟩ := KI.1 hm
    have := hinj x (by simp) y (by simp [hy]) e.symm
    subst this
    exact hnd.1 hy
  ·
   obtain ⟨e0, he0, rfl⟩ := KI.1 he
   obtain ⟨j, o', h1, h2, h3, h4⟩ := bV _ _ _ _ he0
   rw [KJ] at h1
   have hjn : j < n := by
    have := (Kw.1 h4).1
    omega
   obtain ⟨cs, g1, g2, g3, g4⟩ := hfr j _ _ h4
   rw [(aQ _ _ _ _).1] at ho
   dsimp only
   rw [h1]
   intro e
   have := (Obj.bn (ha.mem.at_ o ho) e).2
   have := (hG.lo j hjn _ ((g2 _).2 rfl)).1
   omega
  ·
   refine ⟨?_, hG.lt hb⟩
   rcases hb with hb | ⟨i, k1, _, k3⟩
   · exact hb.1
   · exact .inr (.inr (La hsz (hG.lo i k1 b k3).1))
end
end E
end Go.Proofs.YtaoicebcdmpemaaGreat
namespace Go.Proofs.YtaoicebcdmpemaaGreat
set_option linter.unusedVariables false
namespace Rlp
def zero32 : List UInt8 := List.replicate 32 0
end Rlp
end Go.Proofs.YtaoicebcdmpemaaGreat
namespace Go.Proofs.YtaoicebcdmpemaaGreat
set_option linter.unusedVariables false
open Go.RowKit Mono Rlp
namespace E
def assoc {α : Type} : List (Nat × α) → Nat → Option α
 | [], _ => none
 | (k, x) :: l, n => if k = n then some x else assoc l n
theorem dJ {α : Type} : ∀ (l : List (Nat × α)) (n : Nat) (x : α), assoc l n = some x → (n, x) ∈ l
 | [], n, x, h => by simp [assoc] at h
 | (k, y) :: l, n, x, h => by
  rw [assoc] at h
  split at h
  ·
   rename_i e
   cases h
   subst e
   simp
  · exact KC _ (dJ l n x h)
def slB (P : Program) (T : Nat) : Option (Nat × Nat × Nat × Nat) :=
 match P.underlying T with
 | some (.slice e) => match P.info? e with
  | some i => match i.zero with
   | some z => some (e, i.size, i.bytes, z.cells.size)
   | none => none
  | none => none
 | _ => none
def arB (P : Program) (T : Nat) : Option (Nat × Nat × Nat) :=
 match P.underlying T with
 | some (.array n e) => match P.info? e with
  | some i => some (n, e, i.size)
  | none => none
 | _ => none
def stB (P : Program) (T : Nat) : Option (List (Nat × Nat × Bool)) :=
 match P.underlying T with
 | some (.struct fs) => fs.toList.mapM fun f => match P.info? f.type, P.underlying f.type with
  | some i, some d => some (f.offset, i.size, d.isRow)
  | _, _ => none
 | _ => none
theorem I8 {T e z y y' : Nat} (h : slB Tryz.prog T = some (e, z, y, y')) : Dj T e z := by
 unfold slB at h
 split at h
 ·
  rename_i e' hu
  split at h
  ·
   rename_i i hi
   split at h
   ·
    cases h
    exact ⟨hu, by rw [hi]; rfl⟩
   · cases h
  · cases h
 · cases h
theorem Gw {T e z y : Nat} (h : slB Tryz.prog T = some (e, z, y, z)) (h0 : 0 < z) : SlT Tryz.prog T e z y := by
 unfold slB at h
 split at h
 ·
  rename_i e' hu
  split at h
  ·
   rename_i i hi
   split at h
   ·
    rename_i zv hz
    simp only [MB, Prod.mk.injEq] at h
    obtain ⟨h1, h2, h3, h4⟩ := h
    subst h1
    exact ⟨hu, ⟨i, zv, hi, hz, h2, h3, h4⟩, h0⟩
   · cases h
  · cases h
 · cases h
theorem JC {T n e z : Nat} (h : arB Tryz.prog T = some (n, e, z)) : IU T n e z := by
 unfold arB at h
 split at h
 ·
  rename_i n' e' hu
  split at h
  ·
   rename_i i hi
   cases h
   exact ⟨hu, by rw [hi]; rfl⟩
  · cases h
 · cases h
theorem uw {α β : Type} {f : α → Option β} : ∀ (l : List α) (r : List β) (k : Nat) (y : β), l.mapM f = some r → r[k]? = some y → ∃ x, l[k]? = some x ∧ f x = some y
 | [], r, k, y, h, hk => by
  simp at h
  subst h
  simp at hk
 | a :: l, r, k, y, h, hk => by
  rw [List.mapM_cons] at h
  cases ha : f a with
  | none => rw [ha] at h; cases h
  | some b =>
   rw [ha] at h
   cases hl : l.mapM f with
   | none => rw [hl] at h; cases h
   | some bs =>
    rw [hl] at h
    cases h
    cases k with
    | zero => cases hk; exact ⟨a, rfl, ha⟩
    | succ k => exact uw l bs k y hl (by simpa using hk)
theorem mapM_map {α β γ : Type} {f : α → Option β} {g : α → Option γ} {p : β → γ} (hfg : ∀ a b, f a = some b → g a = some (p b)) : ∀ (l : List α) (r : List β), l.mapM f = some r → l.mapM g = some (r.map p)
 | [], r, h => by
  simp at h
  subst h
  simp
 | a :: l, r, h => by
  rw [List.mapM_cons] at h ⊢
  cases ha : f a with
  | none => rw [ha] at h; cases h
  | some b =>
   rw [ha] at h
   cases hl : l.mapM f with
   | none => rw [hl] at h; cases h
   | some bs =>
    rw [hl] at h
    cases h
    rw [hfg a b ha, mapM_map hfg l bs hl]
    rfl
theorem Gv {T k off sz : Nat} {ag : Bool} {l : List (Nat × Nat × Bool)} (h : stB Tryz.prog T = some l) (hk : l[k]? = some (off, sz, ag)) (h0 : 0 < sz) : Fld Tryz.prog T k off sz ag := by
 unfold stB at h
 split at h
 ·
  rename_i fs hu
  obtain ⟨f, h1, h2⟩ := uw _ _ _ _ h hk
  split at h2
  ·
   rename_i i d hi hd
   cases h2
   exact ⟨⟨fs, f, d, hu, by simpa using h1, rfl, by rw [hi]; rfl, hd, rfl⟩, h0⟩
  · cases h2
 · cases h
theorem I7 {T : Nat} {l : List (Nat × Nat × Bool)} (h : stB Tryz.prog T = some l) : Fp T (l.map fun x => (x.1, x.2.1)) := by
 unfold stB at h
 split at h
 ·
  rename_i fs hu
  refine ⟨fs, hu, mapM_map (fun f b hb => ?_) _ _ h⟩
  split at hb
  ·
   rename_i i d hi hd
   cases hb
   rw [hi]
   rfl
  · cases hb
 · cases h
mutual
def cellsD : D → List Value
 | .v x => [x]
 | .arr _ l => bvs l
 | .tup ds => sH ds
 | _ => []
def sH : List D → List Value
 | [] => []
 | d :: ds => cellsD d ++ sH ds
end
mutual
def kV : D → Bool
 | .v x => x.oneCell'
 | .arr n l => l.length == n
 | .tup ds => kU ds
 | _ => false
def kU : List D → Bool
 | [] => true
 | d :: ds => kV d && kU ds
end
mutual
theorem iG {ok : Nat → Prop} {w : World} : ∀ d : D, kV d = true → Reads ok w d (cellsD d)
 | .v x, h => by rw [Reads]; exact ⟨h, rfl⟩
 | .arr n l, h => by rw [Reads]; exact ⟨by simpa [kV] using h, rfl⟩
 | .tup ds, h => by rw [Reads]; exact jO ds h
 | .bs l, h => by cases h
 | .sl z ds, h => by cases h
 | .pd d, h => by cases h
 | .ifc t d, h => by cases h
theorem jO {ok : Nat → Prop} {w : World} : ∀ ds : List D, kU ds = true → aK ok w ds (sH ds)
 | [], h => by rw [aK]; rfl
 | d :: ds, h => by
  simp only [kU, LM] at h
  rw [aK]
  exact ⟨_, _, rfl, iG d h.1, jO ds h.2⟩
end
theorem DV {T : Nat} {d : D} (h : ((Tryz.prog.info? T).bind (·.zero)).map (·.cells.toList) = some (cellsD d)) (hc : kV d = true) : Zero T d := by
 cases hz : (Tryz.prog.info? T).bind (·.zero) with
 | none => rw [hz] at h; cases h
 | some z =>
  rw [hz] at h
  have h1 : z.cells.toList = cellsD d := by simpa using h
  exact ⟨z, hz, fun ok w => by rw [h1]; exact iG d hc⟩
def Aj : List (Nat × D) → Prop
 | [] => True
 | (T, d) :: l => Zero T d ∧ Aj l
theorem Aj.get : ∀ (l : List (Nat × D)) (T : Nat) (d : D), Aj l → assoc l T = some d → Zero T d
 | [], T, d, _, h => by simp [assoc] at h
 | (k, e) :: l, T, d, h, hk => by
  rw [assoc] at hk
  split at hk
  ·
   rename_i e
   cases hk
   subst e
   exact h.1
  · exact Aj.get l T d h.2 hk
def cnB (P : Program) (T : Nat) : Bool :=
 match P.underlying T with
 | some (.interface _) => false
 | some _ => true
 | none => false
def Jc (P : Program) (T : Nat) : Bool :=
 match P.underlying T with
 | some (.pointer _) => true
 | _ => false
def G5 (P : Program) (T : Nat) : Option (Nat × Nat × Nat) :=
 match P.underlying T with
 | some (.map k e) => match P.underlying k with
  | some (.array n b) => match P.underlying b, P.info? b with
   | some (.int .u8), some i => if i.size = 1 then some (k, n, e) else none
   | _, _ => none
  | _ => none
 | _ => none
structure sS (K n : Nat) : Prop where
 get : ∃ e, Tryz.prog.underlying K = some (.array n e) ∧ Tryz.prog.underlying e = some (.int .u8) ∧ ∀ w, (sizeOf e).run Tryz.prog w = .ok 1 w
structure vK (T : Nat) (d : D) : Prop where
 get : ∃ z, (∀ w, (zeroValue T).run Tryz.prog w = .ok z w) ∧ ∀ ok w, aP ok w d z
theorem IV {T : Nat} {d : D} (h : (Tryz.prog.info? T).bind (·.zero) = some (form d (cellsD d))) (hc : kV d = true) : vK T d := by
 refine ⟨form d (cellsD d), fun w => ?_, fun ok w => ⟨_, iG d hc, rfl⟩⟩
 cases hi : Tryz.prog.info? T with
 | none => rw [hi] at h; cases h
 | some i =>
  rw [hi] at h
  have hz : i.zero = some (form d (cellsD d)) := by simpa using h
  simp [zeroValue, typeInfo, hi, hz]
def qX : List (Nat × D) → Prop
 | [] => True
 | (T, d) :: l => vK T d ∧ qX l
theorem qX.get : ∀ (l : List (Nat × D)) (T : Nat) (d : D), qX l → assoc l T = some d → vK T d
 | [], T, d, _, h => by simp [assoc] at h
 | (k, e) :: l, T, d, h, hk => by
  rw [assoc] at hk
  split at hk
  ·
   rename_i e
   cases hk
   subst e
   exact h.1
  · exact qX.get l T d h.2 hk
theorem GZ {T K n e : Nat} (h : G5 Tryz.prog T = some (K, n, e)) : Tryz.prog.underlying T = some (.map K e) ∧ sS K n := by
 unfold G5 at h
 split at h
 ·
  rename_i k e' hu
  split at h
  ·
   rename_i n' b hk
   split at h
   ·
    rename_i i hb hi
    split at h
    ·
     rename_i hs
     cases h
     exact ⟨hu, b, hk, hb, fun w => by simp [sizeOf, typeInfo, hi, hs]⟩
    · cases h
   · cases h
  · cases h
 · cases h
def tyL : List (Nat × Nat × Bool) := [(2, 1, false), (3, 1, false), (4, 1, false), (5, 1, false), (7, 4, true), (9, 1, false), (12, 1, false), (13, 2, true), (15, 1, false), (16, 1, false), (17, 1, false), (18, 1, true), (21, 1, false), (22, 1, false), (24, 1, false), (26, 1, false), (27, 1, false), (28, 1, false), (29, 2, true), (30, 2, true), (31, 1, false), (32, 1, true), (33, 1, true), (34, 1, false), (35, 32, true), (36, 32, true), (37, 35, true), (38, 35, true), (41, 1, false), (42, 33, true), (43, 33, true), (49, 1, false), (51, 1, false), (52, 1, false), (61, 1, false), (63, 2, true), (64, 2, true), (69, 1, false), (70, 1, false), (71, 1, true), (72, 1, true), (88, 1, false), (89, 1, false), (90, 2, true), (91, 2, true), (93, 1, false), (95, 2, true), (96, 2, true), (97, 1, false), (98, 3, true), (99, 3, true), (102, 1, false), (103, 3, true), (104, 3, true), (113, 33, true), (114, 33, true), (115, 1, true), (116, 1, true), (117, 1, false), (119, 3, true), (120, 3, true), (121, 32, true), (134, 1, false), (136, 1, false), (139, 1, false), (150, 1, false), (161, 1, true), (162, 1, true), (165, 1, false), (166, 2, true), (167, 2, true), (168, 1, false), (170, 2, true), (171, 2, true), (173, 1, false), (174, 16, true), (175, 17, true), (176, 17, true), (180, 1, false), (181, 25, true), (183, 1, false), (184, 1, false), (186, 1, false), (204, 97, true), (205, 97, true), (214, 1, false), (215, 25, true), (218, 5, true), (238, 1, false), (239, 25, true), (241, 24, true), (244, 1, false), (255, 1, false), (262, 1, false), (270, 1, false), (274, 1, false), (278, 1, false), (282, 4, true), (284, 0, true), (285, 0, true), (293, 11, true), (297, 1, false), (298, 20, true), (299, 20, true), (300, 1, false), (301, 55, true), (302, 55, true), (303, 64, true), (304, 64, true), (20, 1, false), (118, 1, false), (246, 1, false)]
theorem Gu : (tyL.all fun x => tyB Tryz.prog x.1 == some x.2) = true := by kernel_rfl
def slL : List (Nat × Nat × Nat × Nat) := [(22, 38, 35, 88), (27, 43, 33, 56), (28, 114, 33, 40), (34, 64, 2, 48), (41, 5, 1, 1), (61, 34, 1, 24), (69, 36, 32, 32), (93, 96, 2, 48), (102, 104, 3, 56), (186, 118, 1, 16), (214, 41, 1, 24), (297, 302, 55, 112), (300, 304, 64, 64)]
theorem AA : (slL.all fun x => slB Tryz.prog x.1 == some (x.2.1, x.2.2.1, x.2.2.2, x.2.2.1)) = true := by kernel_rfl
def arL : List (Nat × Nat × Nat × Nat) := [(35, 32, 5, 1), (36, 32, 5, 1), (121, 32, 5, 1), (174, 16, 118, 1), (181, 25, 180, 1), (215, 25, 180, 1), (218, 5, 180, 1), (239, 25, 3, 1), (241, 24, 180, 1), (284, 0, 16, 1), (298, 20, 5, 1), (299, 20, 5, 1)]
theorem Ir : (arL.all fun x => arB Tryz.prog x.1 == some x.2) = true := by kernel_rfl
def stL : List (Nat × List (Nat × Nat × Bool)) := [(7, [(0, 1, false), (1, 1, false), (2, 1, false), (3, 1, false)]), (13, [(0, 1, false), (1, 1, false)]), (18, [(0, 1, false)]), (29, [(0, 1, false), (1, 1, false)]), (30, [(0, 1, false), (1, 1, false)]), (32, [(0, 1, false)]), (33, [(0, 1, false)]), (37, [(0, 1, false), (1, 1, false), (2, 1, false), (3, 32, true)]), (38, [(0, 1, false), (1, 1, false), (2, 1, false), (3, 32, true)]), (42, [(0, 32, true), (32, 1, false)]), (43, [(0, 32, true), (32, 1, false)]), (63, [(0, 1, false), (1, 1, false)]), (64, [(0, 1, false), (1, 1, false)]), (71, [(0, 1, false)]), (72, [(0, 1, false)]), (90, [(0, 1, false), (1, 1, false)]), (91, [(0, 1, false), (1, 1, false)]), (95, [(0, 1, false), (1, 1, false)]), (96, [(0, 1, false), (1, 1, false)]), (98, [(0, 1, false), (1, 1, false), (2, 1, false)]), (99, [(0, 1, false), (1, 1, false), (2, 1, false)]), (103, [(0, 1, false), (1, 1, false), (2, 1, false)]), (104, [(0, 1, false), (1, 1, false), (2, 1, false)]), (113, [(0, 32, true), (32, 1, false)]), (114, [(0, 32, true), (32, 1, false)]), (115, [(0, 1, false)]), (116, [(0, 1, false)]), (119, [(0, 1, false), (1, 1, false), (2, 1, false)]), (120, [(0, 1, false), (1, 1, false), (2, 1, false)]), (161, [(0, 1, false)]), (162, [(0, 1, false)]), (166, [(0, 1, false), (1, 1, false)]), (167, [(0, 1, false), (1, 1, false)]), (170, [(0, 1, false), (1, 1, false)]), (171, [(0, 1, false), (1, 1, false)]), (175, [(0, 16, true), (16, 1, false)]), (176, [(0, 16, true), (16, 1, false)]), (204, [(0, 1, false), (1, 32, true), (33, 32, true), (65, 32, true)]), (205, [(0, 1, false), (1, 32, true), (33, 32, true), (65, 32, true)]), (282, [(0, 1, false), (1, 1, false), (2, 1, false), (3, 1, false)]), (285, [(0, 0, true)]), (293, [(0, 1, false), (1, 1, false), (2, 1, false), (3, 1, false), (4, 1, false), (5, 1, false), (6, 1, false), (7, 1, false), (8, 1, false), (9, 1, false), (10, 1, false)]), (301, [(0, 20, true), (20, 1, false), (21, 32, true), (53, 1, false), (54, 1, false)]), (302, [(0, 20, true), (20, 1, false), (21, 32, true), (53, 1, false), (54, 1, false)]), (303, [(0, 32, true), (32, 32, true)]), (304, [(0, 32, true), (32, 32, true)])]
theorem Az : (stL.all fun x => stB Tryz.prog x.1 == some x.2) = true := by kernel_rfl
def bY : List (Nat × D) := [(2, .v (.int .i64 0)), (3, .v (.int .i64 0)), (4, .v (.bool false)), (5, .v (.int .u8 0)), (7, .tup [.v (.int .i64 0), .v (.int .i64 0), .v (.bool false), .v (.int .u8 0)]), (12, .v (.int .u64 0)), (15, .v (.pointer none)), (16, .v (.pointer none)), (17, .v (.pointer none)), (18, .tup [.v (.pointer none)]), (20, .v .nilIface), (21, .v (.int .i32 0)), (22, .v (.slice none 0 0)), (24, .v (.pointer none)), (26, .v (.pointer none)), (27, .v (.slice none 0 0)), (28, .v (.slice none 0 0)), (29, .tup [.v (.slice none 0 0), .v (.slice none 0 0)]), (30, .tup [.v (.slice none 0 0), .v (.slice none 0 0)]), (31, .v (.pointer none)), (32, .tup [.v (.slice none 0 0)]), (33, .tup [.v (.slice none 0 0)]), (34, .v (.slice none 0 0)), (35, .arr 32 zero32), (36, .arr 32 zero32), (37, .tup [.v (.int .i64 0), .v (.slice none 0 0), .v (.slice none 0 0), .arr 32 zero32]), (38, .tup [.v (.int .i64 0), .v (.slice none 0 0), .v (.slice none 0 0), .arr 32 zero32]), (41, .v (.slice none 0 0)), (42, .tup [.arr 32 zero32, .v (.slice none 0 0)]), (43, .tup [.arr 32 zero32, .v (.slice none 0 0)]), (49, .v (.pointer none)), (51, .v (.pointer none)), (52, .v (.int .i64 0)), (61, .v (.slice none 0 0)), (63, .tup [.v (.slice none 0 0), .v (.slice none 0 0)]), (64, .tup [.v (.slice none 0 0), .v (.slice none 0 0)]), (69, .v (.slice none 0 0)), (70, .v (.pointer none)), (71, .tup [.v (.slice none 0 0)]), (72, .tup [.v (.slice none 0 0)]), (88, .v (.map none)), (89, .v (.map none)), (90, .tup [.v (.map none), .v (.map none)]), (91, .tup [.v (.map none), .v (.map none)]), (93, .v (.slice none 0 0)), (95, .tup [.v (.slice none 0 0), .v (.slice none 0 0)]), (96, .tup [.v (.slice none 0 0), .v (.slice none 0 0)]), (97, .v (.pointer none)), (98, .tup [.v (.slice none 0 0), .v (.pointer none), .v (.bool false)]), (99, .tup [.v (.slice none 0 0), .v (.pointer none), .v (.bool false)]), (102, .v (.slice none 0 0)), (103, .tup [.v (.bool false), .v (.slice none 0 0), .v (.slice none 0 0)]), (104, .tup [.v (.bool false), .v (.slice none 0 0), .v (.slice none 0 0)]), (113, .tup [.arr 32 zero32, .v (.int .i64 0)]), (114, .tup [.arr 32 zero32, .v (.int .i64 0)]), (115, .tup [.v (.map none)]), (116, .tup [.v (.map none)]), (117, .v (.map none)), (118, .v .nilIface), (119, .tup [.v (.pointer none), .v .nilIface, .v (.map none)]), (120, .tup [.v (.pointer none), .v .nilIface, .v (.map none)]), (121, .arr 32 zero32), (134, .v (.pointer none)), (136, .v (.map none)), (139, .v (.int .u64 0)), (161, .tup [.v (.int .i64 0)]), (162, .tup [.v (.int .i64 0)]), (165, .v (.pointer none)), (166, .tup [.v (.slice none 0 0), .v (.slice none 0 0)]), (167, .tup [.v (.slice none 0 0), .v (.slice none 0 0)]), (168, .v (.pointer none)), (170, .tup [.v (.slice none 0 0), .v .nilIface]), (171, .tup [.v (.slice none 0 0), .v .nilIface]), (173, .v (.pointer none)), (174, .tup [.v .nilIface, .v .nilIface, .v .nilIface, .v .nilIface, .v .nilIface, .v .nilIface, .v .nilIface, .v .nilIface, .v .nilIface, .v .nilIface, .v .nilIface, .v .nilIface, .v .nilIface, .v .nilIface, .v .nilIface, .v .nilIface]), (175, .tup [.tup [.v .nilIface, .v .nilIface, .v .nilIface, .v .nilIface, .v .nilIface, .v .nilIface, .v .nilIface, .v .nilIface, .v .nilIface, .v .nilIface, .v .nilIface, .v .nilIface, .v .nilIface, .v .nilIface, .v .nilIface, .v .nilIface], .v (.slice none 0 0)]), (176, .tup [.tup [.v .nilIface, .v .nilIface, .v .nilIface, .v .nilIface, .v .nilIface, .v .nilIface, .v .nilIface, .v .nilIface, .v .nilIface, .v .nilIface, .v .nilIface, .v .nilIface, .v .nilIface, .v .nilIface, .v .nilIface, .v .nilIface], .v (.slice none 0 0)]), (180, .v (.int .u64 0)), (181, .tup [.v (.int .u64 0), .v (.int .u64 0), .v (.int .u64 0), .v (.int .u64 0), .v (.int .u64 0), .v (.int .u64 0), .v (.int .u64 0), .v (.int .u64 0), .v (.int .u64 0), .v (.int .u64 0), .v (.int .u64 0), .v (.int .u64 0), .v (.int .u64 0), .v (.int .u64 0), .v (.int .u64 0), .v (.int .u64 0), .v (.int .u64 0), .v (.int .u64 0), .v (.int .u64 0), .v (.int .u64 0), .v (.int .u64 0), .v (.int .u64 0), .v (.int .u64 0), .v (.int .u64 0), .v (.int .u64 0)]), (183, .v (.pointer none)), (184, .v (.pointer none)), (186, .v (.slice none 0 0)), (204, .tup [.v (.int .i64 0), .arr 32 zero32, .arr 32 zero32, .arr 32 zero32]), (205, .tup [.v (.int .i64 0), .arr 32 zero32, .arr 32 zero32, .arr 32 zero32]), (214, .v (.slice none 0 0)), (215, .tup [.v (.int .u64 0), .v (.int .u64 0), .v (.int .u64 0), .v (.int .u64 0), .v (.int .u64 0), .v (.int .u64 0), .v (.int .u64 0), .v (.int .u64 0), .v (.int .u64 0), .v (.int .u64 0), .v (.int .u64 0), .v (.int .u64 0), .v (.int .u64 0), .v (.int .u64 0), .v (.int .u64 0), .v (.int .u64 0), .v (.int .u64 0), .v (.int .u64 0), .v (.int .u64 0), .v (.int .u64 0), .v (.int .u64 0), .v (.int .u64 0), .v (.int .u64 0), .v (.int .u64 0), .v (.int .u64 0)]), (218, .tup [.v (.int .u64 0), .v (.int .u64 0), .v (.int .u64 0), .v (.int .u64 0), .v (.int .u64 0)]), (238, .v (.pointer none)), (239, .tup [.v (.int .i64 0), .v (.int .i64 0), .v (.int .i64 0), .v (.int .i64 0), .v (.int .i64 0), .v (.int .i64 0), .v (.int .i64 0), .v (.int .i64 0), .v (.int .i64 0), .v (.int .i64 0), .v (.int .i64 0), .v (.int .i64 0), .v (.int .i64 0), .v (.int .i64 0), .v (.int .i64 0), .v (.int .i64 0), .v (.int .i64 0), .v (.int .i64 0), .v (.int .i64 0), .v (.int .i64 0), .v (.int .i64 0), .v (.int .i64 0), .v (.int .i64 0), .v (.int .i64 0), .v (.int .i64 0)]), (241, .tup [.v (.int .u64 0), .v (.int .u64 0), .v (.int .u64 0), .v (.int .u64 0), .v (.int .u64 0), .v (.int .u64 0), .v (.int .u64 0), .v (.int .u64 0), .v (.int .u64 0), .v (.int .u64 0), .v (.int .u64 0), .v (.int .u64 0), .v (.int .u64 0), .v (.int .u64 0), .v (.int .u64 0), .v (.int .u64 0), .v (.int .u64 0), .v (.int .u64 0), .v (.int .u64 0), .v (.int .u64 0), .v (.int .u64 0), .v (.int .u64 0), .v (.int .u64 0), .v (.int .u64 0)]), (244, .v (.pointer none)), (246, .v .nilIface), (255, .v (.int .i64 0)), (262, .v (.int .u32 0)), (270, .v (.int .u64 0)), (274, .v (.pointer none)), (278, .v (.pointer none)), (284, .tup []), (285, .tup [.tup []]), (297, .v (.slice none 0 0)), (298, .arr 20 (List.replicate 20 0)), (299, .arr 20 (List.replicate 20 0)), (300, .v (.slice none 0 0)), (301, .tup [.arr 20 (List.replicate 20 0), .v (.int .i64 0), .arr 32 zero32, .v (.slice none 0 0), .v (.slice none 0 0)]), (302, .tup [.arr 20 (List.replicate 20 0), .v (.int .i64 0), .arr 32 zero32, .v (.slice none 0 0), .v (.slice none 0 0)]), (303, .tup [.arr 32 zero32, .arr 32 zero32]), (304, .tup [.arr 32 zero32, .arr 32 zero32])]
theorem Ak : Aj bY := by
 repeat first | exact trivial | refine ⟨DV (by kernel_rfl) rfl, ?_⟩
def cnL : List Nat := [2, 3, 4, 5, 7, 9, 12, 13, 15, 16, 17, 18, 21, 22, 24, 26, 27, 28, 29, 30, 31, 32, 33, 34, 35, 36, 37, 38, 41, 42, 43, 49, 51, 52, 61, 63, 64, 69, 70, 71, 72, 88, 89, 90, 91, 93, 95, 96, 97, 98, 99, 102, 103, 104, 113, 114, 115, 116, 117, 119, 120, 121, 134, 136, 139, 150, 161, 162, 165, 166, 167, 168, 170, 171, 173, 174, 175, 176, 180, 181, 183, 184, 186, 204, 205, 214, 215, 218, 238, 239, 241, 244, 255, 262, 270, 274, 278, 282, 284, 285, 293, 297, 298, 299, 300, 301, 302, 303, 304]
theorem Ih : (cnL.all fun x => cnB Tryz.prog x) = true := by kernel_rfl
def jT : List (Nat × Nat × Nat × Nat) := [(88, 36, 32, 41), (89, 36, 32, 3), (136, 36, 32, 4)]
theorem Ef : (jT.all fun x => G5 Tryz.prog x.1 == some x.2) = true := by kernel_rfl
def GK : List Nat := [15, 16, 17, 24, 26, 31, 49, 51, 70, 97, 134, 165, 168, 173, 183, 184, 238, 244, 274, 278]
theorem D7 : (GK.all fun x => Jc Tryz.prog x) = true := by kernel_rfl
theorem Gq : qX bY := by
 repeat first | exact trivial | refine ⟨IV (by kernel_rfl) rfl, ?_⟩
end E
end Go.Proofs.YtaoicebcdmpemaaGreat
