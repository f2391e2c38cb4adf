/-
 Merged: lemmas of this claim.
 Conditions: none.
-/
import Derived.Test.YtkhjanjlcdhdcaaGreatZQ4
import Derived.Test.YtkhjanjlcdhdcaaGreatZQ2
import Derived.Test.YtkhjanjlcdhdcaaGreatZQ0
namespace Go.Proofs.YtkhjanjlcdhdcaaGreat
set_option linter.unusedVariables false
set_option maxHeartbeats 1000000
open Go.RowKit Mono Rlp
namespace E
inductive Inf where
 | still (r : R)
 | grow (r : R)
 | skip
 | new (T : TypeId) (d : D)
 | put (p q : Obj)
def Inf.wV : Inf → Bool
 | .put _ _ => false
 | _ => true
def Inf.reg : Inf → R
 | .still r => r
 | .grow r => r
 | .skip => .tpl []
 | _ => .any
def vO (ops : Array Oper) (S : St) (o : Oper) (T : TypeId) (d : D) : Prop :=
 ∀ base ok a w, Kn base ok (fun t => t ∈ o.looksAt ops) S a w → ∃ cs : List Value, (execOp a.eval o).run Tryz.prog w = .ok (.value (.pointer (some ⟨w.heap.size, 0, none⟩))) (w.alloc (.cells cs.toArray T)) ∧ Reads ok w d cs
abbrev Fr := Tmp × TypeId × D
def Puts (ops : Array Oper) (S : St) (o : Oper) (p q : Obj) : Prop :=
 q.blk = p.blk ∧ ∀ base ok a w, Kn base ok (fun t => t ∈ o.looksAt ops) S a w → (∀ g, p.blk = some g → ¬ ok g) → p.At base ok w → ∃ w' g, (execOp a.eval o).run Tryz.prog w = .ok .skip w' ∧ p.blk = some g ∧ w.grownBy w' (some g) ∧ q.At base ok w'
def OkI (N : Nat) (ops : Array Oper) (S : St) (o : Oper) : Inf → Prop
 | .still r => guardOf ops S o = some true ∧ Still ops S o r
 | .grow r => guardOf ops S o = some true ∧ jD ops S o (· = r)
 | .skip => guardOf ops S o = some false
 | .new T d => guardOf ops S o = some true ∧ vO ops S o T d
 | .put p q => guardOf ops S o = some true ∧ o.dst = none ∧ Puts ops S o p q
def bg (N : Nat) (d : Option Tmp) (E : List Fr) : Bool :=
 match d with
 | some t => decide (t < N) && E.all fun x => x.1 != t
 | none => true
def lQ (E : List Fr) (d : Option Tmp) : Inf → List Fr
 | .new T x => match d with
  | some t => E ++ [(t, T, x)]
  | none => E
 | _ => E
def EM (N : Nat) (ops : Array Oper) (T : St → List Fr → Prop) : List Oper → St → List Fr → Prop
 | [], S, E => T S E
 | o :: l, S, E => ∃ inf : Inf, inf.wV = true ∧ bg N o.dst E = true ∧ ((∃ T d, inf = .new T d) → o.dst ≠ none) ∧ OkI N ops S o inf ∧ EM N ops T l (S.put o.dst inf.reg) (lQ E o.dst inf)
section
variable {N : Nat} {X : Cx N} {S S' : St} {a : Act} {w w' : World} {ops : Array Oper} {o : Oper} {Q : Exit → Act → World → Prop} {l : List Oper} {T : St → List Fr → Prop} {E : List Fr}
theorem EM.nil (h : T S E) : EM N ops T [] S E := h
theorem EM.still {r : R} (hg : guardOf ops S o = some true) (hd : bg N o.dst E = true) (hO : Still ops S o r) (k : EM N ops T l (S.put o.dst r) E) : EM N ops T (o :: l) S E := ⟨.still r, rfl, hd, (fun ⟨_, _, e⟩ => by cases e), ⟨hg, hO⟩, k⟩
theorem EM.grow {r : R} (hg : guardOf ops S o = some true) (hd : bg N o.dst E = true) (hO : jD ops S o (· = r)) (k : EM N ops T l (S.put o.dst r) E) : EM N ops T (o :: l) S E := ⟨.grow r, rfl, hd, (fun ⟨_, _, e⟩ => by cases e), ⟨hg, hO⟩, k⟩
theorem EM.skip (hg : guardOf ops S o = some false) (hd : bg N o.dst E = true) (k : EM N ops T l (S.put o.dst (.tpl [])) E) : EM N ops T (o :: l) S E := ⟨.skip, rfl, hd, (fun ⟨_, _, e⟩ => by cases e), hg, k⟩
theorem EM.new {t : Tmp} {Ty : TypeId} {d : D} (hg : guardOf ops S o = some true) (ht : o.dst = some t) (hd : bg N (some t) E = true) (hO : vO ops S o Ty d) (k : EM N ops T l (S.put (some t) .any) (E ++ [(t, Ty, d)])) : EM N ops T (o :: l) S E :=
 ⟨.new Ty d, rfl, by rw [ht]; exact hd, fun _ => (by rw [ht]; exact fun e => by cases e), ⟨hg, hO⟩, by rw [ht]; exact k⟩
theorem pI {Ty : TypeId} {d : D} (ho : o.op = .alloc Ty) (hz : Zero Ty d) : vO ops S o Ty d := fun base ok a w ha => by
 obtain ⟨z, hz, hr⟩ := hz
 refine ⟨z.cells.toList, ?_, hr ok w⟩
 unfold execOp
 simp only [ho, KW, su hz, KL, KX]
theorem zY {Ty : TypeId} {x : Operand} {d : D} (ho : o.op = .box Ty x) (hx : ev S x = some (.val d)) : vO ops S o Ty d := fun base ok a w ha => by
 obtain ⟨cs, h1, h2⟩ := ha.ev hx fun t e => au e (by rw [ho]; simp [Op.operands])
 refine ⟨cs, ?_, h1⟩
 have := gY h1
 unfold execOp
 simp [ho, Instr.box, newVar, newRow, h2, this]
def bV (S : St) : List Oper → List Inf → Nat → St
 | _, _, 0 => S
 | o :: l, i :: infs, k + 1 => bV (S.put o.dst i.reg) l infs k
 | _, _, _ => S
def zo (E : List Fr) : List Oper → List Inf → List Fr
 | o :: l, i :: infs => zo (lQ E o.dst i) l infs
 | _, _ => E
theorem jq : ∀ (l : List Oper) (S : St) (E : List Fr), EM N ops T l S E → ∃ infs : List Inf, infs.length = l.length ∧
  (∀ k o i, l[k]? = some o → infs[k]? = some i → OkI N ops (bV S l infs k) o i ∧ (∀ t, o.dst = some t → t < N ∧ (∀ x ∈ E, x.1 ≠ t) ∧ ∀ j oj T d, j < k → l[j]? = some oj → infs[j]? = some (.new T d) → oj.dst ≠ some t) ∧ ((∃ T d, i = .new T d) → o.dst ≠ none)) ∧
  T (bV S l infs l.length) (zo E l infs) ∧ ∀ (k : Nat) (i : Inf), infs[k]? = some i → i.wV = true
 | [], S, E, h => ⟨[], rfl, (fun k o i h => by simp at h), h, fun k i h => by simp at h⟩
 | o :: l, S, E, h => by
  obtain ⟨inf, h0, h1, h1', h2, h3⟩ := h
  obtain ⟨infs, h4, h5, h6, h7⟩ := jq l _ _ h3
  have hoff : ∀ t, o.dst = some t → t < N ∧ ∀ x ∈ E, x.1 ≠ t := fun t ht => by
   rw [ht] at h1
   simp only [bg, MB, decide_eq_true_eq] at h1
   exact ⟨h1.1, fun x hx => by simpa using LZ.1 h1.2 x hx⟩
  refine ⟨inf :: infs, by simp [h4], fun k o' i hk hi => ?_, h6, fun k i hi => by
   cases k with
   | zero =>
    cases hi
    exact h0
   | succ k => exact h7 k i (by simpa using hi)⟩
  cases k with
  | zero =>
   cases hk
   cases hi
   exact ⟨h2, fun t ht => ⟨(hoff t ht).1, (hoff t ht).2, fun j _ _ _ hj => by omega⟩, h1'⟩
  | succ k =>
   obtain ⟨g1, g2, g3⟩ := h5 k o' i (by simpa using hk) (by simpa using hi)
   refine ⟨g1, fun t ht => ⟨(g2 t ht).1, fun x hx => (g2 t ht).2.1 x ?_, fun j oj T d hj hoj hij => ?_⟩, g3⟩
   ·
    unfold lQ
    split
    ·
     split
     · exact Ll _ hx
     · exact hx
    · exact hx
   ·
    cases j with
    | zero =>
     cases hoj
     cases hij
     intro e
     exact (g2 t ht).2.1 (t, T, d) (by unfold lQ; rw [e]; simp) rfl
    | succ j => exact (g2 t ht).2.2 j oj T d (by omega) (by simpa using hoj) (by simpa using hij)
theorem aF : ∀ (l : List Oper) (infs : List Inf) (k : Nat) (S : St), (bV S l infs k).objs = S.objs ∧ (bV S l infs k).facts = S.facts
 | _, _, 0, S => by simp [bV]
 | [], infs, k + 1, S => by simp [bV]
 | o :: l, [], k + 1, S => by simp [bV]
 | o :: l, i :: infs, k + 1, S => by
  rw [bV]
  have := aF l infs k (S.put o.dst i.reg)
  rw [this.1, this.2]
  unfold St.put
  split <;> simp
theorem bU : ∀ (l : List Oper) (infs : List Inf) (k : Nat) (S : St) (t : Tmp), infs.length = l.length → k ≤ l.length →
  (∀ j oj i, j < k → l[j]? = some oj → infs[j]? = some i → oj.dst = some t → (∀ m om, j < m → m < k → l[m]? = some om → om.dst ≠ some t) → look (bV S l infs k).regs t = some i.reg) ∧
  ((∀ j oj, j < k → l[j]? = some oj → oj.dst ≠ some t) → look (bV S l infs k).regs t = look S.regs t)
 | _, _, 0, S, t, _, _ => ⟨(fun j _ _ h => by omega), fun _ => by simp [bV]⟩
 | [], infs, k + 1, S, t, _, h => by simp at h
 | o :: l, [], k + 1, S, t, h, _ => by simp at h
 | o :: l, i :: infs, k + 1, S, t, hl, hk => by
  rw [bV]
  have ih := bU l infs k (S.put o.dst i.reg) t (by simpa using hl) (by simpa using hk)
  refine ⟨fun j oj i' hj hoj hi hd hlast => ?_, fun hno => ?_⟩
  ·
   cases j with
   | zero =>
    cases hoj
    cases hi
    rw [ih.2 fun m om hm hom => hlast (m + 1) om (by omega) (by omega) (by simpa using hom), hd]
    simp [St.put, look]
   | succ j => exact ih.1 j oj i' (by omega) (by simpa using hoj) (by simpa using hi) hd fun m om h1 h2 hom => hlast (m + 1) om (by omega) (by omega) (by simpa using hom)
  ·
   rw [ih.2 fun m om hm hom => hno (m + 1) om (by omega) (by simpa using hom)]
   have := hno 0 o (by omega) rfl
   cases hd : o.dst with
   | none => rfl
   | some d =>
    simp only [St.put, look]
    rw [if_neg (fun e => this (by rw [hd, e]))]
structure GG (X : Cx N) (S : St) (infs : List Inf) (ws : World) (F : Nat → Nat → Prop) (L : Nat → Prop) (vs : Nat → Value) (u : World) : Prop where
 gr : Gr ws u
 lo : ∀ j, L j → ∀ b, F j b → ws.heap.size ≤ b ∧ b < u.heap.size
 dis : ∀ i j b, L i → L j → i ≠ j → F i b → ¬ F j b
 val : ∀ j i, L j → infs[j]? = some i → (match i with
  | .new T d => ∃ g cs, vs j = .pointer (some ⟨g, 0, none⟩) ∧ (∀ b, F j b ↔ b = g) ∧ u.heap[g]? = some (.cells cs.toArray T (0, 0)) ∧ Reads (fun b => X.ok S.objs ws b ∨ ∃ i, L i ∧ (∀ T d, infs[i]? ≠ some (.new T d)) ∧ F i b) u d cs
  | i => aN (fun b => X.ok S.objs ws b ∨ ∃ i, L i ∧ (∀ T d, infs[i]? ≠ some (.new T d)) ∧ F i b) u i.reg (vs j))
abbrev zone (X : Cx N) (S : St) (infs : List Inf) (ws : World) (F : Nat → Nat → Prop) (L : Nat → Prop) (b : Nat) : Prop := X.ok S.objs ws b ∨ ∃ i, L i ∧ (∀ T d, infs[i]? ≠ some (.new T d)) ∧ F i b
theorem GG.lt {infs : List Inf} {ws : World} {F : Nat → Nat → Prop} {L : Nat → Prop} {vs : Nat → Value} {u : World} (h : GG X S infs ws F L vs u) {b : Nat} (hb : zone X S infs ws F L b) : b < u.heap.size := by
 rcases hb with hb | ⟨i, h1, _, h2⟩
 · exact LC hb.2.1 h.gr.size
 · exact (h.lo i h1 b h2).2
theorem GG.step {infs : List Inf} {ws : World} {F : Nat → Nat → Prop} {L : Nat → Prop} {vs : Nat → Value} {u u' : World} (h : GG X S infs ws F L vs u) {k : Nat} (hk : ¬ L k) (hg : Gr u u') (v : Value) (f : Nat → Prop) (hf : ∀ b, f b → u.heap.size ≤ b ∧ b < u'.heap.size)
  (hv : ∀ i, infs[k]? = some i → (∀ b, zone X S infs ws F L b → zone X S infs ws (fun j => if j = k then f else F j) (fun j => j = k ∨ L j) b) → (match i with
   | .new T d => ∃ g cs, v = .pointer (some ⟨g, 0, none⟩) ∧ (∀ b, f b ↔ b = g) ∧ u'.heap[g]? = some (.cells cs.toArray T (0, 0)) ∧ Reads (zone X S infs ws (fun j => if j = k then f else F j) (fun j => j = k ∨ L j)) u' d cs
   | i => aN (zone X S infs ws (fun j => if j = k then f else F j) (fun j => j = k ∨ L j)) u' i.reg v)) :
  GG X S infs ws (fun j => if j = k then f else F j) (fun j => j = k ∨ L j) (fun j => if j = k then v else vs j) u' := by
 have hF : ∀ j, L j → (if j = k then f else F j) = F j := fun j hj => if_neg fun e => hk (by rw [← e]; exact hj)
 have hz : ∀ b, zone X S infs ws F L b → zone X S infs ws (fun j => if j = k then f else F j) (fun j => j = k ∨ L j) b := fun b hb => by
  rcases hb with hb | ⟨i, h1, h2, h3⟩
  · exact .inl hb
  · exact .inr ⟨i, .inr h1, h2, by show (if i = k then f else F i) b; rw [hF i h1]; exact h3⟩
 have hc : ∀ p : Addr, zone X S infs ws F L p.block → u'.cell? p = u.cell? p := fun p hp => hg.cell (h.lt hp)
 refine ⟨h.gr.trans hg, fun j hj b hb => ?_, fun i j b hi hj hij hb => ?_, fun j i hj hi => ?_⟩
 ·
  by_cases e : j = k
  ·
   rw [if_pos e] at hb
   exact ⟨LG h.gr.size (hf b hb).1, (hf b hb).2⟩
  ·
   rw [if_neg e] at hb
   have := h.lo j (hj.resolve_left e) b hb
   exact ⟨this.1, LC this.2 hg.size⟩
 ·
  by_cases e1 : i = k
  ·
   by_cases e2 : j = k
   · exact absurd (e1.trans e2.symm) hij
   ·
    rw [if_pos e1] at hb
    rw [if_neg e2]
    intro hb2
    have := (h.lo j (hj.resolve_left e2) b hb2).2
    have := (hf b hb).1
    omega
  ·
   rw [if_neg e1] at hb
   by_cases e2 : j = k
   ·
    rw [if_pos e2]
    intro hb2
    have := (h.lo i (hi.resolve_left e1) b hb).2
    have := (hf b hb2).1
    omega
   ·
    rw [if_neg e2]
    exact h.dis i j b (hi.resolve_left e1) (hj.resolve_left e2) hij hb
 ·
  by_cases e : j = k
  ·
   subst e
   simp only [if_true]
   exact hv i hi hz
  ·
   have hj' := hj.resolve_left e
   have h0 := h.val j i hj' hi
   simp only [if_neg e]
   cases i with
   | new T d =>
    obtain ⟨g, cs, g1, g2, g3, g4⟩ := h0
    exact ⟨g, cs, g1, g2, (hg.block g (lt_of_some g3)).trans g3, Reads.mono hz hc _ _ g4⟩
   | still r => exact aN.mono hz hc h0
   | grow r => exact aN.mono hz hc h0
   | skip => exact aN.mono hz hc h0
   | put p q => trivial
theorem uU {V V' : VP} (h : ∀ v w', Gr w w' → V v w' → V' v w') {r : Result Next} (hr : eF Tryz.prog V w r) : eF Tryz.prog V' w r := by
 cases r with
 | ok x w' =>
  cases x <;> simp only [eF] at hr ⊢
  case value v => exact ⟨hr.1, h _ _ hr.1 hr.2⟩
  case skip => exact ⟨hr.1, h _ _ hr.1 hr.2⟩
  case enter f args => exact ⟨hr.1, hr.2.mono fun e w'' ⟨v, h1, h2, h3⟩ => ⟨v, h1, h2, h v w'' (hr.1.trans h2) h3⟩⟩
 | halt x w' => simp only [eF] at hr
def GI (S : St) : List (Fr × Nat) → St
 | [] => S
 | ((t, T, d), g) :: E => GI ⟨(t, .val (.v (.pointer (some ⟨g, 0, none⟩)))) :: S.regs, .var g T d :: S.objs, S.facts⟩ E
def mW (k : St → Prop) : List Fr → St → Prop
 | [], S => k S
 | (t, T, d) :: E, S => ∀ g, mW k E ⟨(t, .val (.v (.pointer (some ⟨g, 0, none⟩)))) :: S.regs, .var g T d :: S.objs, S.facts⟩
theorem nO {k : St → Prop} : ∀ (E : List (Fr × Nat)) (S : St), mW k (E.map (·.1)) S → k (GI S E)
 | [], S, h => h
 | ((t, T, d), g) :: E, S, h => nO E _ (h g)
structure Good (X : Cx N) (z : Nat → Prop) (S : St) (b : Act) (u : World) : Prop where
 at_ : ∀ o ∈ S.objs, o.At X.mine z u
 apart : S.objs.Pairwise fun o p => ∀ b, o.blk = some b → p.blk ≠ some b
 off : ∀ o ∈ S.objs, ∀ b, z b → o.blk ≠ some b
 fact : ∀ f ∈ S.facts, Reads z u f.2 [f.1]
 regs : ∀ t r, look S.regs t = some r → aN z u r (b.tmps.getD t undef)
theorem Good.ext {z : Nat → Prop} {b : Act} {u : World} : ∀ (E : List (Fr × Nat)) (S : St), Good X z S b u → (∀ e ∈ E, X.mine e.2 ∧ ¬ z e.2 ∧ b.tmps.getD e.1.1 undef = .pointer (some ⟨e.2, 0, none⟩) ∧ ∃ cs, u.heap[e.2]? = some (.cells cs.toArray e.1.2.1 (0, 0)) ∧ Reads z u e.1.2.2 cs) →
  (E.map (·.2)).Nodup → (∀ e ∈ E, ∀ o ∈ S.objs, o.blk ≠ some e.2) → Good X z (GI S E) b u
 | [], S, h, _, _, _ => h
 | ((t, T, d), g) :: E, S, h, hE, hn, ho => by
  rw [GI]
  obtain ⟨h1, h2, h3, cs, h4, h5⟩ := hE ((t, T, d), g) (by simp)
  simp only [Lu, Ny] at hn
  refine Good.ext E _ ⟨fun o hm => ?_, LY.2 ⟨fun o hm b e => ?_, h.apart⟩, fun o hm b hb => ?_, h.fact, fun t' r hr => ?_⟩ (fun e he => hE e (by simp [he])) hn.2 fun e he o hm => ?_
  ·
   rcases KT.1 hm with rfl | hm
   · exact ⟨h1, cs, h4, h5⟩
   · exact h.at_ o hm
  ·
   cases e
   exact ho ((t, T, d), g) (by simp) o hm
  ·
   rcases KT.1 hm with rfl | hm
   ·
    intro e
    cases e
    exact h2 hb
   · exact h.off o hm b hb
  ·
   simp only [look] at hr
   split at hr
   ·
    rename_i e
    cases hr
    subst e
    exact ay.2 ⟨rfl, h3⟩
   · exact h.regs t' r hr
  ·
   rcases KT.1 hm with rfl | hm
   ·
    intro e'
    simp only [Obj.blk, NW] at e'
    exact hn.1 (LD.2 ⟨e, he, e'.symm⟩)
   · exact ho e (by simp [he]) o hm
theorem Good.at {z : Nat → Prop} {b : Act} {u : World} (h : Good X z S b u) (hg : GrE X.own0 X.w0 u) (hz : ∀ b, z b → (X.ok0 b ∨ X.mine b) ∧ b < u.heap.size) (hs : b.tmps.size = N) (hd : b.defers = []) : At X S b u := by
 have hok : ∀ b, z b → X.ok S.objs u b := fun b hb => ⟨(hz b hb).1, (hz b hb).2, fun o ho => h.off o ho b hb⟩
 refine ⟨⟨hg, h.apart, fun o ho => ?_, fun f hf => Reads.mono hok (fun _ _ => rfl) _ _ (h.fact f hf)⟩, fun t r hr => (h.regs t r hr).mono hok fun _ _ => rfl, hs, hd⟩
 exact (h.at_ o ho).move hok (fun _ _ => rfl) fun _ _ => rfl
def iL (k : Nat) (d : Option Tmp) : Inf → List (Fr × Nat)
 | .new T x => match d with
  | some t => [((t, T, x), k)]
  | none => []
 | _ => []
theorem Ei (k : Nat) (E : List Fr) (d : Option Tmp) (i : Inf) : lQ E d i = E ++ (iL k d i).map (·.1) := by
 cases i <;> cases d <;> simp [lQ, iL]
theorem jX {k : Nat} {d : Option Tmp} {i : Inf} {e : Fr × Nat} (h : e ∈ iL k d i) : e.2 = k ∧ d = some e.1.1 ∧ i = .new e.1.2.1 e.1.2.2 := by
 cases i <;> cases d <;> simp [iL] at h
 subst h
 exact ⟨rfl, rfl, rfl⟩
theorem l7 (k : Nat) (d : Option Tmp) (i : Inf) : ((iL k d i).map (·.2)).Nodup := by
 cases i <;> cases d <;> simp [iL]
def dH : Nat → List Oper → List Inf → List (Fr × Nat)
 | k, o :: l, i :: infs => iL k o.dst i ++ dH (k + 1) l infs
 | _, [], _ => []
 | _, _ :: _, [] => []
theorem qM : ∀ (l : List Oper) (infs : List Inf) (k : Nat) (E : List Fr), zo E l infs = E ++ (dH k l infs).map (·.1)
 | [], infs, k, E => by cases infs <;> simp [zo, dH]
 | o :: l, [], k, E => by simp [zo, dH]
 | o :: l, i :: infs, k, E => by
  rw [zo, dH, qM l infs (k + 1), Ei k, MH, Lc]
theorem dn : ∀ (l : List Oper) (infs : List Inf) (k : Nat) (e : Fr × Nat), e ∈ dH k l infs → ∃ j o, e.2 = k + j ∧ l[j]? = some o ∧ o.dst = some e.1.1 ∧ infs[j]? = some (.new e.1.2.1 e.1.2.2)
 | [], infs, k, e, h => by cases infs <;> simp [dH] at h
 | o :: l, [], k, e, h => by simp [dH] at h
 | o :: l, i :: infs, k, e, h => by
  rw [dH] at h
  rcases LH.1 h with h | h
  ·
   obtain ⟨h1, h2, h3⟩ := jX h
   exact ⟨0, o, h1, rfl, h2, by rw [h3]; rfl⟩
  ·
   obtain ⟨j, o', h1, h2, h3, h4⟩ := dn l infs (k + 1) e h
   exact ⟨j + 1, o', by omega, by simpa using h2, h3, by simpa using h4⟩
theorem fH : ∀ (l : List Oper) (infs : List Inf) (k : Nat), ((dH k l infs).map (·.2)).Nodup
 | [], infs, k => by cases infs <;> simp [dH]
 | o :: l, [], k => by simp [dH]
 | o :: l, i :: infs, k => by
  rw [dH, MH]
  refine Ol.2 ⟨l7 k o.dst i, fH l infs (k + 1), fun x hx y hy e => ?_⟩
  subst e
  obtain ⟨e, he, rfl⟩ := LD.1 hy
  obtain ⟨j, o', h1, _⟩ := dn l infs (k + 1) e he
  obtain ⟨e', he', h2⟩ := LD.1 hx
  have := (jX he').1
  omega
theorem EC.draw {id : Nat} (n : Nat) (hB : monoB l.toArray n N = true) (h : EM N l.toArray (fun S' E => mW (EL X l.toArray Q (l.drop n)) E S') (l.take n) S []) : EC X Q (.region id l.toArray true) S := by
 constructor
 intro a ws ha
 obtain ⟨infs, hlen, hok, hT, hnp⟩ := jq _ _ _ h
 have hle : n ≤ l.length := by simpa using (eY hB).le
 have hln : (l.take n).length = n := by simp; omega
 rw [hln] at hlen hT
 have htake : ∀ k, k < n → (l.take n)[k]? = l[k]? := fun k hk => by rw [Nc, if_pos hk]
 have hdst : ∀ k o, l[k]? = some o → aT l.toArray k = o.dst := fun k o ho => by unfold aT; simp [ho]
 have hks := ha.kn fun _ => True
 refine lK n (by kernel_rfl) (by rw [ha.size]; exact hB) (fun L vs u => ∃ F, GG X S infs ws F L vs u) ?_ ?_ ?_ ?_
 ·
  rintro L L' vs vs' w hL hvs ⟨F, hG⟩
  obtain rfl : L = L' := funext fun j => propext (hL j)
  refine ⟨F, hG.gr, hG.lo, hG.dis, fun j i hj hi => ?_⟩
  rw [← hvs j hj]
  exact hG.val j i hj hi
 · exact ⟨fun _ _ => False, ⟨⟨rfl, rfl, rfl, Lj _, fun _ _ => rfl⟩, fun _ h => h.elim, fun _ _ _ h => h.elim, fun _ _ h => h.elim⟩⟩
 ·
  intro k o L vs b u hk ho hL hLk ⟨F, hG⟩ hslot
  obtain ⟨i, hi⟩ : ∃ i, infs[k]? = some i := ⟨infs[k], by simp [hlen, hk]⟩
  obtain ⟨hO, hof, _⟩ := hok k o i (by rw [htake k hk]; exact ho) hi
  have hc : ∀ p : Addr, X.ok S.objs ws p.block → u.cell? p = ws.cell? p := fun p hp => hG.gr.cell hp.2.1
  have hkn : Kn X.mine (zone X S infs ws F L) (fun t => t ∈ o.looksAt l.toArray) (bV S (l.take n) infs k) b u := by
   refine ⟨fun p hp => ?_, fun f hf => ?_, fun b hb => hG.lt hb, fun t r ht hr => ?_⟩
   ·
    rw [(aF _ _ _ _).1] at hp
    have hat := hks.objs p hp
    exact hat.move (fun _ => .inl) hc fun g hb => hG.gr.block g (Obj.aZ hat hb).2
   ·
    rw [(aF _ _ _ _).2] at hf
    exact Reads.mono (fun _ => .inl) hc _ _ (hks.facts f hf)
   ·
    have hlk := bU (l.take n) infs k S t (by rw [hlen, hln]) (by omega)
    rcases hslot t ht with ⟨j, h1, h2, h3, h4, h5⟩ | ⟨h1, h2⟩
    ·
     have hjl : j < l.length := by omega
     have hoj : l[j]? = some l[j] := by simp
     have hij : infs[j]? = some infs[j] := by simp
     rw [hlk.1 j l[j] infs[j] h1 (by rw [htake j (by omega)]; exact hoj) hij (by rw [← hdst j _ hoj]; exact h2) fun m om h6 h7 hom => by
      rw [htake m (by omega)] at hom
      rw [← hdst m _ hom]
      exact h3 m h6 h7] at hr
     cases hr
     rw [h5]
     have := hG.val j _ h4 hij
     cases hinf : infs[j] with
     | new T d => trivial
     | still r => rw [hinf] at this; exact this
     | grow r => rw [hinf] at this; exact this
     | skip => rw [hinf] at this; exact this
     | put p q => trivial
    ·
     rw [hlk.2 fun j oj hj hoj => by
      rw [htake j (by omega)] at hoj
      rw [← hdst j _ hoj]
      exact h1 j hj] at hr
     rw [h2]
     exact (ha.regs t r hr).mono (fun _ => .inl) hc
  have hstep : ∀ v u', Gr u u' → ∀ f : Nat → Prop, (∀ b, f b → u.heap.size ≤ b ∧ b < u'.heap.size) → ((∀ b, zone X S infs ws F L b → zone X S infs ws (fun j => if j = k then f else F j) (fun j => j = k ∨ L j) b) → (match i with
   | .new T d => ∃ g cs, v = .pointer (some ⟨g, 0, none⟩) ∧ (∀ b, f b ↔ b = g) ∧ u'.heap[g]? = some (.cells cs.toArray T (0, 0)) ∧ Reads (zone X S infs ws (fun j => if j = k then f else F j) (fun j => j = k ∨ L j)) u' d cs
   | i => aN (zone X S infs ws (fun j => if j = k then f else F j) (fun j => j = k ∨ L j)) u' i.reg v)) → ∃ F, GG X S infs ws F (fun j => j = k ∨ L j) (fun j => if j = k then v else vs j) u' := fun v u' hg f hf hv =>
   ⟨_, hG.step hLk hg v f hf fun i' hi' hz => by
    obtain rfl : i' = i := MJ (hi'.symm.trans hi)
    exact hv hz⟩
  cases i with
  | still r =>
   obtain ⟨hg, hS⟩ := hO
   refine ⟨fun _ => ?_, fun hw => by rw [aC hkn hg] at hw; cases hw⟩
   obtain ⟨v, h1, h2⟩ := hS _ _ b u hkn
   rw [h1]
   exact (hstep v u (Gr.refl u) (fun _ => False) (fun _ h => h.elim) fun hz => aN.mono hz (fun _ _ => rfl) h2)
  | grow r =>
   obtain ⟨hg, hS⟩ := hO
   refine ⟨fun _ => bW (hS _ _ b u hkn) (fun v w' hgr hv => ?_), fun hw => by rw [aC hkn hg] at hw; cases hw⟩
   obtain ⟨r', rfl, hv⟩ := hv
   refine hstep v w' hgr (fun b => u.heap.size ≤ b ∧ b < w'.heap.size) (fun _ h => h) fun hz => aN.mono (fun b hb => ?_) (fun _ _ => rfl) hv
   rcases hb.1 with h1 | h1
   · exact hz b h1
   · exact .inr ⟨k, .inl rfl, (fun T d e => by rw [hi] at e; cases e), by show (if k = k then _ else F k) b; rw [if_pos rfl]; exact ⟨h1, hb.2⟩⟩
  | put p q => cases hnp k _ hi
  | skip =>
   refine ⟨fun hw => (by rw [aC hkn hO] at hw; cases hw), fun _ => ?_⟩
   exact hstep undef u (Gr.refl u) (fun _ => False) (fun _ h => h.elim) fun _ => ⟨[], rfl, rfl⟩
  | new T d =>
   obtain ⟨hg, hS⟩ := hO
   refine ⟨fun _ => ?_, fun hw => by rw [aC hkn hg] at hw; cases hw⟩
   obtain ⟨cs, h1, h2⟩ := hS _ _ b u hkn
   rw [h1]
   have hgr := cZ u (.cells cs.toArray T)
   exact hstep _ _ hgr (fun b => b = u.heap.size) (fun b e => by subst e; simp) fun hz => ⟨u.heap.size, cs, rfl, fun b => Iff.rfl, heap_alloc_new u _, Reads.mono hz (fun p hp => hgr.cell (hG.lt hp)) _ _ h2⟩
 ·
  intro vs u b ⟨F, hG⟩ hs hd hslot
  have hc : ∀ p : Addr, X.ok S.objs ws p.block → u.cell? p = ws.cell? p := fun p hp => hG.gr.cell hp.2.1
  have hsz := ha.mem.gr.size
  have hgood : Good X (zone X S infs ws F fun j => j < n) (bV S (l.take n) infs n) b u := by
   refine ⟨fun p hp => ?_, by rw [(aF _ _ _ _).1]; exact ha.mem.apart, fun p hp b hb e => ?_, fun f hf => ?_, fun t r hr => ?_⟩
   ·
    rw [(aF _ _ _ _).1] at hp
    have hat := hks.objs p hp
    exact hat.move (fun _ => .inl) hc fun g hb => hG.gr.block g (Obj.aZ hat hb).2
   ·
    rw [(aF _ _ _ _).1] at hp
    rcases hb with hb | ⟨i, h1, _, h2⟩
    · exact hb.2.2 p hp e
    ·
     have := (Obj.aZ (ha.mem.at_ p hp) e).2
     have := (hG.lo i h1 b h2).1
     omega
   ·
    rw [(aF _ _ _ _).2] at hf
    exact Reads.mono (fun _ => .inl) hc _ _ (hks.facts f hf)
   ·
    have hlk := bU (l.take n) infs n S t (by rw [hlen, hln]) (by omega)
    rcases hslot t with ⟨j, h1, h2, h3, h4, h5⟩ | ⟨h1, h2⟩
    ·
     have hjl : j < l.length := by omega
     have hoj : l[j]? = some l[j] := by simp
     have hij : infs[j]? = some infs[j] := by simp
     rw [hlk.1 j l[j] infs[j] h1 (by rw [htake j (by omega)]; exact hoj) hij (by rw [← hdst j _ hoj]; exact h2) fun m om h6 h7 hom => by
      rw [htake m (by omega)] at hom
      rw [← hdst m _ hom]
      exact h3 m h6 h7] at hr
     cases hr
     rw [h5]
     have := hG.val j _ h4 hij
     cases hinf : infs[j] with
     | new T d => trivial
     | still r => rw [hinf] at this; exact this
     | grow r => rw [hinf] at this; exact this
     | skip => rw [hinf] at this; exact this
     | put p q => trivial
    ·
     rw [hlk.2 fun j oj hj hoj => by
      rw [htake j (by omega)] at hoj
      rw [← hdst j _ hoj]
      exact h1 j hj] at hr
     rw [h2]
     exact (ha.regs t r hr).mono (fun _ => .inl) hc
  let gOf : Nat → Nat := fun j => match vs j with
   | .pointer (some p) => p.block
   | _ => 0
  have hfr : ∀ j T d, infs[j]? = some (.new T d) → ∃ cs, vs j = .pointer (some ⟨gOf j, 0, none⟩) ∧ (∀ b, F j b ↔ b = gOf j) ∧ u.heap[gOf j]? = some (.cells cs.toArray T (0, 0)) ∧ Reads (zone X S infs ws F fun j => j < n) u d cs := fun j T d hj => by
   have hjn : j < n := by
    have := (KZ.1 hj).1
    omega
   obtain ⟨g, cs, g1, g2, g3, g4⟩ := hG.val j _ hjn hj
   have hg : gOf j = g := by simp only [gOf, g1]
   rw [hg]
   exact ⟨cs, g1, g2, g3, g4⟩
  have hE := qM (l.take n) infs 0 []
  rw [KE] at hE
  rw [hE] at hT
  have hmm : (dH 0 (l.take n) infs).map (·.1) = ((dH 0 (l.take n) infs).map fun e => (e.1, gOf e.2)).map (·.1) := by simp [List.map_map, Function.comp_def]
  rw [hmm] at hT
  have hEL := nO _ _ hT
  refine hEL.go b u ((Good.ext _ _ hgood (fun e he => ?_) ?_ fun e he o ho => ?_).at (ha.mem.gr.trans (.of hG.gr)) (fun b hb => ?_) (hs.trans ha.size) (hd.trans ha.defers))
  ·
   obtain ⟨e0, he0, rfl⟩ := LD.1 he
   obtain ⟨j, o, h1, h2, h3, h4⟩ := dn _ _ _ _ he0
   rw [L8] at h1
   have hjn : j < n := by
    have := (KZ.1 h4).1
    omega
   obtain ⟨cs, g1, g2, g3, g4⟩ := hfr j _ _ h4
   rw [htake j hjn] at h2
   dsimp only
   rw [h1]
   refine ⟨.inr (LG hsz (hG.lo j hjn _ ((g2 _).2 rfl)).1), fun hz => ?_, ?_, cs, g3, g4⟩
   ·
    rcases hz with hz | ⟨i, k1, k2, k3⟩
    ·
     have := (hG.lo j hjn _ ((g2 _).2 rfl)).1
     have := hz.2.1
     omega
    ·
     by_cases e : i = j
     ·
      subst e
      exact k2 _ _ h4
     · exact hG.dis i j _ k1 hjn e k3 ((g2 _).2 rfl)
   ·
    rcases hslot e0.1.1 with ⟨j', k1, k2, k3, k4, k5⟩ | ⟨k1, k2⟩
    ·
     have hjj : j' = j := by
      rcases Nk j' j with h | h | h
      · exact absurd ((hdst j o h2).trans h3) (k3 j h hjn)
      · exact h
      ·
       exfalso
       have hoj' : l[j']? = some l[j'] := by simp
       have hij' : infs[j']? = some infs[j'] := by simp
       exact ((hok j' l[j'] infs[j'] (by rw [htake j' k1]; exact hoj') hij').2.1 e0.1.1 (by rw [← hdst j' _ hoj']; exact k2)).2.2 j o _ _ h (by rw [htake j hjn]; exact h2) h4 h3
     subst hjj
     rw [k5]
     exact g1
    · exact absurd ((hdst j o h2).trans h3) (k1 j hjn)
  ·
   have hnd := fH (l.take n) infs 0
   rw [MK]
   have : ((fun e : Fr × Nat => e.2) ∘ fun e : Fr × Nat => (e.1, gOf e.2)) = gOf ∘ fun e => e.2 := rfl
   rw [show ((fun x : Fr × Nat => x.2) ∘ fun e : Fr × Nat => (e.1, gOf e.2)) = gOf ∘ (fun e => e.2) from rfl, ← MK]
   have hinj : ∀ x ∈ (dH 0 (l.take n) infs).map (·.2), ∀ y ∈ (dH 0 (l.take n) infs).map (·.2), gOf x = gOf y → x = y := by
    intro x hx y hy e
    obtain ⟨ex, hex, rfl⟩ := LD.1 hx
    obtain ⟨ey, hey, rfl⟩ := LD.1 hy
    obtain ⟨jx, ox, a1, a2, a3, a4⟩ := dn _ _ _ _ hex
    obtain ⟨jy, oy, b1, b2, b3, b4⟩ := dn _ _ _ _ hey
    rw [L8] at a1 b1
    rw [a1, b1] at e ⊢
    obtain ⟨_, c1, c2, _⟩ := hfr jx _ _ a4
    obtain ⟨_, d1, d2, _⟩ := hfr jy _ _ b4
    by_cases hne : jx = jy
    · exact hne
    ·
     exfalso
     have hx' : jx < n := by have := (KZ.1 a4).1; omega
     have hy' : jy < n := by have := (KZ.1 b4).1; omega
     exact hG.dis jx jy (gOf jx) hx' hy' hne ((c2 _).2 rfl) ((d2 _).2 e)
   clear hT hEL hmm hE
   revert hnd hinj
   generalize (dH 0 (l.take n) infs).map (·.2) = m
   intro hnd hinj
   induction m with
   | nil => simp
   | cons x m ih =>
    simp only [Lu, Ny] at hnd ⊢
    refine ⟨fun hm => ?_, ih hnd.2 fun p hp q hq => hinj p (by simp [hp]) q (by simp [hq])⟩
    obtain ⟨y, hy, e⟩ := LD.1 hm
    have := hinj x (by simp) y (by simp [hy]) e.symm
    subst this
    exact hnd.1 hy
  ·
   obtain ⟨e0, he0, rfl⟩ := LD.1 he
   obtain ⟨j, o', h1, h2, h3, h4⟩ := dn _ _ _ _ he0
   rw [L8] at h1
   have hjn : j < n := by
    have := (KZ.1 h4).1
    omega
   obtain ⟨cs, g1, g2, g3, g4⟩ := hfr j _ _ h4
   rw [(aF _ _ _ _).1] at ho
   dsimp only
   rw [h1]
   intro e
   have := (Obj.aZ (ha.mem.at_ o ho) e).2
   have := (hG.lo j hjn _ ((g2 _).2 rfl)).1
   omega
  ·
   refine ⟨?_, hG.lt hb⟩
   rcases hb with hb | ⟨i, k1, _, k3⟩
   · exact hb.1
   · exact .inr (.inr (LG hsz (hG.lo i k1 b k3).1))
end
end E
end Go.Proofs.YtkhjanjlcdhdcaaGreat
namespace Go.Proofs.YtkhjanjlcdhdcaaGreat
set_option linter.unusedVariables false
namespace Rlp
theorem AX (l : List UInt8) : ∀ n, l.foldl (fun n b => n * 256 + b.toNat) n = n * 256 ^ l.length + val l := by
 induction l with
 | nil => intro n; simp [val]
 | cons b l ih =>
  intro n
  have h1 := ih (n * 256 + b.toNat)
  have h2 := ih b.toNat
  have h3 : val (b :: l) = b.toNat * 256 ^ l.length + val l := by
   unfold val at h2 ⊢
   rw [NT, Nat.zero_mul, L8, h2]
  rw [NT, h1, h3, LX, NI, Nb, OD, Nz 256, N9]
theorem vU (b : UInt8) (l : List UInt8) : val (b :: l) = b.toNat * 256 ^ l.length + val l := by
 have h := AX l b.toNat
 unfold val at h ⊢
 rw [NT, Nat.zero_mul, L8, h]
theorem uf (l : List UInt8) : val l < 256 ^ l.length := by
 induction l with
 | nil => simp [val]
 | cons b l ih =>
  have hb := b.toNat_lt
  rw [vU, LX, NI]
  have h1 : b.toNat * 256 ^ l.length ≤ 255 * 256 ^ l.length := Nj _ (by omega)
  omega
def zero32 : List UInt8 := List.replicate 32 0
end Rlp
end Go.Proofs.YtkhjanjlcdhdcaaGreat
namespace Go.Proofs.YtkhjanjlcdhdcaaGreat
set_option linter.unusedVariables false
open Go.RowKit Mono Rlp
namespace E
def assoc {α : Type} : List (Nat × α) → Nat → Option α
 | [], _ => none
 | (k, x) :: l, n => if k = n then some x else assoc l n
theorem eP {α : Type} : ∀ (l : List (Nat × α)) (n : Nat) (x : α), assoc l n = some x → (n, x) ∈ l
 | [], n, x, h => by simp [assoc] at h
 | (k, y) :: l, n, x, h => by
  rw [assoc] at h
  split at h
  ·
   rename_i e
   cases h
   subst e
   simp
  · exact Ld _ (eP l n x h)
def slB (P : Program) (T : Nat) : Option (Nat × Nat × Nat × Nat) :=
 match P.underlying T with
 | some (.slice e) => match P.info? e with
  | some i => match i.zero with
   | some z => some (e, i.size, i.bytes, z.cells.size)
   | none => none
  | none => none
 | _ => none
def arB (P : Program) (T : Nat) : Option (Nat × Nat × Nat) :=
 match P.underlying T with
 | some (.array n e) => match P.info? e with
  | some i => some (n, e, i.size)
  | none => none
 | _ => none
def stB (P : Program) (T : Nat) : Option (List (Nat × Nat × Bool)) :=
 match P.underlying T with
 | some (.struct fs) => fs.toList.mapM fun f => match P.info? f.type, P.underlying f.type with
  | some i, some d => some (f.offset, i.size, d.isRow)
  | _, _ => none
 | _ => none
theorem JH {T e z y y' : Nat} (h : slB Tryz.prog T = some (e, z, y, y')) : EN T e z := by
 unfold slB at h
 split at h
 ·
  rename_i e' hu
  split at h
  ·
   rename_i i hi
   split at h
   ·
    cases h
    exact ⟨hu, by rw [hi]; rfl⟩
   · cases h
  · cases h
 · cases h
theorem Iu {T e z y : Nat} (h : slB Tryz.prog T = some (e, z, y, z)) (h0 : 0 < z) : SlT Tryz.prog T e z y := by
 unfold slB at h
 split at h
 ·
  rename_i e' hu
  split at h
  ·
   rename_i i hi
   split at h
   ·
    rename_i zv hz
    simp only [NW, Prod.mk.injEq] at h
    obtain ⟨h1, h2, h3, h4⟩ := h
    subst h1
    exact ⟨hu, ⟨i, zv, hi, hz, h2, h3, h4⟩, h0⟩
   · cases h
  · cases h
 · cases h
theorem J4 {T n e z : Nat} (h : arB Tryz.prog T = some (n, e, z)) : HY T n e z := by
 unfold arB at h
 split at h
 ·
  rename_i n' e' hu
  split at h
  ·
   rename_i i hi
   cases h
   exact ⟨hu, by rw [hi]; rfl⟩
  · cases h
 · cases h
theorem wZ {α β : Type} {f : α → Option β} : ∀ (l : List α) (r : List β) (k : Nat) (y : β), l.mapM f = some r → r[k]? = some y → ∃ x, l[k]? = some x ∧ f x = some y
 | [], r, k, y, h, hk => by
  simp at h
  subst h
  simp at hk
 | a :: l, r, k, y, h, hk => by
  rw [List.mapM_cons] at h
  cases ha : f a with
  | none => rw [ha] at h; cases h
  | some b =>
   rw [ha] at h
   cases hl : l.mapM f with
   | none => rw [hl] at h; cases h
   | some bs =>
    rw [hl] at h
    cases h
    cases k with
    | zero => cases hk; exact ⟨a, rfl, ha⟩
    | succ k => exact wZ l bs k y hl (by simpa using hk)
theorem mapM_map {α β γ : Type} {f : α → Option β} {g : α → Option γ} {p : β → γ} (hfg : ∀ a b, f a = some b → g a = some (p b)) : ∀ (l : List α) (r : List β), l.mapM f = some r → l.mapM g = some (r.map p)
 | [], r, h => by
  simp at h
  subst h
  simp
 | a :: l, r, h => by
  rw [List.mapM_cons] at h ⊢
  cases ha : f a with
  | none => rw [ha] at h; cases h
  | some b =>
   rw [ha] at h
   cases hl : l.mapM f with
   | none => rw [hl] at h; cases h
   | some bs =>
    rw [hl] at h
    cases h
    rw [hfg a b ha, mapM_map hfg l bs hl]
    rfl
theorem Ir {T k off sz : Nat} {ag : Bool} {l : List (Nat × Nat × Bool)} (h : stB Tryz.prog T = some l) (hk : l[k]? = some (off, sz, ag)) (h0 : 0 < sz) : Fld Tryz.prog T k off sz ag := by
 unfold stB at h
 split at h
 ·
  rename_i fs hu
  obtain ⟨f, h1, h2⟩ := wZ _ _ _ _ h hk
  split at h2
  ·
   rename_i i d hi hd
   cases h2
   exact ⟨⟨fs, f, d, hu, by simpa using h1, rfl, by rw [hi]; rfl, hd, rfl⟩, h0⟩
  · cases h2
 · cases h
theorem JG {T : Nat} {l : List (Nat × Nat × Bool)} (h : stB Tryz.prog T = some l) : GZ T (l.map fun x => (x.1, x.2.1)) := by
 unfold stB at h
 split at h
 ·
  rename_i fs hu
  refine ⟨fs, hu, mapM_map (fun f b hb => ?_) _ _ h⟩
  split at hb
  ·
   rename_i i d hi hd
   cases hb
   rw [hi]
   rfl
  · cases hb
 · cases h
mutual
def cellsD : D → List Value
 | .v x => [x]
 | .arr _ l => bvs l
 | .tup ds => vI ds
 | _ => []
def vI : List D → List Value
 | [] => []
 | d :: ds => cellsD d ++ vI ds
end
mutual
def nI : D → Bool
 | .v x => x.oneCell'
 | .arr n l => l.length == n
 | .tup ds => nH ds
 | _ => false
def nH : List D → Bool
 | [] => true
 | d :: ds => nI d && nH ds
end
mutual
theorem jv {ok : Nat → Prop} {w : World} : ∀ d : D, nI d = true → Reads ok w d (cellsD d)
 | .v x, h => by rw [Reads]; exact ⟨h, rfl⟩
 | .arr n l, h => by rw [Reads]; exact ⟨by simpa [nI] using h, rfl⟩
 | .tup ds, h => by rw [Reads]; exact lU ds h
 | .bs l, h => by cases h
 | .sl z ds, h => by cases h
 | .pd d, h => by cases h
 | .ifc t d, h => by cases h
theorem lU {ok : Nat → Prop} {w : World} : ∀ ds : List D, nH ds = true → aP ok w ds (vI ds)
 | [], h => by rw [aP]; rfl
 | d :: ds, h => by
  simp only [nH, MB] at h
  rw [aP]
  exact ⟨_, _, rfl, jv d h.1, lU ds h.2⟩
end
theorem FC {T : Nat} {d : D} (h : ((Tryz.prog.info? T).bind (·.zero)).map (·.cells.toList) = some (cellsD d)) (hc : nI d = true) : Zero T d := by
 cases hz : (Tryz.prog.info? T).bind (·.zero) with
 | none => rw [hz] at h; cases h
 | some z =>
  rw [hz] at h
  have h1 : z.cells.toList = cellsD d := by simpa using h
  exact ⟨z, hz, fun ok w => by rw [h1]; exact jv d hc⟩
def Cm : List (Nat × D) → Prop
 | [] => True
 | (T, d) :: l => Zero T d ∧ Cm l
theorem Cm.get : ∀ (l : List (Nat × D)) (T : Nat) (d : D), Cm l → assoc l T = some d → Zero T d
 | [], T, d, _, h => by simp [assoc] at h
 | (k, e) :: l, T, d, h, hk => by
  rw [assoc] at hk
  split at hk
  ·
   rename_i e
   cases hk
   subst e
   exact h.1
  · exact Cm.get l T d h.2 hk
def cnB (P : Program) (T : Nat) : Bool :=
 match P.underlying T with
 | some (.interface _) => false
 | some _ => true
 | none => false
def JL (P : Program) (T : Nat) : Bool :=
 match P.underlying T with
 | some (.pointer _) => true
 | _ => false
def IX (P : Program) (T : Nat) : Option (Nat × Nat × Nat) :=
 match P.underlying T with
 | some (.map k e) => match P.underlying k with
  | some (.array n b) => match P.underlying b, P.info? b with
   | some (.int .u8), some i => if i.size = 1 then some (k, n, e) else none
   | _, _ => none
  | _ => none
 | _ => none
structure vP (K n : Nat) : Prop where
 get : ∃ e, Tryz.prog.underlying K = some (.array n e) ∧ Tryz.prog.underlying e = some (.int .u8) ∧ ∀ w, (sizeOf e).run Tryz.prog w = .ok 1 w
structure yC (T : Nat) (d : D) : Prop where
 get : ∃ z, (∀ w, (zeroValue T).run Tryz.prog w = .ok z w) ∧ ∀ ok w, bf ok w d z
theorem JE {T : Nat} {d : D} (h : (Tryz.prog.info? T).bind (·.zero) = some (form d (cellsD d))) (hc : nI d = true) : yC T d := by
 refine ⟨form d (cellsD d), fun w => ?_, fun ok w => ⟨_, jv d hc, rfl⟩⟩
 cases hi : Tryz.prog.info? T with
 | none => rw [hi] at h; cases h
 | some i =>
  rw [hi] at h
  have hz : i.zero = some (form d (cellsD d)) := by simpa using h
  simp [zeroValue, typeInfo, hi, hz]
def tY : List (Nat × D) → Prop
 | [] => True
 | (T, d) :: l => yC T d ∧ tY l
theorem tY.get : ∀ (l : List (Nat × D)) (T : Nat) (d : D), tY l → assoc l T = some d → yC T d
 | [], T, d, _, h => by simp [assoc] at h
 | (k, e) :: l, T, d, h, hk => by
  rw [assoc] at hk
  split at hk
  ·
   rename_i e
   cases hk
   subst e
   exact h.1
  · exact tY.get l T d h.2 hk
theorem IW {T K n e : Nat} (h : IX Tryz.prog T = some (K, n, e)) : Tryz.prog.underlying T = some (.map K e) ∧ vP K n := by
 unfold IX at h
 split at h
 ·
  rename_i k e' hu
  split at h
  ·
   rename_i n' b hk
   split at h
   ·
    rename_i i hb hi
    split at h
    ·
     rename_i hs
     cases h
     exact ⟨hu, b, hk, hb, fun w => by simp [sizeOf, typeInfo, hi, hs]⟩
    · cases h
   · cases h
  · cases h
 · cases h
def tyL : List (Nat × Nat × Bool) := [(2, 1, false), (3, 1, false), (4, 1, false), (5, 1, false), (7, 4, true), (9, 1, false), (12, 1, false), (13, 2, true), (15, 1, false), (16, 1, false), (17, 1, false), (18, 1, true), (21, 1, false), (22, 1, false), (23, 1, false), (26, 1, false), (28, 1, false), (31, 20, true), (32, 20, true), (33, 32, true), (34, 32, true), (35, 1, false), (36, 107, true), (37, 107, true), (38, 1, false), (49, 1, false), (50, 55, true), (51, 55, true), (52, 1, false), (53, 1, false), (54, 1, false), (55, 4, true), (56, 4, true), (57, 1, false), (59, 1, false), (60, 35, true), (61, 35, true), (62, 64, true), (63, 64, true), (65, 1, false), (66, 3, true), (67, 3, true), (72, 2, true), (73, 2, true), (75, 2, true), (82, 1, false), (85, 1, false), (89, 1, false), (92, 1, false), (97, 21, true), (98, 21, true), (100, 1, false), (104, 52, true), (105, 52, true), (106, 21, true), (107, 21, true), (109, 84, true), (110, 84, true), (113, 21, true), (114, 21, true), (115, 2, true), (116, 2, true), (123, 1, false), (124, 4, true), (125, 4, true), (133, 1, false), (140, 1, false), (146, 1, false), (154, 1, false), (161, 1, false), (165, 1, false), (169, 1, false), (174, 4, true), (176, 0, true), (177, 0, true), (182, 1, false), (185, 11, true), (20, 1, false), (80, 1, false)]
theorem Ip : (tyL.all fun x => tyB Tryz.prog x.1 == some x.2) = true := by kernel_rfl
def slL : List (Nat × Nat × Nat × Nat) := [(22, 51, 55, 112), (23, 37, 107, 144), (35, 5, 1, 1), (38, 75, 2, 16), (49, 63, 64, 64), (53, 80, 1, 16), (54, 73, 2, 16), (65, 116, 2, 32), (82, 32, 20, 20), (89, 34, 32, 32), (133, 3, 1, 8)]
theorem CX : (slL.all fun x => slB Tryz.prog x.1 == some (x.2.1, x.2.2.1, x.2.2.2, x.2.2.1)) = true := by kernel_rfl
def arL : List (Nat × Nat × Nat × Nat) := [(31, 20, 5, 1), (32, 20, 5, 1), (33, 32, 5, 1), (34, 32, 5, 1), (75, 2, 3, 1), (124, 4, 123, 1), (125, 4, 123, 1), (176, 0, 16, 1)]
theorem Js : (arL.all fun x => arB Tryz.prog x.1 == some x.2) = true := by kernel_rfl
def stL : List (Nat × List (Nat × Nat × Bool)) := [(7, [(0, 1, false), (1, 1, false), (2, 1, false), (3, 1, false)]), (13, [(0, 1, false), (1, 1, false)]), (18, [(0, 1, false)]), (36, [(0, 1, false), (1, 1, false), (2, 20, true), (22, 20, true), (42, 32, true), (74, 32, true), (106, 1, false)]), (37, [(0, 1, false), (1, 1, false), (2, 20, true), (22, 20, true), (42, 32, true), (74, 32, true), (106, 1, false)]), (50, [(0, 20, true), (20, 1, false), (21, 32, true), (53, 1, false), (54, 1, false)]), (51, [(0, 20, true), (20, 1, false), (21, 32, true), (53, 1, false), (54, 1, false)]), (55, [(0, 1, false), (1, 1, false), (2, 1, false), (3, 1, false)]), (56, [(0, 1, false), (1, 1, false), (2, 1, false), (3, 1, false)]), (60, [(0, 1, false), (1, 32, true), (33, 1, false), (34, 1, false)]), (61, [(0, 1, false), (1, 32, true), (33, 1, false), (34, 1, false)]), (62, [(0, 32, true), (32, 32, true)]), (63, [(0, 32, true), (32, 32, true)]), (66, [(0, 1, false), (1, 1, false), (2, 1, false)]), (67, [(0, 1, false), (1, 1, false), (2, 1, false)]), (72, [(0, 1, false), (1, 1, false)]), (73, [(0, 1, false), (1, 1, false)]), (97, [(0, 20, true), (20, 1, false)]), (98, [(0, 20, true), (20, 1, false)]), (104, [(0, 20, true), (20, 32, true)]), (105, [(0, 20, true), (20, 32, true)]), (106, [(0, 20, true), (20, 1, false)]), (107, [(0, 20, true), (20, 1, false)]), (109, [(0, 20, true), (20, 32, true), (52, 32, true)]), (110, [(0, 20, true), (20, 32, true), (52, 32, true)]), (113, [(0, 20, true), (20, 1, false)]), (114, [(0, 20, true), (20, 1, false)]), (115, [(0, 1, false), (1, 1, false)]), (116, [(0, 1, false), (1, 1, false)]), (174, [(0, 1, false), (1, 1, false), (2, 1, false), (3, 1, false)]), (177, [(0, 0, true)]), (185, [(0, 1, false), (1, 1, false), (2, 1, false), (3, 1, false), (4, 1, false), (5, 1, false), (6, 1, false), (7, 1, false), (8, 1, false), (9, 1, false), (10, 1, false)])]
theorem CS : (stL.all fun x => stB Tryz.prog x.1 == some x.2) = true := by kernel_rfl
def dL : List (Nat × D) := [(2, .v (.int .i64 0)), (3, .v (.int .i64 0)), (4, .v (.bool false)), (5, .v (.int .u8 0)), (7, .tup [.v (.int .i64 0), .v (.int .i64 0), .v (.bool false), .v (.int .u8 0)]), (12, .v (.int .u64 0)), (15, .v (.pointer none)), (16, .v (.pointer none)), (17, .v (.pointer none)), (18, .tup [.v (.pointer none)]), (20, .v .nilIface), (21, .v (.int .i32 0)), (22, .v (.slice none 0 0)), (23, .v (.slice none 0 0)), (26, .v (.pointer none)), (28, .v (.pointer none)), (31, .arr 20 (List.replicate 20 0)), (32, .arr 20 (List.replicate 20 0)), (33, .arr 32 zero32), (34, .arr 32 zero32), (35, .v (.slice none 0 0)), (36, .tup [.v (.int .i64 0), .v (.int .i64 0), .arr 20 (List.replicate 20 0), .arr 20 (List.replicate 20 0), .arr 32 zero32, .arr 32 zero32, .v (.slice none 0 0)]), (37, .tup [.v (.int .i64 0), .v (.int .i64 0), .arr 20 (List.replicate 20 0), .arr 20 (List.replicate 20 0), .arr 32 zero32, .arr 32 zero32, .v (.slice none 0 0)]), (38, .v (.slice none 0 0)), (49, .v (.slice none 0 0)), (50, .tup [.arr 20 (List.replicate 20 0), .v (.int .i64 0), .arr 32 zero32, .v (.slice none 0 0), .v (.slice none 0 0)]), (51, .tup [.arr 20 (List.replicate 20 0), .v (.int .i64 0), .arr 32 zero32, .v (.slice none 0 0), .v (.slice none 0 0)]), (52, .v (.map none)), (53, .v (.slice none 0 0)), (54, .v (.slice none 0 0)), (55, .tup [.v (.map none), .v (.slice none 0 0), .v (.slice none 0 0), .v (.int .i64 0)]), (56, .tup [.v (.map none), .v (.slice none 0 0), .v (.slice none 0 0), .v (.int .i64 0)]), (57, .v (.pointer none)), (59, .v (.map none)), (60, .tup [.v (.int .i64 0), .arr 32 zero32, .v (.slice none 0 0), .v (.map none)]), (61, .tup [.v (.int .i64 0), .arr 32 zero32, .v (.slice none 0 0), .v (.map none)]), (62, .tup [.arr 32 zero32, .arr 32 zero32]), (63, .tup [.arr 32 zero32, .arr 32 zero32]), (65, .v (.slice none 0 0)), (66, .tup [.v (.slice none 0 0), .v (.slice none 0 0), .v (.int .i64 0)]), (67, .tup [.v (.slice none 0 0), .v (.slice none 0 0), .v (.int .i64 0)]), (72, .tup [.v (.int .i64 0), .v (.int .i64 0)]), (73, .tup [.v (.int .i64 0), .v (.int .i64 0)]), (75, .tup [.v (.int .i64 0), .v (.int .i64 0)]), (80, .v .nilIface), (82, .v (.slice none 0 0)), (89, .v (.slice none 0 0)), (97, .tup [.arr 20 (List.replicate 20 0), .v (.int .i64 0)]), (98, .tup [.arr 20 (List.replicate 20 0), .v (.int .i64 0)]), (100, .v (.pointer none)), (104, .tup [.arr 20 (List.replicate 20 0), .arr 32 zero32]), (105, .tup [.arr 20 (List.replicate 20 0), .arr 32 zero32]), (106, .tup [.arr 20 (List.replicate 20 0), .v (.slice none 0 0)]), (107, .tup [.arr 20 (List.replicate 20 0), .v (.slice none 0 0)]), (109, .tup [.arr 20 (List.replicate 20 0), .arr 32 zero32, .arr 32 zero32]), (110, .tup [.arr 20 (List.replicate 20 0), .arr 32 zero32, .arr 32 zero32]), (113, .tup [.arr 20 (List.replicate 20 0), .v (.pointer none)]), (114, .tup [.arr 20 (List.replicate 20 0), .v (.pointer none)]), (115, .tup [.v (.int .i64 0), .v (.slice none 0 0)]), (116, .tup [.v (.int .i64 0), .v (.slice none 0 0)]), (123, .v (.int .u64 0)), (124, .tup [.v (.int .u64 0), .v (.int .u64 0), .v (.int .u64 0), .v (.int .u64 0)]), (125, .tup [.v (.int .u64 0), .v (.int .u64 0), .v (.int .u64 0), .v (.int .u64 0)]), (133, .v (.slice none 0 0)), (140, .v (.int .u64 0)), (146, .v (.int .i64 0)), (154, .v (.int .u32 0)), (161, .v (.int .u64 0)), (165, .v (.pointer none)), (169, .v (.pointer none)), (176, .tup []), (177, .tup [.tup []]), (182, .v (.pointer none))]
theorem CB : Cm dL := by
 repeat first | exact trivial | refine ⟨FC (by kernel_rfl) rfl, ?_⟩
def cnL : List Nat := [2, 3, 4, 5, 7, 9, 12, 13, 15, 16, 17, 18, 21, 22, 23, 26, 28, 31, 32, 33, 34, 35, 36, 37, 38, 49, 50, 51, 52, 53, 54, 55, 56, 57, 59, 60, 61, 62, 63, 65, 66, 67, 72, 73, 75, 82, 85, 89, 92, 97, 98, 100, 104, 105, 106, 107, 109, 110, 113, 114, 115, 116, 123, 124, 125, 133, 140, 146, 154, 161, 165, 169, 174, 176, 177, 182, 185]
theorem Jo : (cnL.all fun x => cnB Tryz.prog x) = true := by kernel_rfl
def mZ : List (Nat × Nat × Nat × Nat) := [(52, 32, 20, 57), (59, 34, 32, 34)]
theorem Gg : (mZ.all fun x => IX Tryz.prog x.1 == some x.2) = true := by kernel_rfl
def IL : List Nat := [15, 16, 17, 26, 28, 57, 100, 165, 169, 182]
theorem FY : (IL.all fun x => JL Tryz.prog x) = true := by kernel_rfl
theorem Il : tY dL := by
 repeat first | exact trivial | refine ⟨JE (by kernel_rfl) rfl, ?_⟩
end E
end Go.Proofs.YtkhjanjlcdhdcaaGreat
