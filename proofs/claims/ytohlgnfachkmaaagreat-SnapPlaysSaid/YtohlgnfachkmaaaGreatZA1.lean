/-
 Merged: lemmas of this claim.
 Conditions: none.
-/
import Derived.StillTail
import Derived.Below
import Derived.Deep.Draws
import Derived.Deep.Quiet
namespace Go.Proofs.YtohlgnfachkmaaaGreat
open Go.RowKit
namespace Mono
abbrev VP := Value → World → Prop
abbrev Gr (w w' : World) : Prop := Below w.heap.size w w'
theorem Gr.refl (w : World) : Gr w w := Below.refl _ _
theorem Gr.trans {a b c : World} (h : Gr a b) (k : Gr b c) : Gr a c := Below.trans h (Below.mono k h.size)
def Stable (V : VP) : Prop := ∀ v w w', Gr w w' → V v w → V v w'
def eqV (c : Value) : VP := fun v _ => v = c
def eX (P : Program) (V : VP) (w : World) : Result Next → Prop
 | .ok (.value v) w' => Gr w w' ∧ V v w'
 | .ok .skip w' => Gr w w' ∧ V undef w'
 | .ok (.enter f args) w' => Gr w w' ∧ Calls P f args w' fun e w'' => ∃ v, e = .returned v ∧ Gr w' w'' ∧ V v w''
 | _ => False
def upd (Φ : Tmp → VP) (d : Option Tmp) (V : VP) : Tmp → VP := fun t => if d = some t then V else Φ t
def Ob (P : Program) (ops : Array Oper) (C : World → Prop) (Φ : Tmp → VP) (o : Oper) (V : VP) : Prop :=
 ∀ (a : Act) (w : World), C w → (∀ t ∈ o.looksAt ops, Φ t (a.tmps.getD t undef) w) →
  (Region.wanted o (yielded ops a.tmps) = true → eX P V w ((execOp a.eval o).run P w)) ∧ (Region.wanted o (yielded ops a.tmps) = false → V undef w)
section
variable {P : Program} {ops : Array Oper} {C : World → Prop}
def phi (Φ0 : Tmp → VP) : List (Option Tmp × VP) → Tmp → VP
 | [] => Φ0
 | (d, V) :: acc => upd (phi Φ0 acc) d V
def aV (ops : Array Oper) (j : Nat) : Option Tmp := (ops[j]?).bind (·.dst)
def entries (ops : Array Oper) (V : Nat → VP) (k : Nat) : List (Option Tmp × VP) := (List.range k).map fun j => (aV ops j, V j)
theorem Dt {Φ0 : Tmp → VP} {V : Nat → VP} (t : Tmp) (v : Value) (w : World) : ∀ k, (∀ j, j < k → aV ops j = some t → (∀ i, j < i → i < k → aV ops i ≠ some t) → V j v w) →
  ((∀ j, j < k → aV ops j ≠ some t) → Φ0 t v w) → phi Φ0 ((List.range k).reverse.map fun j => ((ops[j]?).bind (·.dst), V j)) t v w
 | 0, _, h0 => h0 (fun _ h => absurd h (by omega))
 | k + 1, h, h0 => by
  rw [List.range_succ, List.reverse_append, List.map_append]
  simp only [List.reverse_cons, List.reverse_nil, List.nil_append, List.map_cons, List.map_nil, List.singleton_append, phi, upd]
  by_cases hd : (ops[k]?).bind (·.dst) = some t
  ·
   rw [if_pos hd]
   exact h k (by omega) hd (fun i h1 h2 => absurd h1 (by omega))
  ·
   rw [if_neg hd]
   refine Dt t v w k (fun j hj hdj hmax => h j (by omega) hdj fun i h1 h2 => ?_) (fun hno => h0 fun j hj => ?_)
   ·
    rcases Nat.lt_succ_iff_lt_or_eq.1 h2 with h3 | h3
    · exact hmax i h1 h3
    · subst h3; exact hd
   ·
    rcases Nat.lt_succ_iff_lt_or_eq.1 hj with h3 | h3
    · exact hno j h3
    · subst h3; exact hd
theorem mF {md : Region.Mode} {g : Nat} : ∀ (f k : Nat) (listed : Array Bool), Region.lexHead md ops g f k listed = true → listed.size = ops.size → k + f ≤ ops.size →
  (∀ x, listed.getD x false = true ↔ x < k) →
  (∀ m om, k ≤ m → m < k + f → ops[m]? = some om →
   (∀ e ∈ om.after, Region.binds md e = true → e.on < m) ∧
   (∀ j oj, m < j → ops[j]? = some oj → (∀ e ∈ oj.after, Region.binds md e = true → e.on ≠ m) → om.apart ops oj = true)) ∧
  (∃ L : Array Bool, L.size = ops.size ∧ (∀ x, L.getD x false = true ↔ x < k + f) ∧ Region.seqB md ops g (k + f) L = true)
 | 0, k, listed, h, hsz, _, hl => ⟨fun m om h1 h2 => absurd h1 (by omega), listed, hsz, by simpa using hl, by simpa [Region.lexHead] using h⟩
 | f + 1, k, listed, h, hsz, hkf, hl => by
  simp only [Region.lexHead, Bool.and_eq_true] at h
  obtain ⟨⟨hr, hf⟩, hB⟩ := h
  have hr' : k ∈ Region.ready md ops listed := by simpa using hr
  have hl' : ∀ x, (listed.setIfInBounds k true).getD x false = true ↔ x < k + 1 := by
   intro x
   by_cases hx : k = x
   ·
    subst hx
    have hk : k < listed.size := by omega
    simp [hk]
   ·
    rw [getD_set_ne false hx, hl x]
    omega
  obtain ⟨h1, L, h2, h3, h4⟩ := mF f (k + 1) _ hB (by simpa using hsz) (by omega) hl'
  refine ⟨fun m om hm1 hm2 hom => ?_, L, h2, by rw [show k + (f + 1) = k + 1 + f by omega]; exact h3, by rw [show k + (f + 1) = k + 1 + f by omega]; exact h4⟩
  by_cases hmk : m = k
  ·
   subst hmk
   obtain ⟨hun, o', ho', hall⟩ := mem_ready.1 hr'
   have : o' = om := Option.some.inj (ho'.symm.trans hom)
   subst this
   refine ⟨fun e he hb => (hl _).1 (hall e he hb), fun j oj hj hoj hno => ?_⟩
   refine Region.free_spec hom hf j oj hoj (by omega) ?_ hno
   have hjs : j < listed.size := by rw [hsz]; exact (Array.getElem?_eq_some_iff.1 hoj).1
   refine getD_in hjs ?_
   cases hx : listed.getD j false with
   | false => rfl
   | true => have := (hl j).1 hx; omega
  · exact h1 m om (by omega) (by omega) hom
theorem jQ (md : Region.Mode) (o : Oper) (i : Nat) : (∀ e ∈ o.after, Region.binds md e = true → e.on ≠ i) ∨ ∃ e ∈ o.after, Region.binds md e = true ∧ e.on = i := by
 by_cases h : ∃ e ∈ o.after, Region.binds md e = true ∧ e.on = i
 · exact .inr h
 · exact .inl fun e he hb hon => h ⟨e, he, hb, hon⟩
theorem iM (p : Nat → Prop) : ∀ n, (∃ j, j < n ∧ p j) → ∃ j, j < n ∧ p j ∧ ∀ i, i < n → p i → i ≤ j
 | 0, h => by obtain ⟨j, h, _⟩ := h; omega
 | n + 1, h => by
  by_cases hn : p n
  · exact ⟨n, by omega, hn, fun i hi _ => by omega⟩
  ·
   obtain ⟨j, hj, hp⟩ := h
   have hjn : j < n := by
    rcases Nat.lt_succ_iff_lt_or_eq.1 hj with h1 | h1
    · exact h1
    · subst h1; exact absurd hp hn
   obtain ⟨j', h1, h2, h3⟩ := iM p n ⟨j, hjn, hp⟩
   refine ⟨j', by omega, h2, fun i hi hpi => ?_⟩
   rcases Nat.lt_succ_iff_lt_or_eq.1 hi with h4 | h4
   · exact h3 i h4 hpi
   · subst h4; exact absurd hpi hn
theorem gq (a : Act) (d : Option Tmp) (v : Value) : (a.put d v).tmps.size = a.tmps.size := by cases d <;> simp [Act.put]
theorem put_defers (a : Act) (d : Option Tmp) (v : Value) : (a.put d v).defers = a.defers := by cases d <;> rfl
theorem qm {a : Act} {t : Tmp} (v : Value) (h : t < a.tmps.size) : (a.put (some t) v).tmps.getD t undef = v := by simp [Act.put, h]
theorem gX {a : Act} {d : Option Tmp} {t : Tmp} (v : Value) (h : d ≠ some t) : (a.put d v).tmps.getD t undef = a.tmps.getD t undef := by
 cases d with
 | none => rfl
 | some d =>
  have : d ≠ t := fun e => h (by rw [e])
  simp [Act.put, Array.getElem?_setIfInBounds_ne this]
def eF (ops : Array Oper) (vs : Nat → Value) (a0 : Act) : Nat → Act
 | 0 => a0
 | n + 1 => (eF ops vs a0 n).put (aV ops n) (vs n)
theorem fH (vs : Nat → Value) (a0 : Act) : ∀ n, (eF ops vs a0 n).tmps.size = a0.tmps.size
 | 0 => rfl
 | n + 1 => by rw [eF, gq]; exact fH vs a0 n
theorem iF (vs : Nat → Value) (a0 : Act) : ∀ n, (eF ops vs a0 n).defers = a0.defers
 | 0 => rfl
 | n + 1 => by rw [eF, put_defers]; exact iF vs a0 n
theorem jE (vs : Nat → Value) (a0 : Act) (t : Tmp) : ∀ n, (∀ j, j < n → aV ops j ≠ some t) → (eF ops vs a0 n).tmps.getD t undef = a0.tmps.getD t undef
 | 0, _ => rfl
 | n + 1, h => by rw [eF, gX _ (h n (by omega))]; exact jE vs a0 t n fun j hj => h j (by omega)
theorem jF (vs : Nat → Value) (a0 : Act) (t : Tmp) (ht : t < a0.tmps.size) (j : Nat) : ∀ n, j < n → aV ops j = some t → (∀ i, i < n → aV ops i = some t → i ≤ j) →
  (eF ops vs a0 n).tmps.getD t undef = vs j
 | 0, h, _, _ => by omega
 | n + 1, h, hd, hmax => by
  rw [eF]
  by_cases hjn : j = n
  ·
   subst hjn
   rw [hd, qm _ (by rw [fH]; exact ht)]
  ·
   have hn : aV ops n ≠ some t := fun e => by have := hmax n (by omega) e; omega
   rw [gX _ hn]
   exact jF vs a0 t ht j n (by omega) hd fun i hi => hmax i (by omega)
structure Inv (md : Region.Mode) (ops : Array Oper) (a0 : Act) (C : World → Prop) (V : Nat → VP) (n : Nat) (listed : Array Bool) (vs : Nat → Value) (a : Act) (w : World) : Prop where
 head : HeadInv md ops n listed
 cls : C w
 val : ∀ j, listed.getD j false = true → V j (vs j) w
 defers : a.defers = a0.defers
 size : a.tmps.size = a0.tmps.size
 slot : ∀ t, t < a0.tmps.size → ∀ j, listed.getD j false = true → aV ops j = some t → (∀ i, listed.getD i false = true → aV ops i = some t → i ≤ j) → a.tmps.getD t undef = vs j
 slot0 : ∀ t, (∀ j, listed.getD j false = true → aV ops j ≠ some t) → a.tmps.getD t undef = a0.tmps.getD t undef
structure kP (md : Region.Mode) (ops : Array Oper) (n : Nat) : Prop where
 le : n ≤ ops.size
 before : ∀ m om, m < n → ops[m]? = some om → ∀ e ∈ om.after, Region.binds md e = true → e.on < m
 free : ∀ m om, m < n → ops[m]? = some om → ∀ j oj, m < j → ops[j]? = some oj → (∀ e ∈ oj.after, Region.binds md e = true → e.on ≠ m) → om.apart ops oj = true
 waits : ∀ listed, HeadInv md ops n listed → ∀ i, i < n → listed.getD i true = false → ∀ t, n ≤ t → t ∉ Region.ready md ops listed
 tail : ∃ L : Array Bool, L.size = ops.size ∧ (∀ x, L.getD x false = true ↔ x < n) ∧ Region.seqB md ops (ops.size - n) n L = true
 nosel : Region.noSelect ops = true
def monoB (ops : Array Oper) (n N : Nat) : Bool :=
 Region.noSelect ops && decide (n ≤ ops.size) && (decide (n = ops.size) || (Region.sinkB .any ops n && Region.chainB .any ops n)) && Region.lexHead .any ops (ops.size - n) n 0 (Array.replicate ops.size false) &&
  (ops.all fun o => match o.dst with | some d => decide (d < N) | none => true)
theorem fJ {n N : Nat} (h : monoB ops n N = true) : kP .any ops n := by
 simp only [monoB, Bool.and_eq_true, decide_eq_true_eq, Bool.or_eq_true] at h
 obtain ⟨⟨⟨⟨hsel, hle⟩, hsc⟩, hlex⟩, _⟩ := h
 obtain ⟨h1, L, h2, h3, h4⟩ := mF (md := .any) (ops := ops) n 0 _ hlex (by simp) (by omega) (fun x => by rw [getD_replicate_false]; simp)
 refine ⟨hle, fun m om hm ho => (h1 m om (by omega) (by omega) ho).1, fun m om hm ho => (h1 m om (by omega) (by omega) ho).2, ?_, ⟨L, h2, by simpa using h3, by simpa using h4⟩, hsel⟩
 intro listed inv i hi hun t ht hr
 rcases hsc with hsc | ⟨hs, hc⟩
 ·
  obtain ⟨_, ot, hot, _⟩ := mem_ready.1 hr
  have := (Array.getElem?_eq_some_iff.1 hot).1
  omega
 ·
  rcases Nat.lt_or_ge n ops.size with hn | hn
  · exact tail_waits hs hc hn inv _ i rfl hi hun t ht hr
  ·
   obtain ⟨_, ot, hot, _⟩ := mem_ready.1 hr
   have := (Array.getElem?_eq_some_iff.1 hot).1
   omega
theorem ql {n N : Nat} (h : monoB ops n N = true) (j t : Nat) (hd : aV ops j = some t) : t < N := by
 simp only [monoB, Bool.and_eq_true] at h
 have h5 := h.2
 unfold aV at hd
 cases ho : ops[j]? with
 | none => simp [ho] at hd
 | some o =>
  simp only [ho, Option.bind_some] at hd
  have := Array.all_eq_true_iff_forall_mem.1 h5 o (Array.mem_of_getElem? ho)
  simp only [hd, decide_eq_true_eq] at this
  exact this
section
variable {n : Nat} {a0 : Act} {V : Nat → VP} {listed : Array Bool} {vs : Nat → Value} {a : Act} {w : World}
theorem Inv.pre (F : kP .any ops n) (I : Inv .any ops a0 C V n listed vs a w) (hrange : ∀ j t, aV ops j = some t → t < a0.tmps.size) {i : Nat} {oi : Oper} (hi : i ∈ Region.ready .any ops listed) (hin : i < n) (ho : ops[i]? = some oi) :
  ∀ t ∈ oi.looksAt ops, phi (fun t => eqV (a0.tmps.getD t undef)) ((List.range i).reverse.map fun j => ((ops[j]?).bind (·.dst), V j)) t (a.tmps.getD t undef) w := by
 intro t ht
 obtain ⟨hun, o', ho', hall⟩ := mem_ready.1 hi
 have : o' = oi := Option.some.inj (ho'.symm.trans ho)
 subst this
 have hbefore : ∀ j, j < i → aV ops j = some t → listed.getD j false = true := by
  intro j hj hd
  obtain ⟨oj, hoj, hdj⟩ : ∃ oj, ops[j]? = some oj ∧ oj.dst = some t := by
   unfold aV at hd
   cases h : ops[j]? with
   | none => simp [h] at hd
   | some oj => exact ⟨oj, rfl, by simpa [h] using hd⟩
  rcases jQ .any o' j with hw | ⟨e, he, hb, hon⟩
  ·
   have hap := F.free j oj (by omega) hoj i o' hj ho hw
   exact absurd ht ((Oper.apart_spec hap).1 t hdj)
  ·
   rw [← hon]
   exact hall e he hb
 have hbehind : ∀ j, i < j → aV ops j = some t → listed.getD j false = true → False := by
  intro j hj hd hl
  obtain ⟨oj, hoj, hdj⟩ : ∃ oj, ops[j]? = some oj ∧ oj.dst = some t := by
   unfold aV at hd
   cases h : ops[j]? with
   | none => simp [h] at hd
   | some oj => exact ⟨oj, rfl, by simpa [h] using hd⟩
  rcases jQ .any oj i with hw | ⟨e, he, hb, hon⟩
  ·
   have hap := F.free i o' hin ho j oj hj hoj hw
   exact (Oper.apart_spec hap).2.2 t hdj ht
  ·
   have := I.head.closed j oj hoj hl e he hb
   rw [hon, getD_both hun] at this
   cases this
 have hself : listed.getD i false = false := getD_both hun
 refine Dt t _ w i (fun j hj hd hmax => ?_) (fun hno => ?_)
 ·
  have hl := hbefore j hj hd
  rw [I.slot t (hrange j t hd) j hl hd fun i' hl' hd' => ?_]
  · exact I.val j hl
  ·
   rcases Nat.lt_trichotomy i' i with h | h | h
   ·
    rcases Nat.lt_or_ge j i' with h2 | h2
    · exact absurd hd' (hmax i' h2 h)
    · exact h2
   · subst h; rw [hself] at hl'; cases hl'
   · exact (hbehind i' h hd' hl').elim
 ·
  show a.tmps.getD t undef = a0.tmps.getD t undef
  refine I.slot0 t fun j hl hd => ?_
  rcases Nat.lt_trichotomy j i with h | h | h
  · exact hno j h hd
  · subst h; rw [hself] at hl; cases hl
  · exact hbehind j h hd hl
theorem Inv.step (F : kP .any ops n) (hst : ∀ k, k < n → Stable (V k)) (hC : ∀ w w', Gr w w' → C w → C w') (I : Inv .any ops a0 C V n listed vs a w)
  {i : Nat} {oi : Oper} (hi : i ∈ Region.ready .any ops listed) (hin : i < n) (ho : ops[i]? = some oi) {v : Value} {w' : World} (hg : Gr w w') (hv : V i v w') :
  Inv .any ops a0 C V n (listed.setIfInBounds i true) (fun j => if j = i then v else vs j) (a.put oi.dst v) w' := by
 obtain ⟨hun, o', ho', hall⟩ := mem_ready.1 hi
 have : o' = oi := Option.some.inj (ho'.symm.trans ho)
 subst this
 have hself : listed.getD i false = false := getD_both hun
 have hsz : i < listed.size := by rw [I.head.size]; exact (Array.getElem?_eq_some_iff.1 ho).1
 have hiff : ∀ j, (listed.setIfInBounds i true).getD j false = true ↔ (j = i ∨ listed.getD j false = true) := by
  intro j
  by_cases hij : i = j
  ·
   subst hij
   simp [hsz]
  ·
   rw [getD_set_ne false hij]
   constructor
   · exact .inr
   ·
    rintro (h | h)
    · exact absurd h.symm hij
    · exact h
 have hdi : aV ops i = o'.dst := by simp [aV, ho]
 have htail : ∀ j, listed.getD j false = true → j < n := by
  intro j hl
  rcases Nat.lt_or_ge j n with h | h
  · exact h
  ·
   have hjs : j < listed.size := by
    rcases Nat.lt_or_ge j listed.size with h' | h'
    · exact h'
    · simp [Array.getElem?_eq_none h'] at hl
   have := I.head.tail j h (by rw [← I.head.size]; exact hjs)
   rw [getD_both this] at hl
   cases hl
 have hsame : ∀ j t, i < j → listed.getD j false = true → aV ops j = some t → aV ops i ≠ some t := by
  intro j t hj hl hd hd'
  obtain ⟨oj, hoj, hdj⟩ : ∃ oj, ops[j]? = some oj ∧ oj.dst = some t := by
   unfold aV at hd
   cases h : ops[j]? with
   | none => simp [h] at hd
   | some oj => exact ⟨oj, rfl, by simpa [h] using hd⟩
  rcases jQ .any oj i with hw | ⟨e, he, hb, hon⟩
  ·
   have hap := F.free i o' hin ho j oj hj hoj hw
   exact (Oper.apart_spec hap).2.1 t (hdi.symm.trans hd') hdj
  ·
   have := I.head.closed j oj hoj hl e he hb
   rw [hon, hself] at this
   cases this
 refine ⟨I.head.set hi hin, hC _ _ hg I.cls, fun j hl => ?_, (put_defers _ _ _).trans I.defers, (gq _ _ _).trans I.size, fun t ht j hl hd hmax => ?_, fun t hno => ?_⟩
 ·
  rcases (hiff j).1 hl with h | h
  · subst h; simp only [if_true]; exact hv
  ·
   by_cases hji : j = i
   · subst hji; simp only [if_true]; exact hv
   ·
    simp only [if_neg hji]
    exact hst j (htail j h) _ _ _ hg (I.val j h)
 ·
  by_cases hdt : aV ops i = some t
  ·
   have hij : j = i := by
    have h1 := hmax i ((hiff i).2 (.inl rfl)) hdt
    rcases Nat.lt_or_ge i j with h2 | h2
    ·
     rcases (hiff j).1 hl with h3 | h3
     · exact h3
     · exact absurd hdt (hsame j t h2 h3 hd)
    · omega
   subst hij
   rw [← hdi, hdt, qm _ (by rw [I.size]; exact ht)]
   simp
  ·
   have hji : j ≠ i := fun e => hdt (e ▸ hd)
   rw [gX _ (by rw [← hdi]; exact hdt)]
   simp only [if_neg hji]
   refine I.slot t ht j ?_ hd fun i' hl' hd' => hmax i' ((hiff i').2 (.inr hl')) hd'
   exact ((hiff j).1 hl).resolve_left hji
 ·
  have hdt : aV ops i ≠ some t := hno i ((hiff i).2 (.inl rfl))
  rw [gX _ (by rw [← hdi]; exact hdt)]
  exact I.slot0 t fun j hl => hno j ((hiff j).2 (.inr hl))
theorem He {a b : Act} (hd : a.defers = b.defers) (hs : a.tmps.size = b.tmps.size) (h : ∀ t, t < b.tmps.size → a.tmps.getD t undef = b.tmps.getD t undef) : a = b := by
 obtain ⟨ta, da⟩ := a
 obtain ⟨tb, db⟩ := b
 simp only at hd hs h
 subst hd
 congr 1
 apply Array.ext hs
 intro i h1 h2
 have := h i h2
 simpa [h1, h2] using this
theorem Inv.done (I : Inv .any ops a0 C V n listed vs a w) (hall : ∀ j, j < n → listed.getD j false = true) :
  a = eF ops vs a0 n := by
 have htail : ∀ j, listed.getD j false = true → j < n := by
  intro j hl
  rcases Nat.lt_or_ge j n with h | h
  · exact h
  ·
   have hjs : j < listed.size := by
    rcases Nat.lt_or_ge j listed.size with h' | h'
    · exact h'
    · simp [Array.getElem?_eq_none h'] at hl
   have := I.head.tail j h (by rw [← I.head.size]; exact hjs)
   rw [getD_both this] at hl
   cases hl
 refine He (I.defers.trans (iF vs a0 n).symm) (I.size.trans (fH vs a0 n).symm) fun t ht => ?_
 rw [fH] at ht
 by_cases hex : ∃ j, j < n ∧ aV ops j = some t
 ·
  obtain ⟨j, hj, hd, hmax⟩ := iM (fun j => aV ops j = some t) n hex
  rw [I.slot t ht j (hall j hj) hd fun i hl hdi => hmax i (htail i hl) hdi, jF vs a0 t ht j n hj hd hmax]
 ·
  have hno : ∀ j, j < n → aV ops j ≠ some t := fun j hj hd => hex ⟨j, hj, hd⟩
  rw [I.slot0 t fun j hl => hno j (htail j hl), jE vs a0 t n hno]
end
def left (listed : Array Bool) (n : Nat) : Nat := (List.range n).countP fun j => !listed.getD j true
theorem wL {listed : Array Bool} {i : Nat} (hs : i < listed.size) (hun : listed.getD i true = false) : ∀ n, i < n → left (listed.setIfInBounds i true) n + 1 = left listed n
 | 0, h => by omega
 | n + 1, h => by
  have hstep : ∀ L : Array Bool, left L (n + 1) = left L n + if L.getD n true = false then 1 else 0 := fun L => by
   unfold left
   rw [List.range_succ, List.countP_append]
   simp only [List.countP_cons, List.countP_nil]
   cases hL : L.getD n true <;> rfl
  rw [hstep, hstep]
  by_cases hin : i = n
  ·
   subst hin
   have hz : ∀ m, m ≤ i → left (listed.setIfInBounds i true) m = left listed m := by
    intro m hm
    unfold left
    refine List.countP_congr fun j hj => ?_
    have := List.mem_range.1 hj
    rw [getD_set_ne true (by omega)]
   rw [hz i (Nat.le_refl _), if_pos hun]
   have : (listed.setIfInBounds i true).getD i true = true := by simp [hs]
   rw [if_neg (by rw [this]; decide)]
  ·
   have := wL hs hun n (by omega)
   rw [getD_set_ne true hin]
   omega
theorem sF {listed : Array Bool} {n : Nat} (h : left listed n = 0) (hs : n ≤ listed.size) (j : Nat) (hj : j < n) : listed.getD j false = true := by
 unfold left at h
 rw [List.countP_eq_zero] at h
 have := h j (List.mem_range.2 hj)
 have hjs : j < listed.size := by omega
 simp [hjs] at this ⊢
 exact this
theorem wM {listed : Array Bool} : ∀ n, n ≤ listed.size → 0 < left listed n → ∃ j, j < n ∧ listed.getD j true = false ∧ ∀ i, i < j → listed.getD i false = true
 | 0, _, h => by simp [left] at h
 | n + 1, hs, h => by
  by_cases h0 : left listed n = 0
  ·
   refine ⟨n, by omega, ?_, fun i hi => sF h0 (by omega) i hi⟩
   unfold left at h h0
   rw [List.range_succ, List.countP_append, h0] at h
   simp only [List.countP_cons, List.countP_nil] at h
   cases hL : listed.getD n true with
   | false => rfl
   | true => rw [hL] at h; simp at h
  ·
   obtain ⟨j, h1, h2, h3⟩ := wM (listed := listed) n (by omega) (by omega)
   exact ⟨j, by omega, h2, h3⟩
def look (N : List (Tmp × VP)) (t : Tmp) : Option VP :=
 match N with
 | [] => none
 | (u, V) :: N => if u = t then some V else look N t
theorem Ob.congr {Φ Φ' : Tmp → VP} {o : Oper} {V : VP} (h : ∀ t ∈ o.looksAt ops, ∀ v w, Φ' t v w → Φ t v w) (hh : Ob P ops C Φ o V) : Ob P ops C Φ' o V :=
 fun a w hw hs => hh a w hw fun t ht => h t ht _ _ (hs t ht)
def Later (w : World) : Type := { w' : World // Gr w w' }
instance (w : World) : Nonempty (Later w) := ⟨⟨w, Gr.refl w⟩⟩
def After (w : World) : World → Prop := fun w' => ∃ x : Later w, w' = x.1
theorem After.of {w w' : World} (h : Gr w w') : After w w' := ⟨⟨w', h⟩, rfl⟩
theorem After.gr {w w' : World} (h : After w w') : Gr w w' := by obtain ⟨x, rfl⟩ := h; exact x.2
theorem bZ (w : World) (o : Obj) : Gr w (w.alloc o) := (Below.refl _ _).alloc (Nat.le_refl _) o
end
end Mono
end Go.Proofs.YtohlgnfachkmaaaGreat
