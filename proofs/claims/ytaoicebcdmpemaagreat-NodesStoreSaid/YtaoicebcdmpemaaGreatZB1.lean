/-
 Merged: lemmas of this claim.
 Conditions: none.
-/
import Derived.StillTail
import Derived.Below
import Derived.Deep.Draws
import Derived.Deep.Quiet
namespace Go.Proofs.YtaoicebcdmpemaaGreat
open Go.RowKit
namespace Mono
abbrev VP := Value → World → Prop
abbrev Gr (w w' : World) : Prop := Below w.heap.size w w'
theorem Gr.refl (w : World) : Gr w w := Below.refl _ _
theorem Gr.trans {a b c : World} (h : Gr a b) (k : Gr b c) : Gr a c := Below.trans h (Below.mono k h.size)
def Stable (V : VP) : Prop := ∀ v w w', Gr w w' → V v w → V v w'
def eqV (c : Value) : VP := fun v _ => v = c
theorem vV (c : Value) : Stable (eqV c) := fun _ _ _ _ h => h
def bJ (P : Program) (V : VP) (w : World) : Result Next → Prop
 | .ok (.value v) w' => Gr w w' ∧ V v w'
 | .ok .skip w' => Gr w w' ∧ V undef w'
 | .ok (.enter f args) w' => Gr w w' ∧ Calls P f args w' fun e w'' => ∃ v, e = .returned v ∧ Gr w' w'' ∧ V v w''
 | _ => False
def upd (Φ : Tmp → VP) (d : Option Tmp) (V : VP) : Tmp → VP := fun t => if d = some t then V else Φ t
def Ob (P : Program) (ops : Array Oper) (C : World → Prop) (Φ : Tmp → VP) (o : Oper) (V : VP) : Prop :=
 ∀ (a : Act) (w : World), C w → (∀ t ∈ o.looksAt ops, Φ t (a.tmps.getD t undef) w) →
  (Region.wanted o (yielded ops a.tmps) = true → bJ P V w ((execOp a.eval o).run P w)) ∧ (Region.wanted o (yielded ops a.tmps) = false → V undef w)
structure Fits (Φ : Tmp → VP) (a0 a : Act) (w : World) : Prop where
 size : a.tmps.size = a0.tmps.size
 defers : a.defers = a0.defers
 slot : ∀ t, t < a0.tmps.size → Φ t (a.tmps.getD t undef) w
def wpM (P : Program) (ops : Array Oper) (C : World → Prop) (R : Act → World → Prop) (a0 : Act) : List Oper → (Tmp → VP) → Prop
 | [], Φ => ∀ a w, C w → Fits Φ a0 a w → R a w
 | o :: l, Φ => ∃ V, Stable V ∧ Ob P ops C Φ o V ∧ wpM P ops C R a0 l (upd Φ o.dst V)
section
variable {P : Program} {ops : Array Oper} {C : World → Prop}
def phi (Φ0 : Tmp → VP) : List (Option Tmp × VP) → Tmp → VP
 | [] => Φ0
 | (d, V) :: acc => upd (phi Φ0 acc) d V
structure Lex (P : Program) (ops : Array Oper) (C : World → Prop) (Φ0 : Tmp → VP) (n : Nat) (V : Nat → VP) : Prop where
 stable : ∀ k, k < n → Stable (V k)
 ob : ∀ k o, k < n → ops[k]? = some o → Ob P ops C (phi Φ0 ((List.range k).reverse.map fun j => ((ops[j]?).bind (·.dst), V j))) o (V k)
theorem nZ {R : Act → World → Prop} {a0 : Act} {Φ0 : Tmp → VP} : ∀ (l : List Oper) (k : Nat) (U : Nat → VP), (∀ j, j < l.length → l[j]? = ops[k + j]?) →
  wpM P ops C R a0 l (phi Φ0 ((List.range k).reverse.map fun j => ((ops[j]?).bind (·.dst), U j))) →
  (∀ j, j < k → Stable (U j)) →
  (∀ j o, j < k → ops[j]? = some o → Ob P ops C (phi Φ0 ((List.range j).reverse.map fun j => ((ops[j]?).bind (·.dst), U j))) o (U j)) →
  ∃ V : Nat → VP, Lex P ops C Φ0 (k + l.length) V ∧ ∀ a w, C w → Fits (phi Φ0 ((List.range (k + l.length)).reverse.map fun j => ((ops[j]?).bind (·.dst), V j))) a0 a w → R a w
 | [], k, U, _, h, hs, ho => ⟨U, ⟨hs, ho⟩, fun a w hw hf => h a w hw hf⟩
 | o :: l, k, U, hl, h, hs, ho => by
  have h0 : ops[k]? = some o := by simpa using (hl 0 (by simp)).symm
  obtain ⟨V, hV, hOb, hrest⟩ := h
  let U' : Nat → VP := fun j => if j = k then V else U j
  have hU : ∀ j, j < k → U' j = U j := fun j hj => by simp only [U']; rw [if_neg (by omega)]
  have hk : U' k = V := by simp [U']
  have hmap : ∀ m, m ≤ k → ((List.range m).reverse.map fun j => ((ops[j]?).bind (·.dst), U' j)) = ((List.range m).reverse.map fun j => ((ops[j]?).bind (·.dst), U j)) := fun m hm =>
   List.map_congr_left fun j hj => by rw [hU j (by have := List.mem_range.1 (List.mem_reverse.1 hj); omega)]
  have hsucc : ((List.range (k + 1)).reverse.map fun j => ((ops[j]?).bind (·.dst), U' j)) = (o.dst, V) :: ((List.range k).reverse.map fun j => ((ops[j]?).bind (·.dst), U j)) := by
   rw [List.range_succ, List.reverse_append, List.map_append, hmap k (Nat.le_refl _)]
   simp [h0, hk]
  have := nZ (Φ0 := Φ0) (R := R) (a0 := a0) l (k + 1) U' (fun j hj => by have := hl (j + 1) (by simp; omega); simpa [Nat.add_assoc, Nat.add_comm 1 j] using this)
   (by rw [hsucc]; exact hrest)
   (fun j hj => by
    rcases Nat.lt_succ_iff_lt_or_eq.1 hj with h1 | h1
    · rw [hU j h1]; exact hs j h1
    · rw [h1, hk]; exact hV)
   (fun j o' hj hj' => by
    rw [hmap j (by omega)]
    rcases Nat.lt_succ_iff_lt_or_eq.1 hj with h1 | h1
    · rw [hU j h1]; exact ho j o' h1 hj'
    ·
     subst h1
     rw [hk]
     have : o' = o := Option.some.inj (hj'.symm.trans h0)
     subst this
     exact hOb)
  rw [show k + (o :: l).length = k + 1 + l.length by simp; omega]
  exact this
def aG (ops : Array Oper) (j : Nat) : Option Tmp := (ops[j]?).bind (·.dst)
def entries (ops : Array Oper) (V : Nat → VP) (k : Nat) : List (Option Tmp × VP) := (List.range k).map fun j => (aG ops j, V j)
theorem wY {Φ0 : Tmp → VP} {V : Nat → VP} (t : Tmp) (v : Value) (w : World) : ∀ k, (∀ j, j < k → aG ops j = some t → (∀ i, j < i → i < k → aG ops i ≠ some t) → V j v w) →
  ((∀ j, j < k → aG ops j ≠ some t) → Φ0 t v w) → phi Φ0 ((List.range k).reverse.map fun j => ((ops[j]?).bind (·.dst), V j)) t v w
 | 0, _, h0 => h0 (fun _ h => absurd h (by omega))
 | k + 1, h, h0 => by
  rw [List.range_succ, List.reverse_append, List.map_append]
  simp only [List.reverse_cons, List.reverse_nil, List.nil_append, List.map_cons, List.map_nil, List.singleton_append, phi, upd]
  by_cases hd : (ops[k]?).bind (·.dst) = some t
  ·
   rw [if_pos hd]
   exact h k (by omega) hd (fun i h1 h2 => absurd h1 (by omega))
  ·
   rw [if_neg hd]
   refine wY t v w k (fun j hj hdj hmax => h j (by omega) hdj fun i h1 h2 => ?_) (fun hno => h0 fun j hj => ?_)
   ·
    rcases Nat.lt_succ_iff_lt_or_eq.1 h2 with h3 | h3
    · exact hmax i h1 h3
    · subst h3; exact hd
   ·
    rcases Nat.lt_succ_iff_lt_or_eq.1 hj with h3 | h3
    · exact hno j h3
    · subst h3; exact hd
theorem kM {md : Region.Mode} {g : Nat} : ∀ (f k : Nat) (listed : Array Bool), Region.lexHead md ops g f k listed = true → listed.size = ops.size → k + f ≤ ops.size →
  (∀ x, listed.getD x false = true ↔ x < k) →
  (∀ m om, k ≤ m → m < k + f → ops[m]? = some om →
   (∀ e ∈ om.after, Region.binds md e = true → e.on < m) ∧
   (∀ j oj, m < j → ops[j]? = some oj → (∀ e ∈ oj.after, Region.binds md e = true → e.on ≠ m) → om.apart ops oj = true)) ∧
  (∃ L : Array Bool, L.size = ops.size ∧ (∀ x, L.getD x false = true ↔ x < k + f) ∧ Region.seqB md ops g (k + f) L = true)
 | 0, k, listed, h, hsz, _, hl => ⟨fun m om h1 h2 => absurd h1 (by omega), listed, hsz, by simpa using hl, by simpa [Region.lexHead] using h⟩
 | f + 1, k, listed, h, hsz, hkf, hl => by
  simp only [Region.lexHead, Bool.and_eq_true] at h
  obtain ⟨⟨hr, hf⟩, hB⟩ := h
  have hr' : k ∈ Region.ready md ops listed := by simpa using hr
  have hl' : ∀ x, (listed.setIfInBounds k true).getD x false = true ↔ x < k + 1 := by
   intro x
   by_cases hx : k = x
   ·
    subst hx
    have hk : k < listed.size := by omega
    simp [hk]
   ·
    rw [getD_set_ne false hx, hl x]
    omega
  obtain ⟨h1, L, h2, h3, h4⟩ := kM f (k + 1) _ hB (by simpa using hsz) (by omega) hl'
  refine ⟨fun m om hm1 hm2 hom => ?_, L, h2, by rw [show k + (f + 1) = k + 1 + f by omega]; exact h3, by rw [show k + (f + 1) = k + 1 + f by omega]; exact h4⟩
  by_cases hmk : m = k
  ·
   subst hmk
   obtain ⟨hun, o', ho', hall⟩ := mem_ready.1 hr'
   have : o' = om := Option.some.inj (ho'.symm.trans hom)
   subst this
   refine ⟨fun e he hb => (hl _).1 (hall e he hb), fun j oj hj hoj hno => ?_⟩
   refine Region.free_spec hom hf j oj hoj (by omega) ?_ hno
   have hjs : j < listed.size := by rw [hsz]; exact (Array.getElem?_eq_some_iff.1 hoj).1
   refine getD_in hjs ?_
   cases hx : listed.getD j false with
   | false => rfl
   | true => have := (hl j).1 hx; omega
  · exact h1 m om (by omega) (by omega) hom
theorem iP (md : Region.Mode) (o : Oper) (i : Nat) : (∀ e ∈ o.after, Region.binds md e = true → e.on ≠ i) ∨ ∃ e ∈ o.after, Region.binds md e = true ∧ e.on = i := by
 by_cases h : ∃ e ∈ o.after, Region.binds md e = true ∧ e.on = i
 · exact .inr h
 · exact .inl fun e he hb hon => h ⟨e, he, hb, hon⟩
theorem fV (p : Nat → Prop) : ∀ n, (∃ j, j < n ∧ p j) → ∃ j, j < n ∧ p j ∧ ∀ i, i < n → p i → i ≤ j
 | 0, h => by obtain ⟨j, h, _⟩ := h; omega
 | n + 1, h => by
  by_cases hn : p n
  · exact ⟨n, by omega, hn, fun i hi _ => by omega⟩
  ·
   obtain ⟨j, hj, hp⟩ := h
   have hjn : j < n := by
    rcases Nat.lt_succ_iff_lt_or_eq.1 hj with h1 | h1
    · exact h1
    · subst h1; exact absurd hp hn
   obtain ⟨j', h1, h2, h3⟩ := fV p n ⟨j, hjn, hp⟩
   refine ⟨j', by omega, h2, fun i hi hpi => ?_⟩
   rcases Nat.lt_succ_iff_lt_or_eq.1 hi with h4 | h4
   · exact h3 i h4 hpi
   · subst h4; exact absurd hpi hn
theorem bH (a : Act) (d : Option Tmp) (v : Value) : (a.put d v).tmps.size = a.tmps.size := by cases d <;> simp [Act.put]
theorem put_defers (a : Act) (d : Option Tmp) (v : Value) : (a.put d v).defers = a.defers := by cases d <;> rfl
theorem jf {a : Act} {t : Tmp} (v : Value) (h : t < a.tmps.size) : (a.put (some t) v).tmps.getD t undef = v := by simp [Act.put, h]
theorem dI {a : Act} {d : Option Tmp} {t : Tmp} (v : Value) (h : d ≠ some t) : (a.put d v).tmps.getD t undef = a.tmps.getD t undef := by
 cases d with
 | none => rfl
 | some d =>
  have : d ≠ t := fun e => h (by rw [e])
  simp [Act.put, Array.getElem?_setIfInBounds_ne this]
def bT (ops : Array Oper) (vs : Nat → Value) (a0 : Act) : Nat → Act
 | 0 => a0
 | n + 1 => (bT ops vs a0 n).put (aG ops n) (vs n)
theorem dB (vs : Nat → Value) (a0 : Act) : ∀ n, (bT ops vs a0 n).tmps.size = a0.tmps.size
 | 0 => rfl
 | n + 1 => by rw [bT, bH]; exact dB vs a0 n
theorem dP (vs : Nat → Value) (a0 : Act) : ∀ n, (bT ops vs a0 n).defers = a0.defers
 | 0 => rfl
 | n + 1 => by rw [bT, put_defers]; exact dP vs a0 n
theorem fA (vs : Nat → Value) (a0 : Act) (t : Tmp) : ∀ n, (∀ j, j < n → aG ops j ≠ some t) → (bT ops vs a0 n).tmps.getD t undef = a0.tmps.getD t undef
 | 0, _ => rfl
 | n + 1, h => by rw [bT, dI _ (h n (by omega))]; exact fA vs a0 t n fun j hj => h j (by omega)
theorem fB (vs : Nat → Value) (a0 : Act) (t : Tmp) (ht : t < a0.tmps.size) (j : Nat) : ∀ n, j < n → aG ops j = some t → (∀ i, i < n → aG ops i = some t → i ≤ j) →
  (bT ops vs a0 n).tmps.getD t undef = vs j
 | 0, h, _, _ => by omega
 | n + 1, h, hd, hmax => by
  rw [bT]
  by_cases hjn : j = n
  ·
   subst hjn
   rw [hd, jf _ (by rw [dB]; exact ht)]
  ·
   have hn : aG ops n ≠ some t := fun e => by have := hmax n (by omega) e; omega
   rw [dI _ hn]
   exact fB vs a0 t ht j n (by omega) hd fun i hi => hmax i (by omega)
theorem su {a0 : Act} {V : Nat → VP} {w : World} (vs : Nat → Value) (n : Nat) (hv : ∀ j, j < n → V j (vs j) w) :
  Fits (phi (fun t => eqV (a0.tmps.getD t undef)) ((List.range n).reverse.map fun j => ((ops[j]?).bind (·.dst), V j))) a0 (bT ops vs a0 n) w := by
 refine ⟨dB vs a0 n, dP vs a0 n, fun t ht => wY t _ w n (fun j hj hd hmax => ?_) (fun hno => ?_)⟩
 ·
  rw [fB vs a0 t ht j n hj hd fun i hi hdi => ?_]
  · exact hv j hj
  ·
   rcases Nat.lt_or_ge j i with h | h
   · exact absurd hdi (hmax i h hi)
   · exact h
 · exact fA vs a0 t n hno
structure Inv (md : Region.Mode) (ops : Array Oper) (a0 : Act) (C : World → Prop) (V : Nat → VP) (n : Nat) (listed : Array Bool) (vs : Nat → Value) (a : Act) (w : World) : Prop where
 head : HeadInv md ops n listed
 cls : C w
 val : ∀ j, listed.getD j false = true → V j (vs j) w
 defers : a.defers = a0.defers
 size : a.tmps.size = a0.tmps.size
 slot : ∀ t, t < a0.tmps.size → ∀ j, listed.getD j false = true → aG ops j = some t → (∀ i, listed.getD i false = true → aG ops i = some t → i ≤ j) → a.tmps.getD t undef = vs j
 slot0 : ∀ t, (∀ j, listed.getD j false = true → aG ops j ≠ some t) → a.tmps.getD t undef = a0.tmps.getD t undef
structure gY (md : Region.Mode) (ops : Array Oper) (n : Nat) : Prop where
 le : n ≤ ops.size
 before : ∀ m om, m < n → ops[m]? = some om → ∀ e ∈ om.after, Region.binds md e = true → e.on < m
 free : ∀ m om, m < n → ops[m]? = some om → ∀ j oj, m < j → ops[j]? = some oj → (∀ e ∈ oj.after, Region.binds md e = true → e.on ≠ m) → om.apart ops oj = true
 waits : ∀ listed, HeadInv md ops n listed → ∀ i, i < n → listed.getD i true = false → ∀ t, n ≤ t → t ∉ Region.ready md ops listed
 tail : ∃ L : Array Bool, L.size = ops.size ∧ (∀ x, L.getD x false = true ↔ x < n) ∧ Region.seqB md ops (ops.size - n) n L = true
 nosel : Region.noSelect ops = true
def monoB (ops : Array Oper) (n N : Nat) : Bool :=
 Region.noSelect ops && decide (n ≤ ops.size) && (decide (n = ops.size) || (Region.sinkB .any ops n && Region.chainB .any ops n)) && Region.lexHead .any ops (ops.size - n) n 0 (Array.replicate ops.size false) &&
  (ops.all fun o => match o.dst with | some d => decide (d < N) | none => true)
theorem dQ {n N : Nat} (h : monoB ops n N = true) : gY .any ops n := by
 simp only [monoB, Bool.and_eq_true, decide_eq_true_eq, Bool.or_eq_true] at h
 obtain ⟨⟨⟨⟨hsel, hle⟩, hsc⟩, hlex⟩, _⟩ := h
 obtain ⟨h1, L, h2, h3, h4⟩ := kM (md := .any) (ops := ops) n 0 _ hlex (by simp) (by omega) (fun x => by rw [getD_replicate_false]; simp)
 refine ⟨hle, fun m om hm ho => (h1 m om (by omega) (by omega) ho).1, fun m om hm ho => (h1 m om (by omega) (by omega) ho).2, ?_, ⟨L, h2, by simpa using h3, by simpa using h4⟩, hsel⟩
 intro listed inv i hi hun t ht hr
 rcases hsc with hsc | ⟨hs, hc⟩
 ·
  obtain ⟨_, ot, hot, _⟩ := mem_ready.1 hr
  have := (Array.getElem?_eq_some_iff.1 hot).1
  omega
 ·
  rcases Nat.lt_or_ge n ops.size with hn | hn
  · exact tail_waits hs hc hn inv _ i rfl hi hun t ht hr
  ·
   obtain ⟨_, ot, hot, _⟩ := mem_ready.1 hr
   have := (Array.getElem?_eq_some_iff.1 hot).1
   omega
theorem je {n N : Nat} (h : monoB ops n N = true) (j t : Nat) (hd : aG ops j = some t) : t < N := by
 simp only [monoB, Bool.and_eq_true] at h
 have h5 := h.2
 unfold aG at hd
 cases ho : ops[j]? with
 | none => simp [ho] at hd
 | some o =>
  simp only [ho, Option.bind_some] at hd
  have := Array.all_eq_true_iff_forall_mem.1 h5 o (Array.mem_of_getElem? ho)
  simp only [hd, decide_eq_true_eq] at this
  exact this
section
variable {n : Nat} {a0 : Act} {V : Nat → VP} {listed : Array Bool} {vs : Nat → Value} {a : Act} {w : World}
theorem Inv.pre (F : gY .any ops n) (I : Inv .any ops a0 C V n listed vs a w) (hrange : ∀ j t, aG ops j = some t → t < a0.tmps.size) {i : Nat} {oi : Oper} (hi : i ∈ Region.ready .any ops listed) (hin : i < n) (ho : ops[i]? = some oi) :
  ∀ t ∈ oi.looksAt ops, phi (fun t => eqV (a0.tmps.getD t undef)) ((List.range i).reverse.map fun j => ((ops[j]?).bind (·.dst), V j)) t (a.tmps.getD t undef) w := by
 intro t ht
 obtain ⟨hun, o', ho', hall⟩ := mem_ready.1 hi
 have : o' = oi := Option.some.inj (ho'.symm.trans ho)
 subst this
 have hbefore : ∀ j, j < i → aG ops j = some t → listed.getD j false = true := by
  intro j hj hd
  obtain ⟨oj, hoj, hdj⟩ : ∃ oj, ops[j]? = some oj ∧ oj.dst = some t := by
   unfold aG at hd
   cases h : ops[j]? with
   | none => simp [h] at hd
   | some oj => exact ⟨oj, rfl, by simpa [h] using hd⟩
  rcases iP .any o' j with hw | ⟨e, he, hb, hon⟩
  ·
   have hap := F.free j oj (by omega) hoj i o' hj ho hw
   exact absurd ht ((Oper.apart_spec hap).1 t hdj)
  ·
   rw [← hon]
   exact hall e he hb
 have hbehind : ∀ j, i < j → aG ops j = some t → listed.getD j false = true → False := by
  intro j hj hd hl
  obtain ⟨oj, hoj, hdj⟩ : ∃ oj, ops[j]? = some oj ∧ oj.dst = some t := by
   unfold aG at hd
   cases h : ops[j]? with
   | none => simp [h] at hd
   | some oj => exact ⟨oj, rfl, by simpa [h] using hd⟩
  rcases iP .any oj i with hw | ⟨e, he, hb, hon⟩
  ·
   have hap := F.free i o' hin ho j oj hj hoj hw
   exact (Oper.apart_spec hap).2.2 t hdj ht
  ·
   have := I.head.closed j oj hoj hl e he hb
   rw [hon, getD_both hun] at this
   cases this
 have hself : listed.getD i false = false := getD_both hun
 refine wY t _ w i (fun j hj hd hmax => ?_) (fun hno => ?_)
 ·
  have hl := hbefore j hj hd
  rw [I.slot t (hrange j t hd) j hl hd fun i' hl' hd' => ?_]
  · exact I.val j hl
  ·
   rcases Nat.lt_trichotomy i' i with h | h | h
   ·
    rcases Nat.lt_or_ge j i' with h2 | h2
    · exact absurd hd' (hmax i' h2 h)
    · exact h2
   · subst h; rw [hself] at hl'; cases hl'
   · exact (hbehind i' h hd' hl').elim
 ·
  show a.tmps.getD t undef = a0.tmps.getD t undef
  refine I.slot0 t fun j hl hd => ?_
  rcases Nat.lt_trichotomy j i with h | h | h
  · exact hno j h hd
  · subst h; rw [hself] at hl; cases hl
  · exact hbehind j h hd hl
theorem Inv.step (F : gY .any ops n) (hst : ∀ k, k < n → Stable (V k)) (hC : ∀ w w', Gr w w' → C w → C w') (I : Inv .any ops a0 C V n listed vs a w)
  {i : Nat} {oi : Oper} (hi : i ∈ Region.ready .any ops listed) (hin : i < n) (ho : ops[i]? = some oi) {v : Value} {w' : World} (hg : Gr w w') (hv : V i v w') :
  Inv .any ops a0 C V n (listed.setIfInBounds i true) (fun j => if j = i then v else vs j) (a.put oi.dst v) w' := by
 obtain ⟨hun, o', ho', hall⟩ := mem_ready.1 hi
 have : o' = oi := Option.some.inj (ho'.symm.trans ho)
 subst this
 have hself : listed.getD i false = false := getD_both hun
 have hsz : i < listed.size := by rw [I.head.size]; exact (Array.getElem?_eq_some_iff.1 ho).1
 have hiff : ∀ j, (listed.setIfInBounds i true).getD j false = true ↔ (j = i ∨ listed.getD j false = true) := by
  intro j
  by_cases hij : i = j
  ·
   subst hij
   simp [hsz]
  ·
   rw [getD_set_ne false hij]
   constructor
   · exact .inr
   ·
    rintro (h | h)
    · exact absurd h.symm hij
    · exact h
 have hdi : aG ops i = o'.dst := by simp [aG, ho]
 have htail : ∀ j, listed.getD j false = true → j < n := by
  intro j hl
  rcases Nat.lt_or_ge j n with h | h
  · exact h
  ·
   have hjs : j < listed.size := by
    rcases Nat.lt_or_ge j listed.size with h' | h'
    · exact h'
    · simp [Array.getElem?_eq_none h'] at hl
   have := I.head.tail j h (by rw [← I.head.size]; exact hjs)
   rw [getD_both this] at hl
   cases hl
 have hsame : ∀ j t, i < j → listed.getD j false = true → aG ops j = some t → aG ops i ≠ some t := by
  intro j t hj hl hd hd'
  obtain ⟨oj, hoj, hdj⟩ : ∃ oj, ops[j]? = some oj ∧ oj.dst = some t := by
   unfold aG at hd
   cases h : ops[j]? with
   | none => simp [h] at hd
   | some oj => exact ⟨oj, rfl, by simpa [h] using hd⟩
  rcases iP .any oj i with hw | ⟨e, he, hb, hon⟩
  ·
   have hap := F.free i o' hin ho j oj hj hoj hw
   exact (Oper.apart_spec hap).2.1 t (hdi.symm.trans hd') hdj
  ·
   have := I.head.closed j oj hoj hl e he hb
   rw [hon, hself] at this
   cases this
 refine ⟨I.head.set hi hin, hC _ _ hg I.cls, fun j hl => ?_, (put_defers _ _ _).trans I.defers, (bH _ _ _).trans I.size, fun t ht j hl hd hmax => ?_, fun t hno => ?_⟩
 ·
  rcases (hiff j).1 hl with h | h
  · subst h; simp only [if_true]; exact hv
  ·
   by_cases hji : j = i
   · subst hji; simp only [if_true]; exact hv
   ·
    simp only [if_neg hji]
    exact hst j (htail j h) _ _ _ hg (I.val j h)
 ·
  by_cases hdt : aG ops i = some t
  ·
   have hij : j = i := by
    have h1 := hmax i ((hiff i).2 (.inl rfl)) hdt
    rcases Nat.lt_or_ge i j with h2 | h2
    ·
     rcases (hiff j).1 hl with h3 | h3
     · exact h3
     · exact absurd hdt (hsame j t h2 h3 hd)
    · omega
   subst hij
   rw [← hdi, hdt, jf _ (by rw [I.size]; exact ht)]
   simp
  ·
   have hji : j ≠ i := fun e => hdt (e ▸ hd)
   rw [dI _ (by rw [← hdi]; exact hdt)]
   simp only [if_neg hji]
   refine I.slot t ht j ?_ hd fun i' hl' hd' => hmax i' ((hiff i').2 (.inr hl')) hd'
   exact ((hiff j).1 hl).resolve_left hji
 ·
  have hdt : aG ops i ≠ some t := hno i ((hiff i).2 (.inl rfl))
  rw [dI _ (by rw [← hdi]; exact hdt)]
  exact I.slot0 t fun j hl => hno j ((hiff j).2 (.inr hl))
theorem yP {a b : Act} (hd : a.defers = b.defers) (hs : a.tmps.size = b.tmps.size) (h : ∀ t, t < b.tmps.size → a.tmps.getD t undef = b.tmps.getD t undef) : a = b := by
 obtain ⟨ta, da⟩ := a
 obtain ⟨tb, db⟩ := b
 simp only at hd hs h
 subst hd
 congr 1
 apply Array.ext hs
 intro i h1 h2
 have := h i h2
 simpa [h1, h2] using this
theorem Inv.done (I : Inv .any ops a0 C V n listed vs a w) (hall : ∀ j, j < n → listed.getD j false = true) :
  a = bT ops vs a0 n := by
 have htail : ∀ j, listed.getD j false = true → j < n := by
  intro j hl
  rcases Nat.lt_or_ge j n with h | h
  · exact h
  ·
   have hjs : j < listed.size := by
    rcases Nat.lt_or_ge j listed.size with h' | h'
    · exact h'
    · simp [Array.getElem?_eq_none h'] at hl
   have := I.head.tail j h (by rw [← I.head.size]; exact hjs)
   rw [getD_both this] at hl
   cases hl
 refine yP (I.defers.trans (dP vs a0 n).symm) (I.size.trans (dB vs a0 n).symm) fun t ht => ?_
 rw [dB] at ht
 by_cases hex : ∃ j, j < n ∧ aG ops j = some t
 ·
  obtain ⟨j, hj, hd, hmax⟩ := fV (fun j => aG ops j = some t) n hex
  rw [I.slot t ht j (hall j hj) hd fun i hl hdi => hmax i (htail i hl) hdi, fB vs a0 t ht j n hj hd hmax]
 ·
  have hno : ∀ j, j < n → aG ops j ≠ some t := fun j hj hd => hex ⟨j, hj, hd⟩
  rw [I.slot0 t fun j hl => hno j (htail j hl), fA vs a0 t n hno]
end
def left (listed : Array Bool) (n : Nat) : Nat := (List.range n).countP fun j => !listed.getD j true
theorem oh {listed : Array Bool} {i : Nat} (hs : i < listed.size) (hun : listed.getD i true = false) : ∀ n, i < n → left (listed.setIfInBounds i true) n + 1 = left listed n
 | 0, h => by omega
 | n + 1, h => by
  have hstep : ∀ L : Array Bool, left L (n + 1) = left L n + if L.getD n true = false then 1 else 0 := fun L => by
   unfold left
   rw [List.range_succ, List.countP_append]
   simp only [List.countP_cons, List.countP_nil]
   cases hL : L.getD n true <;> rfl
  rw [hstep, hstep]
  by_cases hin : i = n
  ·
   subst hin
   have hz : ∀ m, m ≤ i → left (listed.setIfInBounds i true) m = left listed m := by
    intro m hm
    unfold left
    refine List.countP_congr fun j hj => ?_
    have := List.mem_range.1 hj
    rw [getD_set_ne true (by omega)]
   rw [hz i (Nat.le_refl _), if_pos hun]
   have : (listed.setIfInBounds i true).getD i true = true := by simp [hs]
   rw [if_neg (by rw [this]; decide)]
  ·
   have := oh hs hun n (by omega)
   rw [getD_set_ne true hin]
   omega
theorem lu {listed : Array Bool} {n : Nat} (h : left listed n = 0) (hs : n ≤ listed.size) (j : Nat) (hj : j < n) : listed.getD j false = true := by
 unfold left at h
 rw [List.countP_eq_zero] at h
 have := h j (List.mem_range.2 hj)
 have hjs : j < listed.size := by omega
 simp [hjs] at this ⊢
 exact this
theorem ou {listed : Array Bool} : ∀ n, n ≤ listed.size → 0 < left listed n → ∃ j, j < n ∧ listed.getD j true = false ∧ ∀ i, i < j → listed.getD i false = true
 | 0, _, h => by simp [left] at h
 | n + 1, hs, h => by
  by_cases h0 : left listed n = 0
  ·
   refine ⟨n, by omega, ?_, fun i hi => lu h0 (by omega) i hi⟩
   unfold left at h h0
   rw [List.range_succ, List.countP_append, h0] at h
   simp only [List.countP_cons, List.countP_nil] at h
   cases hL : listed.getD n true with
   | false => rfl
   | true => rw [hL] at h; simp at h
  ·
   obtain ⟨j, h1, h2, h3⟩ := ou (listed := listed) n (by omega) (by omega)
   exact ⟨j, by omega, h2, h3⟩
theorem ru {Q : Exit → Act → World → Prop} {n : Nat} {a0 : Act} {V : Nat → VP} (F : gY .any ops n) (hC : ∀ w w', Gr w w' → C w → C w') (hrange : ∀ j t, aG ops j = some t → t < a0.tmps.size)
  (X : Lex P ops C (fun t => eqV (a0.tmps.getD t undef)) n V)
  (hR : ∀ w, C w → ∀ vs : Nat → Value, (∀ j, j < n → V j (vs j) w) → wpList P ops Q (ops.toList.drop n) (bT ops vs a0 n) w) :
  ∀ (f : Nat) (listed : Array Bool) (vs : Nat → Value) (a : Act) (w : World), left listed n = f → Inv .any ops a0 C V n listed vs a w → wpAny P .any ops Q (f + (ops.size - n)) listed a w := by
 intro f
 induction f with
 | zero =>
  intro listed vs a w hf I
  have hle := F.le
  have hall := lu hf (by rw [I.head.size]; exact hle)
  obtain ⟨L, hL1, hL2, hL3⟩ := F.tail
  have hLl : L = listed := by
   apply Array.ext (hL1.trans I.head.size.symm)
   intro i h1 h2
   have e1 : L[i] = L.getD i false := by simp [h1]
   have e2 : listed[i] = listed.getD i false := by simp [h2]
   rw [e1, e2]
   by_cases hin : i < n
   · rw [(hL2 i).2 hin, hall i hin]
   ·
    have := I.head.tail i (by omega) (by rw [← I.head.size]; exact h2)
    rw [getD_both this]
    cases hx : L.getD i false with
    | false => rfl
    | true => exact absurd ((hL2 i).1 hx) hin
  subst hLl
  rw [I.done hall]
  have := wpAny_of_seq (P := P) (md := .any) (ops := ops) (Q' := Q) (ops.toList.drop n) n L (bT ops vs a0 n) w (fun j => by simp [List.getElem?_drop]) (by simpa using hL3)
   (hR w I.cls vs fun j hj => I.val j (hall j hj))
  simpa using this
 | succ f ih =>
  intro listed vs a w hf I
  have hle := F.le
  obtain ⟨j0, hj0, hun0, hbef⟩ := ou n (by rw [I.head.size]; exact hle) (by omega : 0 < left listed n)
  rw [show f + 1 + (ops.size - n) = (f + (ops.size - n)) + 1 by omega]
  refine ⟨fun hnil => ?_, fun i hi => ?_⟩
  ·
   -- the first that is not listed is ready
   exfalso
   have hj0s : j0 < ops.size := by omega
   have hr : j0 ∈ Region.ready .any ops listed := mem_ready.2 ⟨hun0, ops[j0], by simp [hj0s], fun e he hb => hbef _ (F.before j0 ops[j0] hj0 (by simp [hj0s]) e he hb)⟩
   rw [hnil] at hr
   cases hr
  ·
   have hin : i < n := by
    rcases Nat.lt_or_ge i n with h | h
    · exact h
    · exact absurd hi (F.waits listed I.head j0 hj0 hun0 i h)
   obtain ⟨hun, oi, ho, hall⟩ := mem_ready.1 hi
   have hob := X.ob i oi hin ho a w I.cls (I.pre F hrange hi hin ho)
   have hsz : i < listed.size := by rw [I.head.size]; omega
   have hnext : ∀ v w', Gr w w' → V i v w' → wpAny P .any ops Q (f + (ops.size - n)) (listed.setIfInBounds i true) (a.put oi.dst v) w' := fun v w' hg hv =>
    ih _ _ _ _ (by have := oh hsz hun n hin; omega) (I.step F X.stable hC hi hin ho hg hv)
   unfold wpOp
   simp only [ho]
   cases hw : Region.wanted oi (yielded ops a.tmps) with
   | true =>
    simp only [if_true]
    refine .inl ?_
    have h1 := hob.1 hw
    unfold Oper.wp
    generalize (execOp a.eval oi).run P w = r at *
    cases r with
    | ok x w' =>
     cases x <;> simp only [bJ] at h1 <;> simp only [Oper.upon]
     case value v => exact hnext _ _ h1.1 h1.2
     case skip => exact hnext _ _ h1.1 h1.2
     case enter g args =>
      obtain ⟨hg, hc⟩ := h1
      refine hc.mono fun e w'' ⟨v, he, hg', hv⟩ => ?_
      subst he
      exact hnext _ _ (hg.trans hg') hv
    | halt x w' => simp only [bJ] at h1
   | false =>
    simp only [Bool.false_eq_true, if_false]
    exact hnext _ _ (Gr.refl w) (hob.2 hw)
theorem mY {id : Nat} {Q : Exit → Act → World → Prop} {a : Act} {w : World} {l : List Oper} (n : Nat) (hm : P.follows .mixedOrders = true) (hB : monoB l.toArray n a.tmps.size = true)
  (hC : ∀ w w', Gr w w' → C w → C w') (h0 : C w.drew)
  (h : wpM P l.toArray C (fun a' w' => wpList P l.toArray Q (l.drop n) a' w') a (l.take n) (fun t => eqV (a.tmps.getD t undef))) : (Code.region id l.toArray true).wp P Q a w := by
 have F := dQ hB
 have hle : n ≤ l.length := by simpa using F.le
 have hln : (l.take n).length = n := by simp; omega
 obtain ⟨V, X, hfin⟩ := nZ (ops := l.toArray) (Φ0 := fun t => eqV (a.tmps.getD t undef)) (l.take n) 0 (fun _ => eqV undef) (fun j hj => by
  have : j < n := by omega
  simp [this]) (by simpa [phi] using h) (fun j hj => absurd hj (by omega)) (fun j o hj => absurd hj (by omega))
 rw [hln, Nat.zero_add] at X hfin
 refine wp_region_any hm ?_
 have hleft : left (Array.replicate l.toArray.size false) n = n := by
  unfold left
  have hle' := F.le
  have : (List.range n).countP (fun j => !(Array.replicate l.toArray.size false).getD j true) = (List.range n).countP (fun _ => true) :=
   List.countP_congr fun j hj => by
    have := List.mem_range.1 hj
    rw [getD_in (by simp; simpa using Nat.lt_of_lt_of_le this hle') (getD_replicate_false _ _)]
    simp
  rw [this]
  simp
 have := ru (Q := Q) F hC (je hB) X (fun w' hw' vs hv => by
  exact hfin _ w' hw' (su (ops := l.toArray) vs n hv)) n _ (fun _ => undef) a w.drew hleft
  ⟨⟨by simp, fun j oj _ hl => (by rw [getD_replicate_false] at hl; cases hl), fun t _ ht => getD_in (by simpa using ht) (getD_replicate_false _ _)⟩, h0,
   fun j hl => (by rw [getD_replicate_false] at hl; cases hl), rfl, rfl, fun t _ j hl => (by rw [getD_replicate_false] at hl; cases hl), fun t _ => rfl⟩
 rw [show n + (l.toArray.size - n) = l.toArray.size by have := F.le; omega] at this
 exact this
def look (N : List (Tmp × VP)) (t : Tmp) : Option VP :=
 match N with
 | [] => none
 | (u, V) :: N => if u = t then some V else look N t
def pU (a : Act) (N : List (Tmp × VP)) : Tmp → VP := fun t => (look N t).getD (eqV (a.tmps.getD t undef))
def jI (R : Act → World → Prop) : List (Tmp × VP) → Act → World → Prop
 | [], a, w => R a w
 | (t, V) :: N, a, w => ∀ v, V v w → jI R N (a.put (some t) v) w
theorem Ob.congr {Φ Φ' : Tmp → VP} {o : Oper} {V : VP} (h : ∀ t ∈ o.looksAt ops, ∀ v w, Φ' t v w → Φ t v w) (hh : Ob P ops C Φ o V) : Ob P ops C Φ' o V :=
 fun a w hw hs => hh a w hw fun t ht => h t ht _ _ (hs t ht)
theorem pX {R : Act → World → Prop} {a0 a1 : Act} (hs : a0.tmps.size = a1.tmps.size) (hd : a0.defers = a1.defers) : ∀ (l : List Oper) (Φ Φ' : Tmp → VP), (∀ t, t < a1.tmps.size → ∀ v w, Φ' t v w → Φ t v w) →
  (∀ o ∈ l, ∀ t ∈ o.looksAt ops, t < a1.tmps.size) → wpM P ops C R a0 l Φ → wpM P ops C R a1 l Φ'
 | [], _, _, h, _, hh => fun a w hw hf => hh a w hw ⟨hf.size.trans hs.symm, hf.defers.trans hd.symm, fun t ht => h t (by rw [← hs]; exact ht) _ _ (hf.slot t (by rw [← hs]; exact ht))⟩
 | o :: l, Φ, Φ', h, hl, hh => by
  obtain ⟨V, h1, h2, h3⟩ := hh
  refine ⟨V, h1, Ob.congr (fun t ht v w => h t (hl o (by simp) t ht) v w) h2, pX hs hd l _ _ (fun t ht v w => ?_) (fun o' ho' => hl o' (by simp [ho'])) h3⟩
  unfold upd
  split
  · exact id
  · exact h t ht v w
def inside (ops : Array Oper) (l : List Oper) (n : Nat) : Bool := l.all fun o => (o.looksAt ops).all (· < n) && (match o.dst with | some d => decide (d < n) | none => true)
theorem uD {o : Oper} {l : List Oper} {n : Nat} (h : inside ops (o :: l) n = true) : (∀ t ∈ o.looksAt ops, t < n) ∧ (∀ d, o.dst = some d → d < n) ∧ inside ops l n = true := by
 simp only [inside, List.all_cons, Bool.and_eq_true] at h
 refine ⟨fun t ht => by simpa using List.all_eq_true.1 h.1.1 t ht, fun d hd => ?_, h.2⟩
 have := h.1.2
 rw [hd] at this
 simpa using this
theorem rV {l : List Oper} {n : Nat} (h : inside ops l n = true) (o : Oper) (ho : o ∈ l) (t : Tmp) (ht : t ∈ o.looksAt ops) : t < n := by
 have h1 := List.all_eq_true.1 h o ho
 simp only [Bool.and_eq_true] at h1
 simpa using List.all_eq_true.1 h1.1 t ht
def okT : List Tmp → Nat → Bool
 | [], _ => true
 | t :: ts, n => decide (t < n) && !ts.contains t && okT ts n
theorem gQ {t : Tmp} : ∀ (N : List (Tmp × VP)), (N.map (·.1)).contains t = false → look N t = none
 | [], _ => rfl
 | (u, V) :: N, h => by
  simp only [List.map_cons, List.contains_cons, Bool.or_eq_false_iff] at h
  have hne : u ≠ t := fun e => by have := h.1; rw [e] at this; simp at this
  simp only [look, if_neg hne]
  exact gQ N h.2
def noEnter (op : Op) : Bool :=
 match op with
 | .call { callee := .builtin b, .. } => match b with | .len | .cap | .append | .copy => true | _ => false
 | .call _ | .go _ | .defer _ | .select .. | .send .. | .recv .. => false
 | _ => true
theorem yR (s : Sem Value) (w : World) (f : FuncId) (args : Array Value) (w' : World) : ((do pure (Next.value (← s)) : Sem Next).run P w) ≠ .ok (.enter f args) w' := by
 rw [Sem.run_bind]
 cases s.run P w with
 | ok x w1 => simp [Result.andThen_ok]
 | halt h w1 => simp [Result.andThen]
theorem yS (s : Sem Unit) (w : World) (f : FuncId) (args : Array Value) (w' : World) : ((do s; pure Next.skip : Sem Next).run P w) ≠ .ok (.enter f args) w' := by
 rw [Sem.run_bind]
 cases s.run P w with
 | ok x w1 => simp [Result.andThen_ok]
 | halt h w1 => simp [Result.andThen]
theorem iI {β : Type} (s : Sem β) (k : β → Sem Next) (hk : ∀ b w f args w', (k b).run P w ≠ .ok (.enter f args) w') (w : World) (f : FuncId) (args : Array Value) (w' : World) : (s >>= k).run P w ≠ .ok (.enter f args) w' := by
 rw [Sem.run_bind]
 cases s.run P w with
 | ok x w1 => exact hk x w1 f args w'
 | halt h w1 => simp [Result.andThen]
theorem yV (r : Result Value) (f : FuncId) (args : Array Value) (w' : World) : (r.andThen fun a w' => Result.ok (Next.value a) w') ≠ .ok (.enter f args) w' := by
 cases r with
 | ok x w1 => simp [Result.andThen_ok]
 | halt h w1 => simp [Result.andThen]
theorem rM {o : Oper} (h : noEnter o.op = true) (ρ : Operand → Value) (w : World) (f : FuncId) (args : Array Value) (w' : World) : (execOp ρ o).run P w ≠ .ok (.enter f args) w' := by
 unfold execOp
 cases ho : o.op <;> rw [ho] at h <;> simp only [noEnter, Bool.false_eq_true] at h ⊢ <;> first | exact yR _ _ _ _ _ | exact yS _ _ _ _ _ | skip
 · simp
 · simp
 ·
  rw [Sem.run_bind]
  cases (asBool (ρ _)).run P w with
  | ok x w1 => simp [Result.andThen_ok]
  | halt h w1 => simp [Result.andThen]
 ·
  rename_i x
  generalize ρ x = v
  cases v with
  | pointer a => cases a <;> simp [runtimePanic, goPanic, Sem.run_bind]
  | nilIface => simp [runtimePanic, goPanic, Sem.run_bind]
  | nilFunc => simp [runtimePanic, goPanic, Sem.run_bind]
  | func fn first captured =>
   cases fn with
   | method name =>
    dsimp only
    split
    · simp [runtimePanic, goPanic, Sem.run_bind]
    ·
     refine iI _ _ (fun p w f args w' => ?_) _ _ _ _
     refine iI _ _ (fun r w f args w' => ?_) _ _ _ _
     split
     · exact iI _ _ (fun _ w f args w' => by simp) _ _ _ _
     · simp
    · simp
   | _ => simp
  | _ => simp
 ·
  rename_i c
  obtain ⟨callee, as, ts⟩ := c
  cases callee with
  | builtin b =>
   cases b <;> simp at h <;> simp only [resolve, invoke, builtin, Sem.run_bind, Sem.run_pure, Result.andThen_ok] <;> exact yV _ _ _ _
  | _ => simp at h
def wpN (P : Program) (ops : Array Oper) (C : World → Prop) (R : Act → World → Prop) (l : List Oper) (a : Act) (N : List (Tmp × VP)) : Prop := inside ops l a.tmps.size = true → wpM P ops C R a l (pU a N)
theorem cu {R : Act → World → Prop} {a : Act} {N : List (Tmp × VP)} (hN : okT (N.map (·.1)) a.tmps.size = true) (h : ∀ w, C w → jI R N a w) : wpN P ops C R [] a N := by
 intro hin b w hw hf
 clear hin
 have h0 := h w hw
 clear h
 induction N generalizing a with
 | nil =>
  have : b = a := yP hf.defers hf.size fun t ht => hf.slot t ht
  rw [this]
  exact h0
 | cons x N ih =>
  obtain ⟨u, V⟩ := x
  simp only [List.map_cons, okT, Bool.and_eq_true, decide_eq_true_eq, Bool.not_eq_true'] at hN
  obtain ⟨⟨hu, hc⟩, hN⟩ := hN
  have h1 := h0 (b.tmps.getD u undef) (by have := hf.slot u hu; simpa [pU, look] using this)
  refine ih (a := a.put (some u) (b.tmps.getD u undef)) (by rw [bH]; exact hN) ⟨hf.size.trans (bH _ _ _).symm, hf.defers.trans (put_defers _ _ _).symm, fun t ht => ?_⟩ h1
  rw [bH] at ht
  have h2 := hf.slot t ht
  unfold pU at h2 ⊢
  by_cases hut : u = t
  ·
   subst hut
   rw [jf _ hu, gQ N hc]
   rfl
  ·
   rw [dI _ (by simpa using hut)]
   simpa [look, hut] using h2
def Il : Value → Option Bool
 | .bool b => some b
 | _ => none
theorem vP (tmps : Array Value) (j : Nat) : yielded ops tmps j = (aG ops j).bind fun d => Il (tmps.getD d undef) := by
 unfold yielded aG
 cases (ops[j]?).bind (·.dst) with
 | none => rfl
 | some d =>
  simp only [Option.bind_some]
  rcases Nat.lt_or_ge d tmps.size with h | h
  ·
   simp only [Array.getD_eq_getD_getElem?, Array.getElem?_eq_getElem h, Option.getD_some]
   cases tmps[d] <;> rfl
  ·
   simp only [Array.getD_eq_getD_getElem?, Array.getElem?_eq_none h, Option.getD_none]
   rfl
theorem iy {o : Oper} {a b : Act} (h : ∀ t ∈ o.looksAt ops, b.tmps.getD t undef = a.tmps.getD t undef) : Region.wanted o (yielded ops b.tmps) = Region.wanted o (yielded ops a.tmps) := by
 unfold Region.wanted
 cases hg : o.guard with
 | none => rfl
 | some x =>
  obtain ⟨g, want⟩ := x
  simp only [vP]
  cases hd : aG ops g with
  | none => rfl
  | some d =>
   simp only [Option.bind_some]
   rw [h d]
   unfold Oper.looksAt
   rw [hg]
   simp only [List.mem_append]
   right
   unfold aG at hd
   simp [hd]
theorem oM {o : Oper} {a b : Act} (hs : ∀ cs b, o.op ≠ .select cs b) (h : ∀ t ∈ o.looksAt ops, b.tmps.getD t undef = a.tmps.getD t undef) : execOp b.eval o = execOp a.eval o :=
 execOp_congr o hs fun x hx => by
  cases x with
  | tmp t =>
   refine h t ?_
   unfold Oper.looksAt
   refine List.mem_append.2 (.inl (List.mem_filterMap.2 ⟨.tmp t, by simpa using hx, rfl⟩))
  | _ => rfl
def kR (o : Oper) (ts : List Tmp) : Bool := match o.dst with | some d => !ts.contains d | none => true
theorem DW {o : Oper} {a : Act} {N : List (Tmp × VP)} {c : Value} (hN : kR o (N.map (·.1)) = true) (hd : ∀ d, o.dst = some d → d < a.tmps.size) (t : Tmp) (v : Value) (w : World) (h : upd (pU a N) o.dst (eqV c) t v w) : pU (a.put o.dst c) N t v w := by
 unfold upd at h
 unfold pU at *
 by_cases ht : o.dst = some t
 ·
  rw [if_pos ht] at h
  unfold kR at hN
  rw [ht] at hN ⊢
  rw [gQ N (by simpa using hN), jf _ (hd t ht)]
  exact h
 ·
  rw [if_neg ht] at h
  rw [dI _ ht]
  exact h
theorem qY {R : Act → World → Prop} {a : Act} {N : List (Tmp × VP)} {o : Oper} {l : List Oper} (c : Value) (hN : kR o (N.map (·.1)) = true) (hOb : Ob P ops C (pU a N) o (eqV c)) (hr : wpN P ops C R l (a.put o.dst c) N) : wpN P ops C R (o :: l) a N := by
 intro hin
 obtain ⟨_, h2, h3⟩ := uD hin
 refine ⟨_, vV c, hOb, ?_⟩
 exact pX (bH _ _ _) (put_defers _ _ _) l _ _ (fun t _ v w h => DW hN h2 t v w h) (fun o' ho' t ht => rV h3 o' ho' t ht) (hr (by rw [bH]; exact h3))
def stretch (ops : Array Oper) (l : List Oper) (ts : List Tmp) : Bool := l.all fun o => noEnter o.op && (o.looksAt ops).all (fun t => !ts.contains t) && kR o ts
theorem nX {o : Oper} (h : noEnter o.op = true) (cs : Array SelectCase) (b : Bool) : o.op ≠ .select cs b := fun e => by rw [e] at h; simp [noEnter] at h
theorem gq {R : Act → World → Prop} {N : List (Tmp × VP)} {l2 : List Oper} : ∀ (l1 : List Oper) (a : Act), stretch ops l1 (N.map (·.1)) = true →
  wpQuiet P ops C (fun a' => wpN P ops C R l2 a' N) l1 a → wpN P ops C R (l1 ++ l2) a N
 | [], _, _, h => h
 | o :: l1, a, hf, h => by
  simp only [stretch, List.all_cons, Bool.and_eq_true] at hf
  obtain ⟨⟨⟨h1, h2⟩, h3⟩, h4⟩ := hf
  have hsame : ∀ (b : Act) (w : World), (∀ t ∈ o.looksAt ops, pU a N t (b.tmps.getD t undef) w) → ∀ t ∈ o.looksAt ops, b.tmps.getD t undef = a.tmps.getD t undef := fun b w hb t ht => by
   have := hb t ht
   unfold pU at this
   rw [gQ N (by have := List.all_eq_true.1 h2 t ht; simpa using this)] at this
   exact this
  rw [wpQuiet] at h
  by_cases hw : Region.wanted o (yielded ops a.tmps) = true
  ·
   rw [if_pos hw] at h
   obtain ⟨v, hv, hk⟩ := h
   refine qY v h3 (fun b w hC hb => ?_) (gq l1 _ h4 hk)
   have hs := hsame b w hb
   refine ⟨fun _ => ?_, fun hnot => ?_⟩
   ·
    rw [oM (nX h1) hs]
    have h5 := hv w hC
    unfold Oper.quietAt at h5
    have h6 := rM (P := P) h1 a.eval w
    generalize (execOp a.eval o).run P w = r at h5 h6 ⊢
    cases r with
    | ok n w' =>
     cases n <;> simp only [Oper.quietUpon] at h5 <;> simp only [bJ]
     case value u => exact ⟨by rw [h5.1]; exact Gr.refl w, h5.2⟩
     case skip => exact ⟨by rw [h5.1]; exact Gr.refl w, h5.2.symm⟩
     case enter f args => exact absurd rfl (h6 f args w')
    | halt x w' => simp only [Oper.quietUpon] at h5
   ·
    rw [iy hs, hw] at hnot
    cases hnot
  ·
   have hw' : Region.wanted o (yielded ops a.tmps) = false := by simpa using hw
   rw [if_neg hw] at h
   refine qY undef h3 (fun b w _ hb => ?_) (gq l1 _ h4 h)
   have hs := hsame b w hb
   refine ⟨fun hnot => ?_, fun _ => rfl⟩
   rw [iy hs, hw'] at hnot
   cases hnot
theorem aT {R : Act → World → Prop} {N : List (Tmp × VP)} {l : List Oper} {a : Act} (k : Nat) (hf : stretch ops (l.take k) (N.map (·.1)) = true)
  (h : wpQuiet P ops C (fun a' => wpN P ops C R (l.drop k) a' N) (l.take k) a) : wpN P ops C R l a N := by
 have := gq (l2 := l.drop k) (l.take k) a hf h
 rwa [List.take_append_drop] at this
def Later (w : World) : Type := { w' : World // Gr w w' }
instance (w : World) : Nonempty (Later w) := ⟨⟨w, Gr.refl w⟩⟩
def After (w : World) : World → Prop := fun w' => ∃ x : Later w, w' = x.1
theorem After.of {w w' : World} (h : Gr w w') : After w w' := ⟨⟨w', h⟩, rfl⟩
theorem After.gr {w w' : World} (h : After w w') : Gr w w' := by obtain ⟨x, rfl⟩ := h; exact x.2
theorem Eu (w : World) : Gr w w.drew := (Below.refl _ _).drew
theorem aS {id : Nat} {Q : Exit → Act → World → Prop} {a : Act} {w : World} {l : List Oper} (n : Nat) (hm : P.follows .mixedOrders = true) (hB : monoB l.toArray n a.tmps.size = true)
  (hin : inside l.toArray (l.take n) a.tmps.size = true)
  (h : wpN P l.toArray (After w) (fun a' w' => wpList P l.toArray Q (l.drop n) a' w') (l.take n) a []) : (Code.region id l.toArray true).wp P Q a w :=
 mY n hm hB (fun _ _ hg hw => After.of (hw.gr.trans hg)) (After.of (Eu w)) (h hin)
theorem mO {R : Act → World → Prop} {a : Act} {N : List (Tmp × VP)} {o : Oper} {l : List Oper} {w0 : World} (c : Value) (hs : (match o.op with | .select .. => false | _ => true) = true)
  (hf : ((o.looksAt ops).all (fun t => !(N.map (·.1)).contains t) && kR o (N.map (·.1))) = true) (hw : Region.wanted o (yielded ops a.tmps) = true)
  (hop : ∀ x : Later w0, bJ P (eqV c) x.1 ((execOp a.eval o).run P x.1)) (hr : wpN P ops (After w0) R l (a.put o.dst c) N) : wpN P ops (After w0) R (o :: l) a N := by
 simp only [Bool.and_eq_true] at hf
 refine qY c hf.2 (fun b w hC hb => ?_) hr
 have hsame : ∀ t ∈ o.looksAt ops, b.tmps.getD t undef = a.tmps.getD t undef := fun t ht => by
  have := hb t ht
  unfold pU at this
  rw [gQ N (by have := List.all_eq_true.1 hf.1 t ht; simpa using this)] at this
  exact this
 refine ⟨fun _ => ?_, fun hnot => ?_⟩
 ·
  obtain ⟨x, rfl⟩ := hC
  rw [oM (fun cs b e => by rw [e] at hs; simp at hs) hsame]
  exact hop x
 ·
  rw [iy hsame, hw] at hnot
  cases hnot
theorem eY {V : VP} {w : World} {o : Oper} {a : Act} {f : FuncId} {args : Array Value} (hrun : (execOp a.eval o).run P w = .ok (.enter f args) w)
  (hc : Calls P f args w fun e w' => ∃ v, e = .returned v ∧ Gr w w' ∧ V v w') : bJ P V w ((execOp a.eval o).run P w) := by
 rw [hrun]
 exact ⟨Gr.refl w, hc⟩
theorem aH (w : World) (o : Obj) : Gr w (w.alloc o) := (Below.refl _ _).alloc (Nat.le_refl _) o
end
end Mono
end Go.Proofs.YtaoicebcdmpemaaGreat
