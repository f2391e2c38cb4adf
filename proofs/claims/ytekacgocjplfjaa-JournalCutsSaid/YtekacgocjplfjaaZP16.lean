/-
  Merged (wip/tools/merge.py): E13, JOfP.
  Conditions: none.
-/
import Derived.Test.YtekacgocjplfjaaZP14
import Derived.Test.YtekacgocjplfjaaZP13
/-
  The abstract machine at regions that draw their order and write, meanwhile, variables of the call's own.
  Conditions: none.
-/
namespace Go.Proofs.Ytekacgocjplfjaa
set_option linter.unusedVariables false
open Go.RowKit Mono Rlp
namespace E
def putOf : Inf → List (Obj × Obj)
  | .put p q => [(p, q)]
  | _ => []
def putsOf : List Inf → List (Obj × Obj)
  | [] => []
  | i :: l => putOf i ++ putsOf l
def EMS (N : Nat) (ops : Array Oper) (T : St → List Fr → Prop) : List Oper → List (Obj × Obj) → St → List Fr → Prop
  | [], ps, S, E => ps = [] ∧ T S E
  | o :: l, ps, S, E => ∃ (inf : Inf) (ps' : List (Obj × Obj)), ps = putOf inf ++ ps' ∧ offB N o.dst E = true ∧ ((∃ T d, inf = .new T d) → o.dst ≠ none) ∧ OkI N ops S o inf ∧ EMS N ops T l ps' (S.put o.dst inf.reg) (nextE E o.dst inf)
section
variable {N : Nat} {X : Cx N} {S S' : St} {a : Act} {w w' : World} {ops : Array Oper} {o : Oper} {Q : Exit → Act → World → Prop} {l : List Oper} {T : St → List Fr → Prop} {E : List Fr} {p q : Obj} {ps : List (Obj × Obj)}
theorem EMS.nil (h : T S E) : EMS N ops T [] [] S E := ⟨rfl, h⟩
theorem EMS.put (hg : guardOf ops S o = some true) (hd : o.dst = none) (hP : Puts ops S o p q) (k : EMS N ops T l ps S E) : EMS N ops T (o :: l) ((p, q) :: ps) S E :=
  ⟨.put p q, ps, rfl, by rw [hd]; rfl, (fun ⟨_, _, e⟩ => by cases e), ⟨hg, hd, hP⟩, by rw [hd]; exact k⟩
theorem EMS.seg {l2 : List Oper} : ∀ (l1 : List Oper) (S : St) (E : List Fr), EM N ops (fun S' E' => EMS N ops T l2 ps S' E') l1 S E → EMS N ops T (l1 ++ l2) ps S E
  | [], S, E, h => h
  | o :: l1, S, E, ⟨inf, h0, h1, h2, h3, h4⟩ => ⟨inf, ps, (by cases inf with
    | put _ _ => cases h0
    | _ => rfl), h1, h2, h3, EMS.seg l1 _ _ h4⟩
theorem EMS.cut (k : Nat) (h : EM N ops (fun S' E' => EMS N ops T (l.drop k) ps S' E') (l.take k) S E) : EMS N ops T l ps S E := by
  have := EMS.seg _ _ _ h
  rwa [List.take_append_drop] at this
theorem ems_list : ∀ (l : List Oper) (ps : List (Obj × Obj)) (S : St) (E : List Fr), EMS N ops T l ps S E → ∃ infs : List Inf, infs.length = l.length ∧
    (∀ k o i, l[k]? = some o → infs[k]? = some i → OkI N ops (stAt S l infs k) o i ∧ (∀ t, o.dst = some t → t < N ∧ (∀ x ∈ E, x.1 ≠ t) ∧ ∀ j oj T d, j < k → l[j]? = some oj → infs[j]? = some (.new T d) → oj.dst ≠ some t) ∧ ((∃ T d, i = .new T d) → o.dst ≠ none)) ∧
    T (stAt S l infs l.length) (frAt E l infs) ∧ putsOf infs = ps
  | [], ps, S, E, h => ⟨[], rfl, (fun k o i h => by simp at h), h.2, h.1.symm⟩
  | o :: l, ps, S, E, h => by
    obtain ⟨inf, ps', hps, h1, h1', h2, h3⟩ := h
    obtain ⟨infs, h4, h5, h6, h7⟩ := ems_list l _ _ _ h3
    have hoff : ∀ t, o.dst = some t → t < N ∧ ∀ x ∈ E, x.1 ≠ t := fun t ht => by
      rw [ht] at h1
      simp only [offB, Bool.and_eq_true, decide_eq_true_eq] at h1
      exact ⟨h1.1, fun x hx => by simpa using List.all_eq_true.1 h1.2 x hx⟩
    refine ⟨inf :: infs, by simp [h4], fun k o' i hk hi => ?_, h6, by rw [putsOf, h7, hps]⟩
    cases k with
    | zero =>
      cases hk
      cases hi
      exact ⟨h2, fun t ht => ⟨(hoff t ht).1, (hoff t ht).2, fun j _ _ _ hj => by omega⟩, h1'⟩
    | succ k =>
      obtain ⟨g1, g2, g3⟩ := h5 k o' i (by simpa using hk) (by simpa using hi)
      refine ⟨g1, fun t ht => ⟨(g2 t ht).1, fun x hx => (g2 t ht).2.1 x ?_, fun j oj T d hj hoj hij => ?_⟩, g3⟩
      · unfold nextE
        split
        · split
          · exact List.mem_append_left _ hx
          · exact hx
        · exact hx
      · cases j with
        | zero =>
          cases hoj
          cases hij
          intro e
          exact (g2 t ht).2.1 (t, T, d) (by unfold nextE; rw [e]; simp) rfl
        | succ j => exact (g2 t ht).2.2 j oj T d (by omega) (by simpa using hoj) (by simpa using hij)

theorem puts_mem : ∀ (infs : List Inf) (k : Nat) (p q : Obj), infs[k]? = some (.put p q) → (p, q) ∈ putsOf infs
  | [], k, p, q, h => by simp at h
  | i :: infs, 0, p, q, h => by
    cases h
    simp [putsOf, putOf]
  | i :: infs, k + 1, p, q, h => by
    rw [putsOf]
    exact List.mem_append_right _ (puts_mem infs k p q (by simpa using h))
theorem puts_ix : ∀ (infs : List Inf) (p q : Obj), (p, q) ∈ putsOf infs → ∃ k : Nat, infs[k]? = some (.put p q)
  | [], p, q, h => by simp [putsOf] at h
  | i :: infs, p, q, h => by
    rw [putsOf] at h
    rcases List.mem_append.1 h with h | h
    · cases i <;> simp [putOf] at h
      obtain ⟨rfl, rfl⟩ := h
      exact ⟨0, rfl⟩
    · obtain ⟨k, hk⟩ := puts_ix infs p q h
      exact ⟨k + 1, by simpa using hk⟩
theorem puts_apart : ∀ (infs : List Inf), ((putsOf infs).map (·.1)).Pairwise (fun o p : Obj => ∀ b, o.blk = some b → p.blk ≠ some b) → ∀ (k k' : Nat) (p q p' q' : Obj), infs[k]? = some (.put p q) → infs[k']? = some (.put p' q') → k ≠ k' → ∀ b, p.blk = some b → p'.blk ≠ some b
  | [], _, k, k', p, q, p', q', h, _, _ => by simp at h
  | i :: infs, hp, k, k', p, q, p', q', h, h', hne => by
    rw [putsOf, List.map_append] at hp
    obtain ⟨h1, h2, h3⟩ := List.pairwise_append.1 hp
    cases k with
    | zero =>
      cases h
      cases k' with
      | zero => exact absurd rfl hne
      | succ k' => exact h3 p (by simp [putOf]) p' (List.mem_map.2 ⟨_, puts_mem infs k' p' q' (by simpa using h'), rfl⟩)
    | succ k =>
      cases k' with
      | zero =>
        cases h'
        intro b hb e
        exact h3 p' (by simp [putOf]) p (List.mem_map.2 ⟨_, puts_mem infs k p q (by simpa using h), rfl⟩) b e hb
      | succ k' => exact puts_apart infs h2 k k' p q p' q' (by simpa using h) (by simpa using h') (by omega)
/-- A world that has more memory, and other cells in some blocks. -/
structure GrE (H : Nat → Prop) (w w' : World) : Prop where
  os : w'.os = w.os
  tape : w'.tape = w.tape
  output : w'.output = w.output
  size : w.heap.size ≤ w'.heap.size
  block : ∀ k, k < w.heap.size → ¬ H k → w'.heap[k]? = w.heap[k]?
theorem GrE.of {H : Nat → Prop} (h : Gr w w') : GrE H w w' := ⟨h.os, h.tape, h.output, h.size, fun k hk _ => h.block k hk⟩
theorem GrE.cell {H : Nat → Prop} (h : GrE H w w') {p : Addr} (hp : p.block < w.heap.size) (hn : ¬ H p.block) : w'.cell? p = w.cell? p := World.cell?_of_block (h.block _ hp hn)
theorem Obj.At.move {base : Nat} {z z' : Nat → Prop} {u u' : World} {o : Obj} (h : o.At base z u) (hz : ∀ b, z b → z' b) (hc : ∀ p : Addr, z p.block → u'.cell? p = u.cell? p) (hb : ∀ g, o.blk = some g → u'.heap[g]? = u.heap[g]?) : o.At base z' u' := by
  cases o with
  | var g t d =>
    obtain ⟨h1, cs, h2, h3⟩ := h
    exact ⟨h1, cs, (hb g rfl).trans h2, Reads.mono hz hc _ _ h3⟩
  | row v e s ds =>
    obtain ⟨rows, h1, h2⟩ := h
    refine ⟨rows, ⟨h1.1, ?_⟩, ReadsRows.mono hz hc s ds rows h2⟩
    rcases h1.2 with h1 | ⟨g, cap, cur, k1, k2, k3, k4⟩
    · exact .inl h1
    · exact .inr ⟨g, cap, cur, k1, k2, by rw [hb g (by rw [k1]; rfl)]; exact k3, k4⟩
structure GP (X : Cx N) (S : St) (infs : List Inf) (ws : World) (F : Nat → Nat → Prop) (L : Nat → Prop) (vs : Nat → Value) (u : World) : Prop where
  gr : GrE (fun b => ∃ (k : Nat) (p q : Obj), infs[k]? = some (.put p q) ∧ p.blk = some b) ws u
  lo : ∀ j, L j → ∀ b, F j b → ws.heap.size ≤ b ∧ b < u.heap.size
  dis : ∀ i j b, L i → L j → i ≠ j → F i b → ¬ F j b
  val : ∀ j i, L j → infs[j]? = some i → (match (generalizing := false) i with
    | .new T d => ∃ g cs, vs j = .pointer (some ⟨g, 0, none⟩) ∧ (∀ b, F j b ↔ b = g) ∧ u.heap[g]? = some (.cells cs.toArray T (0, 0)) ∧ Reads (zone X S infs ws F L) u d cs
    | i => ReadR (zone X S infs ws F L) u i.reg (vs j))
  put : ∀ (k : Nat) (p q : Obj), infs[k]? = some (.put p q) → (L k → q.At X.w0.heap.size (zone X S infs ws F L) u) ∧ (¬ L k → p.At X.w0.heap.size (zone X S infs ws F L) u)
/-- What the pieces that are written are. -/
structure PutsOk (X : Cx N) (S : St) (infs : List Inf) (ws : World) : Prop where
  low : ∀ (k : Nat) (p q : Obj) (b : Nat), infs[k]? = some (.put p q) → p.blk = some b → ¬ X.ok S.objs ws b ∧ b < ws.heap.size
  apart : ∀ (k k' : Nat) (p q p' q' : Obj), infs[k]? = some (.put p q) → infs[k']? = some (.put p' q') → k ≠ k' → ∀ b, p.blk = some b → p'.blk ≠ some b
  same : ∀ (k : Nat) (p q : Obj), infs[k]? = some (.put p q) → q.blk = p.blk
theorem GP.lt {infs : List Inf} {ws : World} {F : Nat → Nat → Prop} {L : Nat → Prop} {vs : Nat → Value} {u : World} (h : GP X S infs ws F L vs u) {b : Nat} (hb : zone X S infs ws F L b) : b < u.heap.size := by
  rcases hb with hb | ⟨i, h1, _, h2⟩
  · exact Nat.lt_of_lt_of_le hb.2.1 h.gr.size
  · exact (h.lo i h1 b h2).2
theorem GP.off {infs : List Inf} {ws : World} {F : Nat → Nat → Prop} {L : Nat → Prop} {vs : Nat → Value} {u : World} (h : GP X S infs ws F L vs u) (hP : PutsOk X S infs ws) {k b : Nat} (hk : infs[k]? = some (.put p q)) (hp : p.blk = some b) : ¬ zone X S infs ws F L b := by
  have := hP.low k p q b hk hp
  rintro (hb | ⟨i, h1, _, h2⟩)
  · exact this.1 hb
  · have := (h.lo i h1 b h2).1
    omega
theorem GP.step {infs : List Inf} {ws : World} {F : Nat → Nat → Prop} {L : Nat → Prop} {vs : Nat → Value} {u u' : World} (h : GP X S infs ws F L vs u) (hP : PutsOk X S infs ws) {k : Nat} {i : Inf} (hi : infs[k]? = some i) (hk : ¬ L k) (H : Nat → Prop) (hH : ∀ b, H b → ∃ p q : Obj, i = .put p q ∧ p.blk = some b) (hg : GrE H u u') (v : Value) (f : Nat → Prop) (hf : ∀ b, f b → u.heap.size ≤ b ∧ b < u'.heap.size)
    (hv : (∀ b, zone X S infs ws F L b → zone X S infs ws (fun j => if j = k then f else F j) (fun j => j = k ∨ L j) b) → (match (generalizing := false) i with
      | .new T d => ∃ g cs, v = .pointer (some ⟨g, 0, none⟩) ∧ (∀ b, f b ↔ b = g) ∧ u'.heap[g]? = some (.cells cs.toArray T (0, 0)) ∧ Reads (zone X S infs ws (fun j => if j = k then f else F j) (fun j => j = k ∨ L j)) u' d cs
      | i => ReadR (zone X S infs ws (fun j => if j = k then f else F j) (fun j => j = k ∨ L j)) u' i.reg v))
    (hq : ∀ p q : Obj, i = .put p q → q.At X.w0.heap.size (zone X S infs ws F L) u') :
    GP X S infs ws (fun j => if j = k then f else F j) (fun j => j = k ∨ L j) (fun j => if j = k then v else vs j) u' := by
  have hF : ∀ j, L j → (if j = k then f else F j) = F j := fun j hj => if_neg fun e => hk (by rw [← e]; exact hj)
  have hz : ∀ b, zone X S infs ws F L b → zone X S infs ws (fun j => if j = k then f else F j) (fun j => j = k ∨ L j) b := fun b hb => by
    rcases hb with hb | ⟨i, h1, h2, h3⟩
    · exact .inl hb
    · exact .inr ⟨i, .inr h1, h2, by show (if i = k then f else F i) b; rw [hF i h1]; exact h3⟩
  have hHz : ∀ b, H b → ¬ zone X S infs ws F L b := fun b hb => by
    obtain ⟨p, q, rfl, hp⟩ := hH b hb
    exact h.off hP hi hp
  have hc : ∀ p : Addr, zone X S infs ws F L p.block → u'.cell? p = u.cell? p := fun p hp => hg.cell (h.lt hp) fun hn => hHz _ hn hp
  refine ⟨⟨hg.os.trans h.gr.os, hg.tape.trans h.gr.tape, hg.output.trans h.gr.output, Nat.le_trans h.gr.size hg.size, fun b hb hn => ?_⟩, fun j hj b hb => ?_, fun i j b hi hj hij hb => ?_, fun j i' hj hi' => ?_, fun k' p' q' hk' => ?_⟩
  · rw [hg.block b (Nat.lt_of_lt_of_le hb h.gr.size) fun hn' => by
      obtain ⟨p, q, rfl, hp⟩ := hH b hn'
      exact hn ⟨k, p, q, hi, hp⟩]
    exact h.gr.block b hb hn
  · by_cases e : j = k
    · rw [if_pos e] at hb
      exact ⟨Nat.le_trans h.gr.size (hf b hb).1, (hf b hb).2⟩
    · rw [if_neg e] at hb
      have := h.lo j (hj.resolve_left e) b hb
      exact ⟨this.1, Nat.lt_of_lt_of_le this.2 hg.size⟩
  · by_cases e1 : i = k
    · by_cases e2 : j = k
      · exact absurd (e1.trans e2.symm) hij
      · rw [if_pos e1] at hb
        rw [if_neg e2]
        intro hb2
        have := (h.lo j (hj.resolve_left e2) b hb2).2
        have := (hf b hb).1
        omega
    · rw [if_neg e1] at hb
      by_cases e2 : j = k
      · rw [if_pos e2]
        intro hb2
        have := (h.lo i (hi.resolve_left e1) b hb).2
        have := (hf b hb2).1
        omega
      · rw [if_neg e2]
        exact h.dis i j b (hi.resolve_left e1) (hj.resolve_left e2) hij hb
  · by_cases e : j = k
    · subst e
      obtain rfl : i' = i := Option.some.inj (hi'.symm.trans hi)
      simp only [if_true]
      exact hv hz
    · have hj' := hj.resolve_left e
      have h0 := h.val j i' hj' hi'
      simp only [if_neg e]
      cases i' with
      | new T d =>
        obtain ⟨g, cs, g1, g2, g3, g4⟩ := h0
        have hlo := h.lo j hj' g ((g2 g).2 rfl)
        exact ⟨g, cs, g1, g2, (hg.block g (lt_of_some g3) fun hn => by
          obtain ⟨p, q, rfl, hp⟩ := hH g hn
          have := (hP.low k p q g hi hp).2
          omega).trans g3, Reads.mono hz hc _ _ g4⟩
      | still r => exact ReadR.mono hz hc h0
      | grow r => exact ReadR.mono hz hc h0
      | skip => trivial
      | put p q => trivial
  · by_cases e : k' = k
    · subst e
      obtain rfl : i = .put p' q' := Option.some.inj (hi.symm.trans hk')
      refine ⟨fun _ => (hq p' q' rfl).move hz (fun _ _ => rfl) (fun _ _ => rfl), fun hn => absurd (.inl rfl) hn⟩
    · have hb : ∀ g, p'.blk = some g → u'.heap[g]? = u.heap[g]? := fun g hg' => hg.block g (Nat.lt_of_lt_of_le (hP.low k' p' q' g hk' hg').2 h.gr.size) fun hn => by
        obtain ⟨p, q, rfl, hp⟩ := hH g hn
        exact hP.apart k k' p q p' q' hi hk' (fun e' => e e'.symm) g hp hg'
      obtain ⟨h1, h2⟩ := h.put k' p' q' hk'
      refine ⟨fun hL => (h1 (hL.resolve_left e)).move hz hc fun g hg' => hb g (by rw [← hP.same k' p' q' hk']; exact hg'), fun hn => (h2 fun hL => hn (.inr hL)).move hz hc hb⟩
set_option maxHeartbeats 2000000 in
/-- **THE RULE** for a region that draws its order and writes variables of the call's own. -/
theorem EC.drawS {id : Nat} (n : Nat) (ps : List (Obj × Obj)) (os1 : List Obj) (hB : monoB l.toArray n N = true) (hS : S.objs = ps.map (·.1) ++ os1) (h : EMS N l.toArray (fun S' E => openF (EL X l.toArray Q (l.drop n)) E ⟨S'.regs, ps.map (·.2) ++ S'.objs, S'.facts⟩) (l.take n) ps ⟨S.regs, os1, S.facts⟩ []) : EC X Q (.region id l.toArray true) S := by
  constructor
  intro a ws ha
  obtain ⟨infs, hlen, hok, hT, hps⟩ := ems_list _ _ _ _ h
  have hle : n ≤ l.length := by simpa using (facts_of_monoB hB).le
  have hln : (l.take n).length = n := by simp; omega
  rw [hln] at hlen hT
  have htake : ∀ k, k < n → (l.take n)[k]? = l[k]? := fun k hk => by rw [List.getElem?_take, if_pos hk]
  have hdst : ∀ k o, l[k]? = some o → dstOf l.toArray k = o.dst := fun k o ho => by unfold dstOf; simp [ho]
  have hks := ha.kn fun _ => True
  have hap := ha.mem.apart
  rw [hS, List.pairwise_append] at hap
  have hin : ∀ (k : Nat) (p q : Obj), infs[k]? = some (.put p q) → p ∈ S.objs := fun k p q hk => by
    rw [hS, ← hps]
    exact List.mem_append_left _ (List.mem_map.2 ⟨_, puts_mem infs k p q hk, rfl⟩)
  have hos : ∀ o ∈ os1, o ∈ S.objs := fun o ho => by rw [hS]; exact List.mem_append_right _ ho
  have hnn : ∀ (k : Nat) (i : Inf), infs[k]? = some i → k < n := fun k i hk => by have := (List.getElem?_eq_some_iff.1 hk).1; omega
  have hsame : ∀ (k : Nat) (p q : Obj), infs[k]? = some (.put p q) → q.blk = p.blk := fun k p q hk => by
    have hkn := hnn k _ hk
    have := (hok k l[k] _ (by rw [htake k hkn]; simp) hk).1
    exact this.2.2.1
  have hP : PutsOk X S infs ws := ⟨fun k p q b hk hb => ⟨fun hz => hz.2.2 p (hin k p q hk) hb, (Obj.blk_lt (ha.mem.at_ p (hin k p q hk)) hb).2⟩, puts_apart infs (by rw [hps]; exact hap.1), hsame⟩
  refine wp_region_set n (by kernel_rfl) (by rw [ha.size]; exact hB) (fun L vs u => ∃ F, GP X S infs ws F L vs u) ?_ ?_ ?_ ?_
  · rintro L L' vs vs' w hL hvs ⟨F, hG⟩
    obtain rfl : L = L' := funext fun j => propext (hL j)
    refine ⟨F, hG.gr, hG.lo, hG.dis, fun j i hj hi => ?_, hG.put⟩
    rw [← hvs j hj]
    exact hG.val j i hj hi
  · exact ⟨fun _ _ => False, ⟨⟨rfl, rfl, rfl, Nat.le_refl _, fun _ _ _ => rfl⟩, fun _ h => h.elim, fun _ _ _ h => h.elim, fun _ _ h => h.elim, fun k p q hk => ⟨fun h => h.elim, fun _ => (ha.mem.at_ p (hin k p q hk)).move (fun _ => .inl) (fun _ _ => rfl) fun _ _ => rfl⟩⟩⟩
  · intro k o L vs b u hk ho hL hLk ⟨F, hG⟩ hslot
    obtain ⟨i, hi⟩ : ∃ i, infs[k]? = some i := ⟨infs[k], by simp [hlen, hk]⟩
    obtain ⟨hO, hof, _⟩ := hok k o i (by rw [htake k hk]; exact ho) hi
    have hc : ∀ p : Addr, X.ok S.objs ws p.block → u.cell? p = ws.cell? p := fun p hp => hG.gr.cell hp.2.1 fun ⟨k, p', q', hk, hb⟩ => (hP.low k p' q' _ hk hb).1 hp
    have hmv : ∀ o ∈ os1, o.At X.w0.heap.size (zone X S infs ws F L) u := fun o ho => (ha.mem.at_ o (hos o ho)).move (fun _ => .inl) hc fun g hg => hG.gr.block g (Obj.blk_lt (ha.mem.at_ o (hos o ho)) hg).2 fun ⟨k, p', q', hk, hb⟩ => hap.2.2 p' (List.mem_map.2 ⟨_, by rw [← hps]; exact puts_mem infs k p' q' hk, rfl⟩) o ho g hb hg
    have hkn : Kn X.w0.heap.size (zone X S infs ws F L) (fun t => t ∈ o.looksAt l.toArray) (stAt ⟨S.regs, os1, S.facts⟩ (l.take n) infs k) b u := by
      refine ⟨fun p hp => ?_, fun f hf => ?_, fun b hb => hG.lt hb, fun t r ht hr => ?_⟩
      · rw [(stAt_objs _ _ _ _).1] at hp
        exact hmv p hp
      · rw [(stAt_objs _ _ _ _).2] at hf
        exact Reads.mono (fun _ => .inl) hc _ _ (hks.facts f hf)
      · have hlk := stAt_look (l.take n) infs k ⟨S.regs, os1, S.facts⟩ t (by rw [hlen, hln]) (by omega)
        rcases hslot t ht with ⟨j, h1, h2, h3, h4, h5⟩ | ⟨h1, h2⟩
        · have hjl : j < l.length := by omega
          have hoj : l[j]? = some l[j] := by simp
          have hij : infs[j]? = some infs[j] := by simp
          rw [hlk.1 j l[j] infs[j] h1 (by rw [htake j (by omega)]; exact hoj) hij (by rw [← hdst j _ hoj]; exact h2) fun m om h6 h7 hom => by
            rw [htake m (by omega)] at hom
            rw [← hdst m _ hom]
            exact h3 m h6 h7] at hr
          cases hr
          rw [h5]
          have := hG.val j _ h4 hij
          cases hinf : infs[j] with
          | new T d => trivial
          | still r => rw [hinf] at this; exact this
          | grow r => rw [hinf] at this; exact this
          | skip => trivial
          | put p q => trivial
        · rw [hlk.2 fun j oj hj hoj => by
            rw [htake j (by omega)] at hoj
            rw [← hdst j _ hoj]
            exact h1 j hj] at hr
          rw [h2]
          exact (ha.regs t r hr).mono (fun _ => .inl) hc
    have hstep : ∀ (H : Nat → Prop) (_ : ∀ b, H b → ∃ p q : Obj, i = .put p q ∧ p.blk = some b) v u', GrE H u u' → (∀ p q : Obj, i = .put p q → q.At X.w0.heap.size (zone X S infs ws F L) u') → ∀ f : Nat → Prop, (∀ b, f b → u.heap.size ≤ b ∧ b < u'.heap.size) → ((∀ b, zone X S infs ws F L b → zone X S infs ws (fun j => if j = k then f else F j) (fun j => j = k ∨ L j) b) → (match (generalizing := false) i with
      | .new T d => ∃ g cs, v = .pointer (some ⟨g, 0, none⟩) ∧ (∀ b, f b ↔ b = g) ∧ u'.heap[g]? = some (.cells cs.toArray T (0, 0)) ∧ Reads (zone X S infs ws (fun j => if j = k then f else F j) (fun j => j = k ∨ L j)) u' d cs
      | i => ReadR (zone X S infs ws (fun j => if j = k then f else F j) (fun j => j = k ∨ L j)) u' i.reg v)) → ∃ F, GP X S infs ws F (fun j => j = k ∨ L j) (fun j => if j = k then v else vs j) u' := fun H hH v u' hg hq f hf hv =>
      ⟨_, hG.step hP hi hLk H hH hg v f hf hv hq⟩
    cases i with
    | still r =>
      obtain ⟨hg, hS⟩ := hO
      refine ⟨fun _ => ?_, fun hw => by rw [wanted_kn hkn hg] at hw; cases hw⟩
      obtain ⟨v, h1, h2⟩ := hS _ _ b u hkn
      rw [h1]
      exact (hstep (fun _ => False) (fun _ h => h.elim) v u (.of (Gr.refl u)) (fun _ _ e => by cases e) (fun _ => False) (fun _ h => h.elim) fun hz => ReadR.mono hz (fun _ _ => rfl) h2)
    | grow r =>
      obtain ⟨hg, hS⟩ := hO
      refine ⟨fun _ => setsTo_of_grows (hS _ _ b u hkn) (fun v w' hgr hv => ?_), fun hw => by rw [wanted_kn hkn hg] at hw; cases hw⟩
      obtain ⟨r', rfl, hv⟩ := hv
      refine hstep (fun _ => False) (fun _ h => h.elim) v w' (.of hgr) (fun _ _ e => by cases e) (fun b => u.heap.size ≤ b ∧ b < w'.heap.size) (fun _ h => h) fun hz => ReadR.mono (fun b hb => ?_) (fun _ _ => rfl) hv
      rcases hb.1 with h1 | h1
      · exact hz b h1
      · exact .inr ⟨k, .inl rfl, (fun T d e => by rw [hi] at e; cases e), by show (if k = k then _ else F k) b; rw [if_pos rfl]; exact ⟨h1, hb.2⟩⟩
    | put p q =>
      obtain ⟨hg, hd, _, hS'⟩ := hO
      refine ⟨fun _ => ?_, fun hw => by rw [wanted_kn hkn hg] at hw; cases hw⟩
      obtain ⟨u', g, h1, h2, h3, h4⟩ := hS' _ _ b u hkn (fun g hb => hG.off hP hi hb) ((hG.put k p q hi).2 hLk)
      rw [h1]
      refine hstep (fun b => b = g) (fun b e => ⟨p, q, rfl, by rw [e]; exact h2⟩) undef u' ⟨h3.os, h3.tape, h3.output, h3.size, fun j hj hn => h3.block j hj fun e => hn (by injection e)⟩ (fun p' q' e => by cases e; exact h4) (fun _ => False) (fun _ h => h.elim) fun _ => trivial
    | skip =>
      refine ⟨fun hw => (by rw [wanted_kn hkn hO] at hw; cases hw), fun _ => ?_⟩
      exact hstep (fun _ => False) (fun _ h => h.elim) undef u (.of (Gr.refl u)) (fun _ _ e => by cases e) (fun _ => False) (fun _ h => h.elim) fun _ => trivial
    | new T d =>
      obtain ⟨hg, hS⟩ := hO
      refine ⟨fun _ => ?_, fun hw => by rw [wanted_kn hkn hg] at hw; cases hw⟩
      obtain ⟨cs, h1, h2⟩ := hS _ _ b u hkn
      rw [h1]
      have hgr := gr_alloc u (.cells cs.toArray T)
      exact hstep (fun _ => False) (fun _ h => h.elim) _ _ (.of hgr) (fun _ _ e => by cases e) (fun b => b = u.heap.size) (fun b e => by subst e; simp) fun hz => ⟨u.heap.size, cs, rfl, fun b => Iff.rfl, heap_alloc_new u _, Reads.mono hz (fun p hp => hgr.cell (hG.lt hp)) _ _ h2⟩
  · intro vs u b ⟨F, hG⟩ hs hd hslot
    have hc : ∀ p : Addr, X.ok S.objs ws p.block → u.cell? p = ws.cell? p := fun p hp => hG.gr.cell hp.2.1 fun ⟨k, p', q', hk, hb⟩ => (hP.low k p' q' _ hk hb).1 hp
    have hmv : ∀ o ∈ os1, o.At X.w0.heap.size (zone X S infs ws F (fun j => j < n)) u := fun o ho => (ha.mem.at_ o (hos o ho)).move (fun _ => .inl) hc fun g hg => hG.gr.block g (Obj.blk_lt (ha.mem.at_ o (hos o ho)) hg).2 fun ⟨k, p', q', hk, hb⟩ => hap.2.2 p' (List.mem_map.2 ⟨_, by rw [← hps]; exact puts_mem infs k p' q' hk, rfl⟩) o ho g hb hg
    have hsz := ha.mem.gr.size
    have hblk : (ps.map (·.2)).map Obj.blk = (ps.map (·.1)).map Obj.blk := by
      rw [List.map_map, List.map_map]
      refine List.map_congr_left fun e he => ?_
      obtain ⟨k, hk⟩ := puts_ix infs e.1 e.2 (by rw [hps]; exact he)
      exact hsame k _ _ hk
    have hobj : ∀ o ∈ ps.map (·.2) ++ os1, ∀ b, o.blk = some b → ∃ o' ∈ S.objs, o'.blk = some b := fun o ho b hb => by
      rcases List.mem_append.1 ho with ho | ho
      · obtain ⟨e, he, rfl⟩ := List.mem_map.1 ho
        obtain ⟨k, hk⟩ := puts_ix infs e.1 e.2 (by rw [hps]; exact he)
        exact ⟨e.1, hin k _ _ hk, by rw [← hsame k _ _ hk]; exact hb⟩
      · exact ⟨o, hos o ho, hb⟩
    have hgood : Good X (zone X S infs ws F fun j => j < n) ⟨(stAt ⟨S.regs, os1, S.facts⟩ (l.take n) infs n).regs, ps.map (·.2) ++ os1, (stAt ⟨S.regs, os1, S.facts⟩ (l.take n) infs n).facts⟩ b u := by
      refine ⟨fun p hp => ?_, ?_, fun p hp b hb e => ?_, fun f hf => ?_, fun t r hr => ?_⟩
      · rcases List.mem_append.1 hp with hp | hp
        · obtain ⟨e, he, rfl⟩ := List.mem_map.1 hp
          obtain ⟨k, hk⟩ := puts_ix infs e.1 e.2 (by rw [hps]; exact he)
          exact (hG.put k _ _ hk).1 (hnn k _ hk)
        · exact hmv p hp
      · have h0 := ha.mem.apart
        rw [hS] at h0
        have h1 : ((ps.map (·.1) ++ os1).map Obj.blk).Pairwise fun x y : Option Nat => ∀ b, x = some b → y ≠ some b := List.pairwise_map.2 h0
        rw [List.map_append, ← hblk, ← List.map_append] at h1
        exact List.pairwise_map.1 h1
      · obtain ⟨o', ho', e'⟩ := hobj p hp b e
        rcases hb with hb | ⟨i, h1, _, h2⟩
        · exact hb.2.2 o' ho' e'
        · have := (Obj.blk_lt (ha.mem.at_ o' ho') e').2
          have := (hG.lo i h1 b h2).1
          omega
      · rw [(stAt_objs _ _ _ _).2] at hf
        exact Reads.mono (fun _ => .inl) hc _ _ (hks.facts f hf)
      · have hlk := stAt_look (l.take n) infs n ⟨S.regs, os1, S.facts⟩ t (by rw [hlen, hln]) (by omega)
        rcases hslot t with ⟨j, h1, h2, h3, h4, h5⟩ | ⟨h1, h2⟩
        · have hjl : j < l.length := by omega
          have hoj : l[j]? = some l[j] := by simp
          have hij : infs[j]? = some infs[j] := by simp
          rw [hlk.1 j l[j] infs[j] h1 (by rw [htake j (by omega)]; exact hoj) hij (by rw [← hdst j _ hoj]; exact h2) fun m om h6 h7 hom => by
            rw [htake m (by omega)] at hom
            rw [← hdst m _ hom]
            exact h3 m h6 h7] at hr
          cases hr
          rw [h5]
          have := hG.val j _ h4 hij
          cases hinf : infs[j] with
          | new T d => trivial
          | still r => rw [hinf] at this; exact this
          | grow r => rw [hinf] at this; exact this
          | skip => trivial
          | put p q => trivial
        · rw [hlk.2 fun j oj hj hoj => by
            rw [htake j (by omega)] at hoj
            rw [← hdst j _ hoj]
            exact h1 j hj] at hr
          rw [h2]
          exact (ha.regs t r hr).mono (fun _ => .inl) hc
    let gOf : Nat → Nat := fun j => match vs j with
      | .pointer (some p) => p.block
      | _ => 0
    have hfr : ∀ j T d, infs[j]? = some (.new T d) → ∃ cs, vs j = .pointer (some ⟨gOf j, 0, none⟩) ∧ (∀ b, F j b ↔ b = gOf j) ∧ u.heap[gOf j]? = some (.cells cs.toArray T (0, 0)) ∧ Reads (zone X S infs ws F fun j => j < n) u d cs := fun j T d hj => by
      have hjn : j < n := by
        have := (List.getElem?_eq_some_iff.1 hj).1
        omega
      obtain ⟨g, cs, g1, g2, g3, g4⟩ := hG.val j _ hjn hj
      have hg : gOf j = g := by simp only [gOf, g1]
      rw [hg]
      exact ⟨cs, g1, g2, g3, g4⟩
    have hE := frIx_map (l.take n) infs 0 []
    rw [List.nil_append] at hE
    rw [hE] at hT
    have hmm : (frIx 0 (l.take n) infs).map (·.1) = ((frIx 0 (l.take n) infs).map fun e => (e.1, gOf e.2)).map (·.1) := by simp [List.map_map, Function.comp_def]
    rw [hmm] at hT
    rw [(stAt_objs _ _ _ _).1] at hT
    have hEL := openF_ext _ _ hT
    refine hEL.go b u ((Good.ext _ _ hgood (fun e he => ?_) ?_ fun e he o ho => ?_).at ⟨hG.gr.os.trans ha.mem.gr.os, hG.gr.tape.trans ha.mem.gr.tape, hG.gr.output.trans ha.mem.gr.output, Nat.le_trans ha.mem.gr.size hG.gr.size, fun k hk => (hG.gr.block k (Nat.lt_of_lt_of_le hk ha.mem.gr.size) fun ⟨j, p', q', hj, hb⟩ => by
      have := (Obj.blk_lt (ha.mem.at_ p' (hin j p' q' hj)) hb).1
      omega).trans (ha.mem.gr.block k hk)⟩ (fun b hb => ?_) (hs.trans ha.size) (hd.trans ha.defers))
    · obtain ⟨e0, he0, rfl⟩ := List.mem_map.1 he
      obtain ⟨j, o, h1, h2, h3, h4⟩ := frIx_mem _ _ _ _ he0
      rw [Nat.zero_add] at h1
      have hjn : j < n := by
        have := (List.getElem?_eq_some_iff.1 h4).1
        omega
      obtain ⟨cs, g1, g2, g3, g4⟩ := hfr j _ _ h4
      rw [htake j hjn] at h2
      dsimp only
      rw [h1]
      refine ⟨Nat.le_trans hsz (hG.lo j hjn _ ((g2 _).2 rfl)).1, fun hz => ?_, ?_, cs, g3, g4⟩
      · rcases hz with hz | ⟨i, k1, k2, k3⟩
        · have := (hG.lo j hjn _ ((g2 _).2 rfl)).1
          have := hz.2.1
          omega
        · by_cases e : i = j
          · subst e
            exact k2 _ _ h4
          · exact hG.dis i j _ k1 hjn e k3 ((g2 _).2 rfl)
      · rcases hslot e0.1.1 with ⟨j', k1, k2, k3, k4, k5⟩ | ⟨k1, k2⟩
        · have hjj : j' = j := by
            rcases Nat.lt_trichotomy j' j with h | h | h
            · exact absurd ((hdst j o h2).trans h3) (k3 j h hjn)
            · exact h
            · exfalso
              have hoj' : l[j']? = some l[j'] := by simp
              have hij' : infs[j']? = some infs[j'] := by simp
              exact ((hok j' l[j'] infs[j'] (by rw [htake j' k1]; exact hoj') hij').2.1 e0.1.1 (by rw [← hdst j' _ hoj']; exact k2)).2.2 j o _ _ h (by rw [htake j hjn]; exact h2) h4 h3
          subst hjj
          rw [k5]
          exact g1
        · exact absurd ((hdst j o h2).trans h3) (k1 j hjn)
    · have hnd := frIx_nodup (l.take n) infs 0
      rw [List.map_map]
      have : ((fun e : Fr × Nat => e.2) ∘ fun e : Fr × Nat => (e.1, gOf e.2)) = gOf ∘ fun e => e.2 := rfl
      rw [show ((fun x : Fr × Nat => x.2) ∘ fun e : Fr × Nat => (e.1, gOf e.2)) = gOf ∘ (fun e => e.2) from rfl, ← List.map_map]
      have hinj : ∀ x ∈ (frIx 0 (l.take n) infs).map (·.2), ∀ y ∈ (frIx 0 (l.take n) infs).map (·.2), gOf x = gOf y → x = y := by
        intro x hx y hy e
        obtain ⟨ex, hex, rfl⟩ := List.mem_map.1 hx
        obtain ⟨ey, hey, rfl⟩ := List.mem_map.1 hy
        obtain ⟨jx, ox, a1, a2, a3, a4⟩ := frIx_mem _ _ _ _ hex
        obtain ⟨jy, oy, b1, b2, b3, b4⟩ := frIx_mem _ _ _ _ hey
        rw [Nat.zero_add] at a1 b1
        rw [a1, b1] at e ⊢
        obtain ⟨_, c1, c2, _⟩ := hfr jx _ _ a4
        obtain ⟨_, d1, d2, _⟩ := hfr jy _ _ b4
        by_cases hne : jx = jy
        · exact hne
        · exfalso
          have hx' : jx < n := by have := (List.getElem?_eq_some_iff.1 a4).1; omega
          have hy' : jy < n := by have := (List.getElem?_eq_some_iff.1 b4).1; omega
          exact hG.dis jx jy (gOf jx) hx' hy' hne ((c2 _).2 rfl) ((d2 _).2 e)
      clear hT hEL hmm hE
      revert hnd hinj
      generalize (frIx 0 (l.take n) infs).map (·.2) = m
      intro hnd hinj
      induction m with
      | nil => simp
      | cons x m ih =>
        simp only [List.map_cons, List.nodup_cons] at hnd ⊢
        refine ⟨fun hm => ?_, ih hnd.2 fun p hp q hq => hinj p (by simp [hp]) q (by simp [hq])⟩
        obtain ⟨y, hy, e⟩ := List.mem_map.1 hm
        have := hinj x (by simp) y (by simp [hy]) e.symm
        subst this
        exact hnd.1 hy
    · obtain ⟨e0, he0, rfl⟩ := List.mem_map.1 he
      obtain ⟨j, o', h1, h2, h3, h4⟩ := frIx_mem _ _ _ _ he0
      rw [Nat.zero_add] at h1
      have hjn : j < n := by
        have := (List.getElem?_eq_some_iff.1 h4).1
        omega
      obtain ⟨cs, g1, g2, g3, g4⟩ := hfr j _ _ h4
      dsimp only
      rw [h1]
      intro e
      obtain ⟨o', ho', e'⟩ := hobj o ho _ e
      have := (Obj.blk_lt (ha.mem.at_ o' ho') e').2
      have := (hG.lo j hjn _ ((g2 _).2 rfl)).1
      omega
    · refine ⟨?_, hG.lt hb⟩
      rcases hb with hb | ⟨i, k1, _, k3⟩
      · exact hb.1
      · exact .inr (Nat.le_trans hsz (hG.lo i k1 b k3).1)
theorem put_store {T g n : Nat} {x y : Operand} {t : TypeId} {d d' d'' : D} (ho : o.op = .store T x y) (hx : ev S x = some (.val (.v (.pointer (some ⟨g, n, none⟩))))) (hy : ev S y = some (.val d')) (hT : assoc tyL T = some (d'.size, d'.agg)) (hu : d.upd n d' = some d'') : Puts ops S o (.var g t d) (.var g t d'') := by
  refine ⟨rfl, fun base ok a w hk hno hat => ?_⟩
  have hx' := ev_v hk hx fun t e => looks_of e (by rw [ho]; simp [Op.operands])
  obtain ⟨cs', h1, h2⟩ := hk.ev hy fun t e => looks_of e (by rw [ho]; simp [Op.operands])
  obtain ⟨hge, cs, h3, h4⟩ := hat
  obtain ⟨e1, e2, pre, mid, post, rfl, h5, h6, h7⟩ := upd_spec d n d' d'' cs cs' hu h4 h1
  obtain ⟨_, _, _, hT'⟩ := tyI hT
  have hrun := run_storeAt (T := T) (by rw [hT', Reads.len _ _ h1]) h1 h3 h5 h6
  refine ⟨w.setCells g n cs', g, ?_, rfl, grownBy_setCells g cs' n w, hge, pre ++ cs' ++ post, ?_, Reads.mono (fun _ h => h) (fun p hp => ?_) _ _ h7⟩
  · unfold execOp
    simp only [ho, hx', h2, Sem.run_bind, hrun, Result.andThen_ok, Sem.run_pure]
  · have := setCells_row cs' pre mid post w h6 h3
    rwa [h5] at this
  · exact World.cell?_of_block ((grownBy_setCells g cs' n w).block _ (hk.lt _ hp) fun e => hno g rfl (by injection e with e; rw [← e]; exact hp))
theorem EMS.nil0 {l' : List Oper} {qs : List Obj} {F : List Fr} (hF : F = []) (h : EL X ops Q l' ⟨S.regs, qs ++ S.objs, S.facts⟩) : EMS N ops (fun S' E => openF (EL X ops Q l') E ⟨S'.regs, qs ++ S'.objs, S'.facts⟩) [] [] S F := by
  subst hF
  exact ⟨rfl, h⟩
theorem EM.put (hg : guardOf ops S o = some true) (hd : o.dst = none) (hP : Puts ops S o p q) (k : EMS N ops T l ps S E) : EM N ops (fun S' E' => EMS N ops T (o :: l) ((p, q) :: ps) S' E') [] S E := EMS.put hg hd hP k
/-- The pieces in another order. -/
theorem Le.perm {rs : List (Tmp × R)} {os os' : List Obj} {fs : List (Value × D)} (h : os.Perm os') : Le X ⟨rs, os, fs⟩ ⟨rs, os', fs⟩ := fun a w ha => by
  have hok : ∀ b, X.ok os w b → X.ok os' w b := fun b hb => ⟨hb.1, hb.2.1, fun o ho => hb.2.2 o (h.mem_iff.2 ho)⟩
  refine ⟨⟨ha.mem.gr, ?_, fun o ho => (ha.mem.at_ o (h.mem_iff.2 ho)).move hok (fun _ _ => rfl) fun _ _ => rfl, fun f hf => Reads.mono hok (fun _ _ => rfl) _ _ (ha.mem.fact f hf)⟩, fun t r hr => (ha.regs t r hr).mono hok fun _ _ => rfl, ha.size, ha.defers⟩
  exact h.pairwise ha.mem.apart fun {x y} hxy b hb e => hxy b e hb
end
end E
end Go.Proofs.Ytekacgocjplfjaa
/-
  journal: of, in plain.
  Conditions: none.
-/
namespace Go.Proofs.Ytekacgocjplfjaa
set_option linter.unusedVariables false
open Go.RowKit Mono Rlp Jn

namespace Jn
/-- The diff of an item, if it may be one. -/
def ofR (x : Raw) : Option Df := match dfR x with
  | some d => if may d.chs then some d else none
  | none => none
theorem dfR_list {x : Raw} (h : ∀ a b c, isL x ≠ some [a, b, c]) : dfR x = none := by
  unfold dfR
  split
  · rename_i a b c hl
    exact absurd hl (h a b c)
  · rfl
theorem dfR_three {bx b2 : List UInt8} {x2 : List Raw} {i0 i1 : Raw} {f2 : Bool} : dfR (.mk true bx [i0, i1, .mk f2 b2 x2]) = if f2 then (match wholeR i0, wholeR i1, allR chR x2 with | some i, some p, some cs => some ⟨i, p, cs⟩ | _, _, _ => none) else none := by
  unfold dfR wholeR
  simp only [isL]
  cases f2
  · cases isB i0 <;> cases isB i1 <;> rfl
  · cases h0 : isB i0 with
    | none => rfl
    | some a =>
      cases h1 : isB i1 with
      | none =>
        by_cases ha : a.length = 32 <;> simp [ha]
      | some b =>
        by_cases ha : a.length = 32 <;> by_cases hb : b.length = 32 <;> simp [ha, hb]
        cases allR chR x2 <;> rfl
theorem chR_rng {x : Raw} {c : Ch} (h : chR x = some c) : -9223372036854775808 ≤ c.nonce ∧ c.nonce ≤ 9223372036854775807 := by
  unfold chR at h
  split at h <;> try (cases h; done)
  split at h <;> try (cases h; done)
  rename_i h1 h2 h3 h4 h5 h6
  split at h <;> try (cases h; done)
  split at h <;> try (cases h; done)
  cases h
  have := (intR_E h3).2.1
  dsimp only
  omega
theorem allR_rng : ∀ (xs : List Raw) (cs : List Ch), allR chR xs = some cs → ∀ c ∈ cs, -9223372036854775808 ≤ c.nonce ∧ c.nonce ≤ 9223372036854775807
  | [], cs, h, c, hc => by
    cases h
    simp at hc
  | x :: xs, cs, h, c, hc => by
    rw [allR] at h
    cases hx : chR x with
    | none => rw [hx] at h; cases h
    | some y =>
      rw [hx] at h
      dsimp only at h
      cases ht : allR chR xs with
      | none => rw [ht] at h; cases h
      | some zs =>
        rw [ht] at h
        cases h
        rcases List.mem_cons.1 hc with rfl | hc
        · exact chR_rng hx
        · exact allR_rng xs zs ht c hc
end Jn
end Go.Proofs.Ytekacgocjplfjaa
