/-
  Merged (wip/tools/merge.py): E12, E13, RlpRead.
  Conditions: none.
-/
import Derived.Test.YtekacgocjplfjaaZJ6
import Derived.Test.YtekacgocjplfjaaZJ2
/-
  The abstract machine at the top: all that is below may be read; functions whose result may lie anywhere; a variable that is written no more.
  Conditions: none.
-/
namespace Go.Proofs.Ytekacgocjplfjaa
set_option linter.unusedVariables false
open Go.RowKit Mono Rlp
namespace E
/-- A function that makes memory alone, of arguments that may lie anywhere. -/
structure FnA (f : FuncId) (ds : List D) (Φ : R → Prop) : Prop where
  go : ∀ (w : World) (xs : List Value), ReadVs (fun b => b < w.heap.size) w ds xs →
    Calls Try.prog f xs.toArray w fun e w' => Gr w w' ∧ ∃ v r, e = .returned v ∧ Φ r ∧ ReadR (fun b => b < w'.heap.size) w' r v
theorem Fn.all {f : FuncId} {ds : List D} {Φ : R → Prop} (h : Fn f ds Φ) : FnA f ds Φ := ⟨fun w xs hr => (h.go _ w xs (fun _ hb => hb) hr).mono fun e w' ⟨h1, v, r, h2, h3, h4⟩ => ⟨h1, v, r, h2, h3, h4.mono (fun b hb => hb.2) fun _ _ => rfl⟩⟩
theorem FnA.mono {f : FuncId} {ds : List D} {Φ Ψ : R → Prop} (h : FnA f ds Φ) (k : ∀ r, Φ r → Ψ r) : FnA f ds Ψ := ⟨fun w xs hr => (h.go w xs hr).mono fun e w' ⟨h1, v, r, h2, h3, h4⟩ => ⟨h1, v, r, h2, k r h3, h4⟩⟩
def All {N : Nat} (X : Cx N) : Prop := ∀ b, b < X.w0.heap.size → X.ok0 b
section
variable {N : Nat} {X : Cx N} {S : St} {ops : Array Oper} {o : Oper} {Q : Exit → Act → World → Prop} {l : List Oper} {rs : List (Tmp × R)} {os : List Obj} {fs : List (Value × D)}
theorem FnA.walk {f : FuncId} {fn : Func} {c : Code} {ds : List D} {Φ : R → Prop} (N : Nat) (hf : Try.prog.funcs[f]? = some fn) (hb : fn.body = some c) (hN : fn.ntmps = N) (hl : ds.length ≤ N)
    (h : ∀ X : Cx N, All X → EC X (bodyPost Try.prog fn (Out X Φ)) c ⟨regsOf 0 ds, [], []⟩) : FnA f ds Φ := by
  constructor
  intro w xs hr
  have hxl := readVs_len ds xs hr
  refine Calls.mono (calls_of_wp hf hb ((h ⟨w, fun b => b < w.heap.size, fun _ hb => hb⟩ fun _ hb => hb).go _ w ⟨⟨Gr.refl w, List.Pairwise.nil, (fun o ho => by cases ho), (fun f hf => by cases hf)⟩, fun t r ht => ?_, ?_, rfl⟩)) ?_
  · refine regs_read ds xs 0 _ (ReadVs.mono (fun b hb => ⟨.inl hb, hb, (fun o ho => by cases ho)⟩) (fun _ _ => rfl) ds xs hr) (fun j x hx => ?_) t r ht
    have hj := (List.getElem?_eq_some_iff.1 hx).1
    have : (xs.toArray ++ Array.replicate (fn.ntmps - xs.toArray.size) undef)[j]? = some x := by
      rw [Array.getElem?_append_left (by simpa using hj)]
      simpa using hx
    rw [Nat.zero_add, Array.getD_eq_getD_getElem?, this]
    rfl
  · simp [hN]
    omega
  · rintro e w' ⟨h1, v, r, h2, h3, h4⟩
    exact ⟨h1, v, r, h2, h3, h4.mono (fun b hb => hb.2) fun _ _ => rfl⟩
theorem P_callA {t ty f : Nat} {pos : String} {af : Array Edge} {gd : Option (Nat × Bool)} {args : Array Operand} {tys : Array TypeId} {ds ds' : List D} {Φ : R → Prop} (hX : All X) (hF : FnA f ds' Φ) (hx : evs (⟨rs, os, fs⟩ : St) args.toList = some ds) (hR : RefineL fs ds ds') (hf : Enters f) (hos : os = []) (hg : guardOf ops ⟨rs, os, fs⟩ ⟨some t, .call { callee := .value (.func f), args := args, argTypes := tys }, ty, pos, af, gd⟩ = some true) (hN : Nat.blt t N = true) (kk : ∀ r, Φ r → EL X ops Q l ⟨(t, r) :: rs, os, fs⟩) : EL X ops Q (⟨some t, .call { callee := .value (.func f), args := args, argTypes := tys }, ty, pos, af, gd⟩ :: l) ⟨rs, os, fs⟩ := by
  subst hos
  constructor
  intro a w ha
  have hz : ∀ b, b < w.heap.size → X.ok [] w b := fun b hb => ⟨by
    by_cases h : b < X.w0.heap.size
    · exact .inl (hX b h)
    · exact .inr (by omega), hb, (fun o ho => by cases ho)⟩
  unfold wpList
  rw [if_pos (wanted_of ha hg)]
  refine .inl ?_
  have hk := ha.kn fun _ => True
  have hr := hk.evs _ _ hx fun _ _ => trivial
  have hrun : (execOp a.eval ⟨some t, .call { callee := .value (.func f), args := args, argTypes := tys }, ty, pos, af, gd⟩).run Try.prog w = .ok (.enter f (args.map a.eval)) w := by
    unfold execOp
    simp [resolve, Act.eval, Deferred.ofValue, invoke, hf (args.map a.eval) w]
  unfold Oper.wp
  rw [hrun]
  have hr1 := RefineL.readVs hk.facts ds ds' _ hR hr
  have hr' : ReadVs (fun b => b < w.heap.size) w ds' (args.toList.map a.eval) := ReadVs.mono (fun b (hb : X.ok [] w b) => hb.2.1) (fun _ _ => rfl) _ _ hr1
  have hc := hF.go w _ hr'
  have he : (args.toList.map a.eval).toArray = args.map a.eval := by
    apply Array.ext'
    simp
  rw [he] at hc
  simp only [Oper.upon]
  refine hc.mono ?_
  rintro e w' ⟨hgr, v, r, rfl, hr1, hv⟩
  exact (kk r hr1).go _ _ (At.put (d := some t) (ha.gr hgr) (fun u hu => by cases hu; simpa using hN) (hv.mono (fun b hb => ⟨by
    by_cases h : b < X.w0.heap.size
    · exact .inl (hX b h)
    · exact .inr (by omega), hb, (fun o ho => by cases ho)⟩) fun _ _ => rfl))
/-- A variable that is written no more: it is read through its pointer. -/
theorem Le.pin {p : Tmp} {g : Nat} {t : TypeId} {d : D} {pre post : List Obj} (hl : look S.regs p = some (.val (.v (.pointer (some ⟨g, 0, none⟩))))) (ho : S.objs = pre ++ .var g t d :: post) : Le X S ⟨(p, .val (.pd d)) :: S.regs, pre ++ post, S.facts⟩ := by
  intro a w h
  have hm := h.mem
  rw [ho] at hm
  have hsub : (pre ++ post).Sublist S.objs := by rw [ho]; exact List.Sublist.append (List.Sublist.refl _) (List.sublist_cons_self _ _)
  have hl' : At X ⟨S.regs, pre ++ post, S.facts⟩ a w := ⟨h.mem.less hsub (fun _ hf => hf), fun t r ht => ReadR.mono (fun b hb => ⟨hb.1, hb.2.1, fun o hm => hb.2.2 o (hsub.subset hm)⟩) (fun _ _ => rfl) (h.regs t r ht), h.size, h.defers⟩
  refine ⟨hl'.mem, fun u r hu => ?_, hl'.size, hl'.defers⟩
  rw [look] at hu
  split at hu
  · rename_i e
    cases hu
    subst e
    obtain ⟨h1, cs, h2, h3⟩ := hm.at_ (.var g t d) (by simp)
    have hp := (readV_v.1 (h.regs _ _ hl)).2
    rw [hp]
    refine (readV_one rfl).2 ?_
    rw [Reads]
    refine ⟨g, 0, cs, rfl, ⟨.inr h1, lt_of_some h2, fun q hq => ?_⟩, range_of_row h2, Reads.mono (fun b hb => ⟨hb.1, hb.2.1, fun o hm => hb.2.2 o (by
      rcases List.mem_append.1 hm with hm | hm
      · simp [hm]
      · simp [hm])⟩) (fun _ _ => rfl) _ _ h3⟩
    have hap := hm.apart
    rcases List.mem_append.1 hq with hq | hq
    · exact fun e => (List.pairwise_append.1 hap).2.2 q hq _ (List.mem_cons_self) g e rfl
    · exact (List.pairwise_cons.1 (List.pairwise_append.1 hap).2.1).1 q hq g rfl
  · exact hl'.regs u r hu
end
end E
end Go.Proofs.Ytekacgocjplfjaa
/-
  The abstract machine at regions that draw their order and write, meanwhile, variables of the call's own.
  Conditions: none.
-/
namespace Go.Proofs.Ytekacgocjplfjaa
set_option linter.unusedVariables false
open Go.RowKit Mono Rlp
namespace E
def putOf : Inf → List (Obj × Obj)
  | .put p q => [(p, q)]
  | _ => []
def putsOf : List Inf → List (Obj × Obj)
  | [] => []
  | i :: l => putOf i ++ putsOf l
def EMS (N : Nat) (ops : Array Oper) (T : St → List Fr → Prop) : List Oper → List (Obj × Obj) → St → List Fr → Prop
  | [], ps, S, E => ps = [] ∧ T S E
  | o :: l, ps, S, E => ∃ (inf : Inf) (ps' : List (Obj × Obj)), ps = putOf inf ++ ps' ∧ offB N o.dst E = true ∧ ((∃ T d, inf = .new T d) → o.dst ≠ none) ∧ OkI N ops S o inf ∧ EMS N ops T l ps' (S.put o.dst inf.reg) (nextE E o.dst inf)
section
variable {N : Nat} {X : Cx N} {S S' : St} {a : Act} {w w' : World} {ops : Array Oper} {o : Oper} {Q : Exit → Act → World → Prop} {l : List Oper} {T : St → List Fr → Prop} {E : List Fr} {p q : Obj} {ps : List (Obj × Obj)}
theorem EMS.nil (h : T S E) : EMS N ops T [] [] S E := ⟨rfl, h⟩
theorem EMS.put (hg : guardOf ops S o = some true) (hd : o.dst = none) (hP : Puts ops S o p q) (k : EMS N ops T l ps S E) : EMS N ops T (o :: l) ((p, q) :: ps) S E :=
  ⟨.put p q, ps, rfl, by rw [hd]; rfl, (fun ⟨_, _, e⟩ => by cases e), ⟨hg, hd, hP⟩, by rw [hd]; exact k⟩
theorem EMS.seg {l2 : List Oper} : ∀ (l1 : List Oper) (S : St) (E : List Fr), EM N ops (fun S' E' => EMS N ops T l2 ps S' E') l1 S E → EMS N ops T (l1 ++ l2) ps S E
  | [], S, E, h => h
  | o :: l1, S, E, ⟨inf, h0, h1, h2, h3, h4⟩ => ⟨inf, ps, (by cases inf with
    | put _ _ => cases h0
    | _ => rfl), h1, h2, h3, EMS.seg l1 _ _ h4⟩
theorem EMS.cut (k : Nat) (h : EM N ops (fun S' E' => EMS N ops T (l.drop k) ps S' E') (l.take k) S E) : EMS N ops T l ps S E := by
  have := EMS.seg _ _ _ h
  rwa [List.take_append_drop] at this
theorem ems_list : ∀ (l : List Oper) (ps : List (Obj × Obj)) (S : St) (E : List Fr), EMS N ops T l ps S E → ∃ infs : List Inf, infs.length = l.length ∧
    (∀ k o i, l[k]? = some o → infs[k]? = some i → OkI N ops (stAt S l infs k) o i ∧ (∀ t, o.dst = some t → t < N ∧ (∀ x ∈ E, x.1 ≠ t) ∧ ∀ j oj T d, j < k → l[j]? = some oj → infs[j]? = some (.new T d) → oj.dst ≠ some t) ∧ ((∃ T d, i = .new T d) → o.dst ≠ none)) ∧
    T (stAt S l infs l.length) (frAt E l infs) ∧ putsOf infs = ps
  | [], ps, S, E, h => ⟨[], rfl, (fun k o i h => by simp at h), h.2, h.1.symm⟩
  | o :: l, ps, S, E, h => by
    obtain ⟨inf, ps', hps, h1, h1', h2, h3⟩ := h
    obtain ⟨infs, h4, h5, h6, h7⟩ := ems_list l _ _ _ h3
    have hoff : ∀ t, o.dst = some t → t < N ∧ ∀ x ∈ E, x.1 ≠ t := fun t ht => by
      rw [ht] at h1
      simp only [offB, Bool.and_eq_true, decide_eq_true_eq] at h1
      exact ⟨h1.1, fun x hx => by simpa using List.all_eq_true.1 h1.2 x hx⟩
    refine ⟨inf :: infs, by simp [h4], fun k o' i hk hi => ?_, h6, by rw [putsOf, h7, hps]⟩
    cases k with
    | zero =>
      cases hk
      cases hi
      exact ⟨h2, fun t ht => ⟨(hoff t ht).1, (hoff t ht).2, fun j _ _ _ hj => by omega⟩, h1'⟩
    | succ k =>
      obtain ⟨g1, g2, g3⟩ := h5 k o' i (by simpa using hk) (by simpa using hi)
      refine ⟨g1, fun t ht => ⟨(g2 t ht).1, fun x hx => (g2 t ht).2.1 x ?_, fun j oj T d hj hoj hij => ?_⟩, g3⟩
      · unfold nextE
        split
        · split
          · exact List.mem_append_left _ hx
          · exact hx
        · exact hx
      · cases j with
        | zero =>
          cases hoj
          cases hij
          intro e
          exact (g2 t ht).2.1 (t, T, d) (by unfold nextE; rw [e]; simp) rfl
        | succ j => exact (g2 t ht).2.2 j oj T d (by omega) (by simpa using hoj) (by simpa using hij)

theorem puts_mem : ∀ (infs : List Inf) (k : Nat) (p q : Obj), infs[k]? = some (.put p q) → (p, q) ∈ putsOf infs
  | [], k, p, q, h => by simp at h
  | i :: infs, 0, p, q, h => by
    cases h
    simp [putsOf, putOf]
  | i :: infs, k + 1, p, q, h => by
    rw [putsOf]
    exact List.mem_append_right _ (puts_mem infs k p q (by simpa using h))
theorem puts_ix : ∀ (infs : List Inf) (p q : Obj), (p, q) ∈ putsOf infs → ∃ k : Nat, infs[k]? = some (.put p q)
  | [], p, q, h => by simp [putsOf] at h
  | i :: infs, p, q, h => by
    rw [putsOf] at h
    rcases List.mem_append.1 h with h | h
    · cases i <;> simp [putOf] at h
      obtain ⟨rfl, rfl⟩ := h
      exact ⟨0, rfl⟩
    · obtain ⟨k, hk⟩ := puts_ix infs p q h
      exact ⟨k + 1, by simpa using hk⟩
theorem puts_apart : ∀ (infs : List Inf), ((putsOf infs).map (·.1)).Pairwise (fun o p : Obj => ∀ b, o.blk = some b → p.blk ≠ some b) → ∀ (k k' : Nat) (p q p' q' : Obj), infs[k]? = some (.put p q) → infs[k']? = some (.put p' q') → k ≠ k' → ∀ b, p.blk = some b → p'.blk ≠ some b
  | [], _, k, k', p, q, p', q', h, _, _ => by simp at h
  | i :: infs, hp, k, k', p, q, p', q', h, h', hne => by
    rw [putsOf, List.map_append] at hp
    obtain ⟨h1, h2, h3⟩ := List.pairwise_append.1 hp
    cases k with
    | zero =>
      cases h
      cases k' with
      | zero => exact absurd rfl hne
      | succ k' => exact h3 p (by simp [putOf]) p' (List.mem_map.2 ⟨_, puts_mem infs k' p' q' (by simpa using h'), rfl⟩)
    | succ k =>
      cases k' with
      | zero =>
        cases h'
        intro b hb e
        exact h3 p' (by simp [putOf]) p (List.mem_map.2 ⟨_, puts_mem infs k p q (by simpa using h), rfl⟩) b e hb
      | succ k' => exact puts_apart infs h2 k k' p q p' q' (by simpa using h) (by simpa using h') (by omega)
/-- A world that has more memory, and other cells in some blocks. -/
structure GrE (H : Nat → Prop) (w w' : World) : Prop where
  os : w'.os = w.os
  tape : w'.tape = w.tape
  output : w'.output = w.output
  size : w.heap.size ≤ w'.heap.size
  block : ∀ k, k < w.heap.size → ¬ H k → w'.heap[k]? = w.heap[k]?
theorem GrE.of {H : Nat → Prop} (h : Gr w w') : GrE H w w' := ⟨h.os, h.tape, h.output, h.size, fun k hk _ => h.block k hk⟩
theorem GrE.cell {H : Nat → Prop} (h : GrE H w w') {p : Addr} (hp : p.block < w.heap.size) (hn : ¬ H p.block) : w'.cell? p = w.cell? p := World.cell?_of_block (h.block _ hp hn)
theorem Obj.At.move {base : Nat} {z z' : Nat → Prop} {u u' : World} {o : Obj} (h : o.At base z u) (hz : ∀ b, z b → z' b) (hc : ∀ p : Addr, z p.block → u'.cell? p = u.cell? p) (hb : ∀ g, o.blk = some g → u'.heap[g]? = u.heap[g]?) : o.At base z' u' := by
  cases o with
  | var g t d =>
    obtain ⟨h1, cs, h2, h3⟩ := h
    exact ⟨h1, cs, (hb g rfl).trans h2, Reads.mono hz hc _ _ h3⟩
  | row v e s ds =>
    obtain ⟨rows, h1, h2⟩ := h
    refine ⟨rows, ⟨h1.1, ?_⟩, ReadsRows.mono hz hc s ds rows h2⟩
    rcases h1.2 with h1 | ⟨g, cap, cur, k1, k2, k3, k4⟩
    · exact .inl h1
    · exact .inr ⟨g, cap, cur, k1, k2, by rw [hb g (by rw [k1]; rfl)]; exact k3, k4⟩
structure GP (X : Cx N) (S : St) (infs : List Inf) (ws : World) (F : Nat → Nat → Prop) (L : Nat → Prop) (vs : Nat → Value) (u : World) : Prop where
  gr : GrE (fun b => ∃ (k : Nat) (p q : Obj), infs[k]? = some (.put p q) ∧ p.blk = some b) ws u
  lo : ∀ j, L j → ∀ b, F j b → ws.heap.size ≤ b ∧ b < u.heap.size
  dis : ∀ i j b, L i → L j → i ≠ j → F i b → ¬ F j b
  val : ∀ j i, L j → infs[j]? = some i → (match (generalizing := false) i with
    | .new T d => ∃ g cs, vs j = .pointer (some ⟨g, 0, none⟩) ∧ (∀ b, F j b ↔ b = g) ∧ u.heap[g]? = some (.cells cs.toArray T (0, 0)) ∧ Reads (zone X S infs ws F L) u d cs
    | i => ReadR (zone X S infs ws F L) u i.reg (vs j))
  put : ∀ (k : Nat) (p q : Obj), infs[k]? = some (.put p q) → (L k → q.At X.w0.heap.size (zone X S infs ws F L) u) ∧ (¬ L k → p.At X.w0.heap.size (zone X S infs ws F L) u)
/-- What the pieces that are written are. -/
structure PutsOk (X : Cx N) (S : St) (infs : List Inf) (ws : World) : Prop where
  low : ∀ (k : Nat) (p q : Obj) (b : Nat), infs[k]? = some (.put p q) → p.blk = some b → ¬ X.ok S.objs ws b ∧ b < ws.heap.size
  apart : ∀ (k k' : Nat) (p q p' q' : Obj), infs[k]? = some (.put p q) → infs[k']? = some (.put p' q') → k ≠ k' → ∀ b, p.blk = some b → p'.blk ≠ some b
  same : ∀ (k : Nat) (p q : Obj), infs[k]? = some (.put p q) → q.blk = p.blk
theorem GP.lt {infs : List Inf} {ws : World} {F : Nat → Nat → Prop} {L : Nat → Prop} {vs : Nat → Value} {u : World} (h : GP X S infs ws F L vs u) {b : Nat} (hb : zone X S infs ws F L b) : b < u.heap.size := by
  rcases hb with hb | ⟨i, h1, _, h2⟩
  · exact Nat.lt_of_lt_of_le hb.2.1 h.gr.size
  · exact (h.lo i h1 b h2).2
theorem GP.off {infs : List Inf} {ws : World} {F : Nat → Nat → Prop} {L : Nat → Prop} {vs : Nat → Value} {u : World} (h : GP X S infs ws F L vs u) (hP : PutsOk X S infs ws) {k b : Nat} (hk : infs[k]? = some (.put p q)) (hp : p.blk = some b) : ¬ zone X S infs ws F L b := by
  have := hP.low k p q b hk hp
  rintro (hb | ⟨i, h1, _, h2⟩)
  · exact this.1 hb
  · have := (h.lo i h1 b h2).1
    omega
theorem GP.step {infs : List Inf} {ws : World} {F : Nat → Nat → Prop} {L : Nat → Prop} {vs : Nat → Value} {u u' : World} (h : GP X S infs ws F L vs u) (hP : PutsOk X S infs ws) {k : Nat} {i : Inf} (hi : infs[k]? = some i) (hk : ¬ L k) (H : Nat → Prop) (hH : ∀ b, H b → ∃ p q : Obj, i = .put p q ∧ p.blk = some b) (hg : GrE H u u') (v : Value) (f : Nat → Prop) (hf : ∀ b, f b → u.heap.size ≤ b ∧ b < u'.heap.size)
    (hv : (∀ b, zone X S infs ws F L b → zone X S infs ws (fun j => if j = k then f else F j) (fun j => j = k ∨ L j) b) → (match (generalizing := false) i with
      | .new T d => ∃ g cs, v = .pointer (some ⟨g, 0, none⟩) ∧ (∀ b, f b ↔ b = g) ∧ u'.heap[g]? = some (.cells cs.toArray T (0, 0)) ∧ Reads (zone X S infs ws (fun j => if j = k then f else F j) (fun j => j = k ∨ L j)) u' d cs
      | i => ReadR (zone X S infs ws (fun j => if j = k then f else F j) (fun j => j = k ∨ L j)) u' i.reg v))
    (hq : ∀ p q : Obj, i = .put p q → q.At X.w0.heap.size (zone X S infs ws F L) u') :
    GP X S infs ws (fun j => if j = k then f else F j) (fun j => j = k ∨ L j) (fun j => if j = k then v else vs j) u' := by
  have hF : ∀ j, L j → (if j = k then f else F j) = F j := fun j hj => if_neg fun e => hk (by rw [← e]; exact hj)
  have hz : ∀ b, zone X S infs ws F L b → zone X S infs ws (fun j => if j = k then f else F j) (fun j => j = k ∨ L j) b := fun b hb => by
    rcases hb with hb | ⟨i, h1, h2, h3⟩
    · exact .inl hb
    · exact .inr ⟨i, .inr h1, h2, by show (if i = k then f else F i) b; rw [hF i h1]; exact h3⟩
  have hHz : ∀ b, H b → ¬ zone X S infs ws F L b := fun b hb => by
    obtain ⟨p, q, rfl, hp⟩ := hH b hb
    exact h.off hP hi hp
  have hc : ∀ p : Addr, zone X S infs ws F L p.block → u'.cell? p = u.cell? p := fun p hp => hg.cell (h.lt hp) fun hn => hHz _ hn hp
  refine ⟨⟨hg.os.trans h.gr.os, hg.tape.trans h.gr.tape, hg.output.trans h.gr.output, Nat.le_trans h.gr.size hg.size, fun b hb hn => ?_⟩, fun j hj b hb => ?_, fun i j b hi hj hij hb => ?_, fun j i' hj hi' => ?_, fun k' p' q' hk' => ?_⟩
  · rw [hg.block b (Nat.lt_of_lt_of_le hb h.gr.size) fun hn' => by
      obtain ⟨p, q, rfl, hp⟩ := hH b hn'
      exact hn ⟨k, p, q, hi, hp⟩]
    exact h.gr.block b hb hn
  · by_cases e : j = k
    · rw [if_pos e] at hb
      exact ⟨Nat.le_trans h.gr.size (hf b hb).1, (hf b hb).2⟩
    · rw [if_neg e] at hb
      have := h.lo j (hj.resolve_left e) b hb
      exact ⟨this.1, Nat.lt_of_lt_of_le this.2 hg.size⟩
  · by_cases e1 : i = k
    · by_cases e2 : j = k
      · exact absurd (e1.trans e2.symm) hij
      · rw [if_pos e1] at hb
        rw [if_neg e2]
        intro hb2
        have := (h.lo j (hj.resolve_left e2) b hb2).2
        have := (hf b hb).1
        omega
    · rw [if_neg e1] at hb
      by_cases e2 : j = k
      · rw [if_pos e2]
        intro hb2
        have := (h.lo i (hi.resolve_left e1) b hb).2
        have := (hf b hb2).1
        omega
      · rw [if_neg e2]
        exact h.dis i j b (hi.resolve_left e1) (hj.resolve_left e2) hij hb
  · by_cases e : j = k
    · subst e
      obtain rfl : i' = i := Option.some.inj (hi'.symm.trans hi)
      simp only [if_true]
      exact hv hz
    · have hj' := hj.resolve_left e
      have h0 := h.val j i' hj' hi'
      simp only [if_neg e]
      cases i' with
      | new T d =>
        obtain ⟨g, cs, g1, g2, g3, g4⟩ := h0
        have hlo := h.lo j hj' g ((g2 g).2 rfl)
        exact ⟨g, cs, g1, g2, (hg.block g (lt_of_some g3) fun hn => by
          obtain ⟨p, q, rfl, hp⟩ := hH g hn
          have := (hP.low k p q g hi hp).2
          omega).trans g3, Reads.mono hz hc _ _ g4⟩
      | still r => exact ReadR.mono hz hc h0
      | grow r => exact ReadR.mono hz hc h0
      | skip => trivial
      | put p q => trivial
  · by_cases e : k' = k
    · subst e
      obtain rfl : i = .put p' q' := Option.some.inj (hi.symm.trans hk')
      refine ⟨fun _ => (hq p' q' rfl).move hz (fun _ _ => rfl) (fun _ _ => rfl), fun hn => absurd (.inl rfl) hn⟩
    · have hb : ∀ g, p'.blk = some g → u'.heap[g]? = u.heap[g]? := fun g hg' => hg.block g (Nat.lt_of_lt_of_le (hP.low k' p' q' g hk' hg').2 h.gr.size) fun hn => by
        obtain ⟨p, q, rfl, hp⟩ := hH g hn
        exact hP.apart k k' p q p' q' hi hk' (fun e' => e e'.symm) g hp hg'
      obtain ⟨h1, h2⟩ := h.put k' p' q' hk'
      refine ⟨fun hL => (h1 (hL.resolve_left e)).move hz hc fun g hg' => hb g (by rw [← hP.same k' p' q' hk']; exact hg'), fun hn => (h2 fun hL => hn (.inr hL)).move hz hc hb⟩
set_option maxHeartbeats 2000000 in
/-- **THE RULE** for a region that draws its order and writes variables of the call's own. -/
theorem EC.drawS {id : Nat} (n : Nat) (ps : List (Obj × Obj)) (os1 : List Obj) (hB : monoB l.toArray n N = true) (hS : S.objs = ps.map (·.1) ++ os1) (h : EMS N l.toArray (fun S' E => openF (EL X l.toArray Q (l.drop n)) E ⟨S'.regs, ps.map (·.2) ++ S'.objs, S'.facts⟩) (l.take n) ps ⟨S.regs, os1, S.facts⟩ []) : EC X Q (.region id l.toArray true) S := by
  constructor
  intro a ws ha
  obtain ⟨infs, hlen, hok, hT, hps⟩ := ems_list _ _ _ _ h
  have hle : n ≤ l.length := by simpa using (facts_of_monoB hB).le
  have hln : (l.take n).length = n := by simp; omega
  rw [hln] at hlen hT
  have htake : ∀ k, k < n → (l.take n)[k]? = l[k]? := fun k hk => by rw [List.getElem?_take, if_pos hk]
  have hdst : ∀ k o, l[k]? = some o → dstOf l.toArray k = o.dst := fun k o ho => by unfold dstOf; simp [ho]
  have hks := ha.kn fun _ => True
  have hap := ha.mem.apart
  rw [hS, List.pairwise_append] at hap
  have hin : ∀ (k : Nat) (p q : Obj), infs[k]? = some (.put p q) → p ∈ S.objs := fun k p q hk => by
    rw [hS, ← hps]
    exact List.mem_append_left _ (List.mem_map.2 ⟨_, puts_mem infs k p q hk, rfl⟩)
  have hos : ∀ o ∈ os1, o ∈ S.objs := fun o ho => by rw [hS]; exact List.mem_append_right _ ho
  have hnn : ∀ (k : Nat) (i : Inf), infs[k]? = some i → k < n := fun k i hk => by have := (List.getElem?_eq_some_iff.1 hk).1; omega
  have hsame : ∀ (k : Nat) (p q : Obj), infs[k]? = some (.put p q) → q.blk = p.blk := fun k p q hk => by
    have hkn := hnn k _ hk
    have := (hok k l[k] _ (by rw [htake k hkn]; simp) hk).1
    exact this.2.2.1
  have hP : PutsOk X S infs ws := ⟨fun k p q b hk hb => ⟨fun hz => hz.2.2 p (hin k p q hk) hb, (Obj.blk_lt (ha.mem.at_ p (hin k p q hk)) hb).2⟩, puts_apart infs (by rw [hps]; exact hap.1), hsame⟩
  refine wp_region_set n (by kernel_rfl) (by rw [ha.size]; exact hB) (fun L vs u => ∃ F, GP X S infs ws F L vs u) ?_ ?_ ?_ ?_
  · rintro L L' vs vs' w hL hvs ⟨F, hG⟩
    obtain rfl : L = L' := funext fun j => propext (hL j)
    refine ⟨F, hG.gr, hG.lo, hG.dis, fun j i hj hi => ?_, hG.put⟩
    rw [← hvs j hj]
    exact hG.val j i hj hi
  · exact ⟨fun _ _ => False, ⟨⟨rfl, rfl, rfl, Nat.le_refl _, fun _ _ _ => rfl⟩, fun _ h => h.elim, fun _ _ _ h => h.elim, fun _ _ h => h.elim, fun k p q hk => ⟨fun h => h.elim, fun _ => (ha.mem.at_ p (hin k p q hk)).move (fun _ => .inl) (fun _ _ => rfl) fun _ _ => rfl⟩⟩⟩
  · intro k o L vs b u hk ho hL hLk ⟨F, hG⟩ hslot
    obtain ⟨i, hi⟩ : ∃ i, infs[k]? = some i := ⟨infs[k], by simp [hlen, hk]⟩
    obtain ⟨hO, hof, _⟩ := hok k o i (by rw [htake k hk]; exact ho) hi
    have hc : ∀ p : Addr, X.ok S.objs ws p.block → u.cell? p = ws.cell? p := fun p hp => hG.gr.cell hp.2.1 fun ⟨k, p', q', hk, hb⟩ => (hP.low k p' q' _ hk hb).1 hp
    have hmv : ∀ o ∈ os1, o.At X.w0.heap.size (zone X S infs ws F L) u := fun o ho => (ha.mem.at_ o (hos o ho)).move (fun _ => .inl) hc fun g hg => hG.gr.block g (Obj.blk_lt (ha.mem.at_ o (hos o ho)) hg).2 fun ⟨k, p', q', hk, hb⟩ => hap.2.2 p' (List.mem_map.2 ⟨_, by rw [← hps]; exact puts_mem infs k p' q' hk, rfl⟩) o ho g hb hg
    have hkn : Kn X.w0.heap.size (zone X S infs ws F L) (fun t => t ∈ o.looksAt l.toArray) (stAt ⟨S.regs, os1, S.facts⟩ (l.take n) infs k) b u := by
      refine ⟨fun p hp => ?_, fun f hf => ?_, fun b hb => hG.lt hb, fun t r ht hr => ?_⟩
      · rw [(stAt_objs _ _ _ _).1] at hp
        exact hmv p hp
      · rw [(stAt_objs _ _ _ _).2] at hf
        exact Reads.mono (fun _ => .inl) hc _ _ (hks.facts f hf)
      · have hlk := stAt_look (l.take n) infs k ⟨S.regs, os1, S.facts⟩ t (by rw [hlen, hln]) (by omega)
        rcases hslot t ht with ⟨j, h1, h2, h3, h4, h5⟩ | ⟨h1, h2⟩
        · have hjl : j < l.length := by omega
          have hoj : l[j]? = some l[j] := by simp
          have hij : infs[j]? = some infs[j] := by simp
          rw [hlk.1 j l[j] infs[j] h1 (by rw [htake j (by omega)]; exact hoj) hij (by rw [← hdst j _ hoj]; exact h2) fun m om h6 h7 hom => by
            rw [htake m (by omega)] at hom
            rw [← hdst m _ hom]
            exact h3 m h6 h7] at hr
          cases hr
          rw [h5]
          have := hG.val j _ h4 hij
          cases hinf : infs[j] with
          | new T d => trivial
          | still r => rw [hinf] at this; exact this
          | grow r => rw [hinf] at this; exact this
          | skip => trivial
          | put p q => trivial
        · rw [hlk.2 fun j oj hj hoj => by
            rw [htake j (by omega)] at hoj
            rw [← hdst j _ hoj]
            exact h1 j hj] at hr
          rw [h2]
          exact (ha.regs t r hr).mono (fun _ => .inl) hc
    have hstep : ∀ (H : Nat → Prop) (_ : ∀ b, H b → ∃ p q : Obj, i = .put p q ∧ p.blk = some b) v u', GrE H u u' → (∀ p q : Obj, i = .put p q → q.At X.w0.heap.size (zone X S infs ws F L) u') → ∀ f : Nat → Prop, (∀ b, f b → u.heap.size ≤ b ∧ b < u'.heap.size) → ((∀ b, zone X S infs ws F L b → zone X S infs ws (fun j => if j = k then f else F j) (fun j => j = k ∨ L j) b) → (match (generalizing := false) i with
      | .new T d => ∃ g cs, v = .pointer (some ⟨g, 0, none⟩) ∧ (∀ b, f b ↔ b = g) ∧ u'.heap[g]? = some (.cells cs.toArray T (0, 0)) ∧ Reads (zone X S infs ws (fun j => if j = k then f else F j) (fun j => j = k ∨ L j)) u' d cs
      | i => ReadR (zone X S infs ws (fun j => if j = k then f else F j) (fun j => j = k ∨ L j)) u' i.reg v)) → ∃ F, GP X S infs ws F (fun j => j = k ∨ L j) (fun j => if j = k then v else vs j) u' := fun H hH v u' hg hq f hf hv =>
      ⟨_, hG.step hP hi hLk H hH hg v f hf hv hq⟩
    cases i with
    | still r =>
      obtain ⟨hg, hS⟩ := hO
      refine ⟨fun _ => ?_, fun hw => by rw [wanted_kn hkn hg] at hw; cases hw⟩
      obtain ⟨v, h1, h2⟩ := hS _ _ b u hkn
      rw [h1]
      exact (hstep (fun _ => False) (fun _ h => h.elim) v u (.of (Gr.refl u)) (fun _ _ e => by cases e) (fun _ => False) (fun _ h => h.elim) fun hz => ReadR.mono hz (fun _ _ => rfl) h2)
    | grow r =>
      obtain ⟨hg, hS⟩ := hO
      refine ⟨fun _ => setsTo_of_grows (hS _ _ b u hkn) (fun v w' hgr hv => ?_), fun hw => by rw [wanted_kn hkn hg] at hw; cases hw⟩
      obtain ⟨r', rfl, hv⟩ := hv
      refine hstep (fun _ => False) (fun _ h => h.elim) v w' (.of hgr) (fun _ _ e => by cases e) (fun b => u.heap.size ≤ b ∧ b < w'.heap.size) (fun _ h => h) fun hz => ReadR.mono (fun b hb => ?_) (fun _ _ => rfl) hv
      rcases hb.1 with h1 | h1
      · exact hz b h1
      · exact .inr ⟨k, .inl rfl, (fun T d e => by rw [hi] at e; cases e), by show (if k = k then _ else F k) b; rw [if_pos rfl]; exact ⟨h1, hb.2⟩⟩
    | put p q =>
      obtain ⟨hg, hd, _, hS'⟩ := hO
      refine ⟨fun _ => ?_, fun hw => by rw [wanted_kn hkn hg] at hw; cases hw⟩
      obtain ⟨u', g, h1, h2, h3, h4⟩ := hS' _ _ b u hkn (fun g hb => hG.off hP hi hb) ((hG.put k p q hi).2 hLk)
      rw [h1]
      refine hstep (fun b => b = g) (fun b e => ⟨p, q, rfl, by rw [e]; exact h2⟩) undef u' ⟨h3.os, h3.tape, h3.output, h3.size, fun j hj hn => h3.block j hj fun e => hn (by injection e)⟩ (fun p' q' e => by cases e; exact h4) (fun _ => False) (fun _ h => h.elim) fun _ => trivial
    | skip =>
      refine ⟨fun hw => (by rw [wanted_kn hkn hO] at hw; cases hw), fun _ => ?_⟩
      exact hstep (fun _ => False) (fun _ h => h.elim) undef u (.of (Gr.refl u)) (fun _ _ e => by cases e) (fun _ => False) (fun _ h => h.elim) fun _ => trivial
    | new T d =>
      obtain ⟨hg, hS⟩ := hO
      refine ⟨fun _ => ?_, fun hw => by rw [wanted_kn hkn hg] at hw; cases hw⟩
      obtain ⟨cs, h1, h2⟩ := hS _ _ b u hkn
      rw [h1]
      have hgr := gr_alloc u (.cells cs.toArray T)
      exact hstep (fun _ => False) (fun _ h => h.elim) _ _ (.of hgr) (fun _ _ e => by cases e) (fun b => b = u.heap.size) (fun b e => by subst e; simp) fun hz => ⟨u.heap.size, cs, rfl, fun b => Iff.rfl, heap_alloc_new u _, Reads.mono hz (fun p hp => hgr.cell (hG.lt hp)) _ _ h2⟩
  · intro vs u b ⟨F, hG⟩ hs hd hslot
    have hc : ∀ p : Addr, X.ok S.objs ws p.block → u.cell? p = ws.cell? p := fun p hp => hG.gr.cell hp.2.1 fun ⟨k, p', q', hk, hb⟩ => (hP.low k p' q' _ hk hb).1 hp
    have hmv : ∀ o ∈ os1, o.At X.w0.heap.size (zone X S infs ws F (fun j => j < n)) u := fun o ho => (ha.mem.at_ o (hos o ho)).move (fun _ => .inl) hc fun g hg => hG.gr.block g (Obj.blk_lt (ha.mem.at_ o (hos o ho)) hg).2 fun ⟨k, p', q', hk, hb⟩ => hap.2.2 p' (List.mem_map.2 ⟨_, by rw [← hps]; exact puts_mem infs k p' q' hk, rfl⟩) o ho g hb hg
    have hsz := ha.mem.gr.size
    have hblk : (ps.map (·.2)).map Obj.blk = (ps.map (·.1)).map Obj.blk := by
      rw [List.map_map, List.map_map]
      refine List.map_congr_left fun e he => ?_
      obtain ⟨k, hk⟩ := puts_ix infs e.1 e.2 (by rw [hps]; exact he)
      exact hsame k _ _ hk
    have hobj : ∀ o ∈ ps.map (·.2) ++ os1, ∀ b, o.blk = some b → ∃ o' ∈ S.objs, o'.blk = some b := fun o ho b hb => by
      rcases List.mem_append.1 ho with ho | ho
      · obtain ⟨e, he, rfl⟩ := List.mem_map.1 ho
        obtain ⟨k, hk⟩ := puts_ix infs e.1 e.2 (by rw [hps]; exact he)
        exact ⟨e.1, hin k _ _ hk, by rw [← hsame k _ _ hk]; exact hb⟩
      · exact ⟨o, hos o ho, hb⟩
    have hgood : Good X (zone X S infs ws F fun j => j < n) ⟨(stAt ⟨S.regs, os1, S.facts⟩ (l.take n) infs n).regs, ps.map (·.2) ++ os1, (stAt ⟨S.regs, os1, S.facts⟩ (l.take n) infs n).facts⟩ b u := by
      refine ⟨fun p hp => ?_, ?_, fun p hp b hb e => ?_, fun f hf => ?_, fun t r hr => ?_⟩
      · rcases List.mem_append.1 hp with hp | hp
        · obtain ⟨e, he, rfl⟩ := List.mem_map.1 hp
          obtain ⟨k, hk⟩ := puts_ix infs e.1 e.2 (by rw [hps]; exact he)
          exact (hG.put k _ _ hk).1 (hnn k _ hk)
        · exact hmv p hp
      · have h0 := ha.mem.apart
        rw [hS] at h0
        have h1 : ((ps.map (·.1) ++ os1).map Obj.blk).Pairwise fun x y : Option Nat => ∀ b, x = some b → y ≠ some b := List.pairwise_map.2 h0
        rw [List.map_append, ← hblk, ← List.map_append] at h1
        exact List.pairwise_map.1 h1
      · obtain ⟨o', ho', e'⟩ := hobj p hp b e
        rcases hb with hb | ⟨i, h1, _, h2⟩
        · exact hb.2.2 o' ho' e'
        · have := (Obj.blk_lt (ha.mem.at_ o' ho') e').2
          have := (hG.lo i h1 b h2).1
          omega
      · rw [(stAt_objs _ _ _ _).2] at hf
        exact Reads.mono (fun _ => .inl) hc _ _ (hks.facts f hf)
      · have hlk := stAt_look (l.take n) infs n ⟨S.regs, os1, S.facts⟩ t (by rw [hlen, hln]) (by omega)
        rcases hslot t with ⟨j, h1, h2, h3, h4, h5⟩ | ⟨h1, h2⟩
        · have hjl : j < l.length := by omega
          have hoj : l[j]? = some l[j] := by simp
          have hij : infs[j]? = some infs[j] := by simp
          rw [hlk.1 j l[j] infs[j] h1 (by rw [htake j (by omega)]; exact hoj) hij (by rw [← hdst j _ hoj]; exact h2) fun m om h6 h7 hom => by
            rw [htake m (by omega)] at hom
            rw [← hdst m _ hom]
            exact h3 m h6 h7] at hr
          cases hr
          rw [h5]
          have := hG.val j _ h4 hij
          cases hinf : infs[j] with
          | new T d => trivial
          | still r => rw [hinf] at this; exact this
          | grow r => rw [hinf] at this; exact this
          | skip => trivial
          | put p q => trivial
        · rw [hlk.2 fun j oj hj hoj => by
            rw [htake j (by omega)] at hoj
            rw [← hdst j _ hoj]
            exact h1 j hj] at hr
          rw [h2]
          exact (ha.regs t r hr).mono (fun _ => .inl) hc
    let gOf : Nat → Nat := fun j => match vs j with
      | .pointer (some p) => p.block
      | _ => 0
    have hfr : ∀ j T d, infs[j]? = some (.new T d) → ∃ cs, vs j = .pointer (some ⟨gOf j, 0, none⟩) ∧ (∀ b, F j b ↔ b = gOf j) ∧ u.heap[gOf j]? = some (.cells cs.toArray T (0, 0)) ∧ Reads (zone X S infs ws F fun j => j < n) u d cs := fun j T d hj => by
      have hjn : j < n := by
        have := (List.getElem?_eq_some_iff.1 hj).1
        omega
      obtain ⟨g, cs, g1, g2, g3, g4⟩ := hG.val j _ hjn hj
      have hg : gOf j = g := by simp only [gOf, g1]
      rw [hg]
      exact ⟨cs, g1, g2, g3, g4⟩
    have hE := frIx_map (l.take n) infs 0 []
    rw [List.nil_append] at hE
    rw [hE] at hT
    have hmm : (frIx 0 (l.take n) infs).map (·.1) = ((frIx 0 (l.take n) infs).map fun e => (e.1, gOf e.2)).map (·.1) := by simp [List.map_map, Function.comp_def]
    rw [hmm] at hT
    rw [(stAt_objs _ _ _ _).1] at hT
    have hEL := openF_ext _ _ hT
    refine hEL.go b u ((Good.ext _ _ hgood (fun e he => ?_) ?_ fun e he o ho => ?_).at ⟨hG.gr.os.trans ha.mem.gr.os, hG.gr.tape.trans ha.mem.gr.tape, hG.gr.output.trans ha.mem.gr.output, Nat.le_trans ha.mem.gr.size hG.gr.size, fun k hk => (hG.gr.block k (Nat.lt_of_lt_of_le hk ha.mem.gr.size) fun ⟨j, p', q', hj, hb⟩ => by
      have := (Obj.blk_lt (ha.mem.at_ p' (hin j p' q' hj)) hb).1
      omega).trans (ha.mem.gr.block k hk)⟩ (fun b hb => ?_) (hs.trans ha.size) (hd.trans ha.defers))
    · obtain ⟨e0, he0, rfl⟩ := List.mem_map.1 he
      obtain ⟨j, o, h1, h2, h3, h4⟩ := frIx_mem _ _ _ _ he0
      rw [Nat.zero_add] at h1
      have hjn : j < n := by
        have := (List.getElem?_eq_some_iff.1 h4).1
        omega
      obtain ⟨cs, g1, g2, g3, g4⟩ := hfr j _ _ h4
      rw [htake j hjn] at h2
      dsimp only
      rw [h1]
      refine ⟨Nat.le_trans hsz (hG.lo j hjn _ ((g2 _).2 rfl)).1, fun hz => ?_, ?_, cs, g3, g4⟩
      · rcases hz with hz | ⟨i, k1, k2, k3⟩
        · have := (hG.lo j hjn _ ((g2 _).2 rfl)).1
          have := hz.2.1
          omega
        · by_cases e : i = j
          · subst e
            exact k2 _ _ h4
          · exact hG.dis i j _ k1 hjn e k3 ((g2 _).2 rfl)
      · rcases hslot e0.1.1 with ⟨j', k1, k2, k3, k4, k5⟩ | ⟨k1, k2⟩
        · have hjj : j' = j := by
            rcases Nat.lt_trichotomy j' j with h | h | h
            · exact absurd ((hdst j o h2).trans h3) (k3 j h hjn)
            · exact h
            · exfalso
              have hoj' : l[j']? = some l[j'] := by simp
              have hij' : infs[j']? = some infs[j'] := by simp
              exact ((hok j' l[j'] infs[j'] (by rw [htake j' k1]; exact hoj') hij').2.1 e0.1.1 (by rw [← hdst j' _ hoj']; exact k2)).2.2 j o _ _ h (by rw [htake j hjn]; exact h2) h4 h3
          subst hjj
          rw [k5]
          exact g1
        · exact absurd ((hdst j o h2).trans h3) (k1 j hjn)
    · have hnd := frIx_nodup (l.take n) infs 0
      rw [List.map_map]
      have : ((fun e : Fr × Nat => e.2) ∘ fun e : Fr × Nat => (e.1, gOf e.2)) = gOf ∘ fun e => e.2 := rfl
      rw [show ((fun x : Fr × Nat => x.2) ∘ fun e : Fr × Nat => (e.1, gOf e.2)) = gOf ∘ (fun e => e.2) from rfl, ← List.map_map]
      have hinj : ∀ x ∈ (frIx 0 (l.take n) infs).map (·.2), ∀ y ∈ (frIx 0 (l.take n) infs).map (·.2), gOf x = gOf y → x = y := by
        intro x hx y hy e
        obtain ⟨ex, hex, rfl⟩ := List.mem_map.1 hx
        obtain ⟨ey, hey, rfl⟩ := List.mem_map.1 hy
        obtain ⟨jx, ox, a1, a2, a3, a4⟩ := frIx_mem _ _ _ _ hex
        obtain ⟨jy, oy, b1, b2, b3, b4⟩ := frIx_mem _ _ _ _ hey
        rw [Nat.zero_add] at a1 b1
        rw [a1, b1] at e ⊢
        obtain ⟨_, c1, c2, _⟩ := hfr jx _ _ a4
        obtain ⟨_, d1, d2, _⟩ := hfr jy _ _ b4
        by_cases hne : jx = jy
        · exact hne
        · exfalso
          have hx' : jx < n := by have := (List.getElem?_eq_some_iff.1 a4).1; omega
          have hy' : jy < n := by have := (List.getElem?_eq_some_iff.1 b4).1; omega
          exact hG.dis jx jy (gOf jx) hx' hy' hne ((c2 _).2 rfl) ((d2 _).2 e)
      clear hT hEL hmm hE
      revert hnd hinj
      generalize (frIx 0 (l.take n) infs).map (·.2) = m
      intro hnd hinj
      induction m with
      | nil => simp
      | cons x m ih =>
        simp only [List.map_cons, List.nodup_cons] at hnd ⊢
        refine ⟨fun hm => ?_, ih hnd.2 fun p hp q hq => hinj p (by simp [hp]) q (by simp [hq])⟩
        obtain ⟨y, hy, e⟩ := List.mem_map.1 hm
        have := hinj x (by simp) y (by simp [hy]) e.symm
        subst this
        exact hnd.1 hy
    · obtain ⟨e0, he0, rfl⟩ := List.mem_map.1 he
      obtain ⟨j, o', h1, h2, h3, h4⟩ := frIx_mem _ _ _ _ he0
      rw [Nat.zero_add] at h1
      have hjn : j < n := by
        have := (List.getElem?_eq_some_iff.1 h4).1
        omega
      obtain ⟨cs, g1, g2, g3, g4⟩ := hfr j _ _ h4
      dsimp only
      rw [h1]
      intro e
      obtain ⟨o', ho', e'⟩ := hobj o ho _ e
      have := (Obj.blk_lt (ha.mem.at_ o' ho') e').2
      have := (hG.lo j hjn _ ((g2 _).2 rfl)).1
      omega
    · refine ⟨?_, hG.lt hb⟩
      rcases hb with hb | ⟨i, k1, _, k3⟩
      · exact hb.1
      · exact .inr (Nat.le_trans hsz (hG.lo i k1 b k3).1)
theorem put_store {T g n : Nat} {x y : Operand} {t : TypeId} {d d' d'' : D} (ho : o.op = .store T x y) (hx : ev S x = some (.val (.v (.pointer (some ⟨g, n, none⟩))))) (hy : ev S y = some (.val d')) (hT : assoc tyL T = some (d'.size, d'.agg)) (hu : d.upd n d' = some d'') : Puts ops S o (.var g t d) (.var g t d'') := by
  refine ⟨rfl, fun base ok a w hk hno hat => ?_⟩
  have hx' := ev_v hk hx fun t e => looks_of e (by rw [ho]; simp [Op.operands])
  obtain ⟨cs', h1, h2⟩ := hk.ev hy fun t e => looks_of e (by rw [ho]; simp [Op.operands])
  obtain ⟨hge, cs, h3, h4⟩ := hat
  obtain ⟨e1, e2, pre, mid, post, rfl, h5, h6, h7⟩ := upd_spec d n d' d'' cs cs' hu h4 h1
  obtain ⟨_, _, _, hT'⟩ := tyI hT
  have hrun := run_storeAt (T := T) (by rw [hT', Reads.len _ _ h1]) h1 h3 h5 h6
  refine ⟨w.setCells g n cs', g, ?_, rfl, grownBy_setCells g cs' n w, hge, pre ++ cs' ++ post, ?_, Reads.mono (fun _ h => h) (fun p hp => ?_) _ _ h7⟩
  · unfold execOp
    simp only [ho, hx', h2, Sem.run_bind, hrun, Result.andThen_ok, Sem.run_pure]
  · have := setCells_row cs' pre mid post w h6 h3
    rwa [h5] at this
  · exact World.cell?_of_block ((grownBy_setCells g cs' n w).block _ (hk.lt _ hp) fun e => hno g rfl (by injection e with e; rw [← e]; exact hp))
theorem EMS.nil0 {l' : List Oper} {qs : List Obj} {F : List Fr} (hF : F = []) (h : EL X ops Q l' ⟨S.regs, qs ++ S.objs, S.facts⟩) : EMS N ops (fun S' E => openF (EL X ops Q l') E ⟨S'.regs, qs ++ S'.objs, S'.facts⟩) [] [] S F := by
  subst hF
  exact ⟨rfl, h⟩
theorem EM.put (hg : guardOf ops S o = some true) (hd : o.dst = none) (hP : Puts ops S o p q) (k : EMS N ops T l ps S E) : EM N ops (fun S' E' => EMS N ops T (o :: l) ((p, q) :: ps) S' E') [] S E := EMS.put hg hd hP k
/-- The pieces in another order. -/
theorem Le.perm {rs : List (Tmp × R)} {os os' : List Obj} {fs : List (Value × D)} (h : os.Perm os') : Le X ⟨rs, os, fs⟩ ⟨rs, os', fs⟩ := fun a w ha => by
  have hok : ∀ b, X.ok os w b → X.ok os' w b := fun b hb => ⟨hb.1, hb.2.1, fun o ho => hb.2.2 o (h.mem_iff.2 ho)⟩
  refine ⟨⟨ha.mem.gr, ?_, fun o ho => (ha.mem.at_ o (h.mem_iff.2 ho)).move hok (fun _ _ => rfl) fun _ _ => rfl, fun f hf => Reads.mono hok (fun _ _ => rfl) _ _ (ha.mem.fact f hf)⟩, fun t r hr => (ha.regs t r hr).mono hok fun _ _ => rfl, ha.size, ha.defers⟩
  exact h.pairwise ha.mem.apart fun {x y} hxy b hb e => hxy b e hb
end
end E
end Go.Proofs.Ytekacgocjplfjaa
/-
  Items in plain words: what bytes are read as.
  Conditions: none. No program is named here.
-/
namespace Go.Proofs.Ytekacgocjplfjaa
namespace Rlp
set_option maxRecDepth 100000

/-- The length that a head's bytes say: how many bytes the head has, and how many are behind it. -/
def hdr (b : List UInt8) (base : Nat) : Option (Nat × Nat) :=
  if (b.getD 0 0).toNat - base ≤ 55 then
    if (b.getD 0 0).toNat - base ≤ b.length - 1 then some (1, (b.getD 0 0).toNat - base) else none
  else if b.length < 1 + ((b.getD 0 0).toNat - base - 55) ∨ b.getD 1 0 = 0 then none
  else if val ((b.drop 1).take ((b.getD 0 0).toNat - base - 55)) > most then none
  else if 55 < val ((b.drop 1).take ((b.getD 0 0).toNat - base - 55)) ∧ val ((b.drop 1).take ((b.getD 0 0).toNat - base - 55)) ≤ b.length - 1 - ((b.getD 0 0).toNat - base - 55) then
    some (1 + ((b.getD 0 0).toNat - base - 55), val ((b.drop 1).take ((b.getD 0 0).toNat - base - 55)))
  else none
def parseL (p : List UInt8 → Except Nat (Raw × Nat)) : Nat → List UInt8 → Except Nat (List Raw)
  | _, [] => .ok []
  | 0, _ :: _ => .error 4
  | f + 1, c :: b => match p (c :: b) with
    | .error e => .error e
    | .ok (x, k) => match parseL p f ((c :: b).drop k) with
      | .error e => .error e
      | .ok xs => .ok (x :: xs)
/-- The item that bytes begin with, and how many bytes it has; p reads what stands within a list. -/
def stepP (p : Option (List UInt8 → Except Nat (Raw × Nat))) : List UInt8 → Except Nat (Raw × Nat)
  | [] => .error 4
  | c :: t =>
    if c < 128 then .ok (.mk false [c] [], 1)
    else if c < 192 then match hdr (c :: t) 128 with
      | none => .error 4
      | some (h, n) => if n = 1 ∧ (c :: t).getD h 0 < 128 then .error 4 else .ok (.mk false (((c :: t).drop h).take n) [], h + n)
    else match p with
      | none => .error 3
      | some p => match hdr (c :: t) 192 with
        | none => .error 4
        | some (h, n) => match parseL p n (((c :: t).drop h).take n) with
          | .error e => .error e
          | .ok xs => .ok (.mk true [] xs, h + n)
theorem stepP_cons (p : Option (List UInt8 → Except Nat (Raw × Nat))) (c : UInt8) (t : List UInt8) : stepP p (c :: t) =
    if c < 128 then .ok (.mk false [c] [], 1)
    else if c < 192 then match hdr (c :: t) 128 with
      | none => .error 4
      | some (h, n) => if n = 1 ∧ (c :: t).getD h 0 < 128 then .error 4 else .ok (.mk false (((c :: t).drop h).take n) [], h + n)
    else match p with
      | none => .error 3
      | some p => match hdr (c :: t) 192 with
        | none => .error 4
        | some (h, n) => match parseL p n (((c :: t).drop h).take n) with
          | .error e => .error e
          | .ok xs => .ok (.mk true [] xs, h + n) := rfl
/-- The same; d lists may stand within. -/
def parse : Nat → List UInt8 → Except Nat (Raw × Nat)
  | 0 => stepP none
  | d + 1 => stepP (some (parse d))
def readR (b : List UInt8) : Except Nat Raw := if b.length > most then .error 3 else match parse 32 b with
  | .error e => .error e
  | .ok (x, n) => if n = b.length then .ok x else .error 4

/-! ### What is read is an item's bytes -/
theorem hdr_spec {b : List UInt8} {base h n : Nat} (hb : hdr b base = some (h, n)) (h0 : b ≠ []) (h1 : base ≤ (b.getD 0 0).toNat) (_ : base ≤ 192) (h2 : (b.getD 0 0).toNat < base + 64) :
    b.take h = head n base ∧ h + n ≤ b.length ∧ 0 < h ∧ n ≤ b.length := by
  obtain ⟨c, t, rfl⟩ := List.exists_cons_of_ne_nil h0
  unfold hdr at hb
  simp only [List.getD_cons_zero, List.length_cons, List.getD_cons_succ, List.drop_succ_cons, List.drop_zero, Nat.add_sub_cancel] at hb h1 h2
  have hcl := c.toNat_lt
  split at hb
  · rename_i hk
    split at hb
    · rename_i hk2
      simp only [Option.some.injEq, Prod.mk.injEq] at hb
      obtain ⟨rfl, rfl⟩ := hb
      refine ⟨?_, by simp; omega, by omega, by simp; omega⟩
      unfold head
      rw [if_pos (by omega), show base + (c.toNat - base) = c.toNat by omega, UInt8.ofNat_toNat]
      rfl
    · cases hb
  · rename_i hk
    split at hb
    · cases hb
    · rename_i hk2
      split at hb
      · cases hb
      · split at hb
        · rename_i hk3 hk4
          simp only [Option.some.injEq, Prod.mk.injEq] at hb
          obtain ⟨rfl, rfl⟩ := hb
          obtain ⟨hm, hz⟩ : ¬ t.length + 1 < 1 + (c.toNat - base - 55) ∧ ¬ t.getD 0 0 = 0 := ⟨fun h => hk2 (.inl h), fun h => hk2 (.inr h)⟩
          refine ⟨?_, by simp; omega, by omega, by simp; omega⟩
          have hml : (t.take (c.toNat - base - 55)).length = c.toNat - base - 55 := by rw [List.length_take]; omega
          have hbe := be_val (t.take (c.toNat - base - 55)) (fun e => hz (by
            rcases t with _ | ⟨x, t⟩
            · simp at hml; omega
            · rw [show c.toNat - base - 55 = (c.toNat - base - 56) + 1 by omega, List.take_succ_cons] at e
              simpa using e))
          unfold head
          rw [if_neg (by omega), hbe, hml, Nat.add_comm 1, List.take_succ_cons]
          congr 1
          rw [show base + 55 + (c.toNat - base - 55) = c.toNat by omega, UInt8.ofNat_toNat]
        · cases hb
theorem parseL_E {p : List UInt8 → Except Nat (Raw × Nat)} (hp : ∀ b x k, p b = .ok (x, k) → b.take k = E x ∧ k ≤ b.length) : ∀ (f : Nat) (b : List UInt8) (xs : List Raw), parseL p f b = .ok xs → EL xs = b
  | _, [], xs, h => by unfold parseL at h; cases h; rfl
  | 0, _ :: _, xs, h => by unfold parseL at h; cases h
  | f + 1, c :: b, xs, h => by
    unfold parseL at h
    split at h
    · cases h
    · rename_i x k hx
      split at h
      · cases h
      · rename_i ys hy
        cases h
        have h1 := hp _ _ _ hx
        have h2 := parseL_E hp f _ ys hy
        rw [EL, h2, ← h1.1, List.take_append_drop]
theorem stepP_E (p : Option (List UInt8 → Except Nat (Raw × Nat))) (hp : ∀ q, p = some q → ∀ b x k, q b = .ok (x, k) → b.take k = E x ∧ k ≤ b.length ∧ 0 < k) (b : List UInt8) (x : Raw) (n : Nat) (h : stepP p b = .ok (x, n)) : b.take n = E x ∧ n ≤ b.length ∧ 0 < n := by
  cases b with
  | nil => cases h
  | cons c t =>
    rw [stepP_cons] at h
    split at h
    · rename_i hc
      cases h
      refine ⟨?_, by simp, by omega⟩
      rw [E, EB, if_pos ⟨rfl, hc⟩]
      rfl
    · rename_i hc
      have hcn : 128 ≤ c.toNat := by
        exact Nat.not_lt.1 fun e => hc (UInt8.lt_iff_toNat_lt.2 e)
      split at h
      · rename_i hc2
        have hcm : c.toNat < 192 := UInt8.lt_iff_toNat_lt.1 hc2
        split at h
        · cases h
        · rename_i k m hh
          split at h
          · cases h
          · rename_i hne
            cases h
            obtain ⟨h1, h2, h3, _⟩ := hdr_spec hh (by simp) (by simpa using hcn) (by omega) (by simp; omega)
            refine ⟨?_, h2, by omega⟩
            have hl : (((c :: t).drop k).take m).length = m := by rw [List.length_take, List.length_drop]; omega
            rw [E, EB, hl, if_neg ?_, ← h1, List.take_add]
            rintro ⟨h4, h5⟩
            refine hne ⟨h4, ?_⟩
            have h6 : (((c :: t).drop k).take m).getD 0 0 = (c :: t).getD k 0 := by
              simp only [List.getD_eq_getElem?_getD, List.getElem?_take, List.getElem?_drop]
              rw [if_pos (by omega), Nat.add_zero]
            rw [h6] at h5
            exact h5
      · rename_i hc2
        have hcm : 192 ≤ c.toNat := by
          exact Nat.not_lt.1 fun e => hc2 (UInt8.lt_iff_toNat_lt.2 e)
        have hcl := c.toNat_lt
        cases p with
        | none => cases h
        | some p =>
          dsimp only at h
          split at h
          · cases h
          · rename_i k m hh
            split at h
            · cases h
            · rename_i ys hy
              cases h
              obtain ⟨h1, h2, h3, _⟩ := hdr_spec hh (by simp) (by simpa using hcm) (by omega) (by simp; omega)
              refine ⟨?_, h2, by omega⟩
              have hE := parseL_E (fun b x k hb => ⟨(hp p rfl b x k hb).1, (hp p rfl b x k hb).2.1⟩) _ _ _ hy
              have hl : (((c :: t).drop k).take m).length = m := by rw [List.length_take, List.length_drop]; omega
              rw [E, hE, hl, ← h1, List.take_add]
theorem parse_E : ∀ (d : Nat) (b : List UInt8) (x : Raw) (n : Nat), parse d b = .ok (x, n) → b.take n = E x ∧ n ≤ b.length ∧ 0 < n
  | 0, b, x, n, h => stepP_E none (fun q e => by cases e) b x n h
  | d + 1, b, x, n, h => stepP_E (some (parse d)) (fun q e => by cases e; exact parse_E d) b x n h
theorem readR_E {b : List UInt8} {x : Raw} (h : readR b = .ok x) : b = E x := by
  unfold readR at h
  split at h
  · cases h
  · split at h
    · cases h
    · rename_i y n hy
      split at h
      · rename_i hn
        cases h
        have h1 := (parse_E 32 b x n hy).1
        rw [hn, List.take_length] at h1
        exact h1
      · cases h

/-! ### An item's bytes are read as it -/
mutual
def norm : Raw → Raw
  | .mk false bs _ => .mk false bs []
  | .mk true _ xs => .mk true [] (normL xs)
def normL : List Raw → List Raw
  | [] => []
  | x :: xs => norm x :: normL xs
end
theorem hdr_head (n base : Nat) (t : List UInt8) (hb : base = 128 ∨ base = 192) (h1 : n ≤ t.length) (h2 : n ≤ most) : hdr (head n base ++ t) base = some ((head n base).length, n) := by
  unfold head
  by_cases hn : n < 56
  · rw [if_pos hn]
    have hc : (UInt8.ofNat (base + n)).toNat = base + n := by rw [UInt8.toNat_ofNat']; omega
    unfold hdr
    simp only [List.singleton_append, List.getD_cons_zero, hc, List.length_cons, Nat.add_sub_cancel_left]
    rw [if_pos (by omega), if_pos (by omega)]
    rfl
  · rw [if_neg hn]
    have hl := be_length 4 n (by simp only [most] at h2; omega)
    obtain ⟨x, l, hx, hx0⟩ := be_head n (by omega)
    have hl1 : 0 < (be n).length := by rw [hx]; simp
    have hc : (UInt8.ofNat (base + 55 + (be n).length)).toNat = base + 55 + (be n).length := by rw [UInt8.toNat_ofNat']; omega
    unfold hdr
    have hg1 : (be n ++ t).getD 0 0 = x := by rw [hx]; rfl
    simp only [List.cons_append, List.getD_cons_zero, hc, List.length_cons, List.length_append, List.getD_cons_succ, List.drop_succ_cons, List.drop_zero, hg1]
    have hk : base + 55 + (be n).length - base - 55 = (be n).length := by omega
    rw [hk, List.take_left' rfl, val_be, if_neg (by omega), if_neg (by rintro (h | h); omega; exact hx0 h), if_neg (by omega), if_pos (by omega)]
    congr 2
    omega
theorem head_first (n base : Nat) (h : base = 128 ∨ base = 192) (h2 : n ≤ most) : ∃ c l, head n base = c :: l ∧ base ≤ c.toNat ∧ c.toNat < base + 64 := by
  unfold head
  by_cases hn : n < 56
  · rw [if_pos hn]
    have hc : (UInt8.ofNat (base + n)).toNat = base + n := by rw [UInt8.toNat_ofNat']; omega
    exact ⟨_, _, rfl, by omega, by omega⟩
  · rw [if_neg hn]
    have hl := be_length 4 n (by simp only [most] at h2; omega)
    have hc : (UInt8.ofNat (base + 55 + (be n).length)).toNat = base + 55 + (be n).length := by rw [UInt8.toNat_ofNat']; omega
    exact ⟨_, _, rfl, by omega, by omega⟩
theorem head_pos (n base : Nat) : 0 < (head n base).length := by
  unfold head
  split <;> simp
theorem E_pos : ∀ r : Raw, 0 < (E r).length
  | .mk false bs _ => by
    rw [E, EB]
    split
    · rename_i h; omega
    · rw [List.length_append]; have := head_pos bs.length 128; omega
  | .mk true _ xs => by rw [E, List.length_append]; have := head_pos (EL xs).length 192; omega
theorem meas_most (bs xs) (d n : Nat) (h : meas (.mk false bs xs) d = some n) : bs.length ≤ most := by
  rw [meas] at h
  split at h
  · assumption
  · cases h
theorem measL_of (xs : List Raw) (o : List UInt8) (d n : Nat) (h : meas (.mk true o xs) d = some n) : d ≠ 32 ∧ ∃ k, measL xs (d + 1) 0 = some k := by
  rw [meas] at h
  split at h
  · cases h
  · refine ⟨by assumption, ?_⟩
    cases hm : measL xs (d + 1) 0 with
    | none => rw [hm] at h; cases h
    | some k => exact ⟨k, rfl⟩
theorem parse_step (m : Nat) : ∃ p, parse m = stepP p ∧ (∀ k, m = k + 1 → p = some (parse k)) := by
  cases m with
  | zero => exact ⟨none, rfl, fun k e => by cases e⟩
  | succ m => exact ⟨some (parse m), rfl, fun k e => by cases e; rfl⟩
mutual
theorem parse_of : ∀ (r : Raw) (d m n : Nat) (t : List UInt8), d + m = 32 → meas r d = some n → (E r).length ≤ most → parse m (E r ++ t) = .ok (norm r, (E r).length)
  | .mk false bs xs, d, m, n, t, h, hm, hl => by
    have hb := meas_most bs xs d n hm
    rw [E, norm]
    unfold EB
    by_cases hs : bs.length = 1 ∧ bs.getD 0 0 < 128
    · rw [if_pos hs]
      obtain ⟨c, rfl⟩ := List.length_eq_one_iff.1 hs.1
      obtain ⟨p, hp, _⟩ := parse_step m
      rw [List.singleton_append, hp]
      rw [stepP_cons]
      rw [if_pos (by simpa using hs.2)]
      rfl
    · rw [if_neg hs]
      obtain ⟨c, l, hc, hc1, hc2⟩ := head_first bs.length 128 (.inl rfl) hb
      have hh := hdr_head bs.length 128 (bs ++ t) (.inl rfl) (by simp) hb
      have hgd : (head bs.length 128 ++ (bs ++ t)).getD (head bs.length 128).length 0 = (bs ++ t).getD 0 0 := by
        simp only [List.getD_eq_getElem?_getD]
        rw [List.getElem?_append_right (Nat.le_refl _), Nat.sub_self]
      have hdr1 : (head bs.length 128 ++ (bs ++ t)).drop (head bs.length 128).length = bs ++ t := List.drop_left' rfl
      rw [List.append_assoc, List.length_append]
      rw [hc] at hh hgd hdr1 ⊢
      rw [List.cons_append] at hh hgd hdr1 ⊢
      obtain ⟨p, hp, _⟩ := parse_step m
      rw [hp]
      rw [stepP_cons]
      have g1 : ¬ c < 128 := fun e => by have := UInt8.lt_iff_toNat_lt.1 e; have h128 : (128 : UInt8).toNat = 128 := rfl; omega
      have g2 : c < 192 := UInt8.lt_iff_toNat_lt.2 (by have h192 : (192 : UInt8).toNat = 192 := rfl; omega)
      rw [if_neg g1, if_pos g2, hh]
      dsimp only
      rw [if_neg ?_, hdr1, List.take_left' rfl]
      rintro ⟨h4, h5⟩
      rw [hgd] at h5
      refine hs ⟨h4, ?_⟩
      obtain ⟨x, rfl⟩ := List.length_eq_one_iff.1 h4
      simpa using h5
  | .mk true o xs, d, m, n, t, h, hm, hl => by
    obtain ⟨hd, k, hk⟩ := measL_of xs o d n hm
    have hkl := measL_E xs (d + 1) 0 k hk
    rw [Nat.zero_add] at hkl
    rw [E] at hl ⊢
    rw [norm]
    rw [List.length_append] at hl
    obtain ⟨m, rfl⟩ : ∃ m', m = m' + 1 := ⟨m - 1, by omega⟩
    obtain ⟨c, l, hc, hc1, hc2⟩ := head_first (EL xs).length 192 (.inr rfl) (by omega)
    have hh := hdr_head (EL xs).length 192 (EL xs ++ t) (.inr rfl) (by simp) (by omega)
    have hdr1 : (head (EL xs).length 192 ++ (EL xs ++ t)).drop (head (EL xs).length 192).length = EL xs ++ t := List.drop_left' rfl
    have hps := parseL_of xs (d + 1) m 0 k (by omega) hk (by omega) (EL xs).length (Nat.le_refl _)
    rw [List.append_assoc, List.length_append]
    rw [hc] at hh hdr1 ⊢
    rw [List.cons_append] at hh hdr1 ⊢
    rw [show parse (m + 1) = stepP (some (parse m)) from rfl]
    rw [stepP_cons]
    have g1 : ¬ c < 128 := fun e => by have := UInt8.lt_iff_toNat_lt.1 e; have h128 : (128 : UInt8).toNat = 128 := rfl; omega
    have g2 : ¬ c < 192 := fun e => by have := UInt8.lt_iff_toNat_lt.1 e; have h192 : (192 : UInt8).toNat = 192 := rfl; omega
    rw [if_neg g1, if_neg g2]
    dsimp only
    rw [hh]
    dsimp only
    rw [hdr1, List.take_left' rfl, hps]
theorem parseL_of : ∀ (xs : List Raw) (d m n k : Nat), d + m = 32 → measL xs d n = some k → (EL xs).length ≤ most → ∀ f, (EL xs).length ≤ f → parseL (parse m) f (EL xs) = .ok (normL xs)
  | [], d, m, n, k, h, hm, hl, f, hf => by rw [EL, normL]; unfold parseL; rfl
  | x :: xs, d, m, n, k, h, hm, hl, f, hf => by
    rw [EL, List.length_append] at hl hf
    have hp := E_pos x
    rw [measL] at hm
    cases hx : meas x d with
    | none => rw [hx] at hm; cases hm
    | some j =>
      rw [hx] at hm
      dsimp only at hm
      split at hm
      · cases hm
      · have h1 := parse_of x d m j (EL xs) h hx (by omega)
        obtain ⟨f, rfl⟩ : ∃ f', f = f' + 1 := ⟨f - 1, by omega⟩
        have h2 := parseL_of xs d m (n + j) k h hm (by omega) f (by omega)
        rw [EL, normL]
        obtain ⟨c, l, hc⟩ : ∃ c l, E x ++ EL xs = c :: l := by
          cases he : E x with
          | nil => rw [he] at hp; simp at hp
          | cons c l => exact ⟨c, l ++ EL xs, rfl⟩
        have hdr1 : (E x ++ EL xs).drop (E x).length = EL xs := List.drop_left' rfl
        rw [hc] at h1 hdr1 ⊢
        unfold parseL
        rw [h1]
        dsimp only
        rw [hdr1, h2]
end
theorem readR_of {r : Raw} {b : List UInt8} (h : packed r = some b) : readR b = .ok (norm r) := by
  unfold packed at h
  cases hm : meas r 0 with
  | none => rw [hm] at h; cases h
  | some n =>
    rw [hm] at h
    dsimp only at h
    split at h
    · cases h
    · rename_i hn
      cases h
      have hl := meas_E r 0 n hm
      have := parse_of r 0 32 n [] rfl hm (by omega)
      rw [List.append_nil] at this
      unfold readR
      rw [if_neg (by omega), this]
      dsimp only
      rw [if_pos rfl]

/-! ### Items that are one -/
mutual
def sameR : Raw → Raw → Bool
  | .mk la ba xa, .mk lb bb xb => if la ≠ lb then false else if la = false then decide (ba = bb) else if xa.length ≠ xb.length then false else sameL xa xb
def sameL : List Raw → List Raw → Bool
  | [], _ => true
  | x :: xs, y :: ys => sameR x y && sameL xs ys
  | _ :: _, [] => true
end
mutual
theorem same_norm : ∀ r : Raw, sameR (norm r) r = true
  | .mk false bs _ => by rw [norm, sameR]; simp
  | .mk true _ xs => by
    rw [norm, sameR]
    have h := same_normL xs
    simp [h.1, h.2]
theorem same_normL : ∀ xs : List Raw, (normL xs).length = xs.length ∧ sameL (normL xs) xs = true
  | [] => by rw [normL, sameL]; simp
  | x :: xs => by
    have h := same_normL xs
    rw [normL, sameL, same_norm x, h.2]
    simp [h.1]
end
mutual
theorem same_self : ∀ r : Raw, sameR r r = true
  | .mk l bs xs => by
    rw [sameR]
    have h := same_selfL xs
    simp [h]
theorem same_selfL : ∀ xs : List Raw, sameL xs xs = true
  | [] => by rw [sameL]
  | x :: xs => by rw [sameL, same_self x, same_selfL xs]; rfl
end
mutual
theorem same_E : ∀ a b : Raw, sameR a b = true → E a = E b
  | .mk la ba xa, .mk lb bb xb, h => by
    rw [sameR] at h
    by_cases hl : la = lb
    · subst hl
      rw [if_neg (by simp)] at h
      cases la with
      | false =>
        rw [if_pos rfl] at h
        have := of_decide_eq_true h
        rw [E, E, this]
      | true =>
        rw [if_neg (by simp)] at h
        split at h
        · cases h
        · rename_i hlen
          rw [E, E, same_EL xa xb (by simpa using hlen) h]
    · rw [if_pos hl] at h; cases h
theorem same_EL : ∀ xs ys : List Raw, xs.length = ys.length → sameL xs ys = true → EL xs = EL ys
  | [], [], _, _ => rfl
  | [], _ :: _, h, _ => by simp at h
  | _ :: _, [], h, _ => by simp at h
  | x :: xs, y :: ys, h, hs => by
    rw [sameL, Bool.and_eq_true] at hs
    rw [EL, EL, same_E x y hs.1, same_EL xs ys (by simpa using h) hs.2]
end
end Rlp
end Go.Proofs.Ytekacgocjplfjaa
