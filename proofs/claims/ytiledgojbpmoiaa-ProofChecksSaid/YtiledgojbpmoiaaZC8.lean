/-
 Merged (wip/tools/merge.py): E13, New, E14, E15, EH, EI.
 Conditions: none.
-/
import Derived.Test.YtiledgojbpmoiaaZC7
import Derived.Test.YtiledgojbpmoiaaZC3
import Derived.Laws.IdiomCopy
/-
 The abstract machine at regions that draw their order and write, meanwhile, variables of the call's own.
 Conditions: none.
-/
namespace Go.Proofs.Ytiledgojbpmoiaa
set_option linter.unusedVariables false
open Go.RowKit Mono Rlp
namespace E
def putOf : Inf → List (Obj × Obj)
 | .put p q => [(p, q)]
 | _ => []
def EMS (N : Nat) (ops : Array Oper) (T : St → List Fr → Prop) : List Oper → List (Obj × Obj) → St → List Fr → Prop
 | [], ps, S, E => ps = [] ∧ T S E
 | o :: l, ps, S, E => ∃ (inf : Inf) (ps' : List (Obj × Obj)), ps = putOf inf ++ ps' ∧ offB N o.dst E = true ∧ ((∃ T d, inf = .new T d) → o.dst ≠ none) ∧ OkI N ops S o inf ∧ EMS N ops T l ps' (S.put o.dst inf.reg) (nextE E o.dst inf)
section
variable {N : Nat} {X : Cx N} {S S' : St} {a : Act} {w w' : World} {ops : Array Oper} {o : Oper} {Q : Exit → Act → World → Prop} {l : List Oper} {T : St → List Fr → Prop} {E : List Fr} {p q : Obj} {ps : List (Obj × Obj)}
theorem EMS.nil (h : T S E) : EMS N ops T [] [] S E := ⟨rfl, h⟩
theorem EMS.put (hg : guardOf ops S o = some true) (hd : o.dst = none) (hP : Puts ops S o p q) (k : EMS N ops T l ps S E) : EMS N ops T (o :: l) ((p, q) :: ps) S E :=
 ⟨.put p q, ps, rfl, by rw [hd]; rfl, (fun ⟨_, _, e⟩ => by cases e), ⟨hg, hd, hP⟩, by rw [hd]; exact k⟩
theorem EMS.seg {l2 : List Oper} : ∀ (l1 : List Oper) (S : St) (E : List Fr), EM N ops (fun S' E' => EMS N ops T l2 ps S' E') l1 S E → EMS N ops T (l1 ++ l2) ps S E
 | [], S, E, h => h
 | o :: l1, S, E, ⟨inf, h0, h1, h2, h3, h4⟩ => ⟨inf, ps, (by cases inf with
  | put _ _ => cases h0
  | _ => rfl), h1, h2, h3, EMS.seg l1 _ _ h4⟩
theorem EMS.cut (k : Nat) (h : EM N ops (fun S' E' => EMS N ops T (l.drop k) ps S' E') (l.take k) S E) : EMS N ops T l ps S E := by
 have := EMS.seg _ _ _ h
 rwa [List.take_append_drop] at this
structure GP (X : Cx N) (S : St) (infs : List Inf) (ws : World) (F : Nat → Nat → Prop) (L : Nat → Prop) (vs : Nat → Value) (u : World) : Prop where
 gr : GrE (fun b => ∃ (k : Nat) (p q : Obj), infs[k]? = some (.put p q) ∧ p.blk = some b) ws u
 lo : ∀ j, L j → ∀ b, F j b → ws.heap.size ≤ b ∧ b < u.heap.size
 dis : ∀ i j b, L i → L j → i ≠ j → F i b → ¬ F j b
 val : ∀ j i, L j → infs[j]? = some i → (match (generalizing := false) i with
  | .new T d => ∃ g cs, vs j = .pointer (some ⟨g, 0, none⟩) ∧ (∀ b, F j b ↔ b = g) ∧ u.heap[g]? = some (.cells cs.toArray T (0, 0)) ∧ Reads (zone X S infs ws F L) u d cs
  | i => ReadR (zone X S infs ws F L) u i.reg (vs j))
 put : ∀ (k : Nat) (p q : Obj), infs[k]? = some (.put p q) → (L k → q.At X.mine (zone X S infs ws F L) u) ∧ (¬ L k → p.At X.mine (zone X S infs ws F L) u)
structure PutsOk (X : Cx N) (S : St) (infs : List Inf) (ws : World) : Prop where
 low : ∀ (k : Nat) (p q : Obj) (b : Nat), infs[k]? = some (.put p q) → p.blk = some b → ¬ X.ok S.objs ws b ∧ b < ws.heap.size
 apart : ∀ (k k' : Nat) (p q p' q' : Obj), infs[k]? = some (.put p q) → infs[k']? = some (.put p' q') → k ≠ k' → ∀ b, p.blk = some b → p'.blk ≠ some b
 same : ∀ (k : Nat) (p q : Obj), infs[k]? = some (.put p q) → q.blk = p.blk
theorem GP.lt {infs : List Inf} {ws : World} {F : Nat → Nat → Prop} {L : Nat → Prop} {vs : Nat → Value} {u : World} (h : GP X S infs ws F L vs u) {b : Nat} (hb : zone X S infs ws F L b) : b < u.heap.size := by
 rcases hb with hb | ⟨i, h1, _, h2⟩
 · exact Nat.lt_of_lt_of_le hb.2.1 h.gr.size
 · exact (h.lo i h1 b h2).2
theorem GP.off {infs : List Inf} {ws : World} {F : Nat → Nat → Prop} {L : Nat → Prop} {vs : Nat → Value} {u : World} (h : GP X S infs ws F L vs u) (hP : PutsOk X S infs ws) {k b : Nat} (hk : infs[k]? = some (.put p q)) (hp : p.blk = some b) : ¬ zone X S infs ws F L b := by
 have := hP.low k p q b hk hp
 rintro (hb | ⟨i, h1, _, h2⟩)
 · exact this.1 hb
 ·
  have := (h.lo i h1 b h2).1
  omega
theorem GP.step {infs : List Inf} {ws : World} {F : Nat → Nat → Prop} {L : Nat → Prop} {vs : Nat → Value} {u u' : World} (h : GP X S infs ws F L vs u) (hP : PutsOk X S infs ws) {k : Nat} {i : Inf} (hi : infs[k]? = some i) (hk : ¬ L k) (H : Nat → Prop) (hH : ∀ b, H b → ∃ p q : Obj, i = .put p q ∧ p.blk = some b) (hg : GrE H u u') (v : Value) (f : Nat → Prop) (hf : ∀ b, f b → u.heap.size ≤ b ∧ b < u'.heap.size)
  (hv : (∀ b, zone X S infs ws F L b → zone X S infs ws (fun j => if j = k then f else F j) (fun j => j = k ∨ L j) b) → (match (generalizing := false) i with
   | .new T d => ∃ g cs, v = .pointer (some ⟨g, 0, none⟩) ∧ (∀ b, f b ↔ b = g) ∧ u'.heap[g]? = some (.cells cs.toArray T (0, 0)) ∧ Reads (zone X S infs ws (fun j => if j = k then f else F j) (fun j => j = k ∨ L j)) u' d cs
   | i => ReadR (zone X S infs ws (fun j => if j = k then f else F j) (fun j => j = k ∨ L j)) u' i.reg v))
  (hq : ∀ p q : Obj, i = .put p q → q.At X.mine (zone X S infs ws F L) u') :
  GP X S infs ws (fun j => if j = k then f else F j) (fun j => j = k ∨ L j) (fun j => if j = k then v else vs j) u' := by
 have hF : ∀ j, L j → (if j = k then f else F j) = F j := fun j hj => if_neg fun e => hk (by rw [← e]; exact hj)
 have hz : ∀ b, zone X S infs ws F L b → zone X S infs ws (fun j => if j = k then f else F j) (fun j => j = k ∨ L j) b := fun b hb => by
  rcases hb with hb | ⟨i, h1, h2, h3⟩
  · exact .inl hb
  · exact .inr ⟨i, .inr h1, h2, by show (if i = k then f else F i) b; rw [hF i h1]; exact h3⟩
 have hHz : ∀ b, H b → ¬ zone X S infs ws F L b := fun b hb => by
  obtain ⟨p, q, rfl, hp⟩ := hH b hb
  exact h.off hP hi hp
 have hc : ∀ p : Addr, zone X S infs ws F L p.block → u'.cell? p = u.cell? p := fun p hp => hg.cell (h.lt hp) fun hn => hHz _ hn hp
 refine ⟨⟨hg.os.trans h.gr.os, hg.tape.trans h.gr.tape, hg.output.trans h.gr.output, Nat.le_trans h.gr.size hg.size, fun b hb hn => ?_⟩, fun j hj b hb => ?_, fun i j b hi hj hij hb => ?_, fun j i' hj hi' => ?_, fun k' p' q' hk' => ?_⟩
 ·
  rw [hg.block b (Nat.lt_of_lt_of_le hb h.gr.size) fun hn' => by
   obtain ⟨p, q, rfl, hp⟩ := hH b hn'
   exact hn ⟨k, p, q, hi, hp⟩]
  exact h.gr.block b hb hn
 ·
  by_cases e : j = k
  ·
   rw [if_pos e] at hb
   exact ⟨Nat.le_trans h.gr.size (hf b hb).1, (hf b hb).2⟩
  ·
   rw [if_neg e] at hb
   have := h.lo j (hj.resolve_left e) b hb
   exact ⟨this.1, Nat.lt_of_lt_of_le this.2 hg.size⟩
 ·
  by_cases e1 : i = k
  ·
   by_cases e2 : j = k
   · exact absurd (e1.trans e2.symm) hij
   ·
    rw [if_pos e1] at hb
    rw [if_neg e2]
    intro hb2
    have := (h.lo j (hj.resolve_left e2) b hb2).2
    have := (hf b hb).1
    omega
  ·
   rw [if_neg e1] at hb
   by_cases e2 : j = k
   ·
    rw [if_pos e2]
    intro hb2
    have := (h.lo i (hi.resolve_left e1) b hb).2
    have := (hf b hb2).1
    omega
   ·
    rw [if_neg e2]
    exact h.dis i j b (hi.resolve_left e1) (hj.resolve_left e2) hij hb
 ·
  by_cases e : j = k
  ·
   subst e
   obtain rfl : i' = i := Option.some.inj (hi'.symm.trans hi)
   simp only [if_true]
   exact hv hz
  ·
   have hj' := hj.resolve_left e
   have h0 := h.val j i' hj' hi'
   simp only [if_neg e]
   cases i' with
   | new T d =>
    obtain ⟨g, cs, g1, g2, g3, g4⟩ := h0
    have hlo := h.lo j hj' g ((g2 g).2 rfl)
    exact ⟨g, cs, g1, g2, (hg.block g (lt_of_some g3) fun hn => by
     obtain ⟨p, q, rfl, hp⟩ := hH g hn
     have := (hP.low k p q g hi hp).2
     omega).trans g3, Reads.mono hz hc _ _ g4⟩
   | still r => exact ReadR.mono hz hc h0
   | grow r => exact ReadR.mono hz hc h0
   | skip => exact ReadR.mono hz hc h0
   | put p q => trivial
 ·
  by_cases e : k' = k
  ·
   subst e
   obtain rfl : i = .put p' q' := Option.some.inj (hi.symm.trans hk')
   refine ⟨fun _ => (hq p' q' rfl).move hz (fun _ _ => rfl) (fun _ _ => rfl), fun hn => absurd (.inl rfl) hn⟩
  ·
   have hb : ∀ g, p'.blk = some g → u'.heap[g]? = u.heap[g]? := fun g hg' => hg.block g (Nat.lt_of_lt_of_le (hP.low k' p' q' g hk' hg').2 h.gr.size) fun hn => by
    obtain ⟨p, q, rfl, hp⟩ := hH g hn
    exact hP.apart k k' p q p' q' hi hk' (fun e' => e e'.symm) g hp hg'
   obtain ⟨h1, h2⟩ := h.put k' p' q' hk'
   refine ⟨fun hL => (h1 (hL.resolve_left e)).move hz hc fun g hg' => hb g (by rw [← hP.same k' p' q' hk']; exact hg'), fun hn => (h2 fun hL => hn (.inr hL)).move hz hc hb⟩
theorem put_store {T g n : Nat} {x y : Operand} {t : TypeId} {d d' d'' : D} (ho : o.op = .store T x y) (hx : ev S x = some (.val (.v (.pointer (some ⟨g, n, none⟩))))) (hy : ev S y = some (.val d')) (hT : assoc tyL T = some (d'.size, d'.agg)) (hu : d.upd n d' = some d'') : Puts ops S o (.var g t d) (.var g t d'') := by
 refine ⟨rfl, fun base ok a w hk hno hat => ?_⟩
 have hx' := ev_v hk hx fun t e => looks_of e (by rw [ho]; simp [Op.operands])
 obtain ⟨cs', h1, h2⟩ := hk.ev hy fun t e => looks_of e (by rw [ho]; simp [Op.operands])
 obtain ⟨hge, cs, h3, h4⟩ := hat
 obtain ⟨e1, e2, pre, mid, post, rfl, h5, h6, h7⟩ := upd_spec d n d' d'' cs cs' hu h4 h1
 obtain ⟨_, _, _, hT'⟩ := tyI hT
 have hrun := run_storeAt (T := T) (by rw [hT', Reads.len _ _ h1]) h1 h3 h5 h6
 refine ⟨w.setCells g n cs', g, ?_, rfl, grownBy_setCells g cs' n w, hge, pre ++ cs' ++ post, ?_, Reads.mono (fun _ h => h) (fun p hp => ?_) _ _ h7⟩
 ·
  unfold execOp
  simp only [ho, hx', h2, Sem.run_bind, hrun, Result.andThen_ok, Sem.run_pure]
 ·
  have := setCells_row cs' pre mid post w h6 h3
  rwa [h5] at this
 · exact World.cell?_of_block ((grownBy_setCells g cs' n w).block _ (hk.lt _ hp) fun e => hno g rfl (by injection e with e; rw [← e]; exact hp))
theorem EM.put (hg : guardOf ops S o = some true) (hd : o.dst = none) (hP : Puts ops S o p q) (k : EMS N ops T l ps S E) : EM N ops (fun S' E' => EMS N ops T (o :: l) ((p, q) :: ps) S' E') [] S E := EMS.put hg hd hP k
theorem Le.perm {rs : List (Tmp × R)} {os os' : List Obj} {fs : List (Value × D)} (h : os.Perm os') : Le X ⟨rs, os, fs⟩ ⟨rs, os', fs⟩ := fun a w ha => by
 have hok : ∀ b, X.ok os w b → X.ok os' w b := fun b hb => ⟨hb.1, hb.2.1, fun o ho => hb.2.2 o (h.mem_iff.2 ho)⟩
 refine ⟨⟨ha.mem.gr, ?_, fun o ho => (ha.mem.at_ o (h.mem_iff.2 ho)).move hok (fun _ _ => rfl) fun _ _ => rfl, fun f hf => Reads.mono hok (fun _ _ => rfl) _ _ (ha.mem.fact f hf)⟩, fun t r hr => (ha.regs t r hr).mono hok fun _ _ => rfl, ha.size, ha.defers⟩
 exact h.pairwise ha.mem.apart fun {x y} hxy b hb e => hxy b e hb
end
end E
end Go.Proofs.Ytiledgojbpmoiaa
/-
 A copy of bytes in new memory; a word seen as a slice.
 Conditions: none.
-/
namespace Go.Proofs.Ytiledgojbpmoiaa
set_option linter.unusedVariables false
open Go.RowKit Mono Rlp
def NewB (B : Nat) (l : List UInt8) : VP := fun v w => IsBP (fun k => B ≤ k ∧ k < w.heap.size) w v l
theorem growsTo_append_new {w : World} {o : Oper} {a : Act} {x : Operand} {v : Value} {l : List UInt8} {B : Nat} (hB : B ≤ w.heap.size)
  (ho : o.op = .call { callee := .builtin .append, args := #[.const (.slice none 0 0), x], argTypes := #[24, 24] }) (hx : a.eval x = v) (h : IsB w v l) (hl : l.length ≤ 140737488355328) :
  growsTo Try.prog (NewB B l) w ((execOp a.eval o).run Try.prog w) := by
 obtain ⟨A, c, rfl, h1, h2, hr⟩ := h
 obtain ⟨A', c', w', hrun, hown, hg, hb⟩ := run_append_rd (P := Try.prog) (ty := o.type) slT_bytes (World.ownsRow_nil w w.heap.size _ _) (m := l.length) (c := c) (news := bvs l) (by rw [bvs_length]; omega) hr (bvs_one _) (by simp only [maxLen] at *; omega) (by omega) (Nat.le_refl _)
 have hs : a.eval (.const (.slice none 0 0)) = .slice none 0 0 := rfl
 unfold execOp
 simp only [ho, resolve, invoke, builtin, Sem.run_bind, Sem.run_pure, Result.andThen_ok, List.map_toArray, List.map_cons, List.map_nil, hs, hx, hrun]
 refine ⟨⟨hg.os, hg.tape, hg.output, hg.size, fun k hk => hg.block k hk (by simp [Value.ownBlock])⟩, ?_⟩
 have := ownB_P (w := w') (base := w.heap.size) (v := .slice A' (0 + l.length) c') (l := l) (by unfold OwnB; simpa using hown)
 exact IsBP.mono this (fun b hb => ⟨by have := hb.1; omega, hb.2⟩) fun _ _ => rfl
theorem slice_word_off (w : World) (g o : Nat) : (Instr.sliceAt 23 (.pointer (some ⟨g, o, none⟩)) none none none).run Try.prog w = .ok (.slice (some ⟨g, o, none⟩) 32 32) w := by
 have hn : Try.prog.arrayLen 23 = 32 := by kernel_rfl
 have hs : (sizeOf (Try.prog.elem 23)).run Try.prog w = .ok 1 w := by kernel_rfl
 rw [run_sliceAt_array_all (P := Try.prog) w 23 ⟨g, o, none⟩ (by kernel_rfl), hs]
 simp [slicedAt, hn, add_none, Result.andThen]
end Go.Proofs.Ytiledgojbpmoiaa
/-
 The abstract machine: an array seen as a slice, copy into a variable's array, a copy of bytes in new memory.
 Conditions: none.
-/
namespace Go.Proofs.Ytiledgojbpmoiaa
set_option linter.unusedVariables false
open Go.RowKit Mono Rlp
namespace E
structure SliceA (T n : Nat) : Prop where
 ok : ∀ w g o, (Instr.sliceAt T (.pointer (some ⟨g, o, none⟩)) none none none).run Try.prog w = .ok (.slice (some ⟨g, o, none⟩) n n) w
section
variable {N : Nat} {X : Cx N} {S : St} {ops : Array Oper} {o : Oper} {Q : Exit → Act → World → Prop} {l : List Oper} {TT : St → List Fr → Prop} {EE : List Fr} {rs : List (Tmp × R)} {os : List Obj} {fs : List (Value × D)}
theorem EL.copy {T U e b g n k c : Nat} {x y : Operand} {t : TypeId} {d d'' : D} {m : List UInt8} (i : Nat) (ho : o.op = .call { callee := .builtin .copy, args := #[x, y], argTypes := #[T, U] }) (hg : guardOf ops S o = some true) (hd : ∀ t, o.dst = some t → t < N) (hT : assoc slL T = some (e, 1, b))
  (hx : ev S x = some (.val (.v (.slice (some ⟨g, n, none⟩) k c)))) (hi : S.objs[i]? = some (.var g t d)) (hy : ev S y = some (.val (.bs m))) (hm : m.length = k) (h0 : Nat.blt 0 k = true) (hu : d.upd n (.arr k m) = some d'')
  (kk : EL X ops Q l (St.put ⟨S.regs, S.objs.set i (.var g t d''), S.facts⟩ o.dst (.val (.v (.int .i64 (k : Int)))))) : EL X ops Q (o :: l) S := by
 constructor
 intro a w ha
 have hk := ha.kn fun t => t ∈ o.looksAt ops
 have hx' := ev_v hk hx fun t e => looks_of e (by rw [ho]; simp [Op.operands, Call.operands])
 obtain ⟨A, c', h1, h2, h3, h4⟩ := bs_ex (hk.ev hy fun t e => looks_of e (by rw [ho]; simp [Op.operands, Call.operands]))
 have h0' : 0 < k := by simpa using h0
 obtain ⟨bl, o', rfl, hb, hc⟩ := h4 (fun e => by have := congrArg List.length e; rw [bvs_length] at this; simp at this; rw [this] at hm; simp at hm; omega)
 obtain ⟨hge, cs, h5, h6⟩ := ha.mem.var hi
 have hnew : Reads (X.ok S.objs w) w (.arr k m) (bvs m) := by rw [Reads]; exact ⟨hm, rfl⟩
 obtain ⟨e1, e2, pre, mid, post, rfl, h7, h8, h9⟩ := upd_spec d n (.arr k m) d'' cs (bvs m) hu h6 hnew
 have hcell : ∀ j, j < (bvs m).length → (w.cell? ⟨g, n + j, none⟩).isSome = true := fun j hj => by
  rw [cell_of_row w g (n + j) _ t (0, 0) h5]
  simp only [List.getElem?_toArray, List.append_assoc]
  rw [List.getElem?_append_right (by omega), List.getElem?_append_left (by omega)]
  simp
  omega
 have hf : ∀ j, j < (bvs m).length → w.frozen? ⟨g, n + j, none⟩ = false := fun j _ => by simp [World.frozen?, h5]
 have hsl := slI hT
 have hrun := run_copy_cells (P := Try.prog) w T U o.type e g n k c ⟨bl, o', none⟩ m.length c' (bvs m) hsl.und hsl.size (by rw [bvs_length, hm]; simp) (fun j v hv => by rw [add_none]; exact hc j v hv) hcell hf (bvs_one m)
 unfold wpList
 rw [if_pos (wanted_of ha hg)]
 refine .inl ?_
 unfold Oper.wp execOp
 simp only [ho, resolve, invoke, builtin, Sem.run_bind, Sem.run_pure, Result.andThen_ok, List.map_toArray, List.map_cons, List.map_nil, hx', h1, hrun]
 have ht := ha.turn (q := .var g t d'') (w' := w.setCells g n (bvs m)) hi (grownBy_setCells g (bvs m) n w) (.inl rfl) fun hok hcell => ⟨hge, pre ++ bvs m ++ post, by
  have := setCells_row (bvs m) pre mid post w h8 h5
  rwa [h7] at this, Reads.mono hok hcell _ _ h9⟩
 rw [bvs_length, hm]
 exact kk.go _ _ (ht.put hd (v_mk rfl))
theorem g_apnew {x : Operand} {m : List UInt8} (ho : o.op = .call { callee := .builtin .append, args := #[.const (.slice none 0 0), x], argTypes := #[24, 24] }) (hx : ev S x = some (.val (.bs m))) (hl : m.length ≤ 140737488355328) : Grows ops S o (· = .val (.bs m)) := fun base ok a w ha => by
 have hr := ha.ev hx fun t e => looks_of e (by rw [ho]; simp [Op.operands, Call.operands])
 refine growsTo_mono (fun v w' hg hv => ⟨_, rfl, (readV_one rfl).2 (by rw [Reads]; exact ⟨v, rfl, IsBP.mono hv (fun b hb => ⟨.inr hb.1, hb.2⟩) fun _ _ => rfl⟩)⟩) (growsTo_append_new (B := w.heap.size) (Nat.le_refl _) ho rfl (isB_of ha.lt hr) hl)
end
theorem sl_word : SliceA 23 32 := ⟨fun w g o => slice_word_off w g o⟩
end E
end Go.Proofs.Ytiledgojbpmoiaa
/-
 The abstract machine: for a while, all that is may be read (and nothing of the call's own is written).
 Conditions: none.
-/
namespace Go.Proofs.Ytiledgojbpmoiaa
set_option linter.unusedVariables false
open Go.RowKit Mono Rlp
namespace E
def VSub (l : List (Tmp × R)) : List (Tmp × R) → Prop
 | [] => True
 | (t, .val (.v x)) :: m => look l t = some (.val (.v x)) ∧ VSub l m
 | _ :: _ => False
section
variable {N : Nat} {X X' : Cx N} {S S1 : St} {ops : Array Oper} {o : Oper} {Q : Exit → Act → World → Prop} {K : Act → World → Prop} {l : List Oper} {c : Code} {TT : St → List Fr → Prop} {EE : List Fr} {rs : List (Tmp × R)} {os : List Obj} {fs : List (Value × D)} {a : Act} {w : World}
def Back (X : Cx N) (S : St) (X' : Cx N) : Prop := (∀ b, ¬ X'.own0 b) ∧ ∃ a, At X S a X'.w0
theorem VSub.get {l : List (Tmp × R)} : ∀ (m : List (Tmp × R)), VSub l m → ∀ t r, look m t = some r → ∃ x, r = .val (.v x) ∧ look l t = some (.val (.v x))
 | [], _, t, r, h => by simp [look] at h
 | (u, .val (.v x)) :: m, hs, t, r, h => by
  rw [look] at h
  split at h
  ·
   rename_i e
   cases h
   subst e
   exact ⟨x, rfl, hs.1⟩
  · exact VSub.get m hs.2 t r h
 | (u, .any) :: m, hs, t, r, h => hs.elim
 | (u, .tpl _) :: m, hs, t, r, h => hs.elim
 | (u, .val (.arr _ _)) :: m, hs, t, r, h => hs.elim
 | (u, .val (.bs _)) :: m, hs, t, r, h => hs.elim
 | (u, .val (.sl _ _)) :: m, hs, t, r, h => hs.elim
 | (u, .val (.tup _)) :: m, hs, t, r, h => hs.elim
 | (u, .val (.pd _)) :: m, hs, t, r, h => hs.elim
 | (u, .val (.ifc _ _)) :: m, hs, t, r, h => hs.elim
theorem At.back (hb : Back X S X') (hr : VSub S1.regs rs) (ha : At X' S1 a w) : At X ⟨rs, S.objs, S.facts⟩ a w := by
 obtain ⟨hno, a0, h0⟩ := hb
 refine ⟨(h0.gr (ha.mem.gr.gr hno)).mem, fun t r ht => ?_, ha.size, ha.defers⟩
 obtain ⟨x, rfl, h1⟩ := VSub.get rs hr t r ht
 exact readV_v.2 (readV_v.1 (ha.regs t _ h1))
theorem EC.back (hb : Back X S X') (rs : List (Tmp × R)) (hr : VSub S1.regs rs) (k : EC X Q c ⟨rs, S.objs, S.facts⟩) : EC X' Q c S1 := ⟨fun a w ha => k.go a w (At.back hb hr ha)⟩
theorem EL.back (hb : Back X S X') (rs : List (Tmp × R)) (hr : VSub S1.regs rs) (k : EL X ops Q l ⟨rs, S.objs, S.facts⟩) : EL X' ops Q l S1 := ⟨fun a w ha => k.go a w (At.back hb hr ha)⟩
theorem EK.back (hb : Back X S X') (rs : List (Tmp × R)) (hr : VSub S1.regs rs) (k : EK X K ⟨rs, S.objs, S.facts⟩) : EK X' K S1 := ⟨fun a w ha => k.go a w (At.back hb hr ha)⟩
end
end E
end Go.Proofs.Ytiledgojbpmoiaa
/-
 The abstract machine at regions that draw their order: what is made new may be used at once (its number is known by a name).
 Conditions: none.
-/
namespace Go.Proofs.Ytiledgojbpmoiaa
set_option linter.unusedVariables false
open Go.RowKit Mono Rlp
namespace E
namespace W
inductive Kd where
 | var (T : TypeId)
 | row (e n : Nat)
def Kd.ty : Kd → TypeId
 | .var T => T
 | .row e _ => e
def Kd.val (g : Nat) : Kd → Value
 | .var _ => .pointer (some ⟨g, 0, none⟩)
 | .row _ n => .slice (some ⟨g, 0, none⟩) n n
def gOf : Value → Nat
 | .pointer (some p) => p.block
 | .slice (some p) _ _ => p.block
 | _ => 0
theorem gOf_val (K : Kd) (g : Nat) : gOf (K.val g) = g := by cases K <;> rfl
theorem one_val (K : Kd) (g : Nat) : (K.val g).oneCell' = true := by cases K <;> rfl
inductive Inf where
 | still (r : R)
 | grow (r : R)
 | skip
 | new (K : Kd) (d : D)
def Inf.kind : Inf → Nat
 | .still _ => 0
 | .grow _ => 1
 | .skip => 2
 | .new _ _ => 3
def Inf.reg (g : Nat) : Inf → R
 | .still r => r
 | .grow r => r
 | .skip => .any
 | .new K _ => .val (.v (K.val g))
abbrev Fr := Tmp × Kd × D × Nat
structure Frs where
 H : Nat → Nat
 G : Nat → R
 ks : Nat → Nat
 k : Nat
 l : List Fr
def frOf (k : Nat) (d : Option Tmp) : Inf → List Fr
 | .new K x => match d with
  | some t => [(t, K, x, k)]
  | none => []
 | _ => []
def Frs.next (E : Frs) (d : Option Tmp) (i : Inf) : Frs := ⟨E.H, E.G, E.ks, E.k + 1, E.l ++ frOf E.k d i⟩
def News (ops : Array Oper) (S : St) (o : Oper) (K : Kd) (d : D) : Prop :=
 ∀ base ok a w, Kn base ok (fun t => t ∈ o.looksAt ops) S a w → ∃ cs : List Value, (execOp a.eval o).run Try.prog w = .ok (.value (K.val w.heap.size)) (w.alloc (.cells cs.toArray K.ty)) ∧ Reads ok w d cs
def OkI (ops : Array Oper) (S : St) (o : Oper) (G : R) : Inf → Prop
 | .still r => guardOf ops S o = some true ∧ Still ops S o r
 | .grow r => guardOf ops S o = some true ∧ Grows ops S o (· = r) ∧ G = r
 | .skip => guardOf ops S o = some false
 | .new K d => guardOf ops S o = some true ∧ News ops S o K d
def offB (N : Nat) (d : Option Tmp) (E : Frs) : Bool :=
 match d with
 | some t => decide (t < N) && E.l.all fun x => x.1 != t
 | none => true
def EM (N : Nat) (ops : Array Oper) (T : St → Frs → Prop) : List Oper → St → Frs → Prop
 | [], S, E => T S E
 | o :: l, S, E => ∃ inf : Inf, offB N o.dst E = true ∧ (inf.kind = 3 → o.dst ≠ none) ∧ E.ks E.k = inf.kind ∧ OkI ops S o (E.G E.k) inf ∧ EM N ops T l (S.put o.dst (inf.reg (E.H E.k))) (E.next o.dst inf)
section
variable {N : Nat} {X : Cx N} {S S' : St} {a : Act} {w w' : World} {ops : Array Oper} {o : Oper} {Q : Exit → Act → World → Prop} {l : List Oper} {T : St → Frs → Prop} {E : Frs}
theorem n_alloc {Ty : TypeId} {d : D} (ho : o.op = .alloc Ty) (hz : Zero Ty d) : News ops S o (.var Ty) d := fun base ok a w ha => E.n_alloc ho hz base ok a w ha
theorem n_box {Ty : TypeId} {x : Operand} {d : D} (ho : o.op = .box Ty x) (hx : ev S x = some (.val d)) : News ops S o (.var Ty) d := fun base ok a w ha => E.n_box ho hx base ok a w ha
def stAt (H : Nat → Nat) : Nat → St → List Oper → List Inf → Nat → St
 | _, S, _, _, 0 => S
 | k0, S, o :: l, i :: infs, k + 1 => stAt H (k0 + 1) (S.put o.dst (i.reg (H k0))) l infs k
 | _, S, _, _, _ => S
def frIx : Nat → List Oper → List Inf → List Fr
 | k, o :: l, i :: infs => frOf k o.dst i ++ frIx (k + 1) l infs
 | _, [], _ => []
 | _, _ :: _, [] => []
theorem frOf_mem {k : Nat} {d : Option Tmp} {i : Inf} {e : Fr} (h : e ∈ frOf k d i) : e.2.2.2 = k ∧ d = some e.1 ∧ i = .new e.2.1 e.2.2.1 := by
 cases i <;> cases d <;> simp [frOf] at h
 subst h
 exact ⟨rfl, rfl, rfl⟩
theorem frOf_nodup (k : Nat) (d : Option Tmp) (i : Inf) : ((frOf k d i).map fun e => e.2.2.2).Nodup := by
 cases i <;> cases d <;> simp [frOf]
theorem frIx_mem : ∀ (l : List Oper) (infs : List Inf) (k : Nat) (e : Fr), e ∈ frIx k l infs → ∃ j o, e.2.2.2 = k + j ∧ l[j]? = some o ∧ o.dst = some e.1 ∧ infs[j]? = some (.new e.2.1 e.2.2.1)
 | [], infs, k, e, h => by cases infs <;> simp [frIx] at h
 | o :: l, [], k, e, h => by simp [frIx] at h
 | o :: l, i :: infs, k, e, h => by
  rw [frIx] at h
  rcases List.mem_append.1 h with h | h
  ·
   obtain ⟨h1, h2, h3⟩ := frOf_mem h
   exact ⟨0, o, h1, rfl, h2, by rw [h3]; rfl⟩
  ·
   obtain ⟨j, o', h1, h2, h3, h4⟩ := frIx_mem l infs (k + 1) e h
   exact ⟨j + 1, o', by omega, by simpa using h2, h3, by simpa using h4⟩
theorem frIx_nodup : ∀ (l : List Oper) (infs : List Inf) (k : Nat), ((frIx k l infs).map fun e => e.2.2.2).Nodup
 | [], infs, k => by cases infs <;> simp [frIx]
 | o :: l, [], k => by simp [frIx]
 | o :: l, i :: infs, k => by
  rw [frIx, List.map_append]
  refine List.nodup_append.2 ⟨frOf_nodup k o.dst i, frIx_nodup l infs (k + 1), fun x hx y hy e => ?_⟩
  subst e
  obtain ⟨e, he, rfl⟩ := List.mem_map.1 hy
  obtain ⟨j, o', h1, _⟩ := frIx_mem l infs (k + 1) e he
  obtain ⟨e', he', h2⟩ := List.mem_map.1 hx
  have := (frOf_mem he').1
  omega
theorem em_list : ∀ (l : List Oper) (S : St) (E : Frs), EM N ops T l S E → ∃ infs : List Inf, infs.length = l.length ∧
  (∀ k o i, l[k]? = some o → infs[k]? = some i → OkI ops (stAt E.H E.k S l infs k) o (E.G (E.k + k)) i ∧ E.ks (E.k + k) = i.kind ∧ (∀ t, o.dst = some t → t < N ∧ (∀ x ∈ E.l, x.1 ≠ t) ∧ ∀ j oj K d, j < k → l[j]? = some oj → infs[j]? = some (.new K d) → oj.dst ≠ some t) ∧ (i.kind = 3 → o.dst ≠ none)) ∧
  T (stAt E.H E.k S l infs l.length) ⟨E.H, E.G, E.ks, E.k + l.length, E.l ++ frIx E.k l infs⟩
 | [], S, E, h => ⟨[], rfl, (fun k o i h => by simp at h), by
  have h' : T S E := h
  simpa [frIx, stAt] using h'⟩
 | o :: l, S, E, h => by
  obtain ⟨inf, h1, h1', h0, h2, h3⟩ := h
  obtain ⟨infs, h4, h5, h6⟩ := em_list l _ _ h3
  have hoff : ∀ t, o.dst = some t → t < N ∧ ∀ x ∈ E.l, x.1 ≠ t := fun t ht => by
   rw [ht] at h1
   simp only [offB, Bool.and_eq_true, decide_eq_true_eq] at h1
   exact ⟨h1.1, fun x hx => by simpa using List.all_eq_true.1 h1.2 x hx⟩
  refine ⟨inf :: infs, by simp [h4], fun k o' i hk hi => ?_, by
   have e : E.k + (o :: l).length = E.k + 1 + l.length := by simp; omega
   rw [e, frIx, ← List.append_assoc]
   exact h6⟩
  cases k with
  | zero =>
   cases hk
   cases hi
   exact ⟨h2, h0, fun t ht => ⟨(hoff t ht).1, (hoff t ht).2, fun j _ _ _ hj => by omega⟩, h1'⟩
  | succ k =>
   obtain ⟨g1, g0, g2, g3⟩ := h5 k o' i (by simpa using hk) (by simpa using hi)
   have e : E.k + (k + 1) = (E.next o.dst inf).k + k := by show _ = E.k + 1 + k; omega
   rw [e]
   refine ⟨g1, g0, fun t ht => ⟨(g2 t ht).1, fun x hx => (g2 t ht).2.1 x (List.mem_append_left _ hx), fun j oj K d hj hoj hij => ?_⟩, g3⟩
   cases j with
   | zero =>
    cases hoj
    cases hij
    intro e
    exact (g2 t ht).2.1 (t, K, d, E.k) (List.mem_append_right _ (by rw [e]; simp [frOf])) rfl
   | succ j => exact (g2 t ht).2.2 j oj K d (by omega) (by simpa using hoj) (by simpa using hij)
theorem stAt_objs (H : Nat → Nat) : ∀ (l : List Oper) (infs : List Inf) (k k0 : Nat) (S : St), (stAt H k0 S l infs k).objs = S.objs ∧ (stAt H k0 S l infs k).facts = S.facts
 | _, _, 0, _, S => by simp [stAt]
 | [], infs, k + 1, _, S => by simp [stAt]
 | o :: l, [], k + 1, _, S => by simp [stAt]
 | o :: l, i :: infs, k + 1, k0, S => by
  rw [stAt]
  have := stAt_objs H l infs k (k0 + 1) (S.put o.dst (i.reg (H k0)))
  rw [this.1, this.2]
  unfold St.put
  split <;> simp
theorem stAt_look (H : Nat → Nat) : ∀ (l : List Oper) (infs : List Inf) (k k0 : Nat) (S : St) (t : Tmp), infs.length = l.length → k ≤ l.length →
  (∀ j oj i, j < k → l[j]? = some oj → infs[j]? = some i → oj.dst = some t → (∀ m om, j < m → m < k → l[m]? = some om → om.dst ≠ some t) → look (stAt H k0 S l infs k).regs t = some (i.reg (H (k0 + j)))) ∧
  ((∀ j oj, j < k → l[j]? = some oj → oj.dst ≠ some t) → look (stAt H k0 S l infs k).regs t = look S.regs t)
 | _, _, 0, _, S, t, _, _ => ⟨(fun j _ _ h => by omega), fun _ => by simp [stAt]⟩
 | [], infs, k + 1, _, S, t, _, h => by simp at h
 | o :: l, [], k + 1, _, S, t, h, _ => by simp at h
 | o :: l, i :: infs, k + 1, k0, S, t, hl, hk => by
  rw [stAt]
  have ih := stAt_look H l infs k (k0 + 1) (S.put o.dst (i.reg (H k0))) t (by simpa using hl) (by simpa using hk)
  refine ⟨fun j oj i' hj hoj hi hd hlast => ?_, fun hno => ?_⟩
  ·
   cases j with
   | zero =>
    cases hoj
    cases hi
    rw [ih.2 fun m om hm hom => hlast (m + 1) om (by omega) (by omega) (by simpa using hom), hd]
    simp [St.put, look]
   | succ j =>
    rw [show k0 + (j + 1) = k0 + 1 + j by omega]
    exact ih.1 j oj i' (by omega) (by simpa using hoj) (by simpa using hi) hd fun m om h1 h2 hom => hlast (m + 1) om (by omega) (by omega) (by simpa using hom)
  ·
   rw [ih.2 fun m om hm hom => hno (m + 1) om (by omega) (by simpa using hom)]
   have := hno 0 o (by omega) rfl
   cases hd : o.dst with
   | none => rfl
   | some d =>
    simp only [St.put, look]
    rw [if_neg (fun e => this (by rw [hd, e]))]
/-! ### What holds of a set of operations -/
abbrev zone (X : Cx N) (S : St) (ks : Nat → Nat) (ws : World) (F : Nat → Nat → Prop) (L : Nat → Prop) (b : Nat) : Prop := X.ok S.objs ws b ∨ ∃ i, L i ∧ ks i ≠ 3 ∧ F i b
def Ag (ks : Nat → Nat) (H : Nat → Nat) (L : Nat → Prop) (vs : Nat → Value) : Prop := ∀ j, L j → ks j = 3 → gOf (vs j) = H j
def ValI (z : Nat → Prop) (u : World) (f : Nat → Prop) (v : Value) : Inf → Prop
 | .new K d => ∃ g cs, v = K.val g ∧ (∀ b, f b ↔ b = g) ∧ u.heap[g]? = some (.cells cs.toArray K.ty (0, 0)) ∧ Reads z u d cs
 | .still r => ReadR z u r v
 | .grow r => ReadR z u r v
 | .skip => True
structure GG (X : Cx N) (S : St) (ks : Nat → Nat) (infs : (Nat → Nat) → List Inf) (ws : World) (F : Nat → Nat → Prop) (L : Nat → Prop) (vs : Nat → Value) (u : World) : Prop where
 gr : Gr ws u
 lo : ∀ j, L j → ∀ b, F j b → ws.heap.size ≤ b ∧ b < u.heap.size
 dis : ∀ i j b, L i → L j → i ≠ j → F i b → ¬ F j b
 val : ∀ H, Ag ks H L vs → ∀ j i, L j → (infs H)[j]? = some i → ValI (zone X S ks ws F L) u (F j) (vs j) i
theorem GG.lt {ks : Nat → Nat} {infs : (Nat → Nat) → List Inf} {ws : World} {F : Nat → Nat → Prop} {L : Nat → Prop} {vs : Nat → Value} {u : World} (h : GG X S ks infs ws F L vs u) {b : Nat} (hb : zone X S ks ws F L b) : b < u.heap.size := by
 rcases hb with hb | ⟨i, h1, _, h2⟩
 · exact Nat.lt_of_lt_of_le hb.2.1 h.gr.size
 · exact (h.lo i h1 b h2).2
theorem Ag.of {ks : Nat → Nat} {H : Nat → Nat} {L : Nat → Prop} {vs : Nat → Value} {k : Nat} {v : Value} (hk : ¬ L k) (h : Ag ks H (fun j => j = k ∨ L j) (fun j => if j = k then v else vs j)) : Ag ks H L vs := fun j hj h3 => by
 have := h j (.inr hj) h3
 have e : (if j = k then v else vs j) = vs j := if_neg fun e => hk (by rw [← e]; exact hj)
 rw [← e]
 exact this
theorem GG.step {ks : Nat → Nat} {infs : (Nat → Nat) → List Inf} {ws : World} {F : Nat → Nat → Prop} {L : Nat → Prop} {vs : Nat → Value} {u u' : World} (h : GG X S ks infs ws F L vs u) {k : Nat} (hk : ¬ L k) (hg : Gr u u') (v : Value) (f : Nat → Prop) (hf : ∀ b, f b → u.heap.size ≤ b ∧ b < u'.heap.size)
  (hv : ∀ H, Ag ks H (fun j => j = k ∨ L j) (fun j => if j = k then v else vs j) → ∀ i, (infs H)[k]? = some i → (∀ b, zone X S ks ws F L b → zone X S ks ws (fun j => if j = k then f else F j) (fun j => j = k ∨ L j) b) →
   ValI (zone X S ks ws (fun j => if j = k then f else F j) (fun j => j = k ∨ L j)) u' f v i) :
  GG X S ks infs ws (fun j => if j = k then f else F j) (fun j => j = k ∨ L j) (fun j => if j = k then v else vs j) u' := by
 have hF : ∀ j, L j → (if j = k then f else F j) = F j := fun j hj => if_neg fun e => hk (by rw [← e]; exact hj)
 have hz : ∀ b, zone X S ks ws F L b → zone X S ks ws (fun j => if j = k then f else F j) (fun j => j = k ∨ L j) b := fun b hb => by
  rcases hb with hb | ⟨i, h1, h2, h3⟩
  · exact .inl hb
  · exact .inr ⟨i, .inr h1, h2, by show (if i = k then f else F i) b; rw [hF i h1]; exact h3⟩
 have hc : ∀ p : Addr, zone X S ks ws F L p.block → u'.cell? p = u.cell? p := fun p hp => hg.cell (h.lt hp)
 refine ⟨h.gr.trans hg, fun j hj b hb => ?_, fun i j b hi hj hij hb => ?_, fun H hH j i hj hi => ?_⟩
 ·
  by_cases e : j = k
  ·
   rw [if_pos e] at hb
   exact ⟨Nat.le_trans h.gr.size (hf b hb).1, (hf b hb).2⟩
  ·
   rw [if_neg e] at hb
   have := h.lo j (hj.resolve_left e) b hb
   exact ⟨this.1, Nat.lt_of_lt_of_le this.2 hg.size⟩
 ·
  by_cases e1 : i = k
  ·
   by_cases e2 : j = k
   · exact absurd (e1.trans e2.symm) hij
   ·
    rw [if_pos e1] at hb
    rw [if_neg e2]
    intro hb2
    have := (h.lo j (hj.resolve_left e2) b hb2).2
    have := (hf b hb).1
    omega
  ·
   rw [if_neg e1] at hb
   by_cases e2 : j = k
   ·
    rw [if_pos e2]
    intro hb2
    have := (h.lo i (hi.resolve_left e1) b hb).2
    have := (hf b hb2).1
    omega
   ·
    rw [if_neg e2]
    exact h.dis i j b (hi.resolve_left e1) (hj.resolve_left e2) hij hb
 ·
  by_cases e : j = k
  ·
   subst e
   simp only [if_true]
   exact hv H hH i hi hz
  ·
   have hj' := hj.resolve_left e
   have h0 := h.val H (hH.of hk) j i hj' hi
   simp only [if_neg e]
   cases i with
   | new K d =>
    obtain ⟨g, cs, g1, g2, g3, g4⟩ := h0
    exact ⟨g, cs, g1, g2, (hg.block g (lt_of_some g3)).trans g3, Reads.mono hz hc _ _ g4⟩
   | still r => exact ReadR.mono hz hc h0
   | grow r => exact ReadR.mono hz hc h0
   | skip => trivial
/-! ### The end of the head -/
def objOf (H : Nat → Nat) (e : Fr) : Obj := .var (H e.2.2.2) e.2.1.ty e.2.2.1
theorem Good.ext {H : Nat → Nat} {z : Nat → Prop} {b : Act} {u : World} : ∀ (E : List Fr) (S : St), Good X z S b u → (∀ e ∈ E, X.mine (H e.2.2.2) ∧ ¬ z (H e.2.2.2) ∧ ∃ cs, u.heap[H e.2.2.2]? = some (.cells cs.toArray e.2.1.ty (0, 0)) ∧ Reads z u e.2.2.1 cs) →
  (E.map fun e => H e.2.2.2).Nodup → (∀ e ∈ E, ∀ o ∈ S.objs, o.blk ≠ some (H e.2.2.2)) → Good X z ⟨S.regs, E.map (objOf H) ++ S.objs, S.facts⟩ b u
 | [], S, h, _, _, _ => h
 | e :: E, S, h, hE, hn, ho => by
  obtain ⟨h1, h2, cs, h4, h5⟩ := hE e (by simp)
  simp only [List.map_cons, List.nodup_cons] at hn
  have ih := Good.ext E S h (fun e he => hE e (by simp [he])) hn.2 fun e he => ho e (by simp [he])
  rw [List.map_cons, List.cons_append]
  refine ⟨fun o hm => ?_, List.pairwise_cons.2 ⟨fun o hm b hb => ?_, ih.apart⟩, fun o hm b hb => ?_, ih.fact, ih.regs⟩
  ·
   rcases List.mem_cons.1 hm with rfl | hm
   · exact ⟨h1, cs, h4, h5⟩
   · exact ih.at_ o hm
  ·
   obtain rfl : H e.2.2.2 = b := by simpa [objOf, Obj.blk] using hb
   rcases List.mem_append.1 hm with hm | hm
   ·
    obtain ⟨e', he', rfl⟩ := List.mem_map.1 hm
    intro hb'
    obtain h : H e'.2.2.2 = H e.2.2.2 := by simpa [objOf, Obj.blk] using hb'
    exact hn.1 (List.mem_map.2 ⟨e', he', h⟩)
   · exact ho e (by simp) o hm
  ·
   rcases List.mem_cons.1 hm with rfl | hm
   ·
    intro hb'
    obtain rfl : H e.2.2.2 = b := by simpa [objOf, Obj.blk] using hb'
    exact h2 hb
   · exact ih.off o hm b hb
set_option maxHeartbeats 1000000 in
theorem draw {id : Nat} (n : Nat) (ks : Nat → Nat) (G : Nat → R) (hB : monoB l.toArray n N = true)
  (h : ∀ H : Nat → Nat, EM N l.toArray (fun S' E => EL X l.toArray Q (l.drop n) ⟨S'.regs, E.l.map (objOf H) ++ S'.objs, S'.facts⟩) (l.take n) S ⟨H, G, ks, 0, []⟩) : EC X Q (.region id l.toArray true) S := by
 constructor
 intro a ws ha
 have hall := fun H => em_list _ _ _ (h H)
 obtain ⟨infs, hsp⟩ := Classical.axiomOfChoice hall
 have hle : n ≤ l.length := by simpa using (facts_of_monoB hB).le
 have hln : (l.take n).length = n := by simp; omega
 have hlen : ∀ H, (infs H).length = n := fun H => (hsp H).1.trans hln
 have hok := fun H => (hsp H).2.1
 have htake : ∀ k, k < n → (l.take n)[k]? = l[k]? := fun k hk => by rw [List.getElem?_take, if_pos hk]
 have hdst : ∀ k o, l[k]? = some o → dstOf l.toArray k = o.dst := fun k o ho => by unfold dstOf; simp [ho]
 have hks := ha.kn fun _ => True
 have hkind : ∀ H j i, (infs H)[j]? = some i → ks j = i.kind := fun H j i hi => by
  have hj : j < n := by
   have := (List.getElem?_eq_some_iff.1 hi).1
   rw [hlen H] at this
   exact this
  have := (hok H j l[j] i (by rw [htake j hj]; simp) hi).2.1
  simpa using this
 -- what a slot's value is known to be
 have hreg : ∀ H F L vs u, GG X S ks infs ws F L vs u → Ag ks H L vs → ∀ j, L j → ∀ i, (infs H)[j]? = some i → ReadR (zone X S ks ws F L) u (i.reg (H j)) (vs j) := fun H F L vs u hG hA j hj i hi => by
  have hv := hG.val H hA j i hj hi
  have hk := hkind H j i hi
  cases i with
  | still r => exact hv
  | grow r => exact hv
  | skip => trivial
  | new K d =>
   obtain ⟨g, cs, g1, _⟩ := hv
   have := hA j hj hk
   rw [g1, gOf_val] at this
   subst this
   rw [g1]
   exact readV_v.2 ⟨one_val K _, rfl⟩
 refine wp_region_set n (by kernel_rfl) (by rw [ha.size]; exact hB) (fun L vs u => ∃ F, GG X S ks infs ws F L vs u) ?_ ?_ ?_ ?_
 ·
  rintro L L' vs vs' w hL hvs ⟨F, hG⟩
  obtain rfl : L = L' := funext fun j => propext (hL j)
  refine ⟨F, hG.gr, hG.lo, hG.dis, fun H hA j i hj hi => ?_⟩
  rw [← hvs j hj]
  exact hG.val H (fun j hj h3 => by rw [hvs j hj]; exact hA j hj h3) j i hj hi
 · exact ⟨fun _ _ => False, ⟨⟨rfl, rfl, rfl, Nat.le_refl _, fun _ _ => rfl⟩, fun _ h => h.elim, fun _ _ _ h => h.elim, fun _ _ _ _ h => h.elim⟩⟩
 ·
  intro k o L vs b u hk ho hL hLk ⟨F, hG⟩ hslot
  have hinf : ∀ H, ∃ i, (infs H)[k]? = some i := fun H => ⟨(infs H)[k]'(by rw [hlen H]; exact hk), by simp⟩
  have hO : ∀ H i, (infs H)[k]? = some i → OkI l.toArray (stAt H 0 S (l.take n) (infs H) k) o (G k) i := fun H i hi => by
   have := (hok H k o i (by rw [htake k hk]; exact ho) hi).1
   simpa using this
  have hc : ∀ p : Addr, X.ok S.objs ws p.block → u.cell? p = ws.cell? p := fun p hp => hG.gr.cell hp.2.1
  have hkn : ∀ H, Ag ks H L vs → Kn X.mine (zone X S ks ws F L) (fun t => t ∈ o.looksAt l.toArray) (stAt H 0 S (l.take n) (infs H) k) b u := fun H hA => by
   refine ⟨fun p hp => ?_, fun f hf => ?_, fun b hb => hG.lt hb, fun t r ht hr => ?_⟩
   ·
    rw [(stAt_objs _ _ _ _ _ _).1] at hp
    have hat := hks.objs p hp
    exact hat.move (fun _ => .inl) hc fun g hb => hG.gr.block g (Obj.blk_lt hat hb).2
   ·
    rw [(stAt_objs _ _ _ _ _ _).2] at hf
    exact Reads.mono (fun _ => .inl) hc _ _ (hks.facts f hf)
   ·
    have hlk := stAt_look H (l.take n) (infs H) k 0 S t (by rw [hlen H, hln]) (by omega)
    rcases hslot t ht with ⟨j, h1, h2, h3, h4, h5⟩ | ⟨h1, h2⟩
    ·
     have hjl : j < l.length := by omega
     have hoj : l[j]? = some l[j] := by simp
     have hij : (infs H)[j]? = some ((infs H)[j]'(by rw [hlen H]; omega)) := by simp
     rw [hlk.1 j l[j] _ h1 (by rw [htake j (by omega)]; exact hoj) hij (by rw [← hdst j _ hoj]; exact h2) fun m om h6 h7 hom => by
      rw [htake m (by omega)] at hom
      rw [← hdst m _ hom]
      exact h3 m h6 h7, Nat.zero_add] at hr
     cases hr
     rw [h5]
     exact hreg H F L vs u hG hA j h4 _ hij
    ·
     rw [hlk.2 fun j oj hj hoj => by
      rw [htake j (by omega)] at hoj
      rw [← hdst j _ hoj]
      exact h1 j hj] at hr
     rw [h2]
     exact (ha.regs t r hr).mono (fun _ => .inl) hc
  -- the values that are there name what is new
  have hA0 : Ag ks (fun j => gOf (vs j)) L vs := fun j _ _ => rfl
  obtain ⟨i0, hi0⟩ := hinf fun j => gOf (vs j)
  have hO0 := hO _ _ hi0
  have hk0 := hkind _ _ _ hi0
  have hkn0 := hkn _ hA0
  cases i0 with
  | still r0 =>
   obtain ⟨hg, hS⟩ := hO0
   refine ⟨fun _ => ?_, fun hw => by rw [wanted_kn hkn0 hg] at hw; cases hw⟩
   obtain ⟨v, h1, h2⟩ := hS _ _ b u hkn0
   rw [h1]
   refine ⟨_, hG.step hLk (Gr.refl u) v (fun _ => False) (fun _ h => h.elim) fun H hH i hi hz => ?_⟩
   have hO1 := hO _ _ hi
   have hk1 := hkind _ _ _ hi
   rw [hk0] at hk1
   cases i <;> simp only [Inf.kind] at hk1 <;> first | cases hk1 | skip
   obtain ⟨_, hS1⟩ := hO1
   obtain ⟨v', h3, h4⟩ := hS1 _ _ b u (hkn H (hH.of hLk))
   rw [h1] at h3
   cases h3
   exact ReadR.mono hz (fun _ _ => rfl) h4
  | grow r0 =>
   obtain ⟨hg, hS, hGr⟩ := hO0
   refine ⟨fun _ => setsTo_of_grows (hS _ _ b u hkn0) (fun v w' hgr hv => ?_), fun hw => by rw [wanted_kn hkn0 hg] at hw; cases hw⟩
   obtain ⟨r', rfl, hv⟩ := hv
   refine ⟨_, hG.step hLk hgr v (fun b => u.heap.size ≤ b ∧ b < w'.heap.size) (fun _ h => h) fun H hH i hi hz => ?_⟩
   have hO1 := hO _ _ hi
   have hk1 := hkind _ _ _ hi
   rw [hk0] at hk1
   cases i <;> simp only [Inf.kind] at hk1 <;> first | cases hk1 | skip
   obtain ⟨_, _, hGr1⟩ := hO1
   rw [hGr] at hGr1
   subst hGr1
   refine ReadR.mono (fun b hb => ?_) (fun _ _ => rfl) hv
   rcases hb.1 with h1 | h1
   · exact hz b h1
   · exact .inr ⟨k, .inl rfl, (by rw [hk0]; simp [Inf.kind]), by show (if k = k then _ else F k) b; rw [if_pos rfl]; exact ⟨h1, hb.2⟩⟩
  | skip =>
   refine ⟨fun hw => (by rw [wanted_kn hkn0 hO0] at hw; cases hw), fun _ => ?_⟩
   refine ⟨_, hG.step hLk (Gr.refl u) undef (fun _ => False) (fun _ h => h.elim) fun H hH i hi hz => ?_⟩
   have hk1 := hkind _ _ _ hi
   rw [hk0] at hk1
   cases i <;> simp only [Inf.kind] at hk1 <;> first | (cases hk1; done) | exact True.intro
  | new K0 d0 =>
   obtain ⟨hg, hS⟩ := hO0
   refine ⟨fun _ => ?_, fun hw => by rw [wanted_kn hkn0 hg] at hw; cases hw⟩
   obtain ⟨cs0, h1, _⟩ := hS _ _ b u hkn0
   rw [h1]
   refine ⟨_, hG.step hLk (gr_alloc u _) _ (fun b => b = u.heap.size) (fun b e => by subst e; simp) fun H hH i hi hz => ?_⟩
   have hO1 := hO _ _ hi
   have hk1 := hkind _ _ _ hi
   rw [hk0] at hk1
   cases i <;> simp only [Inf.kind] at hk1 <;> first | cases hk1 | skip
   rename_i K d
   obtain ⟨_, hS1⟩ := hO1
   obtain ⟨cs, h3, h4⟩ := hS1 _ _ b u (hkn H (hH.of hLk))
   rw [h1] at h3
   have e1 : K0.val u.heap.size = K.val u.heap.size := by
    injection h3 with e _
    injection e
   have e2 : u.alloc (.cells cs0.toArray K0.ty) = u.alloc (.cells cs.toArray K.ty) := by
    injection h3
   rw [e1, e2]
   exact ⟨u.heap.size, cs, rfl, fun b => Iff.rfl, heap_alloc_new u _, Reads.mono hz (fun p hp => (gr_alloc u _).cell (hG.lt hp)) _ _ h4⟩
 ·
  intro vs u b ⟨F, hG⟩ hs hd hslot
  generalize hH : (fun j => gOf (vs j)) = H
  have hA : Ag ks H (fun j => j < n) vs := fun j _ _ => by rw [← hH]
  have hT := (hsp H).2.2
  simp only [List.nil_append] at hT
  rw [hln] at hT
  have hc : ∀ p : Addr, X.ok S.objs ws p.block → u.cell? p = ws.cell? p := fun p hp => hG.gr.cell hp.2.1
  have hsz := ha.mem.gr.size
  have hgood : Good X (zone X S ks ws F fun j => j < n) (stAt H 0 S (l.take n) (infs H) n) b u := by
   refine ⟨fun p hp => ?_, by rw [(stAt_objs _ _ _ _ _ _).1]; exact ha.mem.apart, fun p hp b hb e => ?_, fun f hf => ?_, fun t r hr => ?_⟩
   ·
    rw [(stAt_objs _ _ _ _ _ _).1] at hp
    have hat := hks.objs p hp
    exact hat.move (fun _ => .inl) hc fun g hb => hG.gr.block g (Obj.blk_lt hat hb).2
   ·
    rw [(stAt_objs _ _ _ _ _ _).1] at hp
    rcases hb with hb | ⟨i, h1, _, h2⟩
    · exact hb.2.2 p hp e
    ·
     have := (Obj.blk_lt (ha.mem.at_ p hp) e).2
     have := (hG.lo i h1 b h2).1
     omega
   ·
    rw [(stAt_objs _ _ _ _ _ _).2] at hf
    exact Reads.mono (fun _ => .inl) hc _ _ (hks.facts f hf)
   ·
    have hlk := stAt_look H (l.take n) (infs H) n 0 S t (by rw [hlen H, hln]) (by omega)
    rcases hslot t with ⟨j, h1, h2, h3, h4, h5⟩ | ⟨h1, h2⟩
    ·
     have hjl : j < l.length := by omega
     have hoj : l[j]? = some l[j] := by simp
     have hij : (infs H)[j]? = some ((infs H)[j]'(by rw [hlen H]; omega)) := by simp
     rw [hlk.1 j l[j] _ h1 (by rw [htake j (by omega)]; exact hoj) hij (by rw [← hdst j _ hoj]; exact h2) fun m om h6 h7 hom => by
      rw [htake m (by omega)] at hom
      rw [← hdst m _ hom]
      exact h3 m h6 h7, Nat.zero_add] at hr
     cases hr
     rw [h5]
     exact hreg H F _ vs u hG hA j h4 _ hij
    ·
     rw [hlk.2 fun j oj hj hoj => by
      rw [htake j (by omega)] at hoj
      rw [← hdst j _ hoj]
      exact h1 j hj] at hr
     rw [h2]
     exact (ha.regs t r hr).mono (fun _ => .inl) hc
  have hfr : ∀ j K d, (infs H)[j]? = some (.new K d) → j < n ∧ ∃ cs, (∀ b, F j b ↔ b = H j) ∧ u.heap[H j]? = some (.cells cs.toArray K.ty (0, 0)) ∧ Reads (zone X S ks ws F fun j => j < n) u d cs := fun j K d hj => by
   have hjn : j < n := by
    have := (List.getElem?_eq_some_iff.1 hj).1
    rw [hlen H] at this
    exact this
   obtain ⟨g, cs, g1, g2, g3, g4⟩ := hG.val H hA j _ hjn hj
   have hg := hA j hjn (hkind H j _ hj)
   rw [g1, gOf_val] at hg
   subst hg
   exact ⟨hjn, cs, g2, g3, g4⟩
  refine hT.go b u ((Good.ext _ _ hgood (fun e he => ?_) ?_ fun e he o ho => ?_).at (ha.mem.gr.trans (.of hG.gr)) (fun b hb => ?_) (hs.trans ha.size) (hd.trans ha.defers))
  ·
   obtain ⟨j, o, h1, h2, h3, h4⟩ := frIx_mem _ _ _ _ he
   rw [Nat.zero_add] at h1
   obtain ⟨hjn, cs, g2, g3, g4⟩ := hfr j _ _ h4
   rw [h1]
   refine ⟨.inr (Nat.le_trans hsz (hG.lo j hjn _ ((g2 _).2 rfl)).1), fun hz => ?_, cs, g3, g4⟩
   rcases hz with hz | ⟨i, k1, k2, k3⟩
   ·
    have := (hG.lo j hjn _ ((g2 _).2 rfl)).1
    have := hz.2.1
    omega
   ·
    by_cases e : i = j
    ·
     subst e
     exact k2 (hkind H i _ h4)
    · exact hG.dis i j _ k1 hjn e k3 ((g2 _).2 rfl)
  ·
   have hnd := frIx_nodup (l.take n) (infs H) 0
   have hinj : ∀ x ∈ (frIx 0 (l.take n) (infs H)).map (fun e => e.2.2.2), ∀ y ∈ (frIx 0 (l.take n) (infs H)).map (fun e => e.2.2.2), H x = H y → x = y := by
    intro x hx y hy e
    obtain ⟨ex, hex, rfl⟩ := List.mem_map.1 hx
    obtain ⟨ey, hey, rfl⟩ := List.mem_map.1 hy
    obtain ⟨jx, ox, a1, a2, a3, a4⟩ := frIx_mem _ _ _ _ hex
    obtain ⟨jy, oy, b1, b2, b3, b4⟩ := frIx_mem _ _ _ _ hey
    rw [Nat.zero_add] at a1 b1
    rw [a1, b1] at e ⊢
    obtain ⟨hx', _, c2, _⟩ := hfr jx _ _ a4
    obtain ⟨hy', _, d2, _⟩ := hfr jy _ _ b4
    by_cases hne : jx = jy
    · exact hne
    · exact absurd ((d2 _).2 e) (hG.dis jx jy (H jx) hx' hy' hne ((c2 _).2 rfl))
   have hmap : (frIx 0 (l.take n) (infs H)).map (fun e => H e.2.2.2) = ((frIx 0 (l.take n) (infs H)).map (fun e => e.2.2.2)).map H := by rw [List.map_map]; rfl
   rw [hmap]
   revert hnd hinj
   generalize (frIx 0 (l.take n) (infs H)).map (fun e => e.2.2.2) = m
   intro hnd hinj
   induction m with
   | nil => simp
   | cons x m ih =>
    simp only [List.map_cons, List.nodup_cons] at hnd ⊢
    refine ⟨fun hm => ?_, ih hnd.2 fun p hp q hq => hinj p (by simp [hp]) q (by simp [hq])⟩
    obtain ⟨y, hy, e⟩ := List.mem_map.1 hm
    have := hinj x (by simp) y (by simp [hy]) e.symm
    subst this
    exact hnd.1 hy
  ·
   obtain ⟨j, o', h1, h2, h3, h4⟩ := frIx_mem _ _ _ _ he
   rw [Nat.zero_add] at h1
   obtain ⟨hjn, cs, g2, g3, g4⟩ := hfr j _ _ h4
   rw [(stAt_objs _ _ _ _ _ _).1] at ho
   rw [h1]
   intro e
   have := (Obj.blk_lt (ha.mem.at_ o ho) e).2
   have := (hG.lo j hjn _ ((g2 _).2 rfl)).1
   omega
  ·
   refine ⟨?_, hG.lt hb⟩
   rcases hb with hb | ⟨i, k1, _, k3⟩
   · exact hb.1
   · exact .inr (.inr (Nat.le_trans hsz (hG.lo i k1 b k3).1))
end
end W
end E
end Go.Proofs.Ytiledgojbpmoiaa
/-
 The abstract machine: elements through slices held in variables, single bytes of arrays, conversions; heads of drawn regions whose new pieces may be used.
 Conditions: none.
-/
namespace Go.Proofs.Ytiledgojbpmoiaa
set_option linter.unusedVariables false
open Go.RowKit Mono Rlp
namespace E
section
variable {N : Nat} {X : Cx N} {S S' : St} {a : Act} {w w' : World} {ops : Array Oper} {o : Oper} {Q : Exit → Act → World → Prop} {K : Act → World → Prop} {l : List Oper} {c : Code} {TT : St → List Fr → Prop} {EE : List Fr} {rs : List (Tmp × R)} {os : List Obj} {fs : List (Value × D)}
/-! ### Places -/
theorem P_indexptr {t ty : Nat} {pos : String} {af : Array Edge} {gd : Option (Nat × Bool)} {x y : Operand} {T n e z g off : Nat} {k : Int} (hx : ev (⟨rs, os, fs⟩ : St) x = some (.val (.v (.pointer (some ⟨g, off, none⟩))))) (hy : ev (⟨rs, os, fs⟩ : St) y = some (.val (.v (.int .i64 k)))) (hT : assoc arL T = some (n, e, z)) (hk : 0 ≤ k ∧ k.toNat < n) (hg : guardOf ops ⟨rs, os, fs⟩ ⟨some t, .indexAddr T x y, ty, pos, af, gd⟩ = some true) (hN : Nat.blt t N = true) (kk : EL X ops Q l ⟨(t, .val (.v (.pointer (some ⟨g, off + k.toNat * z, none⟩)))) :: rs, os, fs⟩) : EL X ops Q (⟨some t, .indexAddr T x y, ty, pos, af, gd⟩ :: l) ⟨rs, os, fs⟩ := ES.still (g_index_ptr rfl hx hy (arI' hT) hk.1 hk.2) hg rfl hN kk
/-! ### Single bytes -/
/-! ### A variable that is a slice's row -/
end
namespace W
section
variable {N : Nat} {X : Cx N} {S S' : St} {a : Act} {w w' : World} {ops : Array Oper} {o : Oper} {Q : Exit → Act → World → Prop} {l : List Oper} {T : St → Frs → Prop} {E : Frs} {rs : List (Tmp × R)} {os : List Obj} {fs : List (Value × D)} {H : Nat → Nat} {G : Nat → R} {ks : Nat → Nat} {k : Nat} {fl : List Fr}
theorem nil (h : T S E) : EM N ops T [] S E := h
theorem still {t : Tmp} {r : R} (hO : Still ops ⟨rs, os, fs⟩ o r) (hg : guardOf ops ⟨rs, os, fs⟩ o = some true) (hd : o.dst = some t) (hoff : offB N (some t) ⟨H, G, ks, k, fl⟩ = true) (hk : ks k = 0) (kk : EM N ops T l ⟨(t, r) :: rs, os, fs⟩ ⟨H, G, ks, k + 1, fl⟩) : EM N ops T (o :: l) ⟨rs, os, fs⟩ ⟨H, G, ks, k, fl⟩ :=
 ⟨.still r, by rw [hd]; exact hoff, (fun e => by cases e), hk, ⟨hg, hO⟩, by
  rw [hd]
  have : fl ++ frOf k (some t) (Inf.still r) = fl := by simp [frOf]
  unfold Frs.next
  rw [this]
  exact kk⟩
theorem grow {t : Tmp} {r : R} (hO : Grows ops ⟨rs, os, fs⟩ o (· = r)) (hG : G k = r) (hg : guardOf ops ⟨rs, os, fs⟩ o = some true) (hd : o.dst = some t) (hoff : offB N (some t) ⟨H, G, ks, k, fl⟩ = true) (hk : ks k = 1) (kk : EM N ops T l ⟨(t, r) :: rs, os, fs⟩ ⟨H, G, ks, k + 1, fl⟩) : EM N ops T (o :: l) ⟨rs, os, fs⟩ ⟨H, G, ks, k, fl⟩ :=
 ⟨.grow r, by rw [hd]; exact hoff, (fun e => by cases e), hk, ⟨hg, hO, hG⟩, by
  rw [hd]
  have : fl ++ frOf k (some t) (Inf.grow r) = fl := by simp [frOf]
  unfold Frs.next
  rw [this]
  exact kk⟩
theorem skip {t : Tmp} (hg : guardOf ops ⟨rs, os, fs⟩ o = some false) (hd : o.dst = some t) (hoff : offB N (some t) ⟨H, G, ks, k, fl⟩ = true) (hk : ks k = 2) (kk : EM N ops T l ⟨(t, .any) :: rs, os, fs⟩ ⟨H, G, ks, k + 1, fl⟩) : EM N ops T (o :: l) ⟨rs, os, fs⟩ ⟨H, G, ks, k, fl⟩ :=
 ⟨.skip, by rw [hd]; exact hoff, (fun e => by cases e), hk, hg, by
  rw [hd]
  have : fl ++ frOf k (some t) Inf.skip = fl := by simp [frOf]
  unfold Frs.next
  rw [this]
  exact kk⟩
theorem new {t : Tmp} (K : Kd) (d : D) (hO : News ops ⟨rs, os, fs⟩ o K d) (hg : guardOf ops ⟨rs, os, fs⟩ o = some true) (hd : o.dst = some t) (hoff : offB N (some t) ⟨H, G, ks, k, fl⟩ = true) (hk : ks k = 3) (kk : EM N ops T l ⟨(t, .val (.v (K.val (H k)))) :: rs, os, fs⟩ ⟨H, G, ks, k + 1, fl ++ [(t, K, d, k)]⟩) : EM N ops T (o :: l) ⟨rs, os, fs⟩ ⟨H, G, ks, k, fl⟩ :=
 ⟨.new K d, by rw [hd]; exact hoff, (fun _ => by rw [hd]; exact fun e => by cases e), hk, ⟨hg, hO⟩, by
  rw [hd]
  exact kk⟩
end
end W
end E
end Go.Proofs.Ytiledgojbpmoiaa
