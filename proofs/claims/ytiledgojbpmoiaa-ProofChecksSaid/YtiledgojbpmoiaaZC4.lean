/-
 Merged (wip/tools/merge.py): E3, E4, E5.
 Conditions: none.
-/
import Derived.Test.YtiledgojbpmoiaaZC3
import Derived.IntWalk
import Derived.Great.BuildSlice
/-
 The abstract machine's operations: those that only read, or make new memory.
 Conditions: none. No program is named here.
-/
namespace Go.Proofs.Ytiledgojbpmoiaa
set_option linter.unusedVariables false
open Go.RowKit Mono Rlp
namespace E
def ev (S : St) : Operand → Option R
 | .tmp t => look S.regs t
 | .const v => if v.oneCell' then some (.val (.v v)) else some .any
 | .func f => some (.val (.v (.func (.func f) #[] #[])))
 | .global g => some (.val (.v (.pointer (some ⟨g, 0, none⟩))))
def evs (S : St) : List Operand → Option (List D)
 | [] => some []
 | x :: xs => match ev S x, evs S xs with
  | some (.val d), some ds => some (d :: ds)
  | _, _ => none
def guardOf (ops : Array Oper) (S : St) (o : Oper) : Option Bool :=
 match o.guard with
 | none => some true
 | some (j, want) => match (ops[j]?).bind (·.dst) with
  | some d => match look S.regs d with
   | some (.val (.v (.bool b))) => some (b == want)
   | some (.tpl []) => some false
   | _ => none
  | none => none
section
variable {N : Nat} {X : Cx N} {S S' : St} {a : Act} {w w' : World} {ops : Array Oper} {o : Oper} {Q : Exit → Act → World → Prop} {l : List Oper} {L : Tmp → Prop} {base : Nat → Prop} {ok : Nat → Prop}
theorem Kn.ev (h : Kn base ok L S a w) {x : Operand} {r : R} (hx : E.ev S x = some r) (hL : ∀ t, x = .tmp t → L t) : ReadR ok w r (a.eval x) := by
 cases x with
 | tmp t => exact h.regs t r (hL t rfl) hx
 | const v =>
  simp only [E.ev] at hx
  split at hx
  ·
   rename_i h1
   cases hx
   exact readV_v.2 ⟨h1, rfl⟩
  ·
   cases hx
   trivial
 | func f =>
  cases hx
  exact readV_v.2 ⟨rfl, rfl⟩
 | global g =>
  cases hx
  exact readV_v.2 ⟨rfl, rfl⟩
theorem Kn.evs (h : Kn base ok L S a w) : ∀ (xs : List Operand) (ds : List D), E.evs S xs = some ds → (∀ t, .tmp t ∈ xs → L t) → ReadVs ok w ds (xs.map a.eval)
 | [], ds, hx, _ => by cases hx; rfl
 | x :: xs, ds, hx, hL => by
  rw [E.evs] at hx
  cases h1 : E.ev S x with
  | none => rw [h1] at hx; cases hx
  | some r =>
   cases h2 : E.evs S xs with
   | none => rw [h1, h2] at hx; cases r <;> cases hx
   | some es =>
    rw [h1, h2] at hx
    cases r with
    | val d =>
     cases hx
     exact ⟨_, _, rfl, h.ev h1 (fun t e => hL t (by simp [e])), Kn.evs h xs es h2 fun t ht => hL t (by simp [ht])⟩
    | _ => cases hx
theorem looks_of {x : Operand} {t : Tmp} (hx : x = .tmp t) (h : x ∈ o.op.operands.toList) : t ∈ o.looksAt ops := by
 subst hx
 unfold Oper.looksAt
 exact List.mem_append_left _ (List.mem_filterMap.2 ⟨_, h, rfl⟩)
theorem wanted_kn (h : Kn base ok (fun t => t ∈ o.looksAt ops) S a w) {b : Bool} (hg : guardOf ops S o = some b) : Region.wanted o (yielded ops a.tmps) = b := by
 unfold guardOf at hg
 unfold Region.wanted
 split at hg
 ·
  rename_i e
  cases hg
  rw [e]
 ·
  rename_i j want e
  rw [e]
  dsimp only
  split at hg
  ·
   rename_i d hd
   split at hg
   ·
    rename_i b' hl
    cases hg
    have hv := (readV_v.1 (h.regs d _ (by
     unfold Oper.looksAt
     refine List.mem_append_right _ ?_
     rw [e]
     simp [hd]) hl)).2
    unfold yielded
    rw [hd]
    have hlt : d < a.tmps.size := by
     rcases Nat.lt_or_ge d a.tmps.size with h1 | h1
     · exact h1
     ·
      simp [Array.getElem?_eq_none h1] at hv
      cases hv
    simp [hlt] at hv
    simp [hlt, hv]
   ·
    rename_i hl
    cases hg
    obtain ⟨vs, hv, hvs⟩ := h.regs d _ (by
     unfold Oper.looksAt
     refine List.mem_append_right _ ?_
     rw [e]
     simp [hd]) hl
    obtain rfl : vs = [] := hvs
    unfold yielded
    rw [hd]
    rcases Nat.lt_or_ge d a.tmps.size with h1 | h1
    ·
     simp [h1] at hv
     simp [h1, hv]
    · simp [Array.getElem?_eq_none h1]
   · cases hg
  · cases hg
theorem wanted_of (h : At X S a w) {b : Bool} (hg : guardOf ops S o = some b) : Region.wanted o (yielded ops a.tmps) = b := wanted_kn (h.kn _) hg
def Still (ops : Array Oper) (S : St) (o : Oper) (r : R) : Prop :=
 ∀ base ok a w, Kn base ok (fun t => t ∈ o.looksAt ops) S a w → ∃ v, (execOp a.eval o).run Try.prog w = .ok (.value v) w ∧ ReadR ok w r v
def Grows (ops : Array Oper) (S : St) (o : Oper) (Φ : R → Prop) : Prop :=
 ∀ base ok a w, Kn base ok (fun t => t ∈ o.looksAt ops) S a w → growsTo Try.prog (fun v w' => ∃ r, Φ r ∧ ReadR (more ok w w') w' r v) w ((execOp a.eval o).run Try.prog w)
theorem EL.growE {Φ : R → Prop} (hg : guardOf ops S o = some true) (hd : ∀ t, o.dst = some t → t < N) (hO : Grows ops S o Φ) (k : ∀ r, Φ r → EL X ops Q l (S.put o.dst r)) : EL X ops Q (o :: l) S := by
 constructor
 intro a w ha
 have h1 := hO _ _ a w (ha.kn _)
 unfold wpList
 rw [if_pos (wanted_of ha hg)]
 refine .inl ?_
 unfold Oper.wp
 generalize (execOp a.eval o).run Try.prog w = res at *
 have hnext : ∀ v w', Gr w w' → (∃ r, Φ r ∧ ReadR (more (X.ok S.objs w) w w') w' r v) → wpList Try.prog ops Q l (a.put o.dst v) w' := fun v w' hgr ⟨r, hr, hv⟩ => (k r hr).go _ _ ((ha.gr hgr).put hd (hv.mono (fun b hb => more_ok ha.mem hgr hb) fun _ _ => rfl))
 cases res with
 | ok x w' =>
  cases x <;> simp only [growsTo] at h1 <;> simp only [Oper.upon]
  case value v => exact hnext _ _ h1.1 h1.2
  case skip => exact hnext _ _ h1.1 h1.2
  case enter g args =>
   obtain ⟨hgr, hc⟩ := h1
   refine hc.mono fun e w'' ⟨v, he, hg', hv⟩ => ?_
   subst he
   exact hnext _ _ (hgr.trans hg') hv
 | halt x w' => simp only [growsTo] at h1
theorem EL.grow {r : R} (hg : guardOf ops S o = some true) (hd : ∀ t, o.dst = some t → t < N) (hO : Grows ops S o (· = r)) (k : EL X ops Q l (S.put o.dst r)) : EL X ops Q (o :: l) S :=
 EL.growE hg hd hO fun _ e => e ▸ k
theorem EL.still {r : R} (hg : guardOf ops S o = some true) (hd : ∀ t, o.dst = some t → t < N) (hO : Still ops S o r) (k : EL X ops Q l (S.put o.dst r)) : EL X ops Q (o :: l) S := by
 constructor
 intro a w ha
 obtain ⟨v, h1, h2⟩ := hO _ _ a w (ha.kn _)
 unfold wpList
 rw [if_pos (wanted_of ha hg)]
 refine .inl ?_
 unfold Oper.wp
 rw [h1]
 exact k.go _ _ (ha.put hd h2)
theorem EL.skip (hg : guardOf ops S o = some false) (hd : ∀ t, o.dst = some t → t < N) (k : EL X ops Q l (S.put o.dst (.tpl []))) : EL X ops Q (o :: l) S := by
 constructor
 intro a w ha
 unfold wpList
 rw [if_neg (by rw [wanted_of ha hg]; decide)]
 exact k.go _ _ (ha.put hd ⟨[], rfl, rfl⟩)
theorem EL.split (b : Bool) (k1 : b = true → EL X ops Q l S) (k2 : b = false → EL X ops Q l S) : EL X ops Q l S := by
 cases b
 · exact k2 rfl
 · exact k1 rfl
/-! ### Values -/
theorem g_move {x : Operand} {r : R} (ho : o.op = .move x) (hx : ev S x = some r) : Still ops S o (r) := fun base ok a w ha => by
 refine ⟨a.eval x, ?_, ha.ev hx fun t e => looks_of e (by rw [ho]; simp [Op.operands])⟩
 unfold execOp
 simp only [ho, Sem.run_pure]
theorem g_assign {x : Operand} {r : R} (ho : o.op = .assign x) (hx : ev S x = some r) : Still ops S o (r) := fun base ok a w ha => by
 refine ⟨a.eval x, ?_, ha.ev hx fun t e => looks_of e (by rw [ho]; simp [Op.operands])⟩
 unfold execOp
 simp only [ho, Sem.run_pure]
theorem readVs_get {ok : Nat → Prop} : ∀ (ds : List D) (xs : List Value) (i : Nat) (d : D), ReadVs ok w ds xs → ds[i]? = some d → ∃ x, xs[i]? = some x ∧ ReadV ok w d x
 | [], xs, i, d, _, h => by simp at h
 | e :: ds, xs, i, d, h, hi => by
  obtain ⟨x, rest, rfl, h1, h2⟩ := h
  cases i with
  | zero => cases hi; exact ⟨x, rfl, h1⟩
  | succ i => exact readVs_get ds rest i d h2 (by simpa using hi)
theorem g_extract {x : Operand} {i : Nat} {ds : List D} {d : D} (ho : o.op = .extract x i) (hx : ev S x = some (.tpl ds)) (hd : ds[i]? = some d) : Still ops S o (.val d) := fun base ok a w ha => by
 obtain ⟨vs, h1, h2⟩ := ha.ev hx fun t e => looks_of e (by rw [ho]; simp [Op.operands])
 obtain ⟨y, h3, h4⟩ := readVs_get ds vs i d h2 hd
 refine ⟨y, ?_, h4⟩
 unfold execOp
 simp only [ho, h1, Instr.extract, Sem.run_bind]
 simp [h3]
theorem g_pick {c x y : Operand} {b : Bool} {r : R} (ho : o.op = .pick c x y) (hc : ev S c = some (.val (.v (.bool b)))) (hx : ev S (if b then x else y) = some r) : Still ops S o (r) := fun base ok a w ha => by
 have h1 := (readV_v.1 (ha.ev hc fun t e => looks_of e (by rw [ho]; simp [Op.operands]))).2
 refine ⟨a.eval (if b then x else y), ?_, ha.ev hx fun t e => looks_of e (by rw [ho]; cases b <;> simp [Op.operands])⟩
 unfold execOp
 simp only [ho, h1, asBool, Sem.run_bind, Sem.run_pure, Result.andThen_ok]
 cases b <;> simp
/-! ### Addresses, loads -/
structure Fld (P : Program) (T k off sz : Nat) (ag : Bool) : Prop where
 get : ∃ fs f d, P.underlying T = some (.struct fs) ∧ fs[k]? = some f ∧ f.offset = off ∧ (P.info? f.type).map (·.size) = some sz ∧ P.underlying f.type = some d ∧ d.isRow = ag
 pos : 0 < sz
structure Ty (P : Program) (T sz : Nat) (ag : Bool) : Prop where
 get : ∃ d, P.underlying T = some d ∧ d.isRow = ag ∧ (P.info? T).map (·.size) = some sz
def tyB (P : Program) (T : Nat) : Option (Nat × Bool) :=
 match P.info? T, P.underlying T with
 | some i, some d => some (i.size, d.isRow)
 | _, _ => none
theorem ty_of {P : Program} {T sz : Nat} {ag : Bool} (h : tyB P T = some (sz, ag)) : Ty P T sz ag := by
 unfold tyB at h
 split at h
 ·
  rename_i i d hi hd
  simp only [Option.some.injEq, Prod.mk.injEq] at h
  exact ⟨d, hd, h.2, by rw [hi]; simp [h.1]⟩
 · cases h
theorem run_fieldAt {P : Program} {T k off sz : Nat} {ag : Bool} (F : Fld P T k off sz ag) (b n : Nat) : (Instr.fieldAt T (.pointer (some ⟨b, n, none⟩)) k).run P w = .ok (.pointer (some ⟨b, n + off, none⟩)) w := by
 obtain ⟨⟨fs, f, d, h1, h2, h3, h4, h5, h6⟩, h7⟩ := F
 cases hi : P.info? f.type with
 | none => rw [hi] at h4; cases h4
 | some i =>
  rw [hi] at h4
  have hs : i.size = sz := by simpa using h4
  have hne : ¬ i.size = 0 := by omega
  simp [Instr.fieldAt, run_underlying h1, h2, Instr.sureAddr, fieldPlace, sizeOf, typeInfo, hi, hne, h3, add_none]
theorem run_loadAt {P : Program} {T : TypeId} {d : D} {ok : Nat → Prop} {cs : List Value} {b n : Nat} (hT : Ty P T d.size d.agg) (hr : Reads ok w d cs) (hc : w.rangeAt b n cs) : (Instr.loadAt T (.pointer (some ⟨b, n, none⟩))).run P w = .ok (form d cs) w := by
 obtain ⟨de, h1, h2, h3⟩ := hT
 have hl := Reads.len d cs hr
 unfold form
 cases hd : d.agg with
 | true =>
  rw [hd] at h2
  exact run_loadAt_mid w b n T cs de hc h1 h2 (by rw [h3, hl])
 | false =>
  rw [hd] at h2
  have h1' : cs.length = 1 := by
   rw [hl]
   cases d <;> simp [D.agg] at hd <;> rfl
  obtain ⟨c, rfl⟩ := List.length_eq_one_iff.1 h1'
  have hcell := hc 0 c rfl
  rw [Nat.add_zero] at hcell
  have hagg : (isAgg T).run P w = .ok false w := by
   unfold isAgg
   rw [Sem.run_bind, run_underlying h1 w]
   cases de <;> simp_all
  simp [Instr.loadAt, Instr.sureAddr, loadVar, Sem.run_bind, hagg, hcell]
theorem range_part {b n : Nat} {pre mid post : List Value} (h : w.rangeAt b n (pre ++ mid ++ post)) : w.rangeAt b (n + pre.length) mid := fun j v hv => by
 rw [Nat.add_assoc]
 refine h (pre.length + j) v ?_
 rw [List.append_assoc, List.getElem?_append_right (by omega), Nat.add_sub_cancel_left, List.getElem?_append_left ((List.getElem?_eq_some_iff.1 hv).1)]
 exact hv
theorem range_of_row {g : Nat} {cs : List Value} {t : TypeId} (h : w.heap[g]? = some (.cells cs.toArray t (0, 0))) : w.rangeAt g 0 cs := fun j v hv => by
 rw [Nat.zero_add, cell_of_row w g j _ t (0, 0) h]
 simpa using hv
theorem g_field {x : Operand} {T k off sz g n : Nat} {ag : Bool} (ho : o.op = .fieldAddr T x k) (hx : ev S x = some (.val (.v (.pointer (some ⟨g, n, none⟩))))) (F : Fld Try.prog T k off sz ag) : Still ops S o (.val (.v (.pointer (some ⟨g, n + off, none⟩)))) := fun base ok a w ha => by
 have h1 := (readV_v.1 (ha.ev hx fun t e => looks_of e (by rw [ho]; simp [Op.operands]))).2
 refine ⟨_, ?_, readV_v.2 ⟨rfl, rfl⟩⟩
 unfold execOp
 simp only [ho, h1, Sem.run_bind, run_fieldAt F, Result.andThen_ok, Sem.run_pure]
theorem g_field_pd {x : Operand} {T k off sz : Nat} {ag : Bool} {d d' : D} (ho : o.op = .fieldAddr T x k) (hx : ev S x = some (.val (.pd d))) (F : Fld Try.prog T k off sz ag) (hs : d.sub off sz ag = some d') : Still ops S o (.val (.pd d')) := fun base ok a w ha => by
 have h1 := (readV_one rfl).1 (ha.ev hx fun t e => looks_of e (by rw [ho]; simp [Op.operands]))
 rw [Reads] at h1
 obtain ⟨b, n, cs, h2, h3, h4, h5⟩ := h1
 have h2' : a.eval x = .pointer (some ⟨b, n, none⟩) := by simpa using h2
 obtain ⟨e1, e2, pre, mid, post, rfl, e3, e4⟩ := sub_spec d off sz ag d' cs hs h5
 refine ⟨_, ?_, (readV_one rfl).2 (by rw [Reads]; exact ⟨b, n + off, mid, rfl, h3, by rw [← e3]; exact range_part h4, e4⟩)⟩
 unfold execOp
 simp only [ho, h2', Sem.run_bind, run_fieldAt F, Result.andThen_ok, Sem.run_pure]
theorem Kn.var (h : Kn base ok L S a w) {i g : Nat} {t : TypeId} {d : D} (hi : S.objs[i]? = some (.var g t d)) : base g ∧ ∃ cs, w.heap[g]? = some (.cells cs.toArray t (0, 0)) ∧ Reads ok w d cs := h.objs _ (List.mem_of_getElem? hi)
theorem Mem.var {objs : List Obj} {facts : List (Value × D)} (h : Mem X objs facts w) {i g : Nat} {t : TypeId} {d : D} (hi : objs[i]? = some (.var g t d)) : X.mine g ∧ ∃ cs, w.heap[g]? = some (.cells cs.toArray t (0, 0)) ∧ Reads (X.ok objs w) w d cs := h.at_ _ (List.mem_of_getElem? hi)
theorem g_load {x : Operand} {T sz g n : Nat} {ag : Bool} {t : TypeId} {d d' : D} (i : Nat) (ho : o.op = .load T x) (hx : ev S x = some (.val (.v (.pointer (some ⟨g, n, none⟩))))) (hi : S.objs[i]? = some (.var g t d)) (hT : Ty Try.prog T sz ag) (hs : d.sub n sz ag = some d') : Still ops S o (.val d') := fun base ok a w ha => by
 have h1 := (readV_v.1 (ha.ev hx fun t e => looks_of e (by rw [ho]; simp [Op.operands]))).2
 obtain ⟨_, cs, h2, h3⟩ := ha.var hi
 obtain ⟨e1, e2, pre, mid, post, rfl, e3, e4⟩ := sub_spec d n sz ag d' cs hs h3
 have hr := range_part (range_of_row h2)
 rw [Nat.zero_add, e3] at hr
 refine ⟨form d' mid, ?_, mid, e4, rfl⟩
 unfold execOp
 simp only [ho, h1, Sem.run_bind, run_loadAt (d := d') (by rw [e1, e2]; exact hT) e4 hr, Result.andThen_ok, Sem.run_pure]
theorem g_load_pd {x : Operand} {T sz : Nat} {ag : Bool} {d d' : D} (ho : o.op = .load T x) (hx : ev S x = some (.val (.pd d))) (hT : Ty Try.prog T sz ag) (hs : d.sub 0 sz ag = some d') : Still ops S o (.val d') := fun base ok a w ha => by
 have h1 := (readV_one rfl).1 (ha.ev hx fun t e => looks_of e (by rw [ho]; simp [Op.operands]))
 rw [Reads] at h1
 obtain ⟨b, n, cs, h2, h3, h4, h5⟩ := h1
 have h2' : a.eval x = .pointer (some ⟨b, n, none⟩) := by simpa using h2
 obtain ⟨e1, e2, pre, mid, post, rfl, e3, e4⟩ := sub_spec d 0 sz ag d' cs hs h5
 have hr := range_part h4
 rw [e3, Nat.add_zero] at hr
 refine ⟨form d' mid, ?_, mid, e4, rfl⟩
 unfold execOp
 simp only [ho, h2', Sem.run_bind, run_loadAt (d := d') (by rw [e1, e2]; exact hT) e4 hr, Result.andThen_ok, Sem.run_pure]
end
end E
end Go.Proofs.Ytiledgojbpmoiaa
/-
 The abstract machine's operations: slices, lengths, numbers, calls.
 Conditions: none.
-/
namespace Go.Proofs.Ytiledgojbpmoiaa
set_option linter.unusedVariables false
open Go.RowKit Mono Rlp
namespace E
section
variable {N : Nat} {X : Cx N} {S S' : St} {a : Act} {w w' : World} {ops : Array Oper} {o : Oper} {Q : Exit → Act → World → Prop} {l : List Oper} {L : Tmp → Prop}
structure SlTy (T e z : Nat) : Prop where
 und : Try.prog.underlying T = some (.slice e)
 size : (Try.prog.info? e).map (·.size) = some z
structure ArTy (T n e z : Nat) : Prop where
 und : Try.prog.underlying T = some (.array n e)
 size : (Try.prog.info? e).map (·.size) = some z
theorem run_size {e z : Nat} (h : (Try.prog.info? e).map (·.size) = some z) (w : World) : (sizeOf e).run Try.prog w = .ok z w := by
 cases hi : Try.prog.info? e with
 | none => rw [hi] at h; cases h
 | some i =>
  rw [hi] at h
  have hs : i.size = z := by simpa using h
  simp [sizeOf, typeInfo, hi, hs]
theorem bs_ex {ok : Nat → Prop} {l : List UInt8} {x : Value} (h : ReadV ok w (.bs l) x) : IsBP ok w x l := by
 have := (readV_one rfl).1 h
 rw [Reads] at this
 obtain ⟨u, h1, h2⟩ := this
 obtain rfl : x = u := by simpa using h1
 exact h2
theorem sl_ex {ok : Nat → Prop} {z : Nat} {ds : List D} {x : Value} (h : ReadV ok w (.sl z ds) x) : ∃ A c rows, x = .slice A ds.length c ∧ ds.length ≤ c ∧ c ≤ maxLen ∧ (A = none → ds.length = 0 ∧ c = 0) ∧ RdP ok w A rows.flatten ∧ ReadsRows ok w z ds rows := by
 have := (readV_one rfl).1 h
 rw [Reads] at this
 obtain ⟨A, c, rows, h1, h2⟩ := this
 exact ⟨A, c, rows, by simpa using h1, h2⟩
theorem bs_mk {ok : Nat → Prop} {l : List UInt8} {x : Value} (h : IsBP ok w x l) : ReadV ok w (.bs l) x := (readV_one rfl).2 (by rw [Reads]; exact ⟨x, rfl, h⟩)
theorem v_mk {ok : Nat → Prop} {x : Value} (h : x.oneCell' = true) : ReadV ok w (.v x) x := readV_v.2 ⟨h, rfl⟩
theorem ev_v {base : Nat → Prop} {ok : Nat → Prop} (h : Kn base ok L S a w) {x : Operand} {y : Value} (hx : ev S x = some (.val (.v y))) (hL : ∀ t, x = .tmp t → L t) : a.eval x = y := (readV_v.1 (h.ev hx hL)).2
theorem rows_at {ok : Nat → Prop} {z : Nat} {ds : List D} {A : Option Addr} {rows : List (List Value)} (hr : RdP ok w A rows.flatten) (h : ReadsRows ok w z ds rows) (hz : 0 < z) (k : Nat) (hk : k < ds.length) :
  ∃ b n r, A = some ⟨b, n, none⟩ ∧ ok b ∧ w.rangeAt b (n + k * z) r ∧ Reads ok w ds[k] r := by
 obtain ⟨r, h1, h2, h3⟩ := ReadsRows.get ds rows h k hk
 have hl := (ReadsRows.lens ds rows h).2
 have hget : ∀ j v, r[j]? = some v → rows.flatten[k * z + j]? = some v := by
  have : ∀ (rows : List (List Value)) (k : Nat), (∀ r ∈ rows, r.length = z) → rows[k]? = some r → ∀ j v, r[j]? = some v → rows.flatten[k * z + j]? = some v := by
   intro rows
   induction rows with
   | nil => intro k _ hk; simp at hk
   | cons x xs ih =>
    intro k hn hk j v hv
    rw [List.flatten_cons]
    cases k with
    | zero =>
     simp at hk
     subst hk
     rw [Nat.zero_mul, Nat.zero_add, List.getElem?_append_left ((List.getElem?_eq_some_iff.1 hv).1)]
     exact hv
    | succ k =>
     have hx := hn x (by simp)
     rw [Nat.add_mul, Nat.one_mul, List.getElem?_append_right (by omega), hx, show k * z + z + j - z = k * z + j by omega]
     exact ih k (fun r hr => hn r (by simp [hr])) (by simpa using hk) j v hv
  exact this rows k hl h1
 have hne : 0 < r.length := by omega
 have h0 := hget 0 r[0] (by simp)
 obtain ⟨b, n, e, hb, hc⟩ := hr (fun e => by rw [e] at h0; simp at h0)
 exact ⟨b, n, r, e, hb, fun j v hv => by rw [Nat.add_assoc]; exact hc _ v (hget j v hv), h3⟩
theorem g_index {x y : Operand} {T e z : Nat} {k : Int} {ds : List D} (ho : o.op = .indexAddr T x y) (hx : ev S x = some (.val (.sl z ds))) (hy : ev S y = some (.val (.v (.int .i64 k)))) (hT : SlTy T e z) (hz : 0 < z) (h0 : 0 ≤ k) (hk : k.toNat < ds.length) : Still ops S o (.val (.pd ds[k.toNat])) := fun base ok a w ha => by
 obtain ⟨A, c, rows, h1, h2, h3, h4, h5, h6⟩ := sl_ex (ha.ev hx fun t e => looks_of e (by rw [ho]; simp [Op.operands]))
 have hy' := ev_v ha hy fun t e => looks_of e (by rw [ho]; simp [Op.operands])
 obtain ⟨b, n, r, rfl, hb, hrg, hrd⟩ := rows_at h5 h6 hz _ hk
 refine ⟨.pointer (some ⟨b, n + k.toNat * z, none⟩), ?_, (readV_one rfl).2 (by rw [Reads]; exact ⟨b, _, r, rfl, hb, hrg, hrd⟩)⟩
 have hlt : k < (ds.length : Int) := by omega
 unfold execOp
 simp [ho, h1, hy', Instr.indexAt, run_underlying hT.und, asIntOf, h0, hlt, run_size hT.size, add_none]
theorem g_index_bs {x y : Operand} {T e : Nat} {k : Int} {l : List UInt8} (ho : o.op = .indexAddr T x y) (hx : ev S x = some (.val (.bs l))) (hy : ev S y = some (.val (.v (.int .i64 k)))) (hT : SlTy T e 1) (h0 : 0 ≤ k) (hk : k.toNat < l.length) : Still ops S o (.val (.pd (.v (bv l[k.toNat])))) := fun base ok a w ha => by
 obtain ⟨A, c, h1, h2, h3, h4⟩ := bs_ex (ha.ev hx fun t e => looks_of e (by rw [ho]; simp [Op.operands]))
 have hy' := ev_v ha hy fun t e => looks_of e (by rw [ho]; simp [Op.operands])
 obtain ⟨b, n, rfl, hb, hc⟩ := h4 (fun e => by have := congrArg List.length e; rw [bvs_length] at this; simp at this; rw [this] at hk; simp at hk)
 refine ⟨.pointer (some ⟨b, n + k.toNat, none⟩), ?_, (readV_one rfl).2 (by
  rw [Reads]
  refine ⟨b, _, [bv l[k.toNat]], rfl, hb, fun j v hv => ?_, by rw [Reads]; exact ⟨rfl, rfl⟩⟩
  cases j with
  | zero => cases hv; exact hc _ _ (bvs_at l _ hk)
  | succ j => simp at hv)⟩
 have hlt : k < (l.length : Int) := by omega
 unfold execOp
 simp [ho, h1, hy', Instr.indexAt, run_underlying hT.und, asIntOf, h0, hlt, run_size hT.size, add_none]
theorem g_index_ptr {x y : Operand} {T n e z g off : Nat} {k : Int} (ho : o.op = .indexAddr T x y) (hx : ev S x = some (.val (.v (.pointer (some ⟨g, off, none⟩))))) (hy : ev S y = some (.val (.v (.int .i64 k)))) (hT : ArTy T n e z) (h0 : 0 ≤ k) (hk : k.toNat < n) : Still ops S o (.val (.v (.pointer (some ⟨g, off + k.toNat * z, none⟩)))) := fun base ok a w ha => by
 have hx' := ev_v ha hx fun t e => looks_of e (by rw [ho]; simp [Op.operands])
 have hy' := ev_v ha hy fun t e => looks_of e (by rw [ho]; simp [Op.operands])
 refine ⟨_, ?_, v_mk rfl⟩
 have hlt : k < (n : Int) := by omega
 unfold execOp
 simp [ho, hx', hy', Instr.indexAt, run_underlying hT.und, asIntOf, h0, hlt, run_size hT.size, add_none, Instr.sureAddr]
theorem g_len_bs {x : Operand} {T e : Nat} {l : List UInt8} (ho : o.op = .call { callee := .builtin .len, args := #[x], argTypes := #[T] }) (hx : ev S x = some (.val (.bs l))) (hT : Try.prog.underlying T = some (.slice e)) : Still ops S o (.val (.v (.int .i64 l.length))) := fun base ok a w ha => by
 obtain ⟨A, c, h1, h2, h3, h4⟩ := bs_ex (ha.ev hx fun t e => looks_of e (by rw [ho]; simp [Op.operands, Call.operands]))
 refine ⟨_, ?_, v_mk rfl⟩
 unfold execOp
 simp [ho, h1, resolve, invoke, builtin, Builtin.len_, run_underlying hT, goInt]
theorem g_len_sl {x : Operand} {T e z : Nat} {ds : List D} (ho : o.op = .call { callee := .builtin .len, args := #[x], argTypes := #[T] }) (hx : ev S x = some (.val (.sl z ds))) (hT : Try.prog.underlying T = some (.slice e)) : Still ops S o (.val (.v (.int .i64 ds.length))) := fun base ok a w ha => by
 obtain ⟨A, c, rows, h1, h2⟩ := sl_ex (ha.ev hx fun t e => looks_of e (by rw [ho]; simp [Op.operands, Call.operands]))
 refine ⟨_, ?_, v_mk rfl⟩
 unfold execOp
 simp [ho, h1, resolve, invoke, builtin, Builtin.len_, run_underlying hT, goInt]
theorem g_len_nil {x : Operand} {T e n c : Nat} {A : Option Addr} (ho : o.op = .call { callee := .builtin .len, args := #[x], argTypes := #[T] }) (hx : ev S x = some (.val (.v (.slice A n c)))) (hT : Try.prog.underlying T = some (.slice e)) : Still ops S o (.val (.v (.int .i64 n))) := fun base ok a w ha => by
 have h1 := ev_v ha hx fun t e => looks_of e (by rw [ho]; simp [Op.operands, Call.operands])
 refine ⟨_, ?_, v_mk rfl⟩
 unfold execOp
 simp [ho, h1, resolve, invoke, builtin, Builtin.len_, run_underlying hT, goInt]
theorem g_len_row {x : Operand} {T e e' z : Nat} {v : Value} {ds : List D} (i : Nat) (ho : o.op = .call { callee := .builtin .len, args := #[x], argTypes := #[T] }) (hx : ev S x = some (.val (.v v))) (hi : S.objs[i]? = some (.row v e' z ds)) (hT : Try.prog.underlying T = some (.slice e)) : Still ops S o (.val (.v (.int .i64 ds.length))) := fun base ok a w ha => by
 have h1 := ev_v ha hx fun t e => looks_of e (by rw [ho]; simp [Op.operands, Call.operands])
 obtain ⟨rows, h2, _⟩ := ha.objs _ (List.mem_of_getElem? hi)
 obtain ⟨A, c, rfl, _⟩ := own_form h2.1
 refine ⟨_, ?_, v_mk rfl⟩
 unfold execOp
 simp [ho, h1, resolve, invoke, builtin, Builtin.len_, run_underlying hT, goInt]
/-! ### Numbers, truth -/
def cmpI (op : BinOp) (x y : Int) : Option Bool :=
 match op with
 | .eql => some (x == y)
 | .neq => some (x != y)
 | .lss => some (decide (x < y))
 | .leq => some (decide (x ≤ y))
 | .gtr => some (decide (x > y))
 | .geq => some (decide (x ≥ y))
 | _ => none
theorem g_cmp {x y : Operand} {op : BinOp} {T U : TypeId} {k : IntKind} {m n : Int} {b : Bool} (ho : o.op = .binOp op T x y U) (hx : ev S x = some (.val (.v (.int k m)))) (hy : ev S y = some (.val (.v (.int k n)))) (hb : cmpI op m n = some b) : Still ops S o (.val (.v (.bool b))) := fun base ok a w ha => by
 have hx' := ev_v ha hx fun t e => looks_of e (by rw [ho]; simp [Op.operands])
 have hy' := ev_v ha hy fun t e => looks_of e (by rw [ho]; simp [Op.operands])
 refine ⟨_, ?_, v_mk rfl⟩
 unfold execOp
 cases op <;> simp [cmpI] at hb <;> subst hb <;> simp [ho, hx', hy', eqGuard, binOp, Op.intCmp]
def arI (op : BinOp) (x y : Int) : Option Int :=
 match op with
 | .add => some (x + y)
 | .sub => some (x - y)
 | .mul => some (x * y)
 | _ => none
theorem g_ar {x y : Operand} {op : BinOp} {T U : TypeId} {m n r : Int} (ho : o.op = .binOp op T x y U) (hx : ev S x = some (.val (.v (.int .i64 m)))) (hy : ev S y = some (.val (.v (.int .i64 n)))) (hb : arI op m n = some r) (h1 : -9223372036854775808 ≤ r) (h2 : r ≤ 9223372036854775807) : Still ops S o (.val (.v (.int .i64 r))) := fun base ok a w ha => by
 have hx' := ev_v ha hx fun t e => looks_of e (by rw [ho]; simp [Op.operands])
 have hy' := ev_v ha hy fun t e => looks_of e (by rw [ho]; simp [Op.operands])
 have hw : IntKind.i64.wrap r = r := IntWalk.i64_in r ⟨h1, h2⟩
 refine ⟨_, ?_, v_mk rfl⟩
 unfold execOp
 cases op <;> simp [arI] at hb <;> subst hb <;> simp [ho, hx', hy', eqGuard, binOp, Op.intArith, hw]
theorem g_not {x : Operand} {T : TypeId} {b : Bool} (ho : o.op = .unOp .not T x) (hx : ev S x = some (.val (.v (.bool b)))) : Still ops S o (.val (.v (.bool (!b)))) := fun base ok a w ha => by
 have hx' := ev_v ha hx fun t e => looks_of e (by rw [ho]; simp [Op.operands])
 refine ⟨_, ?_, v_mk rfl⟩
 unfold execOp
 simp [ho, hx', Op.unary]
theorem g_bin {x y : Operand} {op : BinOp} {T U : TypeId} {d e : D} {c : Value} (ho : o.op = .binOp op T x y U) (hx : ev S x = some (.val d)) (hy : ev S y = some (.val e)) (hc : c.oneCell' = true)
  (hrun : ∀ ok w p q, ReadV ok w d p → ReadV ok w e q → (eqGuard op T x y p q).run Try.prog w = .ok () w ∧ (binOp op T p q).run Try.prog w = .ok c w) : Still ops S o (.val (.v c)) := fun base ok a w ha => by
 have hx' := ha.ev hx fun t e => looks_of e (by rw [ho]; simp [Op.operands])
 have hy' := ha.ev hy fun t e => looks_of e (by rw [ho]; simp [Op.operands])
 obtain ⟨h1, h2⟩ := hrun _ _ _ _ hx' hy'
 refine ⟨_, ?_, v_mk hc⟩
 unfold execOp
 simp only [ho, Sem.run_bind, h1, h2, Result.andThen_ok, Sem.run_pure]
theorem g_str {x : Operand} {l : List UInt8} (ho : o.op = .convert 24 9 x) (hx : ev S x = some (.val (.bs l))) : Still ops S o (.val (.v (.string (Go.Proofs.Ytiledgojbpmoiaa.bs l)))) := fun base ok a w ha => by
 have hb := bs_ex (ha.ev hx fun t e => looks_of e (by rw [ho]; simp [Op.operands]))
 have : IsB w (a.eval x) l := by
  obtain ⟨A, c, h1, h2, h3, h4⟩ := hb
  exact ⟨A, c, h1, h2, h3, fun hn => by
   obtain ⟨b, n, e, hb, hc⟩ := h4 hn
   exact ⟨b, n, e, ha.lt _ hb, hc⟩⟩
 refine ⟨_, ?_, v_mk rfl⟩
 unfold execOp
 simp only [ho, Sem.run_bind, conv_bytes this, Result.andThen_ok, Sem.run_pure]
/-! ### Calls -/
structure Fn (f : FuncId) (ds : List D) (Φ : R → Prop) : Prop where
 go : ∀ (ok : Nat → Prop) (w : World) (xs : List Value), (∀ b, ok b → b < w.heap.size) → ReadVs ok w ds xs →
  Calls Try.prog f xs.toArray w fun e w' => Gr w w' ∧ ∃ v r, e = .returned v ∧ Φ r ∧ ReadR (fun b => (ok b ∨ w.heap.size ≤ b) ∧ b < w'.heap.size) w' r v
def Enters (f : FuncId) : Prop := ∀ xs w, (callFunc f xs).run Try.prog w = .ok (.enter f xs) w
/-! ### A function -/
def regsOf : Nat → List D → List (Tmp × R)
 | _, [] => []
 | k, d :: ds => (k, .val d) :: regsOf (k + 1) ds
def Out (X : Cx N) (Φ : R → Prop) (e : Ending) (w' : World) : Prop := GrE X.own0 X.w0 w' ∧ ∃ v r, e = .returned v ∧ Φ r ∧ ReadR (fun b => (X.ok0 b ∨ X.mine b) ∧ b < w'.heap.size) w' r v
theorem regs_read {ok : Nat → Prop} : ∀ (ds : List D) (xs : List Value) (k : Nat) (tmps : Array Value), ReadVs ok w ds xs → (∀ j x, xs[j]? = some x → tmps.getD (k + j) undef = x) → ∀ t r, look (regsOf k ds) t = some r → ReadR ok w r (tmps.getD t undef)
 | [], xs, k, tmps, _, _, t, r, h => by simp [regsOf, look] at h
 | d :: ds, xs, k, tmps, hr, ht, t, r, h => by
  obtain ⟨x, rest, rfl, h1, h2⟩ := hr
  rw [regsOf, look] at h
  split at h
  ·
   rename_i e
   cases h
   subst e
   have := ht 0 x rfl
   rw [Nat.add_zero] at this
   rw [this]
   exact h1
  · exact regs_read ds rest (k + 1) tmps h2 (fun j y hy => by have := ht (j + 1) y (by simpa using hy); rwa [show k + 1 + j = k + (j + 1) by omega]) t r h
theorem readVs_len {ok : Nat → Prop} : ∀ (ds : List D) (xs : List Value), ReadVs ok w ds xs → xs.length = ds.length
 | [], xs, h => by cases h; rfl
 | d :: ds, xs, h => by
  obtain ⟨x, rest, rfl, _, h2⟩ := h
  simp [readVs_len ds rest h2]
theorem Fn.walk {f : FuncId} {fn : Func} {c : Code} {ds : List D} {Φ : R → Prop} (N : Nat) (hf : Try.prog.funcs[f]? = some fn) (hb : fn.body = some c) (hN : fn.ntmps = N) (hl : ds.length ≤ N)
  (h : ∀ X : Cx N, EC X (bodyPost Try.prog fn (Out X Φ)) c ⟨regsOf 0 ds, [], []⟩) : Fn f ds Φ := by
 constructor
 intro ok w xs hok hr
 have hxl := readVs_len ds xs hr
 refine Calls.mono (calls_of_wp hf hb ((h ⟨w, ok, fun _ => False, hok⟩).go _ w ⟨⟨.refl w, List.Pairwise.nil, (fun o ho => by cases ho), (fun f hf => by cases hf)⟩, fun t r ht => ?_, ?_, rfl⟩)) ?_
 ·
  refine regs_read ds xs 0 _ (ReadVs.mono (fun b hb => ⟨.inl hb, hok b hb, (fun o ho => by cases ho)⟩) (fun _ _ => rfl) ds xs hr) (fun j x hx => ?_) t r ht
  have hj := (List.getElem?_eq_some_iff.1 hx).1
  have : (xs.toArray ++ Array.replicate (fn.ntmps - xs.toArray.size) undef)[j]? = some x := by
   rw [Array.getElem?_append_left (by simpa using hj)]
   simpa using hx
  rw [Nat.zero_add, Array.getD_eq_getD_getElem?, this]
  rfl
 ·
  simp [hN]
  omega
 ·
  rintro e w' ⟨h1, v, r, h2, h3, h4⟩
  exact ⟨h1.gr (fun _ h => h), v, r, h2, h3, h4.mono (fun b hb => ⟨hb.1.imp id fun h => h.resolve_left id, hb.2⟩) fun _ _ => rfl⟩
theorem EK.ret1 {X : Cx N} {fn : Func} {t : Tmp} {r : R} {Φ : R → Prop} (hres : fn.results = #[.tmp t]) (hl : look S.regs t = some r) (hΦ : Φ r) : EK X (bodyPost Try.prog fn (Out X Φ) .ret) S := by
 constructor
 intro a w ha
 exact bodyPost_ret (results_tmp hres a.tmps Try.prog w) ha.defers ⟨ha.mem.gr, _, r, rfl, hΦ, (ha.regs t r hl).mono (fun b hb => ⟨hb.1, hb.2.1⟩) (fun _ _ => rfl)⟩
theorem EK.ret2 {X : Cx N} {fn : Func} {t u : Tmp} {d e : D} {Φ : R → Prop} (hres : fn.results = #[.tmp t, .tmp u]) (hl : look S.regs t = some (.val d)) (hk : look S.regs u = some (.val e)) (hΦ : Φ (.tpl [d, e])) : EK X (bodyPost Try.prog fn (Out X Φ) .ret) S := by
 constructor
 intro a w ha
 exact bodyPost_ret (results_tmp2 hres a.tmps Try.prog w) ha.defers ⟨ha.mem.gr, _, _, rfl, hΦ, [a.tmps.getD t undef, a.tmps.getD u undef], rfl, _, _, rfl, ReadV.mono (fun b hb => ⟨hb.1, hb.2.1⟩) (fun _ _ => rfl) (ha.regs t _ hl), _, _, rfl, ReadV.mono (fun b hb => ⟨hb.1, hb.2.1⟩) (fun _ _ => rfl) (ha.regs u _ hk), rfl⟩
theorem run_cell {ty g : Nat} {d : D} {i : Nat} {t : TypeId} {objs : List Obj} {facts : List (Value × D)} (hm : Mem X objs facts w) (hi : objs[i]? = some (.var g t d)) (hT : Ty Try.prog ty d.size d.agg) : ∃ x, (loadVar ty ⟨g, 0, none⟩).run Try.prog w = .ok x w ∧ ReadV (X.ok objs w) w d x := by
 obtain ⟨_, cs, h2, h3⟩ := hm.var hi
 have hr := range_of_row h2
 have := run_loadAt (P := Try.prog) hT h3 hr
 simp only [Instr.loadAt, Instr.sureAddr, Sem.run_bind, Sem.run_pure, Result.andThen_ok] at this
 exact ⟨_, this, cs, h3, rfl⟩
end
end E
end Go.Proofs.Ytiledgojbpmoiaa
/-
 The abstract machine's operations: new variables, stores, appends, literals.
 Conditions: none.
-/
namespace Go.Proofs.Ytiledgojbpmoiaa
set_option linter.unusedVariables false
open Go.RowKit Mono Rlp
namespace E
section
variable {N : Nat} {X : Cx N} {S S' : St} {a : Act} {w w' : World} {ops : Array Oper} {o : Oper} {Q : Exit → Act → World → Prop} {l : List Oper} {L : Tmp → Prop} {objs : List Obj} {facts : List (Value × D)}
/-! ### One piece turns -/
theorem get_other {i : Nat} {p q : Obj} (h : p ∈ objs.set i q) : p = q ∨ ∃ j, j ≠ i ∧ objs[j]? = some p := by
 obtain ⟨j, hj⟩ := List.getElem?_of_mem h
 rw [List.getElem?_set] at hj
 split at hj
 ·
  split at hj
  · cases hj; exact .inl rfl
  · cases hj
 ·
  rename_i hne
  exact .inr ⟨j, fun e => hne e.symm, hj⟩
theorem apart_get (h : objs.Pairwise fun o p => ∀ b, o.blk = some b → p.blk ≠ some b) {i j : Nat} {p q : Obj} (hi : objs[i]? = some p) (hj : objs[j]? = some q) (hne : j ≠ i) {b : Nat} (hb : p.blk = some b) : q.blk ≠ some b := by
 have hp := List.pairwise_iff_getElem.1 h
 obtain ⟨hi', hpi⟩ := List.getElem?_eq_some_iff.1 hi
 obtain ⟨hj', hqj⟩ := List.getElem?_eq_some_iff.1 hj
 rcases Nat.lt_or_gt_of_ne hne with h1 | h1
 ·
  intro e
  have := hp j i hj' hi' h1 b (by rw [hqj]; exact e)
  rw [hpi] at this
  exact this hb
 ·
  have := hp i j hi' hj' h1 b (by rw [hpi]; exact hb)
  rwa [hqj] at this
theorem apart_set (h : objs.Pairwise fun o p => ∀ b, o.blk = some b → p.blk ≠ some b) {i : Nat} {q : Obj} (hq : ∀ j p, j ≠ i → objs[j]? = some p → ∀ b, q.blk = some b → p.blk ≠ some b) : (objs.set i q).Pairwise fun o p => ∀ b, o.blk = some b → p.blk ≠ some b := by
 refine List.pairwise_iff_getElem.2 fun j k hj hk hjk b => ?_
 rw [List.length_set] at hj hk
 rw [List.getElem_set, List.getElem_set]
 split
 ·
  rename_i e
  rw [if_neg (by omega)]
  exact hq k _ (by omega) (by simp [hk]) b
 ·
  split
  ·
   intro h1 h2
   exact hq j _ (by omega) (by simp [hj]) b h2 h1
  · exact List.pairwise_iff_getElem.1 h j k hj hk hjk b
theorem Mem.turn (h : Mem X objs facts w) {i : Nat} {p q : Obj} (hi : objs[i]? = some p) (hg : w.grownBy w' p.blk) (hb : q.blk = p.blk ∨ ∃ b, q.blk = some b ∧ w.heap.size ≤ b) (hq : (∀ b, X.ok objs w b → X.ok (objs.set i q) w' b) → (∀ p : Addr, X.ok objs w p.block → w'.cell? p = w.cell? p) → q.At X.mine (X.ok (objs.set i q) w') w') : Mem X (objs.set i q) facts w' := by
 have h0 := h.gr.size
 have hnew : ∀ j p', j ≠ i → objs[j]? = some p' → ∀ b, q.blk = some b → p'.blk ≠ some b := fun j p' hj hp' b hqb => by
  rcases hb with hb | ⟨b', hb, hle⟩
  · exact apart_get h.apart hi hp' hj (hb ▸ hqb)
  ·
   rw [hqb] at hb
   cases hb
   intro e
   have := (Obj.blk_lt (h.at_ p' (List.mem_of_getElem? hp')) e).2
   omega
 have hok : ∀ b, X.ok objs w b → X.ok (objs.set i q) w' b := fun b hb' => ⟨hb'.1, Nat.lt_of_lt_of_le hb'.2.1 hg.size, fun r hr e => by
  rcases get_other hr with rfl | ⟨j, hj, hr⟩
  ·
   rcases hb with hb | ⟨b', hb, hle⟩
   · exact hb'.2.2 p (List.mem_of_getElem? hi) (hb ▸ e)
   ·
    rw [hb] at e
    cases e
    have := hb'.2.1
    omega
  · exact hb'.2.2 r (List.mem_of_getElem? hr) e⟩
 have hcell : ∀ r : Addr, X.ok objs w r.block → w'.cell? r = w.cell? r := fun r hr => World.cell?_of_block (hg.block _ hr.2.1 fun e => hr.2.2 p (List.mem_of_getElem? hi) e.symm)
 refine ⟨h.gr.grown hg (fun b e => (Obj.blk_lt (h.at_ p (List.mem_of_getElem? hi)) e).1), apart_set h.apart hnew, fun r hr => ?_, fun f hf => Reads.mono hok hcell _ _ (h.fact f hf)⟩
 rcases get_other hr with rfl | ⟨j, hj, hr⟩
 · exact hq hok hcell
 ·
  have hat := h.at_ r (List.mem_of_getElem? hr)
  exact hat.move hok hcell fun g hb => hg.block g (Obj.blk_lt hat hb).2 fun e => apart_get h.apart hi hr hj e.symm hb
theorem At.turn (h : At X S a w) {i : Nat} {p q : Obj} (hi : S.objs[i]? = some p) (hg : w.grownBy w' p.blk) (hb : q.blk = p.blk ∨ ∃ b, q.blk = some b ∧ w.heap.size ≤ b) (hq : (∀ b, X.ok S.objs w b → X.ok (S.objs.set i q) w' b) → (∀ p : Addr, X.ok S.objs w p.block → w'.cell? p = w.cell? p) → q.At X.mine (X.ok (S.objs.set i q) w') w') : At X ⟨S.regs, S.objs.set i q, S.facts⟩ a w' := by
 have hm := h.mem.turn hi hg hb hq
 have hok : ∀ b, X.ok S.objs w b → X.ok (S.objs.set i q) w' b := fun b hb' => ⟨hb'.1, Nat.lt_of_lt_of_le hb'.2.1 hg.size, fun r hr e => by
  rcases get_other hr with rfl | ⟨j, hj, hr⟩
  ·
   rcases hb with hb | ⟨b', hb, hle⟩
   · exact hb'.2.2 p (List.mem_of_getElem? hi) (hb ▸ e)
   ·
    rw [hb] at e
    cases e
    have := hb'.2.1
    omega
  · exact hb'.2.2 r (List.mem_of_getElem? hr) e⟩
 have hcell : ∀ r : Addr, X.ok S.objs w r.block → w'.cell? r = w.cell? r := fun r hr => World.cell?_of_block (hg.block _ hr.2.1 fun e => hr.2.2 p (List.mem_of_getElem? hi) e.symm)
 exact ⟨hm, fun t r hr => (h.regs t r hr).mono hok hcell, h.size, h.defers⟩
/-! ### A new piece -/
theorem At.new (h : At X S a w) {q : Obj} {cs : Array Value} {t : TypeId} (hb : q.blk = some w.heap.size) (hq : q.At X.mine (X.ok (q :: S.objs) (w.alloc (.cells cs t))) (w.alloc (.cells cs t))) : At X ⟨S.regs, q :: S.objs, S.facts⟩ a (w.alloc (.cells cs t)) := by
 have hg := gr_alloc w (.cells cs t)
 have hok : ∀ b, X.ok S.objs w b → X.ok (q :: S.objs) (w.alloc (.cells cs t)) b := fun b hb' => ⟨hb'.1, Nat.lt_of_lt_of_le hb'.2.1 hg.size, fun r hr e => by
  rcases List.mem_cons.1 hr with rfl | hr
  ·
   rw [hb] at e
   cases e
   exact absurd hb'.2.1 (by omega)
  · exact hb'.2.2 r hr e⟩
 have hcell : ∀ r : Addr, X.ok S.objs w r.block → (w.alloc (.cells cs t)).cell? r = w.cell? r := fun r hr => hg.cell hr.2.1
 refine ⟨⟨h.mem.gr.trans (.of hg), List.pairwise_cons.2 ⟨fun r hr b e => ?_, h.mem.apart⟩, fun r hr => ?_, fun f hf => Reads.mono hok hcell _ _ (h.mem.fact f hf)⟩, fun t' r hr => (h.regs t' r hr).mono hok hcell, h.size, h.defers⟩
 ·
  rw [hb] at e
  cases e
  intro e
  have := (Obj.blk_lt (h.mem.at_ r hr) e).2
  omega
 ·
  rcases List.mem_cons.1 hr with rfl | hr
  · exact hq
  ·
   have hat := h.mem.at_ r hr
   exact hat.move hok hcell fun g hb => hg.block g (Obj.blk_lt hat hb).2
def Zero (T : TypeId) (d : D) : Prop := ∃ z, (Try.prog.info? T).bind (·.zero) = some z ∧ ∀ (ok : Nat → Prop) (w : World), Reads ok w d z.cells.toList
theorem run_alloc {T : TypeId} {z : Value} (h : (Try.prog.info? T).bind (·.zero) = some z) (w : World) : (Instr.alloc T true (.tuple #[])).run Try.prog w = .ok (.pointer (some ⟨w.heap.size, 0, none⟩)) (w.alloc (.cells z.cells T)) := by
 cases hi : Try.prog.info? T with
 | none => rw [hi] at h; cases h
 | some i =>
  rw [hi] at h
  have hz : i.zero = some z := by simpa using h
  simp [Instr.alloc, zeroValue, typeInfo, hi, hz, newVar, newRow]
theorem EL.alloc {T : TypeId} {d : D} (ho : o.op = .alloc T) (hg : guardOf ops S o = some true) (hd : ∀ t, o.dst = some t → t < N) (hz : Zero T d)
  (k : ∀ g, EL X ops Q l (St.put ⟨S.regs, .var g T d :: S.objs, S.facts⟩ o.dst (.val (.v (.pointer (some ⟨g, 0, none⟩)))))) : EL X ops Q (o :: l) S := by
 constructor
 intro a w ha
 obtain ⟨z, hz, hr⟩ := hz
 unfold wpList
 rw [if_pos (wanted_of ha hg)]
 refine .inl ?_
 unfold Oper.wp execOp
 simp only [ho, Sem.run_bind, run_alloc hz, Result.andThen_ok, Sem.run_pure]
 refine (k w.heap.size).go _ _ ((ha.new (q := .var w.heap.size T d) rfl ⟨.inr ha.mem.gr.size, z.cells.toList, ?_, hr _ _⟩).put hd (v_mk rfl))
 rw [heap_alloc_new]
theorem EL.box {T : TypeId} {x : Operand} {d : D} (ho : o.op = .box T x) (hg : guardOf ops S o = some true) (hd : ∀ t, o.dst = some t → t < N) (hx : ev S x = some (.val d))
  (k : ∀ g, EL X ops Q l (St.put ⟨S.regs, .var g T d :: S.objs, S.facts⟩ o.dst (.val (.v (.pointer (some ⟨g, 0, none⟩)))))) : EL X ops Q (o :: l) S := by
 constructor
 intro a w ha
 obtain ⟨cs, h1, h2⟩ := (ha.kn fun t => t ∈ o.looksAt ops).ev hx fun t e => looks_of e (by rw [ho]; simp [Op.operands])
 have hrun : (Instr.box T (a.eval x)).run Try.prog w = .ok (.pointer (some ⟨w.heap.size, 0, none⟩)) (w.alloc (.cells cs.toArray T)) := by
  have := form_cells h1
  simp [Instr.box, newVar, newRow, h2, this]
 unfold wpList
 rw [if_pos (wanted_of ha hg)]
 refine .inl ?_
 unfold Oper.wp execOp
 simp only [ho, Sem.run_bind, hrun, Result.andThen_ok, Sem.run_pure]
 refine (k w.heap.size).go _ _ ((ha.new (q := .var w.heap.size T d) rfl ⟨.inr ha.mem.gr.size, cs, heap_alloc_new w _, ?_⟩).put hd (v_mk rfl))
 refine Reads.mono (fun b hb => ⟨hb.1, Nat.lt_of_lt_of_le hb.2.1 (gr_alloc w _).size, fun r hr e => ?_⟩) (fun p hp => (gr_alloc w _).cell hp.2.1) _ _ h1
 rcases List.mem_cons.1 hr with rfl | hr
 ·
  cases e
  exact absurd hb.2.1 (by omega)
 · exact hb.2.2 r hr e
/-! ### Stores -/
theorem setCell_row {g n : Nat} {cs : Array Value} {t : TypeId} {fr : Nat × Nat} {v : Value} (h : w.heap[g]? = some (.cells cs t fr)) : (w.setCell ⟨g, n, none⟩ v).heap[g]? = some (.cells (cs.setIfInBounds n v) t fr) := by
 simp [World.setCell, Array.getElem?_modify, h]
theorem setCells_row {g : Nat} {t : TypeId} {fr : Nat × Nat} : ∀ (new pre mid post : List Value) (w : World), mid.length = new.length → w.heap[g]? = some (.cells (pre ++ mid ++ post).toArray t fr) → (w.setCells g pre.length new).heap[g]? = some (.cells (pre ++ new ++ post).toArray t fr)
 | [], pre, mid, post, w, hl, h => by
  obtain rfl : mid = [] := List.length_eq_zero_iff.1 hl
  exact h
 | v :: new, pre, m :: mid, post, w, hl, h => by
  rw [World.setCells]
  have h1 := setCell_row (n := pre.length) (v := v) h
  have h2 : ((pre ++ m :: mid ++ post).toArray.setIfInBounds pre.length v) = ((pre ++ [v]) ++ mid ++ post).toArray := by simp [List.set_append_right]
  rw [h2] at h1
  have := setCells_row new (pre ++ [v]) mid post _ (by simpa using hl) h1
  simpa using this
theorem grownBy_setCells (g : Nat) : ∀ (new : List Value) (n : Nat) (w : World), w.grownBy (w.setCells g n new) (some g)
 | [], n, w => ⟨rfl, rfl, rfl, Nat.le_refl _, fun _ _ _ => rfl⟩
 | v :: new, n, w => by
  rw [World.setCells]
  have h := grownBy_setCells g new (n + 1) (w.setCell ⟨g, n, none⟩ v)
  exact ⟨h.os, h.tape, h.output, by simpa [World.setCell] using h.size, fun k hk hne => (h.block k (by simpa [World.setCell] using hk) hne).trans (Below.heap_setCell _ _ _ _ (fun e => hne (by rw [e])))⟩
theorem run_storeAt {T g n : Nat} {t : TypeId} {pre mid post cs : List Value} {ok : Nat → Prop} {d : D} (hT : (Try.prog.info? T).map (·.size) = some cs.length) (hr : Reads ok w d cs) (hw : w.heap[g]? = some (.cells (pre ++ mid ++ post).toArray t (0, 0))) (hn : pre.length = n) (hl : mid.length = cs.length) :
  (Instr.storeAt T (.pointer (some ⟨g, n, none⟩)) (form d cs)).run Try.prog w = .ok () (w.setCells g n cs) := by
 have hcells := form_cells hr
 have hc : ∀ j, j < cs.length → (w.cell? ⟨g, n + j, none⟩).isSome = true := fun j hj => by
  rw [cell_of_row w g (n + j) _ t (0, 0) hw]
  simp only [List.getElem?_toArray, List.append_assoc]
  rw [List.getElem?_append_right (by omega), List.getElem?_append_left (by omega)]
  simp
  omega
 have hf : ∀ j, j < cs.length → w.frozen? ⟨g, n + j, none⟩ = false := fun j _ => by simp [World.frozen?, hw]
 have := run_storeCells_cells (P := Try.prog) g n cs 0 w (fun j hj => by simpa using hc j hj) (fun j hj => by simpa using hf j hj) (fun v hv => Reads.one d cs hr v hv)
 rw [Nat.add_zero] at this
 cases hi : Try.prog.info? T with
 | none => rw [hi] at hT; cases hT
 | some i =>
  have hs : i.size = cs.length := by rw [hi] at hT; simpa using hT
  simp [Instr.storeAt, Instr.sureAddr, storeVar, sizeOf, typeInfo, hi, hcells, hs, this]
theorem EL.store {T g n : Nat} {x y : Operand} {t : TypeId} {d d' d'' : D} (i : Nat) (ho : o.op = .store T x y) (hdst : o.dst = none) (hg : guardOf ops S o = some true) (hx : ev S x = some (.val (.v (.pointer (some ⟨g, n, none⟩))))) (hi : S.objs[i]? = some (.var g t d)) (hy : ev S y = some (.val d'))
  (hT : Ty Try.prog T d'.size d'.agg) (hu : d.upd n d' = some d'') (k : EL X ops Q l ⟨S.regs, S.objs.set i (.var g t d''), S.facts⟩) : EL X ops Q (o :: l) S := by
 constructor
 intro a w ha
 have hk := ha.kn fun t => t ∈ o.looksAt ops
 have hx' := ev_v hk hx fun t e => looks_of e (by rw [ho]; simp [Op.operands])
 obtain ⟨cs', h1, h2⟩ := hk.ev hy fun t e => looks_of e (by rw [ho]; simp [Op.operands])
 obtain ⟨hge, cs, h3, h4⟩ := ha.mem.var hi
 obtain ⟨e1, e2, pre, mid, post, rfl, h5, h6, h7⟩ := upd_spec d n d' d'' cs cs' hu h4 h1
 obtain ⟨_, _, _, hT'⟩ := hT
 have hrun := run_storeAt (T := T) (by rw [hT', Reads.len _ _ h1]) h1 h3 h5 h6
 unfold wpList
 rw [if_pos (wanted_of ha hg)]
 refine .inl ?_
 unfold Oper.wp execOp
 simp only [ho, hx', h2, Sem.run_bind, hrun, Result.andThen_ok, Sem.run_pure]
 simp only [Oper.upon_skip, hdst, Act.put]
 refine k.go _ _ (ha.turn (w' := w.setCells g n cs') hi (grownBy_setCells g cs' n w) (.inl rfl) fun hok hcell => ⟨hge, pre ++ cs' ++ post, ?_, Reads.mono hok hcell _ _ h7⟩)
 have := setCells_row cs' pre mid post w h6 h3
 rwa [h5] at this
/-! ### Rows that grow -/
theorem EL.append {T e z y' : Nat} {s x : Operand} {v : Value} {ds es : List D} (i : Nat) (ho : o.op = .call { callee := .builtin .append, args := #[s, x], argTypes := #[T, T] }) (hg : guardOf ops S o = some true) (hd : ∀ t, o.dst = some t → t < N) (hT : SlT Try.prog T e z y')
  (hs : ev S s = some (.val (.v v))) (hi : S.objs[i]? = some (.row v e z ds)) (hx : ev S x = some (.val (.sl z es))) (hlen : (ds.length + es.length) * y' ≤ 140737488355328 ∧ ds.length + es.length ≤ 9223372036854775807)
  (k : ∀ v', EL X ops Q l (St.put ⟨S.regs, S.objs.set i (.row v' e z (ds ++ es)), S.facts⟩ o.dst (.val (.v v')))) : EL X ops Q (o :: l) S := by
 constructor
 intro a w ha
 have hk := ha.kn fun t => t ∈ o.looksAt ops
 have hs' := ev_v hk hs fun t e => looks_of e (by rw [ho]; simp [Op.operands, Call.operands])
 obtain ⟨A, c, rows', h1, h2, h3, h4, h5, h6⟩ := sl_ex (hk.ev hx fun t e => looks_of e (by rw [ho]; simp [Op.operands, Call.operands]))
 obtain ⟨rows, h7, h8⟩ := ha.mem.at_ _ (List.mem_of_getElem? hi)
 obtain ⟨hl1, hl2⟩ := ReadsRows.lens es rows' h6
 have hlen' : rows'.flatten.length = es.length * z := by
  have : ∀ rows : List (List Value), (∀ r ∈ rows, r.length = z) → rows.flatten.length = rows.length * z := by
   intro rows
   induction rows with
   | nil => simp
   | cons r rows ih =>
    intro h
    rw [List.flatten_cons, List.length_append, h r (by simp), ih fun r hr => h r (by simp [hr]), List.length_cons, Nat.add_mul, Nat.one_mul, Nat.add_comm]
  rw [this rows' hl2, hl1]
 have hrd : Rd w w.heap.size A rows'.flatten := fun hn => by
  obtain ⟨b, n, e, hb, hc⟩ := h5 hn
  exact ⟨b, n, e, hb.2.1, hc⟩
 have hge := ha.mem.gr.size
 obtain ⟨A', c', w', hrun, hown, hgr, hblk⟩ := run_append_rd (P := Try.prog) (ty := o.type) (c := c) hT h7.1 hlen' hrd (ReadsRows.one es rows' h6) (by simp only [maxLen]; exact hlen.2) hlen.1 (Nat.zero_le _)
 unfold wpList
 rw [if_pos (wanted_of ha hg)]
 refine .inl ?_
 unfold Oper.wp execOp
 simp only [ho, resolve, invoke, builtin, Sem.run_bind, Sem.run_pure, Result.andThen_ok, List.map_toArray, List.map_cons, List.map_nil, hs', h1, hrun]
 refine (k _).go _ _ ((ha.turn (q := .row (.slice A' (ds.length + es.length) c') e z (ds ++ es)) hi hgr ?_ fun hok hcell => ⟨rows ++ rows', ?_, ReadsRows.append ds es rows rows' (ReadsRows.mono hok hcell z ds rows h8) (ReadsRows.mono hok hcell z es rows' h6)⟩).put hd (v_mk rfl))
 ·
  rcases hblk with hb | hb
  · exact .inl hb
  · exact .inr ⟨_, hb, Nat.le_refl _⟩
 ·
  rw [List.flatten_append, List.length_append]
  refine ⟨hown, fun b hb => ?_⟩
  rcases hblk with e | e
  · exact h7.2 b (e ▸ hb)
  ·
   rw [e] at hb
   cases hb
   exact .inr hge
theorem Le.row (e z : Nat) : Le X S ⟨S.regs, .row (.slice none 0 0) e z [] :: S.objs, S.facts⟩ := fun a w ha => by
 have hok : ∀ b, X.ok S.objs w b → X.ok (.row (.slice none 0 0) e z [] :: S.objs) w b := fun b hb => ⟨hb.1, hb.2.1, fun r hr h => by
  rcases List.mem_cons.1 hr with rfl | hr
  · cases h
  · exact hb.2.2 r hr h⟩
 refine ⟨⟨ha.mem.gr, List.pairwise_cons.2 ⟨(fun r hr b h => by cases h), ha.mem.apart⟩, fun r hr => ?_, fun f hf => Reads.mono hok (fun _ _ => rfl) _ _ (ha.mem.fact f hf)⟩, fun t r hr => (ha.regs t r hr).mono hok (fun _ _ => rfl), ha.size, ha.defers⟩
 rcases List.mem_cons.1 hr with rfl | hr
 · exact ⟨[], ⟨World.ownsRow_nil _ _ _ _, fun b hb => by cases hb⟩, by rw [ReadsRows]⟩
 · exact (ha.mem.at_ r hr).move hok (fun _ _ => rfl) fun _ _ => rfl
end
end E
end Go.Proofs.Ytiledgojbpmoiaa
