/-
 Merged (wip/tools/merge.py): E6, Draw, E7.
 Conditions: none.
-/
import Derived.Test.YtiledgojbpmoiaaZC4
import Derived.Laws.Tables
import Derived.Test.YtiledgojbpmoiaaZC1
/-
 The abstract machine's operations: literals of structs, arrays, slices; parts of slices.
 Conditions: none.
-/
namespace Go.Proofs.Ytiledgojbpmoiaa
set_option linter.unusedVariables false
open Go.RowKit Mono Rlp
namespace E
section
variable {N : Nat} {X : Cx N} {S S' : St} {a : Act} {w w' : World} {ops : Array Oper} {o : Oper} {Q : Exit → Act → World → Prop} {l : List Oper} {L : Tmp → Prop} {objs : List Obj} {facts : List (Value × D)}
theorem splice_list (o : Nat) : ∀ (vs A M Z : List Value) (s : Nat), A.length = o + s → M.length = vs.length → (vs.zipIdx s).foldl (fun (cs : Array Value) (x : Value × Nat) => cs.setIfInBounds (o + x.2) x.1) (A ++ M ++ Z).toArray = (A ++ vs ++ Z).toArray
 | [], A, M, Z, s, _, hM => by
  obtain rfl : M = [] := List.length_eq_zero_iff.1 hM
  rfl
 | v :: vs, A, m :: M, Z, s, hA, hM => by
  rw [List.zipIdx_cons, List.foldl_cons]
  have h1 : ((A ++ (m :: M) ++ Z).toArray).setIfInBounds (o + s) v = ((A ++ [v]) ++ M ++ Z).toArray := by
   rw [← hA]
   simp [List.set_append_right]
  rw [h1, splice_list o vs (A ++ [v]) M Z (s + 1) (by simp; omega) (by simpa using hM)]
  simp
theorem splice_mid (vs A M Z : List Value) (hM : M.length = vs.length) : vs.toArray.zipIdx.foldl (fun (cs : Array Value) (x : Value × Nat) => cs.setIfInBounds (A.length + x.2) x.1) (A ++ M ++ Z).toArray = (A ++ vs ++ Z).toArray := by
 rw [← Array.foldl_toList, Array.toList_zipIdx]
 exact splice_list A.length vs A M Z 0 rfl hM
theorem fill_cons (place : Nat → Option (Nat × Nat)) (i : Nat) (v : Value) (vs A M Z : List Value) (rest : List (Nat × Value)) (hp : place i = some (A.length, vs.length)) (hv : v.cells = vs.toArray) (hM : M.length = vs.length) :
  Instr.fill place (A ++ M ++ Z).toArray ((i, v) :: rest) = Instr.fill place (A ++ vs ++ Z).toArray rest := by
 rw [Instr.fill, hp]
 dsimp only
 rw [hv, if_neg (by simp [hM])]
 congr 1
 exact splice_mid vs A M Z hM
structure StTy (T : Nat) (places : List (Nat × Nat)) : Prop where
 get : ∃ fs, Try.prog.underlying T = some (.struct fs) ∧ fs.toList.mapM (fun f => (Try.prog.info? f.type).map fun i => (f.offset, i.size)) = some places
def fillD (places : List (Nat × Nat)) : D → List (Nat × D) → Option D
 | d, [] => some d
 | d, (i, e) :: rest => match places[i]? with
  | some (off, sz) => if e.size = sz then (match d.upd off e with
   | some d' => fillD places d' rest
   | none => none) else none
  | none => none
def evps (S : St) : List (Nat × Operand) → Option (List (Nat × D))
 | [] => some []
 | (i, x) :: xs => match ev S x, evps S xs with
  | some (.val d), some ds => some ((i, d) :: ds)
  | _, _ => none
def ReadPs (ok : Nat → Prop) (w : World) : List (Nat × D) → List (Nat × Value) → Prop
 | [], xs => xs = []
 | (i, d) :: ds, xs => ∃ x rest, xs = (i, x) :: rest ∧ ReadV ok w d x ∧ ReadPs ok w ds rest
theorem Kn.evps {base : Nat → Prop} {ok : Nat → Prop} (h : Kn base ok L S a w) : ∀ (xs : List (Nat × Operand)) (ds : List (Nat × D)), E.evps S xs = some ds → (∀ i t, (i, .tmp t) ∈ xs → L t) → ReadPs ok w ds (xs.map fun (i, x) => (i, a.eval x))
 | [], ds, hx, _ => by cases hx; rfl
 | (i, x) :: xs, ds, hx, hL => by
  rw [E.evps] at hx
  cases h1 : E.ev S x with
  | none => rw [h1] at hx; cases hx
  | some r =>
   cases h2 : E.evps S xs with
   | none => rw [h1, h2] at hx; cases r <;> cases hx
   | some es =>
    rw [h1, h2] at hx
    cases r with
    | val d =>
     cases hx
     exact ⟨_, _, rfl, h.ev h1 (fun t e => hL i t (by simp [e])), Kn.evps h xs es h2 fun i t ht => hL i t (by simp [ht])⟩
    | _ => cases hx
theorem fill_spec {ok : Nat → Prop} {places : List (Nat × Nat)} : ∀ (parts : List (Nat × D)) (vs : List (Nat × Value)) (d d' : D) (cs : List Value), fillD places d parts = some d' → ReadPs ok w parts vs → Reads ok w d cs → d'.agg = d.agg ∧ ∃ cs', Instr.fill (places.toArray[·]?) cs.toArray vs = some cs'.toArray ∧ Reads ok w d' cs'
 | [], vs, d, d', cs, h, hp, hr => by
  cases h
  cases hp
  exact ⟨rfl, cs, rfl, hr⟩
 | (i, e) :: parts, vs, d, d', cs, h, hp, hr => by
  obtain ⟨x, rest, rfl, ⟨es, h1, rfl⟩, h2⟩ := hp
  rw [fillD] at h
  split at h
  ·
   rename_i off sz hpl
   split at h
   ·
    rename_i hsz
    cases hu : d.upd off e with
    | none => rw [hu] at h; cases h
    | some d1 =>
     rw [hu] at h
     dsimp only at h
     obtain ⟨e1, e2, pre, mid, post, rfl, h3, h4, h5⟩ := upd_spec d off e d1 cs es hu hr h1
     obtain ⟨e3, cs', h6, h7⟩ := fill_spec parts rest d1 d' _ h h2 h5
     refine ⟨e3.trans e2, cs', ?_, h7⟩
     rw [fill_cons _ i (form e es) es pre mid post rest (by simp [hpl, h3, ← hsz, Reads.len _ _ h1]) (form_cells h1) h4]
     exact h6
   · cases h
  · cases h
theorem run_buildSt {T : Nat} {places : List (Nat × Nat)} {d0 d : D} {parts : List (Nat × D)} {vs : List (Nat × Value)} {ok : Nat → Prop} (hT : StTy T places) (hz : Zero T d0) (hd0 : d0.agg = true) (hf : fillD places d0 parts = some d) (hp : ReadPs ok w parts vs) :
  ∃ x, (Instr.build T vs.toArray).run Try.prog w = .ok x w ∧ ReadV ok w d x := by
 obtain ⟨z, hz, hr⟩ := hz
 obtain ⟨fs, hu, hm⟩ := hT
 obtain ⟨e1, cs', h1, h2⟩ := fill_spec parts vs d0 d _ hf hp (hr ok w)
 refine ⟨.agg cs'.toArray, ?_, (readV_agg (e1.trans hd0)).2 ⟨cs', h2, rfl⟩⟩
 refine run_build w T vs.toArray _ ?_
 cases hi : Try.prog.info? T with
 | none => rw [hi] at hz; cases hz
 | some it =>
  rw [hi] at hz
  have hz' : it.zero = some z := by simpa using hz
  unfold Program.built
  rw [hi, hu]
  dsimp only
  rw [hz', hm]
  simpa using h1
theorem g_build {T : Nat} {parts : Array (Nat × Operand)} {places : List (Nat × Nat)} {d0 d : D} {ps : List (Nat × D)} (ho : o.op = .build T parts) (hx : evps S parts.toList = some ps) (hT : StTy T places) (hz : Zero T d0) (hd0 : d0.agg = true) (hf : fillD places d0 ps = some d) : Still ops S o (.val d) := fun base ok a w ha => by
 have hp := ha.evps _ _ hx fun i t ht => looks_of (x := .tmp t) rfl (by rw [ho]; simp only [Op.operands]; simp; exact ⟨i, by simpa using ht⟩)
 obtain ⟨x, h1, h2⟩ := run_buildSt hT hz hd0 hf hp
 refine ⟨x, ?_, h2⟩
 have he : (parts.toList.map fun (i, x) => (i, a.eval x)).toArray = parts.map fun (i, x) => (i, a.eval x) := by
  apply Array.ext'
  simp
 rw [he] at h1
 unfold execOp
 simp only [ho, Sem.run_bind, h1, Result.andThen_ok, Sem.run_pure]
theorem g_build0 {T n e z : Nat} {d : D} (ho : o.op = .build T #[]) (hT : ArTy T n e z) (hz : Zero T d) (hd : d.agg = true) : Still ops S o (.val d) := fun base ok a w ha => by
 obtain ⟨zv, hz, hr⟩ := hz
 refine ⟨.agg zv.cells, ?_, (readV_agg hd).2 ⟨_, hr _ _, by simp⟩⟩
 cases hi : Try.prog.info? T with
 | none => rw [hi] at hz; cases hz
 | some i =>
  rw [hi] at hz
  have hz' : i.zero = some zv := by simpa using hz
  unfold execOp
  simp [ho, Instr.build, zeroValue, typeInfo, hi, hz', run_underlying hT.und, run_size hT.size, Instr.fill]
/-! ### Slices' literals -/
def inRow : Nat → List (Nat × D) → Option (List D)
 | _, [] => some []
 | k, (i, d) :: ps => if i = k then (inRow (k + 1) ps).map (d :: ·) else none
theorem fillRow {ok : Nat → Prop} {z : Nat} : ∀ (ps : List (Nat × D)) (k : Nat) (ds : List D) (vs : List (Nat × Value)) (A M : List Value), inRow k ps = some ds → ReadPs ok w ps vs → (∀ p ∈ ps, p.2.size = z) → A.length = k * z → M.length = ps.length * z →
  ∃ rows, Instr.fill (fun i => some (i * z, z)) (A ++ M).toArray vs = some (A ++ rows.flatten).toArray ∧ ReadsRows ok w z ds rows
 | [], k, ds, vs, A, M, h, hp, hs, hA, hM => by
  cases h
  cases hp
  obtain rfl : M = [] := List.length_eq_zero_iff.1 (by simpa using hM)
  exact ⟨[], rfl, by rw [ReadsRows]⟩
 | (i, d) :: ps, k, ds, vs, A, M, h, hp, hs, hA, hM => by
  obtain ⟨x, rest, rfl, ⟨es, h1, rfl⟩, h2⟩ := hp
  rw [inRow] at h
  split at h
  ·
   rename_i e
   subst e
   cases hr : inRow (i + 1) ps with
   | none => rw [hr] at h; cases h
   | some ds' =>
    rw [hr] at h
    cases h
    have hz := hs (i, d) (by simp)
    have hl := Reads.len _ _ h1
    have hml : (M.take z).length = es.length := by
     rw [List.length_take, hM, hl, hz, List.length_cons, Nat.add_mul, Nat.one_mul]
     omega
    have hmr : (M.drop z).length = ps.length * z := by
     rw [List.length_drop, hM, List.length_cons, Nat.add_mul, Nat.one_mul]
     omega
    obtain ⟨rows, h3, h4⟩ := fillRow ps (i + 1) ds' rest (A ++ es) (M.drop z) hr h2 (fun p hp => hs p (by simp [hp])) (by rw [List.length_append, hA, hl, hz, Nat.add_mul, Nat.one_mul]) hmr
    refine ⟨es :: rows, ?_, by rw [ReadsRows]; exact ⟨es, rows, rfl, by rw [hl, hz], h1, h4⟩⟩
    have := fill_cons (fun i => some (i * z, z)) i (form d es) es A (M.take z) (M.drop z) rest (by simp [hA, hl, hz]) (form_cells h1) hml
    rw [List.append_assoc, List.take_append_drop] at this
    rw [this, h3, List.flatten_cons, List.append_assoc]
  · cases h
theorem g_slice_lit {T e z n : Nat} {parts : Array (Nat × Operand)} {ps : List (Nat × D)} {ds : List D} {d0 : D} (ho : o.op = .buildSlice T n parts) (hx : evps S parts.toList = some ps) (hT : SlTy T e z) (hz : Zero e d0) (hin : inRow 0 ps = some ds) (hsz : ∀ p ∈ ps, p.2.size = z) (hn : ps.length = n) (h0 : 0 < n ∧ 0 < z) (hbig : n * z ≤ 16777216) : Grows ops S o (· = .val (.sl z ds)) := fun base ok a w ha => by
 have hp := ha.evps _ _ hx fun i t ht => looks_of (x := .tmp t) rfl (by rw [ho]; simp only [Op.operands]; simp; exact ⟨i, by simpa using ht⟩)
 obtain ⟨zv, hz, hr⟩ := hz
 cases hi : Try.prog.info? e with
 | none => rw [hi] at hz; cases hz
 | some ie =>
  rw [hi] at hz
  have hz' : ie.zero = some zv := by simpa using hz
  have hsize : ie.size = z := by have := hT.size; rw [hi] at this; simpa using this
  subst hn
  obtain ⟨rows, h1, h2⟩ := fillRow ps 0 ds _ [] ((Array.range (ps.length * z)).map (zv.cells[· % zv.cells.size]!)).toList hin hp hsz (by simp) (by simp)
  simp only [List.nil_append] at h1
  rw [Array.toArray_toList] at h1
  have he : (parts.toList.map fun (i, x) => (i, a.eval x)).toArray = parts.map fun (i, x) => (i, a.eval x) := by
   apply Array.ext'
   simp
  have hrun := run_buildSlice (P := Try.prog) w T e ps.length (parts.toList.map fun (i, x) => (i, a.eval x)).toArray rows.flatten.toArray ie zv hT.und hi hz' (by rw [hsize]; omega) (by rw [hsize]; exact Nat.pos_iff_ne_zero.1 (Nat.mul_pos h0.1 h0.2)) (by rw [hsize]; exact h1)
  rw [he] at hrun
  have hlen : ds.length = ps.length := by
   have : ∀ (ps : List (Nat × D)) (k : Nat) (ds : List D), inRow k ps = some ds → ds.length = ps.length := by
    intro ps
    induction ps with
    | nil => intro k ds h; cases h; rfl
    | cons p ps ih =>
     intro k ds h
     obtain ⟨i, d⟩ := p
     rw [inRow] at h
     split at h
     ·
      cases hr : inRow (k + 1) ps with
      | none => rw [hr] at h; cases h
      | some es =>
       rw [hr] at h
       cases h
       simp [ih _ _ hr]
     · cases h
   exact this ps 0 ds hin
  have hexec : (execOp a.eval o).run Try.prog w = .ok (.value (.slice (some ⟨w.heap.size, 0, none⟩) ps.length ps.length)) (w.alloc (.cells rows.flatten.toArray e)) := by
   unfold execOp
   simp only [ho, Sem.run_bind, hrun, Result.andThen_ok, Sem.run_pure]
  rw [hexec]
  have hg := gr_alloc w (.cells rows.flatten.toArray e)
  refine ⟨hg, _, rfl, (readV_one rfl).2 ?_⟩
  rw [Reads]
  refine ⟨_, ps.length, rows, by rw [hlen], by omega, ?_, (fun e => by cases e), fun hne => ⟨_, 0, rfl, ⟨.inr (Nat.le_refl _), by simp⟩, fun j u hu => ?_⟩, ReadsRows.mono (fun b hb => ⟨.inl hb, Nat.lt_of_lt_of_le (ha.lt b hb) hg.size⟩) (fun p hp => hg.cell (ha.lt _ hp)) z ds rows h2⟩
  ·
   have : ps.length ≤ ps.length * z := Nat.le_mul_of_pos_right _ h0.2
   simp only [maxLen]
   omega
  ·
   rw [Nat.zero_add, cell_of_row _ _ _ _ _ (0, 0) (heap_alloc_new w _)]
   simpa using hu
end
end E
end Go.Proofs.Ytiledgojbpmoiaa
/-
 Regions that draw their order: what holds of any set of operations that have been done, step by step; no operation stands for itself alone.
 Conditions: none. No program is named here.
-/
namespace Go.Proofs.Ytiledgojbpmoiaa
set_option linter.unusedVariables false
open Go.RowKit
namespace Mono
variable {P : Program}
def SlotOk (ops : Array Oper) (L : Nat → Prop) (vs : Nat → Value) (a0 a : Act) (k : Nat) (t : Tmp) : Prop :=
 (∃ j, j < k ∧ dstOf ops j = some t ∧ (∀ i, j < i → i < k → dstOf ops i ≠ some t) ∧ L j ∧ a.tmps.getD t undef = vs j) ∨ ((∀ j, j < k → dstOf ops j ≠ some t) ∧ a.tmps.getD t undef = a0.tmps.getD t undef)
abbrev doneB (listed : Array Bool) : Nat → Prop := fun j => listed.getD j false = true
section
variable {ops : Array Oper} {n : Nat} {a0 : Act} {listed : Array Bool} {vs : Nat → Value} {a : Act} {w : World}
theorem Inv.slots (F : LexFacts .any ops n) (I : Inv .any ops a0 (fun _ => True) (fun _ _ _ => True) n listed vs a w) (hrange : ∀ j t, dstOf ops j = some t → t < a0.tmps.size) {i : Nat} {oi : Oper} (hi : i ∈ Region.ready .any ops listed) (hin : i < n) (ho : ops[i]? = some oi) :
  ∀ t ∈ oi.looksAt ops, SlotOk ops (doneB listed) vs a0 a i t := by
 intro t ht
 obtain ⟨hun, o', ho', hall⟩ := mem_ready.1 hi
 have : o' = oi := Option.some.inj (ho'.symm.trans ho)
 subst this
 have hbefore : ∀ j, j < i → dstOf ops j = some t → listed.getD j false = true := by
  intro j hj hd
  obtain ⟨oj, hoj, hdj⟩ : ∃ oj, ops[j]? = some oj ∧ oj.dst = some t := by
   unfold dstOf at hd
   cases h : ops[j]? with
   | none => simp [h] at hd
   | some oj => exact ⟨oj, rfl, by simpa [h] using hd⟩
  rcases waits_or .any o' j with hw | ⟨e, he, hb, hon⟩
  ·
   have hap := F.free j oj (by omega) hoj i o' hj ho hw
   exact absurd ht ((Oper.apart_spec hap).1 t hdj)
  ·
   rw [← hon]
   exact hall e he hb
 have hbehind : ∀ j, i < j → dstOf ops j = some t → listed.getD j false = true → False := by
  intro j hj hd hl
  obtain ⟨oj, hoj, hdj⟩ : ∃ oj, ops[j]? = some oj ∧ oj.dst = some t := by
   unfold dstOf at hd
   cases h : ops[j]? with
   | none => simp [h] at hd
   | some oj => exact ⟨oj, rfl, by simpa [h] using hd⟩
  rcases waits_or .any oj i with hw | ⟨e, he, hb, hon⟩
  ·
   have hap := F.free i o' hin ho j oj hj hoj hw
   exact (Oper.apart_spec hap).2.2 t hdj ht
  ·
   have := I.head.closed j oj hoj hl e he hb
   rw [hon, getD_both hun] at this
   cases this
 have hself : listed.getD i false = false := getD_both hun
 by_cases hex : ∃ j, j < i ∧ dstOf ops j = some t
 ·
  obtain ⟨j, hj, hd, hmax⟩ := exists_last (fun j => dstOf ops j = some t) i hex
  refine .inl ⟨j, hj, hd, fun i' h1 h2 e => by have := hmax i' h2 e; omega, hbefore j hj hd, ?_⟩
  refine I.slot t (hrange j t hd) j (hbefore j hj hd) hd fun i' hl' hd' => ?_
  rcases Nat.lt_trichotomy i' i with h | h | h
  · exact hmax i' h hd'
  · subst h; rw [hself] at hl'; cases hl'
  · exact (hbehind i' h hd' hl').elim
 ·
  refine .inr ⟨fun j hj hd => hex ⟨j, hj, hd⟩, I.slot0 t fun j hl hd => ?_⟩
  rcases Nat.lt_trichotomy j i with h | h | h
  · exact hex ⟨j, h, hd⟩
  · subst h; rw [hself] at hl; cases hl
  · exact hbehind j h hd hl
end
def setsTo (P : Program) (V : VP) : Result Next → Prop
 | .ok (.value v) w' => V v w'
 | .ok .skip w' => V undef w'
 | .ok (.enter f args) w' => Calls P f args w' fun e w'' => ∃ v, e = .returned v ∧ V v w''
 | _ => False
theorem setsTo_of_grows {P : Program} {V V' : VP} {w : World} {r : Result Next} (h : growsTo P V w r) (k : ∀ v w', Gr w w' → V v w' → V' v w') : setsTo P V' r := by
 cases r with
 | ok x w' =>
  cases x <;> simp only [growsTo, setsTo] at h ⊢
  case value v => exact k _ _ h.1 h.2
  case skip => exact k _ _ h.1 h.2
  case enter g args => exact h.2.mono fun e w'' ⟨v, he, hg, hv⟩ => ⟨v, he, k _ _ (h.1.trans hg) hv⟩
 | halt x w' => simp only [growsTo] at h
theorem Inv.world {md : Region.Mode} {ops : Array Oper} {a0 : Act} {n : Nat} {listed : Array Bool} {vs : Nat → Value} {a : Act} {w w' : World} (h : Inv md ops a0 (fun _ => True) (fun _ _ _ => True) n listed vs a w) : Inv md ops a0 (fun _ => True) (fun _ _ _ => True) n listed vs a w' :=
 ⟨h.head, trivial, fun _ _ => trivial, h.defers, h.size, h.slot, h.slot0⟩
theorem wpAny_of_set {ops : Array Oper} {Q : Exit → Act → World → Prop} {n : Nat} {a0 : Act} (F : LexFacts .any ops n) (hrange : ∀ j t, dstOf ops j = some t → t < a0.tmps.size)
  (G : (Nat → Prop) → (Nat → Value) → World → Prop)
  (hcongr : ∀ L L' vs vs' w, (∀ j, L j ↔ L' j) → (∀ j, L j → vs j = vs' j) → G L vs w → G L' vs' w)
  (hstep : ∀ k o L vs b u, k < n → ops[k]? = some o → (∀ j, L j → j < n) → ¬ L k → G L vs u → (∀ t ∈ o.looksAt ops, SlotOk ops L vs a0 b k t) → (∀ e ∈ o.after, Region.binds .any e = true → L e.on) →
   (Region.wanted o (yielded ops b.tmps) = true → setsTo P (fun v w' => G (fun j => j = k ∨ L j) (fun j => if j = k then v else vs j) w') ((execOp b.eval o).run P u)) ∧
   (Region.wanted o (yielded ops b.tmps) = false → G (fun j => j = k ∨ L j) (fun j => if j = k then undef else vs j) u))
  (hend : ∀ vs u, G (fun j => j < n) vs u → wpList P ops Q (ops.toList.drop n) (foldPut ops vs a0 n) u) :
  ∀ (f : Nat) (listed : Array Bool) (vs : Nat → Value) (a : Act) (w : World), left listed n = f → Inv .any ops a0 (fun _ => True) (fun _ _ _ => True) n listed vs a w → G (doneB listed) vs w → wpAny P .any ops Q (f + (ops.size - n)) listed a w := by
 intro f
 induction f with
 | zero =>
  intro listed vs a w hf I hG
  have hle := F.le
  have hall := left_zero hf (by rw [I.head.size]; exact hle)
  obtain ⟨L, hL1, hL2, hL3⟩ := F.tail
  have htail : ∀ j, listed.getD j false = true → j < n := by
   intro j hl
   rcases Nat.lt_or_ge j n with h | h
   · exact h
   ·
    have hjs : j < listed.size := by
     rcases Nat.lt_or_ge j listed.size with h' | h'
     · exact h'
     · simp [Array.getElem?_eq_none h'] at hl
    have := I.head.tail j h (by rw [← I.head.size]; exact hjs)
    rw [getD_both this] at hl
    cases hl
  have hLl : L = listed := by
   apply Array.ext (hL1.trans I.head.size.symm)
   intro i h1 h2
   have e1 : L[i] = L.getD i false := by simp [h1]
   have e2 : listed[i] = listed.getD i false := by simp [h2]
   rw [e1, e2]
   by_cases hin : i < n
   · rw [(hL2 i).2 hin, hall i hin]
   ·
    have := I.head.tail i (by omega) (by rw [← I.head.size]; exact h2)
    rw [getD_both this]
    cases hx : L.getD i false with
    | false => rfl
    | true => exact absurd ((hL2 i).1 hx) hin
  subst hLl
  rw [I.done hall]
  have := wpAny_of_seq (P := P) (md := .any) (ops := ops) (Q' := Q) (ops.toList.drop n) n L (foldPut ops vs a0 n) w (fun j => by simp [List.getElem?_drop]) (by simpa using hL3)
   (hend vs w (hcongr _ _ vs vs w (fun j => ⟨htail j, hall j⟩) (fun _ _ => rfl) hG))
  simpa using this
 | succ f ih =>
  intro listed vs a w hf I hG
  have hle := F.le
  obtain ⟨j0, hj0, hun0, hbef⟩ := left_pos n (by rw [I.head.size]; exact hle) (by omega : 0 < left listed n)
  rw [show f + 1 + (ops.size - n) = (f + (ops.size - n)) + 1 by omega]
  refine ⟨fun hnil => ?_, fun i hi => ?_⟩
  ·
   exfalso
   have hj0s : j0 < ops.size := by omega
   have hr : j0 ∈ Region.ready .any ops listed := mem_ready.2 ⟨hun0, ops[j0], by simp [hj0s], fun e he hb => hbef _ (F.before j0 ops[j0] hj0 (by simp [hj0s]) e he hb)⟩
   rw [hnil] at hr
   cases hr
  ·
   have hin : i < n := by
    rcases Nat.lt_or_ge i n with h | h
    · exact h
    · exact absurd hi (F.waits listed I.head j0 hj0 hun0 i h)
   obtain ⟨hun, oi, ho, hall⟩ := mem_ready.1 hi
   have htail : ∀ j, listed.getD j false = true → j < n := by
    intro j hl
    rcases Nat.lt_or_ge j n with h | h
    · exact h
    ·
     have hjs : j < listed.size := by
      rcases Nat.lt_or_ge j listed.size with h' | h'
      · exact h'
      · simp [Array.getElem?_eq_none h'] at hl
     have := I.head.tail j h (by rw [← I.head.size]; exact hjs)
     rw [getD_both this] at hl
     cases hl
   have hob := hstep i oi (doneB listed) vs a w hin ho htail (by show ¬ listed.getD i false = true; rw [getD_both hun]; decide) hG (I.slots F hrange hi hin ho) hall
   have hsz : i < listed.size := by rw [I.head.size]; omega
   have hdone : ∀ j, (j = i ∨ doneB listed j) ↔ doneB (listed.setIfInBounds i true) j := by
    intro j
    show _ ↔ (listed.setIfInBounds i true).getD j false = true
    by_cases hij : i = j
    ·
     subst hij
     simp [hsz]
    ·
     rw [getD_set_ne false hij]
     constructor
     ·
      rintro (h | h)
      · exact absurd h.symm hij
      · exact h
     · exact .inr
   have hnext : ∀ v w', G (fun j => j = i ∨ doneB listed j) (fun j => if j = i then v else vs j) w' → wpAny P .any ops Q (f + (ops.size - n)) (listed.setIfInBounds i true) (a.put oi.dst v) w' := fun v w' hv =>
    ih _ (fun j => if j = i then v else vs j) _ _ (by have := left_set hsz hun n hin; omega) (I.world.step F (fun _ _ _ _ _ _ _ => trivial) (fun _ _ _ _ => trivial) hi hin ho (Gr.refl w') trivial) (hcongr _ _ _ _ _ hdone (fun _ _ => rfl) hv)
   unfold wpOp
   simp only [ho]
   cases hw : Region.wanted oi (yielded ops a.tmps) with
   | true =>
    simp only [if_true]
    refine .inl ?_
    have h1 := hob.1 hw
    unfold Oper.wp
    generalize (execOp a.eval oi).run P w = r at *
    cases r with
    | ok x w' =>
     cases x <;> simp only [setsTo] at h1 <;> simp only [Oper.upon]
     case value v => exact hnext _ _ h1
     case skip => exact hnext _ _ h1
     case enter g args =>
      refine h1.mono fun e w'' ⟨v, he, hv⟩ => ?_
      subst he
      exact hnext _ _ hv
    | halt x w' => simp only [setsTo] at h1
   | false =>
    simp only [Bool.false_eq_true, if_false]
    exact hnext _ _ (hob.2 hw)
theorem foldPut_slot {ops : Array Oper} {n : Nat} {a0 : Act} (vs : Nat → Value) (hrange : ∀ j t, dstOf ops j = some t → t < a0.tmps.size) (t : Tmp) : SlotOk ops (fun j => j < n) vs a0 (foldPut ops vs a0 n) n t := by
 by_cases hex : ∃ j, j < n ∧ dstOf ops j = some t
 ·
  obtain ⟨j, hj, hd, hmax⟩ := exists_last (fun j => dstOf ops j = some t) n hex
  exact .inl ⟨j, hj, hd, fun i' h1 h2 e => (by have := hmax i' h2 e; omega), hj, foldPut_last vs a0 t (hrange j t hd) j n hj hd hmax⟩
 · exact .inr ⟨fun j hj hd => hex ⟨j, hj, hd⟩, foldPut_none vs a0 t n fun j hj hd => hex ⟨j, hj, hd⟩⟩
theorem wp_region_set' {id : Nat} {Q : Exit → Act → World → Prop} {a : Act} {w : World} {l : List Oper} (n : Nat) (hm : P.follows .mixedOrders = true) (hB : monoB l.toArray n a.tmps.size = true)
  (G : (Nat → Prop) → (Nat → Value) → World → Prop)
  (hcongr : ∀ L L' vs vs' w, (∀ j, L j ↔ L' j) → (∀ j, L j → vs j = vs' j) → G L vs w → G L' vs' w)
  (h0 : G (fun _ => False) (fun _ => undef) w.drew)
  (hstep : ∀ k o L vs b u, k < n → l[k]? = some o → (∀ j, L j → j < n) → ¬ L k → G L vs u → (∀ t ∈ o.looksAt l.toArray, SlotOk l.toArray L vs a b k t) → (∀ e ∈ o.after, Region.binds .any e = true → L e.on) →
   (Region.wanted o (yielded l.toArray b.tmps) = true → setsTo P (fun v w' => G (fun j => j = k ∨ L j) (fun j => if j = k then v else vs j) w') ((execOp b.eval o).run P u)) ∧
   (Region.wanted o (yielded l.toArray b.tmps) = false → G (fun j => j = k ∨ L j) (fun j => if j = k then undef else vs j) u))
  (hend : ∀ vs u b, G (fun j => j < n) vs u → b.tmps.size = a.tmps.size → b.defers = a.defers → (∀ t, SlotOk l.toArray (fun j => j < n) vs a b n t) → wpList P l.toArray Q (l.drop n) b u) : (Code.region id l.toArray true).wp P Q a w := by
 have F := facts_of_monoB hB
 have hr := range_of_monoB hB
 refine wp_region_any hm ?_
 have hleft : left (Array.replicate l.toArray.size false) n = n := by
  unfold left
  have hle' := F.le
  have : (List.range n).countP (fun j => !(Array.replicate l.toArray.size false).getD j true) = (List.range n).countP (fun _ => true) :=
   List.countP_congr fun j hj => by
    have := List.mem_range.1 hj
    rw [getD_in (by simp; simpa using Nat.lt_of_lt_of_le this hle') (getD_replicate_false _ _)]
    simp
  rw [this]
  simp
 have := wpAny_of_set (Q := Q) F hr G hcongr (fun k o L vs b u hk ho => hstep k o L vs b u hk (by simpa using ho)) (fun vs u hG => hend vs u _ hG (foldPut_size vs a n) (foldPut_defers vs a n) fun t => foldPut_slot vs hr t) n _ (fun _ => undef) a w.drew hleft
  ⟨⟨by simp, fun j oj _ hl => (by rw [getD_replicate_false] at hl; cases hl), fun t _ ht => getD_in (by simpa using ht) (getD_replicate_false _ _)⟩, trivial,
   fun j hl => trivial, rfl, rfl, fun t _ j hl => (by rw [getD_replicate_false] at hl; cases hl), fun t _ => rfl⟩
  (hcongr _ _ _ _ _ (fun j => ⟨fun h => h.elim, fun h => (by rw [show doneB (Array.replicate l.toArray.size false) j = ((Array.replicate l.toArray.size false).getD j false = true) from rfl, getD_replicate_false] at h; cases h)⟩) (fun _ h => h.elim) h0)
 rw [show n + (l.toArray.size - n) = l.toArray.size by have := F.le; omega] at this
 exact this
theorem wp_region_set {id : Nat} {Q : Exit → Act → World → Prop} {a : Act} {w : World} {l : List Oper} (n : Nat) (hm : P.follows .mixedOrders = true) (hB : monoB l.toArray n a.tmps.size = true)
  (G : (Nat → Prop) → (Nat → Value) → World → Prop)
  (hcongr : ∀ L L' vs vs' w, (∀ j, L j ↔ L' j) → (∀ j, L j → vs j = vs' j) → G L vs w → G L' vs' w)
  (h0 : G (fun _ => False) (fun _ => undef) w.drew)
  (hstep : ∀ k o L vs b u, k < n → l[k]? = some o → (∀ j, L j → j < n) → ¬ L k → G L vs u → (∀ t ∈ o.looksAt l.toArray, SlotOk l.toArray L vs a b k t) →
   (Region.wanted o (yielded l.toArray b.tmps) = true → setsTo P (fun v w' => G (fun j => j = k ∨ L j) (fun j => if j = k then v else vs j) w') ((execOp b.eval o).run P u)) ∧
   (Region.wanted o (yielded l.toArray b.tmps) = false → G (fun j => j = k ∨ L j) (fun j => if j = k then undef else vs j) u))
  (hend : ∀ vs u b, G (fun j => j < n) vs u → b.tmps.size = a.tmps.size → b.defers = a.defers → (∀ t, SlotOk l.toArray (fun j => j < n) vs a b n t) → wpList P l.toArray Q (l.drop n) b u) : (Code.region id l.toArray true).wp P Q a w :=
 wp_region_set' n hm hB G hcongr h0 (fun k o L vs b u h1 h2 h3 h4 h5 h6 _ => hstep k o L vs b u h1 h2 h3 h4 h5 h6) hend
end Mono
end Go.Proofs.Ytiledgojbpmoiaa
/-
 The abstract machine at regions that draw their order.
 Conditions: none.
-/
namespace Go.Proofs.Ytiledgojbpmoiaa
set_option linter.unusedVariables false
open Go.RowKit Mono Rlp
namespace E
inductive Inf where
 | still (r : R)
 | grow (r : R)
 | skip
 | new (T : TypeId) (d : D)
 | put (p q : Obj)
def Inf.noPut : Inf → Bool
 | .put _ _ => false
 | _ => true
def Inf.reg : Inf → R
 | .still r => r
 | .grow r => r
 | .skip => .tpl []
 | _ => .any
def News (ops : Array Oper) (S : St) (o : Oper) (T : TypeId) (d : D) : Prop :=
 ∀ base ok a w, Kn base ok (fun t => t ∈ o.looksAt ops) S a w → ∃ cs : List Value, (execOp a.eval o).run Try.prog w = .ok (.value (.pointer (some ⟨w.heap.size, 0, none⟩))) (w.alloc (.cells cs.toArray T)) ∧ Reads ok w d cs
abbrev Fr := Tmp × TypeId × D
def Puts (ops : Array Oper) (S : St) (o : Oper) (p q : Obj) : Prop :=
 q.blk = p.blk ∧ ∀ base ok a w, Kn base ok (fun t => t ∈ o.looksAt ops) S a w → (∀ g, p.blk = some g → ¬ ok g) → p.At base ok w → ∃ w' g, (execOp a.eval o).run Try.prog w = .ok .skip w' ∧ p.blk = some g ∧ w.grownBy w' (some g) ∧ q.At base ok w'
def OkI (N : Nat) (ops : Array Oper) (S : St) (o : Oper) : Inf → Prop
 | .still r => guardOf ops S o = some true ∧ Still ops S o r
 | .grow r => guardOf ops S o = some true ∧ Grows ops S o (· = r)
 | .skip => guardOf ops S o = some false
 | .new T d => guardOf ops S o = some true ∧ News ops S o T d
 | .put p q => guardOf ops S o = some true ∧ o.dst = none ∧ Puts ops S o p q
def offB (N : Nat) (d : Option Tmp) (E : List Fr) : Bool :=
 match d with
 | some t => decide (t < N) && E.all fun x => x.1 != t
 | none => true
def nextE (E : List Fr) (d : Option Tmp) : Inf → List Fr
 | .new T x => match d with
  | some t => E ++ [(t, T, x)]
  | none => E
 | _ => E
def EM (N : Nat) (ops : Array Oper) (T : St → List Fr → Prop) : List Oper → St → List Fr → Prop
 | [], S, E => T S E
 | o :: l, S, E => ∃ inf : Inf, inf.noPut = true ∧ offB N o.dst E = true ∧ ((∃ T d, inf = .new T d) → o.dst ≠ none) ∧ OkI N ops S o inf ∧ EM N ops T l (S.put o.dst inf.reg) (nextE E o.dst inf)
section
variable {N : Nat} {X : Cx N} {S S' : St} {a : Act} {w w' : World} {ops : Array Oper} {o : Oper} {Q : Exit → Act → World → Prop} {l : List Oper} {T : St → List Fr → Prop} {E : List Fr}
theorem EM.nil (h : T S E) : EM N ops T [] S E := h
theorem EM.still {r : R} (hg : guardOf ops S o = some true) (hd : offB N o.dst E = true) (hO : Still ops S o r) (k : EM N ops T l (S.put o.dst r) E) : EM N ops T (o :: l) S E := ⟨.still r, rfl, hd, (fun ⟨_, _, e⟩ => by cases e), ⟨hg, hO⟩, k⟩
theorem EM.grow {r : R} (hg : guardOf ops S o = some true) (hd : offB N o.dst E = true) (hO : Grows ops S o (· = r)) (k : EM N ops T l (S.put o.dst r) E) : EM N ops T (o :: l) S E := ⟨.grow r, rfl, hd, (fun ⟨_, _, e⟩ => by cases e), ⟨hg, hO⟩, k⟩
theorem EM.skip (hg : guardOf ops S o = some false) (hd : offB N o.dst E = true) (k : EM N ops T l (S.put o.dst (.tpl [])) E) : EM N ops T (o :: l) S E := ⟨.skip, rfl, hd, (fun ⟨_, _, e⟩ => by cases e), hg, k⟩
theorem EM.new {t : Tmp} {Ty : TypeId} {d : D} (hg : guardOf ops S o = some true) (ht : o.dst = some t) (hd : offB N (some t) E = true) (hO : News ops S o Ty d) (k : EM N ops T l (S.put (some t) .any) (E ++ [(t, Ty, d)])) : EM N ops T (o :: l) S E :=
 ⟨.new Ty d, rfl, by rw [ht]; exact hd, fun _ => (by rw [ht]; exact fun e => by cases e), ⟨hg, hO⟩, by rw [ht]; exact k⟩
theorem n_alloc {Ty : TypeId} {d : D} (ho : o.op = .alloc Ty) (hz : Zero Ty d) : News ops S o Ty d := fun base ok a w ha => by
 obtain ⟨z, hz, hr⟩ := hz
 refine ⟨z.cells.toList, ?_, hr ok w⟩
 unfold execOp
 simp only [ho, Sem.run_bind, run_alloc hz, Result.andThen_ok, Sem.run_pure]
theorem n_box {Ty : TypeId} {x : Operand} {d : D} (ho : o.op = .box Ty x) (hx : ev S x = some (.val d)) : News ops S o Ty d := fun base ok a w ha => by
 obtain ⟨cs, h1, h2⟩ := ha.ev hx fun t e => looks_of e (by rw [ho]; simp [Op.operands])
 refine ⟨cs, ?_, h1⟩
 have := form_cells h1
 unfold execOp
 simp [ho, Instr.box, newVar, newRow, h2, this]
def stAt (S : St) : List Oper → List Inf → Nat → St
 | _, _, 0 => S
 | o :: l, i :: infs, k + 1 => stAt (S.put o.dst i.reg) l infs k
 | _, _, _ => S
def frAt (E : List Fr) : List Oper → List Inf → List Fr
 | o :: l, i :: infs => frAt (nextE E o.dst i) l infs
 | _, _ => E
theorem em_list : ∀ (l : List Oper) (S : St) (E : List Fr), EM N ops T l S E → ∃ infs : List Inf, infs.length = l.length ∧
  (∀ k o i, l[k]? = some o → infs[k]? = some i → OkI N ops (stAt S l infs k) o i ∧ (∀ t, o.dst = some t → t < N ∧ (∀ x ∈ E, x.1 ≠ t) ∧ ∀ j oj T d, j < k → l[j]? = some oj → infs[j]? = some (.new T d) → oj.dst ≠ some t) ∧ ((∃ T d, i = .new T d) → o.dst ≠ none)) ∧
  T (stAt S l infs l.length) (frAt E l infs) ∧ ∀ (k : Nat) (i : Inf), infs[k]? = some i → i.noPut = true
 | [], S, E, h => ⟨[], rfl, (fun k o i h => by simp at h), h, fun k i h => by simp at h⟩
 | o :: l, S, E, h => by
  obtain ⟨inf, h0, h1, h1', h2, h3⟩ := h
  obtain ⟨infs, h4, h5, h6, h7⟩ := em_list l _ _ h3
  have hoff : ∀ t, o.dst = some t → t < N ∧ ∀ x ∈ E, x.1 ≠ t := fun t ht => by
   rw [ht] at h1
   simp only [offB, Bool.and_eq_true, decide_eq_true_eq] at h1
   exact ⟨h1.1, fun x hx => by simpa using List.all_eq_true.1 h1.2 x hx⟩
  refine ⟨inf :: infs, by simp [h4], fun k o' i hk hi => ?_, h6, fun k i hi => by
   cases k with
   | zero =>
    cases hi
    exact h0
   | succ k => exact h7 k i (by simpa using hi)⟩
  cases k with
  | zero =>
   cases hk
   cases hi
   exact ⟨h2, fun t ht => ⟨(hoff t ht).1, (hoff t ht).2, fun j _ _ _ hj => by omega⟩, h1'⟩
  | succ k =>
   obtain ⟨g1, g2, g3⟩ := h5 k o' i (by simpa using hk) (by simpa using hi)
   refine ⟨g1, fun t ht => ⟨(g2 t ht).1, fun x hx => (g2 t ht).2.1 x ?_, fun j oj T d hj hoj hij => ?_⟩, g3⟩
   ·
    unfold nextE
    split
    ·
     split
     · exact List.mem_append_left _ hx
     · exact hx
    · exact hx
   ·
    cases j with
    | zero =>
     cases hoj
     cases hij
     intro e
     exact (g2 t ht).2.1 (t, T, d) (by unfold nextE; rw [e]; simp) rfl
    | succ j => exact (g2 t ht).2.2 j oj T d (by omega) (by simpa using hoj) (by simpa using hij)
theorem stAt_objs : ∀ (l : List Oper) (infs : List Inf) (k : Nat) (S : St), (stAt S l infs k).objs = S.objs ∧ (stAt S l infs k).facts = S.facts
 | _, _, 0, S => by simp [stAt]
 | [], infs, k + 1, S => by simp [stAt]
 | o :: l, [], k + 1, S => by simp [stAt]
 | o :: l, i :: infs, k + 1, S => by
  rw [stAt]
  have := stAt_objs l infs k (S.put o.dst i.reg)
  rw [this.1, this.2]
  unfold St.put
  split <;> simp
theorem stAt_look : ∀ (l : List Oper) (infs : List Inf) (k : Nat) (S : St) (t : Tmp), infs.length = l.length → k ≤ l.length →
  (∀ j oj i, j < k → l[j]? = some oj → infs[j]? = some i → oj.dst = some t → (∀ m om, j < m → m < k → l[m]? = some om → om.dst ≠ some t) → look (stAt S l infs k).regs t = some i.reg) ∧
  ((∀ j oj, j < k → l[j]? = some oj → oj.dst ≠ some t) → look (stAt S l infs k).regs t = look S.regs t)
 | _, _, 0, S, t, _, _ => ⟨(fun j _ _ h => by omega), fun _ => by simp [stAt]⟩
 | [], infs, k + 1, S, t, _, h => by simp at h
 | o :: l, [], k + 1, S, t, h, _ => by simp at h
 | o :: l, i :: infs, k + 1, S, t, hl, hk => by
  rw [stAt]
  have ih := stAt_look l infs k (S.put o.dst i.reg) t (by simpa using hl) (by simpa using hk)
  refine ⟨fun j oj i' hj hoj hi hd hlast => ?_, fun hno => ?_⟩
  ·
   cases j with
   | zero =>
    cases hoj
    cases hi
    rw [ih.2 fun m om hm hom => hlast (m + 1) om (by omega) (by omega) (by simpa using hom), hd]
    simp [St.put, look]
   | succ j => exact ih.1 j oj i' (by omega) (by simpa using hoj) (by simpa using hi) hd fun m om h1 h2 hom => hlast (m + 1) om (by omega) (by omega) (by simpa using hom)
  ·
   rw [ih.2 fun m om hm hom => hno (m + 1) om (by omega) (by simpa using hom)]
   have := hno 0 o (by omega) rfl
   cases hd : o.dst with
   | none => rfl
   | some d =>
    simp only [St.put, look]
    rw [if_neg (fun e => this (by rw [hd, e]))]
/-! ### What holds of a set of operations -/
structure GG (X : Cx N) (S : St) (infs : List Inf) (ws : World) (F : Nat → Nat → Prop) (L : Nat → Prop) (vs : Nat → Value) (u : World) : Prop where
 gr : Gr ws u
 lo : ∀ j, L j → ∀ b, F j b → ws.heap.size ≤ b ∧ b < u.heap.size
 dis : ∀ i j b, L i → L j → i ≠ j → F i b → ¬ F j b
 val : ∀ j i, L j → infs[j]? = some i → (match i with
  | .new T d => ∃ g cs, vs j = .pointer (some ⟨g, 0, none⟩) ∧ (∀ b, F j b ↔ b = g) ∧ u.heap[g]? = some (.cells cs.toArray T (0, 0)) ∧ Reads (fun b => X.ok S.objs ws b ∨ ∃ i, L i ∧ (∀ T d, infs[i]? ≠ some (.new T d)) ∧ F i b) u d cs
  | i => ReadR (fun b => X.ok S.objs ws b ∨ ∃ i, L i ∧ (∀ T d, infs[i]? ≠ some (.new T d)) ∧ F i b) u i.reg (vs j))
abbrev zone (X : Cx N) (S : St) (infs : List Inf) (ws : World) (F : Nat → Nat → Prop) (L : Nat → Prop) (b : Nat) : Prop := X.ok S.objs ws b ∨ ∃ i, L i ∧ (∀ T d, infs[i]? ≠ some (.new T d)) ∧ F i b
theorem GG.lt {infs : List Inf} {ws : World} {F : Nat → Nat → Prop} {L : Nat → Prop} {vs : Nat → Value} {u : World} (h : GG X S infs ws F L vs u) {b : Nat} (hb : zone X S infs ws F L b) : b < u.heap.size := by
 rcases hb with hb | ⟨i, h1, _, h2⟩
 · exact Nat.lt_of_lt_of_le hb.2.1 h.gr.size
 · exact (h.lo i h1 b h2).2
theorem GG.step {infs : List Inf} {ws : World} {F : Nat → Nat → Prop} {L : Nat → Prop} {vs : Nat → Value} {u u' : World} (h : GG X S infs ws F L vs u) {k : Nat} (hk : ¬ L k) (hg : Gr u u') (v : Value) (f : Nat → Prop) (hf : ∀ b, f b → u.heap.size ≤ b ∧ b < u'.heap.size)
  (hv : ∀ i, infs[k]? = some i → (∀ b, zone X S infs ws F L b → zone X S infs ws (fun j => if j = k then f else F j) (fun j => j = k ∨ L j) b) → (match i with
   | .new T d => ∃ g cs, v = .pointer (some ⟨g, 0, none⟩) ∧ (∀ b, f b ↔ b = g) ∧ u'.heap[g]? = some (.cells cs.toArray T (0, 0)) ∧ Reads (zone X S infs ws (fun j => if j = k then f else F j) (fun j => j = k ∨ L j)) u' d cs
   | i => ReadR (zone X S infs ws (fun j => if j = k then f else F j) (fun j => j = k ∨ L j)) u' i.reg v)) :
  GG X S infs ws (fun j => if j = k then f else F j) (fun j => j = k ∨ L j) (fun j => if j = k then v else vs j) u' := by
 have hF : ∀ j, L j → (if j = k then f else F j) = F j := fun j hj => if_neg fun e => hk (by rw [← e]; exact hj)
 have hz : ∀ b, zone X S infs ws F L b → zone X S infs ws (fun j => if j = k then f else F j) (fun j => j = k ∨ L j) b := fun b hb => by
  rcases hb with hb | ⟨i, h1, h2, h3⟩
  · exact .inl hb
  · exact .inr ⟨i, .inr h1, h2, by show (if i = k then f else F i) b; rw [hF i h1]; exact h3⟩
 have hc : ∀ p : Addr, zone X S infs ws F L p.block → u'.cell? p = u.cell? p := fun p hp => hg.cell (h.lt hp)
 refine ⟨h.gr.trans hg, fun j hj b hb => ?_, fun i j b hi hj hij hb => ?_, fun j i hj hi => ?_⟩
 ·
  by_cases e : j = k
  ·
   rw [if_pos e] at hb
   exact ⟨Nat.le_trans h.gr.size (hf b hb).1, (hf b hb).2⟩
  ·
   rw [if_neg e] at hb
   have := h.lo j (hj.resolve_left e) b hb
   exact ⟨this.1, Nat.lt_of_lt_of_le this.2 hg.size⟩
 ·
  by_cases e1 : i = k
  ·
   by_cases e2 : j = k
   · exact absurd (e1.trans e2.symm) hij
   ·
    rw [if_pos e1] at hb
    rw [if_neg e2]
    intro hb2
    have := (h.lo j (hj.resolve_left e2) b hb2).2
    have := (hf b hb).1
    omega
  ·
   rw [if_neg e1] at hb
   by_cases e2 : j = k
   ·
    rw [if_pos e2]
    intro hb2
    have := (h.lo i (hi.resolve_left e1) b hb).2
    have := (hf b hb2).1
    omega
   ·
    rw [if_neg e2]
    exact h.dis i j b (hi.resolve_left e1) (hj.resolve_left e2) hij hb
 ·
  by_cases e : j = k
  ·
   subst e
   simp only [if_true]
   exact hv i hi hz
  ·
   have hj' := hj.resolve_left e
   have h0 := h.val j i hj' hi
   simp only [if_neg e]
   cases i with
   | new T d =>
    obtain ⟨g, cs, g1, g2, g3, g4⟩ := h0
    exact ⟨g, cs, g1, g2, (hg.block g (lt_of_some g3)).trans g3, Reads.mono hz hc _ _ g4⟩
   | still r => exact ReadR.mono hz hc h0
   | grow r => exact ReadR.mono hz hc h0
   | skip => exact ReadR.mono hz hc h0
   | put p q => trivial
theorem growsTo_mono {V V' : VP} (h : ∀ v w', Gr w w' → V v w' → V' v w') {r : Result Next} (hr : growsTo Try.prog V w r) : growsTo Try.prog V' w r := by
 cases r with
 | ok x w' =>
  cases x <;> simp only [growsTo] at hr ⊢
  case value v => exact ⟨hr.1, h _ _ hr.1 hr.2⟩
  case skip => exact ⟨hr.1, h _ _ hr.1 hr.2⟩
  case enter f args => exact ⟨hr.1, hr.2.mono fun e w'' ⟨v, h1, h2, h3⟩ => ⟨v, h1, h2, h v w'' (hr.1.trans h2) h3⟩⟩
 | halt x w' => simp only [growsTo] at hr
/-! ### The end of the head -/
def extS (S : St) : List (Fr × Nat) → St
 | [] => S
 | ((t, T, d), g) :: E => extS ⟨(t, .val (.v (.pointer (some ⟨g, 0, none⟩)))) :: S.regs, .var g T d :: S.objs, S.facts⟩ E
def openF (k : St → Prop) : List Fr → St → Prop
 | [], S => k S
 | (t, T, d) :: E, S => ∀ g, openF k E ⟨(t, .val (.v (.pointer (some ⟨g, 0, none⟩)))) :: S.regs, .var g T d :: S.objs, S.facts⟩
theorem openF_ext {k : St → Prop} : ∀ (E : List (Fr × Nat)) (S : St), openF k (E.map (·.1)) S → k (extS S E)
 | [], S, h => h
 | ((t, T, d), g) :: E, S, h => openF_ext E _ (h g)
structure Good (X : Cx N) (z : Nat → Prop) (S : St) (b : Act) (u : World) : Prop where
 at_ : ∀ o ∈ S.objs, o.At X.mine z u
 apart : S.objs.Pairwise fun o p => ∀ b, o.blk = some b → p.blk ≠ some b
 off : ∀ o ∈ S.objs, ∀ b, z b → o.blk ≠ some b
 fact : ∀ f ∈ S.facts, Reads z u f.2 [f.1]
 regs : ∀ t r, look S.regs t = some r → ReadR z u r (b.tmps.getD t undef)
theorem Good.ext {z : Nat → Prop} {b : Act} {u : World} : ∀ (E : List (Fr × Nat)) (S : St), Good X z S b u → (∀ e ∈ E, X.mine e.2 ∧ ¬ z e.2 ∧ b.tmps.getD e.1.1 undef = .pointer (some ⟨e.2, 0, none⟩) ∧ ∃ cs, u.heap[e.2]? = some (.cells cs.toArray e.1.2.1 (0, 0)) ∧ Reads z u e.1.2.2 cs) →
  (E.map (·.2)).Nodup → (∀ e ∈ E, ∀ o ∈ S.objs, o.blk ≠ some e.2) → Good X z (extS S E) b u
 | [], S, h, _, _, _ => h
 | ((t, T, d), g) :: E, S, h, hE, hn, ho => by
  rw [extS]
  obtain ⟨h1, h2, h3, cs, h4, h5⟩ := hE ((t, T, d), g) (by simp)
  simp only [List.map_cons, List.nodup_cons] at hn
  refine Good.ext E _ ⟨fun o hm => ?_, List.pairwise_cons.2 ⟨fun o hm b e => ?_, h.apart⟩, fun o hm b hb => ?_, h.fact, fun t' r hr => ?_⟩ (fun e he => hE e (by simp [he])) hn.2 fun e he o hm => ?_
  ·
   rcases List.mem_cons.1 hm with rfl | hm
   · exact ⟨h1, cs, h4, h5⟩
   · exact h.at_ o hm
  ·
   cases e
   exact ho ((t, T, d), g) (by simp) o hm
  ·
   rcases List.mem_cons.1 hm with rfl | hm
   ·
    intro e
    cases e
    exact h2 hb
   · exact h.off o hm b hb
  ·
   simp only [look] at hr
   split at hr
   ·
    rename_i e
    cases hr
    subst e
    exact readV_v.2 ⟨rfl, h3⟩
   · exact h.regs t' r hr
  ·
   rcases List.mem_cons.1 hm with rfl | hm
   ·
    intro e'
    simp only [Obj.blk, Option.some.injEq] at e'
    exact hn.1 (List.mem_map.2 ⟨e, he, e'.symm⟩)
   · exact ho e (by simp [he]) o hm
theorem Good.at {z : Nat → Prop} {b : Act} {u : World} (h : Good X z S b u) (hg : GrE X.own0 X.w0 u) (hz : ∀ b, z b → (X.ok0 b ∨ X.mine b) ∧ b < u.heap.size) (hs : b.tmps.size = N) (hd : b.defers = []) : At X S b u := by
 have hok : ∀ b, z b → X.ok S.objs u b := fun b hb => ⟨(hz b hb).1, (hz b hb).2, fun o ho => h.off o ho b hb⟩
 refine ⟨⟨hg, h.apart, fun o ho => ?_, fun f hf => Reads.mono hok (fun _ _ => rfl) _ _ (h.fact f hf)⟩, fun t r hr => (h.regs t r hr).mono hok fun _ _ => rfl, hs, hd⟩
 exact (h.at_ o ho).move hok (fun _ _ => rfl) fun _ _ => rfl
def frOf (k : Nat) (d : Option Tmp) : Inf → List (Fr × Nat)
 | .new T x => match d with
  | some t => [((t, T, x), k)]
  | none => []
 | _ => []
theorem frOf_map (k : Nat) (E : List Fr) (d : Option Tmp) (i : Inf) : nextE E d i = E ++ (frOf k d i).map (·.1) := by
 cases i <;> cases d <;> simp [nextE, frOf]
theorem frOf_mem {k : Nat} {d : Option Tmp} {i : Inf} {e : Fr × Nat} (h : e ∈ frOf k d i) : e.2 = k ∧ d = some e.1.1 ∧ i = .new e.1.2.1 e.1.2.2 := by
 cases i <;> cases d <;> simp [frOf] at h
 subst h
 exact ⟨rfl, rfl, rfl⟩
theorem frOf_nodup (k : Nat) (d : Option Tmp) (i : Inf) : ((frOf k d i).map (·.2)).Nodup := by
 cases i <;> cases d <;> simp [frOf]
def frIx : Nat → List Oper → List Inf → List (Fr × Nat)
 | k, o :: l, i :: infs => frOf k o.dst i ++ frIx (k + 1) l infs
 | _, [], _ => []
 | _, _ :: _, [] => []
theorem frIx_map : ∀ (l : List Oper) (infs : List Inf) (k : Nat) (E : List Fr), frAt E l infs = E ++ (frIx k l infs).map (·.1)
 | [], infs, k, E => by cases infs <;> simp [frAt, frIx]
 | o :: l, [], k, E => by simp [frAt, frIx]
 | o :: l, i :: infs, k, E => by
  rw [frAt, frIx, frIx_map l infs (k + 1), frOf_map k, List.map_append, List.append_assoc]
theorem frIx_mem : ∀ (l : List Oper) (infs : List Inf) (k : Nat) (e : Fr × Nat), e ∈ frIx k l infs → ∃ j o, e.2 = k + j ∧ l[j]? = some o ∧ o.dst = some e.1.1 ∧ infs[j]? = some (.new e.1.2.1 e.1.2.2)
 | [], infs, k, e, h => by cases infs <;> simp [frIx] at h
 | o :: l, [], k, e, h => by simp [frIx] at h
 | o :: l, i :: infs, k, e, h => by
  rw [frIx] at h
  rcases List.mem_append.1 h with h | h
  ·
   obtain ⟨h1, h2, h3⟩ := frOf_mem h
   exact ⟨0, o, h1, rfl, h2, by rw [h3]; rfl⟩
  ·
   obtain ⟨j, o', h1, h2, h3, h4⟩ := frIx_mem l infs (k + 1) e h
   exact ⟨j + 1, o', by omega, by simpa using h2, h3, by simpa using h4⟩
theorem frIx_nodup : ∀ (l : List Oper) (infs : List Inf) (k : Nat), ((frIx k l infs).map (·.2)).Nodup
 | [], infs, k => by cases infs <;> simp [frIx]
 | o :: l, [], k => by simp [frIx]
 | o :: l, i :: infs, k => by
  rw [frIx, List.map_append]
  refine List.nodup_append.2 ⟨frOf_nodup k o.dst i, frIx_nodup l infs (k + 1), fun x hx y hy e => ?_⟩
  subst e
  obtain ⟨e, he, rfl⟩ := List.mem_map.1 hy
  obtain ⟨j, o', h1, _⟩ := frIx_mem l infs (k + 1) e he
  obtain ⟨e', he', h2⟩ := List.mem_map.1 hx
  have := (frOf_mem he').1
  omega
set_option maxHeartbeats 1000000 in
theorem EC.draw {id : Nat} (n : Nat) (hB : monoB l.toArray n N = true) (h : EM N l.toArray (fun S' E => openF (EL X l.toArray Q (l.drop n)) E S') (l.take n) S []) : EC X Q (.region id l.toArray true) S := by
 constructor
 intro a ws ha
 obtain ⟨infs, hlen, hok, hT, hnp⟩ := em_list _ _ _ h
 have hle : n ≤ l.length := by simpa using (facts_of_monoB hB).le
 have hln : (l.take n).length = n := by simp; omega
 rw [hln] at hlen hT
 have htake : ∀ k, k < n → (l.take n)[k]? = l[k]? := fun k hk => by rw [List.getElem?_take, if_pos hk]
 have hdst : ∀ k o, l[k]? = some o → dstOf l.toArray k = o.dst := fun k o ho => by unfold dstOf; simp [ho]
 have hks := ha.kn fun _ => True
 refine wp_region_set n (by kernel_rfl) (by rw [ha.size]; exact hB) (fun L vs u => ∃ F, GG X S infs ws F L vs u) ?_ ?_ ?_ ?_
 ·
  rintro L L' vs vs' w hL hvs ⟨F, hG⟩
  obtain rfl : L = L' := funext fun j => propext (hL j)
  refine ⟨F, hG.gr, hG.lo, hG.dis, fun j i hj hi => ?_⟩
  rw [← hvs j hj]
  exact hG.val j i hj hi
 · exact ⟨fun _ _ => False, ⟨⟨rfl, rfl, rfl, Nat.le_refl _, fun _ _ => rfl⟩, fun _ h => h.elim, fun _ _ _ h => h.elim, fun _ _ h => h.elim⟩⟩
 ·
  intro k o L vs b u hk ho hL hLk ⟨F, hG⟩ hslot
  obtain ⟨i, hi⟩ : ∃ i, infs[k]? = some i := ⟨infs[k], by simp [hlen, hk]⟩
  obtain ⟨hO, hof, _⟩ := hok k o i (by rw [htake k hk]; exact ho) hi
  have hc : ∀ p : Addr, X.ok S.objs ws p.block → u.cell? p = ws.cell? p := fun p hp => hG.gr.cell hp.2.1
  have hkn : Kn X.mine (zone X S infs ws F L) (fun t => t ∈ o.looksAt l.toArray) (stAt S (l.take n) infs k) b u := by
   refine ⟨fun p hp => ?_, fun f hf => ?_, fun b hb => hG.lt hb, fun t r ht hr => ?_⟩
   ·
    rw [(stAt_objs _ _ _ _).1] at hp
    have hat := hks.objs p hp
    exact hat.move (fun _ => .inl) hc fun g hb => hG.gr.block g (Obj.blk_lt hat hb).2
   ·
    rw [(stAt_objs _ _ _ _).2] at hf
    exact Reads.mono (fun _ => .inl) hc _ _ (hks.facts f hf)
   ·
    have hlk := stAt_look (l.take n) infs k S t (by rw [hlen, hln]) (by omega)
    rcases hslot t ht with ⟨j, h1, h2, h3, h4, h5⟩ | ⟨h1, h2⟩
    ·
     have hjl : j < l.length := by omega
     have hoj : l[j]? = some l[j] := by simp
     have hij : infs[j]? = some infs[j] := by simp
     rw [hlk.1 j l[j] infs[j] h1 (by rw [htake j (by omega)]; exact hoj) hij (by rw [← hdst j _ hoj]; exact h2) fun m om h6 h7 hom => by
      rw [htake m (by omega)] at hom
      rw [← hdst m _ hom]
      exact h3 m h6 h7] at hr
     cases hr
     rw [h5]
     have := hG.val j _ h4 hij
     cases hinf : infs[j] with
     | new T d => trivial
     | still r => rw [hinf] at this; exact this
     | grow r => rw [hinf] at this; exact this
     | skip => rw [hinf] at this; exact this
     | put p q => trivial
    ·
     rw [hlk.2 fun j oj hj hoj => by
      rw [htake j (by omega)] at hoj
      rw [← hdst j _ hoj]
      exact h1 j hj] at hr
     rw [h2]
     exact (ha.regs t r hr).mono (fun _ => .inl) hc
  have hstep : ∀ v u', Gr u u' → ∀ f : Nat → Prop, (∀ b, f b → u.heap.size ≤ b ∧ b < u'.heap.size) → ((∀ b, zone X S infs ws F L b → zone X S infs ws (fun j => if j = k then f else F j) (fun j => j = k ∨ L j) b) → (match i with
   | .new T d => ∃ g cs, v = .pointer (some ⟨g, 0, none⟩) ∧ (∀ b, f b ↔ b = g) ∧ u'.heap[g]? = some (.cells cs.toArray T (0, 0)) ∧ Reads (zone X S infs ws (fun j => if j = k then f else F j) (fun j => j = k ∨ L j)) u' d cs
   | i => ReadR (zone X S infs ws (fun j => if j = k then f else F j) (fun j => j = k ∨ L j)) u' i.reg v)) → ∃ F, GG X S infs ws F (fun j => j = k ∨ L j) (fun j => if j = k then v else vs j) u' := fun v u' hg f hf hv =>
   ⟨_, hG.step hLk hg v f hf fun i' hi' hz => by
    obtain rfl : i' = i := Option.some.inj (hi'.symm.trans hi)
    exact hv hz⟩
  cases i with
  | still r =>
   obtain ⟨hg, hS⟩ := hO
   refine ⟨fun _ => ?_, fun hw => by rw [wanted_kn hkn hg] at hw; cases hw⟩
   obtain ⟨v, h1, h2⟩ := hS _ _ b u hkn
   rw [h1]
   exact (hstep v u (Gr.refl u) (fun _ => False) (fun _ h => h.elim) fun hz => ReadR.mono hz (fun _ _ => rfl) h2)
  | grow r =>
   obtain ⟨hg, hS⟩ := hO
   refine ⟨fun _ => setsTo_of_grows (hS _ _ b u hkn) (fun v w' hgr hv => ?_), fun hw => by rw [wanted_kn hkn hg] at hw; cases hw⟩
   obtain ⟨r', rfl, hv⟩ := hv
   refine hstep v w' hgr (fun b => u.heap.size ≤ b ∧ b < w'.heap.size) (fun _ h => h) fun hz => ReadR.mono (fun b hb => ?_) (fun _ _ => rfl) hv
   rcases hb.1 with h1 | h1
   · exact hz b h1
   · exact .inr ⟨k, .inl rfl, (fun T d e => by rw [hi] at e; cases e), by show (if k = k then _ else F k) b; rw [if_pos rfl]; exact ⟨h1, hb.2⟩⟩
  | put p q => cases hnp k _ hi
  | skip =>
   refine ⟨fun hw => (by rw [wanted_kn hkn hO] at hw; cases hw), fun _ => ?_⟩
   exact hstep undef u (Gr.refl u) (fun _ => False) (fun _ h => h.elim) fun _ => ⟨[], rfl, rfl⟩
  | new T d =>
   obtain ⟨hg, hS⟩ := hO
   refine ⟨fun _ => ?_, fun hw => by rw [wanted_kn hkn hg] at hw; cases hw⟩
   obtain ⟨cs, h1, h2⟩ := hS _ _ b u hkn
   rw [h1]
   have hgr := gr_alloc u (.cells cs.toArray T)
   exact hstep _ _ hgr (fun b => b = u.heap.size) (fun b e => by subst e; simp) fun hz => ⟨u.heap.size, cs, rfl, fun b => Iff.rfl, heap_alloc_new u _, Reads.mono hz (fun p hp => hgr.cell (hG.lt hp)) _ _ h2⟩
 ·
  intro vs u b ⟨F, hG⟩ hs hd hslot
  have hc : ∀ p : Addr, X.ok S.objs ws p.block → u.cell? p = ws.cell? p := fun p hp => hG.gr.cell hp.2.1
  have hsz := ha.mem.gr.size
  have hgood : Good X (zone X S infs ws F fun j => j < n) (stAt S (l.take n) infs n) b u := by
   refine ⟨fun p hp => ?_, by rw [(stAt_objs _ _ _ _).1]; exact ha.mem.apart, fun p hp b hb e => ?_, fun f hf => ?_, fun t r hr => ?_⟩
   ·
    rw [(stAt_objs _ _ _ _).1] at hp
    have hat := hks.objs p hp
    exact hat.move (fun _ => .inl) hc fun g hb => hG.gr.block g (Obj.blk_lt hat hb).2
   ·
    rw [(stAt_objs _ _ _ _).1] at hp
    rcases hb with hb | ⟨i, h1, _, h2⟩
    · exact hb.2.2 p hp e
    ·
     have := (Obj.blk_lt (ha.mem.at_ p hp) e).2
     have := (hG.lo i h1 b h2).1
     omega
   ·
    rw [(stAt_objs _ _ _ _).2] at hf
    exact Reads.mono (fun _ => .inl) hc _ _ (hks.facts f hf)
   ·
    have hlk := stAt_look (l.take n) infs n S t (by rw [hlen, hln]) (by omega)
    rcases hslot t with ⟨j, h1, h2, h3, h4, h5⟩ | ⟨h1, h2⟩
    ·
     have hjl : j < l.length := by omega
     have hoj : l[j]? = some l[j] := by simp
     have hij : infs[j]? = some infs[j] := by simp
     rw [hlk.1 j l[j] infs[j] h1 (by rw [htake j (by omega)]; exact hoj) hij (by rw [← hdst j _ hoj]; exact h2) fun m om h6 h7 hom => by
      rw [htake m (by omega)] at hom
      rw [← hdst m _ hom]
      exact h3 m h6 h7] at hr
     cases hr
     rw [h5]
     have := hG.val j _ h4 hij
     cases hinf : infs[j] with
     | new T d => trivial
     | still r => rw [hinf] at this; exact this
     | grow r => rw [hinf] at this; exact this
     | skip => rw [hinf] at this; exact this
     | put p q => trivial
    ·
     rw [hlk.2 fun j oj hj hoj => by
      rw [htake j (by omega)] at hoj
      rw [← hdst j _ hoj]
      exact h1 j hj] at hr
     rw [h2]
     exact (ha.regs t r hr).mono (fun _ => .inl) hc
  let gOf : Nat → Nat := fun j => match vs j with
   | .pointer (some p) => p.block
   | _ => 0
  have hfr : ∀ j T d, infs[j]? = some (.new T d) → ∃ cs, vs j = .pointer (some ⟨gOf j, 0, none⟩) ∧ (∀ b, F j b ↔ b = gOf j) ∧ u.heap[gOf j]? = some (.cells cs.toArray T (0, 0)) ∧ Reads (zone X S infs ws F fun j => j < n) u d cs := fun j T d hj => by
   have hjn : j < n := by
    have := (List.getElem?_eq_some_iff.1 hj).1
    omega
   obtain ⟨g, cs, g1, g2, g3, g4⟩ := hG.val j _ hjn hj
   have hg : gOf j = g := by simp only [gOf, g1]
   rw [hg]
   exact ⟨cs, g1, g2, g3, g4⟩
  have hE := frIx_map (l.take n) infs 0 []
  rw [List.nil_append] at hE
  rw [hE] at hT
  have hmm : (frIx 0 (l.take n) infs).map (·.1) = ((frIx 0 (l.take n) infs).map fun e => (e.1, gOf e.2)).map (·.1) := by simp [List.map_map, Function.comp_def]
  rw [hmm] at hT
  have hEL := openF_ext _ _ hT
  refine hEL.go b u ((Good.ext _ _ hgood (fun e he => ?_) ?_ fun e he o ho => ?_).at (ha.mem.gr.trans (.of hG.gr)) (fun b hb => ?_) (hs.trans ha.size) (hd.trans ha.defers))
  ·
   obtain ⟨e0, he0, rfl⟩ := List.mem_map.1 he
   obtain ⟨j, o, h1, h2, h3, h4⟩ := frIx_mem _ _ _ _ he0
   rw [Nat.zero_add] at h1
   have hjn : j < n := by
    have := (List.getElem?_eq_some_iff.1 h4).1
    omega
   obtain ⟨cs, g1, g2, g3, g4⟩ := hfr j _ _ h4
   rw [htake j hjn] at h2
   dsimp only
   rw [h1]
   refine ⟨.inr (Nat.le_trans hsz (hG.lo j hjn _ ((g2 _).2 rfl)).1), fun hz => ?_, ?_, cs, g3, g4⟩
   ·
    rcases hz with hz | ⟨i, k1, k2, k3⟩
    ·
     have := (hG.lo j hjn _ ((g2 _).2 rfl)).1
     have := hz.2.1
     omega
    ·
     by_cases e : i = j
     ·
      subst e
      exact k2 _ _ h4
     · exact hG.dis i j _ k1 hjn e k3 ((g2 _).2 rfl)
   ·
    rcases hslot e0.1.1 with ⟨j', k1, k2, k3, k4, k5⟩ | ⟨k1, k2⟩
    ·
     have hjj : j' = j := by
      rcases Nat.lt_trichotomy j' j with h | h | h
      · exact absurd ((hdst j o h2).trans h3) (k3 j h hjn)
      · exact h
      ·
       exfalso
       have hoj' : l[j']? = some l[j'] := by simp
       have hij' : infs[j']? = some infs[j'] := by simp
       exact ((hok j' l[j'] infs[j'] (by rw [htake j' k1]; exact hoj') hij').2.1 e0.1.1 (by rw [← hdst j' _ hoj']; exact k2)).2.2 j o _ _ h (by rw [htake j hjn]; exact h2) h4 h3
     subst hjj
     rw [k5]
     exact g1
    · exact absurd ((hdst j o h2).trans h3) (k1 j hjn)
  ·
   have hnd := frIx_nodup (l.take n) infs 0
   rw [List.map_map]
   have : ((fun e : Fr × Nat => e.2) ∘ fun e : Fr × Nat => (e.1, gOf e.2)) = gOf ∘ fun e => e.2 := rfl
   rw [show ((fun x : Fr × Nat => x.2) ∘ fun e : Fr × Nat => (e.1, gOf e.2)) = gOf ∘ (fun e => e.2) from rfl, ← List.map_map]
   have hinj : ∀ x ∈ (frIx 0 (l.take n) infs).map (·.2), ∀ y ∈ (frIx 0 (l.take n) infs).map (·.2), gOf x = gOf y → x = y := by
    intro x hx y hy e
    obtain ⟨ex, hex, rfl⟩ := List.mem_map.1 hx
    obtain ⟨ey, hey, rfl⟩ := List.mem_map.1 hy
    obtain ⟨jx, ox, a1, a2, a3, a4⟩ := frIx_mem _ _ _ _ hex
    obtain ⟨jy, oy, b1, b2, b3, b4⟩ := frIx_mem _ _ _ _ hey
    rw [Nat.zero_add] at a1 b1
    rw [a1, b1] at e ⊢
    obtain ⟨_, c1, c2, _⟩ := hfr jx _ _ a4
    obtain ⟨_, d1, d2, _⟩ := hfr jy _ _ b4
    by_cases hne : jx = jy
    · exact hne
    ·
     exfalso
     have hx' : jx < n := by have := (List.getElem?_eq_some_iff.1 a4).1; omega
     have hy' : jy < n := by have := (List.getElem?_eq_some_iff.1 b4).1; omega
     exact hG.dis jx jy (gOf jx) hx' hy' hne ((c2 _).2 rfl) ((d2 _).2 e)
   clear hT hEL hmm hE
   revert hnd hinj
   generalize (frIx 0 (l.take n) infs).map (·.2) = m
   intro hnd hinj
   induction m with
   | nil => simp
   | cons x m ih =>
    simp only [List.map_cons, List.nodup_cons] at hnd ⊢
    refine ⟨fun hm => ?_, ih hnd.2 fun p hp q hq => hinj p (by simp [hp]) q (by simp [hq])⟩
    obtain ⟨y, hy, e⟩ := List.mem_map.1 hm
    have := hinj x (by simp) y (by simp [hy]) e.symm
    subst this
    exact hnd.1 hy
  ·
   obtain ⟨e0, he0, rfl⟩ := List.mem_map.1 he
   obtain ⟨j, o', h1, h2, h3, h4⟩ := frIx_mem _ _ _ _ he0
   rw [Nat.zero_add] at h1
   have hjn : j < n := by
    have := (List.getElem?_eq_some_iff.1 h4).1
    omega
   obtain ⟨cs, g1, g2, g3, g4⟩ := hfr j _ _ h4
   rw [(stAt_objs _ _ _ _).1] at ho
   dsimp only
   rw [h1]
   intro e
   have := (Obj.blk_lt (ha.mem.at_ o ho) e).2
   have := (hG.lo j hjn _ ((g2 _).2 rfl)).1
   omega
  ·
   refine ⟨?_, hG.lt hb⟩
   rcases hb with hb | ⟨i, k1, _, k3⟩
   · exact hb.1
   · exact .inr (.inr (Nat.le_trans hsz (hG.lo i k1 b k3).1))
end
end E
end Go.Proofs.Ytiledgojbpmoiaa
