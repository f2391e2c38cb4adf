/-
 Merged: lemmas of this claim.
 Conditions: none.
-/
import Derived.Test.YtaoicebcdmpemaaGreatZB3
import Derived.Great.BuildSlice
import Derived.Laws.Tables
import Derived.Test.YtaoicebcdmpemaaGreatZB1
import Derived.Test.YtaoicebcdmpemaaGreatZB0
namespace Go.Proofs.YtaoicebcdmpemaaGreat
set_option linter.unusedVariables false
open Go.RowKit Mono Rlp
namespace E
section
variable {N : Nat} {X : Cx N} {S S' : St} {a : Act} {w w' : World} {ops : Array Oper} {o : Oper} {Q : Exit → Act → World → Prop} {l : List Oper} {L : Tmp → Prop} {objs : List Obj} {facts : List (Value × D)}
theorem lD {i : Nat} {p q : Obj} (h : p ∈ objs.set i q) : p = q ∨ ∃ j, j ≠ i ∧ objs[j]? = some p := by
 obtain ⟨j, hj⟩ := List.getElem?_of_mem h
 rw [List.getElem?_set] at hj
 split at hj
 ·
  split at hj
  · cases hj; exact .inl rfl
  · cases hj
 ·
  rename_i hne
  exact .inr ⟨j, fun e => hne e.symm, hj⟩
theorem qO (h : objs.Pairwise fun o p => ∀ b, o.blk = some b → p.blk ≠ some b) {i j : Nat} {p q : Obj} (hi : objs[i]? = some p) (hj : objs[j]? = some q) (hne : j ≠ i) {b : Nat} (hb : p.blk = some b) : q.blk ≠ some b := by
 have hp := Nh.1 h
 obtain ⟨hi', hpi⟩ := Kw.1 hi
 obtain ⟨hj', hqj⟩ := Kw.1 hj
 rcases Nat.lt_or_gt_of_ne hne with h1 | h1
 ·
  intro e
  have := hp j i hj' hi' h1 b (by rw [hqj]; exact e)
  rw [hpi] at this
  exact this hb
 ·
  have := hp i j hi' hj' h1 b (by rw [hpi]; exact hb)
  rwa [hqj] at this
theorem zX (h : objs.Pairwise fun o p => ∀ b, o.blk = some b → p.blk ≠ some b) {i : Nat} {q : Obj} (hq : ∀ j p, j ≠ i → objs[j]? = some p → ∀ b, q.blk = some b → p.blk ≠ some b) : (objs.set i q).Pairwise fun o p => ∀ b, o.blk = some b → p.blk ≠ some b := by
 refine Nh.2 fun j k hj hk hjk b => ?_
 rw [Me] at hj hk
 rw [List.getElem_set, List.getElem_set]
 split
 ·
  rename_i e
  rw [if_neg (by omega)]
  exact hq k _ (by omega) (by simp [hk]) b
 ·
  split
  ·
   intro h1 h2
   exact hq j _ (by omega) (by simp [hj]) b h2 h1
  · exact Nh.1 h j k hj hk hjk b
theorem Mem.turn (h : Mem X objs facts w) {i : Nat} {p q : Obj} (hi : objs[i]? = some p) (hg : w.grownBy w' p.blk) (hb : q.blk = p.blk ∨ ∃ b, q.blk = some b ∧ w.heap.size ≤ b) (hq : (∀ b, X.ok objs w b → X.ok (objs.set i q) w' b) → (∀ p : Addr, X.ok objs w p.block → w'.cell? p = w.cell? p) → q.At X.mine (X.ok (objs.set i q) w') w') : Mem X (objs.set i q) facts w' := by
 have h0 := h.gr.size
 have hnew : ∀ j p', j ≠ i → objs[j]? = some p' → ∀ b, q.blk = some b → p'.blk ≠ some b := fun j p' hj hp' b hqb => by
  rcases hb with hb | ⟨b', hb, hle⟩
  · exact qO h.apart hi hp' hj (hb ▸ hqb)
  ·
   rw [hqb] at hb
   cases hb
   intro e
   have := (Obj.bn (h.at_ p' (KE hp')) e).2
   omega
 have hok : ∀ b, X.ok objs w b → X.ok (objs.set i q) w' b := fun b hb' => ⟨hb'.1, KA hb'.2.1 hg.size, fun r hr e => by
  rcases lD hr with rfl | ⟨j, hj, hr⟩
  ·
   rcases hb with hb | ⟨b', hb, hle⟩
   · exact hb'.2.2 p (KE hi) (hb ▸ e)
   ·
    rw [hb] at e
    cases e
    have := hb'.2.1
    omega
  · exact hb'.2.2 r (KE hr) e⟩
 have hcell : ∀ r : Addr, X.ok objs w r.block → w'.cell? r = w.cell? r := fun r hr => World.cell?_of_block (hg.block _ hr.2.1 fun e => hr.2.2 p (KE hi) e.symm)
 refine ⟨h.gr.grown hg (fun b e => (Obj.bn (h.at_ p (KE hi)) e).1), zX h.apart hnew, fun r hr => ?_, fun f hf => Reads.mono hok hcell _ _ (h.fact f hf)⟩
 rcases lD hr with rfl | ⟨j, hj, hr⟩
 · exact hq hok hcell
 ·
  have hat := h.at_ r (KE hr)
  exact hat.move hok hcell fun g hb => hg.block g (Obj.bn hat hb).2 fun e => qO h.apart hi hr hj e.symm hb
theorem At.turn (h : At X S a w) {i : Nat} {p q : Obj} (hi : S.objs[i]? = some p) (hg : w.grownBy w' p.blk) (hb : q.blk = p.blk ∨ ∃ b, q.blk = some b ∧ w.heap.size ≤ b) (hq : (∀ b, X.ok S.objs w b → X.ok (S.objs.set i q) w' b) → (∀ p : Addr, X.ok S.objs w p.block → w'.cell? p = w.cell? p) → q.At X.mine (X.ok (S.objs.set i q) w') w') : At X ⟨S.regs, S.objs.set i q, S.facts⟩ a w' := by
 have hm := h.mem.turn hi hg hb hq
 have hok : ∀ b, X.ok S.objs w b → X.ok (S.objs.set i q) w' b := fun b hb' => ⟨hb'.1, KA hb'.2.1 hg.size, fun r hr e => by
  rcases lD hr with rfl | ⟨j, hj, hr⟩
  ·
   rcases hb with hb | ⟨b', hb, hle⟩
   · exact hb'.2.2 p (KE hi) (hb ▸ e)
   ·
    rw [hb] at e
    cases e
    have := hb'.2.1
    omega
  · exact hb'.2.2 r (KE hr) e⟩
 have hcell : ∀ r : Addr, X.ok S.objs w r.block → w'.cell? r = w.cell? r := fun r hr => World.cell?_of_block (hg.block _ hr.2.1 fun e => hr.2.2 p (KE hi) e.symm)
 exact ⟨hm, fun t r hr => (h.regs t r hr).mono hok hcell, h.size, h.defers⟩
theorem At.new (h : At X S a w) {q : Obj} {cs : Array Value} {t : TypeId} (hb : q.blk = some w.heap.size) (hq : q.At X.mine (X.ok (q :: S.objs) (w.alloc (.cells cs t))) (w.alloc (.cells cs t))) : At X ⟨S.regs, q :: S.objs, S.facts⟩ a (w.alloc (.cells cs t)) := by
 have hg := aH w (.cells cs t)
 have hok : ∀ b, X.ok S.objs w b → X.ok (q :: S.objs) (w.alloc (.cells cs t)) b := fun b hb' => ⟨hb'.1, KA hb'.2.1 hg.size, fun r hr e => by
  rcases Kz.1 hr with rfl | hr
  ·
   rw [hb] at e
   cases e
   exact absurd hb'.2.1 (by omega)
  · exact hb'.2.2 r hr e⟩
 have hcell : ∀ r : Addr, X.ok S.objs w r.block → (w.alloc (.cells cs t)).cell? r = w.cell? r := fun r hr => hg.cell hr.2.1
 refine ⟨⟨h.mem.gr.trans (.of hg), KR.2 ⟨fun r hr b e => ?_, h.mem.apart⟩, fun r hr => ?_, fun f hf => Reads.mono hok hcell _ _ (h.mem.fact f hf)⟩, fun t' r hr => (h.regs t' r hr).mono hok hcell, h.size, h.defers⟩
 ·
  rw [hb] at e
  cases e
  intro e
  have := (Obj.bn (h.mem.at_ r hr) e).2
  omega
 ·
  rcases Kz.1 hr with rfl | hr
  · exact hq
  ·
   have hat := h.mem.at_ r hr
   exact hat.move hok hcell fun g hb => hg.block g (Obj.bn hat hb).2
def Zero (T : TypeId) (d : D) : Prop := ∃ z, (Tryz.prog.info? T).bind (·.zero) = some z ∧ ∀ (ok : Nat → Prop) (w : World), Reads ok w d z.cells.toList
theorem qj {T : TypeId} {z : Value} (h : (Tryz.prog.info? T).bind (·.zero) = some z) (w : World) : (Instr.alloc T true (.tuple #[])).run Tryz.prog w = .ok (.pointer (some ⟨w.heap.size, 0, none⟩)) (w.alloc (.cells z.cells T)) := by
 cases hi : Tryz.prog.info? T with
 | none => rw [hi] at h; cases h
 | some i =>
  rw [hi] at h
  have hz : i.zero = some z := by simpa using h
  simp [Instr.alloc, zeroValue, typeInfo, hi, hz, newVar, newRow]
theorem EL.alloc {T : TypeId} {d : D} (ho : o.op = .alloc T) (hg : guardOf ops S o = some true) (hd : ∀ t, o.dst = some t → t < N) (hz : Zero T d)
  (k : ∀ g, EL X ops Q l (St.put ⟨S.regs, .var g T d :: S.objs, S.facts⟩ o.dst (.val (.v (.pointer (some ⟨g, 0, none⟩)))))) : EL X ops Q (o :: l) S := by
 constructor
 intro a w ha
 obtain ⟨z, hz, hr⟩ := hz
 unfold wpList
 rw [if_pos (bK ha hg)]
 refine .inl ?_
 unfold Oper.wp execOp
 simp only [ho, Kq, qj hz, J6, Ku]
 refine (k w.heap.size).go _ _ ((ha.new (q := .var w.heap.size T d) rfl ⟨.inr ha.mem.gr.size, z.cells.toList, ?_, hr _ _⟩).put hd (dM rfl))
 rw [heap_alloc_new]
theorem EL.box {T : TypeId} {x : Operand} {d : D} (ho : o.op = .box T x) (hg : guardOf ops S o = some true) (hd : ∀ t, o.dst = some t → t < N) (hx : ev S x = some (.val d))
  (k : ∀ g, EL X ops Q l (St.put ⟨S.regs, .var g T d :: S.objs, S.facts⟩ o.dst (.val (.v (.pointer (some ⟨g, 0, none⟩)))))) : EL X ops Q (o :: l) S := by
 constructor
 intro a w ha
 obtain ⟨cs, h1, h2⟩ := (ha.kn fun t => t ∈ o.looksAt ops).ev hx fun t e => ak e (by rw [ho]; simp [Op.operands])
 have hrun : (Instr.box T (a.eval x)).run Tryz.prog w = .ok (.pointer (some ⟨w.heap.size, 0, none⟩)) (w.alloc (.cells cs.toArray T)) := by
  have := fH h1
  simp [Instr.box, newVar, newRow, h2, this]
 unfold wpList
 rw [if_pos (bK ha hg)]
 refine .inl ?_
 unfold Oper.wp execOp
 simp only [ho, Kq, hrun, J6, Ku]
 refine (k w.heap.size).go _ _ ((ha.new (q := .var w.heap.size T d) rfl ⟨.inr ha.mem.gr.size, cs, heap_alloc_new w _, ?_⟩).put hd (dM rfl))
 refine Reads.mono (fun b hb => ⟨hb.1, KA hb.2.1 (aH w _).size, fun r hr e => ?_⟩) (fun p hp => (aH w _).cell hp.2.1) _ _ h1
 rcases Kz.1 hr with rfl | hr
 ·
  cases e
  exact absurd hb.2.1 (by omega)
 · exact hb.2.2 r hr e
theorem tJ {g n : Nat} {cs : Array Value} {t : TypeId} {fr : Nat × Nat} {v : Value} (h : w.heap[g]? = some (.cells cs t fr)) : (w.setCell ⟨g, n, none⟩ v).heap[g]? = some (.cells (cs.setIfInBounds n v) t fr) := by
 simp [World.setCell, Array.getElem?_modify, h]
theorem dN {g : Nat} {t : TypeId} {fr : Nat × Nat} : ∀ (new pre mid post : List Value) (w : World), mid.length = new.length → w.heap[g]? = some (.cells (pre ++ mid ++ post).toArray t fr) → (w.setCells g pre.length new).heap[g]? = some (.cells (pre ++ new ++ post).toArray t fr)
 | [], pre, mid, post, w, hl, h => by
  obtain rfl : mid = [] := List.length_eq_zero_iff.1 hl
  exact h
 | v :: new, pre, m :: mid, post, w, hl, h => by
  rw [World.setCells]
  have h1 := tJ (n := pre.length) (v := v) h
  have h2 : ((pre ++ m :: mid ++ post).toArray.setIfInBounds pre.length v) = ((pre ++ [v]) ++ mid ++ post).toArray := by simp [List.set_append_right]
  rw [h2] at h1
  have := dN new (pre ++ [v]) mid post _ (by simpa using hl) h1
  simpa using this
theorem bU (g : Nat) : ∀ (new : List Value) (n : Nat) (w : World), w.grownBy (w.setCells g n new) (some g)
 | [], n, w => ⟨rfl, rfl, rfl, Nat.le_refl _, fun _ _ _ => rfl⟩
 | v :: new, n, w => by
  rw [World.setCells]
  have h := bU g new (n + 1) (w.setCell ⟨g, n, none⟩ v)
  exact ⟨h.os, h.tape, h.output, by simpa [World.setCell] using h.size, fun k hk hne => (h.block k (by simpa [World.setCell] using hk) hne).trans (Below.heap_setCell _ _ _ _ (fun e => hne (by rw [e])))⟩
theorem iU {T g n : Nat} {t : TypeId} {pre mid post cs : List Value} {ok : Nat → Prop} {d : D} (hT : (Tryz.prog.info? T).map (·.size) = some cs.length) (hr : Reads ok w d cs) (hw : w.heap[g]? = some (.cells (pre ++ mid ++ post).toArray t (0, 0))) (hn : pre.length = n) (hl : mid.length = cs.length) :
  (Instr.storeAt T (.pointer (some ⟨g, n, none⟩)) (form d cs)).run Tryz.prog w = .ok () (w.setCells g n cs) := by
 have hcells := fH hr
 have hc : ∀ j, j < cs.length → (w.cell? ⟨g, n + j, none⟩).isSome = true := fun j hj => by
  rw [cell_of_row w g (n + j) _ t (0, 0) hw]
  simp only [MK, KY]
  rw [Lr (by omega), LC (by omega)]
  simp
  omega
 have hf : ∀ j, j < cs.length → w.frozen? ⟨g, n + j, none⟩ = false := fun j _ => by simp [World.frozen?, hw]
 have := run_storeCells_cells (P := Tryz.prog) g n cs 0 w (fun j hj => by simpa using hc j hj) (fun j hj => by simpa using hf j hj) (fun v hv => Reads.one d cs hr v hv)
 rw [Nat.add_zero] at this
 cases hi : Tryz.prog.info? T with
 | none => rw [hi] at hT; cases hT
 | some i =>
  have hs : i.size = cs.length := by rw [hi] at hT; simpa using hT
  simp [Instr.storeAt, Instr.sureAddr, storeVar, sizeOf, typeInfo, hi, hcells, hs, this]
theorem EL.store {T g n : Nat} {x y : Operand} {t : TypeId} {d d' d'' : D} (i : Nat) (ho : o.op = .store T x y) (hdst : o.dst = none) (hg : guardOf ops S o = some true) (hx : ev S x = some (.val (.v (.pointer (some ⟨g, n, none⟩))))) (hi : S.objs[i]? = some (.var g t d)) (hy : ev S y = some (.val d'))
  (hT : Ty Tryz.prog T d'.size d'.agg) (hu : d.upd n d' = some d'') (k : EL X ops Q l ⟨S.regs, S.objs.set i (.var g t d''), S.facts⟩) : EL X ops Q (o :: l) S := by
 constructor
 intro a w ha
 have hk := ha.kn fun t => t ∈ o.looksAt ops
 have hx' := dh hk hx fun t e => ak e (by rw [ho]; simp [Op.operands])
 obtain ⟨cs', h1, h2⟩ := hk.ev hy fun t e => ak e (by rw [ho]; simp [Op.operands])
 obtain ⟨hge, cs, h3, h4⟩ := ha.mem.var hi
 obtain ⟨e1, e2, pre, mid, post, rfl, h5, h6, h7⟩ := iQ d n d' d'' cs cs' hu h4 h1
 obtain ⟨_, _, _, hT'⟩ := hT
 have hrun := iU (T := T) (by rw [hT', Reads.len _ _ h1]) h1 h3 h5 h6
 unfold wpList
 rw [if_pos (bK ha hg)]
 refine .inl ?_
 unfold Oper.wp execOp
 simp only [ho, hx', h2, Kq, hrun, J6, Ku]
 simp only [Oper.upon_skip, hdst, Act.put]
 refine k.go _ _ (ha.turn (w' := w.setCells g n cs') hi (bU g cs' n w) (.inl rfl) fun hok hcell => ⟨hge, pre ++ cs' ++ post, ?_, Reads.mono hok hcell _ _ h7⟩)
 have := dN cs' pre mid post w h6 h3
 rwa [h5] at this
theorem EL.append {T e z y' : Nat} {s x : Operand} {v : Value} {ds es : List D} (i : Nat) (ho : o.op = .call { callee := .builtin .append, args := #[s, x], argTypes := #[T, T] }) (hg : guardOf ops S o = some true) (hd : ∀ t, o.dst = some t → t < N) (hT : SlT Tryz.prog T e z y')
  (hs : ev S s = some (.val (.v v))) (hi : S.objs[i]? = some (.row v e z ds)) (hx : ev S x = some (.val (.sl z es))) (hlen : (ds.length + es.length) * y' ≤ 140737488355328 ∧ ds.length + es.length ≤ 9223372036854775807)
  (k : ∀ v', EL X ops Q l (St.put ⟨S.regs, S.objs.set i (.row v' e z (ds ++ es)), S.facts⟩ o.dst (.val (.v v')))) : EL X ops Q (o :: l) S := by
 constructor
 intro a w ha
 have hk := ha.kn fun t => t ∈ o.looksAt ops
 have hs' := dh hk hs fun t e => ak e (by rw [ho]; simp [Op.operands, Call.operands])
 obtain ⟨A, c, rows', h1, h2, h3, h4, h5, h6⟩ := ny (hk.ev hx fun t e => ak e (by rw [ho]; simp [Op.operands, Call.operands]))
 obtain ⟨rows, h7, h8⟩ := ha.mem.at_ _ (KE hi)
 obtain ⟨hl1, hl2⟩ := ah.lens es rows' h6
 have hlen' : rows'.flatten.length = es.length * z := by
  have : ∀ rows : List (List Value), (∀ r ∈ rows, r.length = z) → rows.flatten.length = rows.length * z := by
   intro rows
   induction rows with
   | nil => simp
   | cons r rows ih =>
    intro h
    rw [KG, List.length_append, h r (by simp), ih fun r hr => h r (by simp [hr]), KN, LW, Md, Nat.add_comm]
  rw [this rows' hl2, hl1]
 have hrd : Rd w w.heap.size A rows'.flatten := fun hn => by
  obtain ⟨b, n, e, hb, hc⟩ := h5 hn
  exact ⟨b, n, e, hb.2.1, hc⟩
 have hge := ha.mem.gr.size
 obtain ⟨A', c', w', hrun, hown, hgr, hblk⟩ := dZ (P := Tryz.prog) (ty := o.type) (c := c) hT h7.1 hlen' hrd (ah.one es rows' h6) (by simp only [maxLen]; exact hlen.2) hlen.1 (Lm _)
 unfold wpList
 rw [if_pos (bK ha hg)]
 refine .inl ?_
 unfold Oper.wp execOp
 simp only [ho, resolve, invoke, builtin, Kq, Ku, J6, LV, KD, KU, hs', h1, hrun]
 refine (k _).go _ _ ((ha.turn (q := .row (.slice A' (ds.length + es.length) c') e z (ds ++ es)) hi hgr ?_ fun hok hcell => ⟨rows ++ rows', ?_, ah.append ds es rows rows' (ah.mono hok hcell z ds rows h8) (ah.mono hok hcell z es rows' h6)⟩).put hd (dM rfl))
 ·
  rcases hblk with hb | hb
  · exact .inl hb
  · exact .inr ⟨_, hb, Nat.le_refl _⟩
 ·
  rw [List.flatten_append, List.length_append]
  refine ⟨hown, fun b hb => ?_⟩
  rcases hblk with e | e
  · exact h7.2 b (e ▸ hb)
  ·
   rw [e] at hb
   cases hb
   exact .inr hge
theorem Le.row (e z : Nat) : Le X S ⟨S.regs, .row (.slice none 0 0) e z [] :: S.objs, S.facts⟩ := fun a w ha => by
 have hok : ∀ b, X.ok S.objs w b → X.ok (.row (.slice none 0 0) e z [] :: S.objs) w b := fun b hb => ⟨hb.1, hb.2.1, fun r hr h => by
  rcases Kz.1 hr with rfl | hr
  · cases h
  · exact hb.2.2 r hr h⟩
 refine ⟨⟨ha.mem.gr, KR.2 ⟨(fun r hr b h => by cases h), ha.mem.apart⟩, fun r hr => ?_, fun f hf => Reads.mono hok (fun _ _ => rfl) _ _ (ha.mem.fact f hf)⟩, fun t r hr => (ha.regs t r hr).mono hok (fun _ _ => rfl), ha.size, ha.defers⟩
 rcases Kz.1 hr with rfl | hr
 · exact ⟨[], ⟨World.ownsRow_nil _ _ _ _, fun b hb => by cases hb⟩, by rw [ah]⟩
 · exact (ha.mem.at_ r hr).move hok (fun _ _ => rfl) fun _ _ => rfl
end
section
variable {N : Nat} {X : Cx N} {S S' : St} {a : Act} {w w' : World} {ops : Array Oper} {o : Oper} {Q : Exit → Act → World → Prop} {l : List Oper} {L : Tmp → Prop} {objs : List Obj} {facts : List (Value × D)}
theorem lN (o : Nat) : ∀ (vs A M Z : List Value) (s : Nat), A.length = o + s → M.length = vs.length → (vs.zipIdx s).foldl (fun (cs : Array Value) (x : Value × Nat) => cs.setIfInBounds (o + x.2) x.1) (A ++ M ++ Z).toArray = (A ++ vs ++ Z).toArray
 | [], A, M, Z, s, _, hM => by
  obtain rfl : M = [] := List.length_eq_zero_iff.1 hM
  rfl
 | v :: vs, A, m :: M, Z, s, hA, hM => by
  rw [List.zipIdx_cons, Ld]
  have h1 : ((A ++ (m :: M) ++ Z).toArray).setIfInBounds (o + s) v = ((A ++ [v]) ++ M ++ Z).toArray := by
   rw [← hA]
   simp [List.set_append_right]
  rw [h1, lN o vs (A ++ [v]) M Z (s + 1) (by simp; omega) (by simpa using hM)]
  simp
theorem vY (vs A M Z : List Value) (hM : M.length = vs.length) : vs.toArray.zipIdx.foldl (fun (cs : Array Value) (x : Value × Nat) => cs.setIfInBounds (A.length + x.2) x.1) (A ++ M ++ Z).toArray = (A ++ vs ++ Z).toArray := by
 rw [← Array.foldl_toList, Array.toList_zipIdx]
 exact lN A.length vs A M Z 0 rfl hM
theorem qL (place : Nat → Option (Nat × Nat)) (i : Nat) (v : Value) (vs A M Z : List Value) (rest : List (Nat × Value)) (hp : place i = some (A.length, vs.length)) (hv : v.cells = vs.toArray) (hM : M.length = vs.length) :
  Instr.fill place (A ++ M ++ Z).toArray ((i, v) :: rest) = Instr.fill place (A ++ vs ++ Z).toArray rest := by
 rw [Instr.fill, hp]
 dsimp only
 rw [hv, if_neg (by simp [hM])]
 congr 1
 exact vY vs A M Z hM
structure Fp (T : Nat) (places : List (Nat × Nat)) : Prop where
 get : ∃ fs, Tryz.prog.underlying T = some (.struct fs) ∧ fs.toList.mapM (fun f => (Tryz.prog.info? f.type).map fun i => (f.offset, i.size)) = some places
def mg (places : List (Nat × Nat)) : D → List (Nat × D) → Option D
 | d, [] => some d
 | d, (i, e) :: rest => match places[i]? with
  | some (off, sz) => if e.size = sz then (match d.upd off e with
   | some d' => mg places d' rest
   | none => none) else none
  | none => none
def jJ (S : St) : List (Nat × Operand) → Option (List (Nat × D))
 | [] => some []
 | (i, x) :: xs => match ev S x, jJ S xs with
  | some (.val d), some ds => some ((i, d) :: ds)
  | _, _ => none
def pG (ok : Nat → Prop) (w : World) : List (Nat × D) → List (Nat × Value) → Prop
 | [], xs => xs = []
 | (i, d) :: ds, xs => ∃ x rest, xs = (i, x) :: rest ∧ aP ok w d x ∧ pG ok w ds rest
theorem Kn.jJ {base : Nat → Prop} {ok : Nat → Prop} (h : Kn base ok L S a w) : ∀ (xs : List (Nat × Operand)) (ds : List (Nat × D)), E.jJ S xs = some ds → (∀ i t, (i, .tmp t) ∈ xs → L t) → pG ok w ds (xs.map fun (i, x) => (i, a.eval x))
 | [], ds, hx, _ => by cases hx; rfl
 | (i, x) :: xs, ds, hx, hL => by
  rw [E.jJ] at hx
  cases h1 : E.ev S x with
  | none => rw [h1] at hx; cases hx
  | some r =>
   cases h2 : E.jJ S xs with
   | none => rw [h1, h2] at hx; cases r <;> cases hx
   | some es =>
    rw [h1, h2] at hx
    cases r with
    | val d =>
     cases hx
     exact ⟨_, _, rfl, h.ev h1 (fun t e => hL i t (by simp [e])), Kn.jJ h xs es h2 fun i t ht => hL i t (by simp [ht])⟩
    | _ => cases hx
theorem qK {ok : Nat → Prop} {places : List (Nat × Nat)} : ∀ (parts : List (Nat × D)) (vs : List (Nat × Value)) (d d' : D) (cs : List Value), mg places d parts = some d' → pG ok w parts vs → Reads ok w d cs → d'.agg = d.agg ∧ ∃ cs', Instr.fill (places.toArray[·]?) cs.toArray vs = some cs'.toArray ∧ Reads ok w d' cs'
 | [], vs, d, d', cs, h, hp, hr => by
  cases h
  cases hp
  exact ⟨rfl, cs, rfl, hr⟩
 | (i, e) :: parts, vs, d, d', cs, h, hp, hr => by
  obtain ⟨x, rest, rfl, ⟨es, h1, rfl⟩, h2⟩ := hp
  rw [mg] at h
  split at h
  ·
   rename_i off sz hpl
   split at h
   ·
    rename_i hsz
    cases hu : d.upd off e with
    | none => rw [hu] at h; cases h
    | some d1 =>
     rw [hu] at h
     dsimp only at h
     obtain ⟨e1, e2, pre, mid, post, rfl, h3, h4, h5⟩ := iQ d off e d1 cs es hu hr h1
     obtain ⟨e3, cs', h6, h7⟩ := qK parts rest d1 d' _ h h2 h5
     refine ⟨e3.trans e2, cs', ?_, h7⟩
     rw [qL _ i (form e es) es pre mid post rest (by simp [hpl, h3, ← hsz, Reads.len _ _ h1]) (fH h1) h4]
     exact h6
   · cases h
  · cases h
theorem tN {T : Nat} {places : List (Nat × Nat)} {d0 d : D} {parts : List (Nat × D)} {vs : List (Nat × Value)} {ok : Nat → Prop} (hT : Fp T places) (hz : Zero T d0) (hd0 : d0.agg = true) (hf : mg places d0 parts = some d) (hp : pG ok w parts vs) :
  ∃ x, (Instr.build T vs.toArray).run Tryz.prog w = .ok x w ∧ aP ok w d x := by
 obtain ⟨z, hz, hr⟩ := hz
 obtain ⟨fs, hu, hm⟩ := hT
 obtain ⟨e1, cs', h1, h2⟩ := qK parts vs d0 d _ hf hp (hr ok w)
 refine ⟨.agg cs'.toArray, ?_, (jB (e1.trans hd0)).2 ⟨cs', h2, rfl⟩⟩
 refine run_build w T vs.toArray _ ?_
 cases hi : Tryz.prog.info? T with
 | none => rw [hi] at hz; cases hz
 | some it =>
  rw [hi] at hz
  have hz' : it.zero = some z := by simpa using hz
  unfold Program.built
  rw [hi, hu]
  dsimp only
  rw [hz', hm]
  simpa using h1
theorem ED {T : Nat} {parts : Array (Nat × Operand)} {places : List (Nat × Nat)} {d0 d : D} {ps : List (Nat × D)} (ho : o.op = .build T parts) (hx : jJ S parts.toList = some ps) (hT : Fp T places) (hz : Zero T d0) (hd0 : d0.agg = true) (hf : mg places d0 ps = some d) : Still ops S o (.val d) := fun base ok a w ha => by
 have hp := ha.jJ _ _ hx fun i t ht => ak (x := .tmp t) rfl (by rw [ho]; simp only [Op.operands]; simp; exact ⟨i, by simpa using ht⟩)
 obtain ⟨x, h1, h2⟩ := tN hT hz hd0 hf hp
 refine ⟨x, ?_, h2⟩
 have he : (parts.toList.map fun (i, x) => (i, a.eval x)).toArray = parts.map fun (i, x) => (i, a.eval x) := by
  apply Array.ext'
  simp
 rw [he] at h1
 unfold execOp
 simp only [ho, Kq, h1, J6, Ku]
theorem BQ {T n e z : Nat} {d : D} (ho : o.op = .build T #[]) (hT : IU T n e z) (hz : Zero T d) (hd : d.agg = true) : Still ops S o (.val d) := fun base ok a w ha => by
 obtain ⟨zv, hz, hr⟩ := hz
 refine ⟨.agg zv.cells, ?_, (jB hd).2 ⟨_, hr _ _, by simp⟩⟩
 cases hi : Tryz.prog.info? T with
 | none => rw [hi] at hz; cases hz
 | some i =>
  rw [hi] at hz
  have hz' : i.zero = some zv := by simpa using hz
  unfold execOp
  simp [ho, Instr.build, zeroValue, typeInfo, hi, hz', run_underlying hT.und, iW hT.size, Instr.fill]
def jg : Nat → List (Nat × D) → Option (List D)
 | _, [] => some []
 | k, (i, d) :: ps => if i = k then (jg (k + 1) ps).map (d :: ·) else none
theorem yH {ok : Nat → Prop} {z : Nat} : ∀ (ps : List (Nat × D)) (k : Nat) (ds : List D) (vs : List (Nat × Value)) (A M : List Value), jg k ps = some ds → pG ok w ps vs → (∀ p ∈ ps, p.2.size = z) → A.length = k * z → M.length = ps.length * z →
  ∃ rows, Instr.fill (fun i => some (i * z, z)) (A ++ M).toArray vs = some (A ++ rows.flatten).toArray ∧ ah ok w z ds rows
 | [], k, ds, vs, A, M, h, hp, hs, hA, hM => by
  cases h
  cases hp
  obtain rfl : M = [] := List.length_eq_zero_iff.1 (by simpa using hM)
  exact ⟨[], rfl, by rw [ah]⟩
 | (i, d) :: ps, k, ds, vs, A, M, h, hp, hs, hA, hM => by
  obtain ⟨x, rest, rfl, ⟨es, h1, rfl⟩, h2⟩ := hp
  rw [jg] at h
  split at h
  ·
   rename_i e
   subst e
   cases hr : jg (i + 1) ps with
   | none => rw [hr] at h; cases h
   | some ds' =>
    rw [hr] at h
    cases h
    have hz := hs (i, d) (by simp)
    have hl := Reads.len _ _ h1
    have hml : (M.take z).length = es.length := by
     rw [L6, hM, hl, hz, KN, LW, Md]
     omega
    have hmr : (M.drop z).length = ps.length * z := by
     rw [List.length_drop, hM, KN, LW, Md]
     omega
    obtain ⟨rows, h3, h4⟩ := yH ps (i + 1) ds' rest (A ++ es) (M.drop z) hr h2 (fun p hp => hs p (by simp [hp])) (by rw [List.length_append, hA, hl, hz, LW, Md]) hmr
    refine ⟨es :: rows, ?_, by rw [ah]; exact ⟨es, rows, rfl, by rw [hl, hz], h1, h4⟩⟩
    have := qL (fun i => some (i * z, z)) i (form d es) es A (M.take z) (M.drop z) rest (by simp [hA, hl, hz]) (fH h1) hml
    rw [KY, LK] at this
    rw [this, h3, KG, KY]
  · cases h
theorem uF {T e z n : Nat} {parts : Array (Nat × Operand)} {ps : List (Nat × D)} {ds : List D} {d0 : D} (ho : o.op = .buildSlice T n parts) (hx : jJ S parts.toList = some ps) (hT : Dj T e z) (hz : Zero e d0) (hin : jg 0 ps = some ds) (hsz : ∀ p ∈ ps, p.2.size = z) (hn : ps.length = n) (h0 : 0 < n ∧ 0 < z) (hbig : n * z ≤ 16777216) : ig ops S o (· = .val (.sl z ds)) := fun base ok a w ha => by
 have hp := ha.jJ _ _ hx fun i t ht => ak (x := .tmp t) rfl (by rw [ho]; simp only [Op.operands]; simp; exact ⟨i, by simpa using ht⟩)
 obtain ⟨zv, hz, hr⟩ := hz
 cases hi : Tryz.prog.info? e with
 | none => rw [hi] at hz; cases hz
 | some ie =>
  rw [hi] at hz
  have hz' : ie.zero = some zv := by simpa using hz
  have hsize : ie.size = z := by have := hT.size; rw [hi] at this; simpa using this
  subst hn
  obtain ⟨rows, h1, h2⟩ := yH ps 0 ds _ [] ((Array.range (ps.length * z)).map (zv.cells[· % zv.cells.size]!)).toList hin hp hsz (by simp) (by simp)
  simp only [J8] at h1
  rw [Array.toArray_toList] at h1
  have he : (parts.toList.map fun (i, x) => (i, a.eval x)).toArray = parts.map fun (i, x) => (i, a.eval x) := by
   apply Array.ext'
   simp
  have hrun := run_buildSlice (P := Tryz.prog) w T e ps.length (parts.toList.map fun (i, x) => (i, a.eval x)).toArray rows.flatten.toArray ie zv hT.und hi hz' (by rw [hsize]; omega) (by rw [hsize]; exact Nat.pos_iff_ne_zero.1 (Nat.mul_pos h0.1 h0.2)) (by rw [hsize]; exact h1)
  rw [he] at hrun
  have hlen : ds.length = ps.length := by
   have : ∀ (ps : List (Nat × D)) (k : Nat) (ds : List D), jg k ps = some ds → ds.length = ps.length := by
    intro ps
    induction ps with
    | nil => intro k ds h; cases h; rfl
    | cons p ps ih =>
     intro k ds h
     obtain ⟨i, d⟩ := p
     rw [jg] at h
     split at h
     ·
      cases hr : jg (k + 1) ps with
      | none => rw [hr] at h; cases h
      | some es =>
       rw [hr] at h
       cases h
       simp [ih _ _ hr]
     · cases h
   exact this ps 0 ds hin
  have hexec : (execOp a.eval o).run Tryz.prog w = .ok (.value (.slice (some ⟨w.heap.size, 0, none⟩) ps.length ps.length)) (w.alloc (.cells rows.flatten.toArray e)) := by
   unfold execOp
   simp only [ho, Kq, hrun, J6, Ku]
  rw [hexec]
  have hg := aH w (.cells rows.flatten.toArray e)
  refine ⟨hg, _, rfl, (aI rfl).2 ?_⟩
  rw [Reads]
  refine ⟨_, ps.length, rows, by rw [hlen], by omega, ?_, (fun e => by cases e), fun hne => ⟨_, 0, rfl, ⟨.inr (Nat.le_refl _), by simp⟩, fun j u hu => ?_⟩, ah.mono (fun b hb => ⟨.inl hb, KA (ha.lt b hb) hg.size⟩) (fun p hp => hg.cell (ha.lt _ hp)) z ds rows h2⟩
  ·
   have : ps.length ≤ ps.length * z := Nat.le_mul_of_pos_right _ h0.2
   simp only [maxLen]
   omega
  ·
   rw [KJ, cell_of_row _ _ _ _ _ (0, 0) (heap_alloc_new w _)]
   simpa using hu
end
end E
end Go.Proofs.YtaoicebcdmpemaaGreat
namespace Go.Proofs.YtaoicebcdmpemaaGreat
set_option linter.unusedVariables false
open Go.RowKit
namespace Mono
variable {P : Program}
def jr (ops : Array Oper) (L : Nat → Prop) (vs : Nat → Value) (a0 a : Act) (k : Nat) (t : Tmp) : Prop :=
 (∃ j, j < k ∧ aG ops j = some t ∧ (∀ i, j < i → i < k → aG ops i ≠ some t) ∧ L j ∧ a.tmps.getD t undef = vs j) ∨ ((∀ j, j < k → aG ops j ≠ some t) ∧ a.tmps.getD t undef = a0.tmps.getD t undef)
abbrev oO (listed : Array Bool) : Nat → Prop := fun j => listed.getD j false = true
section
variable {ops : Array Oper} {n : Nat} {a0 : Act} {listed : Array Bool} {vs : Nat → Value} {a : Act} {w : World}
theorem Inv.slots (F : gY .any ops n) (I : Inv .any ops a0 (fun _ => True) (fun _ _ _ => True) n listed vs a w) (hrange : ∀ j t, aG ops j = some t → t < a0.tmps.size) {i : Nat} {oi : Oper} (hi : i ∈ Region.ready .any ops listed) (hin : i < n) (ho : ops[i]? = some oi) :
  ∀ t ∈ oi.looksAt ops, jr ops (oO listed) vs a0 a i t := by
 intro t ht
 obtain ⟨hun, o', ho', hall⟩ := mem_ready.1 hi
 have : o' = oi := Lu (ho'.symm.trans ho)
 subst this
 have hbefore : ∀ j, j < i → aG ops j = some t → listed.getD j false = true := by
  intro j hj hd
  obtain ⟨oj, hoj, hdj⟩ : ∃ oj, ops[j]? = some oj ∧ oj.dst = some t := by
   unfold aG at hd
   cases h : ops[j]? with
   | none => simp [h] at hd
   | some oj => exact ⟨oj, rfl, by simpa [h] using hd⟩
  rcases iP .any o' j with hw | ⟨e, he, hb, hon⟩
  ·
   have hap := F.free j oj (by omega) hoj i o' hj ho hw
   exact absurd ht ((Oper.apart_spec hap).1 t hdj)
  ·
   rw [← hon]
   exact hall e he hb
 have hbehind : ∀ j, i < j → aG ops j = some t → listed.getD j false = true → False := by
  intro j hj hd hl
  obtain ⟨oj, hoj, hdj⟩ : ∃ oj, ops[j]? = some oj ∧ oj.dst = some t := by
   unfold aG at hd
   cases h : ops[j]? with
   | none => simp [h] at hd
   | some oj => exact ⟨oj, rfl, by simpa [h] using hd⟩
  rcases iP .any oj i with hw | ⟨e, he, hb, hon⟩
  ·
   have hap := F.free i o' hin ho j oj hj hoj hw
   exact (Oper.apart_spec hap).2.2 t hdj ht
  ·
   have := I.head.closed j oj hoj hl e he hb
   rw [hon, getD_both hun] at this
   cases this
 have hself : listed.getD i false = false := getD_both hun
 by_cases hex : ∃ j, j < i ∧ aG ops j = some t
 ·
  obtain ⟨j, hj, hd, hmax⟩ := fV (fun j => aG ops j = some t) i hex
  refine .inl ⟨j, hj, hd, fun i' h1 h2 e => by have := hmax i' h2 e; omega, hbefore j hj hd, ?_⟩
  refine I.slot t (hrange j t hd) j (hbefore j hj hd) hd fun i' hl' hd' => ?_
  rcases MX i' i with h | h | h
  · exact hmax i' h hd'
  · subst h; rw [hself] at hl'; cases hl'
  · exact (hbehind i' h hd' hl').elim
 ·
  refine .inr ⟨fun j hj hd => hex ⟨j, hj, hd⟩, I.slot0 t fun j hl hd => ?_⟩
  rcases MX j i with h | h | h
  · exact hex ⟨j, h, hd⟩
  · subst h; rw [hself] at hl; cases hl
  · exact hbehind j h hd hl
end
def dn (P : Program) (V : VP) : Result Next → Prop
 | .ok (.value v) w' => V v w'
 | .ok .skip w' => V undef w'
 | .ok (.enter f args) w' => Calls P f args w' fun e w'' => ∃ v, e = .returned v ∧ V v w''
 | _ => False
theorem dD {P : Program} {V V' : VP} {w : World} {r : Result Next} (h : bJ P V w r) (k : ∀ v w', Gr w w' → V v w' → V' v w') : dn P V' r := by
 cases r with
 | ok x w' =>
  cases x <;> simp only [bJ, dn] at h ⊢
  case value v => exact k _ _ h.1 h.2
  case skip => exact k _ _ h.1 h.2
  case enter g args => exact h.2.mono fun e w'' ⟨v, he, hg, hv⟩ => ⟨v, he, k _ _ (h.1.trans hg) hv⟩
 | halt x w' => simp only [bJ] at h
theorem Inv.world {md : Region.Mode} {ops : Array Oper} {a0 : Act} {n : Nat} {listed : Array Bool} {vs : Nat → Value} {a : Act} {w w' : World} (h : Inv md ops a0 (fun _ => True) (fun _ _ _ => True) n listed vs a w) : Inv md ops a0 (fun _ => True) (fun _ _ _ => True) n listed vs a w' :=
 ⟨h.head, trivial, fun _ _ => trivial, h.defers, h.size, h.slot, h.slot0⟩
theorem qZ {ops : Array Oper} {Q : Exit → Act → World → Prop} {n : Nat} {a0 : Act} (F : gY .any ops n) (hrange : ∀ j t, aG ops j = some t → t < a0.tmps.size)
  (G : (Nat → Prop) → (Nat → Value) → World → Prop)
  (hcongr : ∀ L L' vs vs' w, (∀ j, L j ↔ L' j) → (∀ j, L j → vs j = vs' j) → G L vs w → G L' vs' w)
  (hstep : ∀ k o L vs b u, k < n → ops[k]? = some o → (∀ j, L j → j < n) → ¬ L k → G L vs u → (∀ t ∈ o.looksAt ops, jr ops L vs a0 b k t) → (∀ e ∈ o.after, Region.binds .any e = true → L e.on) →
   (Region.wanted o (yielded ops b.tmps) = true → dn P (fun v w' => G (fun j => j = k ∨ L j) (fun j => if j = k then v else vs j) w') ((execOp b.eval o).run P u)) ∧
   (Region.wanted o (yielded ops b.tmps) = false → G (fun j => j = k ∨ L j) (fun j => if j = k then undef else vs j) u))
  (hend : ∀ vs u, G (fun j => j < n) vs u → wpList P ops Q (ops.toList.drop n) (bT ops vs a0 n) u) :
  ∀ (f : Nat) (listed : Array Bool) (vs : Nat → Value) (a : Act) (w : World), left listed n = f → Inv .any ops a0 (fun _ => True) (fun _ _ _ => True) n listed vs a w → G (oO listed) vs w → wpAny P .any ops Q (f + (ops.size - n)) listed a w := by
 intro f
 induction f with
 | zero =>
  intro listed vs a w hf I hG
  have hle := F.le
  have hall := lu hf (by rw [I.head.size]; exact hle)
  obtain ⟨L, hL1, hL2, hL3⟩ := F.tail
  have htail : ∀ j, listed.getD j false = true → j < n := by
   intro j hl
   rcases KP j n with h | h
   · exact h
   ·
    have hjs : j < listed.size := by
     rcases KP j listed.size with h' | h'
     · exact h'
     · simp [Array.getElem?_eq_none h'] at hl
    have := I.head.tail j h (by rw [← I.head.size]; exact hjs)
    rw [getD_both this] at hl
    cases hl
  have hLl : L = listed := by
   apply Array.ext (hL1.trans I.head.size.symm)
   intro i h1 h2
   have e1 : L[i] = L.getD i false := by simp [h1]
   have e2 : listed[i] = listed.getD i false := by simp [h2]
   rw [e1, e2]
   by_cases hin : i < n
   · rw [(hL2 i).2 hin, hall i hin]
   ·
    have := I.head.tail i (by omega) (by rw [← I.head.size]; exact h2)
    rw [getD_both this]
    cases hx : L.getD i false with
    | false => rfl
    | true => exact absurd ((hL2 i).1 hx) hin
  subst hLl
  rw [I.done hall]
  have := wpAny_of_seq (P := P) (md := .any) (ops := ops) (Q' := Q) (ops.toList.drop n) n L (bT ops vs a0 n) w (fun j => by simp [List.getElem?_drop]) (by simpa using hL3)
   (hend vs w (hcongr _ _ vs vs w (fun j => ⟨htail j, hall j⟩) (fun _ _ => rfl) hG))
  simpa using this
 | succ f ih =>
  intro listed vs a w hf I hG
  have hle := F.le
  obtain ⟨j0, hj0, hun0, hbef⟩ := ou n (by rw [I.head.size]; exact hle) (by omega : 0 < left listed n)
  rw [show f + 1 + (ops.size - n) = (f + (ops.size - n)) + 1 by omega]
  refine ⟨fun hnil => ?_, fun i hi => ?_⟩
  ·
   exfalso
   have hj0s : j0 < ops.size := by omega
   have hr : j0 ∈ Region.ready .any ops listed := mem_ready.2 ⟨hun0, ops[j0], by simp [hj0s], fun e he hb => hbef _ (F.before j0 ops[j0] hj0 (by simp [hj0s]) e he hb)⟩
   rw [hnil] at hr
   cases hr
  ·
   have hin : i < n := by
    rcases KP i n with h | h
    · exact h
    · exact absurd hi (F.waits listed I.head j0 hj0 hun0 i h)
   obtain ⟨hun, oi, ho, hall⟩ := mem_ready.1 hi
   have htail : ∀ j, listed.getD j false = true → j < n := by
    intro j hl
    rcases KP j n with h | h
    · exact h
    ·
     have hjs : j < listed.size := by
      rcases KP j listed.size with h' | h'
      · exact h'
      · simp [Array.getElem?_eq_none h'] at hl
     have := I.head.tail j h (by rw [← I.head.size]; exact hjs)
     rw [getD_both this] at hl
     cases hl
   have hob := hstep i oi (oO listed) vs a w hin ho htail (by show ¬ listed.getD i false = true; rw [getD_both hun]; decide) hG (I.slots F hrange hi hin ho) hall
   have hsz : i < listed.size := by rw [I.head.size]; omega
   have hdone : ∀ j, (j = i ∨ oO listed j) ↔ oO (listed.setIfInBounds i true) j := by
    intro j
    show _ ↔ (listed.setIfInBounds i true).getD j false = true
    by_cases hij : i = j
    ·
     subst hij
     simp [hsz]
    ·
     rw [getD_set_ne false hij]
     constructor
     ·
      rintro (h | h)
      · exact absurd h.symm hij
      · exact h
     · exact .inr
   have hnext : ∀ v w', G (fun j => j = i ∨ oO listed j) (fun j => if j = i then v else vs j) w' → wpAny P .any ops Q (f + (ops.size - n)) (listed.setIfInBounds i true) (a.put oi.dst v) w' := fun v w' hv =>
    ih _ (fun j => if j = i then v else vs j) _ _ (by have := oh hsz hun n hin; omega) (I.world.step F (fun _ _ _ _ _ _ _ => trivial) (fun _ _ _ _ => trivial) hi hin ho (Gr.refl w') trivial) (hcongr _ _ _ _ _ hdone (fun _ _ => rfl) hv)
   unfold wpOp
   simp only [ho]
   cases hw : Region.wanted oi (yielded ops a.tmps) with
   | true =>
    simp only [if_true]
    refine .inl ?_
    have h1 := hob.1 hw
    unfold Oper.wp
    generalize (execOp a.eval oi).run P w = r at *
    cases r with
    | ok x w' =>
     cases x <;> simp only [dn] at h1 <;> simp only [Oper.upon]
     case value v => exact hnext _ _ h1
     case skip => exact hnext _ _ h1
     case enter g args =>
      refine h1.mono fun e w'' ⟨v, he, hv⟩ => ?_
      subst he
      exact hnext _ _ hv
    | halt x w' => simp only [dn] at h1
   | false =>
    simp only [LP, if_false]
    exact hnext _ _ (hob.2 hw)
theorem rZ {ops : Array Oper} {n : Nat} {a0 : Act} (vs : Nat → Value) (hrange : ∀ j t, aG ops j = some t → t < a0.tmps.size) (t : Tmp) : jr ops (fun j => j < n) vs a0 (bT ops vs a0 n) n t := by
 by_cases hex : ∃ j, j < n ∧ aG ops j = some t
 ·
  obtain ⟨j, hj, hd, hmax⟩ := fV (fun j => aG ops j = some t) n hex
  exact .inl ⟨j, hj, hd, fun i' h1 h2 e => (by have := hmax i' h2 e; omega), hj, fB vs a0 t (hrange j t hd) j n hj hd hmax⟩
 · exact .inr ⟨fun j hj hd => hex ⟨j, hj, hd⟩, fA vs a0 t n fun j hj hd => hex ⟨j, hj, hd⟩⟩
theorem iO {id : Nat} {Q : Exit → Act → World → Prop} {a : Act} {w : World} {l : List Oper} (n : Nat) (hm : P.follows .mixedOrders = true) (hB : monoB l.toArray n a.tmps.size = true)
  (G : (Nat → Prop) → (Nat → Value) → World → Prop)
  (hcongr : ∀ L L' vs vs' w, (∀ j, L j ↔ L' j) → (∀ j, L j → vs j = vs' j) → G L vs w → G L' vs' w)
  (h0 : G (fun _ => False) (fun _ => undef) w.drew)
  (hstep : ∀ k o L vs b u, k < n → l[k]? = some o → (∀ j, L j → j < n) → ¬ L k → G L vs u → (∀ t ∈ o.looksAt l.toArray, jr l.toArray L vs a b k t) → (∀ e ∈ o.after, Region.binds .any e = true → L e.on) →
   (Region.wanted o (yielded l.toArray b.tmps) = true → dn P (fun v w' => G (fun j => j = k ∨ L j) (fun j => if j = k then v else vs j) w') ((execOp b.eval o).run P u)) ∧
   (Region.wanted o (yielded l.toArray b.tmps) = false → G (fun j => j = k ∨ L j) (fun j => if j = k then undef else vs j) u))
  (hend : ∀ vs u b, G (fun j => j < n) vs u → b.tmps.size = a.tmps.size → b.defers = a.defers → (∀ t, jr l.toArray (fun j => j < n) vs a b n t) → wpList P l.toArray Q (l.drop n) b u) : (Code.region id l.toArray true).wp P Q a w := by
 have F := dQ hB
 have hr := je hB
 refine wp_region_any hm ?_
 have hleft : left (Array.replicate l.toArray.size false) n = n := by
  unfold left
  have hle' := F.le
  have : (List.range n).countP (fun j => !(Array.replicate l.toArray.size false).getD j true) = (List.range n).countP (fun _ => true) :=
   List.countP_congr fun j hj => by
    have := Na.1 hj
    rw [getD_in (by simp; simpa using KA this hle') (getD_replicate_false _ _)]
    simp
  rw [this]
  simp
 have := qZ (Q := Q) F hr G hcongr (fun k o L vs b u hk ho => hstep k o L vs b u hk (by simpa using ho)) (fun vs u hG => hend vs u _ hG (dB vs a n) (dP vs a n) fun t => rZ vs hr t) n _ (fun _ => undef) a w.drew hleft
  ⟨⟨by simp, fun j oj _ hl => (by rw [getD_replicate_false] at hl; cases hl), fun t _ ht => getD_in (by simpa using ht) (getD_replicate_false _ _)⟩, trivial,
   fun j hl => trivial, rfl, rfl, fun t _ j hl => (by rw [getD_replicate_false] at hl; cases hl), fun t _ => rfl⟩
  (hcongr _ _ _ _ _ (fun j => ⟨fun h => h.elim, fun h => (by rw [show oO (Array.replicate l.toArray.size false) j = ((Array.replicate l.toArray.size false).getD j false = true) from rfl, getD_replicate_false] at h; cases h)⟩) (fun _ h => h.elim) h0)
 rw [show n + (l.toArray.size - n) = l.toArray.size by have := F.le; omega] at this
 exact this
theorem jK {id : Nat} {Q : Exit → Act → World → Prop} {a : Act} {w : World} {l : List Oper} (n : Nat) (hm : P.follows .mixedOrders = true) (hB : monoB l.toArray n a.tmps.size = true)
  (G : (Nat → Prop) → (Nat → Value) → World → Prop)
  (hcongr : ∀ L L' vs vs' w, (∀ j, L j ↔ L' j) → (∀ j, L j → vs j = vs' j) → G L vs w → G L' vs' w)
  (h0 : G (fun _ => False) (fun _ => undef) w.drew)
  (hstep : ∀ k o L vs b u, k < n → l[k]? = some o → (∀ j, L j → j < n) → ¬ L k → G L vs u → (∀ t ∈ o.looksAt l.toArray, jr l.toArray L vs a b k t) →
   (Region.wanted o (yielded l.toArray b.tmps) = true → dn P (fun v w' => G (fun j => j = k ∨ L j) (fun j => if j = k then v else vs j) w') ((execOp b.eval o).run P u)) ∧
   (Region.wanted o (yielded l.toArray b.tmps) = false → G (fun j => j = k ∨ L j) (fun j => if j = k then undef else vs j) u))
  (hend : ∀ vs u b, G (fun j => j < n) vs u → b.tmps.size = a.tmps.size → b.defers = a.defers → (∀ t, jr l.toArray (fun j => j < n) vs a b n t) → wpList P l.toArray Q (l.drop n) b u) : (Code.region id l.toArray true).wp P Q a w :=
 iO n hm hB G hcongr h0 (fun k o L vs b u h1 h2 h3 h4 h5 h6 _ => hstep k o L vs b u h1 h2 h3 h4 h5 h6) hend
end Mono
end Go.Proofs.YtaoicebcdmpemaaGreat
