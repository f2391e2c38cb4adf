/-
  Merged (wip/tools/merge.py): ES, WPlain, EU.
  Conditions: none.
-/
import Derived.Test.YtdhicdnmgmkpkaaZS11
import Derived.Test.YtdhicdnmgmkpkaaZS5
import Derived.LoopN
import Derived.Laws.Externs
import Derived.Laws.MakeOwn
/-
  The abstract machine's rules for what is written: maps, rows, pieces through calls; calls of function values.
  Conditions: none.
-/
namespace Go.Proofs.Ytdhicdnmgmkpkaa
set_option linter.unusedVariables false
open Go.RowKit Mono Rlp
namespace E
section
variable {N : Nat} {X : Cx N} {S S' : St} {a : Act} {w w' : World} {ops : Array Oper} {o : Oper} {Q : Exit → Act → World → Prop} {l : List Oper} {TT : St → List Fr → Prop} {EE : List Fr} {rs : List (Tmp × R)} {os os' rest : List Obj} {fs : List (Value × D)} {base ok : Nat → Prop} {p q : Obj}
theorem EL.put (i : Nat) (hg : guardOf ops S o = some true) (hd : o.dst = none) (hP : Puts ops S o p q) (hi : S.objs[i]? = some p) (k : EL X ops Q l ⟨S.regs, S.objs.set i q, S.facts⟩) : EL X ops Q (o :: l) S := by
  constructor
  intro a w ha
  obtain ⟨hq, hP⟩ := hP
  have hmem := List.mem_of_getElem? hi
  obtain ⟨w', g, h1, h2, h3, h4⟩ := hP _ _ a w (ha.kn _) (fun g hb hk => hk.2.2 p hmem hb) (ha.mem.at_ p hmem)
  unfold wpList
  rw [if_pos (wanted_of ha hg)]
  refine .inl ?_
  unfold Oper.wp
  rw [h1]
  simp only [Oper.upon_skip, hd, Act.put]
  exact k.go _ _ (ha.turn hi (by rw [h2]; exact h3) (.inl hq) fun hok hcell => h4.move hok (fun _ _ => rfl) fun _ _ => rfl)
theorem m_put (hP : Puts ops S o p q) : Muts ops S o [p] (fun r os' => r = .any ∧ os' = [q]) := .mk fun base ok a w ha hown => by
  obtain ⟨hq, hP⟩ := hP
  obtain ⟨w', g, h1, h2, h3, h4⟩ := hP (fun _ => True) ok a w ⟨fun o ho => (ha.objs o ho).rebase fun _ _ => trivial, ha.facts, ha.lt, ha.regs⟩ (fun g hb => hown.off g ⟨p, by simp, hb⟩) (hown.at_ p (by simp))
  rw [h1]
  have hB : ∀ b, Blks [p] b ↔ b = g := fun b => ⟨fun ⟨o, ho, e⟩ => by
    obtain rfl : o = p := by simpa using ho
    rw [h2] at e
    injection e with e
    exact e.symm, fun e => ⟨p, by simp, by rw [e]; exact h2⟩⟩
  refine ⟨.any, [q], ⟨rfl, rfl⟩, ⟨⟨h3.os, h3.tape, h3.output, h3.size, fun k hk hn => h3.block k hk fun e => hn ((hB k).2 (by injection e))⟩, by simp, fun o ho => ?_⟩, trivial⟩
  obtain rfl : o = q := by simpa using ho
  refine (h4.move (fun b hb => ⟨.inl hb, Nat.lt_of_lt_of_le (ha.lt b hb) h3.size, fun o' ho' e => ?_⟩) (fun _ _ => rfl) fun _ _ => rfl).rebase fun b e => .inl ⟨p, by simp, by rw [← hq]; exact e⟩
  obtain rfl : o' = o := by simpa using ho'
  exact hown.off b ⟨p, by simp, by rw [← hq]; exact e⟩ hb
theorem put_mapUpd {T K n E g c : Nat} {x y z : Operand} {es : List Ent} {l1 : List UInt8} {d : D} (ho : o.op = .mapUpdate T x y z) (hx : ev S x = some (.val (.v (.map (some g))))) (hy : ev S y = some (.val (.arr n l1))) (hz : ev S z = some (.val d)) (hT : assoc mapL T = some (K, n, E)) : Puts ops S o (.map g n c es) (.map g n (tickE c es l1) (putE c es l1 d)) := by
  refine ⟨rfl, fun base ok a w ha hno hat => ?_⟩
  have h1 := ev_v ha hx (looks_op (by rw [ho]; simp [Op.operands]))
  obtain ⟨h2, h3⟩ := arrV_of (ha.ev hy (looks_op (by rw [ho]; simp [Op.operands])))
  obtain ⟨w', h4, h5, h6⟩ := run_mapUpdate (mapI hT).1 (mapI hT).2 hat l1 h2 (ha.ev hz (looks_op (by rw [ho]; simp [Op.operands]))) (hno g rfl)
  refine ⟨w', g, ?_, rfl, h5, h6⟩
  unfold execOp
  simp only [ho, h1, h3, Sem.run_bind, h4, Result.andThen_ok, Sem.run_pure]
theorem put_rowstore {T e z n k off : Nat} {x y : Operand} {v : Value} {ds : List D} {d d' d'' : D} (hk : n = k * z + off ∧ ds[k]? = some d) (ho : o.op = .store T x y) (hx : ev S x = some (.val (.v (elemPtr v n)))) (hy : ev S y = some (.val d')) (hT : assoc tyL T = some (d'.size, d'.agg)) (hu : d.upd off d' = some d'') : Puts ops S o (.row v e z ds) (.row v e z (ds.set k d'')) := by
  refine ⟨rfl, fun base ok a w ha hno hat => ?_⟩
  have hx' := ev_v ha hx (looks_op (by rw [ho]; simp [Op.operands]))
  obtain ⟨cs', h1, h2⟩ := ha.ev hy (looks_op (by rw [ho]; simp [Op.operands]))
  have hk' := (List.getElem?_eq_some_iff.1 hk.2).1
  obtain ⟨g, c, cur, rows, H⟩ := row_in hat (by omega)
  obtain ⟨r, A, B, g1, g2, g3, g4, g5, g6⟩ := H.elem hk.2
  obtain ⟨e1, e2, pre, mid, post, rfl, h5, h6, h7⟩ := upd_spec d off d' d'' r cs' hu g3 h1
  obtain ⟨_, _, _, hT'⟩ := tyI hT
  have hh : w.heap[g]? = some (.cells ((A ++ pre) ++ mid ++ (post ++ B)).toArray e (0, 0)) := by
    have := H.heap
    rw [show cur = (A ++ (pre ++ mid ++ post) ++ B).toArray by rw [← g4]] at this
    rw [this]
    simp
  have hrun := run_storeAt (T := T) (by rw [hT', Reads.len _ _ h1]) h1 hh (by rw [List.length_append, g5, h5, ← hk.1]) h6
  have hg := grownBy_setCells g cs' n w
  have hnew := setCells_row cs' (A ++ pre) mid (post ++ B) w h6 hh
  rw [List.length_append, g5, h5, ← hk.1] at hnew
  have hcell : ∀ q : Addr, ok q.block → (w.setCells g n cs').cell? q = w.cell? q := fun q hq => World.cell?_of_block (hg.block _ (ha.lt _ hq) fun e => hno g (by rw [H.val]; rfl) (by injection e with e; rw [← e]; exact hq))
  have hlen : (pre ++ cs' ++ post).length = z := by
    simp only [List.length_append] at g2 ⊢
    omega
  have hrows := ReadsRows.set ds rows k d'' (pre ++ cs' ++ post) H.rows h7 hlen
  have hrows' := ReadsRows.mono (fun _ h => h) hcell z _ _ hrows
  refine ⟨w.setCells g n cs', g, ?_, by rw [H.val]; rfl, hg, RowIn.at (g := g) (c := c) (cur := ((A ++ pre) ++ cs' ++ (post ++ B)).toArray) (rows := rows.set k (pre ++ cs' ++ post)) ⟨by rw [List.length_set]; exact H.val, hnew, ?_, ?_, by rw [List.length_set]; exact H.le, H.max, hrows', H.mine⟩⟩
  · have ep : elemPtr v n = .pointer (some ⟨g, n, none⟩) := by rw [H.val]; simp [elemPtr]
    unfold execOp
    simp only [ho, hx', ep, h2, Sem.run_bind, hrun, Result.andThen_ok, Sem.run_pure]
  · rw [List.length_set, ← g6 _ hlen]
    simp
  · have := congrArg List.length g4
    rw [Array.length_toList, H.size] at this
    simp only [List.size_toArray, List.length_append] at this ⊢
    omega
theorem P_mapUpd {T K n E g c ty : Nat} {pos : String} {af : Array Edge} {gd : Option (Nat × Bool)} {x y z : Operand} {es : List Ent} {l1 : List UInt8} {d : D} (hx : ev (⟨rs, os, fs⟩ : St) x = some (.val (.v (.map (some g))))) (hset : SetAt os (.map g n c es) (.map g n (tickE c es l1) (putE c es l1 d)) os') (hy : ev (⟨rs, os, fs⟩ : St) y = some (.val (.arr n l1))) (hz : ev (⟨rs, os, fs⟩ : St) z = some (.val d)) (hT : assoc mapL T = some (K, n, E)) (hg : guardOf ops ⟨rs, os, fs⟩ ⟨none, .mapUpdate T x y z, ty, pos, af, gd⟩ = some true) (kk : EL X ops Q l ⟨rs, os', fs⟩) : EL X ops Q (⟨none, .mapUpdate T x y z, ty, pos, af, gd⟩ :: l) ⟨rs, os, fs⟩ := by
  obtain ⟨i, hi, rfl⟩ := hset.ix
  exact EL.put i hg rfl (put_mapUpd rfl hx hy hz hT) hi kk
theorem P_rowstore {T e z n k off ty : Nat} {pos : String} {af : Array Edge} {gd : Option (Nat × Bool)} {x y : Operand} {v : Value} {ds : List D} {d d' d'' : D} (hx : ev (⟨rs, os, fs⟩ : St) x = some (.val (.v (elemPtr v n)))) (hset : SetAt os (.row v e z ds) (.row v e z (ds.set k d'')) os') (hk : n = k * z + off ∧ ds[k]? = some d) (hy : ev (⟨rs, os, fs⟩ : St) y = some (.val d')) (hT : assoc tyL T = some (d'.size, d'.agg)) (hu : d.upd off d' = some d'') (hg : guardOf ops ⟨rs, os, fs⟩ ⟨none, .store T x y, ty, pos, af, gd⟩ = some true) (kk : EL X ops Q l ⟨rs, os', fs⟩) : EL X ops Q (⟨none, .store T x y, ty, pos, af, gd⟩ :: l) ⟨rs, os, fs⟩ := by
  obtain ⟨i, hi, rfl⟩ := hset.ix
  exact EL.put i hg rfl (put_rowstore hk rfl hx hy hT hu) hi kk
theorem EL.del {T K n E g c : Nat} {U : TypeId} {x y : Operand} {es : List Ent} {l1 : List UInt8} (i : Nat) (ho : o.op = .call { callee := .builtin .delete, args := #[x, y], argTypes := #[T, U] }) (hg : guardOf ops S o = some true) (hd : o.dst = none) (hx : ev S x = some (.val (.v (.map (some g))))) (hi : S.objs[i]? = some (.map g n c es)) (hy : ev S y = some (.val (.arr n l1))) (hT : assoc mapL T = some (K, n, E)) (k : EL X ops Q l ⟨S.regs, S.objs.set i (.map g n c (delE es l1)), S.facts⟩) : EL X ops Q (o :: l) S := by
  constructor
  intro a w ha
  have hk := ha.kn fun t => t ∈ o.looksAt ops
  have h1 := ev_v hk hx (looks_op (by rw [ho]; simp [Op.operands, Call.operands]))
  obtain ⟨h2, h3⟩ := arrV_of (hk.ev hy (looks_op (by rw [ho]; simp [Op.operands, Call.operands])))
  have hmem := List.mem_of_getElem? hi
  obtain ⟨w', h4, h5, h6⟩ := run_delete (U := U) o.type (mapI hT).1 (mapI hT).2 (ha.mem.at_ _ hmem) l1 h2 (fun hk => hk.2.2 _ hmem rfl)
  unfold wpList
  rw [if_pos (wanted_of ha hg)]
  refine .inl ?_
  unfold Oper.wp execOp
  simp only [ho, resolve, invoke, builtin, Sem.run_bind, Sem.run_pure, Result.andThen_ok, List.map_toArray, List.map_cons, List.map_nil, h1, h3, h4]
  simp only [Oper.upon_value, hd, Act.put]
  exact k.go _ _ (ha.turn hi h5 (.inl rfl) fun hok hcell => h6.move hok (fun _ _ => rfl) fun _ _ => rfl)
theorem P_delete {T K n E g c ty : Nat} {U : TypeId} {pos : String} {af : Array Edge} {gd : Option (Nat × Bool)} {x y : Operand} {es : List Ent} {l1 : List UInt8} (hx : ev (⟨rs, os, fs⟩ : St) x = some (.val (.v (.map (some g))))) (hset : SetAt os (.map g n c es) (.map g n c (delE es l1)) os') (hy : ev (⟨rs, os, fs⟩ : St) y = some (.val (.arr n l1))) (hT : assoc mapL T = some (K, n, E)) (hg : guardOf ops ⟨rs, os, fs⟩ ⟨none, .call { callee := .builtin .delete, args := #[x, y], argTypes := #[T, U] }, ty, pos, af, gd⟩ = some true) (kk : EL X ops Q l ⟨rs, os', fs⟩) : EL X ops Q (⟨none, .call { callee := .builtin .delete, args := #[x, y], argTypes := #[T, U] }, ty, pos, af, gd⟩ :: l) ⟨rs, os, fs⟩ := by
  obtain ⟨i, hi, rfl⟩ := hset.ix
  exact EL.del i rfl hg rfl hx hi hy hT kk
theorem m_new {q : Obj} {r : R} {ob : Go.Obj} {v : Value} (hb : q.blk = some w.heap.size) (hat : ∀ ok' : Nat → Prop, (∀ b, ok b → ok' b) → q.At (fun b => Blks [] b ∨ w.heap.size ≤ b) ok' (w.alloc ob)) (hr : ∀ ok', ReadR ok' (w.alloc ob) r v) (hlt : ∀ b, ok b → b < w.heap.size) : Turned ok [] w [q] (w.alloc ob) ∧ ReadR (okM ok [] w [q] (w.alloc ob)) (w.alloc ob) r v := by
  have hg := gr_alloc w ob
  refine ⟨⟨.of hg, by simp, fun o ho => ?_⟩, hr _⟩
  obtain rfl : o = q := by simpa using ho
  refine hat _ fun b hk => ⟨.inl hk, Nat.lt_of_lt_of_le (hlt b hk) hg.size, fun o' ho' e => ?_⟩
  obtain rfl : o' = o := by simpa using ho'
  rw [hb] at e
  injection e with e
  have := hlt b hk
  omega
theorem m_makeMap {T K n E : Nat} (ho : o.op = .makeMap T none) (hT : assoc mapL T = some (K, n, E)) : Muts ops S o [] (fun r os' => ∃ g, r = .val (.v (.map (some g))) ∧ os' = [.map g n 0 []]) := .mk fun base ok a w ha hown => by
  have hr : (execOp a.eval o).run Try.prog w = .ok (.value (.map (some w.heap.size))) (w.alloc (.map #[] 0)) := by
    unfold execOp
    have := @run_makeMap Try.prog
    simp [ho, this]
  rw [hr]
  obtain ⟨h1, h2⟩ := m_new (ok := ok) (w := w) (q := .map w.heap.size n 0 []) (r := .val (.v (.map (some w.heap.size)))) (ob := .map #[] 0) (v := .map (some w.heap.size)) rfl (fun ok' _ => ⟨.inr (Nat.le_refl _), Ents.nil, #[], heap_alloc_new w _, .nil⟩) (fun _ => v_mk rfl) ha.lt
  exact ⟨_, _, ⟨_, rfl, rfl⟩, h1, h2⟩
theorem m_box {T : TypeId} {x : Operand} {d : D} (ho : o.op = .box T x) (hx : ev S x = some (.val d)) : Muts ops S o [] (fun r os' => ∃ g, r = .val (.v (.pointer (some ⟨g, 0, none⟩))) ∧ os' = [.var g T d]) := .mk fun base ok a w ha hown => by
  obtain ⟨cs, h1, h2⟩ := n_box ho hx base ok a w ha
  rw [h1]
  obtain ⟨g1, g2⟩ := m_new (ok := ok) (w := w) (q := .var w.heap.size T d) (r := .val (.v (.pointer (some ⟨w.heap.size, 0, none⟩)))) (ob := .cells cs.toArray T) (v := .pointer (some ⟨w.heap.size, 0, none⟩)) rfl (fun ok' hk => ⟨.inr (Nat.le_refl _), cs, heap_alloc_new w _, Reads.mono hk (fun p hp => (gr_alloc w _).cell (ha.lt _ hp)) _ _ h2⟩) (fun _ => v_mk rfl) ha.lt
  exact ⟨_, _, ⟨_, rfl, rfl⟩, g1, g2⟩
theorem m_alloc {T : TypeId} {d : D} (ho : o.op = .alloc T) (hz : assoc zeroL T = some d) : Muts ops S o [] (fun r os' => ∃ g, r = .val (.v (.pointer (some ⟨g, 0, none⟩))) ∧ os' = [.var g T d]) := .mk fun base ok a w ha hown => by
  obtain ⟨cs, h1, h2⟩ := n_alloc ho (zeroI hz) base ok a w ha
  rw [h1]
  obtain ⟨g1, g2⟩ := m_new (ok := ok) (w := w) (q := .var w.heap.size T d) (r := .val (.v (.pointer (some ⟨w.heap.size, 0, none⟩)))) (ob := .cells cs.toArray T) (v := .pointer (some ⟨w.heap.size, 0, none⟩)) rfl (fun ok' hk => ⟨.inr (Nat.le_refl _), cs, heap_alloc_new w _, Reads.mono hk (fun p hp => (gr_alloc w _).cell (ha.lt _ hp)) _ _ h2⟩) (fun _ => v_mk rfl) ha.lt
  exact ⟨_, _, ⟨_, rfl, rfl⟩, g1, g2⟩
theorem P_makeMap {t T K n E ty : Nat} {pos : String} {af : Array Edge} {gd : Option (Nat × Bool)} (hT : assoc mapL T = some (K, n, E)) (hg : guardOf ops ⟨rs, os, fs⟩ ⟨some t, .makeMap T none, ty, pos, af, gd⟩ = some true) (hN : Nat.blt t N = true) (kk : ∀ g, EL X ops Q l ⟨(t, .val (.v (.map (some g)))) :: rs, .map g n 0 [] :: os, fs⟩) : EL X ops Q (⟨some t, .makeMap T none, ty, pos, af, gd⟩ :: l) ⟨rs, os, fs⟩ :=
  EL.mut (os := []) (rest := os) hg (dst_lt rfl hN) (m_makeMap rfl hT) fun r os' ⟨g, h1, h2⟩ => by
    subst h1 h2
    exact kk g
theorem P_callM {t ty f : Nat} {pos : String} {af : Array Edge} {gd : Option (Nat × Bool)} {args : Array Operand} {tys : Array TypeId} {ds ds' : List D} {os0 : List Obj} {Φ : R → List Obj → Prop} (hF : FnM f ds' os Φ) (hos : os0 = os ++ rest) (hx : evs (⟨rs, rest, fs⟩ : St) args.toList = some ds) (hR : RefineL fs ds ds') (hf : Enters f) (hg : guardOf ops ⟨rs, os ++ rest, fs⟩ ⟨some t, .call { callee := .value (.func f), args := args, argTypes := tys }, ty, pos, af, gd⟩ = some true) (hN : Nat.blt t N = true) (kk : ∀ r os', Φ r os' → EL X ops Q l ⟨(t, r) :: rs, os' ++ rest, fs⟩) : EL X ops Q (⟨some t, .call { callee := .value (.func f), args := args, argTypes := tys }, ty, pos, af, gd⟩ :: l) ⟨rs, os0, fs⟩ := by
  subst hos
  refine EL.mut (Φ := Φ) hg (dst_lt rfl hN) ?_ kk
  exact m_call (S := ⟨rs, rest, fs⟩) hF rfl hx hR hf
theorem P_callMD {t ty f : Nat} {pos : String} {af : Array Edge} {gd : Option (Nat × Bool)} {args : Array Operand} {tys : Array TypeId} {ds ds' : List D} {os0 os1 : List Obj} {r1 : R} (hF : FnM f ds' os (fun r os' => r = r1 ∧ os' = os1)) (hos : os0 = os ++ rest) (hx : evs (⟨rs, rest, fs⟩ : St) args.toList = some ds) (hR : RefineL fs ds ds') (hf : Enters f) (hg : guardOf ops ⟨rs, os ++ rest, fs⟩ ⟨some t, .call { callee := .value (.func f), args := args, argTypes := tys }, ty, pos, af, gd⟩ = some true) (hN : Nat.blt t N = true) (kk : EL X ops Q l ⟨(t, r1) :: rs, os1 ++ rest, fs⟩) : EL X ops Q (⟨some t, .call { callee := .value (.func f), args := args, argTypes := tys }, ty, pos, af, gd⟩ :: l) ⟨rs, os0, fs⟩ :=
  P_callM hF hos hx hR hf hg hN fun r os' ⟨h1, h2⟩ => by
    subst h1 h2
    exact kk
theorem CH.callM {os1 : List Obj} {T : St → Prop} {d : Option Tmp} {ty f : Nat} {pos : String} {af : Array Edge} {gd : Option (Nat × Bool)} {args : Array Operand} {tys : Array TypeId} {ds ds' : List D} {os0 : List Obj} {Φ : R → List Obj → Prop} (hF : FnM f ds' os Φ) (hos : os0 = os ++ (rest ++ os1)) (hx : evs (⟨rs, rest ++ os1, fs⟩ : St) args.toList = some ds) (hR : RefineL fs ds ds') (hf : Enters f) (hg : guardOf ops ⟨rs, os ++ (rest ++ os1), fs⟩ ⟨d, .call { callee := .value (.func f), args := args, argTypes := tys }, ty, pos, af, gd⟩ = some true) (hd : dstB N d = true)
    (k : ∀ r os', Φ r os' → CH N ops os1 T l (St.put ⟨rs, os' ++ (rest ++ os1), fs⟩ d r)) : CH N ops os1 T (⟨d, .call { callee := .value (.func f), args := args, argTypes := tys }, ty, pos, af, gd⟩ :: l) ⟨rs, os0, fs⟩ := by
  subst hos
  refine CH.mut (Φ := Φ) hd hg ?_ k
  exact m_call (S := ⟨rs, rest ++ os1, fs⟩) hF rfl hx hR hf
/-! ### Function values -/
theorem run_callV {t f : Nat} {args : Array Operand} {tys : Array TypeId} {caps : List Value} (ho : o.op = .call { callee := .value (.tmp t), args := args, argTypes := tys }) (ht : a.eval (.tmp t) = .func (.func f) #[] caps.toArray) (hf : Enters f) : (execOp a.eval o).run Try.prog w = .ok (.enter f (args.map a.eval ++ caps.toArray)) w := by
  unfold execOp
  simp [ho, resolve, ht, Deferred.ofValue, invoke, hf (args.map a.eval ++ caps.toArray) w]
theorem looks_callee {t : Tmp} {args : Array Operand} {tys : Array TypeId} (ho : o.op = .call { callee := .value (.tmp t), args := args, argTypes := tys }) : ∀ u, Operand.tmp t = .tmp u → u ∈ o.looksAt ops := looks_op (by rw [ho]; simp [Op.operands, Call.operands])
theorem readVs_append : ∀ (ds es : List D) (xs ys : List Value), ReadVs ok w ds xs → ReadVs ok w es ys → ReadVs ok w (ds ++ es) (xs ++ ys)
  | [], es, xs, ys, h, h' => by cases h; exact h'
  | d :: ds, es, xs, ys, h, h' => by
    obtain ⟨x, rest, rfl, h1, h2⟩ := h
    exact ⟨x, _, rfl, h1, readVs_append ds es rest ys h2 h'⟩
theorem g_callV {t f : Nat} {args : Array Operand} {tys : Array TypeId} {caps : List Value} {ds ds' cds : List D} {Φ : R → Prop} (hF : Fn f (ds' ++ cds) Φ) (hc : ∀ base ok L (a : Act) w, Kn base ok L S a w → ReadVs ok w cds caps) (ho : o.op = .call { callee := .value (.tmp t), args := args, argTypes := tys }) (ht : look S.regs t = some (.val (.v (.func (.func f) #[] caps.toArray)))) (hx : evs S args.toList = some ds) (hR : RefineL S.facts ds ds') (hf : Enters f) : Grows ops S o Φ := fun base ok a w ha => by
  have h1 : a.eval (.tmp t) = .func (.func f) #[] caps.toArray := ev_v ha (x := .tmp t) ht (looks_callee ho)
  have hr := RefineL.readVs ha.facts _ _ _ hR (ha.evs _ _ hx fun u hu => looks_of (x := .tmp u) rfl (by rw [ho]; simp only [Op.operands, Call.operands]; simp; right; simpa using hu))
  rw [run_callV ho h1 hf]
  refine ⟨Gr.refl w, ?_⟩
  have := hF.go ok w _ ha.lt (readVs_append _ _ _ _ hr (hc _ _ _ a w ha))
  have he : (args.toList.map a.eval ++ caps).toArray = args.map a.eval ++ caps.toArray := by
    apply Array.ext'
    simp
  rw [he] at this
  refine this.mono ?_
  rintro e w' ⟨hg, v, r, rfl, hr, hv⟩
  exact ⟨v, rfl, hg, r, hr, hv⟩
theorem m_callV {t f : Nat} {args : Array Operand} {tys : Array TypeId} {caps : List Value} {ds ds' cds : List D} {Φ : R → List Obj → Prop} (hF : FnM f (ds' ++ cds) os Φ) (hc : ∀ base ok L (a : Act) w, Kn base ok L S a w → ReadVs ok w cds caps) (ho : o.op = .call { callee := .value (.tmp t), args := args, argTypes := tys }) (ht : look S.regs t = some (.val (.v (.func (.func f) #[] caps.toArray)))) (hx : evs S args.toList = some ds) (hR : RefineL S.facts ds ds') (hf : Enters f) : Muts ops S o os Φ := .mk fun base ok a w ha hown => by
  have h1 : a.eval (.tmp t) = .func (.func f) #[] caps.toArray := ev_v ha (x := .tmp t) ht (looks_callee ho)
  have hr := RefineL.readVs ha.facts _ _ _ hR (ha.evs _ _ hx fun u hu => looks_of (x := .tmp u) rfl (by rw [ho]; simp only [Op.operands, Call.operands]; simp; right; simpa using hu))
  rw [run_callV ho h1 hf]
  have := hF.go ok w _ ha.lt hown (readVs_append _ _ _ _ hr (hc _ _ _ a w ha))
  have he : (args.toList.map a.eval ++ caps).toArray = args.map a.eval ++ caps.toArray := by
    apply Array.ext'
    simp
  rw [he] at this
  simp only [setsTo]
  refine this.mono ?_
  rintro e w' ⟨v, r, os', rfl, h1, h2, h3⟩
  exact ⟨v, rfl, r, os', h1, h2, h3⟩
theorem P_callMV {t u ty f : Nat} {pos : String} {af : Array Edge} {gd : Option (Nat × Bool)} {args : Array Operand} {tys : Array TypeId} {caps : List Value} {ds ds' cds : List D} {os0 : List Obj} {Φ : R → List Obj → Prop} (hF : FnM f (ds' ++ cds) os Φ) (hc : ∀ base ok L (a : Act) w, Kn base ok L ⟨rs, rest, fs⟩ a w → ReadVs ok w cds caps) (hos : os0 = os ++ rest) (ht : look rs u = some (.val (.v (.func (.func f) #[] caps.toArray)))) (hx : evs (⟨rs, rest, fs⟩ : St) args.toList = some ds) (hR : RefineL fs ds ds') (hf : Enters f) (hg : guardOf ops ⟨rs, os ++ rest, fs⟩ ⟨some t, .call { callee := .value (.tmp u), args := args, argTypes := tys }, ty, pos, af, gd⟩ = some true) (hN : Nat.blt t N = true) (kk : ∀ r os', Φ r os' → EL X ops Q l ⟨(t, r) :: rs, os' ++ rest, fs⟩) : EL X ops Q (⟨some t, .call { callee := .value (.tmp u), args := args, argTypes := tys }, ty, pos, af, gd⟩ :: l) ⟨rs, os0, fs⟩ := by
  subst hos
  exact EL.mut hg (dst_lt rfl hN) (m_callV hF hc rfl ht hx hR hf) kk
theorem caps_v {caps : List Value} (h : ∀ x ∈ caps, x.oneCell' = true) : ReadVs ok w (caps.map .v) caps := by
  induction caps with
  | nil => rfl
  | cons x xs ih => exact ⟨x, xs, rfl, v_mk (h x (by simp)), ih fun y hy => h y (by simp [hy])⟩
theorem cutV_blk (v : Value) (k : Nat) : (cutV v k).ownBlock = v.ownBlock := by
  unfold cutV
  split
  · rename_i A n c
    cases A <;> rfl
  · rfl
theorem Le.cutRow {e z k : Nat} {v : Value} {ds : List D} (hk : k ≤ ds.length) (hset : SetAt os (.row v e z ds) (.row (cutV v k) e z (ds.take k)) os') : Le X ⟨rs, os, fs⟩ ⟨rs, os', fs⟩ := by
  obtain ⟨i, hi, rfl⟩ := hset.ix
  intro a w ha
  refine ha.turn hi (World.grownBy.refl w _) (.inl ?_) fun hok hcell => ?_
  · exact cutV_blk v k
  · have hat := (ha.mem.at_ _ (List.mem_of_getElem? hi)).move hok (fun _ _ => rfl) fun _ _ => rfl
    obtain ⟨rows, ⟨h1, h2⟩, h3⟩ := hat
    obtain ⟨hl1, hl2⟩ := ReadsRows.lens ds rows h3
    have hlen : (ds.take k).length = k := by rw [List.length_take]; omega
    have hb := cutV_blk v k
    refine ⟨rows.take k, ⟨⟨?_, ?_⟩, fun b hb' => h2 b (by rw [← hb]; exact hb')⟩, ReadsRows.take ds rows k h3⟩
    · rw [flat_take rows hl2, List.length_take, flat_len rows hl2, hl1, hlen]
      exact Nat.min_eq_left (Nat.mul_le_mul_right z hk)
    · rcases h1.2 with ⟨e1, e2⟩ | ⟨g, c, cur, e1, e2, e3, e4, e5, e6, e7⟩
      · refine .inl ⟨?_, by omega⟩
        rw [e1]
        have : k = 0 := by omega
        subst this
        rfl
      · refine .inr ⟨g, c, cur, by rw [e1, hlen]; rfl, e2, e3, by omega, e5, e6, ?_⟩
        rw [flat_take rows hl2, ← e7, hlen, List.take_take, Nat.min_eq_left (Nat.mul_le_mul_right z hk)]
/-! ### Pointers and nil -/
theorem ptrI {T : Nat} (h : ptrL.contains T = true) : ∃ e, Try.prog.underlying T = some (.pointer e) := by
  have := List.all_eq_true.1 ptrL_ok T (by simpa using h)
  unfold ptrB at this
  split at this
  · rename_i e he
    exact ⟨e, he⟩
  · cases this
end
end E
end Go.Proofs.Ytdhicdnmgmkpkaa
/-
  Words as numbers, in plain words: digits to a base, the lowest first; limbs of 8 bytes, digits of 2 bytes.
  Conditions: none. No program is named here.
-/
namespace Go.Proofs.Ytdhicdnmgmkpkaa
set_option linter.unusedVariables false
namespace Wd
open Rlp
def le (B : Nat) : List Nat → Nat
  | [] => 0
  | d :: ds => d + B * le B ds
theorem le_append (B : Nat) : ∀ a b : List Nat, le B (a ++ b) = le B a + B ^ a.length * le B b
  | [], b => by simp [le]
  | x :: a, b => by
    rw [List.cons_append, le, le_append B a b, le, List.length_cons, Nat.pow_succ, Nat.mul_add]
    have : B * (B ^ a.length * le B b) = B ^ a.length * B * le B b := by rw [← Nat.mul_assoc, Nat.mul_comm B]
    omega
theorem le_lt {B : Nat} : ∀ ds : List Nat, (∀ d ∈ ds, d < B) → le B ds < B ^ ds.length
  | [], _ => by simp [le]
  | d :: ds, h => by
    have h1 := h d (by simp)
    have h2 := le_lt ds fun x hx => h x (by simp [hx])
    rw [le, List.length_cons, Nat.pow_succ]
    calc d + B * le B ds < B + B * le B ds := by omega
      _ = B * (le B ds + 1) := by rw [Nat.mul_add]; omega
      _ ≤ B * B ^ ds.length := Nat.mul_le_mul_left _ h2
      _ = B ^ ds.length * B := Nat.mul_comm _ _
theorem le_inj {B : Nat} : ∀ a b : List Nat, a.length = b.length → (∀ d ∈ a, d < B) → (∀ d ∈ b, d < B) → le B a = le B b → a = b
  | [], [], _, _, _, _ => rfl
  | [], _ :: _, h, _, _, _ => by simp at h
  | _ :: _, [], h, _, _, _ => by simp at h
  | x :: a, y :: b, hl, ha, hb, h => by
    have hx := ha x (by simp)
    have hy := hb y (by simp)
    rw [le, le] at h
    have e1 : x = y := by
      have := congrArg (· % B) h
      simp only [Nat.add_mul_mod_self_left] at this
      rwa [Nat.mod_eq_of_lt hx, Nat.mod_eq_of_lt hy] at this
    subst e1
    have e2 : B * le B a = B * le B b := by omega
    rw [le_inj a b (by simpa using hl) (fun d hd => ha d (by simp [hd])) (fun d hd => hb d (by simp [hd])) (Nat.eq_of_mul_eq_mul_left (by omega) e2)]
theorem le_zeros (B n : Nat) : le B (List.replicate n 0) = 0 := by
  induction n with
  | zero => rfl
  | succ n ih => rw [List.replicate_succ, le, ih]; simp
def nb (w : List UInt8) : List Nat := w.map (·.toNat)
theorem nb_lt (w : List UInt8) : ∀ d ∈ nb w, d < 256 := fun d hd => by
  obtain ⟨b, _, rfl⟩ := List.mem_map.1 hd
  exact b.toNat_lt
theorem nb_length (w : List UInt8) : (nb w).length = w.length := List.length_map _
theorem val_le (w : List UInt8) : val w = le 256 (nb w.reverse) := by
  induction w with
  | nil => rfl
  | cons b w ih =>
    rw [val_cons, ih, List.reverse_cons]
    unfold nb
    rw [List.map_append, le_append]
    simp [le]
    rw [Nat.add_comm, Nat.mul_comm]
theorem nb_inj : ∀ a b : List UInt8, nb a = nb b → a = b
  | [], [], _ => rfl
  | [], _ :: _, h => by simp [nb] at h
  | _ :: _, [], h => by simp [nb] at h
  | x :: a, y :: b, h => by
    simp only [nb, List.map_cons, List.cons.injEq] at h
    rw [UInt8.toNat_inj.1 h.1, nb_inj a b h.2]
theorem val_inj (a b : List UInt8) (hl : a.length = b.length) (h : val a = val b) : a = b := by
  rw [val_le, val_le] at h
  have h1 := le_inj _ _ (by rw [nb_length, nb_length, List.length_reverse, List.length_reverse, hl]) (nb_lt _) (nb_lt _) h
  exact List.reverse_inj.1 (nb_inj _ _ h1)
def chunks (c : Nat) (ds : List Nat) (k : Nat) : List Nat := (List.range k).map fun m => le 256 ((ds.drop (c * m)).take c)
theorem chunks_succ (c : Nat) (ds : List Nat) (k : Nat) : chunks c ds (k + 1) = le 256 (ds.take c) :: chunks c (ds.drop c) k := by
  unfold chunks
  rw [List.range_succ_eq_map, List.map_cons, List.map_map]
  simp only [Nat.mul_zero, List.drop_zero, List.cons.injEq, true_and]
  refine List.map_congr_left fun m _ => ?_
  simp only [Function.comp, List.drop_drop]
  rw [show c + c * m = c * (m + 1) by rw [Nat.mul_add]; omega]
theorem le_chunks (c : Nat) : ∀ (k : Nat) (ds : List Nat), ds.length = c * k → le (256 ^ c) (chunks c ds k) = le 256 ds
  | 0, ds, h => by
    have : ds = [] := by simpa using h
    subst this
    rfl
  | k + 1, ds, h => by
    have hc : c ≤ ds.length := by rw [h, Nat.mul_add]; omega
    rw [chunks_succ, le, le_chunks c k (ds.drop c) (by rw [List.length_drop, h, Nat.mul_add]; omega)]
    conv => rhs; rw [← List.take_append_drop c ds, le_append]
    rw [List.length_take, Nat.min_eq_left hc]
theorem chunks_length (c : Nat) (ds : List Nat) (k : Nat) : (chunks c ds k).length = k := by simp [chunks]
theorem chunks_lt (c : Nat) (ds : List Nat) (k : Nat) (h : ∀ d ∈ ds, d < 256) : ∀ x ∈ chunks c ds k, x < 256 ^ c := fun x hx => by
  obtain ⟨m, _, rfl⟩ := List.mem_map.1 hx
  refine Nat.lt_of_lt_of_le (le_lt _ fun d hd => h d (List.mem_of_mem_drop (List.mem_of_mem_take hd))) (Nat.pow_le_pow_right (by decide) ?_)
  rw [List.length_take]
  omega
def bytesN (c l : Nat) : List Nat := (List.range c).map fun j => l / 256 ^ j % 256
theorem bytesN_succ (c l : Nat) : bytesN (c + 1) l = l % 256 :: bytesN c (l / 256) := by
  unfold bytesN
  rw [List.range_succ_eq_map, List.map_cons, List.map_map]
  simp only [Nat.pow_zero, Nat.div_one, List.cons.injEq, true_and]
  refine List.map_congr_left fun m _ => ?_
  simp only [Function.comp]
  rw [Nat.div_div_eq_div_mul, Nat.pow_succ, Nat.mul_comm 256]
theorem le_bytesN : ∀ c l : Nat, le 256 (bytesN c l) = l % 256 ^ c
  | 0, l => by simp [bytesN, le, Nat.mod_one]
  | c + 1, l => by
    rw [bytesN_succ, le, le_bytesN c (l / 256), Nat.pow_succ, Nat.mul_comm (256 ^ c), Nat.mod_mul]
theorem bytesN_length (c l : Nat) : (bytesN c l).length = c := by simp [bytesN]
theorem bytesN_lt (c l : Nat) : ∀ x ∈ bytesN c l, x < 256 := fun x hx => by
  obtain ⟨m, _, rfl⟩ := List.mem_map.1 hx
  exact Nat.mod_lt _ (by decide)
def unchunk (c : Nat) (ls : List Nat) : List Nat := ls.flatMap (bytesN c)
theorem le_unchunk (c : Nat) : ∀ ls : List Nat, (∀ l ∈ ls, l < 256 ^ c) → le 256 (unchunk c ls) = le (256 ^ c) ls
  | [], _ => rfl
  | l :: ls, h => by
    unfold unchunk
    rw [List.flatMap_cons, le_append, le_bytesN, bytesN_length, Nat.mod_eq_of_lt (h l (by simp)), le]
    rw [show List.flatMap (bytesN c) ls = unchunk c ls from rfl, le_unchunk c ls fun x hx => h x (by simp [hx])]
theorem unchunk_length (c : Nat) : ∀ ls : List Nat, (unchunk c ls).length = c * ls.length
  | [] => rfl
  | l :: ls => by
    unfold unchunk
    rw [List.flatMap_cons, List.length_append, bytesN_length, show List.flatMap (bytesN c) ls = unchunk c ls from rfl, unchunk_length c ls, List.length_cons, Nat.mul_add]
    omega
theorem unchunk_lt (c : Nat) (ls : List Nat) : ∀ x ∈ unchunk c ls, x < 256 := fun x hx => by
  obtain ⟨l, _, h⟩ := List.mem_flatMap.1 hx
  exact bytesN_lt c l x h
theorem unchunk_get (c : Nat) (hc : 0 < c) : ∀ (ls : List Nat) (p : Nat), p < c * ls.length → (unchunk c ls)[p]? = some (ls.getD (p / c) 0 / 256 ^ (p % c) % 256)
  | [], p, h => by simp at h
  | l :: ls, p, h => by
    unfold unchunk
    rw [List.flatMap_cons]
    rcases Nat.lt_or_ge p c with h1 | h1
    · rw [List.getElem?_append_left (by rw [bytesN_length]; exact h1), Nat.div_eq_of_lt h1, Nat.mod_eq_of_lt h1]
      simp [bytesN, h1]
    · rw [List.getElem?_append_right (by rw [bytesN_length]; exact h1), bytesN_length, show List.flatMap (bytesN c) ls = unchunk c ls from rfl, unchunk_get c hc ls (p - c) (by rw [List.length_cons, Nat.mul_add] at h; omega)]
      have e1 : p / c = (p - c) / c + 1 := by rw [← Nat.add_div_right _ hc]; congr 1; omega
      have e2 : p % c = (p - c) % c := by rw [← Nat.add_mod_right (p - c) c]; congr 1; omega
      rw [e1, e2, List.getD_cons_succ]
def wordOf (n : Nat) : List UInt8 := ((bytesN 32 n).map UInt8.ofNat).reverse
theorem wordOf_length (n : Nat) : (wordOf n).length = 32 := by simp [wordOf, bytesN_length]
theorem nb_ofNat (ds : List Nat) (h : ∀ d ∈ ds, d < 256) : nb (ds.map UInt8.ofNat) = ds := by
  unfold nb
  rw [List.map_map]
  refine (List.map_congr_left fun d hd => ?_).trans (List.map_id ds)
  simp only [Function.comp, id]
  exact Nat.mod_eq_of_lt (h d hd)
theorem val_wordOf (n : Nat) : val (wordOf n) = n % 256 ^ 32 := by
  unfold wordOf
  rw [val_le, List.reverse_reverse, nb_ofNat _ (bytesN_lt 32 n), le_bytesN]
theorem wordOf_val (w : List UInt8) (h : w.length = 32) : wordOf (val w) = w := val_inj _ _ (by rw [wordOf_length, h]) (by rw [val_wordOf, Nat.mod_eq_of_lt]; rw [← h]; exact val_lt w)
theorem word_unchunk (c : Nat) (ls : List Nat) (hl : c * ls.length = 32) (h : ∀ l ∈ ls, l < 256 ^ c) : ((unchunk c ls).map UInt8.ofNat).reverse = wordOf (le (256 ^ c) ls) := by
  refine val_inj _ _ (by rw [wordOf_length, List.length_reverse, List.length_map, unchunk_length, hl]) ?_
  rw [val_wordOf, val_le, List.reverse_reverse, nb_ofNat _ (unchunk_lt c ls), le_unchunk c ls h, Nat.mod_eq_of_lt]
  have := le_lt ls h
  rwa [← Nat.pow_mul, hl] at this
def limbsW (c k : Nat) (w : List UInt8) : List Nat := chunks c (nb w.reverse) k
theorem le_limbsW {c k : Nat} {w : List UInt8} (h : w.length = c * k) : le (256 ^ c) (limbsW c k w) = val w := by
  unfold limbsW
  rw [le_chunks c k _ (by rw [nb_length, List.length_reverse, h]), val_le]
theorem limbsW_lt (c k : Nat) (w : List UInt8) : ∀ x ∈ limbsW c k w, x < 256 ^ c := chunks_lt c _ k (nb_lt _)
theorem limbsW_length (c k : Nat) (w : List UInt8) : (limbsW c k w).length = k := chunks_length c _ k
/-! ### The order -/
def cmpN (n m : Nat) : Int := if n < m then -1 else if n > m then 1 else 0
theorem le_cmp {B : Nat} (d e : Nat) (ds es : List Nat) (hl : ds.length = es.length) (h1 : ∀ x ∈ ds, x < B) (h2 : ∀ x ∈ es, x < B) : (d < e → le B (ds ++ [d]) < le B (es ++ [e])) ∧ (d = e → ∀ n, le B (ds ++ [d]) < n + le B (es ++ [e]) ↔ le B ds < n + le B es) := by
  rw [le_append, le_append]
  simp only [le, Nat.mul_zero, Nat.add_zero]
  have g1 := le_lt ds h1
  have g2 := le_lt es h2
  rw [hl] at g1 ⊢
  refine ⟨fun h => ?_, fun h n => by subst h; omega⟩
  have : B ^ es.length * (d + 1) ≤ B ^ es.length * e := Nat.mul_le_mul_left _ h
  rw [Nat.mul_add] at this
  omega
theorem le_cons_at {B : Nat} (ls : List Nat) (p : Nat) (hp : p < ls.length) : le B ls = le B (ls.take p) + B ^ p * (ls[p] + B * le B (ls.drop (p + 1))) := by
  conv => lhs; rw [← List.take_append_drop p ls, le_append, List.length_take, Nat.min_eq_left (Nat.le_of_lt hp), List.drop_eq_getElem_cons hp, le]
theorem le_lt_at {B : Nat} (ls ms : List Nat) (hl : ls.length = ms.length) (h1 : ∀ x ∈ ls, x < B) (h2 : ∀ x ∈ ms, x < B) (p : Nat) (hp : p < ls.length) (he : ls.drop (p + 1) = ms.drop (p + 1)) (hlt : ls[p] < ms[p]'(by omega)) : le B ls < le B ms := by
  rw [le_cons_at ls p hp, le_cons_at ms p (by omega), he]
  have g1 := le_lt (ls.take p) fun x hx => h1 x (List.mem_of_mem_take hx)
  rw [List.length_take, Nat.min_eq_left (Nat.le_of_lt hp)] at g1
  have : B ^ p * (ls[p] + B * le B (ms.drop (p + 1)) + 1) ≤ B ^ p * (ms[p]'(by omega) + B * le B (ms.drop (p + 1))) := Nat.mul_le_mul_left _ (by omega)
  rw [Nat.mul_add] at this
  omega
/-! ### A word's bytes laid in, the highest first -/
def msk (w : List UInt8) (i : Nat) : List Nat := List.replicate (32 - i) 0 ++ (nb w.reverse).drop (32 - i)
theorem le_set {B : Nat} : ∀ (ds : List Nat) (k b : Nat), ds[k]? = some 0 → le B (ds.set k b) = le B ds + B ^ k * b
  | [], k, b, h => by simp at h
  | d :: ds, 0, b, h => by
    cases h
    simp [le]
    omega
  | d :: ds, k + 1, b, h => by
    rw [List.set_cons_succ, le, le_set ds k b (by simpa using h), le, Nat.mul_add, Nat.pow_succ, ← Nat.mul_assoc, Nat.mul_comm B (B ^ k)]
    omega
theorem chunk_set (c : Nat) (hc : 0 < c) (ds : List Nat) (k b m : Nat) (hk : ds[k]? = some 0) : le 256 (((ds.set k b).drop (c * m)).take c) = if m = k / c then le 256 ((ds.drop (c * m)).take c) + 256 ^ (k % c) * b else le 256 ((ds.drop (c * m)).take c) := by
  have hdm := Nat.div_add_mod k c
  have hml := Nat.mod_lt k hc
  by_cases hm : m = k / c
  · subst hm
    rw [if_pos rfl]
    have : ((ds.set k b).drop (c * (k / c))).take c = ((ds.drop (c * (k / c))).take c).set (k % c) b := by
      rw [List.drop_set, if_neg (by omega), show k - c * (k / c) = k % c by omega, List.take_set]
    rw [this]
    refine le_set _ _ _ ?_
    rw [List.getElem?_take, if_pos hml, List.getElem?_drop, hdm]
    exact hk
  · rw [if_neg hm]
    congr 1
    rcases Nat.lt_or_gt_of_ne hm with h | h
    · have h1 : c * (m + 1) ≤ c * (k / c) := Nat.mul_le_mul_left c h
      rw [Nat.mul_add, Nat.mul_one] at h1
      rw [List.drop_set, if_neg (by omega), List.take_set, List.set_eq_of_length_le (by rw [List.length_take]; omega)]
    · have h1 : c * (k / c + 1) ≤ c * m := Nat.mul_le_mul_left c h
      rw [Nat.mul_add, Nat.mul_one] at h1
      rw [List.drop_set, if_pos (by omega)]
theorem chunks_set (c n : Nat) (hc : 0 < c) (ds : List Nat) (k b : Nat) (hk : ds[k]? = some 0) (hkn : k / c < n) : chunks c (ds.set k b) n = (chunks c ds n).set (k / c) ((chunks c ds n).getD (k / c) 0 + 256 ^ (k % c) * b) := by
  refine List.ext_getElem? fun m => ?_
  rw [List.getElem?_set]
  simp only [chunks_length]
  by_cases hm : m < n
  · have h1 : ∀ es, (chunks c es n)[m]? = some (le 256 ((es.drop (c * m)).take c)) := fun es => by simp [chunks, hm]
    have h2 : (chunks c ds n).getD (k / c) 0 = le 256 ((ds.drop (c * (k / c))).take c) := by simp [chunks, hkn]
    rw [h1, h1, h2, chunk_set c hc ds k b m hk]
    by_cases e : m = k / c
    · subst e
      simp [hkn]
    · rw [if_neg e, if_neg fun e' => e e'.symm]
  · have h1 : ∀ es, (chunks c es n)[m]? = none := fun es => by simp [chunks]; omega
    rw [h1, h1]
    split
    · simp_all
    · rfl
theorem rev_get (w : List UInt8) (hw : w.length = 32) (i : Nat) (hi : i < 32) : (nb w.reverse)[31 - i]? = some (w[i]'(by omega)).toNat := by
  unfold nb
  rw [List.getElem?_map, List.getElem?_reverse (by omega), show w.length - 1 - (31 - i) = i by omega, List.getElem?_eq_getElem (by omega)]
  rfl
theorem msk_length (w : List UInt8) (hw : w.length = 32) (i : Nat) (hi : i ≤ 32) : (msk w i).length = 32 := by
  unfold msk
  rw [List.length_append, List.length_replicate, List.length_drop, nb_length, List.length_reverse, hw]
  omega
theorem msk_zero (w : List UInt8) (i : Nat) (hi : i < 32) : (msk w i)[31 - i]? = some 0 := by
  unfold msk
  rw [List.getElem?_append_left (by rw [List.length_replicate]; omega), List.getElem?_replicate, if_pos (by omega)]
theorem msk_succ (w : List UInt8) (hw : w.length = 32) (i : Nat) (hi : i < 32) : msk w (i + 1) = (msk w i).set (31 - i) (w[i]'(by omega)).toNat := by
  have hg := rev_get w hw i hi
  obtain ⟨hlt, hg'⟩ := List.getElem?_eq_some_iff.1 hg
  unfold msk
  rw [show 32 - (i + 1) = 31 - i by omega, show 32 - i = (31 - i) + 1 by omega, List.replicate_succ', List.append_assoc]
  rw [List.set_append_right _ _ (by rw [List.length_replicate]; exact Nat.le_refl _), List.length_replicate, Nat.sub_self, List.singleton_append, List.set_cons_zero]
  congr 1
  rw [List.drop_eq_getElem_cons hlt, hg']
theorem msk_low (w : List UInt8) (i k : Nat) (hk : k < 32 - i) : (msk w i)[k]? = some 0 := by
  unfold msk
  rw [List.getElem?_append_left (by rw [List.length_replicate]; exact hk), List.getElem?_replicate, if_pos hk]
theorem msk_0 (w : List UInt8) (hw : w.length = 32) : msk w 0 = List.replicate 32 0 := by
  unfold msk
  rw [List.drop_eq_nil_of_le (by rw [nb_length, List.length_reverse, hw]; exact Nat.le_refl _), List.append_nil]
theorem msk_32 (w : List UInt8) : msk w 32 = nb w.reverse := by simp [msk]
theorem le_low {B : Nat} (hB : 0 < B) : ∀ (ds : List Nat) (j : Nat), (∀ k < j, ds[k]? = some 0) → ∃ q, le B ds = B ^ j * q
  | ds, 0, _ => ⟨le B ds, by simp⟩
  | [], j + 1, h => by have := h 0 (by omega); simp at this
  | d :: ds, j + 1, h => by
    have h0 : d = 0 := by have := h 0 (by omega); simpa using this
    obtain ⟨q, hq⟩ := le_low hB ds j fun k hk => by have := h (k + 1) (by omega); simpa using this
    exact ⟨q, by rw [le, h0, hq, Nat.zero_add, Nat.pow_succ, ← Nat.mul_assoc, Nat.mul_comm B]⟩
theorem limb_low (w : List UInt8) (i : Nat) (hi : i < 32) : ∃ q, (chunks 8 (msk w i) 4).getD ((31 - i) / 8) 0 = 256 ^ ((31 - i) % 8 + 1) * q := by
  have h2 : (chunks 8 (msk w i) 4).getD ((31 - i) / 8) 0 = le 256 (((msk w i).drop (8 * ((31 - i) / 8))).take 8) := by
    have : (31 - i) / 8 < 4 := by omega
    simp [chunks, this]
  rw [h2]
  refine le_low (by decide) _ _ fun k hk => ?_
  rw [List.getElem?_take, if_pos (by omega), List.getElem?_drop]
  exact msk_low w i _ (by omega)
theorem or_add (m x y : Nat) (q : Nat) (hx : x = 2 ^ m * q) (hy : y < 2 ^ m) : x ||| y = x + y := by
  subst hx
  exact (Nat.two_pow_add_eq_or_of_lt hy q).symm
end Wd
end Go.Proofs.Ytdhicdnmgmkpkaa
/-
  The abstract machine: loops that go round a known number of times, arrays of numbers, calls without a body.
  Conditions: none.
-/
namespace Go.Proofs.Ytdhicdnmgmkpkaa
set_option linter.unusedVariables false
open Go.RowKit Mono Rlp
namespace E
section
variable {N : Nat} {X : Cx N} {S S' : St} {a : Act} {w w' : World} {ops : Array Oper} {o : Oper} {Q : Exit → Act → World → Prop} {K : Act → World → Prop} {l : List Oper} {c : Code} {TT : St → List Fr → Prop} {EE : List Fr} {rs : List (Tmp × R)} {os os' rest : List Obj} {fs : List (Value × D)} {base ok : Nat → Prop}
theorem EC.loopN (n : Nat) (h : EK X (Code.rounds Try.prog c Q n) S) : EC X Q (.loop c) S := ⟨fun a w ha => wp_loop_rounds n (h.go a w ha)⟩
theorem EK.round {n : Nat} (h : EC X (Exit.then (Code.rounds Try.prog c Q n) Q) c S) : EK X (Code.rounds Try.prog c Q (n + 1)) S := ⟨fun a w ha => h.go a w ha⟩
theorem subL_vs : ∀ (xs : List Value) (k : Nat) (hk : k < xs.length), D.subL (xs.map .v) k 1 false = some (.v xs[k])
  | [], k, hk => by simp at hk
  | x :: xs, 0, _ => by
    rw [List.map_cons, D.subL, if_pos (by simp [D.size])]
    simp [D.sub]
  | x :: xs, k + 1, hk => by
    rw [List.map_cons, D.subL, if_neg (by simp [D.size])]
    have : k + 1 - (D.v x).size = k := by simp [D.size]
    rw [this, subL_vs xs k (by simpa using hk)]
    rfl
theorem sub_vs {xs : List Value} {k : Nat} {x : Value} (h : xs[k]? = some x) : (D.tup (xs.map .v)).sub k 1 false = some (.v x) := by
  obtain ⟨hk, rfl⟩ := List.getElem?_eq_some_iff.1 h
  rw [D.sub, if_neg (by simp), subL_vs xs k hk]
theorem updL_vs : ∀ (xs : List Value) (k : Nat) (y : Value) (hk : k < xs.length), D.updL (xs.map .v) k (.v y) = some ((xs.set k y).map .v)
  | [], k, y, hk => by simp at hk
  | x :: xs, 0, y, _ => by
    rw [List.map_cons, D.updL, if_pos (by simp [D.size])]
    simp [D.upd, D.size, D.agg]
  | x :: xs, k + 1, y, hk => by
    rw [List.map_cons, D.updL, if_neg (by simp [D.size])]
    have : k + 1 - (D.v x).size = k := by simp [D.size]
    rw [this, updL_vs xs k y (by simpa using hk)]
    rfl
theorem upd_vs {xs : List Value} {k : Nat} (y : Value) (hk : k < xs.length) : (D.tup (xs.map .v)).upd k (.v y) = some (.tup ((xs.set k y).map .v)) := by
  rw [D.upd, if_neg (by simp [D.agg]), updL_vs xs k y hk]
  rfl
theorem g_indexarr {x y : Operand} {T n e z : Nat} {k : Int} {m : List UInt8} {b : UInt8} (ho : o.op = .index T x y) (hx : ev S x = some (.val (.arr n m))) (hy : ev S y = some (.val (.v (.int .i64 k)))) (hT : assoc arL T = some (n, e, z)) (he : Try.prog.underlying e = some (.int .u8) ∧ z = 1) (hk : 0 ≤ k ∧ m[k.toNat]? = some b) : Still ops S o (.val (.v (bv b))) := fun base ok a w ha => by
  obtain ⟨h1, h2⟩ := arrV_of (ha.ev hx (looks_op (by rw [ho]; simp [Op.operands])))
  have hy' := ev_v ha hy (looks_op (by rw [ho]; simp [Op.operands]))
  obtain ⟨hk', rfl⟩ := List.getElem?_eq_some_iff.1 hk.2
  obtain ⟨he, rfl⟩ := he
  refine ⟨_, ?_, v_mk rfl⟩
  have hlt : k < (n : Int) := by omega
  have hA := arI' hT
  have hr : (Instr.index T (arrV m) (.int .i64 k)).run Try.prog w = .ok (bv m[k.toNat]) w := by
    unfold Instr.index arrV
    have h0 := hk.1
    have hc : ((bvs m).toArray)[k.toNat]? = some (bv m[k.toNat]) := by simp [bvs, hk']
    simp [run_underlying hA.und, asIntOf, h0, hlt, run_size hA.size, part, isAgg, run_underlying he, bvs, hk']
  unfold execOp
  simp only [ho, h2, hy', Sem.run_bind, hr, Result.andThen_ok, Sem.run_pure]
theorem P_indexarr {t ty : Nat} {pos : String} {af : Array Edge} {gd : Option (Nat × Bool)} {x y : Operand} {T n e z : Nat} {k : Int} {m : List UInt8} {b : UInt8} (he : Try.prog.underlying e = some (.int .u8) ∧ z = 1) (hk : 0 ≤ k ∧ m[k.toNat]? = some b) (hx : ev (⟨rs, os, fs⟩ : St) x = some (.val (.arr n m))) (hy : ev (⟨rs, os, fs⟩ : St) y = some (.val (.v (.int .i64 k)))) (hT : assoc arL T = some (n, e, z)) (hg : guardOf ops ⟨rs, os, fs⟩ ⟨some t, .index T x y, ty, pos, af, gd⟩ = some true) (hN : Nat.blt t N = true) (kk : EL X ops Q l ⟨(t, .val (.v (bv b))) :: rs, os, fs⟩) : EL X ops Q (⟨some t, .index T x y, ty, pos, af, gd⟩ :: l) ⟨rs, os, fs⟩ := ES.still (g_indexarr rfl hx hy hT he hk) hg rfl hN kk
theorem g_ext {f : FuncId} {args : Array Operand} {tys : Array TypeId} {xs vs : List Value} (hrun : ∀ w, (callFunc f xs.toArray).run Try.prog w = .ok (.value (.tuple vs.toArray)) w) (hvs : ∀ x ∈ vs, x.oneCell' = true) (ho : o.op = .call { callee := .value (.func f), args := args, argTypes := tys }) (hx : evvs S args.toList = some xs) : Still ops S o (.tpl (vs.map .v)) := fun base ok a w ha => by
  have h1 := evvs_eval args.toList xs hx (fun t ht => looks_of (x := .tmp t) rfl (by rw [ho]; simp only [Op.operands, Call.operands]; simp; simpa using ht)) ha
  have h2 : args.map a.eval = xs.toArray := by
    apply Array.ext'
    simpa using h1
  refine ⟨.tuple vs.toArray, ?_, vs, rfl, caps_v hvs⟩
  unfold execOp
  simp [ho, resolve, Act.eval, Deferred.ofValue, invoke, h2, hrun]
theorem ES.ext {t : Tmp} {f : FuncId} {args : Array Operand} {tys : Array TypeId} {xs vs : List Value} (hrun : ∀ w, (callFunc f xs.toArray).run Try.prog w = .ok (.value (.tuple vs.toArray)) w) (hvs : ∀ x ∈ vs, x.oneCell' = true) (ho : o.op = .call { callee := .value (.func f), args := args, argTypes := tys }) (hx : evvs (⟨rs, os, fs⟩ : St) args.toList = some xs) (hg : guardOf ops ⟨rs, os, fs⟩ o = some true) (hd : o.dst = some t) (hN : Nat.blt t N = true) (k : EL X ops Q l ⟨(t, .tpl (vs.map .v)) :: rs, os, fs⟩) : EL X ops Q (o :: l) ⟨rs, os, fs⟩ := ES.still (g_ext hrun hvs ho hx) hg hd hN k
theorem EH.ext {t : Tmp} {f : FuncId} {args : Array Operand} {tys : Array TypeId} {xs vs : List Value} (hrun : ∀ w, (callFunc f xs.toArray).run Try.prog w = .ok (.value (.tuple vs.toArray)) w) (hvs : ∀ x ∈ vs, x.oneCell' = true) (ho : o.op = .call { callee := .value (.func f), args := args, argTypes := tys }) (hx : evvs (⟨rs, os, fs⟩ : St) args.toList = some xs) (hg : guardOf ops ⟨rs, os, fs⟩ o = some true) (ht : o.dst = some t) (hd : offB N (some t) EE = true) (k : EM N ops TT l ⟨(t, .tpl (vs.map .v)) :: rs, os, fs⟩ EE) : EM N ops TT (o :: l) ⟨rs, os, fs⟩ EE := EH.still (g_ext hrun hvs ho hx) hg ht hd k
theorem P_ext {t ty f : Nat} {pos : String} {af : Array Edge} {gd : Option (Nat × Bool)} {args : Array Operand} {tys : Array TypeId} {xs vs : List Value} (hrun : ∀ w, (callFunc f xs.toArray).run Try.prog w = .ok (.value (.tuple vs.toArray)) w) (hvs : ∀ x ∈ vs, x.oneCell' = true) (hx : evvs (⟨rs, os, fs⟩ : St) args.toList = some xs) (hg : guardOf ops ⟨rs, os, fs⟩ ⟨some t, .call { callee := .value (.func f), args := args, argTypes := tys }, ty, pos, af, gd⟩ = some true) (hN : Nat.blt t N = true) (kk : EL X ops Q l ⟨(t, .tpl (vs.map .v)) :: rs, os, fs⟩) : EL X ops Q (⟨some t, .call { callee := .value (.func f), args := args, argTypes := tys }, ty, pos, af, gd⟩ :: l) ⟨rs, os, fs⟩ := ES.ext hrun hvs rfl hx hg rfl hN kk
theorem H_ext {t ty f : Nat} {pos : String} {af : Array Edge} {gd : Option (Nat × Bool)} {args : Array Operand} {tys : Array TypeId} {xs vs : List Value} (hrun : ∀ w, (callFunc f xs.toArray).run Try.prog w = .ok (.value (.tuple vs.toArray)) w) (hvs : ∀ x ∈ vs, x.oneCell' = true) (hx : evvs (⟨rs, os, fs⟩ : St) args.toList = some xs) (hg : guardOf ops ⟨rs, os, fs⟩ ⟨some t, .call { callee := .value (.func f), args := args, argTypes := tys }, ty, pos, af, gd⟩ = some true) (hoff : offB N (some t) EE = true) (kk : EM N ops TT l ⟨(t, .tpl (vs.map .v)) :: rs, os, fs⟩ EE) : EM N ops TT (⟨some t, .call { callee := .value (.func f), args := args, argTypes := tys }, ty, pos, af, gd⟩ :: l) ⟨rs, os, fs⟩ EE := EH.ext hrun hvs rfl hx hg rfl hoff kk
theorem H_indexptr {t ty : Nat} {pos : String} {af : Array Edge} {gd : Option (Nat × Bool)} {x y : Operand} {T n e z g off : Nat} {k : Int} (hx : ev (⟨rs, os, fs⟩ : St) x = some (.val (.v (.pointer (some ⟨g, off, none⟩))))) (hy : ev (⟨rs, os, fs⟩ : St) y = some (.val (.v (.int .i64 k)))) (hT : assoc arL T = some (n, e, z)) (hk : 0 ≤ k ∧ k.toNat < n) (hg : guardOf ops ⟨rs, os, fs⟩ ⟨some t, .indexAddr T x y, ty, pos, af, gd⟩ = some true) (hoff : offB N (some t) EE = true) (kk : EM N ops TT l ⟨(t, .val (.v (.pointer (some ⟨g, off + k.toNat * z, none⟩)))) :: rs, os, fs⟩ EE) : EM N ops TT (⟨some t, .indexAddr T x y, ty, pos, af, gd⟩ :: l) ⟨rs, os, fs⟩ EE := EH.still (g_index_ptr rfl hx hy (arI' hT) hk.1 hk.2) hg rfl hoff kk
theorem g_conv {T U : TypeId} {x : Operand} {p q : Value} (ho : o.op = .convert T U x) (hx : ev S x = some (.val (.v p))) (hrun : ∀ w, (Go.convert T U p).run Try.prog w = .ok q w) (hq : q.oneCell' = true) : Still ops S o (.val (.v q)) := fun base ok a w ha => by
  have h1 := ev_v ha hx (looks_op (by rw [ho]; simp [Op.operands]))
  refine ⟨q, ?_, v_mk hq⟩
  unfold execOp
  simp only [ho, h1, Sem.run_bind, hrun, Result.andThen_ok, Sem.run_pure]
theorem H_conv {t ty T U : Nat} {pos : String} {af : Array Edge} {gd : Option (Nat × Bool)} {x : Operand} {p q : Value} (hx : ev (⟨rs, os, fs⟩ : St) x = some (.val (.v p))) (hrun : ∀ w, (Go.convert T U p).run Try.prog w = .ok q w) (hq : q.oneCell' = true) (hg : guardOf ops ⟨rs, os, fs⟩ ⟨some t, .convert T U x, ty, pos, af, gd⟩ = some true) (hoff : offB N (some t) EE = true) (kk : EM N ops TT l ⟨(t, .val (.v q)) :: rs, os, fs⟩ EE) : EM N ops TT (⟨some t, .convert T U x, ty, pos, af, gd⟩ :: l) ⟨rs, os, fs⟩ EE := EH.still (g_conv rfl hx hrun hq) hg rfl hoff kk
theorem conv_int {T U : Nat} {k k' : IntKind} {de : TypeDesc} (hu : Try.prog.underlying T = some de) (hu' : Try.prog.underlying U = some (.int k')) (m n : Int) (h : k'.wrap m = n) : ∀ w, (Go.convert T U (.int k m)).run Try.prog w = .ok (.int k' n) w := fun w => by
  subst h
  simp [convert, run_underlying hu, run_underlying hu', Conv.intToInt]
theorem bin_of {op : BinOp} {T : TypeId} {k k' : IntKind} {m n : Int} {c : Value} (hc : c.oneCell' = true) (h : ∀ w, (binOp op T (.int k m) (.int k' n)).run Try.prog w = .ok c w) : Bin op T (.v (.int k m)) (.v (.int k' n)) c := by
  refine ⟨hc, fun ok w p q hp hq => ?_⟩
  obtain ⟨_, rfl⟩ := readV_v.1 hp
  obtain ⟨_, rfl⟩ := readV_v.1 hq
  exact ⟨fun x y => by cases op <;> simp [eqGuard], h w⟩
theorem rows_rep (z : Value) (hz : z.oneCell' = true) : ∀ n : Nat, ReadsRows ok w 1 (List.replicate n (.v z)) (List.replicate n [z])
  | 0 => by rw [List.replicate_zero, List.replicate_zero, ReadsRows]
  | n + 1 => by
    rw [List.replicate_succ, List.replicate_succ, ReadsRows]
    exact ⟨_, _, rfl, rfl, by rw [Reads]; exact ⟨hz, rfl⟩, rows_rep z hz n⟩
theorem m_make {T e y' n : Nat} {x : Operand} {z : Value} (hn : n * y' ≤ 281474976710656 ∧ n ≤ 9223372036854775807) (ho : o.op = .makeSlice T x x) (hx : ev S x = some (.val (.v (.int .i64 (n : Int))))) (hT : assoc slL T = some (e, 1, y')) (hz : assoc zeroL e = some (.v z)) : Muts ops S o [] (fun r os' => ∃ v, r = .val (.v v) ∧ os' = [.row v e 1 (List.replicate n (.v z))]) := .mk fun base ok a w ha hown => by
  have h1 := ev_v ha hx (looks_op (by rw [ho]; simp [Op.operands]))
  have hS := slTI hT rfl
  obtain ⟨i, zv, hi, hzv, hsz, hby, hcs⟩ := hS.info
  obtain ⟨zv', hz1, hz2⟩ := zeroI hz
  obtain rfl : zv' = zv := by
    rw [hi] at hz1
    have : i.zero = some zv' := by simpa using hz1
    exact Option.some.inj (this.symm.trans hzv)
  have hzr := hz2 (fun _ => True) w
  rw [Reads] at hzr
  have hcell : zv'.cells = #[z] := by
    apply Array.ext'
    simpa using hzr.2
  have hb' : (i.bytes : Int) * (n : Int) ≤ 281474976710656 := by
    have h0 := hn.1
    have : ((n * y' : Nat) : Int) ≤ 281474976710656 := by omega
    rw [Int.natCast_mul, Int.mul_comm] at this
    rw [hby]
    exact this
  have hrun := run_make (P := Try.prog) w T e i zv' hS.und hi hzv .i64 .i64 (n : Int) (n : Int) (by omega) (Int.le_refl _) hb' (by omega)
  rw [Int.toNat_natCast, hsz, Nat.mul_one, hcell] at hrun
  have hmc : madeCells #[z] n = (List.replicate n z).toArray := by
    apply Array.ext'
    simp [madeCells, Nat.mod_one]
    apply List.ext_getElem
    · simp
    · intro k h1 h2
      simp
  rw [hmc] at hrun
  have hr : (execOp a.eval o).run Try.prog w = .ok (.value (.slice (some ⟨w.heap.size, 0, none⟩) n n)) (w.alloc (.cells (List.replicate n z).toArray e)) := by
    unfold execOp
    simp only [ho, h1, Sem.run_bind, hrun, Result.andThen_ok, Sem.run_pure]
  rw [hr]
  have hflat : (List.replicate n [z]).flatten = List.replicate n z := by
    induction n with
    | zero => rfl
    | succ n ih => rw [List.replicate_succ, List.flatten_cons, List.replicate_succ]; simp
  obtain ⟨g1, g2⟩ := m_new (ok := ok) (w := w) (q := .row (.slice (some ⟨w.heap.size, 0, none⟩) n n) e 1 (List.replicate n (.v z))) (r := .val (.v (.slice (some ⟨w.heap.size, 0, none⟩) n n))) (ob := .cells (List.replicate n z).toArray e) (v := .slice (some ⟨w.heap.size, 0, none⟩) n n) rfl (fun ok' hk => ⟨List.replicate n [z], ⟨by
    have := own_lit w (List.replicate n z).toArray e 1 n w.heap.size 0 rfl (Nat.zero_le _) (by simp [maxLen]; omega) (by simp)
    rw [List.length_replicate, hflat]
    exact this, fun b hb => by cases hb; exact .inr (Nat.le_refl _)⟩, rows_rep z hzr.1 n⟩) (fun _ => v_mk rfl) ha.lt
  exact ⟨_, _, ⟨_, rfl, rfl⟩, g1, g2⟩
theorem P_make {t T e y' n ty : Nat} {pos : String} {af : Array Edge} {gd : Option (Nat × Bool)} {x : Operand} {z : Value} (hn : n * y' ≤ 281474976710656 ∧ n ≤ 9223372036854775807) (hx : ev (⟨rs, os, fs⟩ : St) x = some (.val (.v (.int .i64 (n : Int))))) (hT : assoc slL T = some (e, 1, y')) (hz : assoc zeroL e = some (.v z)) (hg : guardOf ops ⟨rs, os, fs⟩ ⟨some t, .makeSlice T x x, ty, pos, af, gd⟩ = some true) (hN : Nat.blt t N = true) (kk : ∀ v, EL X ops Q l ⟨(t, .val (.v v)) :: rs, .row v e 1 (List.replicate n (.v z)) :: os, fs⟩) : EL X ops Q (⟨some t, .makeSlice T x x, ty, pos, af, gd⟩ :: l) ⟨rs, os, fs⟩ :=
  EL.mut (os := []) (rest := os) hg (dst_lt rfl hN) (m_make hn rfl hx hT hz) fun r os' ⟨v, h1, h2⟩ => by
    subst h1 h2
    exact kk v
end
end E
end Go.Proofs.Ytdhicdnmgmkpkaa
