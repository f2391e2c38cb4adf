/-
  Merged (wip/tools/merge.py): ES, WPlain, EU, ST1.
  Conditions: none.
-/
import Derived.Test.YtdhicdnmgmkpkaaGreatZC11
import Derived.Test.YtdhicdnmgmkpkaaGreatZC5
import Derived.LoopN
import Derived.Laws.Externs
import Derived.Laws.MakeOwn
import Derived.Test.YtdhicdnmgmkpkaaGreatZC7
import Derived.Laws.Pointers
/-
  The abstract machine's rules for what is written: maps, rows, pieces through calls; calls of function values.
  Conditions: none.
-/
namespace Go.Proofs.YtdhicdnmgmkpkaaGreat
set_option linter.unusedVariables false
open Go.RowKit Mono Rlp
namespace E
section
variable {N : Nat} {X : Cx N} {S S' : St} {a : Act} {w w' : World} {ops : Array Oper} {o : Oper} {Q : Exit → Act → World → Prop} {l : List Oper} {TT : St → List Fr → Prop} {EE : List Fr} {rs : List (Tmp × R)} {os os' rest : List Obj} {fs : List (Value × D)} {base ok : Nat → Prop} {p q : Obj}
theorem EL.put (i : Nat) (hg : guardOf ops S o = some true) (hd : o.dst = none) (hP : Puts ops S o p q) (hi : S.objs[i]? = some p) (k : EL X ops Q l ⟨S.regs, S.objs.set i q, S.facts⟩) : EL X ops Q (o :: l) S := by
  constructor
  intro a w ha
  obtain ⟨hq, hP⟩ := hP
  have hmem := List.mem_of_getElem? hi
  obtain ⟨w', g, h1, h2, h3, h4⟩ := hP _ _ a w (ha.kn _) (fun g hb hk => hk.2.2 p hmem hb) (ha.mem.at_ p hmem)
  unfold wpList
  rw [if_pos (wanted_of ha hg)]
  refine .inl ?_
  unfold Oper.wp
  rw [h1]
  simp only [Oper.upon_skip, hd, Act.put]
  exact k.go _ _ (ha.turn hi (by rw [h2]; exact h3) (.inl hq) fun hok hcell => h4.move hok (fun _ _ => rfl) fun _ _ => rfl)
theorem m_put (hP : Puts ops S o p q) : Muts ops S o [p] (fun r os' => r = .any ∧ os' = [q]) := .mk fun base ok a w ha hown => by
  obtain ⟨hq, hP⟩ := hP
  obtain ⟨w', g, h1, h2, h3, h4⟩ := hP (fun _ => True) ok a w ⟨fun o ho => (ha.objs o ho).rebase fun _ _ => trivial, ha.facts, ha.lt, ha.regs⟩ (fun g hb => hown.off g ⟨p, by simp, hb⟩) (hown.at_ p (by simp))
  rw [h1]
  have hB : ∀ b, Blks [p] b ↔ b = g := fun b => ⟨fun ⟨o, ho, e⟩ => by
    obtain rfl : o = p := by simpa using ho
    rw [h2] at e
    injection e with e
    exact e.symm, fun e => ⟨p, by simp, by rw [e]; exact h2⟩⟩
  refine ⟨.any, [q], ⟨rfl, rfl⟩, ⟨⟨h3.os, h3.tape, h3.output, h3.size, fun k hk hn => h3.block k hk fun e => hn ((hB k).2 (by injection e))⟩, by simp, fun o ho => ?_⟩, trivial⟩
  obtain rfl : o = q := by simpa using ho
  refine (h4.move (fun b hb => ⟨.inl hb, Nat.lt_of_lt_of_le (ha.lt b hb) h3.size, fun o' ho' e => ?_⟩) (fun _ _ => rfl) fun _ _ => rfl).rebase fun b e => .inl ⟨p, by simp, by rw [← hq]; exact e⟩
  obtain rfl : o' = o := by simpa using ho'
  exact hown.off b ⟨p, by simp, by rw [← hq]; exact e⟩ hb
theorem put_mapUpd {T K n E g c : Nat} {x y z : Operand} {es : List Ent} {l1 : List UInt8} {d : D} (ho : o.op = .mapUpdate T x y z) (hx : ev S x = some (.val (.v (.map (some g))))) (hy : ev S y = some (.val (.arr n l1))) (hz : ev S z = some (.val d)) (hT : assoc mapL T = some (K, n, E)) : Puts ops S o (.map g n c es) (.map g n (tickE c es l1) (putE c es l1 d)) := by
  refine ⟨rfl, fun base ok a w ha hno hat => ?_⟩
  have h1 := ev_v ha hx (looks_op (by rw [ho]; simp [Op.operands]))
  obtain ⟨h2, h3⟩ := arrV_of (ha.ev hy (looks_op (by rw [ho]; simp [Op.operands])))
  obtain ⟨w', h4, h5, h6⟩ := run_mapUpdate (mapI hT).1 (mapI hT).2 hat l1 h2 (ha.ev hz (looks_op (by rw [ho]; simp [Op.operands]))) (hno g rfl)
  refine ⟨w', g, ?_, rfl, h5, h6⟩
  unfold execOp
  simp only [ho, h1, h3, Sem.run_bind, h4, Result.andThen_ok, Sem.run_pure]
theorem put_rowstore {T e z n k off : Nat} {x y : Operand} {v : Value} {ds : List D} {d d' d'' : D} (hk : n = k * z + off ∧ ds[k]? = some d) (ho : o.op = .store T x y) (hx : ev S x = some (.val (.v (elemPtr v n)))) (hy : ev S y = some (.val d')) (hT : assoc tyL T = some (d'.size, d'.agg)) (hu : d.upd off d' = some d'') : Puts ops S o (.row v e z ds) (.row v e z (ds.set k d'')) := by
  refine ⟨rfl, fun base ok a w ha hno hat => ?_⟩
  have hx' := ev_v ha hx (looks_op (by rw [ho]; simp [Op.operands]))
  obtain ⟨cs', h1, h2⟩ := ha.ev hy (looks_op (by rw [ho]; simp [Op.operands]))
  have hk' := (List.getElem?_eq_some_iff.1 hk.2).1
  obtain ⟨g, c, cur, rows, H⟩ := row_in hat (by omega)
  obtain ⟨r, A, B, g1, g2, g3, g4, g5, g6⟩ := H.elem hk.2
  obtain ⟨e1, e2, pre, mid, post, rfl, h5, h6, h7⟩ := upd_spec d off d' d'' r cs' hu g3 h1
  obtain ⟨_, _, _, hT'⟩ := tyI hT
  have hh : w.heap[g]? = some (.cells ((A ++ pre) ++ mid ++ (post ++ B)).toArray e (0, 0)) := by
    have := H.heap
    rw [show cur = (A ++ (pre ++ mid ++ post) ++ B).toArray by rw [← g4]] at this
    rw [this]
    simp
  have hrun := run_storeAt (T := T) (by rw [hT', Reads.len _ _ h1]) h1 hh (by rw [List.length_append, g5, h5, ← hk.1]) h6
  have hg := grownBy_setCells g cs' n w
  have hnew := setCells_row cs' (A ++ pre) mid (post ++ B) w h6 hh
  rw [List.length_append, g5, h5, ← hk.1] at hnew
  have hcell : ∀ q : Addr, ok q.block → (w.setCells g n cs').cell? q = w.cell? q := fun q hq => World.cell?_of_block (hg.block _ (ha.lt _ hq) fun e => hno g (by rw [H.val]; rfl) (by injection e with e; rw [← e]; exact hq))
  have hlen : (pre ++ cs' ++ post).length = z := by
    simp only [List.length_append] at g2 ⊢
    omega
  have hrows := ReadsRows.set ds rows k d'' (pre ++ cs' ++ post) H.rows h7 hlen
  have hrows' := ReadsRows.mono (fun _ h => h) hcell z _ _ hrows
  refine ⟨w.setCells g n cs', g, ?_, by rw [H.val]; rfl, hg, RowIn.at (g := g) (c := c) (cur := ((A ++ pre) ++ cs' ++ (post ++ B)).toArray) (rows := rows.set k (pre ++ cs' ++ post)) ⟨by rw [List.length_set]; exact H.val, hnew, ?_, ?_, by rw [List.length_set]; exact H.le, H.max, hrows', H.mine⟩⟩
  · have ep : elemPtr v n = .pointer (some ⟨g, n, none⟩) := by rw [H.val]; simp [elemPtr]
    unfold execOp
    simp only [ho, hx', ep, h2, Sem.run_bind, hrun, Result.andThen_ok, Sem.run_pure]
  · rw [List.length_set, ← g6 _ hlen]
    simp
  · have := congrArg List.length g4
    rw [Array.length_toList, H.size] at this
    simp only [List.size_toArray, List.length_append] at this ⊢
    omega
theorem P_mapUpd {T K n E g c ty : Nat} {pos : String} {af : Array Edge} {gd : Option (Nat × Bool)} {x y z : Operand} {es : List Ent} {l1 : List UInt8} {d : D} (hx : ev (⟨rs, os, fs⟩ : St) x = some (.val (.v (.map (some g))))) (hset : SetAt os (.map g n c es) (.map g n (tickE c es l1) (putE c es l1 d)) os') (hy : ev (⟨rs, os, fs⟩ : St) y = some (.val (.arr n l1))) (hz : ev (⟨rs, os, fs⟩ : St) z = some (.val d)) (hT : assoc mapL T = some (K, n, E)) (hg : guardOf ops ⟨rs, os, fs⟩ ⟨none, .mapUpdate T x y z, ty, pos, af, gd⟩ = some true) (kk : EL X ops Q l ⟨rs, os', fs⟩) : EL X ops Q (⟨none, .mapUpdate T x y z, ty, pos, af, gd⟩ :: l) ⟨rs, os, fs⟩ := by
  obtain ⟨i, hi, rfl⟩ := hset.ix
  exact EL.put i hg rfl (put_mapUpd rfl hx hy hz hT) hi kk
theorem P_rowstore {T e z n k off ty : Nat} {pos : String} {af : Array Edge} {gd : Option (Nat × Bool)} {x y : Operand} {v : Value} {ds : List D} {d d' d'' : D} (hx : ev (⟨rs, os, fs⟩ : St) x = some (.val (.v (elemPtr v n)))) (hset : SetAt os (.row v e z ds) (.row v e z (ds.set k d'')) os') (hk : n = k * z + off ∧ ds[k]? = some d) (hy : ev (⟨rs, os, fs⟩ : St) y = some (.val d')) (hT : assoc tyL T = some (d'.size, d'.agg)) (hu : d.upd off d' = some d'') (hg : guardOf ops ⟨rs, os, fs⟩ ⟨none, .store T x y, ty, pos, af, gd⟩ = some true) (kk : EL X ops Q l ⟨rs, os', fs⟩) : EL X ops Q (⟨none, .store T x y, ty, pos, af, gd⟩ :: l) ⟨rs, os, fs⟩ := by
  obtain ⟨i, hi, rfl⟩ := hset.ix
  exact EL.put i hg rfl (put_rowstore hk rfl hx hy hT hu) hi kk
theorem EL.del {T K n E g c : Nat} {U : TypeId} {x y : Operand} {es : List Ent} {l1 : List UInt8} (i : Nat) (ho : o.op = .call { callee := .builtin .delete, args := #[x, y], argTypes := #[T, U] }) (hg : guardOf ops S o = some true) (hd : o.dst = none) (hx : ev S x = some (.val (.v (.map (some g))))) (hi : S.objs[i]? = some (.map g n c es)) (hy : ev S y = some (.val (.arr n l1))) (hT : assoc mapL T = some (K, n, E)) (k : EL X ops Q l ⟨S.regs, S.objs.set i (.map g n c (delE es l1)), S.facts⟩) : EL X ops Q (o :: l) S := by
  constructor
  intro a w ha
  have hk := ha.kn fun t => t ∈ o.looksAt ops
  have h1 := ev_v hk hx (looks_op (by rw [ho]; simp [Op.operands, Call.operands]))
  obtain ⟨h2, h3⟩ := arrV_of (hk.ev hy (looks_op (by rw [ho]; simp [Op.operands, Call.operands])))
  have hmem := List.mem_of_getElem? hi
  obtain ⟨w', h4, h5, h6⟩ := run_delete (U := U) o.type (mapI hT).1 (mapI hT).2 (ha.mem.at_ _ hmem) l1 h2 (fun hk => hk.2.2 _ hmem rfl)
  unfold wpList
  rw [if_pos (wanted_of ha hg)]
  refine .inl ?_
  unfold Oper.wp execOp
  simp only [ho, resolve, invoke, builtin, Sem.run_bind, Sem.run_pure, Result.andThen_ok, List.map_toArray, List.map_cons, List.map_nil, h1, h3, h4]
  simp only [Oper.upon_value, hd, Act.put]
  exact k.go _ _ (ha.turn hi h5 (.inl rfl) fun hok hcell => h6.move hok (fun _ _ => rfl) fun _ _ => rfl)
theorem P_delete {T K n E g c ty : Nat} {U : TypeId} {pos : String} {af : Array Edge} {gd : Option (Nat × Bool)} {x y : Operand} {es : List Ent} {l1 : List UInt8} (hx : ev (⟨rs, os, fs⟩ : St) x = some (.val (.v (.map (some g))))) (hset : SetAt os (.map g n c es) (.map g n c (delE es l1)) os') (hy : ev (⟨rs, os, fs⟩ : St) y = some (.val (.arr n l1))) (hT : assoc mapL T = some (K, n, E)) (hg : guardOf ops ⟨rs, os, fs⟩ ⟨none, .call { callee := .builtin .delete, args := #[x, y], argTypes := #[T, U] }, ty, pos, af, gd⟩ = some true) (kk : EL X ops Q l ⟨rs, os', fs⟩) : EL X ops Q (⟨none, .call { callee := .builtin .delete, args := #[x, y], argTypes := #[T, U] }, ty, pos, af, gd⟩ :: l) ⟨rs, os, fs⟩ := by
  obtain ⟨i, hi, rfl⟩ := hset.ix
  exact EL.del i rfl hg rfl hx hi hy hT kk
theorem m_new {q : Obj} {r : R} {ob : Go.Obj} {v : Value} (hb : q.blk = some w.heap.size) (hat : ∀ ok' : Nat → Prop, (∀ b, ok b → ok' b) → q.At (fun b => Blks [] b ∨ w.heap.size ≤ b) ok' (w.alloc ob)) (hr : ∀ ok', ReadR ok' (w.alloc ob) r v) (hlt : ∀ b, ok b → b < w.heap.size) : Turned ok [] w [q] (w.alloc ob) ∧ ReadR (okM ok [] w [q] (w.alloc ob)) (w.alloc ob) r v := by
  have hg := gr_alloc w ob
  refine ⟨⟨.of hg, by simp, fun o ho => ?_⟩, hr _⟩
  obtain rfl : o = q := by simpa using ho
  refine hat _ fun b hk => ⟨.inl hk, Nat.lt_of_lt_of_le (hlt b hk) hg.size, fun o' ho' e => ?_⟩
  obtain rfl : o' = o := by simpa using ho'
  rw [hb] at e
  injection e with e
  have := hlt b hk
  omega
theorem m_makeMap {T K n E : Nat} (ho : o.op = .makeMap T none) (hT : assoc mapL T = some (K, n, E)) : Muts ops S o [] (fun r os' => ∃ g, r = .val (.v (.map (some g))) ∧ os' = [.map g n 0 []]) := .mk fun base ok a w ha hown => by
  have hr : (execOp a.eval o).run Tryz.prog w = .ok (.value (.map (some w.heap.size))) (w.alloc (.map #[] 0)) := by
    unfold execOp
    have := @run_makeMap Tryz.prog
    simp [ho, this]
  rw [hr]
  obtain ⟨h1, h2⟩ := m_new (ok := ok) (w := w) (q := .map w.heap.size n 0 []) (r := .val (.v (.map (some w.heap.size)))) (ob := .map #[] 0) (v := .map (some w.heap.size)) rfl (fun ok' _ => ⟨.inr (Nat.le_refl _), Ents.nil, #[], heap_alloc_new w _, .nil⟩) (fun _ => v_mk rfl) ha.lt
  exact ⟨_, _, ⟨_, rfl, rfl⟩, h1, h2⟩
theorem m_box {T : TypeId} {x : Operand} {d : D} (ho : o.op = .box T x) (hx : ev S x = some (.val d)) : Muts ops S o [] (fun r os' => ∃ g, r = .val (.v (.pointer (some ⟨g, 0, none⟩))) ∧ os' = [.var g T d]) := .mk fun base ok a w ha hown => by
  obtain ⟨cs, h1, h2⟩ := n_box ho hx base ok a w ha
  rw [h1]
  obtain ⟨g1, g2⟩ := m_new (ok := ok) (w := w) (q := .var w.heap.size T d) (r := .val (.v (.pointer (some ⟨w.heap.size, 0, none⟩)))) (ob := .cells cs.toArray T) (v := .pointer (some ⟨w.heap.size, 0, none⟩)) rfl (fun ok' hk => ⟨.inr (Nat.le_refl _), cs, heap_alloc_new w _, Reads.mono hk (fun p hp => (gr_alloc w _).cell (ha.lt _ hp)) _ _ h2⟩) (fun _ => v_mk rfl) ha.lt
  exact ⟨_, _, ⟨_, rfl, rfl⟩, g1, g2⟩
theorem m_alloc {T : TypeId} {d : D} (ho : o.op = .alloc T) (hz : assoc zeroL T = some d) : Muts ops S o [] (fun r os' => ∃ g, r = .val (.v (.pointer (some ⟨g, 0, none⟩))) ∧ os' = [.var g T d]) := .mk fun base ok a w ha hown => by
  obtain ⟨cs, h1, h2⟩ := n_alloc ho (zeroI hz) base ok a w ha
  rw [h1]
  obtain ⟨g1, g2⟩ := m_new (ok := ok) (w := w) (q := .var w.heap.size T d) (r := .val (.v (.pointer (some ⟨w.heap.size, 0, none⟩)))) (ob := .cells cs.toArray T) (v := .pointer (some ⟨w.heap.size, 0, none⟩)) rfl (fun ok' hk => ⟨.inr (Nat.le_refl _), cs, heap_alloc_new w _, Reads.mono hk (fun p hp => (gr_alloc w _).cell (ha.lt _ hp)) _ _ h2⟩) (fun _ => v_mk rfl) ha.lt
  exact ⟨_, _, ⟨_, rfl, rfl⟩, g1, g2⟩
theorem P_makeMap {t T K n E ty : Nat} {pos : String} {af : Array Edge} {gd : Option (Nat × Bool)} (hT : assoc mapL T = some (K, n, E)) (hg : guardOf ops ⟨rs, os, fs⟩ ⟨some t, .makeMap T none, ty, pos, af, gd⟩ = some true) (hN : Nat.blt t N = true) (kk : ∀ g, EL X ops Q l ⟨(t, .val (.v (.map (some g)))) :: rs, .map g n 0 [] :: os, fs⟩) : EL X ops Q (⟨some t, .makeMap T none, ty, pos, af, gd⟩ :: l) ⟨rs, os, fs⟩ :=
  EL.mut (os := []) (rest := os) hg (dst_lt rfl hN) (m_makeMap rfl hT) fun r os' ⟨g, h1, h2⟩ => by
    subst h1 h2
    exact kk g
theorem P_callM {t ty f : Nat} {pos : String} {af : Array Edge} {gd : Option (Nat × Bool)} {args : Array Operand} {tys : Array TypeId} {ds ds' : List D} {os0 : List Obj} {Φ : R → List Obj → Prop} (hF : FnM f ds' os Φ) (hos : os0 = os ++ rest) (hx : evs (⟨rs, rest, fs⟩ : St) args.toList = some ds) (hR : RefineL fs ds ds') (hf : Enters f) (hg : guardOf ops ⟨rs, os ++ rest, fs⟩ ⟨some t, .call { callee := .value (.func f), args := args, argTypes := tys }, ty, pos, af, gd⟩ = some true) (hN : Nat.blt t N = true) (kk : ∀ r os', Φ r os' → EL X ops Q l ⟨(t, r) :: rs, os' ++ rest, fs⟩) : EL X ops Q (⟨some t, .call { callee := .value (.func f), args := args, argTypes := tys }, ty, pos, af, gd⟩ :: l) ⟨rs, os0, fs⟩ := by
  subst hos
  refine EL.mut (Φ := Φ) hg (dst_lt rfl hN) ?_ kk
  exact m_call (S := ⟨rs, rest, fs⟩) hF rfl hx hR hf
theorem P_callMD {t ty f : Nat} {pos : String} {af : Array Edge} {gd : Option (Nat × Bool)} {args : Array Operand} {tys : Array TypeId} {ds ds' : List D} {os0 os1 : List Obj} {r1 : R} (hF : FnM f ds' os (fun r os' => r = r1 ∧ os' = os1)) (hos : os0 = os ++ rest) (hx : evs (⟨rs, rest, fs⟩ : St) args.toList = some ds) (hR : RefineL fs ds ds') (hf : Enters f) (hg : guardOf ops ⟨rs, os ++ rest, fs⟩ ⟨some t, .call { callee := .value (.func f), args := args, argTypes := tys }, ty, pos, af, gd⟩ = some true) (hN : Nat.blt t N = true) (kk : EL X ops Q l ⟨(t, r1) :: rs, os1 ++ rest, fs⟩) : EL X ops Q (⟨some t, .call { callee := .value (.func f), args := args, argTypes := tys }, ty, pos, af, gd⟩ :: l) ⟨rs, os0, fs⟩ :=
  P_callM hF hos hx hR hf hg hN fun r os' ⟨h1, h2⟩ => by
    subst h1 h2
    exact kk
theorem CH.callM {os1 : List Obj} {T : St → Prop} {d : Option Tmp} {ty f : Nat} {pos : String} {af : Array Edge} {gd : Option (Nat × Bool)} {args : Array Operand} {tys : Array TypeId} {ds ds' : List D} {os0 : List Obj} {Φ : R → List Obj → Prop} (hF : FnM f ds' os Φ) (hos : os0 = os ++ (rest ++ os1)) (hx : evs (⟨rs, rest ++ os1, fs⟩ : St) args.toList = some ds) (hR : RefineL fs ds ds') (hf : Enters f) (hg : guardOf ops ⟨rs, os ++ (rest ++ os1), fs⟩ ⟨d, .call { callee := .value (.func f), args := args, argTypes := tys }, ty, pos, af, gd⟩ = some true) (hd : dstB N d = true)
    (k : ∀ r os', Φ r os' → CH N ops os1 T l (St.put ⟨rs, os' ++ (rest ++ os1), fs⟩ d r)) : CH N ops os1 T (⟨d, .call { callee := .value (.func f), args := args, argTypes := tys }, ty, pos, af, gd⟩ :: l) ⟨rs, os0, fs⟩ := by
  subst hos
  refine CH.mut (Φ := Φ) hd hg ?_ k
  exact m_call (S := ⟨rs, rest ++ os1, fs⟩) hF rfl hx hR hf
/-! ### Function values -/
theorem run_callV {t f : Nat} {args : Array Operand} {tys : Array TypeId} {caps : List Value} (ho : o.op = .call { callee := .value (.tmp t), args := args, argTypes := tys }) (ht : a.eval (.tmp t) = .func (.func f) #[] caps.toArray) (hf : Enters f) : (execOp a.eval o).run Tryz.prog w = .ok (.enter f (args.map a.eval ++ caps.toArray)) w := by
  unfold execOp
  simp [ho, resolve, ht, Deferred.ofValue, invoke, hf (args.map a.eval ++ caps.toArray) w]
theorem looks_callee {t : Tmp} {args : Array Operand} {tys : Array TypeId} (ho : o.op = .call { callee := .value (.tmp t), args := args, argTypes := tys }) : ∀ u, Operand.tmp t = .tmp u → u ∈ o.looksAt ops := looks_op (by rw [ho]; simp [Op.operands, Call.operands])
theorem readVs_append : ∀ (ds es : List D) (xs ys : List Value), ReadVs ok w ds xs → ReadVs ok w es ys → ReadVs ok w (ds ++ es) (xs ++ ys)
  | [], es, xs, ys, h, h' => by cases h; exact h'
  | d :: ds, es, xs, ys, h, h' => by
    obtain ⟨x, rest, rfl, h1, h2⟩ := h
    exact ⟨x, _, rfl, h1, readVs_append ds es rest ys h2 h'⟩
theorem g_callV {t f : Nat} {args : Array Operand} {tys : Array TypeId} {caps : List Value} {ds ds' cds : List D} {Φ : R → Prop} (hF : Fn f (ds' ++ cds) Φ) (hc : ∀ base ok L (a : Act) w, Kn base ok L S a w → ReadVs ok w cds caps) (ho : o.op = .call { callee := .value (.tmp t), args := args, argTypes := tys }) (ht : look S.regs t = some (.val (.v (.func (.func f) #[] caps.toArray)))) (hx : evs S args.toList = some ds) (hR : RefineL S.facts ds ds') (hf : Enters f) : Grows ops S o Φ := fun base ok a w ha => by
  have h1 : a.eval (.tmp t) = .func (.func f) #[] caps.toArray := ev_v ha (x := .tmp t) ht (looks_callee ho)
  have hr := RefineL.readVs ha.facts _ _ _ hR (ha.evs _ _ hx fun u hu => looks_of (x := .tmp u) rfl (by rw [ho]; simp only [Op.operands, Call.operands]; simp; right; simpa using hu))
  rw [run_callV ho h1 hf]
  refine ⟨Gr.refl w, ?_⟩
  have := hF.go ok w _ ha.lt (readVs_append _ _ _ _ hr (hc _ _ _ a w ha))
  have he : (args.toList.map a.eval ++ caps).toArray = args.map a.eval ++ caps.toArray := by
    apply Array.ext'
    simp
  rw [he] at this
  refine this.mono ?_
  rintro e w' ⟨hg, v, r, rfl, hr, hv⟩
  exact ⟨v, rfl, hg, r, hr, hv⟩
theorem m_callV {t f : Nat} {args : Array Operand} {tys : Array TypeId} {caps : List Value} {ds ds' cds : List D} {Φ : R → List Obj → Prop} (hF : FnM f (ds' ++ cds) os Φ) (hc : ∀ base ok L (a : Act) w, Kn base ok L S a w → ReadVs ok w cds caps) (ho : o.op = .call { callee := .value (.tmp t), args := args, argTypes := tys }) (ht : look S.regs t = some (.val (.v (.func (.func f) #[] caps.toArray)))) (hx : evs S args.toList = some ds) (hR : RefineL S.facts ds ds') (hf : Enters f) : Muts ops S o os Φ := .mk fun base ok a w ha hown => by
  have h1 : a.eval (.tmp t) = .func (.func f) #[] caps.toArray := ev_v ha (x := .tmp t) ht (looks_callee ho)
  have hr := RefineL.readVs ha.facts _ _ _ hR (ha.evs _ _ hx fun u hu => looks_of (x := .tmp u) rfl (by rw [ho]; simp only [Op.operands, Call.operands]; simp; right; simpa using hu))
  rw [run_callV ho h1 hf]
  have := hF.go ok w _ ha.lt hown (readVs_append _ _ _ _ hr (hc _ _ _ a w ha))
  have he : (args.toList.map a.eval ++ caps).toArray = args.map a.eval ++ caps.toArray := by
    apply Array.ext'
    simp
  rw [he] at this
  simp only [setsTo]
  refine this.mono ?_
  rintro e w' ⟨v, r, os', rfl, h1, h2, h3⟩
  exact ⟨v, rfl, r, os', h1, h2, h3⟩
theorem P_callMV {t u ty f : Nat} {pos : String} {af : Array Edge} {gd : Option (Nat × Bool)} {args : Array Operand} {tys : Array TypeId} {caps : List Value} {ds ds' cds : List D} {os0 : List Obj} {Φ : R → List Obj → Prop} (hF : FnM f (ds' ++ cds) os Φ) (hc : ∀ base ok L (a : Act) w, Kn base ok L ⟨rs, rest, fs⟩ a w → ReadVs ok w cds caps) (hos : os0 = os ++ rest) (ht : look rs u = some (.val (.v (.func (.func f) #[] caps.toArray)))) (hx : evs (⟨rs, rest, fs⟩ : St) args.toList = some ds) (hR : RefineL fs ds ds') (hf : Enters f) (hg : guardOf ops ⟨rs, os ++ rest, fs⟩ ⟨some t, .call { callee := .value (.tmp u), args := args, argTypes := tys }, ty, pos, af, gd⟩ = some true) (hN : Nat.blt t N = true) (kk : ∀ r os', Φ r os' → EL X ops Q l ⟨(t, r) :: rs, os' ++ rest, fs⟩) : EL X ops Q (⟨some t, .call { callee := .value (.tmp u), args := args, argTypes := tys }, ty, pos, af, gd⟩ :: l) ⟨rs, os0, fs⟩ := by
  subst hos
  exact EL.mut hg (dst_lt rfl hN) (m_callV hF hc rfl ht hx hR hf) kk
theorem caps_v {caps : List Value} (h : ∀ x ∈ caps, x.oneCell' = true) : ReadVs ok w (caps.map .v) caps := by
  induction caps with
  | nil => rfl
  | cons x xs ih => exact ⟨x, xs, rfl, v_mk (h x (by simp)), ih fun y hy => h y (by simp [hy])⟩
theorem cutV_blk (v : Value) (k : Nat) : (cutV v k).ownBlock = v.ownBlock := by
  unfold cutV
  split
  · rename_i A n c
    cases A <;> rfl
  · rfl
theorem Le.cutRow {e z k : Nat} {v : Value} {ds : List D} (hk : k ≤ ds.length) (hset : SetAt os (.row v e z ds) (.row (cutV v k) e z (ds.take k)) os') : Le X ⟨rs, os, fs⟩ ⟨rs, os', fs⟩ := by
  obtain ⟨i, hi, rfl⟩ := hset.ix
  intro a w ha
  refine ha.turn hi (World.grownBy.refl w _) (.inl ?_) fun hok hcell => ?_
  · exact cutV_blk v k
  · have hat := (ha.mem.at_ _ (List.mem_of_getElem? hi)).move hok (fun _ _ => rfl) fun _ _ => rfl
    obtain ⟨rows, ⟨h1, h2⟩, h3⟩ := hat
    obtain ⟨hl1, hl2⟩ := ReadsRows.lens ds rows h3
    have hlen : (ds.take k).length = k := by rw [List.length_take]; omega
    have hb := cutV_blk v k
    refine ⟨rows.take k, ⟨⟨?_, ?_⟩, fun b hb' => h2 b (by rw [← hb]; exact hb')⟩, ReadsRows.take ds rows k h3⟩
    · rw [flat_take rows hl2, List.length_take, flat_len rows hl2, hl1, hlen]
      exact Nat.min_eq_left (Nat.mul_le_mul_right z hk)
    · rcases h1.2 with ⟨e1, e2⟩ | ⟨g, c, cur, e1, e2, e3, e4, e5, e6, e7⟩
      · refine .inl ⟨?_, by omega⟩
        rw [e1]
        have : k = 0 := by omega
        subst this
        rfl
      · refine .inr ⟨g, c, cur, by rw [e1, hlen]; rfl, e2, e3, by omega, e5, e6, ?_⟩
        rw [flat_take rows hl2, ← e7, hlen, List.take_take, Nat.min_eq_left (Nat.mul_le_mul_right z hk)]
/-! ### Pointers and nil -/
theorem ptrI {T : Nat} (h : ptrL.contains T = true) : ∃ e, Tryz.prog.underlying T = some (.pointer e) := by
  have := List.all_eq_true.1 ptrL_ok T (by simpa using h)
  unfold ptrB at this
  split at this
  · rename_i e he
    exact ⟨e, he⟩
  · cases this
end
end E
end Go.Proofs.YtdhicdnmgmkpkaaGreat
/-
  Words as numbers, in plain words: digits to a base, the lowest first; limbs of 8 bytes, digits of 2 bytes.
  Conditions: none. No program is named here.
-/
namespace Go.Proofs.YtdhicdnmgmkpkaaGreat
set_option linter.unusedVariables false
namespace Wd
open Rlp
def le (B : Nat) : List Nat → Nat
  | [] => 0
  | d :: ds => d + B * le B ds
/-! ### The order -/
/-! ### A word's bytes laid in, the highest first -/
end Wd
end Go.Proofs.YtdhicdnmgmkpkaaGreat
/-
  The abstract machine: loops that go round a known number of times, arrays of numbers, calls without a body.
  Conditions: none.
-/
namespace Go.Proofs.YtdhicdnmgmkpkaaGreat
set_option linter.unusedVariables false
open Go.RowKit Mono Rlp
namespace E
section
variable {N : Nat} {X : Cx N} {S S' : St} {a : Act} {w w' : World} {ops : Array Oper} {o : Oper} {Q : Exit → Act → World → Prop} {K : Act → World → Prop} {l : List Oper} {c : Code} {TT : St → List Fr → Prop} {EE : List Fr} {rs : List (Tmp × R)} {os os' rest : List Obj} {fs : List (Value × D)} {base ok : Nat → Prop}
theorem EC.loopN (n : Nat) (h : EK X (Code.rounds Tryz.prog c Q n) S) : EC X Q (.loop c) S := ⟨fun a w ha => wp_loop_rounds n (h.go a w ha)⟩
theorem EK.round {n : Nat} (h : EC X (Exit.then (Code.rounds Tryz.prog c Q n) Q) c S) : EK X (Code.rounds Tryz.prog c Q (n + 1)) S := ⟨fun a w ha => h.go a w ha⟩
theorem g_ext {f : FuncId} {args : Array Operand} {tys : Array TypeId} {xs vs : List Value} (hrun : ∀ w, (callFunc f xs.toArray).run Tryz.prog w = .ok (.value (.tuple vs.toArray)) w) (hvs : ∀ x ∈ vs, x.oneCell' = true) (ho : o.op = .call { callee := .value (.func f), args := args, argTypes := tys }) (hx : evvs S args.toList = some xs) : Still ops S o (.tpl (vs.map .v)) := fun base ok a w ha => by
  have h1 := evvs_eval args.toList xs hx (fun t ht => looks_of (x := .tmp t) rfl (by rw [ho]; simp only [Op.operands, Call.operands]; simp; simpa using ht)) ha
  have h2 : args.map a.eval = xs.toArray := by
    apply Array.ext'
    simpa using h1
  refine ⟨.tuple vs.toArray, ?_, vs, rfl, caps_v hvs⟩
  unfold execOp
  simp [ho, resolve, Act.eval, Deferred.ofValue, invoke, h2, hrun]
theorem ES.ext {t : Tmp} {f : FuncId} {args : Array Operand} {tys : Array TypeId} {xs vs : List Value} (hrun : ∀ w, (callFunc f xs.toArray).run Tryz.prog w = .ok (.value (.tuple vs.toArray)) w) (hvs : ∀ x ∈ vs, x.oneCell' = true) (ho : o.op = .call { callee := .value (.func f), args := args, argTypes := tys }) (hx : evvs (⟨rs, os, fs⟩ : St) args.toList = some xs) (hg : guardOf ops ⟨rs, os, fs⟩ o = some true) (hd : o.dst = some t) (hN : Nat.blt t N = true) (k : EL X ops Q l ⟨(t, .tpl (vs.map .v)) :: rs, os, fs⟩) : EL X ops Q (o :: l) ⟨rs, os, fs⟩ := ES.still (g_ext hrun hvs ho hx) hg hd hN k
theorem EH.ext {t : Tmp} {f : FuncId} {args : Array Operand} {tys : Array TypeId} {xs vs : List Value} (hrun : ∀ w, (callFunc f xs.toArray).run Tryz.prog w = .ok (.value (.tuple vs.toArray)) w) (hvs : ∀ x ∈ vs, x.oneCell' = true) (ho : o.op = .call { callee := .value (.func f), args := args, argTypes := tys }) (hx : evvs (⟨rs, os, fs⟩ : St) args.toList = some xs) (hg : guardOf ops ⟨rs, os, fs⟩ o = some true) (ht : o.dst = some t) (hd : offB N (some t) EE = true) (k : EM N ops TT l ⟨(t, .tpl (vs.map .v)) :: rs, os, fs⟩ EE) : EM N ops TT (o :: l) ⟨rs, os, fs⟩ EE := EH.still (g_ext hrun hvs ho hx) hg ht hd k
theorem conv_int {T U : Nat} {k k' : IntKind} {de : TypeDesc} (hu : Tryz.prog.underlying T = some de) (hu' : Tryz.prog.underlying U = some (.int k')) (m n : Int) (h : k'.wrap m = n) : ∀ w, (Go.convert T U (.int k m)).run Tryz.prog w = .ok (.int k' n) w := fun w => by
  subst h
  simp [convert, run_underlying hu, run_underlying hu', Conv.intToInt]
theorem bin_of {op : BinOp} {T : TypeId} {k k' : IntKind} {m n : Int} {c : Value} (hc : c.oneCell' = true) (h : ∀ w, (binOp op T (.int k m) (.int k' n)).run Tryz.prog w = .ok c w) : Bin op T (.v (.int k m)) (.v (.int k' n)) c := by
  refine ⟨hc, fun ok w p q hp hq => ?_⟩
  obtain ⟨_, rfl⟩ := readV_v.1 hp
  obtain ⟨_, rfl⟩ := readV_v.1 hq
  exact ⟨fun x y => by cases op <;> simp [eqGuard], h w⟩
end
end E
end Go.Proofs.YtdhicdnmgmkpkaaGreat
/-
  The state's pieces; of, Balance, Nonce, change.
  Conditions: none.
-/
namespace Go.Proofs.YtdhicdnmgmkpkaaGreat
set_option linter.unusedVariables false
open Go.RowKit Mono Rlp Wd
namespace E
abbrev ptr (g : Nat) : Value := .pointer (some ⟨g, 0, none⟩)
abbrev stO (g m : Nat) (u k : Value) (n : Int) : Obj := .var g 110 (.tup [.v (.map (some m)), .v u, .v k, .v (.int .i64 n)])
abbrev smO (m c : Nat) (es : List Ent) : Obj := .map m 20 c es
abbrev unO (v : Value) (us : List D) : Obj := .row v 128 1 us
abbrev mkO (v : Value) (ks : List D) : Obj := .row v 121 2 ks
abbrev acO (g : Nat) (n : Int) (w c : List UInt8) (m : Value) : Obj := .var g 115 (.tup [.v (.int .i64 n), .arr 32 w, .bs c, .v m])
abbrev zaO (g : Nat) : Obj := .var g 115 (.tup [.v (.int .i64 0), .arr 32 zero32, .v (.slice none 0 0), .v (.map none)])
theorem bin_nil {T : Nat} (h : ptrL.contains T = true) (p : Option Addr) : Bin .eql T (.v (.pointer p)) (.v (.pointer none)) (.bool p.isNone) ∧ Bin .neq T (.v (.pointer p)) (.v (.pointer none)) (.bool !p.isNone) := by
  obtain ⟨e, he⟩ := ptrI h
  have he : Tryz.prog.underlying T = some (.pointer (Tryz.prog.pointee T)) := by
    unfold Program.pointee
    rw [he]
  refine ⟨⟨rfl, fun ok w p q hp hq => ?_⟩, ⟨rfl, fun ok w p q hp hq => ?_⟩⟩ <;> (obtain rfl := (readV_v.1 hp).2; obtain rfl := (readV_v.1 hq).2; refine ⟨fun x y => by simp [eqGuard], ?_⟩)
  · exact run_eql_pointer_nil w T _ he
  · exact run_neq_pointer_nil w T _ he
section
variable {N : Nat} {X : Cx N} {rs : List (Tmp × R)} {os : List Obj} {fs : List (Value × D)}
theorem Le.rot (k : Nat) : Le X ⟨rs, os, fs⟩ ⟨rs, os.drop k ++ os.take k, fs⟩ := Le.perm (by
  have := List.perm_append_comm (l₁ := os.take k) (l₂ := os.drop k)
  rwa [List.take_append_drop] at this)
variable {S : St} {fn : Func} {Φ : R → List Obj → Prop}
theorem ok_less {os' : List Obj} (h : os'.Sublist os) {w : World} {b : Nat} (hb : X.ok os w b) : X.ok os' w b := ⟨hb.1, hb.2.1, fun o ho => hb.2.2 o (h.subset ho)⟩
theorem EK.retM0s (os' : List Obj) (hres : fn.results = #[]) (ho : os'.Sublist S.objs) (hΦ : Φ (.tpl []) os') : EK X (bodyPost Tryz.prog fn (OutM X Φ) .ret) S := by
  constructor
  intro a w ha
  exact bodyPost_ret (results_none hres a.tmps Tryz.prog w) ha.defers ⟨_, _, os', rfl, hΦ, ha.mem.less ho (fun f hf => by cases hf), [], rfl, rfl⟩
theorem EK.retM0n (os' : List Obj) (hres : fn.results = #[]) (ho : os'.Sublist S.objs) (hΦ : Φ (.tpl []) os') : EK X (bodyPost Tryz.prog fn (OutM X Φ) .normal) S := by
  constructor
  intro a w ha
  have : bodyPost Tryz.prog fn (OutM X Φ) .ret a w := bodyPost_ret (results_none hres a.tmps Tryz.prog w) ha.defers ⟨_, _, os', rfl, hΦ, ha.mem.less ho (fun f hf => by cases hf), [], rfl, rfl⟩
  exact this
theorem EK.retM1s {t : Tmp} {r : R} (os' : List Obj) (hres : fn.results = #[.tmp t]) (hl : look S.regs t = some r) (ho : os'.Sublist S.objs) (hΦ : Φ r os') : EK X (bodyPost Tryz.prog fn (OutM X Φ) .ret) S := by
  constructor
  intro a w ha
  exact bodyPost_ret (results_tmp hres a.tmps Tryz.prog w) ha.defers ⟨_, r, os', rfl, hΦ, ha.mem.less ho (fun f hf => by cases hf), (ha.regs t r hl).mono (fun b hb => ok_less ho hb) fun _ _ => rfl⟩
theorem EK.retMc1s {p : Tmp} {g ty : Nat} {t : TypeId} {d d' : D} (i : Nat) (os' : List Obj) (hres : fn.results = #[.cell p ty]) (hl : look S.regs p = some (.val (.v (.pointer (some ⟨g, 0, none⟩))))) (hi : S.objs[i]? = some (.var g t d)) (hT : assoc tyL ty = some (d.size, d.agg)) (hR : RefineL S.facts [d] [d']) (ho : os'.Sublist S.objs) (hΦ : Φ (.val d') os') : EK X (bodyPost Tryz.prog fn (OutM X Φ) .ret) S := by
  constructor
  intro a w ha
  obtain ⟨x, h1, h2⟩ := run_cell ha.mem hi (tyI hT)
  have hp := (readV_v.1 (ha.regs p _ hl)).2
  have hp' : a.tmps[p]?.getD undef = .pointer (some ⟨g, 0, none⟩) := by simpa using hp
  have h3 : ReadR (X.ok S.objs w) w (.val d') x := Refine1.readV ha.mem.fact hR h2
  refine bodyPost_ret (v := x) ?_ ha.defers ⟨_, _, os', rfl, hΦ, ha.mem.less ho (fun f hf => by cases hf), h3.mono (fun b hb => ok_less ho hb) fun _ _ => rfl⟩
  simp [results, hres, hp', asAddr, h1]
end
section
variable {g m c ga gs : Nat} {u k : Value} {n : Int} {es : List Ent} {a : List UInt8} {us ks : List D}
set_option maxRecDepth 20000 in
set_option maxHeartbeats 4000000 in
theorem of_in (h : getE es a = some (.v (ptr ga))) : FnM 105 [.v (ptr g), .arr 20 a] [stO g m u k n, smO m c es] (fun r os' => r = .val (.v (ptr ga)) ∧ os' = [stO g m u k n, smO m c es]) := by
  have hg : (getE es a).getD (.v (.pointer none)) = .v (ptr ga) := by rw [h]; rfl
  have hn := (bin_nil (T := 111) rfl (some ⟨ga, 0, none⟩)).2
  refine FnM.walk 17 Tryz.func105 rfl Tryz.ntmps105 (by simp) fun X => ?_
  repeat
    (first
     | (apply P_assign; (iterate 3 exact rfl)) | (apply P_box; exact rfl; exact rfl; exact rfl; intro _) | apply EL.nil | ((with_reducible apply EK.then_normal); apply EK.code)
     | (with_reducible first | apply EC.seq | apply EC.region | apply EC.skip | apply EC.label | apply EC.block | apply EC.exit | apply EC.ret | apply EK.in_normal | apply EK.in_same | apply EK.in_ret | apply EK.then_ret | apply EK.then_exit))
  refine EC.draw 6 (by kernel_rfl) ?_
  simp only [List.take_succ_cons, List.take_zero, List.drop_succ_cons, List.drop_zero]
  repeat
    (first
     | (apply H_lookup; exact hg; exact rfl; (first | exact I0 | exact I1 | exact I2); (iterate 5 exact rfl)) | (apply H_move; (iterate 3 exact rfl)) | (apply H_field; (iterate 6 exact rfl))
     | (apply H_load; exact rfl; (first | exact I0 | exact I1 | exact I2 | exact I3 | exact I4 | exact I5 | exact I6); (iterate 4 exact rfl)) | (apply H_nilck; (iterate 3 exact rfl))
     | ((with_reducible apply EH.nil); exact rfl))
  repeat
    (first
     | (apply P_bin; (iterate 2 exact rfl); exact hn; (iterate 2 exact rfl)) | (apply P_move; (iterate 3 exact rfl)) | (apply P_assign; (iterate 3 exact rfl)) | apply EL.nil
     | ((with_reducible apply EK.then_normal); apply EK.code) | (apply EC.cond_true; exact rfl)
     | (with_reducible first | apply EC.seq | apply EC.region | apply EC.skip | apply EC.label | apply EC.block | apply EC.exit | apply EC.ret | apply EK.in_normal | apply EK.in_same | apply EK.in_ret | apply EK.then_ret | apply EK.then_exit))
  exact EK.retM1s [stO g m u k n, smO m c es] rfl rfl (by (repeat first | exact List.nil_sublist _ | apply List.Sublist.cons_cons | apply List.Sublist.cons)) ⟨rfl, rfl⟩
set_option maxRecDepth 20000 in
set_option maxHeartbeats 4000000 in
theorem of_out (h : getE es a = none) : FnM 105 [.v (ptr g), .arr 20 a] [stO g m u k n, smO m c es] (fun r os' => ∃ ga, r = .val (.v (ptr ga)) ∧ os' = [zaO ga, stO g m u k n, smO m c es]) := by
  have hg : (getE es a).getD (.v (.pointer none)) = .v (.pointer none) := by rw [h]; rfl
  have hn := (bin_nil (T := 111) rfl none).2
  refine FnM.walk 17 Tryz.func105 rfl Tryz.ntmps105 (by simp) fun X => ?_
  repeat
    (first
     | (apply P_assign; (iterate 3 exact rfl)) | (apply P_box; exact rfl; exact rfl; exact rfl; intro _) | apply EL.nil | ((with_reducible apply EK.then_normal); apply EK.code)
     | (with_reducible first | apply EC.seq | apply EC.region | apply EC.skip | apply EC.label | apply EC.block | apply EC.exit | apply EC.ret | apply EK.in_normal | apply EK.in_same | apply EK.in_ret | apply EK.then_ret | apply EK.then_exit))
  refine EC.draw 6 (by kernel_rfl) ?_
  simp only [List.take_succ_cons, List.take_zero, List.drop_succ_cons, List.drop_zero]
  repeat
    (first
     | (apply H_lookup; exact hg; exact rfl; (first | exact I0 | exact I1 | exact I2); (iterate 5 exact rfl)) | (apply H_move; (iterate 3 exact rfl)) | (apply H_field; (iterate 6 exact rfl))
     | (apply H_load; exact rfl; (first | exact I0 | exact I1 | exact I2 | exact I3 | exact I4 | exact I5 | exact I6); (iterate 4 exact rfl)) | (apply H_nilck; (iterate 3 exact rfl))
     | ((with_reducible apply EH.nil); exact rfl))
  repeat
    (first
     | (apply P_bin; (iterate 2 exact rfl); exact hn; (iterate 2 exact rfl)) | (apply P_move; (iterate 3 exact rfl)) | (apply P_assign; (iterate 3 exact rfl)) | (apply P_build; (iterate 7 exact rfl))
     | (apply P_box; exact rfl; exact rfl; exact rfl; intro _) | apply EL.nil | ((with_reducible apply EK.then_normal); apply EK.code) | (apply EC.cond_false; exact rfl)
     | (with_reducible first | apply EC.seq | apply EC.region | apply EC.skip | apply EC.label | apply EC.block | apply EC.exit | apply EC.ret | apply EK.in_normal | apply EK.in_same | apply EK.in_ret | apply EK.then_ret | apply EK.then_exit))
  rename_i ga
  exact EK.retM1s [zaO ga, stO g m u k n, smO m c es] rfl rfl (by (repeat first | exact List.nil_sublist _ | apply List.Sublist.cons_cons | apply List.Sublist.cons)) ⟨ga, rfl, rfl⟩
set_option maxRecDepth 20000 in
set_option maxHeartbeats 4000000 in
theorem balance_in {b : Int} {w cd : List UInt8} {sv : Value} (h : getE es a = some (.v (ptr ga))) : FnM 107 [.v (ptr g), .arr 20 a] [stO g m u k n, smO m c es, acO ga b w cd sv] (fun r os' => r = .val (.arr 32 w) ∧ os' = [stO g m u k n, smO m c es, acO ga b w cd sv]) := by
  have h1 := of_in (g := g) (m := m) (c := c) (u := u) (k := k) (n := n) h
  refine FnM.walk 11 Tryz.func107 rfl Tryz.ntmps107 (by simp) fun X => ?_
  repeat
    (first
     | (apply P_move; (iterate 3 exact rfl)) | (apply P_load; exact rfl; (first | exact I0 | exact I1 | exact I2 | exact I3 | exact I4 | exact I5 | exact I6); (iterate 4 exact rfl))
     | (apply P_alloc; exact rfl; exact rfl; exact rfl; intro _) | (apply P_box; exact rfl; exact rfl; exact rfl; intro _) | apply EL.nil | ((with_reducible apply EK.then_normal); apply EK.code)
     | (with_reducible first | apply EC.seq | apply EC.region | apply EC.skip | apply EC.label | apply EC.block | apply EC.exit | apply EC.ret | apply EK.in_normal | apply EK.in_same | apply EK.in_ret | apply EK.then_ret | apply EK.then_exit))
  rename_i g3 g4
  refine EL.le (Le.rot 2) ?_
  simp only [List.drop_succ_cons, List.drop_zero, List.take_succ_cons, List.take_zero, List.cons_append, List.nil_append]
  repeat
    (first
     | ((apply P_callMD (h1); (iterate 2 exact rfl); (focus (repeat first | exact RefineL.refl _ _ | exact RL.nil | exact Rf.same | exact Rf.bs0 | exact Rf.sl0 | (apply Rf.fact; (focus (simp; done)); exact rfl) | apply Rf.tup | apply RL.cons)); (focus (intro _ _; simp [go_sem]; done)); (iterate 2 exact rfl)))
     | (apply P_field; (iterate 6 exact rfl)) | (apply P_load; exact rfl; (first | exact I0 | exact I1 | exact I2 | exact I3 | exact I4 | exact I5 | exact I6); (iterate 4 exact rfl))
     | (apply P_nilck; (iterate 3 exact rfl)) | (apply P_store; exact rfl; (focus (repeat first | exact .z | apply SetAt.s | apply SetAtF.s)); (iterate 4 exact rfl)) | apply EL.nil
     | ((with_reducible apply EK.then_normal); apply EK.code)
     | (with_reducible first | apply EC.seq | apply EC.region | apply EC.skip | apply EC.label | apply EC.block | apply EC.exit | apply EC.ret | apply EK.in_normal | apply EK.in_same | apply EK.in_ret | apply EK.then_ret | apply EK.then_exit))
  exact EK.retMc1s 3 [stO g m u k n, smO m c es, acO ga b w cd sv] rfl rfl rfl rfl (by repeat first | exact RefineL.refl _ _ | exact RL.nil | exact Rf.same) (by (repeat first | exact List.nil_sublist _ | apply List.Sublist.cons_cons | apply List.Sublist.cons)) ⟨rfl, rfl⟩
set_option maxRecDepth 20000 in
set_option maxHeartbeats 4000000 in
theorem balance_out (h : getE es a = none) : FnM 107 [.v (ptr g), .arr 20 a] [stO g m u k n, smO m c es] (fun r os' => r = .val (.arr 32 zero32) ∧ os' = [stO g m u k n, smO m c es]) := by
  have h1 := of_out (g := g) (m := m) (c := c) (u := u) (k := k) (n := n) h
  refine FnM.walk 11 Tryz.func107 rfl Tryz.ntmps107 (by simp) fun X => ?_
  repeat
    (first
     | (apply P_move; (iterate 3 exact rfl)) | (apply P_load; exact rfl; (first | exact I0 | exact I1 | exact I2 | exact I3 | exact I4 | exact I5 | exact I6); (iterate 4 exact rfl))
     | (apply P_alloc; exact rfl; exact rfl; exact rfl; intro _) | (apply P_box; exact rfl; exact rfl; exact rfl; intro _) | apply EL.nil | ((with_reducible apply EK.then_normal); apply EK.code)
     | (with_reducible first | apply EC.seq | apply EC.region | apply EC.skip | apply EC.label | apply EC.block | apply EC.exit | apply EC.ret | apply EK.in_normal | apply EK.in_same | apply EK.in_ret | apply EK.then_ret | apply EK.then_exit))
  rename_i g3 g4
  refine EL.le (Le.rot 2) ?_
  simp only [List.drop_succ_cons, List.drop_zero, List.take_succ_cons, List.take_zero, List.cons_append, List.nil_append]
  repeat
    (first
     | (apply P_callM h1; (iterate 2 exact rfl); exact RefineL.refl _ _; (focus (intro _ _; simp [go_sem]; done)); (iterate 2 exact rfl); rintro _ _ ⟨ga, rfl, rfl⟩) | (apply P_field; (iterate 6 exact rfl))
     | (apply P_load; exact rfl; (first | exact I0 | exact I1 | exact I2 | exact I3 | exact I4 | exact I5 | exact I6); (iterate 4 exact rfl)) | (apply P_nilck; (iterate 3 exact rfl))
     | (apply P_store; exact rfl; (focus (repeat first | exact .z | apply SetAt.s | apply SetAtF.s)); (iterate 4 exact rfl)) | apply EL.nil | ((with_reducible apply EK.then_normal); apply EK.code)
     | (with_reducible first | apply EC.seq | apply EC.region | apply EC.skip | apply EC.label | apply EC.block | apply EC.exit | apply EC.ret | apply EK.in_normal | apply EK.in_same | apply EK.in_ret | apply EK.then_ret | apply EK.then_exit))
  exact EK.retMc1s 3 [stO g m u k n, smO m c es] rfl rfl rfl rfl (by repeat first | exact RefineL.refl _ _ | exact RL.nil | exact Rf.same) (by (repeat first | exact List.nil_sublist _ | apply List.Sublist.cons_cons | apply List.Sublist.cons)) ⟨rfl, rfl⟩
set_option maxRecDepth 20000 in
set_option maxHeartbeats 4000000 in
theorem nonce_in {b : Int} {w cd : List UInt8} {sv : Value} (h : getE es a = some (.v (ptr ga))) : FnM 58 [.v (ptr g), .arr 20 a] [stO g m u k n, smO m c es, acO ga b w cd sv] (fun r os' => r = .val (.v (.int .i64 b)) ∧ os' = [stO g m u k n, smO m c es, acO ga b w cd sv]) := by
  have h1 := of_in (g := g) (m := m) (c := c) (u := u) (k := k) (n := n) h
  refine FnM.walk 11 Tryz.func58 rfl Tryz.ntmps58 (by simp) fun X => ?_
  repeat
    (first
     | (apply P_move; (iterate 3 exact rfl)) | (apply P_assign; (iterate 3 exact rfl))
     | (apply P_load; exact rfl; (first | exact I0 | exact I1 | exact I2 | exact I3 | exact I4 | exact I5 | exact I6); (iterate 4 exact rfl)) | (apply P_box; exact rfl; exact rfl; exact rfl; intro _)
     | apply EL.nil | ((with_reducible apply EK.then_normal); apply EK.code)
     | (with_reducible first | apply EC.seq | apply EC.region | apply EC.skip | apply EC.label | apply EC.block | apply EC.exit | apply EC.ret | apply EK.in_normal | apply EK.in_same | apply EK.in_ret | apply EK.then_ret | apply EK.then_exit))
  rename_i g3
  refine EL.le (Le.rot 1) ?_
  simp only [List.drop_succ_cons, List.drop_zero, List.take_succ_cons, List.take_zero, List.cons_append, List.nil_append]
  repeat
    (first
     | ((apply P_callMD (h1); (iterate 2 exact rfl); (focus (repeat first | exact RefineL.refl _ _ | exact RL.nil | exact Rf.same | exact Rf.bs0 | exact Rf.sl0 | (apply Rf.fact; (focus (simp; done)); exact rfl) | apply Rf.tup | apply RL.cons)); (focus (intro _ _; simp [go_sem]; done)); (iterate 2 exact rfl)))
     | (apply P_assign; (iterate 3 exact rfl)) | (apply P_field; (iterate 6 exact rfl))
     | (apply P_load; exact rfl; (first | exact I0 | exact I1 | exact I2 | exact I3 | exact I4 | exact I5 | exact I6); (iterate 4 exact rfl)) | (apply P_nilck; (iterate 3 exact rfl)) | apply EL.nil
     | ((with_reducible apply EK.then_normal); apply EK.code)
     | (with_reducible first | apply EC.seq | apply EC.region | apply EC.skip | apply EC.label | apply EC.block | apply EC.exit | apply EC.ret | apply EK.in_normal | apply EK.in_same | apply EK.in_ret | apply EK.then_ret | apply EK.then_exit))
  exact EK.retM1s [stO g m u k n, smO m c es, acO ga b w cd sv] rfl rfl (by (repeat first | exact List.nil_sublist _ | apply List.Sublist.cons_cons | apply List.Sublist.cons)) ⟨rfl, rfl⟩
set_option maxRecDepth 20000 in
set_option maxHeartbeats 4000000 in
theorem nonce_out (h : getE es a = none) : FnM 58 [.v (ptr g), .arr 20 a] [stO g m u k n, smO m c es] (fun r os' => r = .val (.v (.int .i64 0)) ∧ os' = [stO g m u k n, smO m c es]) := by
  have h1 := of_out (g := g) (m := m) (c := c) (u := u) (k := k) (n := n) h
  refine FnM.walk 11 Tryz.func58 rfl Tryz.ntmps58 (by simp) fun X => ?_
  repeat
    (first
     | (apply P_move; (iterate 3 exact rfl)) | (apply P_assign; (iterate 3 exact rfl))
     | (apply P_load; exact rfl; (first | exact I0 | exact I1 | exact I2 | exact I3 | exact I4 | exact I5 | exact I6); (iterate 4 exact rfl)) | (apply P_box; exact rfl; exact rfl; exact rfl; intro _)
     | apply EL.nil | ((with_reducible apply EK.then_normal); apply EK.code)
     | (with_reducible first | apply EC.seq | apply EC.region | apply EC.skip | apply EC.label | apply EC.block | apply EC.exit | apply EC.ret | apply EK.in_normal | apply EK.in_same | apply EK.in_ret | apply EK.then_ret | apply EK.then_exit))
  rename_i g3
  refine EL.le (Le.rot 1) ?_
  simp only [List.drop_succ_cons, List.drop_zero, List.take_succ_cons, List.take_zero, List.cons_append, List.nil_append]
  repeat
    (first
     | (apply P_callM h1; (iterate 2 exact rfl); exact RefineL.refl _ _; (focus (intro _ _; simp [go_sem]; done)); (iterate 2 exact rfl); rintro _ _ ⟨ga, rfl, rfl⟩) | (apply P_assign; (iterate 3 exact rfl))
     | (apply P_field; (iterate 6 exact rfl)) | (apply P_load; exact rfl; (first | exact I0 | exact I1 | exact I2 | exact I3 | exact I4 | exact I5 | exact I6); (iterate 4 exact rfl))
     | (apply P_nilck; (iterate 3 exact rfl)) | apply EL.nil | ((with_reducible apply EK.then_normal); apply EK.code)
     | (with_reducible first | apply EC.seq | apply EC.region | apply EC.skip | apply EC.label | apply EC.block | apply EC.exit | apply EC.ret | apply EK.in_normal | apply EK.in_same | apply EK.in_ret | apply EK.then_ret | apply EK.then_exit))
  exact EK.retM1s [stO g m u k n, smO m c es] rfl rfl (by (repeat first | exact List.nil_sublist _ | apply List.Sublist.cons_cons | apply List.Sublist.cons)) ⟨rfl, rfl⟩
end
end E
end Go.Proofs.YtdhicdnmgmkpkaaGreat
