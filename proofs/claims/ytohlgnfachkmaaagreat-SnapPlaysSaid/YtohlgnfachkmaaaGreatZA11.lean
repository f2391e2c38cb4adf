/-
 Merged: lemmas of this claim.
 Conditions: none.
-/
import Derived.Test.YtohlgnfachkmaaaGreatZA10
import Derived.Test.YtohlgnfachkmaaaGreatZA5
import Derived.LoopN
import Derived.Laws.Externs
import Derived.Laws.MakeOwn
import Derived.Test.YtohlgnfachkmaaaGreatZA6
import Derived.Laws.Pointers
import Derived.Test.YtohlgnfachkmaaaGreatZA0
namespace Go.Proofs.YtohlgnfachkmaaaGreat
set_option linter.unusedVariables false
open Go.RowKit Mono Rlp
namespace E
section
variable {N : Nat} {X : Cx N} {S S' : St} {a : Act} {w w' : World} {ops : Array Oper} {o : Oper} {Q : Exit → Act → World → Prop} {l : List Oper} {TT : St → List Fr → Prop} {EE : List Fr} {rs : List (Tmp × R)} {os os' rest : List Obj} {fs : List (Value × D)} {base ok : Nat → Prop} {p q : Obj}
theorem EL.put (i : Nat) (hg : guardOf ops S o = some true) (hd : o.dst = none) (hP : Puts ops S o p q) (hi : S.objs[i]? = some p) (k : EL X ops Q l ⟨S.regs, S.objs.set i q, S.facts⟩) : EL X ops Q (o :: l) S := by
 constructor
 intro a w ha
 obtain ⟨hq, hP⟩ := hP
 have hmem := LC hi
 obtain ⟨w', g, h1, h2, h3, h4⟩ := hP _ _ a w (ha.kn _) (fun g hb hk => hk.2.2 p hmem hb) (ha.mem.at_ p hmem)
 unfold wpList
 rw [if_pos (dh ha hg)]
 refine .inl ?_
 unfold Oper.wp
 rw [h1]
 simp only [Oper.upon_skip, hd, Act.put]
 exact k.go _ _ (ha.turn hi (by rw [h2]; exact h3) (.inl hq) fun hok hcell => h4.move hok (fun _ _ => rfl) fun _ _ => rfl)
theorem dS (hP : Puts ops S o p q) : lg ops S o [p] (fun r os' => r = .any ∧ os' = [q]) := .mk fun base ok a w ha hown => by
 obtain ⟨hq, hP⟩ := hP
 obtain ⟨w', g, h1, h2, h3, h4⟩ := hP (fun _ => True) ok a w ⟨fun o ho => (ha.objs o ho).iw fun _ _ => trivial, ha.facts, ha.lt, ha.regs⟩ (fun g hb => hown.off g ⟨p, by simp, hb⟩) (hown.at_ p (by simp))
 rw [h1]
 have hB : ∀ b, jK [p] b ↔ b = g := fun b => ⟨fun ⟨o, ho, e⟩ => by
  obtain rfl : o = p := by simpa using ho
  rw [h2] at e
  injection e with e
  exact e.symm, fun e => ⟨p, by simp, by rw [e]; exact h2⟩⟩
 refine ⟨.any, [q], ⟨rfl, rfl⟩, ⟨⟨h3.os, h3.tape, h3.output, h3.size, fun k hk hn => h3.block k hk fun e => hn ((hB k).2 (by injection e))⟩, by simp, fun o ho => ?_⟩, trivial⟩
 obtain rfl : o = q := by simpa using ho
 refine (h4.move (fun b hb => ⟨.inl hb, LU (ha.lt b hb) h3.size, fun o' ho' e => ?_⟩) (fun _ _ => rfl) fun _ _ => rfl).iw fun b e => .inl ⟨p, by simp, by rw [← hq]; exact e⟩
 obtain rfl : o' = o := by simpa using ho'
 exact hown.off b ⟨p, by simp, by rw [← hq]; exact e⟩ hb
theorem qo {T K n E g c : Nat} {x y z : Operand} {es : List Ent} {l1 : List UInt8} {d : D} (ho : o.op = .mapUpdate T x y z) (hx : ev S x = some (.val (.v (.map (some g))))) (hy : ev S y = some (.val (.arr n l1))) (hz : ev S z = some (.val d)) (hT : assoc ji T = some (K, n, E)) : Puts ops S o (.map g n c es) (.map g n (aU c es l1) (aX c es l1 d)) := by
 refine ⟨rfl, fun base ok a w ha hno hat => ?_⟩
 have h1 := bK ha hx (aF (by rw [ho]; simp [Op.operands]))
 obtain ⟨h2, h3⟩ := iP (ha.ev hy (aF (by rw [ho]; simp [Op.operands])))
 obtain ⟨w', h4, h5, h6⟩ := lu (nD hT).1 (nD hT).2 hat l1 h2 (ha.ev hz (aF (by rw [ho]; simp [Op.operands]))) (hno g rfl)
 refine ⟨w', g, ?_, rfl, h5, h6⟩
 unfold execOp
 simp only [ho, h1, h3, Lr, h4, Lh, LD]
theorem dN {T e z n k off : Nat} {x y : Operand} {v : Value} {ds : List D} {d d' d'' : D} (hk : n = k * z + off ∧ ds[k]? = some d) (ho : o.op = .store T x y) (hx : ev S x = some (.val (.v (aN v n)))) (hy : ev S y = some (.val d')) (hT : assoc tyL T = some (d'.size, d'.agg)) (hu : d.upd off d' = some d'') : Puts ops S o (.row v e z ds) (.row v e z (ds.set k d'')) := by
 refine ⟨rfl, fun base ok a w ha hno hat => ?_⟩
 have hx' := bK ha hx (aF (by rw [ho]; simp [Op.operands]))
 obtain ⟨cs', h1, h2⟩ := ha.ev hy (aF (by rw [ho]; simp [Op.operands]))
 have hk' := (Lp.1 hk.2).1
 obtain ⟨g, c, cur, rows, H⟩ := row_in hat (by omega)
 obtain ⟨r, A, B, g1, g2, g3, g4, g5, g6⟩ := H.elem hk.2
 obtain ⟨e1, e2, pre, mid, post, rfl, h5, h6, h7⟩ := jc d off d' d'' r cs' hu g3 h1
 obtain ⟨_, _, _, hT'⟩ := tyI hT
 have hh : w.heap[g]? = some (.cells ((A ++ pre) ++ mid ++ (post ++ B)).toArray e (0, 0)) := by
  have := H.heap
  rw [show cur = (A ++ (pre ++ mid ++ post) ++ B).toArray by rw [← g4]] at this
  rw [this]
  simp
 have hrun := gG (T := T) (by rw [hT', Reads.len _ _ h1]) h1 hh (by rw [List.length_append, g5, h5, ← hk.1]) h6
 have hg := bg g cs' n w
 have hnew := dD cs' (A ++ pre) mid (post ++ B) w h6 hh
 rw [List.length_append, g5, h5, ← hk.1] at hnew
 have hcell : ∀ q : Addr, ok q.block → (w.setCells g n cs').cell? q = w.cell? q := fun q hq => World.cell?_of_block (hg.block _ (ha.lt _ hq) fun e => hno g (by rw [H.val]; rfl) (by injection e with e; rw [← e]; exact hq))
 have hlen : (pre ++ cs' ++ post).length = z := by
  simp only [List.length_append] at g2 ⊢
  omega
 have hrows := aj.set ds rows k d'' (pre ++ cs' ++ post) H.rows h7 hlen
 have hrows' := aj.mono (fun _ h => h) hcell z _ _ hrows
 refine ⟨w.setCells g n cs', g, ?_, by rw [H.val]; rfl, hg, qV.at (g := g) (c := c) (cur := ((A ++ pre) ++ cs' ++ (post ++ B)).toArray) (rows := rows.set k (pre ++ cs' ++ post)) ⟨by rw [Nk]; exact H.val, hnew, ?_, ?_, by rw [Nk]; exact H.le, H.max, hrows', H.mine⟩⟩
 ·
  have ep : aN v n = .pointer (some ⟨g, n, none⟩) := by rw [H.val]; simp [aN]
  unfold execOp
  simp only [ho, hx', ep, h2, Lr, hrun, Lh, LD]
 ·
  rw [Nk, ← g6 _ hlen]
  simp
 ·
  have := congrArg List.length g4
  rw [NI, H.size] at this
  simp only [ND, List.length_append] at this ⊢
  omega
theorem EU {T K n E g c ty : Nat} {pos : String} {af : Array Edge} {gd : Option (Nat × Bool)} {x y z : Operand} {es : List Ent} {l1 : List UInt8} {d : D} (hx : ev (⟨rs, os, fs⟩ : St) x = some (.val (.v (.map (some g))))) (hset : jw os (.map g n c es) (.map g n (aU c es l1) (aX c es l1 d)) os') (hy : ev (⟨rs, os, fs⟩ : St) y = some (.val (.arr n l1))) (hz : ev (⟨rs, os, fs⟩ : St) z = some (.val d)) (hT : assoc ji T = some (K, n, E)) (hg : guardOf ops ⟨rs, os, fs⟩ ⟨none, .mapUpdate T x y z, ty, pos, af, gd⟩ = some true) (kk : EL X ops Q l ⟨rs, os', fs⟩) : EL X ops Q (⟨none, .mapUpdate T x y z, ty, pos, af, gd⟩ :: l) ⟨rs, os, fs⟩ := by
 obtain ⟨i, hi, rfl⟩ := hset.ix
 exact EL.put i hg rfl (qo rfl hx hy hz hT) hi kk
theorem aY {T e z n k off ty : Nat} {pos : String} {af : Array Edge} {gd : Option (Nat × Bool)} {x y : Operand} {v : Value} {ds : List D} {d d' d'' : D} (hx : ev (⟨rs, os, fs⟩ : St) x = some (.val (.v (aN v n)))) (hset : jw os (.row v e z ds) (.row v e z (ds.set k d'')) os') (hk : n = k * z + off ∧ ds[k]? = some d) (hy : ev (⟨rs, os, fs⟩ : St) y = some (.val d')) (hT : assoc tyL T = some (d'.size, d'.agg)) (hu : d.upd off d' = some d'') (hg : guardOf ops ⟨rs, os, fs⟩ ⟨none, .store T x y, ty, pos, af, gd⟩ = some true) (kk : EL X ops Q l ⟨rs, os', fs⟩) : EL X ops Q (⟨none, .store T x y, ty, pos, af, gd⟩ :: l) ⟨rs, os, fs⟩ := by
 obtain ⟨i, hi, rfl⟩ := hset.ix
 exact EL.put i hg rfl (dN hk rfl hx hy hT hu) hi kk
theorem EL.del {T K n E g c : Nat} {U : TypeId} {x y : Operand} {es : List Ent} {l1 : List UInt8} (i : Nat) (ho : o.op = .call { callee := .builtin .delete, args := #[x, y], argTypes := #[T, U] }) (hg : guardOf ops S o = some true) (hd : o.dst = none) (hx : ev S x = some (.val (.v (.map (some g))))) (hi : S.objs[i]? = some (.map g n c es)) (hy : ev S y = some (.val (.arr n l1))) (hT : assoc ji T = some (K, n, E)) (k : EL X ops Q l ⟨S.regs, S.objs.set i (.map g n c (fC es l1)), S.facts⟩) : EL X ops Q (o :: l) S := by
 constructor
 intro a w ha
 have hk := ha.kn fun t => t ∈ o.looksAt ops
 have h1 := bK hk hx (aF (by rw [ho]; simp [Op.operands, Call.operands]))
 obtain ⟨h2, h3⟩ := iP (hk.ev hy (aF (by rw [ho]; simp [Op.operands, Call.operands])))
 have hmem := LC hi
 obtain ⟨w', h4, h5, h6⟩ := yE (U := U) o.type (nD hT).1 (nD hT).2 (ha.mem.at_ _ hmem) l1 h2 (fun hk => hk.2.2 _ hmem rfl)
 unfold wpList
 rw [if_pos (dh ha hg)]
 refine .inl ?_
 unfold Oper.wp execOp
 simp only [ho, resolve, invoke, builtin, Lr, LD, Lh, Nz, LV, MW, h1, h3, h4]
 simp only [Oper.upon_value, hd, Act.put]
 exact k.go _ _ (ha.turn hi h5 (.inl rfl) fun hok hcell => h6.move hok (fun _ _ => rfl) fun _ _ => rfl)
theorem EZ {T K n E g c ty : Nat} {U : TypeId} {pos : String} {af : Array Edge} {gd : Option (Nat × Bool)} {x y : Operand} {es : List Ent} {l1 : List UInt8} (hx : ev (⟨rs, os, fs⟩ : St) x = some (.val (.v (.map (some g))))) (hset : jw os (.map g n c es) (.map g n c (fC es l1)) os') (hy : ev (⟨rs, os, fs⟩ : St) y = some (.val (.arr n l1))) (hT : assoc ji T = some (K, n, E)) (hg : guardOf ops ⟨rs, os, fs⟩ ⟨none, .call { callee := .builtin .delete, args := #[x, y], argTypes := #[T, U] }, ty, pos, af, gd⟩ = some true) (kk : EL X ops Q l ⟨rs, os', fs⟩) : EL X ops Q (⟨none, .call { callee := .builtin .delete, args := #[x, y], argTypes := #[T, U] }, ty, pos, af, gd⟩ :: l) ⟨rs, os, fs⟩ := by
 obtain ⟨i, hi, rfl⟩ := hset.ix
 exact EL.del i rfl hg rfl hx hi hy hT kk
theorem sD {q : Obj} {r : R} {ob : Go.Obj} {v : Value} (hb : q.blk = some w.heap.size) (hat : ∀ ok' : Nat → Prop, (∀ b, ok b → ok' b) → q.At (fun b => jK [] b ∨ w.heap.size ≤ b) ok' (w.alloc ob)) (hr : ∀ ok', aO ok' (w.alloc ob) r v) (hlt : ∀ b, ok b → b < w.heap.size) : Turned ok [] w [q] (w.alloc ob) ∧ aO (okM ok [] w [q] (w.alloc ob)) (w.alloc ob) r v := by
 have hg := bZ w ob
 refine ⟨⟨.of hg, by simp, fun o ho => ?_⟩, hr _⟩
 obtain rfl : o = q := by simpa using ho
 refine hat _ fun b hk => ⟨.inl hk, LU (hlt b hk) hg.size, fun o' ho' e => ?_⟩
 obtain rfl : o' = o := by simpa using ho'
 rw [hb] at e
 injection e with e
 have := hlt b hk
 omega
theorem dW {T K n E : Nat} (ho : o.op = .makeMap T none) (hT : assoc ji T = some (K, n, E)) : lg ops S o [] (fun r os' => ∃ g, r = .val (.v (.map (some g))) ∧ os' = [.map g n 0 []]) := .mk fun base ok a w ha hown => by
 have hr : (execOp a.eval o).run Tryz.prog w = .ok (.value (.map (some w.heap.size))) (w.alloc (.map #[] 0)) := by
  unfold execOp
  have := @run_makeMap Tryz.prog
  simp [ho, this]
 rw [hr]
 obtain ⟨h1, h2⟩ := sD (ok := ok) (w := w) (q := .map w.heap.size n 0 []) (r := .val (.v (.map (some w.heap.size)))) (ob := .map #[] 0) (v := .map (some w.heap.size)) rfl (fun ok' _ => ⟨.inr (LG _), ng.nil, #[], heap_alloc_new w _, .nil⟩) (fun _ => dR rfl) ha.lt
 exact ⟨_, _, ⟨_, rfl, rfl⟩, h1, h2⟩
theorem lG {T : TypeId} {x : Operand} {d : D} (ho : o.op = .box T x) (hx : ev S x = some (.val d)) : lg ops S o [] (fun r os' => ∃ g, r = .val (.v (.pointer (some ⟨g, 0, none⟩))) ∧ os' = [.var g T d]) := .mk fun base ok a w ha hown => by
 obtain ⟨cs, h1, h2⟩ := zI ho hx base ok a w ha
 rw [h1]
 obtain ⟨g1, g2⟩ := sD (ok := ok) (w := w) (q := .var w.heap.size T d) (r := .val (.v (.pointer (some ⟨w.heap.size, 0, none⟩)))) (ob := .cells cs.toArray T) (v := .pointer (some ⟨w.heap.size, 0, none⟩)) rfl (fun ok' hk => ⟨.inr (LG _), cs, heap_alloc_new w _, Reads.mono hk (fun p hp => (bZ w _).cell (ha.lt _ hp)) _ _ h2⟩) (fun _ => dR rfl) ha.lt
 exact ⟨_, _, ⟨_, rfl, rfl⟩, g1, g2⟩
theorem dZ {T : TypeId} {d : D} (ho : o.op = .alloc T) (hz : assoc dI T = some d) : lg ops S o [] (fun r os' => ∃ g, r = .val (.v (.pointer (some ⟨g, 0, none⟩))) ∧ os' = [.var g T d]) := .mk fun base ok a w ha hown => by
 obtain ⟨cs, h1, h2⟩ := o8 ho (pI hz) base ok a w ha
 rw [h1]
 obtain ⟨g1, g2⟩ := sD (ok := ok) (w := w) (q := .var w.heap.size T d) (r := .val (.v (.pointer (some ⟨w.heap.size, 0, none⟩)))) (ob := .cells cs.toArray T) (v := .pointer (some ⟨w.heap.size, 0, none⟩)) rfl (fun ok' hk => ⟨.inr (LG _), cs, heap_alloc_new w _, Reads.mono hk (fun p hp => (bZ w _).cell (ha.lt _ hp)) _ _ h2⟩) (fun _ => dR rfl) ha.lt
 exact ⟨_, _, ⟨_, rfl, rfl⟩, g1, g2⟩
theorem BI {t T K n E ty : Nat} {pos : String} {af : Array Edge} {gd : Option (Nat × Bool)} (hT : assoc ji T = some (K, n, E)) (hg : guardOf ops ⟨rs, os, fs⟩ ⟨some t, .makeMap T none, ty, pos, af, gd⟩ = some true) (hN : Nat.blt t N = true) (kk : ∀ g, EL X ops Q l ⟨(t, .val (.v (.map (some g)))) :: rs, .map g n 0 [] :: os, fs⟩) : EL X ops Q (⟨some t, .makeMap T none, ty, pos, af, gd⟩ :: l) ⟨rs, os, fs⟩ :=
 EL.mut (os := []) (rest := os) hg (fK rfl hN) (dW rfl hT) fun r os' ⟨g, h1, h2⟩ => by
  subst h1 h2
  exact kk g
theorem aH {t ty f : Nat} {pos : String} {af : Array Edge} {gd : Option (Nat × Bool)} {args : Array Operand} {tys : Array TypeId} {ds ds' : List D} {os0 : List Obj} {Φ : R → List Obj → Prop} (hF : FnM f ds' os Φ) (hos : os0 = os ++ rest := by rfl) (hx : evs (⟨rs, rest, fs⟩ : St) args.toList = some ds := by rfl) (hR : ah fs ds ds' := by exact RL.a) (hf : Enters f := by exact enA) (hg : guardOf ops ⟨rs, os ++ rest, fs⟩ ⟨some t, .call { callee := .value (.func f), args := args, argTypes := tys }, ty, pos, af, gd⟩ = some true := by rfl) (hN : Nat.blt t N = true := by rfl) (kk : ∀ r os', Φ r os' → EL X ops Q l ⟨(t, r) :: rs, os' ++ rest, fs⟩) : EL X ops Q (⟨some t, .call { callee := .value (.func f), args := args, argTypes := tys }, ty, pos, af, gd⟩ :: l) ⟨rs, os0, fs⟩ := by
 subst hos
 refine EL.mut (Φ := Φ) hg (fK rfl hN) ?_ kk
 exact yL (S := ⟨rs, rest, fs⟩) hF rfl hx hR hf
theorem eU {t ty f : Nat} {pos : String} {af : Array Edge} {gd : Option (Nat × Bool)} {args : Array Operand} {tys : Array TypeId} {ds ds' : List D} {os0 os1 : List Obj} {r1 : R} (hF : FnM f ds' os (fun r os' => r = r1 ∧ os' = os1)) (hos : os0 = os ++ rest := by rfl) (hx : evs (⟨rs, rest, fs⟩ : St) args.toList = some ds := by rfl) (hR : ah fs ds ds' := by exact RL.a) (hf : Enters f := by exact enA) (hg : guardOf ops ⟨rs, os ++ rest, fs⟩ ⟨some t, .call { callee := .value (.func f), args := args, argTypes := tys }, ty, pos, af, gd⟩ = some true := by rfl) (hN : Nat.blt t N = true := by rfl) (kk : EL X ops Q l ⟨(t, r1) :: rs, os1 ++ rest, fs⟩) : EL X ops Q (⟨some t, .call { callee := .value (.func f), args := args, argTypes := tys }, ty, pos, af, gd⟩ :: l) ⟨rs, os0, fs⟩ :=
 aH hF hos hx hR hf hg hN fun r os' ⟨h1, h2⟩ => by
  subst h1 h2
  exact kk
theorem CH.bC {os1 : List Obj} {T : St → Prop} {d : Option Tmp} {ty f : Nat} {pos : String} {af : Array Edge} {gd : Option (Nat × Bool)} {args : Array Operand} {tys : Array TypeId} {ds ds' : List D} {os0 : List Obj} {Φ : R → List Obj → Prop} (hF : FnM f ds' os Φ) (hos : os0 = os ++ (rest ++ os1) := by rfl) (hx : evs (⟨rs, rest ++ os1, fs⟩ : St) args.toList = some ds := by rfl) (hR : ah fs ds ds' := by exact RL.a) (hf : Enters f := by exact enA) (hg : guardOf ops ⟨rs, os ++ (rest ++ os1), fs⟩ ⟨d, .call { callee := .value (.func f), args := args, argTypes := tys }, ty, pos, af, gd⟩ = some true := by rfl) (hd : G6 N d = true := by rfl)
  (k : ∀ r os', Φ r os' → CH N ops os1 T l (St.put ⟨rs, os' ++ (rest ++ os1), fs⟩ d r)) : CH N ops os1 T (⟨d, .call { callee := .value (.func f), args := args, argTypes := tys }, ty, pos, af, gd⟩ :: l) ⟨rs, os0, fs⟩ := by
 subst hos
 refine CH.mut (Φ := Φ) hd hg ?_ k
 exact yL (S := ⟨rs, rest ++ os1, fs⟩) hF rfl hx hR hf
theorem rV {t f : Nat} {args : Array Operand} {tys : Array TypeId} {caps : List Value} (ho : o.op = .call { callee := .value (.tmp t), args := args, argTypes := tys }) (ht : a.eval (.tmp t) = .func (.func f) #[] caps.toArray) (hf : Enters f) : (execOp a.eval o).run Tryz.prog w = .ok (.enter f (args.map a.eval ++ caps.toArray)) w := by
 unfold execOp
 simp [ho, resolve, ht, Deferred.ofValue, invoke, hf (args.map a.eval ++ caps.toArray) w]
theorem mg {t : Tmp} {args : Array Operand} {tys : Array TypeId} (ho : o.op = .call { callee := .value (.tmp t), args := args, argTypes := tys }) : ∀ u, Operand.tmp t = .tmp u → u ∈ o.looksAt ops := aF (by rw [ho]; simp [Op.operands, Call.operands])
theorem iU : ∀ (ds es : List D) (xs ys : List Value), bJ ok w ds xs → bJ ok w es ys → bJ ok w (ds ++ es) (xs ++ ys)
 | [], es, xs, ys, h, h' => by cases h; exact h'
 | d :: ds, es, xs, ys, h, h' => by
  obtain ⟨x, rest, rfl, h1, h2⟩ := h
  exact ⟨x, _, rfl, h1, iU ds es rest ys h2 h'⟩
theorem iL {t f : Nat} {args : Array Operand} {tys : Array TypeId} {caps : List Value} {ds ds' cds : List D} {Φ : R → Prop} (hF : Fn f (ds' ++ cds) Φ) (hc : ∀ base ok L (a : Act) w, Kn base ok L S a w → bJ ok w cds caps) (ho : o.op = .call { callee := .value (.tmp t), args := args, argTypes := tys }) (ht : look S.regs t = some (.val (.v (.func (.func f) #[] caps.toArray)))) (hx : evs S args.toList = some ds) (hR : ah S.facts ds ds') (hf : Enters f) : iR ops S o Φ := fun base ok a w ha => by
 have h1 : a.eval (.tmp t) = .func (.func f) #[] caps.toArray := bK ha (x := .tmp t) ht (mg ho)
 have hr := ah.ny ha.facts _ _ _ hR (ha.evs _ _ hx fun u hu => ay (x := .tmp u) rfl (by rw [ho]; simp only [Op.operands, Call.operands]; simp; right; simpa using hu))
 rw [rV ho h1 hf]
 refine ⟨Gr.refl w, ?_⟩
 have := hF.go ok w _ ha.lt (iU _ _ _ _ hr (hc _ _ _ a w ha))
 have he : (args.toList.map a.eval ++ caps).toArray = args.map a.eval ++ caps.toArray := by
  apply NY
  simp
 rw [he] at this
 refine this.mono ?_
 rintro e w' ⟨hg, v, r, rfl, hr, hv⟩
 exact ⟨v, rfl, hg, r, hr, hv⟩
theorem Gu {t f : Nat} {args : Array Operand} {tys : Array TypeId} {caps : List Value} {ds ds' cds : List D} {Φ : R → List Obj → Prop} (hF : FnM f (ds' ++ cds) os Φ) (hc : ∀ base ok L (a : Act) w, Kn base ok L S a w → bJ ok w cds caps) (ho : o.op = .call { callee := .value (.tmp t), args := args, argTypes := tys }) (ht : look S.regs t = some (.val (.v (.func (.func f) #[] caps.toArray)))) (hx : evs S args.toList = some ds) (hR : ah S.facts ds ds') (hf : Enters f) : lg ops S o os Φ := .mk fun base ok a w ha hown => by
 have h1 : a.eval (.tmp t) = .func (.func f) #[] caps.toArray := bK ha (x := .tmp t) ht (mg ho)
 have hr := ah.ny ha.facts _ _ _ hR (ha.evs _ _ hx fun u hu => ay (x := .tmp u) rfl (by rw [ho]; simp only [Op.operands, Call.operands]; simp; right; simpa using hu))
 rw [rV ho h1 hf]
 have := hF.go ok w _ ha.lt hown (iU _ _ _ _ hr (hc _ _ _ a w ha))
 have he : (args.toList.map a.eval ++ caps).toArray = args.map a.eval ++ caps.toArray := by
  apply NY
  simp
 rw [he] at this
 simp only [eu]
 refine this.mono ?_
 rintro e w' ⟨v, r, os', rfl, h1, h2, h3⟩
 exact ⟨v, rfl, r, os', h1, h2, h3⟩
theorem qY {t u ty f : Nat} {pos : String} {af : Array Edge} {gd : Option (Nat × Bool)} {args : Array Operand} {tys : Array TypeId} {caps : List Value} {ds ds' cds : List D} {os0 : List Obj} {Φ : R → List Obj → Prop} (hF : FnM f (ds' ++ cds) os Φ) (hc : ∀ base ok L (a : Act) w, Kn base ok L ⟨rs, rest, fs⟩ a w → bJ ok w cds caps) (hos : os0 = os ++ rest) (ht : look rs u = some (.val (.v (.func (.func f) #[] caps.toArray)))) (hx : evs (⟨rs, rest, fs⟩ : St) args.toList = some ds) (hR : ah fs ds ds') (hf : Enters f) (hg : guardOf ops ⟨rs, os ++ rest, fs⟩ ⟨some t, .call { callee := .value (.tmp u), args := args, argTypes := tys }, ty, pos, af, gd⟩ = some true) (hN : Nat.blt t N = true) (kk : ∀ r os', Φ r os' → EL X ops Q l ⟨(t, r) :: rs, os' ++ rest, fs⟩) : EL X ops Q (⟨some t, .call { callee := .value (.tmp u), args := args, argTypes := tys }, ty, pos, af, gd⟩ :: l) ⟨rs, os0, fs⟩ := by
 subst hos
 exact EL.mut hg (fK rfl hN) (Gu hF hc rfl ht hx hR hf) kk
theorem uV {caps : List Value} (h : ∀ x ∈ caps, x.oneCell' = true) : bJ ok w (caps.map .v) caps := by
 induction caps with
 | nil => rfl
 | cons x xs ih => exact ⟨x, xs, rfl, dR (h x (by simp)), ih fun y hy => h y (by simp [hy])⟩
theorem xI (v : Value) (k : Nat) : (cutV v k).ownBlock = v.ownBlock := by
 unfold cutV
 split
 ·
  rename_i A n c
  cases A <;> rfl
 · rfl
theorem Le.Ji {e z k : Nat} {v : Value} {ds : List D} (hk : k ≤ ds.length) (hset : jw os (.row v e z ds) (.row (cutV v k) e z (ds.take k)) os') : Le X ⟨rs, os, fs⟩ ⟨rs, os', fs⟩ := by
 obtain ⟨i, hi, rfl⟩ := hset.ix
 intro a w ha
 refine ha.turn hi (World.grownBy.refl w _) (.inl ?_) fun hok hcell => ?_
 · exact xI v k
 ·
  have hat := (ha.mem.at_ _ (LC hi)).move hok (fun _ _ => rfl) fun _ _ => rfl
  obtain ⟨rows, ⟨h1, h2⟩, h3⟩ := hat
  obtain ⟨hl1, hl2⟩ := aj.lens ds rows h3
  have hlen : (ds.take k).length = k := by rw [MJ]; omega
  have hb := xI v k
  refine ⟨rows.take k, ⟨⟨?_, ?_⟩, fun b hb' => h2 b (by rw [← hb]; exact hb')⟩, aj.take ds rows k h3⟩
  ·
   rw [nK rows hl2, MJ, jm rows hl2, hl1, hlen]
   exact OM (NC z hk)
  ·
   rcases h1.2 with ⟨e1, e2⟩ | ⟨g, c, cur, e1, e2, e3, e4, e5, e6, e7⟩
   ·
    refine .inl ⟨?_, by omega⟩
    rw [e1]
    have : k = 0 := by omega
    subst this
    rfl
   ·
    refine .inr ⟨g, c, cur, by rw [e1, hlen]; rfl, e2, e3, by omega, e5, e6, ?_⟩
    rw [nK rows hl2, ← e7, hlen, List.take_take, OM (NC z hk)]
theorem KF {T : Nat} (h : IW.contains T = true) : ∃ e, Tryz.prog.underlying T = some (.pointer e) := by
 have := Md.1 Gf T (by simpa using h)
 unfold JQ at this
 split at this
 ·
  rename_i e he
  exact ⟨e, he⟩
 · cases this
end
structure Bx (Q : Prop) : Prop where out : Q
theorem stp {P Q : Prop} (q : Q) (h : Bx Q → P := by
 intro q
 first
 | ((with_reducible apply EK.h0); apply EK.round; exact q.out)
 | (apply EL.nil; exact q.out)
 | ((with_reducible apply EK.h0); apply EK.code; exact q.out)
 | (apply EC.t0; rfl; exact q.out)
 | (apply EC.f0; rfl; exact q.out)
 | ((with_reducible apply EK.DR); rfl; exact q.out)
 | ((with_reducible first | apply EC.seq | apply EC.r0 | apply EC.k0 | apply EC.label | apply EC.b0 | apply EC.x0 | apply EC.ret | apply EK.n0 | apply EK.s0 | apply EK.Jd | apply EK.CG | apply EK.Aj); exact q.out)
 | (apply Js; (iterate 2 rfl); exact q.out)
 | (apply Jv; (iterate 3 rfl); exact q.out)
 | (apply Fa; (iterate 3 rfl); exact q.out)
 | (apply Hw; (iterate 6 rfl); exact q.out)
 | (apply BK; (iterate 7 rfl); exact q.out)
 | (apply BL; (iterate 4 rfl); exact q.out)
 | (apply EW; (iterate 5 rfl); exact q.out)
 | (apply Jt; (iterate 4 rfl); exact q.out)
 | (apply Kt; (iterate 3 rfl); exact q.out)
 | (apply Jw; rfl; exact I.a; (iterate 4 rfl); exact q.out)
 | (apply xZ (b := true); (iterate 2 rfl); exact G8; (iterate 2 rfl); exact q.out)
 | (apply xZ (b := false); (iterate 2 rfl); exact G8; (iterate 2 rfl); exact q.out)
 | (apply xZ; (iterate 5 rfl); exact q.out)
 | (apply KH; (iterate 3 rfl); (focus omega); (focus omega); (iterate 2 rfl); exact q.out)
 | (apply Ht; (iterate 4 rfl); exact q.out)
 | (apply Hr; (iterate 4 rfl); exact q.out)
 | (apply EX; rfl; exact I.a; (iterate 3 rfl); exact q.out)
 | (apply Jy; (iterate 4 rfl); exact q.out)
 | (apply Hu; (iterate 4 rfl); exact ixA; (iterate 2 rfl); exact q.out)
 | (apply BJ; (iterate 3 rfl); exact ixA; (iterate 2 rfl); exact q.out)
 | (apply Kr; (iterate 3 rfl); exact q.out)
 | (apply Hy; (iterate 7 rfl); exact q.out)
 | (apply E8; (iterate 5 rfl); exact q.out)
 | (apply Ku; (iterate 9 rfl); exact q.out)
 | (apply Hq; (iterate 3 rfl); exact q.out)
 | (apply BH; (iterate 3 rfl); exact q.out)
 | (apply ET; (iterate 3 rfl); exact q.out)
 | (apply EY; rfl; exact I.a; (iterate 3 rfl); exact q.out)
 | (apply EO; rfl; exact I.a; (focus (first | omega | (simp; done) | (simp; omega))); (iterate 2 rfl); exact q.out)
 | (apply zi; rfl; exact I.a; (focus (first | omega | (simp; done) | (simp; omega))); (iterate 5 rfl); exact q.out)
 | (apply EP; rfl; exact I.a; (iterate 2 rfl); (focus (first | assumption | omega | (constructor <;> (first | (simp; done) | (simp; omega))))); (iterate 2 rfl); exact q.out)
 | (apply EU; rfl; exact saA; (iterate 4 rfl); exact q.out)
 | (apply BI; rfl; rfl; rfl; exact q.out)
 | (apply EZ; rfl; exact saA; (iterate 3 rfl); exact q.out)
 | (apply Hz; rfl; rfl; rfl; exact q.out)
 | (apply Kv; rfl; rfl; rfl; exact q.out)
 | (apply Hg; rfl; exact saA; (iterate 4 rfl); exact q.out)
 | ((apply Fb; rfl; exact saA; (iterate 5 rfl); (focus (constructor <;> (first | (simp; done) | (simp; omega))))); exact q.out)) : P := h ⟨q⟩
theorem sth {P Q : Prop} (q : Q) (h : Bx Q → P := by
 intro q
 first
 | (apply Jz; (iterate 2 rfl); exact q.out)
 | (apply JB; (iterate 3 rfl); exact q.out)
 | (apply FC; (iterate 3 rfl); exact q.out)
 | (apply H9; (iterate 6 rfl); exact q.out)
 | (apply BP; (iterate 7 rfl); exact q.out)
 | (apply BQ; (iterate 4 rfl); exact q.out)
 | (apply Fj; (iterate 5 rfl); exact q.out)
 | (apply JA; (iterate 4 rfl); exact q.out)
 | (apply Kz; (iterate 3 rfl); exact q.out)
 | (apply JC; rfl; exact I.a; (iterate 4 rfl); exact q.out)
 | (apply Fz (b := true); (iterate 2 rfl); exact G8; (iterate 2 rfl); exact q.out)
 | (apply Fz (b := false); (iterate 2 rfl); exact G8; (iterate 2 rfl); exact q.out)
 | (apply Fz; (iterate 5 rfl); exact q.out)
 | (apply KJ; (iterate 3 rfl); (focus omega); (focus omega); (iterate 2 rfl); exact q.out)
 | (apply H8; (iterate 4 rfl); exact q.out)
 | (apply H7; (iterate 4 rfl); exact q.out)
 | (apply Fp; rfl; exact I.a; (iterate 3 rfl); exact q.out)
 | (apply JD; (iterate 4 rfl); exact q.out)
 | (apply mZ; (iterate 4 rfl); exact ixA; (iterate 2 rfl); exact q.out)
 | (apply BO; (iterate 3 rfl); exact ixA; (iterate 2 rfl); exact q.out)
 | (apply Kw; (iterate 3 rfl); exact q.out)
 | (apply Ia; (iterate 7 rfl); exact q.out)
 | (apply FB; (iterate 5 rfl); exact q.out)
 | (apply KC; (iterate 9 rfl); exact q.out)
 | (apply HY; (iterate 3 rfl); exact q.out)
 | (apply BN; (iterate 3 rfl); exact q.out)
 | (apply H6; (iterate 4 rfl); exact q.out)
 | (apply KA; (iterate 4 rfl); exact q.out)
 | (apply Fq; rfl; exact I.a; (iterate 3 rfl); exact q.out)
 | (apply Fg; rfl; exact I.a; (focus (first | omega | (simp; done) | (simp; omega))); (iterate 2 rfl); exact q.out)
 | (apply zk; rfl; exact I.a; (focus (first | omega | (simp; done) | (simp; omega))); (iterate 5 rfl); exact q.out)
 | (apply Fh; rfl; exact I.a; (iterate 2 rfl); (focus (first | assumption | omega | (constructor <;> (first | (simp; done) | (simp; omega))))); (iterate 2 rfl); exact q.out)
 | (apply Ib; (iterate 3 rfl); exact q.out)
 | (apply KD; (iterate 3 rfl); exact q.out)
 | ((with_reducible apply EH.nil); rfl; exact q.out)
 | ((with_reducible apply EH.JW); rfl; exact q.out)
 | ((with_reducible apply EH.KG); rfl; exact q.out)) : P := h ⟨q⟩
end E
end Go.Proofs.YtohlgnfachkmaaaGreat
namespace Go.Proofs.YtohlgnfachkmaaaGreat
set_option linter.unusedVariables false
namespace Wd
open Rlp
def le (B : Nat) : List Nat → Nat
 | [] => 0
 | d :: ds => d + B * le B ds
end Wd
end Go.Proofs.YtohlgnfachkmaaaGreat
namespace Go.Proofs.YtohlgnfachkmaaaGreat
set_option linter.unusedVariables false
open Go.RowKit Mono Rlp
namespace E
section
variable {N : Nat} {X : Cx N} {S S' : St} {a : Act} {w w' : World} {ops : Array Oper} {o : Oper} {Q : Exit → Act → World → Prop} {K : Act → World → Prop} {l : List Oper} {c : Code} {TT : St → List Fr → Prop} {EE : List Fr} {rs : List (Tmp × R)} {os os' rest : List Obj} {fs : List (Value × D)} {base ok : Nat → Prop}
theorem EC.Ip (n : Nat) (h : EK X (Code.rounds Tryz.prog c Q n) S) : EC X Q (.loop c) S := ⟨fun a w ha => wp_loop_rounds n (h.go a w ha)⟩
theorem EK.round {n : Nat} (h : EC X (Exit.then (Code.rounds Tryz.prog c Q n) Q) c S) : EK X (Code.rounds Tryz.prog c Q (n + 1)) S := ⟨fun a w ha => h.go a w ha⟩
theorem Iw {f : FuncId} {args : Array Operand} {tys : Array TypeId} {xs vs : List Value} (hrun : ∀ w, (callFunc f xs.toArray).run Tryz.prog w = .ok (.value (.tuple vs.toArray)) w) (hvs : ∀ x ∈ vs, x.oneCell' = true) (ho : o.op = .call { callee := .value (.func f), args := args, argTypes := tys }) (hx : xE S args.toList = some xs) : Still ops S o (.tpl (vs.map .v)) := fun base ok a w ha => by
 have h1 := nN args.toList xs hx (fun t ht => ay (x := .tmp t) rfl (by rw [ho]; simp only [Op.operands, Call.operands]; simp; simpa using ht)) ha
 have h2 : args.map a.eval = xs.toArray := by
  apply NY
  simpa using h1
 refine ⟨.tuple vs.toArray, ?_, vs, rfl, uV hvs⟩
 unfold execOp
 simp [ho, resolve, Act.eval, Deferred.ofValue, invoke, h2, hrun]
theorem ES.ext {t : Tmp} {f : FuncId} {args : Array Operand} {tys : Array TypeId} {xs vs : List Value} (hrun : ∀ w, (callFunc f xs.toArray).run Tryz.prog w = .ok (.value (.tuple vs.toArray)) w) (hvs : ∀ x ∈ vs, x.oneCell' = true) (ho : o.op = .call { callee := .value (.func f), args := args, argTypes := tys }) (hx : xE (⟨rs, os, fs⟩ : St) args.toList = some xs) (hg : guardOf ops ⟨rs, os, fs⟩ o = some true) (hd : o.dst = some t) (hN : Nat.blt t N = true) (k : EL X ops Q l ⟨(t, .tpl (vs.map .v)) :: rs, os, fs⟩) : EL X ops Q (o :: l) ⟨rs, os, fs⟩ := ES.still (Iw hrun hvs ho hx) hg hd hN k
theorem EH.ext {t : Tmp} {f : FuncId} {args : Array Operand} {tys : Array TypeId} {xs vs : List Value} (hrun : ∀ w, (callFunc f xs.toArray).run Tryz.prog w = .ok (.value (.tuple vs.toArray)) w) (hvs : ∀ x ∈ vs, x.oneCell' = true) (ho : o.op = .call { callee := .value (.func f), args := args, argTypes := tys }) (hx : xE (⟨rs, os, fs⟩ : St) args.toList = some xs) (hg : guardOf ops ⟨rs, os, fs⟩ o = some true) (ht : o.dst = some t) (hd : bf N (some t) EE = true) (k : EM N ops TT l ⟨(t, .tpl (vs.map .v)) :: rs, os, fs⟩ EE) : EM N ops TT (o :: l) ⟨rs, os, fs⟩ EE := EH.still (Iw hrun hvs ho hx) hg ht hd k
theorem mO {T U : Nat} {k k' : IntKind} {de : TypeDesc} (hu : Tryz.prog.underlying T = some de) (hu' : Tryz.prog.underlying U = some (.int k')) (m n : Int) (h : k'.wrap m = n) : ∀ w, (Go.convert T U (.int k m)).run Tryz.prog w = .ok (.int k' n) w := fun w => by
 subst h
 simp [convert, run_underlying hu, run_underlying hu', Conv.intToInt]
theorem y9 {op : BinOp} {T : TypeId} {k k' : IntKind} {m n : Int} {c : Value} (hc : c.oneCell' = true) (h : ∀ w, (binOp op T (.int k m) (.int k' n)).run Tryz.prog w = .ok c w) : Bin op T (.v (.int k m)) (.v (.int k' n)) c := by
 refine ⟨hc, fun ok w p q hp hq => ?_⟩
 obtain ⟨_, rfl⟩ := aG.1 hp
 obtain ⟨_, rfl⟩ := aG.1 hq
 exact ⟨fun x y => by cases op <;> simp [eqGuard], h w⟩
end
abbrev ptr (g : Nat) : Value := .pointer (some ⟨g, 0, none⟩)
theorem mV {T : Nat} (h : IW.contains T = true) (p : Option Addr) : Bin .eql T (.v (.pointer p)) (.v (.pointer none)) (.bool p.isNone) ∧ Bin .neq T (.v (.pointer p)) (.v (.pointer none)) (.bool !p.isNone) := by
 obtain ⟨e, he⟩ := KF h
 have he : Tryz.prog.underlying T = some (.pointer (Tryz.prog.pointee T)) := by
  unfold Program.pointee
  rw [he]
 refine ⟨⟨rfl, fun ok w p q hp hq => ?_⟩, ⟨rfl, fun ok w p q hp hq => ?_⟩⟩ <;> (obtain rfl := (aG.1 hp).2; obtain rfl := (aG.1 hq).2; refine ⟨fun x y => by simp [eqGuard], ?_⟩)
 · exact run_eql_pointer_nil w T _ he
 · exact run_neq_pointer_nil w T _ he
section
variable {N : Nat} {X : Cx N} {rs : List (Tmp × R)} {os : List Obj} {fs : List (Value × D)}
theorem Le.rot (k : Nat) : Le X ⟨rs, os, fs⟩ ⟨rs, os.drop k ++ os.take k, fs⟩ := Le.perm (by
 have := MG (l₁ := os.take k) (l₂ := os.drop k)
 rwa [Nh] at this)
variable {S : St} {fn : Func} {Φ : R → List Obj → Prop}
theorem l7 {os' : List Obj} (h : os'.Sublist os) {w : World} {b : Nat} (hb : X.ok os w b) : X.ok os' w b := ⟨hb.1, hb.2.1, fun o ho => hb.2.2 o (h.subset ho)⟩
theorem EK.IU (os' : List Obj) (hres : fn.results = #[]) (ho : os'.Sublist S.objs) (hΦ : Φ (.tpl []) os') : EK X (bodyPost Tryz.prog fn (qZ X Φ) .ret) S := by
 constructor
 intro a w ha
 exact bodyPost_ret (results_none hres a.tmps Tryz.prog w) ha.defers ⟨_, _, os', rfl, hΦ, ha.mem.less ho (fun f hf => by cases hf), [], rfl, rfl⟩
theorem EK.cO (os' : List Obj) (hres : fn.results = #[]) (ho : os'.Sublist S.objs) (hΦ : Φ (.tpl []) os') : EK X (bodyPost Tryz.prog fn (qZ X Φ) .normal) S := by
 constructor
 intro a w ha
 have : bodyPost Tryz.prog fn (qZ X Φ) .ret a w := bodyPost_ret (results_none hres a.tmps Tryz.prog w) ha.defers ⟨_, _, os', rfl, hΦ, ha.mem.less ho (fun f hf => by cases hf), [], rfl, rfl⟩
 exact this
theorem EK.aI {t : Tmp} {r : R} (os' : List Obj) (hres : fn.results = #[.tmp t]) (hl : look S.regs t = some r) (ho : os'.Sublist S.objs) (hΦ : Φ r os') : EK X (bodyPost Tryz.prog fn (qZ X Φ) .ret) S := by
 constructor
 intro a w ha
 exact bodyPost_ret (results_tmp hres a.tmps Tryz.prog w) ha.defers ⟨_, r, os', rfl, hΦ, ha.mem.less ho (fun f hf => by cases hf), (ha.regs t r hl).mono (fun b hb => l7 ho hb) fun _ _ => rfl⟩
theorem EK.dY {p : Tmp} {g ty : Nat} {t : TypeId} {d d' : D} (i : Nat) (os' : List Obj) (hres : fn.results = #[.cell p ty]) (hl : look S.regs p = some (.val (.v (.pointer (some ⟨g, 0, none⟩))))) (hi : S.objs[i]? = some (.var g t d)) (hT : assoc tyL ty = some (d.size, d.agg)) (hR : ah S.facts [d] [d']) (ho : os'.Sublist S.objs) (hΦ : Φ (.val d') os') : EK X (bodyPost Tryz.prog fn (qZ X Φ) .ret) S := by
 constructor
 intro a w ha
 obtain ⟨x, h1, h2⟩ := qg ha.mem hi (tyI hT)
 have hp := (aG.1 (ha.regs p _ hl)).2
 have hp' : a.tmps[p]?.getD undef = .pointer (some ⟨g, 0, none⟩) := by simpa using hp
 have h3 : aO (X.ok S.objs w) w (.val d') x := Refine1.ku ha.mem.fact hR h2
 refine bodyPost_ret (v := x) ?_ ha.defers ⟨_, _, os', rfl, hΦ, ha.mem.less ho (fun f hf => by cases hf), h3.mono (fun b hb => l7 ho hb) fun _ _ => rfl⟩
 simp [results, hres, hp', asAddr, h1]
end
section
variable {N : Nat} {X : Cx N} {ops : Array Oper} {Q : Exit → Act → World → Prop}
theorem dU {l' : List Oper} {t ty f : Nat} {pos : String} {af : Array Edge} {gd : Option (Nat × Bool)} {args : Array Operand} {tys : Array TypeId} {ds ds' : List D} {Φ : R → List Obj → Prop} {rs : List (Tmp × R)} {os os0 : List Obj} {fs : List (Value × D)} (hF : FnM f ds' os Φ) (l1 l2 : List Obj) (hos : os0 = l1 ++ (os ++ l2))
  (hx : evs (⟨rs, l1 ++ l2, fs⟩ : St) args.toList = some ds) (hR : ah fs ds ds') (hf : Enters f) (hg : guardOf ops ⟨rs, os ++ (l1 ++ l2), fs⟩ ⟨some t, .call { callee := .value (.func f), args := args, argTypes := tys }, ty, pos, af, gd⟩ = some true) (hN : Nat.blt t N = true) (k : ∀ r os', Φ r os' → EL X ops Q l' ⟨(t, r) :: rs, l1 ++ (os' ++ l2), fs⟩) : EL X ops Q (⟨some t, .call { callee := .value (.func f), args := args, argTypes := tys }, ty, pos, af, gd⟩ :: l') ⟨rs, os0, fs⟩ := by
 subst hos
 have hp : ∀ os : List Obj, (l1 ++ (os ++ l2)).Perm (os ++ (l1 ++ l2)) := fun os => by
  rw [← L6, ← L6]
  exact Ov _ MG
 exact EL.le (Le.perm (hp os)) (aH hF rfl hx hR hf hg hN fun r os' h => EL.le (Le.perm (hp os').symm) (k r os' h))
theorem EK.qh {fn : Func} {Φ : R → List Obj → Prop} {S : St} {t : Tmp} {d d' : D} (os' : List Obj) (hres : fn.results = #[.tmp t]) (hl : look S.regs t = some (.val d)) (hR : ah S.facts [d] [d']) (ho : os'.Sublist S.objs) (hΦ : Φ (.val d') os') : EK X (bodyPost Tryz.prog fn (qZ X Φ) .ret) S := by
 refine EK.le (S' := ⟨S.regs, os', S.facts⟩) ?_ (EK.IQ hres hl hR hΦ)
 exact fun a w h => ⟨h.mem.less ho (fun f hf => hf), fun t r ht => aO.mono (fun b hb => l7 ho hb) (fun _ _ => rfl) (h.regs t r ht), h.size, h.defers⟩
end
end E
end Go.Proofs.YtohlgnfachkmaaaGreat
namespace Go.Proofs.YtohlgnfachkmaaaGreat
set_option linter.unusedVariables false
set_option maxRecDepth 20000
set_option maxHeartbeats 4000000
open Go.RowKit Mono Rlp Wd
namespace E
abbrev stO (g m : Nat) (u k : Value) (n : Int) : Obj := .var g 120 (.tup [.v (.map (some m)), .v u, .v k, .v (.int .i64 n)])
abbrev smO (m c : Nat) (es : List Ent) : Obj := .map m 20 c es
abbrev unO (v : Value) (us : List D) : Obj := .row v 174 1 us
abbrev mkO (v : Value) (ks : List D) : Obj := .row v 169 2 ks
abbrev acO (g : Nat) (n : Int) (w c : List UInt8) (m : Value) : Obj := .var g 125 (.tup [.v (.int .i64 n), .arr 32 w, .bs c, .v m])
abbrev zaO (g : Nat) : Obj := .var g 125 (.tup [.v (.int .i64 0), .arr 32 zero32, .v (.slice none 0 0), .v (.map none)])
section
variable {g m c ga gs : Nat} {u k : Value} {n : Int} {es : List Ent} {a : List UInt8} {us ks : List D}
theorem zF (h : aC es a = some (.v (ptr ga))) : FnM 99 [.v (ptr g), .arr 20 a] [stO g m u k n, smO m c es] (fun r os' => r = .val (.v (ptr ga)) ∧ os' = [stO g m u k n, smO m c es]) := by
 have hg : (aC es a).getD (.v (.pointer none)) = .v (ptr ga) := by rw [h]; rfl
 have hn := (mV (T := 121) rfl (some ⟨ga, 0, none⟩)).2
 refine FnM.walk 17 Tryz.func99 rfl Tryz.ntmps99 (by simp) fun X => ?_
 repeat (refine stp ?_; intros)
 refine EC.draw 6 (by kernel_rfl) ?_
 simp only [KQ, KX, KP, KR]
 repeat
  (first
   | (apply cu; exact hg; rfl; (first | exact I0 | exact I1 | exact I2); iterate 5 rfl) | (refine sth ?_; intros))
 repeat
  (first
   | (refine bH (hrun := hn) (kk := ?_)) | (refine stp ?_; intros))
 exact EK.aI [stO g m u k n, smO m c es] rfl rfl (by (repeat first | exact KZ _ | apply List.Sublist.cons_cons | apply List.Sublist.cons)) ⟨rfl, rfl⟩
theorem uH (h : aC es a = none) : FnM 99 [.v (ptr g), .arr 20 a] [stO g m u k n, smO m c es] (fun r os' => ∃ ga, r = .val (.v (ptr ga)) ∧ os' = [zaO ga, stO g m u k n, smO m c es]) := by
 have hg : (aC es a).getD (.v (.pointer none)) = .v (.pointer none) := by rw [h]; rfl
 have hn := (mV (T := 121) rfl none).2
 refine FnM.walk 17 Tryz.func99 rfl Tryz.ntmps99 (by simp) fun X => ?_
 repeat (refine stp ?_; intros)
 refine EC.draw 6 (by kernel_rfl) ?_
 simp only [KQ, KX, KP, KR]
 repeat
  (first
   | (apply cu; exact hg; rfl; (first | exact I0 | exact I1 | exact I2); iterate 5 rfl) | (refine sth ?_; intros))
 repeat
  (first
   | (refine bH (hrun := hn) (kk := ?_)) | (refine stp ?_; intros))
 rename_i ga
 exact EK.aI [zaO ga, stO g m u k n, smO m c es] rfl rfl (by (repeat first | exact KZ _ | apply List.Sublist.cons_cons | apply List.Sublist.cons)) ⟨ga, rfl, rfl⟩
theorem zf {b : Int} {w cd : List UInt8} {sv : Value} (h : aC es a = some (.v (ptr ga))) : FnM 74 [.v (ptr g), .arr 20 a] [stO g m u k n, smO m c es, acO ga b w cd sv] (fun r os' => r = .val (.arr 32 w) ∧ os' = [stO g m u k n, smO m c es, acO ga b w cd sv]) := by
 have h1 := zF (g := g) (m := m) (c := c) (u := u) (k := k) (n := n) h
 refine FnM.walk 11 Tryz.func74 rfl Tryz.ntmps74 (by simp) fun X => ?_
 repeat (refine stp ?_; intros)
 rename_i g3 g4
 refine EL.le (Le.rot 2) ?_
 simp only [KP, KR, KQ, KX, KN, KO]
 repeat
  (first
   | (refine eU (h1) (kk := ?_)) | (refine stp ?_; intros))
 exact EK.dY 3 [stO g m u k n, smO m c es, acO ga b w cd sv] rfl rfl rfl rfl (by repeat first | exact ah.refl _ _ | exact RL.nil | exact Rf.same) (by (repeat first | exact KZ _ | apply List.Sublist.cons_cons | apply List.Sublist.cons)) ⟨rfl, rfl⟩
theorem xQ (h : aC es a = none) : FnM 74 [.v (ptr g), .arr 20 a] [stO g m u k n, smO m c es] (fun r os' => r = .val (.arr 32 zero32) ∧ os' = [stO g m u k n, smO m c es]) := by
 have h1 := uH (g := g) (m := m) (c := c) (u := u) (k := k) (n := n) h
 refine FnM.walk 11 Tryz.func74 rfl Tryz.ntmps74 (by simp) fun X => ?_
 repeat (refine stp ?_; intros)
 rename_i g3 g4
 refine EL.le (Le.rot 2) ?_
 simp only [KP, KR, KQ, KX, KN, KO]
 repeat
  (first
   | (refine aH h1 (kk := ?_); rintro _ _ ⟨ga, rfl, rfl⟩) | (refine stp ?_; intros))
 exact EK.dY 3 [stO g m u k n, smO m c es] rfl rfl rfl rfl (by repeat first | exact ah.refl _ _ | exact RL.nil | exact Rf.same) (by (repeat first | exact KZ _ | apply List.Sublist.cons_cons | apply List.Sublist.cons)) ⟨rfl, rfl⟩
theorem Dx {b : Int} {w cd : List UInt8} {sv : Value} (h : aC es a = some (.v (ptr ga))) : FnM 53 [.v (ptr g), .arr 20 a] [stO g m u k n, smO m c es, acO ga b w cd sv] (fun r os' => r = .val (.v (.int .i64 b)) ∧ os' = [stO g m u k n, smO m c es, acO ga b w cd sv]) := by
 have h1 := zF (g := g) (m := m) (c := c) (u := u) (k := k) (n := n) h
 refine FnM.walk 11 Tryz.func53 rfl Tryz.ntmps53 (by simp) fun X => ?_
 repeat (refine stp ?_; intros)
 rename_i g3
 refine EL.le (Le.rot 1) ?_
 simp only [KP, KR, KQ, KX, KN, KO]
 repeat
  (first
   | (refine eU (h1) (kk := ?_)) | (refine stp ?_; intros))
 exact EK.aI [stO g m u k n, smO m c es, acO ga b w cd sv] rfl rfl (by (repeat first | exact KZ _ | apply List.Sublist.cons_cons | apply List.Sublist.cons)) ⟨rfl, rfl⟩
theorem AL (h : aC es a = none) : FnM 53 [.v (ptr g), .arr 20 a] [stO g m u k n, smO m c es] (fun r os' => r = .val (.v (.int .i64 0)) ∧ os' = [stO g m u k n, smO m c es]) := by
 have h1 := uH (g := g) (m := m) (c := c) (u := u) (k := k) (n := n) h
 refine FnM.walk 11 Tryz.func53 rfl Tryz.ntmps53 (by simp) fun X => ?_
 repeat (refine stp ?_; intros)
 rename_i g3
 refine EL.le (Le.rot 1) ?_
 simp only [KP, KR, KQ, KX, KN, KO]
 repeat
  (first
   | (refine aH h1 (kk := ?_); rintro _ _ ⟨ga, rfl, rfl⟩) | (refine stp ?_; intros))
 exact EK.aI [stO g m u k n, smO m c es] rfl rfl (by (repeat first | exact KZ _ | apply List.Sublist.cons_cons | apply List.Sublist.cons)) ⟨rfl, rfl⟩
end
section
variable {N : Nat} {X : Cx N} {rs : List (Tmp × R)} {os : List Obj} {fs : List (Value × D)}
theorem Le.yh {g : Nat} {t : TypeId} {d d' : D} (h : Refine fs d d') : Le X ⟨rs, .var g t d :: os, fs⟩ ⟨rs, .var g t d' :: os, fs⟩ := fun a w ha => by
 have hok : ∀ b, X.ok (.var g t d :: os) w b ↔ X.ok (.var g t d' :: os) w b := fun b => ⟨fun hb => ⟨hb.1, hb.2.1, fun o ho => by
   rcases Lj.1 ho with rfl | ho
   · exact hb.2.2 (.var g t d) Ld
   · exact hb.2.2 o (Lu _ ho)⟩, fun hb => ⟨hb.1, hb.2.1, fun o ho => by
   rcases Lj.1 ho with rfl | ho
   · exact hb.2.2 (.var g t d') Ld
   · exact hb.2.2 o (Lu _ ho)⟩⟩
 have hap := Mc.1 ha.mem.apart
 have hf : ∀ f ∈ fs, Reads (X.ok (.var g t d' :: os) w) w f.2 [f.1] := fun f hf => Reads.mono (fun b hb => (hok b).1 hb) (fun _ _ => rfl) _ _ (ha.mem.fact f hf)
 refine ⟨⟨ha.mem.gr, Mc.2 ⟨fun p hp b e => hap.1 p hp b e, hap.2⟩, fun o ho => ?_, hf⟩, fun t' r hr => (ha.regs t' r hr).mono (fun b hb => (hok b).1 hb) fun _ _ => rfl, ha.size, ha.defers⟩
 rcases Lj.1 ho with rfl | ho
 ·
  obtain ⟨h1, cs, h2, h3⟩ := ha.mem.at_ (.var g t d) Ld
  exact ⟨h1, cs, h2, (Refine.reads hf _ _ _ h (Reads.mono (fun b hb => (hok b).1 hb) (fun _ _ => rfl) _ _ h3)).1⟩
 · exact (ha.mem.at_ o (Lu _ ho)).move (fun b hb => (hok b).1 hb) (fun _ _ => rfl) fun _ _ => rfl
end
section
variable {g m c ga gs T : Nat} {u k : Value} {n : Int} {es : List Ent} {a : List UInt8} {us ks : List D} {d : D}
def dG (ks us : List D) (d : D) : List D := if ks.length = 0 then us else us ++ [d]
theorem nR (h : aC es a = some (.v (ptr ga))) (hu : us.length < 1099511627776) : FnM 62 [.v (ptr g), .arr 20 a, .ifc T d] [stO g m u k n, smO m c es, unO u us, mkO k ks] (fun r os' => ∃ u', r = .val (.v (ptr ga)) ∧ os' = [stO g m u' k n, smO m c es, unO u' (dG ks us (.ifc T d)), mkO k ks]) := by
 have hg : (aC es a).getD (.v (.pointer none)) = .v (ptr ga) := by rw [h]; rfl
 have hn := (mV (T := 121) rfl (some ⟨ga, 0, none⟩)).1
 refine FnM.walk 44 Tryz.func62 rfl Tryz.ntmps62 (by simp) fun X => ?_
 by_cases hk : ks.length = 0
 ·
  obtain rfl : ks = [] := ML hk
  rw [show dG [] us (.ifc T d) = us from rfl]
  repeat (refine stp ?_; intros)
  refine EC.draw 7 (by kernel_rfl) ?_
  simp only [KQ, KX, KP, KR]
  repeat
   (first
    | (apply cu; exact hg; rfl; (first | exact I0 | exact I1 | exact I2); iterate 5 rfl) | (refine bM (hrun := hn) (kk := ?_)) | (refine sth ?_; intros))
  repeat (refine stp ?_; intros)
  refine EC.draw 6 (by kernel_rfl) ?_
  simp only [KQ, KX, KP, KR]
  repeat
   (first
    | (apply cu; exact hg; rfl; (first | exact I0 | exact I1 | exact I2); iterate 5 rfl) | (refine sth ?_; intros))
  repeat (refine stp ?_; intros)
  exact EK.aI [stO g m u k n, smO m c es, unO u us, mkO k []] rfl rfl (by (repeat first | exact KZ _ | apply List.Sublist.cons_cons | apply List.Sublist.cons)) ⟨u, rfl, rfl⟩
 ·
  have hU : dG ks us (.ifc T d) = us ++ [.ifc T d] := if_neg hk
  rw [hU]
  repeat (refine stp ?_; intros)
  rename_i u'
  refine EC.draw 7 (by kernel_rfl) ?_
  simp only [KQ, KX, KP, KR]
  repeat
   (first
    | (apply cu; exact hg; rfl; (first | exact I0 | exact I1 | exact I2); iterate 5 rfl) | (refine bM (hrun := hn) (kk := ?_)) | (refine sth ?_; intros))
  repeat (refine stp ?_; intros)
  refine EC.draw 6 (by kernel_rfl) ?_
  simp only [KQ, KX, KP, KR]
  repeat
   (first
    | (apply cu; exact hg; rfl; (first | exact I0 | exact I1 | exact I2); iterate 5 rfl) | (refine sth ?_; intros))
  repeat (refine stp ?_; intros)
  exact EK.aI [stO g m u' k n, smO m c es, unO u' (us ++ [.ifc T d]), mkO k ks] rfl rfl (by (repeat first | exact KZ _ | apply List.Sublist.cons_cons | apply List.Sublist.cons)) ⟨u', rfl, rfl⟩
theorem iG (h : aC es a = none) (hu : us.length < 1099511627776) : FnM 62 [.v (ptr g), .arr 20 a, .ifc T d] [stO g m u k n, smO m c es, unO u us, mkO k ks] (fun r os' => ∃ u' ga gs, r = .val (.v (ptr ga)) ∧ os' = [acO ga 0 zero32 [] (.map (some gs)), .map gs 32 0 [], stO g m u' k n, smO m (aU c es a) (aX c es a (.v (ptr ga))), unO u' (dG ks us (.ifc T d)), mkO k ks]) := by
 have hg : (aC es a).getD (.v (.pointer none)) = .v (.pointer none) := by rw [h]; rfl
 have hg2 : ∀ ga, (aC (aX c es a (.v (ptr ga))) a).getD (.v (.pointer none)) = .v (ptr ga) := fun ga => by rw [bU, if_pos rfl]; rfl
 have hn := (mV (T := 121) rfl none).1
 refine FnM.walk 44 Tryz.func62 rfl Tryz.ntmps62 (by simp) fun X => ?_
 by_cases hk : ks.length = 0
 ·
  obtain rfl : ks = [] := ML hk
  rw [show dG [] us (.ifc T d) = us from rfl]
  repeat (refine stp ?_; intros)
  refine EC.draw 7 (by kernel_rfl) ?_
  simp only [KQ, KX, KP, KR]
  repeat
   (first
    | (apply cu; exact hg; rfl; (first | exact I0 | exact I1 | exact I2); iterate 5 rfl) | (refine bM (hrun := hn) (kk := ?_)) | (refine sth ?_; intros))
  repeat (refine stp ?_; intros)
  refine EC.aZ 8 [0, 1, 2, 3, 4] [5, 6, 7] [] _ (by kernel_rfl) (by kernel_rfl) rfl ?_
  simp only [au, KW, KY, KT, KU]
  repeat (refine sth ?_; intros)
  refine EM.nil ?_
  repeat (first | rw [KN] | rw [KO])
  refine CH.mut (os := []) (rest := []) rfl rfl (dW rfl rfl) ?_
  rintro _ _ ⟨gs, rfl, rfl⟩
  try simp only [St.put]
  repeat (first | rw [KN] | rw [KO])
  refine CH.cut 1 ?_
  simp only [KQ, KX, KP, KR]
  repeat (refine sth ?_; intros)
  refine EM.nil ?_
  repeat (first | rw [KN] | rw [KO])
  refine CH.mut (os := []) (rest := [_]) rfl rfl (lG rfl rfl) ?_
  rintro _ _ ⟨ga, rfl, rfl⟩
  try simp only [St.put]
  repeat (first | rw [KN] | rw [KO])
  refine CH.nil ?_
  try simp only [KP, KR]
  repeat (refine stp ?_; intros)
  refine EC.draw 6 (by kernel_rfl) ?_
  simp only [KQ, KX, KP, KR]
  repeat
   (first
    | (apply cu; exact hg2 ga; rfl; (first | exact I0 | exact I1 | exact I2 | exact I3 | exact I4 | exact I5); iterate 5 rfl) | (refine sth ?_; intros))
  repeat (refine stp ?_; intros)
  refine EK.le (Le.yh (d' := .tup [.v (.int .i64 0), .arr 32 zero32, .bs [], .v (.map (some gs))]) ?_) ?_
  · exact Rf.tup (RL.cons Rf.same (RL.cons Rf.same (RL.cons Rf.bs0 (RL.cons Rf.same RL.nil))))
  exact EK.aI [acO ga 0 zero32 [] (.map (some gs)), .map gs 32 0 [], stO g m u k n, smO m (aU c es a) (aX c es a (.v (ptr ga))), unO u us, mkO k []] rfl rfl (by (repeat first | exact KZ _ | apply List.Sublist.cons_cons | apply List.Sublist.cons)) ⟨u, ga, gs, rfl, rfl⟩
 ·
  have hU : dG ks us (.ifc T d) = us ++ [.ifc T d] := if_neg hk
  rw [hU]
  repeat (refine stp ?_; intros)
  rename_i u'
  refine EC.draw 7 (by kernel_rfl) ?_
  simp only [KQ, KX, KP, KR]
  repeat
   (first
    | (apply cu; exact hg; rfl; (first | exact I0 | exact I1 | exact I2); iterate 5 rfl) | (refine bM (hrun := hn) (kk := ?_)) | (refine sth ?_; intros))
  repeat (refine stp ?_; intros)
  refine EC.aZ 8 [0, 1, 2, 3, 4] [5, 6, 7] [] _ (by kernel_rfl) (by kernel_rfl) rfl ?_
  simp only [au, KW, KY, KT, KU]
  repeat (refine sth ?_; intros)
  refine EM.nil ?_
  repeat (first | rw [KN] | rw [KO])
  refine CH.mut (os := []) (rest := []) rfl rfl (dW rfl rfl) ?_
  rintro _ _ ⟨gs, rfl, rfl⟩
  try simp only [St.put]
  repeat (first | rw [KN] | rw [KO])
  refine CH.cut 1 ?_
  simp only [KQ, KX, KP, KR]
  repeat (refine sth ?_; intros)
  refine EM.nil ?_
  repeat (first | rw [KN] | rw [KO])
  refine CH.mut (os := []) (rest := [_]) rfl rfl (lG rfl rfl) ?_
  rintro _ _ ⟨ga, rfl, rfl⟩
  try simp only [St.put]
  repeat (first | rw [KN] | rw [KO])
  refine CH.nil ?_
  try simp only [KP, KR]
  repeat (refine stp ?_; intros)
  refine EC.draw 6 (by kernel_rfl) ?_
  simp only [KQ, KX, KP, KR]
  repeat
   (first
    | (apply cu; exact hg2 ga; rfl; (first | exact I0 | exact I1 | exact I2 | exact I3 | exact I4 | exact I5); iterate 5 rfl) | (refine sth ?_; intros))
  repeat (refine stp ?_; intros)
  refine EK.le (Le.yh (d' := .tup [.v (.int .i64 0), .arr 32 zero32, .bs [], .v (.map (some gs))]) ?_) ?_
  · exact Rf.tup (RL.cons Rf.same (RL.cons Rf.same (RL.cons Rf.bs0 (RL.cons Rf.same RL.nil))))
  exact EK.aI [acO ga 0 zero32 [] (.map (some gs)), .map gs 32 0 [], stO g m u' k n, smO m (aU c es a) (aX c es a (.v (ptr ga))), unO u' (us ++ [.ifc T d]), mkO k ks] rfl rfl (by (repeat first | exact KZ _ | apply List.Sublist.cons_cons | apply List.Sublist.cons)) ⟨u', ga, gs, rfl, rfl⟩
end
end E
end Go.Proofs.YtohlgnfachkmaaaGreat
