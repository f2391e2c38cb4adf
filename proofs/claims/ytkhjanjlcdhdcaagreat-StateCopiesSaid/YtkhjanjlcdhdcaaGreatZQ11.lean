/-
 Merged: lemmas of this claim.
 Conditions: none.
-/
import Derived.Test.YtkhjanjlcdhdcaaGreatZQ10
import Derived.Test.YtkhjanjlcdhdcaaGreatZQ5
import Derived.LoopN
import Derived.Laws.Externs
import Derived.Laws.MakeOwn
import Derived.Test.YtkhjanjlcdhdcaaGreatZQ0
namespace Go.Proofs.YtkhjanjlcdhdcaaGreat
set_option linter.unusedVariables false
open Go.RowKit Mono Rlp
namespace E
section
variable {N : Nat} {X : Cx N} {S S' : St} {a : Act} {w w' : World} {ops : Array Oper} {o : Oper} {Q : Exit → Act → World → Prop} {l : List Oper} {TT : St → List Fr → Prop} {EE : List Fr} {rs : List (Tmp × R)} {os os' rest : List Obj} {fs : List (Value × D)} {base ok : Nat → Prop} {p q : Obj}
theorem EL.put (i : Nat) (hg : guardOf ops S o = some true) (hd : o.dst = none) (hP : Puts ops S o p q) (hi : S.objs[i]? = some p) (k : EL X ops Q l ⟨S.regs, S.objs.set i q, S.facts⟩) : EL X ops Q (o :: l) S := by
 constructor
 intro a w ha
 obtain ⟨hq, hP⟩ := hP
 have hmem := Ls hi
 obtain ⟨w', g, h1, h2, h3, h4⟩ := hP _ _ a w (ha.kn _) (fun g hb hk => hk.2.2 p hmem hb) (ha.mem.at_ p hmem)
 unfold wpList
 rw [if_pos (cu ha hg)]
 refine .inl ?_
 unfold Oper.wp
 rw [h1]
 simp only [Oper.upon_skip, hd, Act.put]
 exact k.go _ _ (ha.turn hi (by rw [h2]; exact h3) (.inl hq) fun hok hcell => h4.move hok (fun _ _ => rfl) fun _ _ => rfl)
theorem ng (hP : Puts ops S o p q) : oC ops S o [p] (fun r os' => r = .any ∧ os' = [q]) := .mk fun base ok a w ha hown => by
 obtain ⟨hq, hP⟩ := hP
 obtain ⟨w', g, h1, h2, h3, h4⟩ := hP (fun _ => True) ok a w ⟨fun o ho => (ha.objs o ho).iI fun _ _ => trivial, ha.facts, ha.lt, ha.regs⟩ (fun g hb => hown.off g ⟨p, by simp, hb⟩) (hown.at_ p (by simp))
 rw [h1]
 have hB : ∀ b, jH [p] b ↔ b = g := fun b => ⟨fun ⟨o, ho, e⟩ => by
  obtain rfl : o = p := by simpa using ho
  rw [h2] at e
  injection e with e
  exact e.symm, fun e => ⟨p, by simp, by rw [e]; exact h2⟩⟩
 refine ⟨.any, [q], ⟨rfl, rfl⟩, ⟨⟨h3.os, h3.tape, h3.output, h3.size, fun k hk hn => h3.block k hk fun e => hn ((hB k).2 (by injection e))⟩, by simp, fun o ho => ?_⟩, trivial⟩
 obtain rfl : o = q := by simpa using ho
 refine (h4.move (fun b hb => ⟨.inl hb, LC (ha.lt b hb) h3.size, fun o' ho' e => ?_⟩) (fun _ _ => rfl) fun _ _ => rfl).iI fun b e => .inl ⟨p, by simp, by rw [← hq]; exact e⟩
 obtain rfl : o' = o := by simpa using ho'
 exact hown.off b ⟨p, by simp, by rw [← hq]; exact e⟩ hb
theorem yV {T K n E g c : Nat} {x y z : Operand} {es : List Ent} {l1 : List UInt8} {d : D} (ho : o.op = .mapUpdate T x y z) (hx : ev S x = some (.val (.v (.map (some g))))) (hy : ev S y = some (.val (.arr n l1))) (hz : ev S z = some (.val d)) (hT : assoc mZ T = some (K, n, E)) : Puts ops S o (.map g n c es) (.map g n (bG c es l1) (bK c es l1 d)) := by
 refine ⟨rfl, fun base ok a w ha hno hat => ?_⟩
 have h1 := dh ha hx (aB (by rw [ho]; simp [Op.operands]))
 obtain ⟨h2, h3⟩ := jw (ha.ev hy (aB (by rw [ho]; simp [Op.operands])))
 obtain ⟨w', h4, h5, h6⟩ := rJ (xg hT).1 (xg hT).2 hat l1 h2 (ha.ev hz (aB (by rw [ho]; simp [Op.operands]))) (hno g rfl)
 refine ⟨w', g, ?_, rfl, h5, h6⟩
 unfold execOp
 simp only [ho, h1, h3, KW, h4, KL, KX]
theorem uK {T e z n k off : Nat} {x y : Operand} {v : Value} {ds : List D} {d d' d'' : D} (hk : n = k * z + off ∧ ds[k]? = some d) (ho : o.op = .store T x y) (hx : ev S x = some (.val (.v (aH v n)))) (hy : ev S y = some (.val d')) (hT : assoc tyL T = some (d'.size, d'.agg)) (hu : d.upd off d' = some d'') : Puts ops S o (.row v e z ds) (.row v e z (ds.set k d'')) := by
 refine ⟨rfl, fun base ok a w ha hno hat => ?_⟩
 have hx' := dh ha hx (aB (by rw [ho]; simp [Op.operands]))
 obtain ⟨cs', h1, h2⟩ := ha.ev hy (aB (by rw [ho]; simp [Op.operands]))
 have hk' := (KZ.1 hk.2).1
 obtain ⟨g, c, cur, rows, H⟩ := row_in hat (by omega)
 obtain ⟨r, A, B, g1, g2, g3, g4, g5, g6⟩ := H.elem hk.2
 obtain ⟨e1, e2, pre, mid, post, rfl, h5, h6, h7⟩ := iQ d off d' d'' r cs' hu g3 h1
 obtain ⟨_, _, _, hT'⟩ := tyI hT
 have hh : w.heap[g]? = some (.cells ((A ++ pre) ++ mid ++ (post ++ B)).toArray e (0, 0)) := by
  have := H.heap
  rw [show cur = (A ++ (pre ++ mid ++ post) ++ B).toArray by rw [← g4]] at this
  rw [this]
  simp
 have hrun := fP (T := T) (by rw [hT', Reads.len _ _ h1]) h1 hh (by rw [LP, g5, h5, ← hk.1]) h6
 have hg := bD g cs' n w
 have hnew := dD cs' (A ++ pre) mid (post ++ B) w h6 hh
 rw [LP, g5, h5, ← hk.1] at hnew
 have hcell : ∀ q : Addr, ok q.block → (w.setCells g n cs').cell? q = w.cell? q := fun q hq => World.cell?_of_block (hg.block _ (ha.lt _ hq) fun e => hno g (by rw [H.val]; rfl) (by injection e with e; rw [← e]; exact hq))
 have hlen : (pre ++ cs' ++ post).length = z := by
  simp only [LP] at g2 ⊢
  omega
 have hrows := ah.set ds rows k d'' (pre ++ cs' ++ post) H.rows h7 hlen
 have hrows' := ah.mono (fun _ h => h) hcell z _ _ hrows
 refine ⟨w.setCells g n cs', g, ?_, by rw [H.val]; rfl, hg, tX.at (g := g) (c := c) (cur := ((A ++ pre) ++ cs' ++ (post ++ B)).toArray) (rows := rows.set k (pre ++ cs' ++ post)) ⟨by rw [Oc]; exact H.val, hnew, ?_, ?_, by rw [Oc]; exact H.le, H.max, hrows', H.mine⟩⟩
 ·
  have ep : aH v n = .pointer (some ⟨g, n, none⟩) := by rw [H.val]; simp [aH]
  unfold execOp
  simp only [ho, hx', ep, h2, KW, hrun, KL, KX]
 ·
  rw [Oc, ← g6 _ hlen]
  simp
 ·
  have := congrArg List.length g4
  rw [N8, H.size] at this
  simp only [Om, LP] at this ⊢
  omega
theorem ET {T K n E g c ty : Nat} {pos : String} {af : Array Edge} {gd : Option (Nat × Bool)} {x y z : Operand} {es : List Ent} {l1 : List UInt8} {d : D} (hx : ev (⟨rs, os, fs⟩ : St) x = some (.val (.v (.map (some g))))) (hset : jC os (.map g n c es) (.map g n (bG c es l1) (bK c es l1 d)) os') (hy : ev (⟨rs, os, fs⟩ : St) y = some (.val (.arr n l1))) (hz : ev (⟨rs, os, fs⟩ : St) z = some (.val d)) (hT : assoc mZ T = some (K, n, E)) (hg : guardOf ops ⟨rs, os, fs⟩ ⟨none, .mapUpdate T x y z, ty, pos, af, gd⟩ = some true) (kk : EL X ops Q l ⟨rs, os', fs⟩) : EL X ops Q (⟨none, .mapUpdate T x y z, ty, pos, af, gd⟩ :: l) ⟨rs, os, fs⟩ := by
 obtain ⟨i, hi, rfl⟩ := hset.ix
 exact EL.put i hg rfl (yV rfl hx hy hz hT) hi kk
theorem bn {T e z n k off ty : Nat} {pos : String} {af : Array Edge} {gd : Option (Nat × Bool)} {x y : Operand} {v : Value} {ds : List D} {d d' d'' : D} (hx : ev (⟨rs, os, fs⟩ : St) x = some (.val (.v (aH v n)))) (hset : jC os (.row v e z ds) (.row v e z (ds.set k d'')) os') (hk : n = k * z + off ∧ ds[k]? = some d) (hy : ev (⟨rs, os, fs⟩ : St) y = some (.val d')) (hT : assoc tyL T = some (d'.size, d'.agg)) (hu : d.upd off d' = some d'') (hg : guardOf ops ⟨rs, os, fs⟩ ⟨none, .store T x y, ty, pos, af, gd⟩ = some true) (kk : EL X ops Q l ⟨rs, os', fs⟩) : EL X ops Q (⟨none, .store T x y, ty, pos, af, gd⟩ :: l) ⟨rs, os, fs⟩ := by
 obtain ⟨i, hi, rfl⟩ := hset.ix
 exact EL.put i hg rfl (uK hk rfl hx hy hT hu) hi kk
theorem EL.del {T K n E g c : Nat} {U : TypeId} {x y : Operand} {es : List Ent} {l1 : List UInt8} (i : Nat) (ho : o.op = .call { callee := .builtin .delete, args := #[x, y], argTypes := #[T, U] }) (hg : guardOf ops S o = some true) (hd : o.dst = none) (hx : ev S x = some (.val (.v (.map (some g))))) (hi : S.objs[i]? = some (.map g n c es)) (hy : ev S y = some (.val (.arr n l1))) (hT : assoc mZ T = some (K, n, E)) (k : EL X ops Q l ⟨S.regs, S.objs.set i (.map g n c (ig es l1)), S.facts⟩) : EL X ops Q (o :: l) S := by
 constructor
 intro a w ha
 have hk := ha.kn fun t => t ∈ o.looksAt ops
 have h1 := dh hk hx (aB (by rw [ho]; simp [Op.operands, Call.operands]))
 obtain ⟨h2, h3⟩ := jw (hk.ev hy (aB (by rw [ho]; simp [Op.operands, Call.operands])))
 have hmem := Ls hi
 obtain ⟨w', h4, h5, h6⟩ := yT (U := U) o.type (xg hT).1 (xg hT).2 (ha.mem.at_ _ hmem) l1 h2 (fun hk => hk.2.2 _ hmem rfl)
 unfold wpList
 rw [if_pos (cu ha hg)]
 refine .inl ?_
 unfold Oper.wp execOp
 simp only [ho, resolve, invoke, builtin, KW, KX, KL, Np, Lu, ML, h1, h3, h4]
 simp only [Oper.upon_value, hd, Act.put]
 exact k.go _ _ (ha.turn hi h5 (.inl rfl) fun hok hcell => h6.move hok (fun _ _ => rfl) fun _ _ => rfl)
theorem E5 {T K n E g c ty : Nat} {U : TypeId} {pos : String} {af : Array Edge} {gd : Option (Nat × Bool)} {x y : Operand} {es : List Ent} {l1 : List UInt8} (hx : ev (⟨rs, os, fs⟩ : St) x = some (.val (.v (.map (some g))))) (hset : jC os (.map g n c es) (.map g n c (ig es l1)) os') (hy : ev (⟨rs, os, fs⟩ : St) y = some (.val (.arr n l1))) (hT : assoc mZ T = some (K, n, E)) (hg : guardOf ops ⟨rs, os, fs⟩ ⟨none, .call { callee := .builtin .delete, args := #[x, y], argTypes := #[T, U] }, ty, pos, af, gd⟩ = some true) (kk : EL X ops Q l ⟨rs, os', fs⟩) : EL X ops Q (⟨none, .call { callee := .builtin .delete, args := #[x, y], argTypes := #[T, U] }, ty, pos, af, gd⟩ :: l) ⟨rs, os, fs⟩ := by
 obtain ⟨i, hi, rfl⟩ := hset.ix
 exact EL.del i rfl hg rfl hx hi hy hT kk
theorem Ad {q : Obj} {r : R} {ob : Go.Obj} {v : Value} (hb : q.blk = some w.heap.size) (hat : ∀ ok' : Nat → Prop, (∀ b, ok b → ok' b) → q.At (fun b => jH [] b ∨ w.heap.size ≤ b) ok' (w.alloc ob)) (hr : ∀ ok', aN ok' (w.alloc ob) r v) (hlt : ∀ b, ok b → b < w.heap.size) : Turned ok [] w [q] (w.alloc ob) ∧ aN (okM ok [] w [q] (w.alloc ob)) (w.alloc ob) r v := by
 have hg := cZ w ob
 refine ⟨⟨.of hg, by simp, fun o ho => ?_⟩, hr _⟩
 obtain rfl : o = q := by simpa using ho
 refine hat _ fun b hk => ⟨.inl hk, LC (hlt b hk) hg.size, fun o' ho' e => ?_⟩
 obtain rfl : o' = o := by simpa using ho'
 rw [hb] at e
 injection e with e
 have := hlt b hk
 omega
theorem gU {T K n E : Nat} (ho : o.op = .makeMap T none) (hT : assoc mZ T = some (K, n, E)) : oC ops S o [] (fun r os' => ∃ g, r = .val (.v (.map (some g))) ∧ os' = [.map g n 0 []]) := .mk fun base ok a w ha hown => by
 have hr : (execOp a.eval o).run Tryz.prog w = .ok (.value (.map (some w.heap.size))) (w.alloc (.map #[] 0)) := by
  unfold execOp
  have := @run_makeMap Tryz.prog
  simp [ho, this]
 rw [hr]
 obtain ⟨h1, h2⟩ := Ad (ok := ok) (w := w) (q := .map w.heap.size n 0 []) (r := .val (.v (.map (some w.heap.size)))) (ob := .map #[] 0) (v := .map (some w.heap.size)) rfl (fun ok' _ => ⟨.inr (Lj _), oD.nil, #[], heap_alloc_new w _, .nil⟩) (fun _ => dM rfl) ha.lt
 exact ⟨_, _, ⟨_, rfl, rfl⟩, h1, h2⟩
theorem xk {T : TypeId} {x : Operand} {d : D} (ho : o.op = .box T x) (hx : ev S x = some (.val d)) : oC ops S o [] (fun r os' => ∃ g, r = .val (.v (.pointer (some ⟨g, 0, none⟩))) ∧ os' = [.var g T d]) := .mk fun base ok a w ha hown => by
 obtain ⟨cs, h1, h2⟩ := zY ho hx base ok a w ha
 rw [h1]
 obtain ⟨g1, g2⟩ := Ad (ok := ok) (w := w) (q := .var w.heap.size T d) (r := .val (.v (.pointer (some ⟨w.heap.size, 0, none⟩)))) (ob := .cells cs.toArray T) (v := .pointer (some ⟨w.heap.size, 0, none⟩)) rfl (fun ok' hk => ⟨.inr (Lj _), cs, heap_alloc_new w _, Reads.mono hk (fun p hp => (cZ w _).cell (ha.lt _ hp)) _ _ h2⟩) (fun _ => dM rfl) ha.lt
 exact ⟨_, _, ⟨_, rfl, rfl⟩, g1, g2⟩
theorem Gi {T : TypeId} {d : D} (ho : o.op = .alloc T) (hz : assoc dL T = some d) : oC ops S o [] (fun r os' => ∃ g, r = .val (.v (.pointer (some ⟨g, 0, none⟩))) ∧ os' = [.var g T d]) := .mk fun base ok a w ha hown => by
 obtain ⟨cs, h1, h2⟩ := pI ho (pR hz) base ok a w ha
 rw [h1]
 obtain ⟨g1, g2⟩ := Ad (ok := ok) (w := w) (q := .var w.heap.size T d) (r := .val (.v (.pointer (some ⟨w.heap.size, 0, none⟩)))) (ob := .cells cs.toArray T) (v := .pointer (some ⟨w.heap.size, 0, none⟩)) rfl (fun ok' hk => ⟨.inr (Lj _), cs, heap_alloc_new w _, Reads.mono hk (fun p hp => (cZ w _).cell (ha.lt _ hp)) _ _ h2⟩) (fun _ => dM rfl) ha.lt
 exact ⟨_, _, ⟨_, rfl, rfl⟩, g1, g2⟩
theorem BU {t T K n E ty : Nat} {pos : String} {af : Array Edge} {gd : Option (Nat × Bool)} (hT : assoc mZ T = some (K, n, E)) (hg : guardOf ops ⟨rs, os, fs⟩ ⟨some t, .makeMap T none, ty, pos, af, gd⟩ = some true) (hN : Nat.blt t N = true) (kk : ∀ g, EL X ops Q l ⟨(t, .val (.v (.map (some g)))) :: rs, .map g n 0 [] :: os, fs⟩) : EL X ops Q (⟨some t, .makeMap T none, ty, pos, af, gd⟩ :: l) ⟨rs, os, fs⟩ :=
 EL.mut (os := []) (rest := os) hg (gu rfl hN) (gU rfl hT) fun r os' ⟨g, h1, h2⟩ => by
  subst h1 h2
  exact kk g
theorem bJ {t ty f : Nat} {pos : String} {af : Array Edge} {gd : Option (Nat × Bool)} {args : Array Operand} {tys : Array TypeId} {ds ds' : List D} {os0 : List Obj} {Φ : R → List Obj → Prop} (hF : FnM f ds' os Φ) (hos : os0 = os ++ rest := by rfl) (hx : evs (⟨rs, rest, fs⟩ : St) args.toList = some ds := by rfl) (hR : aj fs ds ds' := by exact RL.a) (hf : Enters f := by exact enA) (hg : guardOf ops ⟨rs, os ++ rest, fs⟩ ⟨some t, .call { callee := .value (.func f), args := args, argTypes := tys }, ty, pos, af, gd⟩ = some true := by rfl) (hN : Nat.blt t N = true := by rfl) (kk : ∀ r os', Φ r os' → EL X ops Q l ⟨(t, r) :: rs, os' ++ rest, fs⟩) : EL X ops Q (⟨some t, .call { callee := .value (.func f), args := args, argTypes := tys }, ty, pos, af, gd⟩ :: l) ⟨rs, os0, fs⟩ := by
 subst hos
 refine EL.mut (Φ := Φ) hg (gu rfl hN) ?_ kk
 exact ji (S := ⟨rs, rest, fs⟩) hF rfl hx hR hf
theorem gq {t ty f : Nat} {pos : String} {af : Array Edge} {gd : Option (Nat × Bool)} {args : Array Operand} {tys : Array TypeId} {ds ds' : List D} {os0 os1 : List Obj} {r1 : R} (hF : FnM f ds' os (fun r os' => r = r1 ∧ os' = os1)) (hos : os0 = os ++ rest := by rfl) (hx : evs (⟨rs, rest, fs⟩ : St) args.toList = some ds := by rfl) (hR : aj fs ds ds' := by exact RL.a) (hf : Enters f := by exact enA) (hg : guardOf ops ⟨rs, os ++ rest, fs⟩ ⟨some t, .call { callee := .value (.func f), args := args, argTypes := tys }, ty, pos, af, gd⟩ = some true := by rfl) (hN : Nat.blt t N = true := by rfl) (kk : EL X ops Q l ⟨(t, r1) :: rs, os1 ++ rest, fs⟩) : EL X ops Q (⟨some t, .call { callee := .value (.func f), args := args, argTypes := tys }, ty, pos, af, gd⟩ :: l) ⟨rs, os0, fs⟩ :=
 bJ hF hos hx hR hf hg hN fun r os' ⟨h1, h2⟩ => by
  subst h1 h2
  exact kk
theorem CH.bP {os1 : List Obj} {T : St → Prop} {d : Option Tmp} {ty f : Nat} {pos : String} {af : Array Edge} {gd : Option (Nat × Bool)} {args : Array Operand} {tys : Array TypeId} {ds ds' : List D} {os0 : List Obj} {Φ : R → List Obj → Prop} (hF : FnM f ds' os Φ) (hos : os0 = os ++ (rest ++ os1) := by rfl) (hx : evs (⟨rs, rest ++ os1, fs⟩ : St) args.toList = some ds := by rfl) (hR : aj fs ds ds' := by exact RL.a) (hf : Enters f := by exact enA) (hg : guardOf ops ⟨rs, os ++ (rest ++ os1), fs⟩ ⟨d, .call { callee := .value (.func f), args := args, argTypes := tys }, ty, pos, af, gd⟩ = some true := by rfl) (hd : GL N d = true := by rfl)
  (k : ∀ r os', Φ r os' → CH N ops os1 T l (St.put ⟨rs, os' ++ (rest ++ os1), fs⟩ d r)) : CH N ops os1 T (⟨d, .call { callee := .value (.func f), args := args, argTypes := tys }, ty, pos, af, gd⟩ :: l) ⟨rs, os0, fs⟩ := by
 subst hos
 refine CH.mut (Φ := Φ) hd hg ?_ k
 exact ji (S := ⟨rs, rest ++ os1, fs⟩) hF rfl hx hR hf
theorem Bc {t f : Nat} {args : Array Operand} {tys : Array TypeId} {caps : List Value} (ho : o.op = .call { callee := .value (.tmp t), args := args, argTypes := tys }) (ht : a.eval (.tmp t) = .func (.func f) #[] caps.toArray) (hf : Enters f) : (execOp a.eval o).run Tryz.prog w = .ok (.enter f (args.map a.eval ++ caps.toArray)) w := by
 unfold execOp
 simp [ho, resolve, ht, Deferred.ofValue, invoke, hf (args.map a.eval ++ caps.toArray) w]
theorem uS {t : Tmp} {args : Array Operand} {tys : Array TypeId} (ho : o.op = .call { callee := .value (.tmp t), args := args, argTypes := tys }) : ∀ u, Operand.tmp t = .tmp u → u ∈ o.looksAt ops := aB (by rw [ho]; simp [Op.operands, Call.operands])
theorem lN : ∀ (ds es : List D) (xs ys : List Value), bT ok w ds xs → bT ok w es ys → bT ok w (ds ++ es) (xs ++ ys)
 | [], es, xs, ys, h, h' => by cases h; exact h'
 | d :: ds, es, xs, ys, h, h' => by
  obtain ⟨x, rest, rfl, h1, h2⟩ := h
  exact ⟨x, _, rfl, h1, lN ds es rest ys h2 h'⟩
theorem Gh {t f : Nat} {args : Array Operand} {tys : Array TypeId} {caps : List Value} {ds ds' cds : List D} {Φ : R → List Obj → Prop} (hF : FnM f (ds' ++ cds) os Φ) (hc : ∀ base ok L (a : Act) w, Kn base ok L S a w → bT ok w cds caps) (ho : o.op = .call { callee := .value (.tmp t), args := args, argTypes := tys }) (ht : look S.regs t = some (.val (.v (.func (.func f) #[] caps.toArray)))) (hx : evs S args.toList = some ds) (hR : aj S.facts ds ds') (hf : Enters f) : oC ops S o os Φ := .mk fun base ok a w ha hown => by
 have h1 : a.eval (.tmp t) = .func (.func f) #[] caps.toArray := dh ha (x := .tmp t) ht (uS ho)
 have hr := aj.qy ha.facts _ _ _ hR (ha.evs _ _ hx fun u hu => au (x := .tmp u) rfl (by rw [ho]; simp only [Op.operands, Call.operands]; simp; right; simpa using hu))
 rw [Bc ho h1 hf]
 have := hF.go ok w _ ha.lt hown (lN _ _ _ _ hr (hc _ _ _ a w ha))
 have he : (args.toList.map a.eval ++ caps).toArray = args.map a.eval ++ caps.toArray := by
  apply NY
  simp
 rw [he] at this
 simp only [dR]
 refine this.mono ?_
 rintro e w' ⟨v, r, os', rfl, h1, h2, h3⟩
 exact ⟨v, rfl, r, os', h1, h2, h3⟩
theorem qZ {t u ty f : Nat} {pos : String} {af : Array Edge} {gd : Option (Nat × Bool)} {args : Array Operand} {tys : Array TypeId} {caps : List Value} {ds ds' cds : List D} {os0 : List Obj} {Φ : R → List Obj → Prop} (hF : FnM f (ds' ++ cds) os Φ) (hc : ∀ base ok L (a : Act) w, Kn base ok L ⟨rs, rest, fs⟩ a w → bT ok w cds caps) (hos : os0 = os ++ rest) (ht : look rs u = some (.val (.v (.func (.func f) #[] caps.toArray)))) (hx : evs (⟨rs, rest, fs⟩ : St) args.toList = some ds) (hR : aj fs ds ds') (hf : Enters f) (hg : guardOf ops ⟨rs, os ++ rest, fs⟩ ⟨some t, .call { callee := .value (.tmp u), args := args, argTypes := tys }, ty, pos, af, gd⟩ = some true) (hN : Nat.blt t N = true) (kk : ∀ r os', Φ r os' → EL X ops Q l ⟨(t, r) :: rs, os' ++ rest, fs⟩) : EL X ops Q (⟨some t, .call { callee := .value (.tmp u), args := args, argTypes := tys }, ty, pos, af, gd⟩ :: l) ⟨rs, os0, fs⟩ := by
 subst hos
 exact EL.mut hg (gu rfl hN) (Gh hF hc rfl ht hx hR hf) kk
theorem vJ {caps : List Value} (h : ∀ x ∈ caps, x.oneCell' = true) : bT ok w (caps.map .v) caps := by
 induction caps with
 | nil => rfl
 | cons x xs ih => exact ⟨x, xs, rfl, dM (h x (by simp)), ih fun y hy => h y (by simp [hy])⟩
theorem yh (v : Value) (k : Nat) : (cutV v k).ownBlock = v.ownBlock := by
 unfold cutV
 split
 ·
  rename_i A n c
  cases A <;> rfl
 · rfl
theorem Le.Ep {e z k : Nat} {v : Value} {ds : List D} (hk : k ≤ ds.length) (hset : jC os (.row v e z ds) (.row (cutV v k) e z (ds.take k)) os') : Le X ⟨rs, os, fs⟩ ⟨rs, os', fs⟩ := by
 obtain ⟨i, hi, rfl⟩ := hset.ix
 intro a w ha
 refine ha.turn hi (World.grownBy.refl w _) (.inl ?_) fun hok hcell => ?_
 · exact yh v k
 ·
  have hat := (ha.mem.at_ _ (Ls hi)).move hok (fun _ _ => rfl) fun _ _ => rfl
  obtain ⟨rows, ⟨h1, h2⟩, h3⟩ := hat
  obtain ⟨hl1, hl2⟩ := ah.lens ds rows h3
  have hlen : (ds.take k).length = k := by rw [LV]; omega
  have hb := yh v k
  refine ⟨rows.take k, ⟨⟨?_, ?_⟩, fun b hb' => h2 b (by rw [← hb]; exact hb')⟩, ah.take ds rows k h3⟩
  ·
   rw [nT rows hl2, LV, ku rows hl2, hl1, hlen]
   exact MN (Nj z hk)
  ·
   rcases h1.2 with ⟨e1, e2⟩ | ⟨g, c, cur, e1, e2, e3, e4, e5, e6, e7⟩
   ·
    refine .inl ⟨?_, by omega⟩
    rw [e1]
    have : k = 0 := by omega
    subst this
    rfl
   ·
    refine .inr ⟨g, c, cur, by rw [e1, hlen]; rfl, e2, e3, by omega, e5, e6, ?_⟩
    rw [nT rows hl2, ← e7, hlen, List.take_take, MN (Nj z hk)]
theorem Ku {T : Nat} (h : IL.contains T = true) : ∃ e, Tryz.prog.underlying T = some (.pointer e) := by
 have := LZ.1 FY T (by simpa using h)
 unfold JL at this
 split at this
 ·
  rename_i e he
  exact ⟨e, he⟩
 · cases this
end
structure Bx (Q : Prop) : Prop where out : Q
theorem stp {P Q : Prop} (q : Q) (h : Bx Q → P := by
 intro q
 first
 | ((with_reducible apply EK.h0); apply EK.round; exact q.out)
 | (apply EL.nil; exact q.out)
 | ((with_reducible apply EK.h0); apply EK.code; exact q.out)
 | (apply EC.t0; rfl; exact q.out)
 | (apply EC.f0; rfl; exact q.out)
 | ((with_reducible apply EK.DT); rfl; exact q.out)
 | ((with_reducible first | apply EC.seq | apply EC.r0 | apply EC.k0 | apply EC.label | apply EC.b0 | apply EC.x0 | apply EC.ret | apply EK.n0 | apply EK.s0 | apply EK.Ja | apply EK.CQ | apply EK.AZ); exact q.out)
 | (apply Jv; (iterate 2 rfl); exact q.out)
 | (apply Jy; (iterate 3 rfl); exact q.out)
 | (apply Fe; (iterate 3 rfl); exact q.out)
 | (apply G9; (iterate 6 rfl); exact q.out)
 | (apply BZ; (iterate 7 rfl); exact q.out)
 | (apply Cb; (iterate 4 rfl); exact q.out)
 | (apply EW; (iterate 5 rfl); exact q.out)
 | (apply Jw; (iterate 4 rfl); exact q.out)
 | (apply J7; (iterate 3 rfl); exact q.out)
 | (apply EX; rfl; exact I.a; (iterate 4 rfl); exact q.out)
 | (apply Fa (b := true); (iterate 2 rfl); exact GR; (iterate 2 rfl); exact q.out)
 | (apply Fa (b := false); (iterate 2 rfl); exact GR; (iterate 2 rfl); exact q.out)
 | (apply Fa; (iterate 5 rfl); exact q.out)
 | (apply Kz; (iterate 3 rfl); (focus omega); (focus omega); (iterate 2 rfl); exact q.out)
 | (apply G7; (iterate 4 rfl); exact q.out)
 | (apply G6; (iterate 4 rfl); exact q.out)
 | (apply EY; rfl; exact I.a; (iterate 3 rfl); exact q.out)
 | (apply Jz; (iterate 4 rfl); exact q.out)
 | (apply G8; (iterate 4 rfl); exact ixA; (iterate 2 rfl); exact q.out)
 | (apply BX; (iterate 3 rfl); exact ixA; (iterate 2 rfl); exact q.out)
 | (apply J6; (iterate 3 rfl); exact q.out)
 | (apply He; (iterate 7 rfl); exact q.out)
 | (apply Fb; (iterate 5 rfl); exact q.out)
 | (apply J8; (iterate 9 rfl); exact q.out)
 | (apply G5; (iterate 3 rfl); exact q.out)
 | (apply Hf; (iterate 4 rfl); exact q.out)
 | (apply JA; (iterate 6 rfl); exact q.out)
 | (apply ER; (iterate 3 rfl); exact q.out)
 | (apply EZ; rfl; exact I.a; (iterate 3 rfl); exact q.out)
 | (apply EP; rfl; exact I.a; (focus (first | omega | (simp; done) | (simp; omega))); (iterate 2 rfl); exact q.out)
 | (apply zF; rfl; exact I.a; (focus (first | omega | (simp; done) | (simp; omega))); (iterate 5 rfl); exact q.out)
 | (apply kM; rfl; exact I.a; (iterate 2 rfl); (focus (first | assumption | omega | (constructor <;> (first | (simp; done) | (simp; omega))))); (iterate 2 rfl); exact q.out)
 | (apply ET; rfl; exact saA; (iterate 4 rfl); exact q.out)
 | (apply BU; rfl; rfl; rfl; exact q.out)
 | (apply E5; rfl; exact saA; (iterate 3 rfl); exact q.out)
 | (apply Hg; rfl; rfl; rfl; exact q.out)
 | (apply J9; rfl; rfl; rfl; exact q.out)
 | (apply AP; rfl; exact saA; (iterate 4 rfl); exact q.out)
 | ((apply Fg; rfl; exact saA; (iterate 5 rfl); (focus (constructor <;> (first | (simp; done) | (simp; omega))))); exact q.out)) : P := h ⟨q⟩
theorem sth {P Q : Prop} (q : Q) (h : Bx Q → P := by
 intro q
 first
 | (apply JB; (iterate 2 rfl); exact q.out)
 | (apply JD; (iterate 3 rfl); exact q.out)
 | (apply FB; (iterate 3 rfl); exact q.out)
 | (apply Ht; (iterate 6 rfl); exact q.out)
 | (apply Ci; (iterate 7 rfl); exact q.out)
 | (apply Cj; (iterate 4 rfl); exact q.out)
 | (apply Fq; (iterate 5 rfl); exact q.out)
 | (apply JC; (iterate 4 rfl); exact q.out)
 | (apply Ko; (iterate 3 rfl); exact q.out)
 | (apply mJ; rfl; exact I.a; (iterate 4 rfl); exact q.out)
 | (apply rC (b := true); (iterate 2 rfl); exact GR; (iterate 2 rfl); exact q.out)
 | (apply rC (b := false); (iterate 2 rfl); exact GR; (iterate 2 rfl); exact q.out)
 | (apply KC; (iterate 3 rfl); (focus omega); (focus omega); (iterate 2 rfl); exact q.out)
 | (apply Hq; (iterate 4 rfl); exact q.out)
 | (apply Fv; rfl; exact I.a; (iterate 3 rfl); exact q.out)
 | (apply Hr; (iterate 4 rfl); exact ixA; (iterate 2 rfl); exact q.out)
 | (apply Hu; (iterate 7 rfl); exact q.out)
 | (apply Kr; (iterate 9 rfl); exact q.out)
 | (apply Hl; (iterate 3 rfl); exact q.out)
 | (apply Ho; (iterate 4 rfl); exact q.out)
 | (apply Kq; (iterate 4 rfl); exact q.out)
 | (apply Fj; rfl; exact I.a; (focus (first | omega | (simp; done) | (simp; omega))); (iterate 2 rfl); exact q.out)
 | (apply zH; rfl; exact I.a; (focus (first | omega | (simp; done) | (simp; omega))); (iterate 5 rfl); exact q.out)
 | (apply Fp; rfl; exact I.a; (iterate 2 rfl); (focus (first | assumption | omega | (constructor <;> (first | (simp; done) | (simp; omega))))); (iterate 2 rfl); exact q.out)
 | (apply Hw; (iterate 3 rfl); exact q.out)
 | ((with_reducible apply EH.nil); rfl; exact q.out)
 | ((with_reducible apply EH.Dx); rfl; exact q.out)) : P := h ⟨q⟩
end E
end Go.Proofs.YtkhjanjlcdhdcaaGreat
namespace Go.Proofs.YtkhjanjlcdhdcaaGreat
set_option linter.unusedVariables false
namespace Wd
open Rlp
def le (B : Nat) : List Nat → Nat
 | [] => 0
 | d :: ds => d + B * le B ds
theorem dN (B : Nat) : ∀ a b : List Nat, le B (a ++ b) = le B a + B ^ a.length * le B b
 | [], b => by simp [le]
 | x :: a, b => by
  rw [KD, le, dN B a b, le, LX, NI, MP]
  have : B * (B ^ a.length * le B b) = B ^ a.length * B * le B b := by rw [← OD, Nz B]
  omega
theorem Af {B : Nat} : ∀ ds : List Nat, (∀ d ∈ ds, d < B) → le B ds < B ^ ds.length
 | [], _ => by simp [le]
 | d :: ds, h => by
  have h1 := h d (by simp)
  have h2 := Af ds fun x hx => h x (by simp [hx])
  rw [le, LX, NI]
  calc d + B * le B ds < B + B * le B ds := by omega
   _ = B * (le B ds + 1) := by rw [MP]; omega
   _ ≤ B * B ^ ds.length := OH _ h2
   _ = B ^ ds.length * B := Nz _ _
theorem DK {B : Nat} : ∀ a b : List Nat, a.length = b.length → (∀ d ∈ a, d < B) → (∀ d ∈ b, d < B) → le B a = le B b → a = b
 | [], [], _, _, _, _ => rfl
 | [], _ :: _, h, _, _, _ => by simp at h
 | _ :: _, [], h, _, _, _ => by simp at h
 | x :: a, y :: b, hl, ha, hb, h => by
  have hx := ha x (by simp)
  have hy := hb y (by simp)
  rw [le, le] at h
  have e1 : x = y := by
   have := congrArg (· % B) h
   simp only [OJ] at this
   rwa [Ns hx, Ns hy] at this
  subst e1
  have e2 : B * le B a = B * le B b := by omega
  rw [DK a b (by simpa using hl) (fun d hd => ha d (by simp [hd])) (fun d hd => hb d (by simp [hd])) (Nat.eq_of_mul_eq_mul_left (by omega) e2)]
def nb (w : List UInt8) : List Nat := w.map (·.toNat)
theorem wX (w : List UInt8) : ∀ d ∈ nb w, d < 256 := fun d hd => by
 obtain ⟨b, _, rfl⟩ := LD.1 hd
 exact b.toNat_lt
theorem kZ (w : List UInt8) : (nb w).length = w.length := KR _
theorem pW (w : List UInt8) : val w = le 256 (nb w.reverse) := by
 induction w with
 | nil => rfl
 | cons b w ih =>
  rw [vU, ih, List.reverse_cons]
  unfold nb
  rw [MH, dN]
  simp [le]
  rw [Ot, Nz]
theorem Dy : ∀ a b : List UInt8, nb a = nb b → a = b
 | [], [], _ => rfl
 | [], _ :: _, h => by simp [nb] at h
 | _ :: _, [], h => by simp [nb] at h
 | x :: a, y :: b, h => by
  simp only [nb, Lu, List.cons.injEq] at h
  rw [UInt8.toNat_inj.1 h.1, Dy a b h.2]
theorem val_inj (a b : List UInt8) (hl : a.length = b.length) (h : val a = val b) : a = b := by
 rw [pW, pW] at h
 have h1 := DK _ _ (by rw [kZ, kZ, MZ, MZ, hl]) (wX _) (wX _) h
 exact List.reverse_inj.1 (Dy _ _ h1)
def chunks (c : Nat) (ds : List Nat) (k : Nat) : List Nat := (List.range k).map fun m => le 256 ((ds.drop (c * m)).take c)
theorem yj (c : Nat) (ds : List Nat) (k : Nat) : chunks c ds (k + 1) = le 256 (ds.take c) :: chunks c (ds.drop c) k := by
 unfold chunks
 rw [List.range_succ_eq_map, Lu, MK]
 simp only [Nat.mul_zero, KH, List.cons.injEq, true_and]
 refine Na fun m _ => ?_
 simp only [Function.comp, List.drop_drop]
 rw [show c + c * m = c * (m + 1) by rw [MP]; omega]
theorem sJ (c : Nat) : ∀ (k : Nat) (ds : List Nat), ds.length = c * k → le (256 ^ c) (chunks c ds k) = le 256 ds
 | 0, ds, h => by
  have : ds = [] := by simpa using h
  subst this
  rfl
 | k + 1, ds, h => by
  have hc : c ≤ ds.length := by rw [h, MP]; omega
  rw [yj, le, sJ c k (ds.drop c) (by rw [OB, h, MP]; omega)]
  conv => rhs; rw [← MF c ds, dN]
  rw [LV, MN hc]
theorem iM (c : Nat) (ds : List Nat) (k : Nat) : (chunks c ds k).length = k := by simp [chunks]
theorem nY (c : Nat) (ds : List Nat) (k : Nat) (h : ∀ d ∈ ds, d < 256) : ∀ x ∈ chunks c ds k, x < 256 ^ c := fun x hx => by
 obtain ⟨m, _, rfl⟩ := LD.1 hx
 refine LC (Af _ fun d hd => h d (List.mem_of_mem_drop (List.mem_of_mem_take hd))) (Nat.pow_le_pow_right (by decide) ?_)
 rw [LV]
 omega
def fC (c l : Nat) : List Nat := (List.range c).map fun j => l / 256 ^ j % 256
theorem yt (c l : Nat) : fC (c + 1) l = l % 256 :: fC c (l / 256) := by
 unfold fC
 rw [List.range_succ_eq_map, Lu, MK]
 simp only [Nat.pow_zero, Nat.div_one, List.cons.injEq, true_and]
 refine Na fun m _ => ?_
 simp only [Function.comp]
 rw [Nat.div_div_eq_div_mul, NI, Nz 256]
theorem nR : ∀ c l : Nat, le 256 (fC c l) = l % 256 ^ c
 | 0, l => by simp [fC, le, Nat.mod_one]
 | c + 1, l => by
  rw [yt, le, nR c (l / 256), NI, Nz (256 ^ c), Nat.mod_mul]
theorem dO (c l : Nat) : (fC c l).length = c := by simp [fC]
theorem tH (c l : Nat) : ∀ x ∈ fC c l, x < 256 := fun x hx => by
 obtain ⟨m, _, rfl⟩ := LD.1 hx
 exact Nat.mod_lt _ (by decide)
def bZ (c : Nat) (ls : List Nat) : List Nat := ls.flatMap (fC c)
theorem qH (c : Nat) : ∀ ls : List Nat, (∀ l ∈ ls, l < 256 ^ c) → le 256 (bZ c ls) = le (256 ^ c) ls
 | [], _ => rfl
 | l :: ls, h => by
  unfold bZ
  rw [Nv, dN, nR, dO, Ns (h l (by simp)), le]
  rw [show List.flatMap (fC c) ls = bZ c ls from rfl, qH c ls fun x hx => h x (by simp [hx])]
theorem dw (c : Nat) : ∀ ls : List Nat, (bZ c ls).length = c * ls.length
 | [] => rfl
 | l :: ls => by
  unfold bZ
  rw [Nv, LP, dO, show List.flatMap (fC c) ls = bZ c ls from rfl, dw c ls, LX, MP]
  omega
theorem yM (c : Nat) (ls : List Nat) : ∀ x ∈ bZ c ls, x < 256 := fun x hx => by
 obtain ⟨l, _, h⟩ := List.mem_flatMap.1 hx
 exact tH c l x h
theorem jK (c : Nat) (hc : 0 < c) : ∀ (ls : List Nat) (p : Nat), p < c * ls.length → (bZ c ls)[p]? = some (ls.getD (p / c) 0 / 256 ^ (p % c) % 256)
 | [], p, h => by simp at h
 | l :: ls, p, h => by
  unfold bZ
  rw [Nv]
  rcases Me p c with h1 | h1
  ·
   rw [MG (by rw [dO]; exact h1), Nat.div_eq_of_lt h1, Ns h1]
   simp [fC, h1]
  ·
   rw [MQ (by rw [dO]; exact h1), dO, show List.flatMap (fC c) ls = bZ c ls from rfl, jK c hc ls (p - c) (by rw [LX, MP] at h; omega)]
   have e1 : p / c = (p - c) / c + 1 := by rw [← Nat.add_div_right _ hc]; congr 1; omega
   have e2 : p % c = (p - c) % c := by rw [← Nat.add_mod_right (p - c) c]; congr 1; omega
   rw [e1, e2, List.getD_cons_succ]
def aQ (n : Nat) : List UInt8 := ((fC 32 n).map UInt8.ofNat).reverse
theorem aY (n : Nat) : (aQ n).length = 32 := by simp [aQ, dO]
theorem wW (ds : List Nat) (h : ∀ d ∈ ds, d < 256) : nb (ds.map UInt8.ofNat) = ds := by
 unfold nb
 rw [MK]
 refine (Na fun d hd => ?_).trans (List.map_id ds)
 simp only [Function.comp, id]
 exact Ns (h d hd)
theorem dQ (n : Nat) : val (aQ n) = n % 256 ^ 32 := by
 unfold aQ
 rw [pW, List.reverse_reverse, wW _ (tH 32 n), nR]
theorem mM (c : Nat) (ls : List Nat) (hl : c * ls.length = 32) (h : ∀ l ∈ ls, l < 256 ^ c) : ((bZ c ls).map UInt8.ofNat).reverse = aQ (le (256 ^ c) ls) := by
 refine val_inj _ _ (by rw [aY, MZ, KR, dw, hl]) ?_
 rw [dQ, pW, List.reverse_reverse, wW _ (yM c ls), qH c ls h, Ns]
 have := Af ls h
 rwa [← Nat.pow_mul, hl] at this
def aX (c k : Nat) (w : List UInt8) : List Nat := chunks c (nb w.reverse) k
theorem sH {c k : Nat} {w : List UInt8} (h : w.length = c * k) : le (256 ^ c) (aX c k w) = val w := by
 unfold aX
 rw [sJ c k _ (by rw [kZ, MZ, h]), pW]
theorem sF (c k : Nat) (w : List UInt8) : ∀ x ∈ aX c k w, x < 256 ^ c := nY c _ k (wX _)
theorem iK (c k : Nat) (w : List UInt8) : (aX c k w).length = k := iM c _ k
def kG (n m : Nat) : Int := if n < m then -1 else if n > m then 1 else 0
theorem qI {B : Nat} (ls : List Nat) (p : Nat) (hp : p < ls.length) : le B ls = le B (ls.take p) + B ^ p * (ls[p] + B * le B (ls.drop (p + 1))) := by
 conv => lhs; rw [← MF p ls, dN, LV, MN (Nr hp), Mc hp, le]
theorem nC {B : Nat} (ls ms : List Nat) (hl : ls.length = ms.length) (h1 : ∀ x ∈ ls, x < B) (h2 : ∀ x ∈ ms, x < B) (p : Nat) (hp : p < ls.length) (he : ls.drop (p + 1) = ms.drop (p + 1)) (hlt : ls[p] < ms[p]'(by omega)) : le B ls < le B ms := by
 rw [qI ls p hp, qI ms p (by omega), he]
 have g1 := Af (ls.take p) fun x hx => h1 x (List.mem_of_mem_take hx)
 rw [LV, MN (Nr hp)] at g1
 have : B ^ p * (ls[p] + B * le B (ms.drop (p + 1)) + 1) ≤ B ^ p * (ms[p]'(by omega) + B * le B (ms.drop (p + 1))) := OH _ (by omega)
 rw [MP] at this
 omega
def msk (w : List UInt8) (i : Nat) : List Nat := List.replicate (32 - i) 0 ++ (nb w.reverse).drop (32 - i)
theorem DI {B : Nat} : ∀ (ds : List Nat) (k b : Nat), ds[k]? = some 0 → le B (ds.set k b) = le B ds + B ^ k * b
 | [], k, b, h => by simp at h
 | d :: ds, 0, b, h => by
  cases h
  simp [le]
  omega
 | d :: ds, k + 1, b, h => by
  rw [OM, le, DI ds k b (by simpa using h), le, MP, NI, ← OD, Nz B (B ^ k)]
  omega
theorem BL (c : Nat) (hc : 0 < c) (ds : List Nat) (k b m : Nat) (hk : ds[k]? = some 0) : le 256 (((ds.set k b).drop (c * m)).take c) = if m = k / c then le 256 ((ds.drop (c * m)).take c) + 256 ^ (k % c) * b else le 256 ((ds.drop (c * m)).take c) := by
 have hdm := Nat.div_add_mod k c
 have hml := Nat.mod_lt k hc
 by_cases hm : m = k / c
 ·
  subst hm
  rw [if_pos rfl]
  have : ((ds.set k b).drop (c * (k / c))).take c = ((ds.drop (c * (k / c))).take c).set (k % c) b := by
   rw [List.drop_set, if_neg (by omega), show k - c * (k / c) = k % c by omega, List.take_set]
  rw [this]
  refine DI _ _ _ ?_
  rw [Nc, if_pos hml, NS, hdm]
  exact hk
 ·
  rw [if_neg hm]
  congr 1
  rcases Nat.lt_or_gt_of_ne hm with h | h
  ·
   have h1 : c * (m + 1) ≤ c * (k / c) := OH c h
   rw [MP, Nat.mul_one] at h1
   rw [List.drop_set, if_neg (by omega), List.take_set, List.set_eq_of_length_le (by rw [LV]; omega)]
  ·
   have h1 : c * (k / c + 1) ≤ c * m := OH c h
   rw [MP, Nat.mul_one] at h1
   rw [List.drop_set, if_pos (by omega)]
theorem zx (c n : Nat) (hc : 0 < c) (ds : List Nat) (k b : Nat) (hk : ds[k]? = some 0) (hkn : k / c < n) : chunks c (ds.set k b) n = (chunks c ds n).set (k / c) ((chunks c ds n).getD (k / c) 0 + 256 ^ (k % c) * b) := by
 refine List.ext_getElem? fun m => ?_
 rw [List.getElem?_set]
 simp only [iM]
 by_cases hm : m < n
 ·
  have h1 : ∀ es, (chunks c es n)[m]? = some (le 256 ((es.drop (c * m)).take c)) := fun es => by simp [chunks, hm]
  have h2 : (chunks c ds n).getD (k / c) 0 = le 256 ((ds.drop (c * (k / c))).take c) := by simp [chunks, hkn]
  rw [h1, h1, h2, BL c hc ds k b m hk]
  by_cases e : m = k / c
  ·
   subst e
   simp [hkn]
  · rw [if_neg e, if_neg fun e' => e e'.symm]
 ·
  have h1 : ∀ es, (chunks c es n)[m]? = none := fun es => by simp [chunks]; omega
  rw [h1, h1]
  split
  · simp_all
  · rfl
theorem zS (w : List UInt8) (hw : w.length = 32) (i : Nat) (hi : i < 32) : (nb w.reverse)[31 - i]? = some (w[i]'(by omega)).toNat := by
 unfold nb
 rw [List.getElem?_map, List.getElem?_reverse (by omega), show w.length - 1 - (31 - i) = i by omega, KJ (by omega)]
 rfl
theorem Dz (w : List UInt8) (i : Nat) (hi : i < 32) : (msk w i)[31 - i]? = some 0 := by
 unfold msk
 rw [MG (by rw [MO]; omega), List.getElem?_replicate, if_pos (by omega)]
theorem DC (w : List UInt8) (hw : w.length = 32) (i : Nat) (hi : i < 32) : msk w (i + 1) = (msk w i).set (31 - i) (w[i]'(by omega)).toNat := by
 have hg := zS w hw i hi
 obtain ⟨hlt, hg'⟩ := KZ.1 hg
 unfold msk
 rw [show 32 - (i + 1) = 31 - i by omega, show 32 - i = (31 - i) + 1 by omega, List.replicate_succ', Lc]
 rw [Nl _ _ (by rw [MO]; exact Lj _), MO, Ov, List.singleton_append, Oe]
 congr 1
 rw [Mc hlt, hg']
theorem Gf (w : List UInt8) (i k : Nat) (hk : k < 32 - i) : (msk w i)[k]? = some 0 := by
 unfold msk
 rw [MG (by rw [MO]; exact hk), List.getElem?_replicate, if_pos hk]
theorem JQ (w : List UInt8) (hw : w.length = 32) : msk w 0 = List.replicate 32 0 := by
 unfold msk
 rw [MC (by rw [kZ, MZ, hw]; exact Lj _), Lh]
theorem IV (w : List UInt8) : msk w 32 = nb w.reverse := by simp [msk]
theorem DJ {B : Nat} (hB : 0 < B) : ∀ (ds : List Nat) (j : Nat), (∀ k < j, ds[k]? = some 0) → ∃ q, le B ds = B ^ j * q
 | ds, 0, _ => ⟨le B ds, by simp⟩
 | [], j + 1, h => by have := h 0 (by omega); simp at this
 | d :: ds, j + 1, h => by
  have h0 : d = 0 := by have := h 0 (by omega); simpa using this
  obtain ⟨q, hq⟩ := DJ hB ds j fun k hk => by have := h (k + 1) (by omega); simpa using this
  exact ⟨q, by rw [le, h0, hq, L8, NI, ← OD, Nz B]⟩
theorem DF (w : List UInt8) (i : Nat) (hi : i < 32) : ∃ q, (chunks 8 (msk w i) 4).getD ((31 - i) / 8) 0 = 256 ^ ((31 - i) % 8 + 1) * q := by
 have h2 : (chunks 8 (msk w i) 4).getD ((31 - i) / 8) 0 = le 256 (((msk w i).drop (8 * ((31 - i) / 8))).take 8) := by
  have : (31 - i) / 8 < 4 := by omega
  simp [chunks, this]
 rw [h2]
 refine DJ (by decide) _ _ fun k hk => ?_
 rw [Nc, if_pos (by omega), NS]
 exact Gf w i _ (by omega)
theorem Dw (m x y : Nat) (q : Nat) (hx : x = 2 ^ m * q) (hy : y < 2 ^ m) : x ||| y = x + y := by
 subst hx
 exact (Nat.two_pow_add_eq_or_of_lt hy q).symm
end Wd
end Go.Proofs.YtkhjanjlcdhdcaaGreat
namespace Go.Proofs.YtkhjanjlcdhdcaaGreat
set_option linter.unusedVariables false
open Go.RowKit Mono Rlp
namespace E
section
variable {N : Nat} {X : Cx N} {S S' : St} {a : Act} {w w' : World} {ops : Array Oper} {o : Oper} {Q : Exit → Act → World → Prop} {K : Act → World → Prop} {l : List Oper} {c : Code} {TT : St → List Fr → Prop} {EE : List Fr} {rs : List (Tmp × R)} {os os' rest : List Obj} {fs : List (Value × D)} {base ok : Nat → Prop}
theorem EC.xq (n : Nat) (h : EK X (Code.rounds Tryz.prog c Q n) S) : EC X Q (.loop c) S := ⟨fun a w ha => wp_loop_rounds n (h.go a w ha)⟩
theorem EK.round {n : Nat} (h : EC X (Exit.then (Code.rounds Tryz.prog c Q n) Q) c S) : EK X (Code.rounds Tryz.prog c Q (n + 1)) S := ⟨fun a w ha => h.go a w ha⟩
theorem zM : ∀ (xs : List Value) (k : Nat) (hk : k < xs.length), D.vX (xs.map .v) k 1 false = some (.v xs[k])
 | [], k, hk => by simp at hk
 | x :: xs, 0, _ => by
  rw [Lu, D.vX, if_pos (by simp [D.size])]
  simp [D.sub]
 | x :: xs, k + 1, hk => by
  rw [Lu, D.vX, if_neg (by simp [D.size])]
  have : k + 1 - (D.v x).size = k := by simp [D.size]
  rw [this, zM xs k (by simpa using hk)]
  rfl
theorem uh {xs : List Value} {k : Nat} {x : Value} (h : xs[k]? = some x) : (D.tup (xs.map .v)).sub k 1 false = some (.v x) := by
 obtain ⟨hk, rfl⟩ := KZ.1 h
 rw [D.sub, if_neg (by simp), zM xs k hk]
theorem zK : ∀ (xs : List Value) (k : Nat) (y : Value) (hk : k < xs.length), D.rF (xs.map .v) k (.v y) = some ((xs.set k y).map .v)
 | [], k, y, hk => by simp at hk
 | x :: xs, 0, y, _ => by
  rw [Lu, D.rF, if_pos (by simp [D.size])]
  simp [D.upd, D.size, D.agg]
 | x :: xs, k + 1, y, hk => by
  rw [Lu, D.rF, if_neg (by simp [D.size])]
  have : k + 1 - (D.v x).size = k := by simp [D.size]
  rw [this, zK xs k y (by simpa using hk)]
  rfl
theorem Io {xs : List Value} {k : Nat} (y : Value) (hk : k < xs.length) : (D.tup (xs.map .v)).upd k (.v y) = some (.tup ((xs.set k y).map .v)) := by
 rw [D.upd, if_neg (by simp [D.agg]), zK xs k y hk]
 rfl
theorem zk {x y : Operand} {T n e z : Nat} {k : Int} {m : List UInt8} {b : UInt8} (ho : o.op = .index T x y) (hx : ev S x = some (.val (.arr n m))) (hy : ev S y = some (.val (.v (.int .i64 k)))) (hT : assoc arL T = some (n, e, z)) (he : Tryz.prog.underlying e = some (.int .u8) ∧ z = 1) (hk : 0 ≤ k ∧ m[k.toNat]? = some b) : Still ops S o (.val (.v (bv b))) := fun base ok a w ha => by
 obtain ⟨h1, h2⟩ := jw (ha.ev hx (aB (by rw [ho]; simp [Op.operands])))
 have hy' := dh ha hy (aB (by rw [ho]; simp [Op.operands]))
 obtain ⟨hk', rfl⟩ := KZ.1 hk.2
 obtain ⟨he, rfl⟩ := he
 refine ⟨_, ?_, dM rfl⟩
 have hlt : k < (n : Int) := by omega
 have hA := GU hT
 have hr : (Instr.index T (aV m) (.int .i64 k)).run Tryz.prog w = .ok (bv m[k.toNat]) w := by
  unfold Instr.index aV
  have h0 := hk.1
  have hc : ((bvs m).toArray)[k.toNat]? = some (bv m[k.toNat]) := by simp [bvs, hk']
  simp [run_underlying hA.und, asIntOf, h0, hlt, gX hA.size, part, isAgg, run_underlying he, bvs, hk']
 unfold execOp
 simp only [ho, h2, hy', KW, hr, KL, KX]
theorem zG {t ty : Nat} {pos : String} {af : Array Edge} {gd : Option (Nat × Bool)} {x y : Operand} {T n e z : Nat} {k : Int} {m : List UInt8} {b : UInt8} (he : Tryz.prog.underlying e = some (.int .u8) ∧ z = 1) (hk : 0 ≤ k ∧ m[k.toNat]? = some b) (hx : ev (⟨rs, os, fs⟩ : St) x = some (.val (.arr n m))) (hy : ev (⟨rs, os, fs⟩ : St) y = some (.val (.v (.int .i64 k)))) (hT : assoc arL T = some (n, e, z)) (hg : guardOf ops ⟨rs, os, fs⟩ ⟨some t, .index T x y, ty, pos, af, gd⟩ = some true) (hN : Nat.blt t N = true) (kk : EL X ops Q l ⟨(t, .val (.v (bv b))) :: rs, os, fs⟩) : EL X ops Q (⟨some t, .index T x y, ty, pos, af, gd⟩ :: l) ⟨rs, os, fs⟩ := ES.still (zk rfl hx hy hT he hk) hg rfl hN kk
theorem Ih {f : FuncId} {args : Array Operand} {tys : Array TypeId} {xs vs : List Value} (hrun : ∀ w, (callFunc f xs.toArray).run Tryz.prog w = .ok (.value (.tuple vs.toArray)) w) (hvs : ∀ x ∈ vs, x.oneCell' = true) (ho : o.op = .call { callee := .value (.func f), args := args, argTypes := tys }) (hx : vk S args.toList = some xs) : Still ops S o (.tpl (vs.map .v)) := fun base ok a w ha => by
 have h1 := nX args.toList xs hx (fun t ht => au (x := .tmp t) rfl (by rw [ho]; simp only [Op.operands, Call.operands]; simp; simpa using ht)) ha
 have h2 : args.map a.eval = xs.toArray := by
  apply NY
  simpa using h1
 refine ⟨.tuple vs.toArray, ?_, vs, rfl, vJ hvs⟩
 unfold execOp
 simp [ho, resolve, Act.eval, Deferred.ofValue, invoke, h2, hrun]
theorem ES.ext {t : Tmp} {f : FuncId} {args : Array Operand} {tys : Array TypeId} {xs vs : List Value} (hrun : ∀ w, (callFunc f xs.toArray).run Tryz.prog w = .ok (.value (.tuple vs.toArray)) w) (hvs : ∀ x ∈ vs, x.oneCell' = true) (ho : o.op = .call { callee := .value (.func f), args := args, argTypes := tys }) (hx : vk (⟨rs, os, fs⟩ : St) args.toList = some xs) (hg : guardOf ops ⟨rs, os, fs⟩ o = some true) (hd : o.dst = some t) (hN : Nat.blt t N = true) (k : EL X ops Q l ⟨(t, .tpl (vs.map .v)) :: rs, os, fs⟩) : EL X ops Q (o :: l) ⟨rs, os, fs⟩ := ES.still (Ih hrun hvs ho hx) hg hd hN k
theorem EH.ext {t : Tmp} {f : FuncId} {args : Array Operand} {tys : Array TypeId} {xs vs : List Value} (hrun : ∀ w, (callFunc f xs.toArray).run Tryz.prog w = .ok (.value (.tuple vs.toArray)) w) (hvs : ∀ x ∈ vs, x.oneCell' = true) (ho : o.op = .call { callee := .value (.func f), args := args, argTypes := tys }) (hx : vk (⟨rs, os, fs⟩ : St) args.toList = some xs) (hg : guardOf ops ⟨rs, os, fs⟩ o = some true) (ht : o.dst = some t) (hd : bg N (some t) EE = true) (k : EM N ops TT l ⟨(t, .tpl (vs.map .v)) :: rs, os, fs⟩ EE) : EM N ops TT (o :: l) ⟨rs, os, fs⟩ EE := EH.still (Ih hrun hvs ho hx) hg ht hd k
theorem o8 {t ty f : Nat} {pos : String} {af : Array Edge} {gd : Option (Nat × Bool)} {args : Array Operand} {tys : Array TypeId} {xs vs : List Value} (hrun : ∀ w, (callFunc f xs.toArray).run Tryz.prog w = .ok (.value (.tuple vs.toArray)) w) (hvs : ∀ x ∈ vs, x.oneCell' = true) (hx : vk (⟨rs, os, fs⟩ : St) args.toList = some xs) (hg : guardOf ops ⟨rs, os, fs⟩ ⟨some t, .call { callee := .value (.func f), args := args, argTypes := tys }, ty, pos, af, gd⟩ = some true) (hoff : bg N (some t) EE = true) (kk : EM N ops TT l ⟨(t, .tpl (vs.map .v)) :: rs, os, fs⟩ EE) : EM N ops TT (⟨some t, .call { callee := .value (.func f), args := args, argTypes := tys }, ty, pos, af, gd⟩ :: l) ⟨rs, os, fs⟩ EE := EH.ext hrun hvs rfl hx hg rfl hoff kk
theorem aO {t ty : Nat} {pos : String} {af : Array Edge} {gd : Option (Nat × Bool)} {x y : Operand} {T n e z g off : Nat} {k : Int} (hx : ev (⟨rs, os, fs⟩ : St) x = some (.val (.v (.pointer (some ⟨g, off, none⟩))))) (hy : ev (⟨rs, os, fs⟩ : St) y = some (.val (.v (.int .i64 k)))) (hT : assoc arL T = some (n, e, z)) (hk : 0 ≤ k ∧ k.toNat < n) (hg : guardOf ops ⟨rs, os, fs⟩ ⟨some t, .indexAddr T x y, ty, pos, af, gd⟩ = some true) (hoff : bg N (some t) EE = true) (kk : EM N ops TT l ⟨(t, .val (.v (.pointer (some ⟨g, off + k.toNat * z, none⟩)))) :: rs, os, fs⟩ EE) : EM N ops TT (⟨some t, .indexAddr T x y, ty, pos, af, gd⟩ :: l) ⟨rs, os, fs⟩ EE := EH.still (oQ rfl hx hy (GU hT) hk.1 hk.2) hg rfl hoff kk
theorem Je {T U : TypeId} {x : Operand} {p q : Value} (ho : o.op = .convert T U x) (hx : ev S x = some (.val (.v p))) (hrun : ∀ w, (Go.convert T U p).run Tryz.prog w = .ok q w) (hq : q.oneCell' = true) : Still ops S o (.val (.v q)) := fun base ok a w ha => by
 have h1 := dh ha hx (aB (by rw [ho]; simp [Op.operands]))
 refine ⟨q, ?_, dM hq⟩
 unfold execOp
 simp only [ho, h1, KW, hrun, KL, KX]
theorem Fz {t ty T U : Nat} {pos : String} {af : Array Edge} {gd : Option (Nat × Bool)} {x : Operand} {p q : Value} (hx : ev (⟨rs, os, fs⟩ : St) x = some (.val (.v p))) (hrun : ∀ w, (Go.convert T U p).run Tryz.prog w = .ok q w) (hq : q.oneCell' = true) (hg : guardOf ops ⟨rs, os, fs⟩ ⟨some t, .convert T U x, ty, pos, af, gd⟩ = some true) (hoff : bg N (some t) EE = true) (kk : EM N ops TT l ⟨(t, .val (.v q)) :: rs, os, fs⟩ EE) : EM N ops TT (⟨some t, .convert T U x, ty, pos, af, gd⟩ :: l) ⟨rs, os, fs⟩ EE := EH.still (Je rfl hx hrun hq) hg rfl hoff kk
theorem kF {T U : Nat} {k k' : IntKind} {de : TypeDesc} (hu : Tryz.prog.underlying T = some de) (hu' : Tryz.prog.underlying U = some (.int k')) (m n : Int) (h : k'.wrap m = n) : ∀ w, (Go.convert T U (.int k m)).run Tryz.prog w = .ok (.int k' n) w := fun w => by
 subst h
 simp [convert, run_underlying hu, run_underlying hu', Conv.intToInt]
theorem gB {op : BinOp} {T : TypeId} {k k' : IntKind} {m n : Int} {c : Value} (hc : c.oneCell' = true) (h : ∀ w, (binOp op T (.int k m) (.int k' n)).run Tryz.prog w = .ok c w) : Bin op T (.v (.int k m)) (.v (.int k' n)) c := by
 refine ⟨hc, fun ok w p q hp hq => ?_⟩
 obtain ⟨_, rfl⟩ := ay.1 hp
 obtain ⟨_, rfl⟩ := ay.1 hq
 exact ⟨fun x y => by cases op <;> simp [eqGuard], h w⟩
theorem wP (z : Value) (hz : z.oneCell' = true) : ∀ n : Nat, ah ok w 1 (List.replicate n (.v z)) (List.replicate n [z])
 | 0 => by rw [NM, NM, ah]
 | n + 1 => by
  rw [NK, NK, ah]
  exact ⟨_, _, rfl, rfl, by rw [Reads]; exact ⟨hz, rfl⟩, wP z hz n⟩
theorem IZ {T e y' n : Nat} {x : Operand} {z : Value} (hn : n * y' ≤ 281474976710656 ∧ n ≤ 9223372036854775807) (ho : o.op = .makeSlice T x x) (hx : ev S x = some (.val (.v (.int .i64 (n : Int))))) (hT : assoc slL T = some (e, 1, y')) (hz : assoc dL e = some (.v z)) : oC ops S o [] (fun r os' => ∃ v, r = .val (.v v) ∧ os' = [.row v e 1 (List.replicate n (.v z))]) := .mk fun base ok a w ha hown => by
 have h1 := dh ha hx (aB (by rw [ho]; simp [Op.operands]))
 have hS := FN hT rfl
 obtain ⟨i, zv, hi, hzv, hsz, hby, hcs⟩ := hS.info
 obtain ⟨zv', hz1, hz2⟩ := pR hz
 obtain rfl : zv' = zv := by
  rw [hi] at hz1
  have : i.zero = some zv' := by simpa using hz1
  exact MJ (this.symm.trans hzv)
 have hzr := hz2 (fun _ => True) w
 rw [Reads] at hzr
 have hcell : zv'.cells = #[z] := by
  apply NY
  simpa using hzr.2
 have hb' : (i.bytes : Int) * (n : Int) ≤ 281474976710656 := by
  have h0 := hn.1
  have : ((n * y' : Nat) : Int) ≤ 281474976710656 := by omega
  rw [Int.natCast_mul, Int.mul_comm] at this
  rw [hby]
  exact this
 have hrun := run_make (P := Tryz.prog) w T e i zv' hS.und hi hzv .i64 .i64 (n : Int) (n : Int) (by omega) (Int.le_refl _) hb' (by omega)
 rw [L6, hsz, Nat.mul_one, hcell] at hrun
 have hmc : madeCells #[z] n = (List.replicate n z).toArray := by
  apply NY
  simp [madeCells, Nat.mod_one]
  apply List.ext_getElem
  · simp
  ·
   intro k h1 h2
   simp
 rw [hmc] at hrun
 have hr : (execOp a.eval o).run Tryz.prog w = .ok (.value (.slice (some ⟨w.heap.size, 0, none⟩) n n)) (w.alloc (.cells (List.replicate n z).toArray e)) := by
  unfold execOp
  simp only [ho, h1, KW, hrun, KL, KX]
 rw [hr]
 have hflat : (List.replicate n [z]).flatten = List.replicate n z := by
  induction n with
  | zero => rfl
  | succ n ih => rw [NK, Md, NK]; simp
 obtain ⟨g1, g2⟩ := Ad (ok := ok) (w := w) (q := .row (.slice (some ⟨w.heap.size, 0, none⟩) n n) e 1 (List.replicate n (.v z))) (r := .val (.v (.slice (some ⟨w.heap.size, 0, none⟩) n n))) (ob := .cells (List.replicate n z).toArray e) (v := .slice (some ⟨w.heap.size, 0, none⟩) n n) rfl (fun ok' hk => ⟨List.replicate n [z], ⟨by
  have := zU w (List.replicate n z).toArray e 1 n w.heap.size 0 rfl (Lr _) (by simp [maxLen]; omega) (by simp)
  rw [MO, hflat]
  exact this, fun b hb => by cases hb; exact .inr (Lj _)⟩, wP z hzr.1 n⟩) (fun _ => dM rfl) ha.lt
 exact ⟨_, _, ⟨_, rfl, rfl⟩, g1, g2⟩
theorem EU {t T e y' n ty : Nat} {pos : String} {af : Array Edge} {gd : Option (Nat × Bool)} {x : Operand} {z : Value} (hn : n * y' ≤ 281474976710656 ∧ n ≤ 9223372036854775807) (hx : ev (⟨rs, os, fs⟩ : St) x = some (.val (.v (.int .i64 (n : Int))))) (hT : assoc slL T = some (e, 1, y')) (hz : assoc dL e = some (.v z)) (hg : guardOf ops ⟨rs, os, fs⟩ ⟨some t, .makeSlice T x x, ty, pos, af, gd⟩ = some true) (hN : Nat.blt t N = true) (kk : ∀ v, EL X ops Q l ⟨(t, .val (.v v)) :: rs, .row v e 1 (List.replicate n (.v z)) :: os, fs⟩) : EL X ops Q (⟨some t, .makeSlice T x x, ty, pos, af, gd⟩ :: l) ⟨rs, os, fs⟩ :=
 EL.mut (os := []) (rest := os) hg (gu rfl hN) (IZ hn rfl hx hT hz) fun r os' ⟨v, h1, h2⟩ => by
  subst h1 h2
  exact kk v
end
end E
end Go.Proofs.YtkhjanjlcdhdcaaGreat
