/-
 Merged: lemmas of this claim.
 Conditions: none.
-/
import Derived.Test.YtkhjanjlcdhdcaaGreatZL10
import Derived.Test.YtkhjanjlcdhdcaaGreatZL5
import Derived.LoopN
import Derived.Laws.Externs
import Derived.Laws.MakeOwn
import Derived.Test.YtkhjanjlcdhdcaaGreatZL6
import Derived.Laws.Pointers
import Derived.Test.YtkhjanjlcdhdcaaGreatZL0
namespace Go.Proofs.YtkhjanjlcdhdcaaGreat
set_option linter.unusedVariables false
open Go.RowKit Mono Rlp
namespace E
section
variable {N : Nat} {X : Cx N} {S S' : St} {a : Act} {w w' : World} {ops : Array Oper} {o : Oper} {Q : Exit → Act → World → Prop} {l : List Oper} {TT : St → List Fr → Prop} {EE : List Fr} {rs : List (Tmp × R)} {os os' rest : List Obj} {fs : List (Value × D)} {base ok : Nat → Prop} {p q : Obj}
theorem EL.put (i : Nat) (hg : guardOf ops S o = some true) (hd : o.dst = none) (hP : Puts ops S o p q) (hi : S.objs[i]? = some p) (k : EL X ops Q l ⟨S.regs, S.objs.set i q, S.facts⟩) : EL X ops Q (o :: l) S := by
 constructor
 intro a w ha
 obtain ⟨hq, hP⟩ := hP
 have hmem := La hi
 obtain ⟨w', g, h1, h2, h3, h4⟩ := hP _ _ a w (ha.kn _) (fun g hb hk => hk.2.2 p hmem hb) (ha.mem.at_ p hmem)
 unfold wpList
 rw [if_pos (eG ha hg)]
 refine .inl ?_
 unfold Oper.wp
 rw [h1]
 simp only [Oper.upon_skip, hd, Act.put]
 exact k.go _ _ (ha.turn hi (by rw [h2]; exact h3) (.inl hq) fun hok hcell => h4.move hok (fun _ _ => rfl) fun _ _ => rfl)
theorem pI (hP : Puts ops S o p q) : qH ops S o [p] (fun r os' => r = .any ∧ os' = [q]) := .mk fun base ok a w ha hown => by
 obtain ⟨hq, hP⟩ := hP
 obtain ⟨w', g, h1, h2, h3, h4⟩ := hP (fun _ => True) ok a w ⟨fun o ho => (ha.objs o ho).jS fun _ _ => trivial, ha.facts, ha.lt, ha.regs⟩ (fun g hb => hown.off g ⟨p, by simp, hb⟩) (hown.at_ p (by simp))
 rw [h1]
 have hB : ∀ b, lM [p] b ↔ b = g := fun b => ⟨fun ⟨o, ho, e⟩ => by
  obtain rfl : o = p := by simpa using ho
  rw [h2] at e
  injection e with e
  exact e.symm, fun e => ⟨p, by simp, by rw [e]; exact h2⟩⟩
 refine ⟨.any, [q], ⟨rfl, rfl⟩, ⟨⟨h3.os, h3.tape, h3.output, h3.size, fun k hk hn => h3.block k hk fun e => hn ((hB k).2 (by injection e))⟩, by simp, fun o ho => ?_⟩, trivial⟩
 obtain rfl : o = q := by simpa using ho
 refine (h4.move (fun b hb => ⟨.inl hb, Ld (ha.lt b hb) h3.size, fun o' ho' e => ?_⟩) (fun _ _ => rfl) fun _ _ => rfl).jS fun b e => .inl ⟨p, by simp, by rw [← hq]; exact e⟩
 obtain rfl : o' = o := by simpa using ho'
 exact hown.off b ⟨p, by simp, by rw [← hq]; exact e⟩ hb
theorem Aq {T K n E g c : Nat} {x y z : Operand} {es : List Ent} {l1 : List UInt8} {d : D} (ho : o.op = .mapUpdate T x y z) (hx : ev S x = some (.val (.v (.map (some g))))) (hy : ev S y = some (.val (.arr n l1))) (hz : ev S z = some (.val d)) (hT : assoc pG T = some (K, n, E)) : Puts ops S o (.map g n c es) (.map g n (dG c es l1) (dN c es l1 d)) := by
 refine ⟨rfl, fun base ok a w ha hno hat => ?_⟩
 have h1 := eU ha hx (aT (by rw [ho]; simp [Op.operands]))
 obtain ⟨h2, h3⟩ := lu (ha.ev hy (aT (by rw [ho]; simp [Op.operands])))
 obtain ⟨w', h4, h5, h6⟩ := uI (yV hT).1 (yV hT).2 hat l1 h2 (ha.ev hz (aT (by rw [ho]; simp [Op.operands]))) (hno g rfl)
 refine ⟨w', g, ?_, rfl, h5, h6⟩
 unfold execOp
 simp only [ho, h1, h3, KL, h4, KC, KO]
theorem wS {T e z n k off : Nat} {x y : Operand} {v : Value} {ds : List D} {d d' d'' : D} (hk : n = k * z + off ∧ ds[k]? = some d) (ho : o.op = .store T x y) (hx : ev S x = some (.val (.v (bf v n)))) (hy : ev S y = some (.val d')) (hT : assoc tyL T = some (d'.size, d'.agg)) (hu : d.upd off d' = some d'') : Puts ops S o (.row v e z ds) (.row v e z (ds.set k d'')) := by
 refine ⟨rfl, fun base ok a w ha hno hat => ?_⟩
 have hx' := eU ha hx (aT (by rw [ho]; simp [Op.operands]))
 obtain ⟨cs', h1, h2⟩ := ha.ev hy (aT (by rw [ho]; simp [Op.operands]))
 have hk' := (KP.1 hk.2).1
 obtain ⟨g, c, cur, rows, H⟩ := row_in hat (by omega)
 obtain ⟨r, A, B, g1, g2, g3, g4, g5, g6⟩ := H.elem hk.2
 obtain ⟨e1, e2, pre, mid, post, rfl, h5, h6, h7⟩ := jY d off d' d'' r cs' hu g3 h1
 obtain ⟨_, _, _, hT'⟩ := tyI hT
 have hh : w.heap[g]? = some (.cells ((A ++ pre) ++ mid ++ (post ++ B)).toArray e (0, 0)) := by
  have := H.heap
  rw [show cur = (A ++ (pre ++ mid ++ post) ++ B).toArray by rw [← g4]] at this
  rw [this]
  simp
 have hrun := iY (T := T) (by rw [hT', Reads.len _ _ h1]) h1 hh (by rw [Lu, g5, h5, ← hk.1]) h6
 have hg := dD g cs' n w
 have hnew := fD cs' (A ++ pre) mid (post ++ B) w h6 hh
 rw [Lu, g5, h5, ← hk.1] at hnew
 have hcell : ∀ q : Addr, ok q.block → (w.setCells g n cs').cell? q = w.cell? q := fun q hq => World.cell?_of_block (hg.block _ (ha.lt _ hq) fun e => hno g (by rw [H.val]; rfl) (by injection e with e; rw [← e]; exact hq))
 have hlen : (pre ++ cs' ++ post).length = z := by
  simp only [Lu] at g2 ⊢
  omega
 have hrows := ay.set ds rows k d'' (pre ++ cs' ++ post) H.rows h7 hlen
 have hrows' := ay.mono (fun _ h => h) hcell z _ _ hrows
 refine ⟨w.setCells g n cs', g, ?_, by rw [H.val]; rfl, hg, vX.at (g := g) (c := c) (cur := ((A ++ pre) ++ cs' ++ (post ++ B)).toArray) (rows := rows.set k (pre ++ cs' ++ post)) ⟨by rw [NV]; exact H.val, hnew, ?_, ?_, by rw [NV]; exact H.le, H.max, hrows', H.mine⟩⟩
 ·
  have ep : bf v n = .pointer (some ⟨g, n, none⟩) := by rw [H.val]; simp [bf]
  unfold execOp
  simp only [ho, hx', ep, h2, KL, hrun, KC, KO]
 ·
  rw [NV, ← g6 _ hlen]
  simp
 ·
  have := congrArg List.length g4
  rw [NS, H.size] at this
  simp only [Oa, Lu] at this ⊢
  omega
theorem kL {T K n E g c ty : Nat} {pos : String} {af : Array Edge} {gd : Option (Nat × Bool)} {x y z : Operand} {es : List Ent} {l1 : List UInt8} {d : D} (hx : ev (⟨rs, os, fs⟩ : St) x = some (.val (.v (.map (some g))))) (hset : lG os (.map g n c es) (.map g n (dG c es l1) (dN c es l1 d)) os') (hy : ev (⟨rs, os, fs⟩ : St) y = some (.val (.arr n l1))) (hz : ev (⟨rs, os, fs⟩ : St) z = some (.val d)) (hT : assoc pG T = some (K, n, E)) (hg : guardOf ops ⟨rs, os, fs⟩ ⟨none, .mapUpdate T x y z, ty, pos, af, gd⟩ = some true) (kk : EL X ops Q l ⟨rs, os', fs⟩) : EL X ops Q (⟨none, .mapUpdate T x y z, ty, pos, af, gd⟩ :: l) ⟨rs, os, fs⟩ := by
 obtain ⟨i, hi, rfl⟩ := hset.ix
 exact EL.put i hg rfl (Aq rfl hx hy hz hT) hi kk
theorem dw {T e z n k off ty : Nat} {pos : String} {af : Array Edge} {gd : Option (Nat × Bool)} {x y : Operand} {v : Value} {ds : List D} {d d' d'' : D} (hx : ev (⟨rs, os, fs⟩ : St) x = some (.val (.v (bf v n)))) (hset : lG os (.row v e z ds) (.row v e z (ds.set k d'')) os') (hk : n = k * z + off ∧ ds[k]? = some d) (hy : ev (⟨rs, os, fs⟩ : St) y = some (.val d')) (hT : assoc tyL T = some (d'.size, d'.agg)) (hu : d.upd off d' = some d'') (hg : guardOf ops ⟨rs, os, fs⟩ ⟨none, .store T x y, ty, pos, af, gd⟩ = some true) (kk : EL X ops Q l ⟨rs, os', fs⟩) : EL X ops Q (⟨none, .store T x y, ty, pos, af, gd⟩ :: l) ⟨rs, os, fs⟩ := by
 obtain ⟨i, hi, rfl⟩ := hset.ix
 exact EL.put i hg rfl (wS hk rfl hx hy hT hu) hi kk
theorem EL.del {T K n E g c : Nat} {U : TypeId} {x y : Operand} {es : List Ent} {l1 : List UInt8} (i : Nat) (ho : o.op = .call { callee := .builtin .delete, args := #[x, y], argTypes := #[T, U] }) (hg : guardOf ops S o = some true) (hd : o.dst = none) (hx : ev S x = some (.val (.v (.map (some g))))) (hi : S.objs[i]? = some (.map g n c es)) (hy : ev S y = some (.val (.arr n l1))) (hT : assoc pG T = some (K, n, E)) (k : EL X ops Q l ⟨S.regs, S.objs.set i (.map g n c (jG es l1)), S.facts⟩) : EL X ops Q (o :: l) S := by
 constructor
 intro a w ha
 have hk := ha.kn fun t => t ∈ o.looksAt ops
 have h1 := eU hk hx (aT (by rw [ho]; simp [Op.operands, Call.operands]))
 obtain ⟨h2, h3⟩ := lu (hk.ev hy (aT (by rw [ho]; simp [Op.operands, Call.operands])))
 have hmem := La hi
 obtain ⟨w', h4, h5, h6⟩ := Am (U := U) o.type (yV hT).1 (yV hT).2 (ha.mem.at_ _ hmem) l1 h2 (fun hk => hk.2.2 _ hmem rfl)
 unfold wpList
 rw [if_pos (eG ha hg)]
 refine .inl ?_
 unfold Oper.wp execOp
 simp only [ho, resolve, invoke, builtin, KL, KO, KC, MZ, Lc, MB, h1, h3, h4]
 simp only [Oper.upon_value, hd, Act.put]
 exact k.go _ _ (ha.turn hi h5 (.inl rfl) fun hok hcell => h6.move hok (fun _ _ => rfl) fun _ _ => rfl)
theorem F7 {T K n E g c ty : Nat} {U : TypeId} {pos : String} {af : Array Edge} {gd : Option (Nat × Bool)} {x y : Operand} {es : List Ent} {l1 : List UInt8} (hx : ev (⟨rs, os, fs⟩ : St) x = some (.val (.v (.map (some g))))) (hset : lG os (.map g n c es) (.map g n c (jG es l1)) os') (hy : ev (⟨rs, os, fs⟩ : St) y = some (.val (.arr n l1))) (hT : assoc pG T = some (K, n, E)) (hg : guardOf ops ⟨rs, os, fs⟩ ⟨none, .call { callee := .builtin .delete, args := #[x, y], argTypes := #[T, U] }, ty, pos, af, gd⟩ = some true) (kk : EL X ops Q l ⟨rs, os', fs⟩) : EL X ops Q (⟨none, .call { callee := .builtin .delete, args := #[x, y], argTypes := #[T, U] }, ty, pos, af, gd⟩ :: l) ⟨rs, os, fs⟩ := by
 obtain ⟨i, hi, rfl⟩ := hset.ix
 exact EL.del i rfl hg rfl hx hi hy hT kk
theorem BO {q : Obj} {r : R} {ob : Go.Obj} {v : Value} (hb : q.blk = some w.heap.size) (hat : ∀ ok' : Nat → Prop, (∀ b, ok b → ok' b) → q.At (fun b => lM [] b ∨ w.heap.size ≤ b) ok' (w.alloc ob)) (hr : ∀ ok', bF ok' (w.alloc ob) r v) (hlt : ∀ b, ok b → b < w.heap.size) : Turned ok [] w [q] (w.alloc ob) ∧ bF (okM ok [] w [q] (w.alloc ob)) (w.alloc ob) r v := by
 have hg := eP w ob
 refine ⟨⟨.of hg, by simp, fun o ho => ?_⟩, hr _⟩
 obtain rfl : o = q := by simpa using ho
 refine hat _ fun b hk => ⟨.inl hk, Ld (hlt b hk) hg.size, fun o' ho' e => ?_⟩
 obtain rfl : o' = o := by simpa using ho'
 rw [hb] at e
 injection e with e
 have := hlt b hk
 omega
theorem jw {T K n E : Nat} (ho : o.op = .makeMap T none) (hT : assoc pG T = some (K, n, E)) : qH ops S o [] (fun r os' => ∃ g, r = .val (.v (.map (some g))) ∧ os' = [.map g n 0 []]) := .mk fun base ok a w ha hown => by
 have hr : (execOp a.eval o).run Tryz.prog w = .ok (.value (.map (some w.heap.size))) (w.alloc (.map #[] 0)) := by
  unfold execOp
  have := @run_makeMap Tryz.prog
  simp [ho, this]
 rw [hr]
 obtain ⟨h1, h2⟩ := BO (ok := ok) (w := w) (q := .map w.heap.size n 0 []) (r := .val (.v (.map (some w.heap.size)))) (ob := .map #[] 0) (v := .map (some w.heap.size)) rfl (fun ok' _ => ⟨.inr (KW _), qI.nil, #[], heap_alloc_new w _, .nil⟩) (fun _ => fO rfl) ha.lt
 exact ⟨_, _, ⟨_, rfl, rfl⟩, h1, h2⟩
theorem yX {T : TypeId} {x : Operand} {d : D} (ho : o.op = .box T x) (hx : ev S x = some (.val d)) : qH ops S o [] (fun r os' => ∃ g, r = .val (.v (.pointer (some ⟨g, 0, none⟩))) ∧ os' = [.var g T d]) := .mk fun base ok a w ha hown => by
 obtain ⟨cs, h1, h2⟩ := BL ho hx base ok a w ha
 rw [h1]
 obtain ⟨g1, g2⟩ := BO (ok := ok) (w := w) (q := .var w.heap.size T d) (r := .val (.v (.pointer (some ⟨w.heap.size, 0, none⟩)))) (ob := .cells cs.toArray T) (v := .pointer (some ⟨w.heap.size, 0, none⟩)) rfl (fun ok' hk => ⟨.inr (KW _), cs, heap_alloc_new w _, Reads.mono hk (fun p hp => (eP w _).cell (ha.lt _ hp)) _ _ h2⟩) (fun _ => fO rfl) ha.lt
 exact ⟨_, _, ⟨_, rfl, rfl⟩, g1, g2⟩
theorem GX {T : TypeId} {d : D} (ho : o.op = .alloc T) (hz : assoc fU T = some d) : qH ops S o [] (fun r os' => ∃ g, r = .val (.v (.pointer (some ⟨g, 0, none⟩))) ∧ os' = [.var g T d]) := .mk fun base ok a w ha hown => by
 obtain ⟨cs, h1, h2⟩ := rJ ho (rU hz) base ok a w ha
 rw [h1]
 obtain ⟨g1, g2⟩ := BO (ok := ok) (w := w) (q := .var w.heap.size T d) (r := .val (.v (.pointer (some ⟨w.heap.size, 0, none⟩)))) (ob := .cells cs.toArray T) (v := .pointer (some ⟨w.heap.size, 0, none⟩)) rfl (fun ok' hk => ⟨.inr (KW _), cs, heap_alloc_new w _, Reads.mono hk (fun p hp => (eP w _).cell (ha.lt _ hp)) _ _ h2⟩) (fun _ => fO rfl) ha.lt
 exact ⟨_, _, ⟨_, rfl, rfl⟩, g1, g2⟩
theorem vZ {t T K n E ty : Nat} {pos : String} {af : Array Edge} {gd : Option (Nat × Bool)} (hT : assoc pG T = some (K, n, E)) (hg : guardOf ops ⟨rs, os, fs⟩ ⟨some t, .makeMap T none, ty, pos, af, gd⟩ = some true) (hN : Nat.blt t N = true) (kk : ∀ g, EL X ops Q l ⟨(t, .val (.v (.map (some g)))) :: rs, .map g n 0 [] :: os, fs⟩) : EL X ops Q (⟨some t, .makeMap T none, ty, pos, af, gd⟩ :: l) ⟨rs, os, fs⟩ :=
 EL.mut (os := []) (rest := os) hg (ji rfl hN) (jw rfl hT) fun r os' ⟨g, h1, h2⟩ => by
  subst h1 h2
  exact kk g
theorem dM {t ty f : Nat} {pos : String} {af : Array Edge} {gd : Option (Nat × Bool)} {args : Array Operand} {tys : Array TypeId} {ds ds' : List D} {os0 : List Obj} {Φ : R → List Obj → Prop} (hF : FnM f ds' os Φ) (hos : os0 = os ++ rest) (hx : evs (⟨rs, rest, fs⟩ : St) args.toList = some ds) (hR : au fs ds ds') (hf : Enters f) (hg : guardOf ops ⟨rs, os ++ rest, fs⟩ ⟨some t, .call { callee := .value (.func f), args := args, argTypes := tys }, ty, pos, af, gd⟩ = some true) (hN : Nat.blt t N = true) (kk : ∀ r os', Φ r os' → EL X ops Q l ⟨(t, r) :: rs, os' ++ rest, fs⟩) : EL X ops Q (⟨some t, .call { callee := .value (.func f), args := args, argTypes := tys }, ty, pos, af, gd⟩ :: l) ⟨rs, os0, fs⟩ := by
 subst hos
 refine EL.mut (Φ := Φ) hg (ji rfl hN) ?_ kk
 exact kU (S := ⟨rs, rest, fs⟩) hF rfl hx hR hf
theorem jg {t ty f : Nat} {pos : String} {af : Array Edge} {gd : Option (Nat × Bool)} {args : Array Operand} {tys : Array TypeId} {ds ds' : List D} {os0 os1 : List Obj} {r1 : R} (hF : FnM f ds' os (fun r os' => r = r1 ∧ os' = os1)) (hos : os0 = os ++ rest) (hx : evs (⟨rs, rest, fs⟩ : St) args.toList = some ds) (hR : au fs ds ds') (hf : Enters f) (hg : guardOf ops ⟨rs, os ++ rest, fs⟩ ⟨some t, .call { callee := .value (.func f), args := args, argTypes := tys }, ty, pos, af, gd⟩ = some true) (hN : Nat.blt t N = true) (kk : EL X ops Q l ⟨(t, r1) :: rs, os1 ++ rest, fs⟩) : EL X ops Q (⟨some t, .call { callee := .value (.func f), args := args, argTypes := tys }, ty, pos, af, gd⟩ :: l) ⟨rs, os0, fs⟩ :=
 dM hF hos hx hR hf hg hN fun r os' ⟨h1, h2⟩ => by
  subst h1 h2
  exact kk
theorem CH.dS {os1 : List Obj} {T : St → Prop} {d : Option Tmp} {ty f : Nat} {pos : String} {af : Array Edge} {gd : Option (Nat × Bool)} {args : Array Operand} {tys : Array TypeId} {ds ds' : List D} {os0 : List Obj} {Φ : R → List Obj → Prop} (hF : FnM f ds' os Φ) (hos : os0 = os ++ (rest ++ os1)) (hx : evs (⟨rs, rest ++ os1, fs⟩ : St) args.toList = some ds) (hR : au fs ds ds') (hf : Enters f) (hg : guardOf ops ⟨rs, os ++ (rest ++ os1), fs⟩ ⟨d, .call { callee := .value (.func f), args := args, argTypes := tys }, ty, pos, af, gd⟩ = some true) (hd : Hz N d = true)
  (k : ∀ r os', Φ r os' → CH N ops os1 T l (St.put ⟨rs, os' ++ (rest ++ os1), fs⟩ d r)) : CH N ops os1 T (⟨d, .call { callee := .value (.func f), args := args, argTypes := tys }, ty, pos, af, gd⟩ :: l) ⟨rs, os0, fs⟩ := by
 subst hos
 refine CH.mut (Φ := Φ) hd hg ?_ k
 exact kU (S := ⟨rs, rest ++ os1, fs⟩) hF rfl hx hR hf
theorem Dc {t f : Nat} {args : Array Operand} {tys : Array TypeId} {caps : List Value} (ho : o.op = .call { callee := .value (.tmp t), args := args, argTypes := tys }) (ht : a.eval (.tmp t) = .func (.func f) #[] caps.toArray) (hf : Enters f) : (execOp a.eval o).run Tryz.prog w = .ok (.enter f (args.map a.eval ++ caps.toArray)) w := by
 unfold execOp
 simp [ho, resolve, ht, Deferred.ofValue, invoke, hf (args.map a.eval ++ caps.toArray) w]
theorem wZ {t : Tmp} {args : Array Operand} {tys : Array TypeId} (ho : o.op = .call { callee := .value (.tmp t), args := args, argTypes := tys }) : ∀ u, Operand.tmp t = .tmp u → u ∈ o.looksAt ops := aT (by rw [ho]; simp [Op.operands, Call.operands])
theorem ou : ∀ (ds es : List D) (xs ys : List Value), dV ok w ds xs → dV ok w es ys → dV ok w (ds ++ es) (xs ++ ys)
 | [], es, xs, ys, h, h' => by cases h; exact h'
 | d :: ds, es, xs, ys, h, h' => by
  obtain ⟨x, rest, rfl, h1, h2⟩ := h
  exact ⟨x, _, rfl, h1, ou ds es rest ys h2 h'⟩
theorem GV {t f : Nat} {args : Array Operand} {tys : Array TypeId} {caps : List Value} {ds ds' cds : List D} {Φ : R → List Obj → Prop} (hF : FnM f (ds' ++ cds) os Φ) (hc : ∀ base ok L (a : Act) w, Kn base ok L S a w → dV ok w cds caps) (ho : o.op = .call { callee := .value (.tmp t), args := args, argTypes := tys }) (ht : look S.regs t = some (.val (.v (.func (.func f) #[] caps.toArray)))) (hx : evs S args.toList = some ds) (hR : au S.facts ds ds') (hf : Enters f) : qH ops S o os Φ := .mk fun base ok a w ha hown => by
 have h1 : a.eval (.tmp t) = .func (.func f) #[] caps.toArray := eU ha (x := .tmp t) ht (wZ ho)
 have hr := au.sS ha.facts _ _ _ hR (ha.evs _ _ hx fun u hu => aK (x := .tmp u) rfl (by rw [ho]; simp only [Op.operands, Call.operands]; simp; right; simpa using hu))
 rw [Dc ho h1 hf]
 have := hF.go ok w _ ha.lt hown (ou _ _ _ _ hr (hc _ _ _ a w ha))
 have he : (args.toList.map a.eval ++ caps).toArray = args.map a.eval ++ caps.toArray := by
  apply NP
  simp
 rw [he] at this
 simp only [fZ]
 refine this.mono ?_
 rintro e w' ⟨v, r, os', rfl, h1, h2, h3⟩
 exact ⟨v, rfl, r, os', h1, h2, h3⟩
theorem uw {t u ty f : Nat} {pos : String} {af : Array Edge} {gd : Option (Nat × Bool)} {args : Array Operand} {tys : Array TypeId} {caps : List Value} {ds ds' cds : List D} {os0 : List Obj} {Φ : R → List Obj → Prop} (hF : FnM f (ds' ++ cds) os Φ) (hc : ∀ base ok L (a : Act) w, Kn base ok L ⟨rs, rest, fs⟩ a w → dV ok w cds caps) (hos : os0 = os ++ rest) (ht : look rs u = some (.val (.v (.func (.func f) #[] caps.toArray)))) (hx : evs (⟨rs, rest, fs⟩ : St) args.toList = some ds) (hR : au fs ds ds') (hf : Enters f) (hg : guardOf ops ⟨rs, os ++ rest, fs⟩ ⟨some t, .call { callee := .value (.tmp u), args := args, argTypes := tys }, ty, pos, af, gd⟩ = some true) (hN : Nat.blt t N = true) (kk : ∀ r os', Φ r os' → EL X ops Q l ⟨(t, r) :: rs, os' ++ rest, fs⟩) : EL X ops Q (⟨some t, .call { callee := .value (.tmp u), args := args, argTypes := tys }, ty, pos, af, gd⟩ :: l) ⟨rs, os0, fs⟩ := by
 subst hos
 exact EL.mut hg (ji rfl hN) (GV hF hc rfl ht hx hR hf) kk
theorem xO {caps : List Value} (h : ∀ x ∈ caps, x.oneCell' = true) : dV ok w (caps.map .v) caps := by
 induction caps with
 | nil => rfl
 | cons x xs ih => exact ⟨x, xs, rfl, fO (h x (by simp)), ih fun y hy => h y (by simp [hy])⟩
theorem zI (v : Value) (k : Nat) : (cutV v k).ownBlock = v.ownBlock := by
 unfold cutV
 split
 ·
  rename_i A n c
  cases A <;> rfl
 · rfl
theorem Le.FI {e z k : Nat} {v : Value} {ds : List D} (hk : k ≤ ds.length) (hset : lG os (.row v e z ds) (.row (cutV v k) e z (ds.take k)) os') : Le X ⟨rs, os, fs⟩ ⟨rs, os', fs⟩ := by
 obtain ⟨i, hi, rfl⟩ := hset.ix
 intro a w ha
 refine ha.turn hi (World.grownBy.refl w _) (.inl ?_) fun hok hcell => ?_
 · exact zI v k
 ·
  have hat := (ha.mem.at_ _ (La hi)).move hok (fun _ _ => rfl) fun _ _ => rfl
  obtain ⟨rows, ⟨h1, h2⟩, h3⟩ := hat
  obtain ⟨hl1, hl2⟩ := ay.lens ds rows h3
  have hlen : (ds.take k).length = k := by rw [LD]; omega
  have hb := zI v k
  refine ⟨rows.take k, ⟨⟨?_, ?_⟩, fun b hb' => h2 b (by rw [← hb]; exact hb')⟩, ay.take ds rows k h3⟩
  ·
   rw [qp rows hl2, LD, mM rows hl2, hl1, hlen]
   exact MC (MV z hk)
  ·
   rcases h1.2 with ⟨e1, e2⟩ | ⟨g, c, cur, e1, e2, e3, e4, e5, e6, e7⟩
   ·
    refine .inl ⟨?_, by omega⟩
    rw [e1]
    have : k = 0 := by omega
    subst this
    rfl
   ·
    refine .inr ⟨g, c, cur, by rw [e1, hlen]; rfl, e2, e3, by omega, e5, e6, ?_⟩
    rw [qp rows hl2, ← e7, hlen, List.take_take, MC (MV z hk)]
theorem J8 {T : Nat} (h : I7.contains T = true) : ∃ e, Tryz.prog.underlying T = some (.pointer e) := by
 have := LK.1 Gy T (by simpa using h)
 unfold JJ at this
 split at this
 ·
  rename_i e he
  exact ⟨e, he⟩
 · cases this
end
end E
end Go.Proofs.YtkhjanjlcdhdcaaGreat
namespace Go.Proofs.YtkhjanjlcdhdcaaGreat
set_option linter.unusedVariables false
namespace Wd
open Rlp
def le (B : Nat) : List Nat → Nat
 | [] => 0
 | d :: ds => d + B * le B ds
theorem fK (B : Nat) : ∀ a b : List Nat, le B (a ++ b) = le B a + B ^ a.length * le B b
 | [], b => by simp [le]
 | x :: a, b => by
  rw [Kr, le, fK B a b, le, LM, Nu, MG]
  have : B * (B ^ a.length * le B b) = B ^ a.length * B * le B b := by rw [← Ou, Nl B]
  omega
theorem BQ {B : Nat} : ∀ ds : List Nat, (∀ d ∈ ds, d < B) → le B ds < B ^ ds.length
 | [], _ => by simp [le]
 | d :: ds, h => by
  have h1 := h d (by simp)
  have h2 := BQ ds fun x hx => h x (by simp [hx])
  rw [le, LM, Nu]
  calc d + B * le B ds < B + B * le B ds := by omega
   _ = B * (le B ds + 1) := by rw [MG]; omega
   _ ≤ B * B ^ ds.length := Oy _ h2
   _ = B ^ ds.length * B := Nl _ _
theorem EN {B : Nat} : ∀ a b : List Nat, a.length = b.length → (∀ d ∈ a, d < B) → (∀ d ∈ b, d < B) → le B a = le B b → a = b
 | [], [], _, _, _, _ => rfl
 | [], _ :: _, h, _, _, _ => by simp at h
 | _ :: _, [], h, _, _, _ => by simp at h
 | x :: a, y :: b, hl, ha, hb, h => by
  have hx := ha x (by simp)
  have hy := hb y (by simp)
  rw [le, le] at h
  have e1 : x = y := by
   have := congrArg (· % B) h
   simp only [OA] at this
   rwa [Nc hx, Nc hy] at this
  subst e1
  have e2 : B * le B a = B * le B b := by omega
  rw [EN a b (by simpa using hl) (fun d hd => ha d (by simp [hd])) (fun d hd => hb d (by simp [hd])) (Nat.eq_of_mul_eq_mul_left (by omega) e2)]
def nb (w : List UInt8) : List Nat := w.map (·.toNat)
theorem yS (w : List UInt8) : ∀ d ∈ nb w, d < 256 := fun d hd => by
 obtain ⟨b, _, rfl⟩ := Lh.1 hd
 exact b.toNat_lt
theorem nN (w : List UInt8) : (nb w).length = w.length := KG _
theorem rX (w : List UInt8) : val w = le 256 (nb w.reverse) := by
 induction w with
 | nil => rfl
 | cons b w ih =>
  rw [xZ, ih, List.reverse_cons]
  unfold nb
  rw [L8, fK]
  simp [le]
  rw [Og, Nl]
theorem Ez : ∀ a b : List UInt8, nb a = nb b → a = b
 | [], [], _ => rfl
 | [], _ :: _, h => by simp [nb] at h
 | _ :: _, [], h => by simp [nb] at h
 | x :: a, y :: b, h => by
  simp only [nb, Lc, List.cons.injEq] at h
  rw [UInt8.toNat_inj.1 h.1, Ez a b h.2]
theorem val_inj (a b : List UInt8) (hl : a.length = b.length) (h : val a = val b) : a = b := by
 rw [rX, rX] at h
 have h1 := EN _ _ (by rw [nN, nN, MO, MO, hl]) (yS _) (yS _) h
 exact List.reverse_inj.1 (Ez _ _ h1)
def chunks (c : Nat) (ds : List Nat) (k : Nat) : List Nat := (List.range k).map fun m => le 256 ((ds.drop (c * m)).take c)
theorem zJ (c : Nat) (ds : List Nat) (k : Nat) : chunks c ds (k + 1) = le 256 (ds.take c) :: chunks c (ds.drop c) k := by
 unfold chunks
 rw [List.range_succ_eq_map, Lc, Me]
 simp only [Nat.mul_zero, Kw, List.cons.injEq, true_and]
 refine MP fun m _ => ?_
 simp only [Function.comp, List.drop_drop]
 rw [show c + c * m = c * (m + 1) by rw [MG]; omega]
theorem vk (c : Nat) : ∀ (k : Nat) (ds : List Nat), ds.length = c * k → le (256 ^ c) (chunks c ds k) = le 256 ds
 | 0, ds, h => by
  have : ds = [] := by simpa using h
  subst this
  rfl
 | k + 1, ds, h => by
  have hc : c ≤ ds.length := by rw [h, MG]; omega
  rw [zJ, le, vk c k (ds.drop c) (by rw [Oq, h, MG]; omega)]
  conv => rhs; rw [← Mc c ds, fK]
  rw [LD, MC hc]
theorem jV (c : Nat) (ds : List Nat) (k : Nat) : (chunks c ds k).length = k := by simp [chunks]
theorem qA (c : Nat) (ds : List Nat) (k : Nat) (h : ∀ d ∈ ds, d < 256) : ∀ x ∈ chunks c ds k, x < 256 ^ c := fun x hx => by
 obtain ⟨m, _, rfl⟩ := Lh.1 hx
 refine Ld (BQ _ fun d hd => h d (List.mem_of_mem_drop (List.mem_of_mem_take hd))) (Nat.pow_le_pow_right (by decide) ?_)
 rw [LD]
 omega
def iI (c l : Nat) : List Nat := (List.range c).map fun j => l / 256 ^ j % 256
theorem zK (c l : Nat) : iI (c + 1) l = l % 256 :: iI c (l / 256) := by
 unfold iI
 rw [List.range_succ_eq_map, Lc, Me]
 simp only [Nat.pow_zero, Nat.div_one, List.cons.injEq, true_and]
 refine MP fun m _ => ?_
 simp only [Function.comp]
 rw [Nat.div_div_eq_div_mul, Nu, Nl 256]
theorem qm : ∀ c l : Nat, le 256 (iI c l) = l % 256 ^ c
 | 0, l => by simp [iI, le, Nat.mod_one]
 | c + 1, l => by
  rw [zK, le, qm c (l / 256), Nu, Nl (256 ^ c), Nat.mod_mul]
theorem fM (c l : Nat) : (iI c l).length = c := by simp [iI]
theorem vS (c l : Nat) : ∀ x ∈ iI c l, x < 256 := fun x hx => by
 obtain ⟨m, _, rfl⟩ := Lh.1 hx
 exact Nat.mod_lt _ (by decide)
def eF (c : Nat) (ls : List Nat) : List Nat := ls.flatMap (iI c)
theorem tC (c : Nat) : ∀ ls : List Nat, (∀ l ∈ ls, l < 256 ^ c) → le 256 (eF c ls) = le (256 ^ c) ls
 | [], _ => rfl
 | l :: ls, h => by
  unfold eF
  rw [Nj, fK, qm, fM, Nc (h l (by simp)), le]
  rw [show List.flatMap (iI c) ls = eF c ls from rfl, tC c ls fun x hx => h x (by simp [hx])]
theorem fA (c : Nat) : ∀ ls : List Nat, (eF c ls).length = c * ls.length
 | [] => rfl
 | l :: ls => by
  unfold eF
  rw [Nj, Lu, fM, show List.flatMap (iI c) ls = eF c ls from rfl, fA c ls, LM, MG]
  omega
theorem Ad (c : Nat) (ls : List Nat) : ∀ x ∈ eF c ls, x < 256 := fun x hx => by
 obtain ⟨l, _, h⟩ := List.mem_flatMap.1 hx
 exact vS c l x h
theorem lS (c : Nat) (hc : 0 < c) : ∀ (ls : List Nat) (p : Nat), p < c * ls.length → (eF c ls)[p]? = some (ls.getD (p / c) 0 / 256 ^ (p % c) % 256)
 | [], p, h => by simp at h
 | l :: ls, p, h => by
  unfold eF
  rw [Nj]
  rcases LX p c with h1 | h1
  ·
   rw [L6 (by rw [fM]; exact h1), Nat.div_eq_of_lt h1, Nc h1]
   simp [iI, h1]
  ·
   rw [MH (by rw [fM]; exact h1), fM, show List.flatMap (iI c) ls = eF c ls from rfl, lS c hc ls (p - c) (by rw [LM, MG] at h; omega)]
   have e1 : p / c = (p - c) / c + 1 := by rw [← Nat.add_div_right _ hc]; congr 1; omega
   have e2 : p % c = (p - c) % c := by rw [← Nat.add_mod_right (p - c) c]; congr 1; omega
   rw [e1, e2, List.getD_cons_succ]
def bJ (n : Nat) : List UInt8 := ((iI 32 n).map UInt8.ofNat).reverse
theorem cu (n : Nat) : (bJ n).length = 32 := by simp [bJ, fM]
theorem yR (ds : List Nat) (h : ∀ d ∈ ds, d < 256) : nb (ds.map UInt8.ofNat) = ds := by
 unfold nb
 rw [Me]
 refine (MP fun d hd => ?_).trans (List.map_id ds)
 simp only [Function.comp, id]
 exact Nc (h d hd)
theorem fV (n : Nat) : val (bJ n) = n % 256 ^ 32 := by
 unfold bJ
 rw [rX, List.reverse_reverse, yR _ (vS 32 n), qm]
theorem oW (c : Nat) (ls : List Nat) (hl : c * ls.length = 32) (h : ∀ l ∈ ls, l < 256 ^ c) : ((eF c ls).map UInt8.ofNat).reverse = bJ (le (256 ^ c) ls) := by
 refine val_inj _ _ (by rw [cu, MO, KG, fA, hl]) ?_
 rw [fV, rX, List.reverse_reverse, yR _ (Ad c ls), tC c ls h, Nc]
 have := BQ ls h
 rwa [← Nat.pow_mul, hl] at this
def bZ (c k : Nat) (w : List UInt8) : List Nat := chunks c (nb w.reverse) k
theorem vg {c k : Nat} {w : List UInt8} (h : w.length = c * k) : le (256 ^ c) (bZ c k w) = val w := by
 unfold bZ
 rw [vk c k _ (by rw [nN, MO, h]), rX]
theorem uY (c k : Nat) (w : List UInt8) : ∀ x ∈ bZ c k w, x < 256 ^ c := qA c _ k (yS _)
theorem jT (c k : Nat) (w : List UInt8) : (bZ c k w).length = k := jV c _ k
def mW (n m : Nat) : Int := if n < m then -1 else if n > m then 1 else 0
theorem tH {B : Nat} (ls : List Nat) (p : Nat) (hp : p < ls.length) : le B ls = le B (ls.take p) + B ^ p * (ls[p] + B * le B (ls.drop (p + 1))) := by
 conv => lhs; rw [← Mc p ls, fK, LD, MC (Nb hp), LV hp, le]
theorem pO {B : Nat} (ls ms : List Nat) (hl : ls.length = ms.length) (h1 : ∀ x ∈ ls, x < B) (h2 : ∀ x ∈ ms, x < B) (p : Nat) (hp : p < ls.length) (he : ls.drop (p + 1) = ms.drop (p + 1)) (hlt : ls[p] < ms[p]'(by omega)) : le B ls < le B ms := by
 rw [tH ls p hp, tH ms p (by omega), he]
 have g1 := BQ (ls.take p) fun x hx => h1 x (List.mem_of_mem_take hx)
 rw [LD, MC (Nb hp)] at g1
 have : B ^ p * (ls[p] + B * le B (ms.drop (p + 1)) + 1) ≤ B ^ p * (ms[p]'(by omega) + B * le B (ms.drop (p + 1))) := Oy _ (by omega)
 rw [MG] at this
 omega
def msk (w : List UInt8) (i : Nat) : List Nat := List.replicate (32 - i) 0 ++ (nb w.reverse).drop (32 - i)
theorem EI {B : Nat} : ∀ (ds : List Nat) (k b : Nat), ds[k]? = some 0 → le B (ds.set k b) = le B ds + B ^ k * b
 | [], k, b, h => by simp at h
 | d :: ds, 0, b, h => by
  cases h
  simp [le]
  omega
 | d :: ds, k + 1, b, h => by
  rw [OC, le, EI ds k b (by simpa using h), le, MG, Nu, ← Ou, Nl B (B ^ k)]
  omega
theorem DI (c : Nat) (hc : 0 < c) (ds : List Nat) (k b m : Nat) (hk : ds[k]? = some 0) : le 256 (((ds.set k b).drop (c * m)).take c) = if m = k / c then le 256 ((ds.drop (c * m)).take c) + 256 ^ (k % c) * b else le 256 ((ds.drop (c * m)).take c) := by
 have hdm := Nat.div_add_mod k c
 have hml := Nat.mod_lt k hc
 by_cases hm : m = k / c
 ·
  subst hm
  rw [if_pos rfl]
  have : ((ds.set k b).drop (c * (k / c))).take c = ((ds.drop (c * (k / c))).take c).set (k % c) b := by
   rw [List.drop_set, if_neg (by omega), show k - c * (k / c) = k % c by omega, List.take_set]
  rw [this]
  refine EI _ _ _ ?_
  rw [MR, if_pos hml, NH, hdm]
  exact hk
 ·
  rw [if_neg hm]
  congr 1
  rcases Nat.lt_or_gt_of_ne hm with h | h
  ·
   have h1 : c * (m + 1) ≤ c * (k / c) := Oy c h
   rw [MG, Nat.mul_one] at h1
   rw [List.drop_set, if_neg (by omega), List.take_set, List.set_eq_of_length_le (by rw [LD]; omega)]
  ·
   have h1 : c * (k / c + 1) ≤ c * m := Oy c h
   rw [MG, Nat.mul_one] at h1
   rw [List.drop_set, if_pos (by omega)]
theorem Ba (c n : Nat) (hc : 0 < c) (ds : List Nat) (k b : Nat) (hk : ds[k]? = some 0) (hkn : k / c < n) : chunks c (ds.set k b) n = (chunks c ds n).set (k / c) ((chunks c ds n).getD (k / c) 0 + 256 ^ (k % c) * b) := by
 refine List.ext_getElem? fun m => ?_
 rw [List.getElem?_set]
 simp only [jV]
 by_cases hm : m < n
 ·
  have h1 : ∀ es, (chunks c es n)[m]? = some (le 256 ((es.drop (c * m)).take c)) := fun es => by simp [chunks, hm]
  have h2 : (chunks c ds n).getD (k / c) 0 = le 256 ((ds.drop (c * (k / c))).take c) := by simp [chunks, hkn]
  rw [h1, h1, h2, DI c hc ds k b m hk]
  by_cases e : m = k / c
  ·
   subst e
   simp [hkn]
  · rw [if_neg e, if_neg fun e' => e e'.symm]
 ·
  have h1 : ∀ es, (chunks c es n)[m]? = none := fun es => by simp [chunks]; omega
  rw [h1, h1]
  split
  · simp_all
  · rfl
theorem BF (w : List UInt8) (hw : w.length = 32) (i : Nat) (hi : i < 32) : (nb w.reverse)[31 - i]? = some (w[i]'(by omega)).toNat := by
 unfold nb
 rw [List.getElem?_map, List.getElem?_reverse (by omega), show w.length - 1 - (31 - i) = i by omega, KA (by omega)]
 rfl
theorem ED (w : List UInt8) (i : Nat) (hi : i < 32) : (msk w i)[31 - i]? = some 0 := by
 unfold msk
 rw [L6 (by rw [MF]; omega), List.getElem?_replicate, if_pos (by omega)]
theorem EF (w : List UInt8) (hw : w.length = 32) (i : Nat) (hi : i < 32) : msk w (i + 1) = (msk w i).set (31 - i) (w[i]'(by omega)).toNat := by
 have hg := BF w hw i hi
 obtain ⟨hlt, hg'⟩ := KP.1 hg
 unfold msk
 rw [show 32 - (i + 1) = 31 - i by omega, show 32 - i = (31 - i) + 1 by omega, List.replicate_succ', KR]
 rw [MX _ _ (by rw [MF]; exact KW _), MF, Oi, List.singleton_append, NW]
 congr 1
 rw [LV hlt, hg']
theorem GR (w : List UInt8) (i k : Nat) (hk : k < 32 - i) : (msk w i)[k]? = some 0 := by
 unfold msk
 rw [L6 (by rw [MF]; exact hk), List.getElem?_replicate, if_pos hk]
theorem JM (w : List UInt8) (hw : w.length = 32) : msk w 0 = List.replicate 32 0 := by
 unfold msk
 rw [LZ (by rw [nN, MO, hw]; exact KW _), KU]
theorem Ja (w : List UInt8) : msk w 32 = nb w.reverse := by simp [msk]
theorem EJ {B : Nat} (hB : 0 < B) : ∀ (ds : List Nat) (j : Nat), (∀ k < j, ds[k]? = some 0) → ∃ q, le B ds = B ^ j * q
 | ds, 0, _ => ⟨le B ds, by simp⟩
 | [], j + 1, h => by have := h 0 (by omega); simp at this
 | d :: ds, j + 1, h => by
  have h0 : d = 0 := by have := h 0 (by omega); simpa using this
  obtain ⟨q, hq⟩ := EJ hB ds j fun k hk => by have := h (k + 1) (by omega); simpa using this
  exact ⟨q, by rw [le, h0, hq, LQ, Nu, ← Ou, Nl B]⟩
theorem EG (w : List UInt8) (i : Nat) (hi : i < 32) : ∃ q, (chunks 8 (msk w i) 4).getD ((31 - i) / 8) 0 = 256 ^ ((31 - i) % 8 + 1) * q := by
 have h2 : (chunks 8 (msk w i) 4).getD ((31 - i) / 8) 0 = le 256 (((msk w i).drop (8 * ((31 - i) / 8))).take 8) := by
  have : (31 - i) / 8 < 4 := by omega
  simp [chunks, this]
 rw [h2]
 refine EJ (by decide) _ _ fun k hk => ?_
 rw [MR, if_pos (by omega), NH]
 exact GR w i _ (by omega)
theorem Ew (m x y : Nat) (q : Nat) (hx : x = 2 ^ m * q) (hy : y < 2 ^ m) : x ||| y = x + y := by
 subst hx
 exact (Nat.two_pow_add_eq_or_of_lt hy q).symm
end Wd
end Go.Proofs.YtkhjanjlcdhdcaaGreat
namespace Go.Proofs.YtkhjanjlcdhdcaaGreat
set_option linter.unusedVariables false
open Go.RowKit Mono Rlp
namespace E
section
variable {N : Nat} {X : Cx N} {S S' : St} {a : Act} {w w' : World} {ops : Array Oper} {o : Oper} {Q : Exit → Act → World → Prop} {K : Act → World → Prop} {l : List Oper} {c : Code} {TT : St → List Fr → Prop} {EE : List Fr} {rs : List (Tmp × R)} {os os' rest : List Obj} {fs : List (Value × D)} {base ok : Nat → Prop}
theorem EC.yY (n : Nat) (h : EK X (Code.rounds Tryz.prog c Q n) S) : EC X Q (.loop c) S := ⟨fun a w ha => wp_loop_rounds n (h.go a w ha)⟩
theorem EK.round {n : Nat} (h : EC X (Exit.then (Code.rounds Tryz.prog c Q n) Q) c S) : EK X (Code.rounds Tryz.prog c Q (n + 1)) S := ⟨fun a w ha => h.go a w ha⟩
theorem Bv : ∀ (xs : List Value) (k : Nat) (hk : k < xs.length), D.yg (xs.map .v) k 1 false = some (.v xs[k])
 | [], k, hk => by simp at hk
 | x :: xs, 0, _ => by
  rw [Lc, D.yg, if_pos (by simp [D.size])]
  simp [D.sub]
 | x :: xs, k + 1, hk => by
  rw [Lc, D.yg, if_neg (by simp [D.size])]
  have : k + 1 - (D.v x).size = k := by simp [D.size]
  rw [this, Bv xs k (by simpa using hk)]
  rfl
theorem wC {xs : List Value} {k : Nat} {x : Value} (h : xs[k]? = some x) : (D.tup (xs.map .v)).sub k 1 false = some (.v x) := by
 obtain ⟨hk, rfl⟩ := KP.1 h
 rw [D.sub, if_neg (by simp), Bv xs k hk]
theorem Bo : ∀ (xs : List Value) (k : Nat) (y : Value) (hk : k < xs.length), D.uF (xs.map .v) k (.v y) = some ((xs.set k y).map .v)
 | [], k, y, hk => by simp at hk
 | x :: xs, 0, y, _ => by
  rw [Lc, D.uF, if_pos (by simp [D.size])]
  simp [D.upd, D.size, D.agg]
 | x :: xs, k + 1, y, hk => by
  rw [Lc, D.uF, if_neg (by simp [D.size])]
  have : k + 1 - (D.v x).size = k := by simp [D.size]
  rw [this, Bo xs k y (by simpa using hk)]
  rfl
theorem IB {xs : List Value} {k : Nat} (y : Value) (hk : k < xs.length) : (D.tup (xs.map .v)).upd k (.v y) = some (.tup ((xs.set k y).map .v)) := by
 rw [D.upd, if_neg (by simp [D.agg]), Bo xs k y hk]
 rfl
theorem AU {x y : Operand} {T n e z : Nat} {k : Int} {m : List UInt8} {b : UInt8} (ho : o.op = .index T x y) (hx : ev S x = some (.val (.arr n m))) (hy : ev S y = some (.val (.v (.int .i64 k)))) (hT : assoc arL T = some (n, e, z)) (he : Tryz.prog.underlying e = some (.int .u8) ∧ z = 1) (hk : 0 ≤ k ∧ m[k.toNat]? = some b) : Still ops S o (.val (.v (bv b))) := fun base ok a w ha => by
 obtain ⟨h1, h2⟩ := lu (ha.ev hx (aT (by rw [ho]; simp [Op.operands])))
 have hy' := eU ha hy (aT (by rw [ho]; simp [Op.operands]))
 obtain ⟨hk', rfl⟩ := KP.1 hk.2
 obtain ⟨he, rfl⟩ := he
 refine ⟨_, ?_, fO rfl⟩
 have hlt : k < (n : Int) := by omega
 have hA := H6 hT
 have hr : (Instr.index T (bT m) (.int .i64 k)).run Tryz.prog w = .ok (bv m[k.toNat]) w := by
  unfold Instr.index bT
  have h0 := hk.1
  have hc : ((bvs m).toArray)[k.toNat]? = some (bv m[k.toNat]) := by simp [bvs, hk']
  simp [run_underlying hA.und, asIntOf, h0, hlt, jD hA.size, part, isAgg, run_underlying he, bvs, hk']
 unfold execOp
 simp only [ho, h2, hy', KL, hr, KC, KO]
theorem Bj {t ty : Nat} {pos : String} {af : Array Edge} {gd : Option (Nat × Bool)} {x y : Operand} {T n e z : Nat} {k : Int} {m : List UInt8} {b : UInt8} (he : Tryz.prog.underlying e = some (.int .u8) ∧ z = 1) (hk : 0 ≤ k ∧ m[k.toNat]? = some b) (hx : ev (⟨rs, os, fs⟩ : St) x = some (.val (.arr n m))) (hy : ev (⟨rs, os, fs⟩ : St) y = some (.val (.v (.int .i64 k)))) (hT : assoc arL T = some (n, e, z)) (hg : guardOf ops ⟨rs, os, fs⟩ ⟨some t, .index T x y, ty, pos, af, gd⟩ = some true) (hN : Nat.blt t N = true) (kk : EL X ops Q l ⟨(t, .val (.v (bv b))) :: rs, os, fs⟩) : EL X ops Q (⟨some t, .index T x y, ty, pos, af, gd⟩ :: l) ⟨rs, os, fs⟩ := ES.still (AU rfl hx hy hT he hk) hg rfl hN kk
theorem Ir {f : FuncId} {args : Array Operand} {tys : Array TypeId} {xs vs : List Value} (hrun : ∀ w, (callFunc f xs.toArray).run Tryz.prog w = .ok (.value (.tuple vs.toArray)) w) (hvs : ∀ x ∈ vs, x.oneCell' = true) (ho : o.op = .call { callee := .value (.func f), args := args, argTypes := tys }) (hx : xE S args.toList = some xs) : Still ops S o (.tpl (vs.map .v)) := fun base ok a w ha => by
 have h1 := qy args.toList xs hx (fun t ht => aK (x := .tmp t) rfl (by rw [ho]; simp only [Op.operands, Call.operands]; simp; simpa using ht)) ha
 have h2 : args.map a.eval = xs.toArray := by
  apply NP
  simpa using h1
 refine ⟨.tuple vs.toArray, ?_, vs, rfl, xO hvs⟩
 unfold execOp
 simp [ho, resolve, Act.eval, Deferred.ofValue, invoke, h2, hrun]
theorem ES.ext {t : Tmp} {f : FuncId} {args : Array Operand} {tys : Array TypeId} {xs vs : List Value} (hrun : ∀ w, (callFunc f xs.toArray).run Tryz.prog w = .ok (.value (.tuple vs.toArray)) w) (hvs : ∀ x ∈ vs, x.oneCell' = true) (ho : o.op = .call { callee := .value (.func f), args := args, argTypes := tys }) (hx : xE (⟨rs, os, fs⟩ : St) args.toList = some xs) (hg : guardOf ops ⟨rs, os, fs⟩ o = some true) (hd : o.dst = some t) (hN : Nat.blt t N = true) (k : EL X ops Q l ⟨(t, .tpl (vs.map .v)) :: rs, os, fs⟩) : EL X ops Q (o :: l) ⟨rs, os, fs⟩ := ES.still (Ir hrun hvs ho hx) hg hd hN k
theorem EH.ext {t : Tmp} {f : FuncId} {args : Array Operand} {tys : Array TypeId} {xs vs : List Value} (hrun : ∀ w, (callFunc f xs.toArray).run Tryz.prog w = .ok (.value (.tuple vs.toArray)) w) (hvs : ∀ x ∈ vs, x.oneCell' = true) (ho : o.op = .call { callee := .value (.func f), args := args, argTypes := tys }) (hx : xE (⟨rs, os, fs⟩ : St) args.toList = some xs) (hg : guardOf ops ⟨rs, os, fs⟩ o = some true) (ht : o.dst = some t) (hd : dn N (some t) EE = true) (k : EM N ops TT l ⟨(t, .tpl (vs.map .v)) :: rs, os, fs⟩ EE) : EM N ops TT (o :: l) ⟨rs, os, fs⟩ EE := EH.still (Ir hrun hvs ho hx) hg ht hd k
theorem rC {t ty f : Nat} {pos : String} {af : Array Edge} {gd : Option (Nat × Bool)} {args : Array Operand} {tys : Array TypeId} {xs vs : List Value} (hrun : ∀ w, (callFunc f xs.toArray).run Tryz.prog w = .ok (.value (.tuple vs.toArray)) w) (hvs : ∀ x ∈ vs, x.oneCell' = true) (hx : xE (⟨rs, os, fs⟩ : St) args.toList = some xs) (hg : guardOf ops ⟨rs, os, fs⟩ ⟨some t, .call { callee := .value (.func f), args := args, argTypes := tys }, ty, pos, af, gd⟩ = some true) (hoff : dn N (some t) EE = true) (kk : EM N ops TT l ⟨(t, .tpl (vs.map .v)) :: rs, os, fs⟩ EE) : EM N ops TT (⟨some t, .call { callee := .value (.func f), args := args, argTypes := tys }, ty, pos, af, gd⟩ :: l) ⟨rs, os, fs⟩ EE := EH.ext hrun hvs rfl hx hg rfl hoff kk
theorem bG {t ty : Nat} {pos : String} {af : Array Edge} {gd : Option (Nat × Bool)} {x y : Operand} {T n e z g off : Nat} {k : Int} (hx : ev (⟨rs, os, fs⟩ : St) x = some (.val (.v (.pointer (some ⟨g, off, none⟩))))) (hy : ev (⟨rs, os, fs⟩ : St) y = some (.val (.v (.int .i64 k)))) (hT : assoc arL T = some (n, e, z)) (hk : 0 ≤ k ∧ k.toNat < n) (hg : guardOf ops ⟨rs, os, fs⟩ ⟨some t, .indexAddr T x y, ty, pos, af, gd⟩ = some true) (hoff : dn N (some t) EE = true) (kk : EM N ops TT l ⟨(t, .val (.v (.pointer (some ⟨g, off + k.toNat * z, none⟩)))) :: rs, os, fs⟩ EE) : EM N ops TT (⟨some t, .indexAddr T x y, ty, pos, af, gd⟩ :: l) ⟨rs, os, fs⟩ EE := EH.still (qV rfl hx hy (H6 hT) hk.1 hk.2) hg rfl hoff kk
theorem Jm {T U : TypeId} {x : Operand} {p q : Value} (ho : o.op = .convert T U x) (hx : ev S x = some (.val (.v p))) (hrun : ∀ w, (Go.convert T U p).run Tryz.prog w = .ok q w) (hq : q.oneCell' = true) : Still ops S o (.val (.v q)) := fun base ok a w ha => by
 have h1 := eU ha hx (aT (by rw [ho]; simp [Op.operands]))
 refine ⟨q, ?_, fO hq⟩
 unfold execOp
 simp only [ho, h1, KL, hrun, KC, KO]
theorem Gg {t ty T U : Nat} {pos : String} {af : Array Edge} {gd : Option (Nat × Bool)} {x : Operand} {p q : Value} (hx : ev (⟨rs, os, fs⟩ : St) x = some (.val (.v p))) (hrun : ∀ w, (Go.convert T U p).run Tryz.prog w = .ok q w) (hq : q.oneCell' = true) (hg : guardOf ops ⟨rs, os, fs⟩ ⟨some t, .convert T U x, ty, pos, af, gd⟩ = some true) (hoff : dn N (some t) EE = true) (kk : EM N ops TT l ⟨(t, .val (.v q)) :: rs, os, fs⟩ EE) : EM N ops TT (⟨some t, .convert T U x, ty, pos, af, gd⟩ :: l) ⟨rs, os, fs⟩ EE := EH.still (Jm rfl hx hrun hq) hg rfl hoff kk
theorem mV {T U : Nat} {k k' : IntKind} {de : TypeDesc} (hu : Tryz.prog.underlying T = some de) (hu' : Tryz.prog.underlying U = some (.int k')) (m n : Int) (h : k'.wrap m = n) : ∀ w, (Go.convert T U (.int k m)).run Tryz.prog w = .ok (.int k' n) w := fun w => by
 subst h
 simp [convert, run_underlying hu, run_underlying hu', Conv.intToInt]
theorem jk {op : BinOp} {T : TypeId} {k k' : IntKind} {m n : Int} {c : Value} (hc : c.oneCell' = true) (h : ∀ w, (binOp op T (.int k m) (.int k' n)).run Tryz.prog w = .ok c w) : Bin op T (.v (.int k m)) (.v (.int k' n)) c := by
 refine ⟨hc, fun ok w p q hp hq => ?_⟩
 obtain ⟨_, rfl⟩ := aP.1 hp
 obtain ⟨_, rfl⟩ := aP.1 hq
 exact ⟨fun x y => by cases op <;> simp [eqGuard], h w⟩
theorem yL (z : Value) (hz : z.oneCell' = true) : ∀ n : Nat, ay ok w 1 (List.replicate n (.v z)) (List.replicate n [z])
 | 0 => by rw [Nz, Nz, ay]
 | n + 1 => by
  rw [Ny, Ny, ay]
  exact ⟨_, _, rfl, rfl, by rw [Reads]; exact ⟨hz, rfl⟩, yL z hz n⟩
theorem Je {T e y' n : Nat} {x : Operand} {z : Value} (hn : n * y' ≤ 281474976710656 ∧ n ≤ 9223372036854775807) (ho : o.op = .makeSlice T x x) (hx : ev S x = some (.val (.v (.int .i64 (n : Int))))) (hT : assoc slL T = some (e, 1, y')) (hz : assoc fU e = some (.v z)) : qH ops S o [] (fun r os' => ∃ v, r = .val (.v v) ∧ os' = [.row v e 1 (List.replicate n (.v z))]) := .mk fun base ok a w ha hown => by
 have h1 := eU ha hx (aT (by rw [ho]; simp [Op.operands]))
 have hS := Gp hT rfl
 obtain ⟨i, zv, hi, hzv, hsz, hby, hcs⟩ := hS.info
 obtain ⟨zv', hz1, hz2⟩ := rU hz
 obtain rfl : zv' = zv := by
  rw [hi] at hz1
  have : i.zero = some zv' := by simpa using hz1
  exact Md (this.symm.trans hzv)
 have hzr := hz2 (fun _ => True) w
 rw [Reads] at hzr
 have hcell : zv'.cells = #[z] := by
  apply NP
  simpa using hzr.2
 have hb' : (i.bytes : Int) * (n : Int) ≤ 281474976710656 := by
  have h0 := hn.1
  have : ((n * y' : Nat) : Int) ≤ 281474976710656 := by omega
  rw [Int.natCast_mul, Int.mul_comm] at this
  rw [hby]
  exact this
 have hrun := run_make (P := Tryz.prog) w T e i zv' hS.und hi hzv .i64 .i64 (n : Int) (n : Int) (by omega) (Int.le_refl _) hb' (by omega)
 rw [LP, hsz, Nat.mul_one, hcell] at hrun
 have hmc : madeCells #[z] n = (List.replicate n z).toArray := by
  apply NP
  simp [madeCells, Nat.mod_one]
  apply List.ext_getElem
  · simp
  ·
   intro k h1 h2
   simp
 rw [hmc] at hrun
 have hr : (execOp a.eval o).run Tryz.prog w = .ok (.value (.slice (some ⟨w.heap.size, 0, none⟩) n n)) (w.alloc (.cells (List.replicate n z).toArray e)) := by
  unfold execOp
  simp only [ho, h1, KL, hrun, KC, KO]
 rw [hr]
 have hflat : (List.replicate n [z]).flatten = List.replicate n z := by
  induction n with
  | zero => rfl
  | succ n ih => rw [Ny, LW, Ny]; simp
 obtain ⟨g1, g2⟩ := BO (ok := ok) (w := w) (q := .row (.slice (some ⟨w.heap.size, 0, none⟩) n n) e 1 (List.replicate n (.v z))) (r := .val (.v (.slice (some ⟨w.heap.size, 0, none⟩) n n))) (ob := .cells (List.replicate n z).toArray e) (v := .slice (some ⟨w.heap.size, 0, none⟩) n n) rfl (fun ok' hk => ⟨List.replicate n [z], ⟨by
  have := BH w (List.replicate n z).toArray e 1 n w.heap.size 0 rfl (Lj _) (by simp [maxLen]; omega) (by simp)
  rw [MF, hflat]
  exact this, fun b hb => by cases hb; exact .inr (KW _)⟩, yL z hzr.1 n⟩) (fun _ => fO rfl) ha.lt
 exact ⟨_, _, ⟨_, rfl, rfl⟩, g1, g2⟩
theorem F6 {t T e y' n ty : Nat} {pos : String} {af : Array Edge} {gd : Option (Nat × Bool)} {x : Operand} {z : Value} (hn : n * y' ≤ 281474976710656 ∧ n ≤ 9223372036854775807) (hx : ev (⟨rs, os, fs⟩ : St) x = some (.val (.v (.int .i64 (n : Int))))) (hT : assoc slL T = some (e, 1, y')) (hz : assoc fU e = some (.v z)) (hg : guardOf ops ⟨rs, os, fs⟩ ⟨some t, .makeSlice T x x, ty, pos, af, gd⟩ = some true) (hN : Nat.blt t N = true) (kk : ∀ v, EL X ops Q l ⟨(t, .val (.v v)) :: rs, .row v e 1 (List.replicate n (.v z)) :: os, fs⟩) : EL X ops Q (⟨some t, .makeSlice T x x, ty, pos, af, gd⟩ :: l) ⟨rs, os, fs⟩ :=
 EL.mut (os := []) (rest := os) hg (ji rfl hN) (Je hn rfl hx hT hz) fun r os' ⟨v, h1, h2⟩ => by
  subst h1 h2
  exact kk v
end
abbrev ptr (g : Nat) : Value := .pointer (some ⟨g, 0, none⟩)
theorem nV {T : Nat} (h : I7.contains T = true) (p : Option Addr) : Bin .eql T (.v (.pointer p)) (.v (.pointer none)) (.bool p.isNone) ∧ Bin .neq T (.v (.pointer p)) (.v (.pointer none)) (.bool !p.isNone) := by
 obtain ⟨e, he⟩ := J8 h
 have he : Tryz.prog.underlying T = some (.pointer (Tryz.prog.pointee T)) := by
  unfold Program.pointee
  rw [he]
 refine ⟨⟨rfl, fun ok w p q hp hq => ?_⟩, ⟨rfl, fun ok w p q hp hq => ?_⟩⟩ <;> (obtain rfl := (aP.1 hp).2; obtain rfl := (aP.1 hq).2; refine ⟨fun x y => by simp [eqGuard], ?_⟩)
 · exact run_eql_pointer_nil w T _ he
 · exact run_neq_pointer_nil w T _ he
section
variable {N : Nat} {X : Cx N} {rs : List (Tmp × R)} {os : List Obj} {fs : List (Value × D)}
theorem Le.rot (k : Nat) : Le X ⟨rs, os, fs⟩ ⟨rs, os.drop k ++ os.take k, fs⟩ := Le.perm (by
 have := KY (l₁ := os.take k) (l₂ := os.drop k)
 rwa [Mc] at this)
variable {S : St} {fn : Func} {Φ : R → List Obj → Prop}
theorem rH {os' : List Obj} (h : os'.Sublist os) {w : World} {b : Nat} (hb : X.ok os w b) : X.ok os' w b := ⟨hb.1, hb.2.1, fun o ho => hb.2.2 o (h.subset ho)⟩
theorem EK.IY (os' : List Obj) (hres : fn.results = #[]) (ho : os'.Sublist S.objs) (hΦ : Φ (.tpl []) os') : EK X (bodyPost Tryz.prog fn (uN X Φ) .ret) S := by
 constructor
 intro a w ha
 exact bodyPost_ret (results_none hres a.tmps Tryz.prog w) ha.defers ⟨_, _, os', rfl, hΦ, ha.mem.less ho (fun f hf => by cases hf), [], rfl, rfl⟩
theorem EK.eH (os' : List Obj) (hres : fn.results = #[]) (ho : os'.Sublist S.objs) (hΦ : Φ (.tpl []) os') : EK X (bodyPost Tryz.prog fn (uN X Φ) .normal) S := by
 constructor
 intro a w ha
 have : bodyPost Tryz.prog fn (uN X Φ) .ret a w := bodyPost_ret (results_none hres a.tmps Tryz.prog w) ha.defers ⟨_, _, os', rfl, hΦ, ha.mem.less ho (fun f hf => by cases hf), [], rfl, rfl⟩
 exact this
theorem EK.bn {t : Tmp} {r : R} (os' : List Obj) (hres : fn.results = #[.tmp t]) (hl : look S.regs t = some r) (ho : os'.Sublist S.objs) (hΦ : Φ r os') : EK X (bodyPost Tryz.prog fn (uN X Φ) .ret) S := by
 constructor
 intro a w ha
 exact bodyPost_ret (results_tmp hres a.tmps Tryz.prog w) ha.defers ⟨_, r, os', rfl, hΦ, ha.mem.less ho (fun f hf => by cases hf), (ha.regs t r hl).mono (fun b hb => rH ho hb) fun _ _ => rfl⟩
theorem EK.nI {p : Tmp} {g ty : Nat} {t : TypeId} {d d' : D} (i : Nat) (os' : List Obj) (hres : fn.results = #[.cell p ty]) (hl : look S.regs p = some (.val (.v (.pointer (some ⟨g, 0, none⟩))))) (hi : S.objs[i]? = some (.var g t d)) (hT : assoc tyL ty = some (d.size, d.agg)) (hR : au S.facts [d] [d']) (ho : os'.Sublist S.objs) (hΦ : Φ (.val d') os') : EK X (bodyPost Tryz.prog fn (uN X Φ) .ret) S := by
 constructor
 intro a w ha
 obtain ⟨x, h1, h2⟩ := sJ ha.mem hi (tyI hT)
 have hp := (aP.1 (ha.regs p _ hl)).2
 have hp' : a.tmps[p]?.getD undef = .pointer (some ⟨g, 0, none⟩) := by simpa using hp
 have h3 : bF (X.ok S.objs w) w (.val d') x := Refine1.lD ha.mem.fact hR h2
 refine bodyPost_ret (v := x) ?_ ha.defers ⟨_, _, os', rfl, hΦ, ha.mem.less ho (fun f hf => by cases hf), h3.mono (fun b hb => rH ho hb) fun _ _ => rfl⟩
 simp [results, hres, hp', asAddr, h1]
end
section
variable {N : Nat} {X : Cx N} {ops : Array Oper} {Q : Exit → Act → World → Prop}
theorem bD {l' : List Oper} {t ty f : Nat} {pos : String} {af : Array Edge} {gd : Option (Nat × Bool)} {args : Array Operand} {tys : Array TypeId} {ds ds' : List D} {Φ : R → List Obj → Prop} {rs : List (Tmp × R)} {os os0 : List Obj} {fs : List (Value × D)} (hF : FnM f ds' os Φ) (l1 l2 : List Obj) (hos : os0 = l1 ++ (os ++ l2))
  (hx : evs (⟨rs, l1 ++ l2, fs⟩ : St) args.toList = some ds) (hR : au fs ds ds') (hf : Enters f) (hg : guardOf ops ⟨rs, os ++ (l1 ++ l2), fs⟩ ⟨some t, .call { callee := .value (.func f), args := args, argTypes := tys }, ty, pos, af, gd⟩ = some true) (hN : Nat.blt t N = true) (k : ∀ r os', Φ r os' → EL X ops Q l' ⟨(t, r) :: rs, l1 ++ (os' ++ l2), fs⟩) : EL X ops Q (⟨some t, .call { callee := .value (.func f), args := args, argTypes := tys }, ty, pos, af, gd⟩ :: l') ⟨rs, os0, fs⟩ := by
 subst hos
 have hp : ∀ os : List Obj, (l1 ++ (os ++ l2)).Perm (os ++ (l1 ++ l2)) := fun os => by
  rw [← KR, ← KR]
  exact NZ _ KY
 exact EL.le (Le.perm (hp os)) (dM hF rfl hx hR hf hg hN fun r os' h => EL.le (Le.perm (hp os').symm) (k r os' h))
theorem EK.IX {fn : Func} {Φ : R → List Obj → Prop} {S : St} {t : Tmp} {d d' : D} (os' : List Obj) (hres : fn.results = #[.tmp t]) (hl : look S.regs t = some (.val d)) (hR : au S.facts [d] [d']) (ho : os'.Sublist S.objs) (hΦ : Φ (.val d') os') : EK X (bodyPost Tryz.prog fn (uN X Φ) .ret) S := by
 refine EK.le (S' := ⟨S.regs, os', S.facts⟩) ?_ (EK.IW hres hl hR hΦ)
 exact fun a w h => ⟨h.mem.less ho (fun f hf => hf), fun t r ht => bF.mono (fun b hb => rH ho hb) (fun _ _ => rfl) (h.regs t r ht), h.size, h.defers⟩
end
end E
end Go.Proofs.YtkhjanjlcdhdcaaGreat
