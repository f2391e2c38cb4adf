/-
 Merged: lemmas of this claim.
 Conditions: none.
-/
import Derived.Test.YtaoicebcdmpemaaGreatZA9
import Derived.Test.YtaoicebcdmpemaaGreatZA5
import Derived.LoopN
import Derived.Laws.Externs
import Derived.Laws.MakeOwn
import Derived.Test.YtaoicebcdmpemaaGreatZA6
import Derived.Laws.Pointers
import Derived.Test.YtaoicebcdmpemaaGreatZA7
import Derived.Maps.RangeRun
import Derived.Recover
import Derived.Test.YtaoicebcdmpemaaGreatZA0
namespace Go.Proofs.YtaoicebcdmpemaaGreat
set_option linter.unusedVariables false
open Go.RowKit Mono Rlp
namespace E
section
variable {N : Nat} {X : Cx N} {S S' : St} {a : Act} {w w' : World} {ops : Array Oper} {o : Oper} {Q : Exit → Act → World → Prop} {l : List Oper} {TT : St → List Fr → Prop} {EE : List Fr} {rs : List (Tmp × R)} {os os' rest : List Obj} {fs : List (Value × D)} {base ok : Nat → Prop} {p q : Obj}
theorem EL.put (i : Nat) (hg : guardOf ops S o = some true) (hd : o.dst = none) (hP : Puts ops S o p q) (hi : S.objs[i]? = some p) (k : EL X ops Q l ⟨S.regs, S.objs.set i q, S.facts⟩) : EL X ops Q (o :: l) S := by
 constructor
 intro a w ha
 obtain ⟨hq, hP⟩ := hP
 have hmem := Hf hi
 obtain ⟨w', g, h1, h2, h3, h4⟩ := hP _ _ a w (ha.kn _) (fun g hb hk => hk.2.2 p hmem hb) (ha.mem.at_ p hmem)
 unfold wpList
 rw [if_pos (bJ ha hg)]
 refine .inl ?_
 unfold Oper.wp
 rw [h1]
 simp only [Oper.upon_skip, hd, Act.put]
 exact k.go _ _ (ha.turn hi (by rw [h2]; exact h3) (.inl hq) fun hok hcell => h4.move hok (fun _ _ => rfl) fun _ _ => rfl)
theorem uh {T K n E g c : Nat} {x y z : Operand} {es : List Ent} {l1 : List UInt8} {d : D} (ho : o.op = .mapUpdate T x y z) (hx : ev S x = some (.val (.v (.map (some g))))) (hy : ev S y = some (.val (.arr n l1))) (hz : ev S z = some (.val d)) (hT : assoc lK T = some (K, n, E)) : Puts ops S o (.map g n c es) (.map g n (kV c es l1) (uj c es l1 d)) := by
 refine ⟨rfl, fun base ok a w ha hno hat => ?_⟩
 have h1 := dI ha hx (aN (by rw [ho]; simp [Op.operands]))
 obtain ⟨h2, h3⟩ := kT (ha.ev hy (aN (by rw [ho]; simp [Op.operands])))
 obtain ⟨w', h4, h5, h6⟩ := ni (yU hT).1 (yU hT).2 hat l1 h2 (ha.ev hz (aN (by rw [ho]; simp [Op.operands]))) (hno g rfl)
 refine ⟨w', g, ?_, rfl, h5, h6⟩
 unfold execOp
 simp only [ho, h1, h3, GR, h4, GK, GY]
theorem Ai {T K n E g c ty : Nat} {pos : String} {af : Array Edge} {gd : Option (Nat × Bool)} {x y z : Operand} {es : List Ent} {l1 : List UInt8} {d : D} (hx : ev (⟨rs, os, fs⟩ : St) x = some (.val (.v (.map (some g))))) (hset : kK os (.map g n c es) (.map g n (kV c es l1) (uj c es l1 d)) os') (hy : ev (⟨rs, os, fs⟩ : St) y = some (.val (.arr n l1))) (hz : ev (⟨rs, os, fs⟩ : St) z = some (.val d)) (hT : assoc lK T = some (K, n, E)) (hg : guardOf ops ⟨rs, os, fs⟩ ⟨none, .mapUpdate T x y z, ty, pos, af, gd⟩ = some true) (kk : EL X ops Q l ⟨rs, os', fs⟩) : EL X ops Q (⟨none, .mapUpdate T x y z, ty, pos, af, gd⟩ :: l) ⟨rs, os, fs⟩ := by
 obtain ⟨i, hi, rfl⟩ := hset.ix
 exact EL.put i hg rfl (uh rfl hx hy hz hT) hi kk
theorem yX {q : Obj} {r : R} {ob : Go.Obj} {v : Value} (hb : q.blk = some w.heap.size) (hat : ∀ ok' : Nat → Prop, (∀ b, ok b → ok' b) → q.At (fun b => gy [] b ∨ w.heap.size ≤ b) ok' (w.alloc ob)) (hr : ∀ ok', aB ok' (w.alloc ob) r v) (hlt : ∀ b, ok b → b < w.heap.size) : Turned ok [] w [q] (w.alloc ob) ∧ aB (okM ok [] w [q] (w.alloc ob)) (w.alloc ob) r v := by
 have hg := aG w ob
 refine ⟨⟨.of hg, by simp, fun o ho => ?_⟩, hr _⟩
 obtain rfl : o = q := by simpa using ho
 refine hat _ fun b hk => ⟨.inl hk, GZ (hlt b hk) hg.size, fun o' ho' e => ?_⟩
 obtain rfl : o' = o := by simpa using ho'
 rw [hb] at e
 injection e with e
 have := hlt b hk
 omega
theorem xg {T K n E : Nat} (ho : o.op = .makeMap T none) (hT : assoc lK T = some (K, n, E)) : jW ops S o [] (fun r os' => ∃ g, r = .val (.v (.map (some g))) ∧ os' = [.map g n 0 []]) := .mk fun base ok a w ha hown => by
 have hr : (execOp a.eval o).run Tryz.prog w = .ok (.value (.map (some w.heap.size))) (w.alloc (.map #[] 0)) := by
  unfold execOp
  have := @run_makeMap Tryz.prog
  simp [ho, this]
 rw [hr]
 obtain ⟨h1, h2⟩ := yX (ok := ok) (w := w) (q := .map w.heap.size n 0 []) (r := .val (.v (.map (some w.heap.size)))) (ob := .map #[] 0) (v := .map (some w.heap.size)) rfl (fun ok' _ => ⟨.inr (Nat.le_refl _), nG.nil, #[], heap_alloc_new w _, .nil⟩) (fun _ => dM rfl) ha.lt
 exact ⟨_, _, ⟨_, rfl, rfl⟩, h1, h2⟩
theorem jV {t T K n E ty : Nat} {pos : String} {af : Array Edge} {gd : Option (Nat × Bool)} (hT : assoc lK T = some (K, n, E)) (hg : guardOf ops ⟨rs, os, fs⟩ ⟨some t, .makeMap T none, ty, pos, af, gd⟩ = some true) (hN : Nat.blt t N = true) (kk : ∀ g, EL X ops Q l ⟨(t, .val (.v (.map (some g)))) :: rs, .map g n 0 [] :: os, fs⟩) : EL X ops Q (⟨some t, .makeMap T none, ty, pos, af, gd⟩ :: l) ⟨rs, os, fs⟩ :=
 EL.mut (os := []) (rest := os) hg (dR rfl hN) (xg rfl hT) fun r os' ⟨g, h1, h2⟩ => by
  subst h1 h2
  exact kk g
theorem aC {t ty f : Nat} {pos : String} {af : Array Edge} {gd : Option (Nat × Bool)} {args : Array Operand} {tys : Array TypeId} {ds ds' : List D} {os0 : List Obj} {Φ : R → List Obj → Prop} (hF : FnM f ds' os Φ) (hos : os0 = os ++ rest := by rfl) (hx : evs (⟨rs, rest, fs⟩ : St) args.toList = some ds := by rfl) (hR : aj fs ds ds' := by exact RL.a) (hf : Enters f := by exact enA) (hg : guardOf ops ⟨rs, os ++ rest, fs⟩ ⟨some t, .call { callee := .value (.func f), args := args, argTypes := tys }, ty, pos, af, gd⟩ = some true := by rfl) (hN : Nat.blt t N = true := by rfl) (kk : ∀ r os', Φ r os' → EL X ops Q l ⟨(t, r) :: rs, os' ++ rest, fs⟩) : EL X ops Q (⟨some t, .call { callee := .value (.func f), args := args, argTypes := tys }, ty, pos, af, gd⟩ :: l) ⟨rs, os0, fs⟩ := by
 subst hos
 refine EL.mut (Φ := Φ) hg (dR rfl hN) ?_ kk
 exact yZ (S := ⟨rs, rest, fs⟩) hF rfl hx hR hf
theorem CH.F9 {os1 : List Obj} {T : St → Prop} {d : Option Tmp} {ty f : Nat} {pos : String} {af : Array Edge} {gd : Option (Nat × Bool)} {args : Array Operand} {tys : Array TypeId} {ds ds' : List D} {os0 : List Obj} {Φ : R → List Obj → Prop} (hF : FnM f ds' os Φ) (hos : os0 = os ++ (rest ++ os1) := by rfl) (hx : evs (⟨rs, rest ++ os1, fs⟩ : St) args.toList = some ds := by rfl) (hR : aj fs ds ds' := by exact RL.a) (hf : Enters f := by exact enA) (hg : guardOf ops ⟨rs, os ++ (rest ++ os1), fs⟩ ⟨d, .call { callee := .value (.func f), args := args, argTypes := tys }, ty, pos, af, gd⟩ = some true := by rfl) (hd : BZ N d = true := by rfl)
  (k : ∀ r os', Φ r os' → CH N ops os1 T l (St.put ⟨rs, os' ++ (rest ++ os1), fs⟩ d r)) : CH N ops os1 T (⟨d, .call { callee := .value (.func f), args := args, argTypes := tys }, ty, pos, af, gd⟩ :: l) ⟨rs, os0, fs⟩ := by
 subst hos
 refine CH.mut (Φ := Φ) hd hg ?_ k
 exact yZ (S := ⟨rs, rest ++ os1, fs⟩) hF rfl hx hR hf
theorem wI {t f : Nat} {args : Array Operand} {tys : Array TypeId} {caps : List Value} (ho : o.op = .call { callee := .value (.tmp t), args := args, argTypes := tys }) (ht : a.eval (.tmp t) = .func (.func f) #[] caps.toArray) (hf : Enters f) : (execOp a.eval o).run Tryz.prog w = .ok (.enter f (args.map a.eval ++ caps.toArray)) w := by
 unfold execOp
 simp [ho, resolve, ht, Deferred.ofValue, invoke, hf (args.map a.eval ++ caps.toArray) w]
theorem o8 {t : Tmp} {args : Array Operand} {tys : Array TypeId} (ho : o.op = .call { callee := .value (.tmp t), args := args, argTypes := tys }) : ∀ u, Operand.tmp t = .tmp u → u ∈ o.looksAt ops := aN (by rw [ho]; simp [Op.operands, Call.operands])
theorem je : ∀ (ds es : List D) (xs ys : List Value), aZ ok w ds xs → aZ ok w es ys → aZ ok w (ds ++ es) (xs ++ ys)
 | [], es, xs, ys, h, h' => by cases h; exact h'
 | d :: ds, es, xs, ys, h, h' => by
  obtain ⟨x, rest, rfl, h1, h2⟩ := h
  exact ⟨x, _, rfl, h1, je ds es rest ys h2 h'⟩
theorem Bv {t f : Nat} {args : Array Operand} {tys : Array TypeId} {caps : List Value} {ds ds' cds : List D} {Φ : R → List Obj → Prop} (hF : FnM f (ds' ++ cds) os Φ) (hc : ∀ base ok L (a : Act) w, Kn base ok L S a w → aZ ok w cds caps) (ho : o.op = .call { callee := .value (.tmp t), args := args, argTypes := tys }) (ht : look S.regs t = some (.val (.v (.func (.func f) #[] caps.toArray)))) (hx : evs S args.toList = some ds) (hR : aj S.facts ds ds') (hf : Enters f) : jW ops S o os Φ := .mk fun base ok a w ha hown => by
 have h1 : a.eval (.tmp t) = .func (.func f) #[] caps.toArray := dI ha (x := .tmp t) ht (o8 ho)
 have hr := aj.lD ha.facts _ _ _ hR (ha.evs _ _ hx fun u hu => ak (x := .tmp u) rfl (by rw [ho]; simp only [Op.operands, Call.operands]; simp; right; simpa using hu))
 rw [wI ho h1 hf]
 have := hF.go ok w _ ha.lt hown (je _ _ _ _ hr (hc _ _ _ a w ha))
 have he : (args.toList.map a.eval ++ caps).toArray = args.map a.eval ++ caps.toArray := by
  apply IV
  simp
 rw [he] at this
 simp only [bZ]
 refine this.mono ?_
 rintro e w' ⟨v, r, os', rfl, h1, h2, h3⟩
 exact ⟨v, rfl, r, os', h1, h2, h3⟩
theorem Aq {t u ty f : Nat} {pos : String} {af : Array Edge} {gd : Option (Nat × Bool)} {args : Array Operand} {tys : Array TypeId} {caps : List Value} {ds ds' cds : List D} {os0 : List Obj} {Φ : R → List Obj → Prop} (hF : FnM f (ds' ++ cds) os Φ) (hc : ∀ base ok L (a : Act) w, Kn base ok L ⟨rs, rest, fs⟩ a w → aZ ok w cds caps) (hos : os0 = os ++ rest) (ht : look rs u = some (.val (.v (.func (.func f) #[] caps.toArray)))) (hx : evs (⟨rs, rest, fs⟩ : St) args.toList = some ds) (hR : aj fs ds ds') (hf : Enters f) (hg : guardOf ops ⟨rs, os ++ rest, fs⟩ ⟨some t, .call { callee := .value (.tmp u), args := args, argTypes := tys }, ty, pos, af, gd⟩ = some true) (hN : Nat.blt t N = true) (kk : ∀ r os', Φ r os' → EL X ops Q l ⟨(t, r) :: rs, os' ++ rest, fs⟩) : EL X ops Q (⟨some t, .call { callee := .value (.tmp u), args := args, argTypes := tys }, ty, pos, af, gd⟩ :: l) ⟨rs, os0, fs⟩ := by
 subst hos
 exact EL.mut hg (dR rfl hN) (Bv hF hc rfl ht hx hR hf) kk
theorem zZ {caps : List Value} (h : ∀ x ∈ caps, x.oneCell' = true) : aZ ok w (caps.map .v) caps := by
 induction caps with
 | nil => rfl
 | cons x xs ih => exact ⟨x, xs, rfl, dM (h x (by simp)), ih fun y hy => h y (by simp [hy])⟩
theorem Gs {T : Nat} (h : DV.contains T = true) : ∃ e, Tryz.prog.underlying T = some (.pointer e) := by
 have := Ho.1 Bf T (by simpa using h)
 unfold FD at this
 split at this
 ·
  rename_i e he
  exact ⟨e, he⟩
 · cases this
end
structure Bx (Q : Prop) : Prop where out : Q
theorem stp {P Q : Prop} (q : Q) (h : Bx Q → P := by
 intro q
 first
 | ((with_reducible apply EK.h0); apply EK.round; exact q.out)
 | (apply EL.nil; exact q.out)
 | ((with_reducible apply EK.h0); apply EK.code; exact q.out)
 | (apply EC.t0; rfl; exact q.out)
 | (apply EC.f0; rfl; exact q.out)
 | ((with_reducible apply EK.zi); rfl; exact q.out)
 | ((with_reducible first | apply EC.seq | apply EC.r0 | apply EC.k0 | apply EC.label | apply EC.b0 | apply EC.x0 | apply EC.ret | apply EK.n0 | apply EK.s0 | apply EK.Es | apply EK.yA | apply EK.wE); exact q.out)
 | (apply ER; (iterate 2 rfl); exact q.out)
 | (apply EU; (iterate 3 rfl); exact q.out)
 | (apply Au; (iterate 3 rfl); exact q.out)
 | (apply CU; (iterate 6 rfl); exact q.out)
 | (apply xZ; (iterate 7 rfl); exact q.out)
 | (apply x9; (iterate 4 rfl); exact q.out)
 | (apply Aj; (iterate 5 rfl); exact q.out)
 | (apply ET; (iterate 4 rfl); exact q.out)
 | (apply Gm; (iterate 3 rfl); exact q.out)
 | (apply EX; rfl; exact I.a; (iterate 4 rfl); exact q.out)
 | (apply vZ (b := true); (iterate 2 rfl); exact Cc; (iterate 2 rfl); exact q.out)
 | (apply vZ (b := false); (iterate 2 rfl); exact Cc; (iterate 2 rfl); exact q.out)
 | (apply vZ; (iterate 5 rfl); exact q.out)
 | (apply GH; (iterate 3 rfl); (focus omega); (focus omega); (iterate 2 rfl); exact q.out)
 | (apply CQ; (iterate 4 rfl); exact q.out)
 | (apply CP; (iterate 4 rfl); exact q.out)
 | (apply Am; rfl; exact I.a; (iterate 3 rfl); exact q.out)
 | (apply EY; (iterate 4 rfl); exact q.out)
 | (apply CS; (iterate 4 rfl); exact ixA; (iterate 2 rfl); exact q.out)
 | (apply xY; (iterate 3 rfl); exact ixA; (iterate 2 rfl); exact q.out)
 | (apply Gl; (iterate 3 rfl); exact q.out)
 | (apply CV; (iterate 7 rfl); exact q.out)
 | (apply Ar; (iterate 5 rfl); exact q.out)
 | (apply Ak; (iterate 9 rfl); exact q.out)
 | (apply CG; (iterate 3 rfl); exact q.out)
 | (apply xX; (iterate 3 rfl); exact q.out)
 | (apply CJ; (iterate 4 rfl); exact q.out)
 | (apply CW; (iterate 4 rfl); exact q.out)
 | (apply EZ; (iterate 6 rfl); exact q.out)
 | (apply CX; (iterate 5 rfl); exact q.out)
 | (apply Ah; (iterate 3 rfl); exact q.out)
 | (apply Ap; rfl; exact I.a; (iterate 3 rfl); exact q.out)
 | (apply Ae; rfl; exact I.a; (focus (first | omega | (simp; done) | (simp; omega))); (iterate 2 rfl); exact q.out)
 | (apply uO; rfl; exact I.a; (focus (first | omega | (simp; done) | (simp; omega))); (iterate 5 rfl); exact q.out)
 | (apply Af; rfl; exact I.a; (iterate 2 rfl); (focus (first | assumption | omega | (constructor <;> (first | (simp; done) | (simp; omega))))); (iterate 2 rfl); exact q.out)
 | (apply Ai; rfl; exact saA; (iterate 4 rfl); exact q.out)
 | (apply jV; rfl; rfl; rfl; exact q.out)
 | (apply CY; rfl; rfl; rfl; exact q.out)
 | (apply wu; rfl; rfl; rfl; exact q.out)
 | (apply CB; rfl; exact saA; (iterate 4 rfl); exact q.out)
 | ((apply Aw; rfl; exact saA; (iterate 5 rfl); (focus (constructor <;> (first | (simp; done) | (simp; omega))))); exact q.out)) : P := h ⟨q⟩
theorem sth {P Q : Prop} (q : Q) (h : Bx Q → P := by
 intro q
 first
 | (apply E8; (iterate 2 rfl); exact q.out)
 | (apply Fb; (iterate 3 rfl); exact q.out)
 | (apply AV; (iterate 3 rfl); exact q.out)
 | (apply Dh; (iterate 6 rfl); exact q.out)
 | (apply yg; (iterate 7 rfl); exact q.out)
 | (apply yh; (iterate 4 rfl); exact q.out)
 | (apply AL; (iterate 5 rfl); exact q.out)
 | (apply Fa; (iterate 4 rfl); exact q.out)
 | (apply Fe; rfl; exact I.a; (iterate 4 rfl); exact q.out)
 | (apply AQ (b := true); (iterate 2 rfl); exact Cc; (iterate 2 rfl); exact q.out)
 | (apply AQ (b := false); (iterate 2 rfl); exact Cc; (iterate 2 rfl); exact q.out)
 | (apply AQ; (iterate 5 rfl); exact q.out)
 | (apply GI; (iterate 3 rfl); (focus omega); (focus omega); (iterate 2 rfl); exact q.out)
 | (apply Df; (iterate 4 rfl); exact q.out)
 | (apply Dc; (iterate 4 rfl); exact q.out)
 | (apply AO; rfl; exact I.a; (iterate 3 rfl); exact q.out)
 | (apply Fg; (iterate 4 rfl); exact q.out)
 | (apply Gn; (iterate 3 rfl); exact q.out)
 | (apply Di; (iterate 7 rfl); exact q.out)
 | (apply AU; (iterate 5 rfl); exact q.out)
 | (apply Gp; (iterate 9 rfl); exact q.out)
 | (apply CZ; (iterate 3 rfl); exact q.out)
 | (apply yc; (iterate 3 rfl); exact q.out)
 | (apply C9; (iterate 4 rfl); exact q.out)
 | (apply AA; (iterate 3 rfl); exact q.out)
 | (apply AP; rfl; exact I.a; (iterate 3 rfl); exact q.out)
 | (apply Az; rfl; exact I.a; (focus (first | omega | (simp; done) | (simp; omega))); (iterate 2 rfl); exact q.out)
 | (apply uP; rfl; exact I.a; (focus (first | omega | (simp; done) | (simp; omega))); (iterate 5 rfl); exact q.out)
 | (apply Dj; (iterate 3 rfl); exact q.out)
 | (apply Gq; (iterate 3 rfl); exact q.out)
 | ((with_reducible apply EH.nil); rfl; exact q.out)
 | ((with_reducible apply EH.FK); rfl; exact q.out)
 | ((with_reducible apply EH.Gu); rfl; exact q.out)) : P := h ⟨q⟩
end E
end Go.Proofs.YtaoicebcdmpemaaGreat
namespace Go.Proofs.YtaoicebcdmpemaaGreat
set_option linter.unusedVariables false
namespace Wd
open Rlp
def le (B : Nat) : List Nat → Nat
 | [] => 0
 | d :: ds => d + B * le B ds
end Wd
end Go.Proofs.YtaoicebcdmpemaaGreat
namespace Go.Proofs.YtaoicebcdmpemaaGreat
set_option linter.unusedVariables false
open Go.RowKit Mono Rlp
namespace E
section
variable {N : Nat} {X : Cx N} {S S' : St} {a : Act} {w w' : World} {ops : Array Oper} {o : Oper} {Q : Exit → Act → World → Prop} {K : Act → World → Prop} {l : List Oper} {c : Code} {TT : St → List Fr → Prop} {EE : List Fr} {rs : List (Tmp × R)} {os os' rest : List Obj} {fs : List (Value × D)} {base ok : Nat → Prop}
variable {t ty : Nat} {pos : String} {af : Array Edge} {gd : Option (Nat × Bool)}
theorem EC.FM (n : Nat) (h : EK X (Code.rounds Tryz.prog c Q n) S) : EC X Q (.loop c) S := ⟨fun a w ha => wp_loop_rounds n (h.go a w ha)⟩
theorem EK.round {n : Nat} (h : EC X (Exit.then (Code.rounds Tryz.prog c Q n) Q) c S) : EK X (Code.rounds Tryz.prog c Q (n + 1)) S := ⟨fun a w ha => h.go a w ha⟩
theorem Du {f : FuncId} {args : Array Operand} {tys : Array TypeId} {xs vs : List Value} (hrun : ∀ w, (callFunc f xs.toArray).run Tryz.prog w = .ok (.value (.tuple vs.toArray)) w) (hvs : ∀ x ∈ vs, x.oneCell' = true) (ho : o.op = .call { callee := .value (.func f), args := args, argTypes := tys }) (hx : pO S args.toList = some xs) : Still ops S o (.tpl (vs.map .v)) := fun base ok a w ha => by
 have h1 := jT args.toList xs hx (fun t ht => ak (x := .tmp t) rfl (by rw [ho]; simp only [Op.operands, Call.operands]; simp; simpa using ht)) ha
 have h2 : args.map a.eval = xs.toArray := by
  apply IV
  simpa using h1
 refine ⟨.tuple vs.toArray, ?_, vs, rfl, zZ hvs⟩
 unfold execOp
 simp [ho, resolve, Act.eval, Deferred.ofValue, invoke, h2, hrun]
theorem ES.ext {t : Tmp} {f : FuncId} {args : Array Operand} {tys : Array TypeId} {xs vs : List Value} (hrun : ∀ w, (callFunc f xs.toArray).run Tryz.prog w = .ok (.value (.tuple vs.toArray)) w) (hvs : ∀ x ∈ vs, x.oneCell' = true) (ho : o.op = .call { callee := .value (.func f), args := args, argTypes := tys }) (hx : pO (⟨rs, os, fs⟩ : St) args.toList = some xs) (hg : guardOf ops ⟨rs, os, fs⟩ o = some true) (hd : o.dst = some t) (hN : Nat.blt t N = true) (k : EL X ops Q l ⟨(t, .tpl (vs.map .v)) :: rs, os, fs⟩) : EL X ops Q (o :: l) ⟨rs, os, fs⟩ := ES.still (Du hrun hvs ho hx) hg hd hN k
theorem EH.ext {t : Tmp} {f : FuncId} {args : Array Operand} {tys : Array TypeId} {xs vs : List Value} (hrun : ∀ w, (callFunc f xs.toArray).run Tryz.prog w = .ok (.value (.tuple vs.toArray)) w) (hvs : ∀ x ∈ vs, x.oneCell' = true) (ho : o.op = .call { callee := .value (.func f), args := args, argTypes := tys }) (hx : pO (⟨rs, os, fs⟩ : St) args.toList = some xs) (hg : guardOf ops ⟨rs, os, fs⟩ o = some true) (ht : o.dst = some t) (hd : dF N (some t) EE = true) (k : EM N ops TT l ⟨(t, .tpl (vs.map .v)) :: rs, os, fs⟩ EE) : EM N ops TT (o :: l) ⟨rs, os, fs⟩ EE := EH.still (Du hrun hvs ho hx) hg ht hd k
theorem qB (z : Value) (hz : z.oneCell' = true) : ∀ n : Nat, ah ok w 1 (List.replicate n (.v z)) (List.replicate n [z])
 | 0 => by rw [List.replicate_zero, List.replicate_zero, ah]
 | n + 1 => by
  rw [IU, IU, ah]
  exact ⟨_, _, rfl, rfl, by rw [Reads]; exact ⟨hz, rfl⟩, qB z hz n⟩
theorem D7 {T e y' n : Nat} {x : Operand} {z : Value} (hn : n * y' ≤ 281474976710656 ∧ n ≤ 9223372036854775807) (ho : o.op = .makeSlice T x x) (hx : ev S x = some (.val (.v (.int .i64 (n : Int))))) (hT : assoc slL T = some (e, 1, y')) (hz : assoc bP e = some (.v z)) : jW ops S o [] (fun r os' => ∃ v, r = .val (.v v) ∧ os' = [.row v e 1 (List.replicate n (.v z))]) := .mk fun base ok a w ha hown => by
 have h1 := dI ha hx (aN (by rw [ho]; simp [Op.operands]))
 have hS := DL hT rfl
 obtain ⟨i, zv, hi, hzv, hsz, hby, hcs⟩ := hS.info
 obtain ⟨zv', hz1, hz2⟩ := nH hz
 obtain rfl : zv' = zv := by
  rw [hi] at hz1
  have : i.zero = some zv' := by simpa using hz1
  exact Ie (this.symm.trans hzv)
 have hzr := hz2 (fun _ => True) w
 rw [Reads] at hzr
 have hcell : zv'.cells = #[z] := by
  apply IV
  simpa using hzr.2
 have hb' : (i.bytes : Int) * (n : Int) ≤ 281474976710656 := by
  have h0 := hn.1
  have : ((n * y' : Nat) : Int) ≤ 281474976710656 := by omega
  rw [Int.natCast_mul, Int.mul_comm] at this
  rw [hby]
  exact this
 have hrun := run_make (P := Tryz.prog) w T e i zv' hS.und hi hzv .i64 .i64 (n : Int) (n : Int) (by omega) (Int.le_refl _) hb' (by omega)
 rw [Int.toNat_natCast, hsz, Nat.mul_one, hcell] at hrun
 have hmc : madeCells #[z] n = (List.replicate n z).toArray := by
  apply IV
  simp [madeCells, Nat.mod_one]
  apply List.ext_getElem
  · simp
  ·
   intro k h1 h2
   simp
 rw [hmc] at hrun
 have hr : (execOp a.eval o).run Tryz.prog w = .ok (.value (.slice (some ⟨w.heap.size, 0, none⟩) n n)) (w.alloc (.cells (List.replicate n z).toArray e)) := by
  unfold execOp
  simp only [ho, h1, GR, hrun, GK, GY]
 rw [hr]
 have hflat : (List.replicate n [z]).flatten = List.replicate n z := by
  induction n with
  | zero => rfl
  | succ n ih => rw [IU, Ht, IU]; simp
 obtain ⟨g1, g2⟩ := yX (ok := ok) (w := w) (q := .row (.slice (some ⟨w.heap.size, 0, none⟩) n n) e 1 (List.replicate n (.v z))) (r := .val (.v (.slice (some ⟨w.heap.size, 0, none⟩) n n))) (ob := .cells (List.replicate n z).toArray e) (v := .slice (some ⟨w.heap.size, 0, none⟩) n n) rfl (fun ok' hk => ⟨List.replicate n [z], ⟨by
  have := oU w (List.replicate n z).toArray e 1 n w.heap.size 0 rfl (I8 _) (by simp [maxLen]; omega) (by simp)
  rw [Jc, hflat]
  exact this, fun b hb => by cases hb; exact .inr (Nat.le_refl _)⟩, qB z hzr.1 n⟩) (fun _ => dM rfl) ha.lt
 exact ⟨_, _, ⟨_, rfl, rfl⟩, g1, g2⟩
theorem EW {t T e y' n ty : Nat} {pos : String} {af : Array Edge} {gd : Option (Nat × Bool)} {x : Operand} {z : Value} (hn : n * y' ≤ 281474976710656 ∧ n ≤ 9223372036854775807) (hx : ev (⟨rs, os, fs⟩ : St) x = some (.val (.v (.int .i64 (n : Int))))) (hT : assoc slL T = some (e, 1, y')) (hz : assoc bP e = some (.v z)) (hg : guardOf ops ⟨rs, os, fs⟩ ⟨some t, .makeSlice T x x, ty, pos, af, gd⟩ = some true) (hN : Nat.blt t N = true) (kk : ∀ v, EL X ops Q l ⟨(t, .val (.v v)) :: rs, .row v e 1 (List.replicate n (.v z)) :: os, fs⟩) : EL X ops Q (⟨some t, .makeSlice T x x, ty, pos, af, gd⟩ :: l) ⟨rs, os, fs⟩ :=
 EL.mut (os := []) (rest := os) hg (dR rfl hN) (D7 hn rfl hx hT hz) fun r os' ⟨v, h1, h2⟩ => by
  subst h1 h2
  exact kk v
end
abbrev ptr (g : Nat) : Value := .pointer (some ⟨g, 0, none⟩)
theorem pW {T : Nat} (h : DV.contains T = true) (p : Option Addr) : Bin .eql T (.v (.pointer p)) (.v (.pointer none)) (.bool p.isNone) ∧ Bin .neq T (.v (.pointer p)) (.v (.pointer none)) (.bool !p.isNone) := by
 obtain ⟨e, he⟩ := Gs h
 have he : Tryz.prog.underlying T = some (.pointer (Tryz.prog.pointee T)) := by
  unfold Program.pointee
  rw [he]
 refine ⟨⟨rfl, fun ok w p q hp hq => ?_⟩, ⟨rfl, fun ok w p q hp hq => ?_⟩⟩ <;> (obtain rfl := (ay.1 hp).2; obtain rfl := (ay.1 hq).2; refine ⟨fun x y => by simp [eqGuard], ?_⟩)
 · exact run_eql_pointer_nil w T _ he
 · exact run_neq_pointer_nil w T _ he
section
variable {N : Nat} {X : Cx N} {rs : List (Tmp × R)} {os : List Obj} {fs : List (Value × D)}
variable {S : St} {fn : Func} {Φ : R → List Obj → Prop}
theorem jC {os' : List Obj} (h : os'.Sublist os) {w : World} {b : Nat} (hb : X.ok os w b) : X.ok os' w b := ⟨hb.1, hb.2.1, fun o ho => hb.2.2 o (h.subset ho)⟩
theorem EK.sS (os' : List Obj) (hres : fn.results = #[]) (ho : os'.Sublist S.objs) (hΦ : Φ (.tpl []) os') : EK X (bodyPost Tryz.prog fn (jq X Φ) .ret) S := by
 constructor
 intro a w ha
 exact bodyPost_ret (results_none hres a.tmps Tryz.prog w) ha.defers ⟨_, _, os', rfl, hΦ, ha.mem.less ho (fun f hf => by cases hf), [], rfl, rfl⟩
theorem EK.sU (os' : List Obj) (hres : fn.results = #[]) (ho : os'.Sublist S.objs) (hΦ : Φ (.tpl []) os') : EK X (bodyPost Tryz.prog fn (jq X Φ) .normal) S := by
 constructor
 intro a w ha
 have : bodyPost Tryz.prog fn (jq X Φ) .ret a w := bodyPost_ret (results_none hres a.tmps Tryz.prog w) ha.defers ⟨_, _, os', rfl, hΦ, ha.mem.less ho (fun f hf => by cases hf), [], rfl, rfl⟩
 exact this
theorem EK.bF {t : Tmp} {r : R} (os' : List Obj) (hres : fn.results = #[.tmp t]) (hl : look S.regs t = some r) (ho : os'.Sublist S.objs) (hΦ : Φ r os') : EK X (bodyPost Tryz.prog fn (jq X Φ) .ret) S := by
 constructor
 intro a w ha
 exact bodyPost_ret (results_tmp hres a.tmps Tryz.prog w) ha.defers ⟨_, r, os', rfl, hΦ, ha.mem.less ho (fun f hf => by cases hf), (ha.regs t r hl).mono (fun b hb => jC ho hb) fun _ _ => rfl⟩
theorem EK.uZ {p : Tmp} {g ty : Nat} {t : TypeId} {d d' : D} (i : Nat) (os' : List Obj) (hres : fn.results = #[.cell p ty]) (hl : look S.regs p = some (.val (.v (.pointer (some ⟨g, 0, none⟩))))) (hi : S.objs[i]? = some (.var g t d)) (hT : assoc tyL ty = some (d.size, d.agg)) (hR : aj S.facts [d] [d']) (ho : os'.Sublist S.objs) (hΦ : Φ (.val d') os') : EK X (bodyPost Tryz.prog fn (jq X Φ) .ret) S := by
 constructor
 intro a w ha
 obtain ⟨x, h1, h2⟩ := kZ ha.mem hi (tyI hT)
 have hp := (ay.1 (ha.regs p _ hl)).2
 have hp' : a.tmps[p]?.getD undef = .pointer (some ⟨g, 0, none⟩) := by simpa using hp
 have h3 : aB (X.ok S.objs w) w (.val d') x := Refine1.iw ha.mem.fact hR h2
 refine bodyPost_ret (v := x) ?_ ha.defers ⟨_, _, os', rfl, hΦ, ha.mem.less ho (fun f hf => by cases hf), h3.mono (fun b hb => jC ho hb) fun _ _ => rfl⟩
 simp [results, hres, hp', asAddr, h1]
end
section
variable {N : Nat} {X : Cx N} {ops : Array Oper} {Q : Exit → Act → World → Prop}
theorem EK.yI {fn : Func} {Φ : R → List Obj → Prop} {S : St} {t : Tmp} {d d' : D} (os' : List Obj) (hres : fn.results = #[.tmp t]) (hl : look S.regs t = some (.val d)) (hR : aj S.facts [d] [d']) (ho : os'.Sublist S.objs) (hΦ : Φ (.val d') os') : EK X (bodyPost Tryz.prog fn (jq X Φ) .ret) S := by
 refine EK.le (S' := ⟨S.regs, os', S.facts⟩) ?_ (EK.DT hres hl hR hΦ)
 exact fun a w h => ⟨h.mem.less ho (fun f hf => hf), fun t r ht => aB.mono (fun b hb => jC ho hb) (fun _ _ => rfl) (h.regs t r ht), h.size, h.defers⟩
end
theorem gI {α : Type} : ∀ l : List α, (List.range l.length).filterMap (fun i => l[i]?) = l
 | [] => rfl
 | x :: l => by
  rw [H8, List.range_succ_eq_map, Je]
  simp only [Iw, List.filterMap_map]
  congr 1
  exact gI l
theorem nR {os : List Obj} (l : List Nat) (hn : os.length = l.length) (h : l.Perm (List.range l.length)) : os.Perm (l.filterMap fun i => os[i]?) := by
 have := h.filterMap fun i => os[i]?
 rw [← hn, gI] at this
 exact this.symm
theorem Le.pick {N : Nat} {X : Cx N} {rs : List (Tmp × R)} {os : List Obj} {fs : List (Value × D)} (l : List Nat) (os' : List Obj) (hn : os.length = l.length) (h : l.Perm (List.range l.length)) (hp : (l.filterMap fun i => os[i]?) = os') : Le X ⟨rs, os, fs⟩ ⟨rs, os', fs⟩ := hp ▸ Le.perm (nR l hn h)
theorem FnM.pick {f : FuncId} {ds : List D} {os : List Obj} {Φ : R → List Obj → Prop} (hF : FnM f ds os Φ) (l : List Nat) (hn : os.length = l.length) (h : l.Perm (List.range l.length)) : FnM f ds (l.filterMap fun i => os[i]?) Φ := hF.perm (nR l hn h)
theorem FnM.out {f : FuncId} {ds : List D} {os : List Obj} {Φ Ψ : R → List Obj → Prop} (hF : FnM f ds os Φ) (k : ∀ r os', Φ r os' → ∃ os2, os'.Perm os2 ∧ Ψ r os2) : FnM f ds os Ψ := ⟨fun ok w xs h1 h2 h3 => (hF.go ok w xs h1 h2 h3).mono fun e w' ⟨v, r, os', e1, e2, e3, e4⟩ => by
 obtain ⟨os2, hp, hΨ⟩ := k r os' e2
 have hok : okM ok os w os' w' = okM ok os w os2 w' := funext fun b => propext ⟨fun h => ⟨h.1, h.2.1, fun o ho => h.2.2 o (hp.mem_iff.2 ho)⟩, fun h => ⟨h.1, h.2.1, fun o ho => h.2.2 o (hp.mem_iff.1 ho)⟩⟩
 exact ⟨v, r, os2, e1, hΨ, ⟨e3.gr, e3.apart.perm hp, fun o ho => hok ▸ e3.at_ o (hp.mem_iff.2 ho)⟩, hok ▸ e4⟩⟩
theorem FnM.frame {f : FuncId} {ds : List D} {os : List Obj} {Φ : R → List Obj → Prop} (hF : FnM f ds os Φ) (rest : List Obj) : FnM f ds (os ++ rest) (fun r os' => ∃ os2, Φ r os2 ∧ os' = os2 ++ rest) := by
 constructor
 intro ok w xs hok hown hr
 have hap := H7.1 hown.apart
 have hown1 : Own ok os w := ⟨fun o ho => hown.at_ o (Hw _ ho), hap.1, fun b ⟨o, ho, e⟩ => hown.off b ⟨o, Hw _ ho, e⟩⟩
 refine (hF.go ok w xs hok hown1 hr).mono ?_
 rintro e w' ⟨v, r, os', rfl, hΦ, ht, hv⟩
 have hrest : ∀ o ∈ rest, ∀ b, o.blk = some b → b < w.heap.size := fun o ho b e => (Obj.aY (hown.at_ o (Hl _ ho)) e).2
 have hoff : ∀ b, (ok b ∨ gy os b ∨ w.heap.size ≤ b) → ∀ o ∈ rest, o.blk ≠ some b := fun b hb o ho e => by
  rcases hb with h | ⟨o', ho', e'⟩ | h
  · exact hown.off b ⟨o, Hl _ ho, e⟩ h
  · exact hap.2.2 o' ho' o ho b e' e
  ·
   have := hrest o ho b e
   omega
 have hbl : ∀ b, gy os b → gy (os ++ rest) b := fun b ⟨o, ho, e⟩ => ⟨o, Hw _ ho, e⟩
 have hz : ∀ b, okM ok os w os' w' b → okM ok (os ++ rest) w (os' ++ rest) w' b := fun b hb => ⟨hb.1.imp id (Or.imp (hbl b) id), hb.2.1, fun o ho => by
  rcases H6.1 ho with ho | ho
  · exact hb.2.2 o ho
  · exact hoff b hb.1 o ho⟩
 have hblk : ∀ o ∈ os', ∀ b, o.blk = some b → gy os b ∨ w.heap.size ≤ b := fun o ho b e => (Obj.aY (ht.at_ o ho) e).1
 have hnew : ∀ b, ok b → ∀ o ∈ os', o.blk ≠ some b := fun b hb o ho e => by
  rcases hblk o ho b e with h | h
  · exact hown1.off b h hb
  ·
   have := hok b hb
   omega
 refine ⟨v, r, os' ++ rest, rfl, ⟨os', hΦ, rfl⟩, ⟨?_, H7.2 ⟨ht.apart, hap.2.1, fun o ho p hp b e e' => ?_⟩, fun o ho => ?_⟩, aB.mono hz (fun _ _ => rfl) hv⟩
 · exact (GrE.refl w).step ht.gr fun b hb => .inl (hbl b hb)
 · exact hoff b (.inr (hblk o ho b e)) p hp e'
 ·
  rcases H6.1 ho with ho | ho
  · exact ((ht.at_ o ho).move hz (fun _ _ => rfl) fun _ _ => rfl).ji fun b e => (hblk o ho b e).imp (hbl b) id
  ·
   have hat := hown.at_ o (Hl _ ho)
   refine (hat.move (z' := okM ok (os ++ rest) w (os' ++ rest) w') (fun b hb => hz b ⟨.inl hb, GZ (hok b hb) ht.gr.size, hnew b hb⟩) (fun p hp => ht.gr.cell (hok _ hp) fun hb => hown1.off _ hb hp) fun g e => ht.gr.block g (hrest o ho g e) fun hb => hoff g (.inr (.inl hb)) o ho e).ji fun b e => .inl ⟨o, Hl _ ho, e⟩
section
variable {S : St} {ops : Array Oper} {o : Oper}
theorem y5 {T e z y' : Nat} {s x : Operand} {v : Value} {ds es : List D} (ho : o.op = .call { callee := .builtin .append, args := #[s, x], argTypes := #[T, T] }) (hT : assoc slL T = some (e, z, y')) (hz : Nat.blt 0 z = true) (hs : ev S s = some (.val (.v v))) (hx : ev S x = some (.val (.sl z es))) (hlen : (ds.length + es.length) * y' ≤ 140737488355328 ∧ ds.length + es.length ≤ 9223372036854775807) :
  jW ops S o [.row v e z ds] (fun r os' => ∃ v', r = .val (.v v') ∧ os' = [.row v' e z (ds ++ es)]) := .mk fun base ok a w ha hown => by
 have hs' := dI ha hs fun t e => ak e (by rw [ho]; simp [Op.operands, Call.operands])
 obtain ⟨A, c, rows', h1, h2, h3, h4, h5, h6⟩ := qo (ha.ev hx fun t e => ak e (by rw [ho]; simp [Op.operands, Call.operands]))
 obtain ⟨rows, h7, h8⟩ := hown.at_ (.row v e z ds) G8
 obtain ⟨hl1, hl2⟩ := ah.lens es rows' h6
 have hlen' : rows'.flatten.length = es.length * z := by
  have : ∀ rows : List (List Value), (∀ r ∈ rows, r.length = z) → rows.flatten.length = rows.length * z := by
   intro rows
   induction rows with
   | nil => simp
   | cons r rows ih =>
    intro h
    rw [Ht, List.length_append, h r (by simp), ih fun r hr => h r (by simp [hr]), H8, IL, I7, Nat.add_comm]
  rw [this rows' hl2, hl1]
 have hrd : Rd w w.heap.size A rows'.flatten := fun hn => by
  obtain ⟨b, n, e, hb, hc⟩ := h5 hn
  exact ⟨b, n, e, ha.lt b hb, hc⟩
 obtain ⟨A', c', w', hrun, hown', hgr, hblk⟩ := fD (P := Tryz.prog) (ty := o.type) (c := c) (DL hT hz) h7.1 hlen' hrd (ah.one es rows' h6) (by simp only [maxLen]; exact hlen.2) hlen.1 (I8 _)
 have hoff : ∀ b, ok b → v.ownBlock ≠ some b := fun b hb e => hown.off b ⟨_, G8, e⟩ hb
 have hblk' : ∀ b, (Value.slice A' (ds.length + es.length) c').ownBlock = some b → v.ownBlock = some b ∨ w.heap.size ≤ b := fun b e' => by
  rcases hblk with h | h
  · exact .inl (h ▸ e')
  ·
   rw [h] at e'
   cases e'
   exact .inr (Nat.le_refl _)
 have hz' : ∀ b, ok b → okM ok [.row v e z ds] w [.row (.slice A' (ds.length + es.length) c') e z (ds ++ es)] w' b := fun b hb => ⟨.inl hb, GZ (ha.lt b hb) hgr.size, fun o' ho' e' => by
  obtain rfl : o' = _ := by simpa using ho'
  rcases hblk' b e' with h | h
  · exact hoff b hb h
  ·
   have := ha.lt b hb
   omega⟩
 have hcell : ∀ p : Addr, ok p.block → w'.cell? p = w.cell? p := fun p hp => World.cell?_of_block (hgr.block _ (ha.lt _ hp) fun e' => hoff _ hp e'.symm)
 unfold execOp
 simp only [ho, resolve, invoke, builtin, GR, GY, GK, Iz, G9, H9, hs', h1, hrun, bZ]
 refine ⟨.val (.v (.slice A' (ds.length + es.length) c')), [.row (.slice A' (ds.length + es.length) c') e z (ds ++ es)], ⟨_, rfl, rfl⟩, ⟨⟨hgr.os, hgr.tape, hgr.output, hgr.size, fun k hk hn => hgr.block k hk fun e' => hn ⟨_, G8, e'.symm⟩⟩, by simp, fun o' ho' => ?_⟩, ?_⟩
 ·
  obtain rfl : o' = _ := by simpa using ho'
  refine ⟨rows ++ rows', ?_, ah.append ds es rows rows' (ah.mono hz' hcell z ds rows h8) (ah.mono hz' hcell z es rows' h6)⟩
  rw [List.flatten_append, List.length_append]
  refine ⟨hown', fun b hb => ?_⟩
  rcases hblk' b hb with h | h
  · exact .inl ⟨_, G8, h⟩
  · exact .inr h
 · exact ay.2 ⟨rfl, rfl⟩
end
def Visit (ops : Array Oper) (S : St) (o : Oper) (r : R) : Prop := ∃ os rest, S.objs.Perm (os ++ rest) ∧ jW ops ⟨S.regs, rest, S.facts⟩ o os (fun r' os' => r' = r ∧ os' = os)
def OkV (N : Nat) (ops : Array Oper) (S : St) (o : Oper) (i : Inf) : Prop := OkI N ops S o i ∨ ∃ r, i = .grow r ∧ guardOf ops S o = some true ∧ Visit ops S o r
def EV (N : Nat) (ops : Array Oper) (T : St → List Fr → Prop) : List Oper → St → List Fr → Prop
 | [], S, E => T S E
 | o :: l, S, E => ∃ inf : Inf, inf.vk = true ∧ dF N o.dst E = true ∧ ((∃ T d, inf = .new T d) → o.dst ≠ none) ∧ OkV N ops S o inf ∧ EV N ops T l (S.put o.dst inf.reg) (kC E o.dst inf)
section
variable {N : Nat} {X : Cx N} {S S' : St} {a : Act} {w w' : World} {ops : Array Oper} {o : Oper} {Q : Exit → Act → World → Prop} {l : List Oper} {T : St → List Fr → Prop} {E : List Fr}
theorem EV.nil (h : T S E) : EV N ops T [] S E := h
theorem EV.seg {l2 : List Oper} : ∀ (l1 : List Oper) (S : St) (E : List Fr), EM N ops (fun S' E' => EV N ops T l2 S' E') l1 S E → EV N ops T (l1 ++ l2) S E
 | [], S, E, h => h
 | o :: l1, S, E, ⟨inf, h0, h1, h2, h3, h4⟩ => ⟨inf, h0, h1, h2, .inl h3, EV.seg l1 _ _ h4⟩
theorem EV.cut (k : Nat) (h : EM N ops (fun S' E' => EV N ops T (l.drop k) S' E') (l.take k) S E) : EV N ops T l S E := by
 have := EV.seg _ _ _ h
 rwa [Jd] at this
theorem Mem.perm {os os' : List Obj} {fs : List (Value × D)} (h : os.Perm os') (hm : Mem X os fs w) : Mem X os' fs w :=
 ((Le.perm (X := X) (rs := []) (fs := fs) h) ⟨Array.replicate N undef, []⟩ w ⟨hm, (fun t r hr => by cases hr), by simp, rfl⟩).mem
abbrev Nw := Nat × Nat × TypeId × D
def Nw.pc (e : Nw) : Obj := .var e.2.1 e.2.2.1 e.2.2.2
structure RV (X : Cx N) (S : St) (a : Act) (infs : List Inf) (L : Nat → Prop) (vs : Nat → Value) (u : World) (nw : List Nw) : Prop where
 nd : (nw.map (·.1)).Nodup
 ok : ∀ e ∈ nw, L e.1 ∧ infs[e.1]? = some (.new e.2.2.1 e.2.2.2) ∧ vs e.1 = .pointer (some ⟨e.2.1, 0, none⟩)
 all : ∀ j T d, L j → infs[j]? = some (.new T d) → ∃ e ∈ nw, e.1 = j
 mem : Mem X (nw.map Nw.pc ++ S.objs) S.facts u
 val : ∀ j i, L j → infs[j]? = some i → aB (X.ok (nw.map Nw.pc ++ S.objs) u) u i.reg (vs j)
 old : ∀ t r, look S.regs t = some r → aB (X.ok (nw.map Nw.pc ++ S.objs) u) u r (a.tmps.getD t undef)
theorem RV.same {infs : List Inf} {L : Nat → Prop} {vs : Nat → Value} {u u' : World} {nw : List Nw} (h : RV X S a infs L vs u nw) {k : Nat} {i : Inf} (hk : ¬ L k) (hi : infs[k]? = some i) (hn : ∀ T d, i ≠ .new T d) (v : Value) (hm : Mem X (nw.map Nw.pc ++ S.objs) S.facts u') (hok : ∀ b, X.ok (nw.map Nw.pc ++ S.objs) u b → X.ok (nw.map Nw.pc ++ S.objs) u' b) (hc : ∀ p : Addr, X.ok (nw.map Nw.pc ++ S.objs) u p.block → u'.cell? p = u.cell? p) (hv : aB (X.ok (nw.map Nw.pc ++ S.objs) u') u' i.reg v) : RV X S a infs (fun j => j = k ∨ L j) (fun j => if j = k then v else vs j) u' nw := by
 refine ⟨h.nd, fun e he => ?_, fun j T d hj hij => ?_, hm, fun j i' hj hij => ?_, fun t r hr => (h.old t r hr).mono hok hc⟩
 ·
  obtain ⟨h1, h2, h3⟩ := h.ok e he
  exact ⟨.inr h1, h2, by rw [if_neg (show ¬ e.1 = k from fun e' => hk (by rw [← e']; exact h1))]; exact h3⟩
 ·
  rcases hj with rfl | hj
  · exact absurd (Ie (hi.symm.trans hij)) (hn T d)
  · exact h.all j T d hj hij
 ·
  by_cases e : j = k
  ·
   subst e
   rw [if_pos rfl]
   obtain rfl : i' = i := Ie (hij.symm.trans hi)
   exact hv
  ·
   rw [if_neg e]
   exact (h.val j i' (hj.resolve_left e) hij).mono hok hc
theorem RV.new {infs : List Inf} {L : Nat → Prop} {vs : Nat → Value} {u : World} {nw : List Nw} (h : RV X S a infs L vs u nw) {k : Nat} {Ty : TypeId} {d : D} {cs : List Value} (hk : ¬ L k) (hi : infs[k]? = some (.new Ty d)) (hcs : Reads (X.ok (nw.map Nw.pc ++ S.objs) u) u d cs) : RV X S a infs (fun j => j = k ∨ L j) (fun j => if j = k then .pointer (some ⟨u.heap.size, 0, none⟩) else vs j) (u.alloc (.cells cs.toArray Ty)) ((k, u.heap.size, Ty, d) :: nw) := by
 have hgr := aG u (.cells cs.toArray Ty)
 have hok : ∀ b, X.ok (nw.map Nw.pc ++ S.objs) u b → X.ok (((k, u.heap.size, Ty, d) :: nw : List Nw).map Nw.pc ++ S.objs) (u.alloc (.cells cs.toArray Ty)) b := fun b hb => ⟨hb.1, GZ hb.2.1 hgr.size, fun o ho e => by
  rw [G9, G7] at ho
  rcases He.1 ho with rfl | ho
  ·
   cases e
   exact absurd hb.2.1 (Nat.lt_irrefl _)
  · exact hb.2.2 o ho e⟩
 have hc : ∀ p : Addr, X.ok (nw.map Nw.pc ++ S.objs) u p.block → (u.alloc (.cells cs.toArray Ty)).cell? p = u.cell? p := fun p hp => hgr.cell hp.2.1
 refine ⟨?_, fun e he => ?_, fun j T' d' hj hij => ?_, ?_, fun j i' hj hij => ?_, fun t r hr => (h.old t r hr).mono hok hc⟩
 ·
  rw [G9]
  refine IX.2 ⟨fun hm => ?_, h.nd⟩
  obtain ⟨e, he, e'⟩ := Hq.1 hm
  have e2 : e.1 = k := e'
  exact hk (by rw [← e2]; exact (h.ok e he).1)
 ·
  rcases He.1 he with rfl | he
  · exact ⟨.inl rfl, hi, if_pos rfl⟩
  ·
   obtain ⟨h1, h2, h3⟩ := h.ok e he
   exact ⟨.inr h1, h2, by rw [if_neg (show ¬ e.1 = k from fun e' => hk (by rw [← e']; exact h1))]; exact h3⟩
 ·
  rcases hj with rfl | hj
  · exact ⟨_, G8, rfl⟩
  ·
   obtain ⟨e, he, e'⟩ := h.all j T' d' hj hij
   exact ⟨e, Ic _ he, e'⟩
 ·
  have hat : At X ⟨[], nw.map Nw.pc ++ S.objs, S.facts⟩ ⟨Array.replicate N undef, []⟩ u := ⟨h.mem, (fun t r hr => by cases hr), by simp, rfl⟩
  exact (hat.new (q := .var u.heap.size Ty d) rfl ⟨.inr h.mem.gr.size, cs, heap_alloc_new u _, Reads.mono hok hc _ _ hcs⟩).mem
 ·
  by_cases e : j = k
  ·
   subst e
   obtain rfl : i' = .new Ty d := Ie (hij.symm.trans hi)
   trivial
  ·
   rw [if_neg e]
   exact (h.val j i' (hj.resolve_left e) hij).mono hok hc
theorem EV.FK {l' : List Oper} {t : Tmp} {Ty : TypeId} {d : D} {rs : List (Tmp × R)} {os : List Obj} {fs : List (Value × D)} (h : ∀ g, EL X ops Q l' ⟨(t, .val (.v (.pointer (some ⟨g, 0, none⟩)))) :: rs, .var g Ty d :: os, fs⟩) : EV N ops (fun S' E => lI (EL X ops Q l') E S') [] ⟨rs, os, fs⟩ [(t, Ty, d)] := h
end
end E
end Go.Proofs.YtaoicebcdmpemaaGreat
namespace Go.Proofs.YtaoicebcdmpemaaGreat
set_option linter.unusedVariables false
open Go.RowKit Mono Rlp
open Go.ChangeMaps (setBlock)
namespace E
theorem dZ.left {α β : Type} {R : α → β → Prop} : ∀ {l : List α} {m : List β}, dZ R l m → ∀ a ∈ l, ∃ b ∈ m, R a b
 | _, _, .nil, a, h => by cases h
 | _, _, .cons h1 h2, a, h => by
  rcases He.1 h with rfl | h
  · exact ⟨_, G8, h1⟩
  ·
   obtain ⟨b, hb, hr⟩ := h2.left a h
   exact ⟨b, Ic _ hb, hr⟩
theorem dZ.right {α β : Type} {R : α → β → Prop} : ∀ {l : List α} {m : List β}, dZ R l m → ∀ b ∈ m, ∃ a ∈ l, R a b
 | _, _, .nil, a, h => by cases h
 | _, _, .cons h1 h2, a, h => by
  rcases He.1 h with rfl | h
  · exact ⟨_, G8, h1⟩
  ·
   obtain ⟨b, hb, hr⟩ := h2.right a h
   exact ⟨b, Ic _ hb, hr⟩
end E
end Go.Proofs.YtaoicebcdmpemaaGreat
namespace Go.Proofs.YtaoicebcdmpemaaGreat
set_option linter.unusedVariables false
open Go.RowKit Mono Rlp
namespace E
def yK (l : List Oper) (chain done : List Nat) : List Nat := chain.filter fun k => !done.contains k && match l[k]? with
 | some o => o.after.toList.all fun e => !(Region.binds .any e) || !chain.contains e.on || done.contains e.on
 | none => true
def CT (N : Nat) (l : List Oper) (os1 : List Obj) (T : St → Prop) (chain : List Nat) : Nat → List Nat → St → Prop
 | 0, _, S => T S
 | m + 1, done, S => ∀ k ∈ yK l chain done, CH N l.toArray os1 (fun S' => CT N l os1 T chain m (k :: done) S') (bG l [k]) S
theorem CT.pick {N : Nat} {l : List Oper} {os1 : List Obj} {T : St → Prop} {chain : List Nat} {m : Nat} {done : List Nat} {S : St} (ks : List Nat) (hk : yK l chain done = ks) (h : ∀ k ∈ ks, CH N l.toArray os1 (fun S' => CT N l os1 T chain m (k :: done) S') (bG l [k]) S) : CT N l os1 T chain (m + 1) done S := by
 unfold CT
 rw [hk]
 exact h
theorem CT.nil {N : Nat} {l : List Oper} {os1 : List Obj} {T : St → Prop} {chain : List Nat} {done : List Nat} {S : St} (h : T S) : CT N l os1 T chain 0 done S := h
section
variable {N : Nat} {X : Cx N} {S : St} {ops : Array Oper} {o : Oper} {Q : Exit → Act → World → Prop} {l : List Oper} {TT : St → List Fr → Prop} {EE : List Fr} {rs : List (Tmp × R)} {os : List Obj} {fs : List (Value × D)}
variable {t ty : Nat} {pos : String} {af : Array Edge} {gd : Option (Nat × Bool)}
theorem Still.refine {d d' : D} (h : Still ops S o (.val d)) (hR : aj S.facts [d] [d']) : Still ops S o (.val d') := fun base ok a w ha => by
 obtain ⟨v, h1, h2⟩ := h base ok a w ha
 exact ⟨v, h1, Refine1.iw ha.facts hR h2⟩
end
theorem FnM.toFn {f : FuncId} {ds : List D} {Φ : R → Prop} (h : FnM f ds [] (fun r os' => Φ r ∧ os' = [])) : Fn f ds Φ := ⟨fun ok w xs hok hr => by
 refine (h.go ok w xs hok ⟨fun o ho => by simp at ho, .nil, fun b ⟨o, ho, _⟩ => by simp at ho⟩ hr).mono ?_
 rintro e w' ⟨v, r, os', rfl, ⟨hΦ, rfl⟩, ht, hv⟩
 refine ⟨ht.gr.gr fun b ⟨o, ho, _⟩ => by simp at ho, v, r, rfl, hΦ, hv.mono (fun b hb => ⟨?_, hb.2.1⟩) fun _ _ => rfl⟩
 rcases hb.1 with h | ⟨o, ho, _⟩ | h
 · exact .inl h
 · simp at ho
 · exact .inr h⟩
end E
end Go.Proofs.YtaoicebcdmpemaaGreat
namespace Go.Proofs.YtaoicebcdmpemaaGreat
set_option linter.unusedVariables false
open Go.RowKit Mono Rlp
def up (dd : List Deferred) (a : Act) : Act := { a with defers := a.defers ++ dd }
def upQ (dd : List Deferred) (Q : Exit → Act → World → Prop) : Exit → Act → World → Prop := fun e a w => Q e (up dd a) w
theorem DU (dd : List Deferred) (a : Act) (d : Option Tmp) (v : Value) : (up dd a).put d v = up dd (a.put d v) := by cases d <;> rfl
theorem lN {dd : List Deferred} {Q : Exit → Act → World → Prop} (h : LetsOut (upQ dd Q)) : LetsOut Q := by
 obtain ⟨a, w, h⟩ := h
 exact ⟨up dd a, w, h⟩
theorem jL {ops : Array Oper} (dd : List Deferred) {Q : Exit → Act → World → Prop} : ∀ (l : List Oper) (a : Act) (w : World), wpList Tryz.prog ops (upQ dd Q) l a w → wpList Tryz.prog ops Q l (up dd a) w
 | [], a, w, h => h
 | o :: l, a, w, h => by
  have ih := jL (ops := ops) dd (Q := Q) l
  have ih' : ∀ (a : Act) (d : Option Tmp) (v : Value) (w : World), wpList Tryz.prog ops (upQ dd Q) l (a.put d v) w → wpList Tryz.prog ops Q l ((up dd a).put d v) w := fun a d v w h => by
   rw [DU]
   exact ih _ _ h
  unfold wpList at h ⊢
  have e1 : yielded ops (up dd a).tmps = yielded ops a.tmps := rfl
  have e2 : (up dd a).eval = a.eval := rfl
  rw [e1]
  split
  ·
   rename_i hw
   rw [if_pos hw] at h
   rcases h with h | ⟨h1, h2⟩
   ·
    refine .inl ?_
    unfold Oper.wp at h ⊢
    rw [e2]
    generalize (execOp a.eval o).run Tryz.prog w = res at h ⊢
    cases res with
    | ok x w' =>
     cases x with
     | enter f args =>
      refine Calls.mono h fun e w'' he => ?_
      cases e with
      | returned v => exact ih' _ _ _ _ he
      | panicked c => exact he
      | outgrown => exact lN he
     | row r args => exact Rows.mono h fun v w'' he => ih' _ _ _ _ he
     | value v => exact ih' _ _ _ _ h
     | skip => exact ih' _ _ _ _ h
     | defer d => exact ih' { a with defers := d :: a.defers } _ _ _ h
     | _ => exact h
    | halt x w' =>
     cases x <;> exact h
   · exact .inr ⟨h1, lN h2⟩
  ·
   rename_i hw
   rw [if_neg hw] at h
   exact ih' _ _ _ _ h
namespace E
variable {N : Nat} {X : Cx N} {S : St} {Q : Exit → Act → World → Prop} {c y : Code} {ops : Array Oper} {l : List Oper} {dd : List Deferred}
structure DC {N : Nat} (X : Cx N) (dd : List Deferred) (Q : Exit → Act → World → Prop) (c : Code) (S : St) : Prop where
 go : ∀ a w, At X S a w → c.wp Tryz.prog Q (up dd a) w
theorem DC.region {id : Nat} (h : EL X l.toArray (upQ dd Q) l S) : DC X dd Q (.region id l.toArray false) S := ⟨fun a w ha => wp_region_lit (jL dd _ _ _ (h.go a w ha))⟩
theorem DC.seq (h : DC X dd (Exit.then (y.wp Tryz.prog Q) Q) c S) : DC X dd Q (.seq c y) S := ⟨fun a w ha => wp_seq (h.go a w ha)⟩
theorem DC.ret (h : EK X (upQ dd Q .ret) S) : DC X dd Q .ret S := ⟨fun a w ha => wp_ret (h.go a w ha)⟩
theorem EK.zX (h : DC X dd Q y S) : EK X (upQ dd (Exit.then (y.wp Tryz.prog Q) Q) .normal) S := ⟨fun a w ha => h.go a w ha⟩
theorem EL.defer {o : Oper} {d : Deferred} (hg : guardOf ops S o = some true) (hd : o.dst = none) (hO : ∀ base ok a w, Kn base ok (fun t => t ∈ o.looksAt ops) S a w → (execOp a.eval o).run Tryz.prog w = .ok (.defer d) w) (k : EL X ops (upQ [d] Q) l S) : EL X ops Q (o :: l) S := by
 constructor
 intro a w ha
 unfold wpList
 rw [if_pos (bJ ha hg)]
 refine .inl ?_
 unfold Oper.wp
 rw [hO _ _ a w (ha.kn _)]
 have e : ({ a with defers := d :: a.defers } : Act) = up [d] a := by unfold up; rw [ha.defers]; rfl
 show wpList Tryz.prog ops Q l (({ a with defers := d :: a.defers } : Act).put o.dst undef) w
 rw [hd, e]
 exact jL [d] _ _ _ (k.go a w ha)
theorem EK.Gy {fn : Func} {Φ : R → List Obj → Prop} {g : FuncId} {cap : Array Value} (h : EK X (bodyPost Tryz.prog fn (jq X Φ) .ret) S) (hi : ∀ w, (invoke (.fn (.func g) cap) #[]).run Tryz.prog w = .ok (.enter g cap) w)
  (hC : ∀ w, CallsD Tryz.prog g cap .returning w fun e u' w' => u' = .returning ∧ e = .returned (.tuple #[]) ∧ w' = w) : EK X (upQ [{ target := .fn (.func g) cap, args := #[] }] (bodyPostD Tryz.prog fn (jq X Φ)) .ret) S := by
 constructor
 intro a w ha
 obtain ⟨hd, v, hr, hR⟩ := h.go a w ha
 show Leaves Tryz.prog fn a.tmps (jq X Φ) (a.defers ++ [_]) .returning w
 rw [ha.defers]
 refine leaves_cons (by simp) (hi w) ((hC w).mono ?_)
 rintro e u' w' ⟨rfl, rfl, rfl⟩
 exact ⟨v, hr, hR⟩
theorem FnM.Fp {f : FuncId} {fn : Func} {c : Code} {ds : List D} {os : List Obj} {Φ : R → List Obj → Prop} (N : Nat) (hf : Tryz.prog.funcs[f]? = some fn) (hb : fn.body = some c) (hN : fn.ntmps = N) (hl : ds.length ≤ N)
  (h : ∀ X : Cx N, EC X (bodyPostD Tryz.prog fn (jq X Φ)) c ⟨ig 0 ds, os, []⟩) : FnM f ds os Φ := by
 constructor
 intro ok w xs hok hown hr
 have hxl := eH ds xs hr
 refine Calls.mono (calls_of_wp_defers hf hb ((h ⟨w, ok, gy os, hok⟩).go _ w ⟨⟨.refl w, hown.apart, fun o ho => ?_, (fun f hf => by cases hf)⟩, fun t r ht => ?_, ?_, rfl⟩)) ?_
 · exact ((hown.at_ o ho).move (fun b hb => ⟨.inl hb, hok b hb, fun o' ho' e => hown.off b ⟨o', ho', e⟩ hb⟩) (fun _ _ => rfl) fun _ _ => rfl).ji fun b e => .inl ⟨o, ho, e⟩
 ·
  refine fG ds xs 0 _ (aZ.mono (fun b hb => ⟨.inl hb, hok b hb, fun o' ho' e => hown.off b ⟨o', ho', e⟩ hb⟩) (fun _ _ => rfl) ds xs hr) (fun j x hx => ?_) t r ht
  have hj := (G5.1 hx).1
  have : (xs.toArray ++ Array.replicate (fn.ntmps - xs.toArray.size) undef)[j]? = some x := by
   rw [IJ (by simpa using hj)]
   simpa using hx
  rw [Hr, IC, this]
  rfl
 ·
  simp [hN]
  omega
 ·
  rintro e w' ⟨v, r, os', rfl, h1, h2, h3⟩
  exact ⟨v, r, os', rfl, h1, ⟨h2.gr, h2.apart, h2.at_⟩, h3⟩
end E
end Go.Proofs.YtaoicebcdmpemaaGreat
