/-
 Merged: lemmas of this claim.
 Conditions: none.
-/
import Derived.Test.YtelbhdobjdnglaaGreatZT9
import Derived.Test.YtelbhdobjdnglaaGreatZT5
import Derived.LoopN
import Derived.Laws.Externs
import Derived.Laws.MakeOwn
import Derived.Test.YtelbhdobjdnglaaGreatZT7
import Derived.Maps.RangeRun
import Derived.Lib.SliceRun
import Derived.Lib.AppendZeros
import Derived.Test.YtelbhdobjdnglaaGreatZT0
namespace Go.Proofs.YtelbhdobjdnglaaGreat
set_option linter.unusedVariables false
open Go.RowKit Mono Rlp
namespace E
section
variable {N : Nat} {X : Cx N} {S S' : St} {a : Act} {w w' : World} {ops : Array Oper} {o : Oper} {Q : Exit → Act → World → Prop} {l : List Oper} {TT : St → List Fr → Prop} {EE : List Fr} {rs : List (Tmp × R)} {os os' rest : List Obj} {fs : List (Value × D)} {base ok : Nat → Prop} {p q : Obj}
theorem EL.put (i : Nat) (hg : guardOf ops S o = some true) (hd : o.dst = none) (hP : Puts ops S o p q) (hi : S.objs[i]? = some p) (k : EL X ops Q l ⟨S.regs, S.objs.set i q, S.facts⟩) : EL X ops Q (o :: l) S := by
 constructor
 intro a w ha
 obtain ⟨hq, hP⟩ := hP
 have hmem := XZ hi
 obtain ⟨w', g, h1, h2, h3, h4⟩ := hP _ _ a w (ha.kn _) (fun g hb hk => hk.2.2 p hmem hb) (ha.mem.at_ p hmem)
 unfold wpList
 rw [if_pos (iO ha hg)]
 refine .inl ?_
 unfold Oper.wp
 rw [h1]
 simp only [Oper.upon_skip, hd, Act.put]
 exact k.go _ _ (ha.turn hi (by rw [h2]; exact h3) (.inl hq) fun hok hcell => h4.move hok (fun _ _ => rfl) fun _ _ => rfl)
theorem l9 (hP : Puts ops S o p q) : Ec ops S o [p] (fun r os' => r = .any ∧ os' = [q]) := .mk fun base ok a w ha hown => by
 obtain ⟨hq, hP⟩ := hP
 obtain ⟨w', g, h1, h2, h3, h4⟩ := hP (fun _ => True) ok a w ⟨fun o ho => (ha.objs o ho).oZ fun _ _ => trivial, ha.facts, ha.lt, ha.regs⟩ (fun g hb => hown.off g ⟨p, by simp, hb⟩) (hown.at_ p (by simp))
 rw [h1]
 have hB : ∀ b, qh [p] b ↔ b = g := fun b => ⟨fun ⟨o, ho, e⟩ => by
  obtain rfl : o = p := by simpa using ho
  rw [h2] at e
  injection e with e
  exact e.symm, fun e => ⟨p, by simp, by rw [e]; exact h2⟩⟩
 refine ⟨.any, [q], ⟨rfl, rfl⟩, ⟨⟨h3.os, h3.tape, h3.output, h3.size, fun k hk hn => h3.block k hk fun e => hn ((hB k).2 (by injection e))⟩, by simp, fun o ho => ?_⟩, trivial⟩
 obtain rfl : o = q := by simpa using ho
 refine (h4.move (fun b hb => ⟨.inl hb, XM (ha.lt b hb) h3.size, fun o' ho' e => ?_⟩) (fun _ _ => rfl) fun _ _ => rfl).oZ fun b e => .inl ⟨p, by simp, by rw [← hq]; exact e⟩
 obtain rfl : o' = o := by simpa using ho'
 exact hown.off b ⟨p, by simp, by rw [← hq]; exact e⟩ hb
theorem ku {T e z n k off : Nat} {x y : Operand} {v : Value} {ds : List D} {d d' d'' : D} (hk : n = k * z + off ∧ ds[k]? = some d) (ho : o.op = .store T x y) (hx : ev S x = some (.val (.v (fK v n)))) (hy : ev S y = some (.val d')) (hT : assoc tyL T = some (d'.size, d'.agg)) (hu : d.upd off d' = some d'') : Puts ops S o (.row v e z ds) (.row v e z (ds.set k d'')) := by
 refine ⟨rfl, fun base ok a w ha hno hat => ?_⟩
 have hx' := iT ha hx (dG (by rw [ho]; simp [Op.operands]))
 obtain ⟨cs', h1, h2⟩ := ha.ev hy (dG (by rw [ho]; simp [Op.operands]))
 have hk' := (XC.1 hk.2).1
 obtain ⟨g, c, cur, rows, H⟩ := row_in hat (by omega)
 obtain ⟨r, A, B, g1, g2, g3, g4, g5, g6⟩ := H.elem hk.2
 obtain ⟨e1, e2, pre, mid, post, rfl, h5, h6, h7⟩ := nM d off d' d'' r cs' hu g3 h1
 obtain ⟨_, _, _, hT'⟩ := tyI hT
 have hh : w.heap[g]? = some (.cells ((A ++ pre) ++ mid ++ (post ++ B)).toArray e (0, 0)) := by
  have := H.heap
  rw [show cur = (A ++ (pre ++ mid ++ post) ++ B).toArray by rw [← g4]] at this
  rw [this]
  simp
 have hrun := qy (T := T) (by rw [hT', Reads.len _ _ h1]) h1 hh (by rw [List.length_append, g5, h5, ← hk.1]) h6
 have hg := fP g cs' n w
 have hnew := jA cs' (A ++ pre) mid (post ++ B) w h6 hh
 rw [List.length_append, g5, h5, ← hk.1] at hnew
 have hcell : ∀ q : Addr, ok q.block → (w.setCells g n cs').cell? q = w.cell? q := fun q hq => World.cell?_of_block (hg.block _ (ha.lt _ hq) fun e => hno g (by rw [H.val]; rfl) (by injection e with e; rw [← e]; exact hq))
 have hlen : (pre ++ cs' ++ post).length = z := by
  simp only [List.length_append] at g2 ⊢
  omega
 have hrows := au.set ds rows k d'' (pre ++ cs' ++ post) H.rows h7 hlen
 have hrows' := au.mono (fun _ h => h) hcell z _ _ hrows
 refine ⟨w.setCells g n cs', g, ?_, by rw [H.val]; rfl, hg, Ac.at (g := g) (c := c) (cur := ((A ++ pre) ++ cs' ++ (post ++ B)).toArray) (rows := rows.set k (pre ++ cs' ++ post)) ⟨by rw [YH]; exact H.val, hnew, ?_, ?_, by rw [YH]; exact H.le, H.max, hrows', H.mine⟩⟩
 ·
  have ep : fK v n = .pointer (some ⟨g, n, none⟩) := by rw [H.val]; simp [fK]
  unfold execOp
  simp only [ho, hx', ep, h2, XO, hrun, XF, XR]
 ·
  rw [YH, ← g6 _ hlen]
  simp
 ·
  have := congrArg List.length g4
  rw [Array.length_toList, H.size] at this
  simp only [List.size_toArray, List.length_append] at this ⊢
  omega
theorem Jk {T e z n k off ty : Nat} {pos : String} {af : Array Edge} {gd : Option (Nat × Bool)} {x y : Operand} {v : Value} {ds : List D} {d d' d'' : D} (hx : ev (⟨rs, os, fs⟩ : St) x = some (.val (.v (fK v n)))) (hset : xG os (.row v e z ds) (.row v e z (ds.set k d'')) os') (hk : n = k * z + off ∧ ds[k]? = some d) (hy : ev (⟨rs, os, fs⟩ : St) y = some (.val d')) (hT : assoc tyL T = some (d'.size, d'.agg)) (hu : d.upd off d' = some d'') (hg : guardOf ops ⟨rs, os, fs⟩ ⟨none, .store T x y, ty, pos, af, gd⟩ = some true) (kk : EL X ops Q l ⟨rs, os', fs⟩) : EL X ops Q (⟨none, .store T x y, ty, pos, af, gd⟩ :: l) ⟨rs, os, fs⟩ := by
 obtain ⟨i, hi, rfl⟩ := hset.ix
 exact EL.put i hg rfl (ku hk rfl hx hy hT hu) hi kk
theorem KO {t ty f : Nat} {pos : String} {af : Array Edge} {gd : Option (Nat × Bool)} {args : Array Operand} {tys : Array TypeId} {ds ds' : List D} {os0 : List Obj} {Φ : R → List Obj → Prop} (hF : FnM f ds' os Φ) (hos : os0 = os ++ rest) (hx : evs (⟨rs, rest, fs⟩ : St) args.toList = some ds) (hR : aj fs ds ds') (hf : Enters f) (hg : guardOf ops ⟨rs, os ++ rest, fs⟩ ⟨some t, .call { callee := .value (.func f), args := args, argTypes := tys }, ty, pos, af, gd⟩ = some true) (hN : Nat.blt t N = true) (kk : ∀ r os', Φ r os' → EL X ops Q l ⟨(t, r) :: rs, os' ++ rest, fs⟩) : EL X ops Q (⟨some t, .call { callee := .value (.func f), args := args, argTypes := tys }, ty, pos, af, gd⟩ :: l) ⟨rs, os0, fs⟩ := by
 subst hos
 refine EL.mut (Φ := Φ) hg (mG rfl hN) ?_ kk
 exact Iy (S := ⟨rs, rest, fs⟩) hF rfl hx hR hf
theorem CH.WQ {os1 : List Obj} {T : St → Prop} {d : Option Tmp} {ty f : Nat} {pos : String} {af : Array Edge} {gd : Option (Nat × Bool)} {args : Array Operand} {tys : Array TypeId} {ds ds' : List D} {os0 : List Obj} {Φ : R → List Obj → Prop} (hF : FnM f ds' os Φ) (hos : os0 = os ++ (rest ++ os1)) (hx : evs (⟨rs, rest ++ os1, fs⟩ : St) args.toList = some ds) (hR : aj fs ds ds') (hf : Enters f) (hg : guardOf ops ⟨rs, os ++ (rest ++ os1), fs⟩ ⟨d, .call { callee := .value (.func f), args := args, argTypes := tys }, ty, pos, af, gd⟩ = some true) (hd : Tf N d = true)
  (k : ∀ r os', Φ r os' → CH N ops os1 T l (St.put ⟨rs, os' ++ (rest ++ os1), fs⟩ d r)) : CH N ops os1 T (⟨d, .call { callee := .value (.func f), args := args, argTypes := tys }, ty, pos, af, gd⟩ :: l) ⟨rs, os0, fs⟩ := by
 subst hos
 refine CH.mut (Φ := Φ) hd hg ?_ k
 exact Iy (S := ⟨rs, rest ++ os1, fs⟩) hF rfl hx hR hf
theorem Lr {t f : Nat} {args : Array Operand} {tys : Array TypeId} {caps : List Value} (ho : o.op = .call { callee := .value (.tmp t), args := args, argTypes := tys }) (ht : a.eval (.tmp t) = .func (.func f) #[] caps.toArray) (hf : Enters f) : (execOp a.eval o).run Tryz.prog w = .ok (.enter f (args.map a.eval ++ caps.toArray)) w := by
 unfold execOp
 simp [ho, resolve, ht, Deferred.ofValue, invoke, hf (args.map a.eval ++ caps.toArray) w]
theorem Dx {t : Tmp} {args : Array Operand} {tys : Array TypeId} (ho : o.op = .call { callee := .value (.tmp t), args := args, argTypes := tys }) : ∀ u, Operand.tmp t = .tmp u → u ∈ o.looksAt ops := dG (by rw [ho]; simp [Op.operands, Call.operands])
theorem sN : ∀ (ds es : List D) (xs ys : List Value), fQ ok w ds xs → fQ ok w es ys → fQ ok w (ds ++ es) (xs ++ ys)
 | [], es, xs, ys, h, h' => by cases h; exact h'
 | d :: ds, es, xs, ys, h, h' => by
  obtain ⟨x, rest, rfl, h1, h2⟩ := h
  exact ⟨x, _, rfl, h1, sN ds es rest ys h2 h'⟩
theorem RN {t f : Nat} {args : Array Operand} {tys : Array TypeId} {caps : List Value} {ds ds' cds : List D} {Φ : R → List Obj → Prop} (hF : FnM f (ds' ++ cds) os Φ) (hc : ∀ base ok L (a : Act) w, Kn base ok L S a w → fQ ok w cds caps) (ho : o.op = .call { callee := .value (.tmp t), args := args, argTypes := tys }) (ht : look S.regs t = some (.val (.v (.func (.func f) #[] caps.toArray)))) (hx : evs S args.toList = some ds) (hR : aj S.facts ds ds') (hf : Enters f) : Ec ops S o os Φ := .mk fun base ok a w ha hown => by
 have h1 : a.eval (.tmp t) = .func (.func f) #[] caps.toArray := iT ha (x := .tmp t) ht (Dx ho)
 have hr := aj.yN ha.facts _ _ _ hR (ha.evs _ _ hx fun u hu => aQ (x := .tmp u) rfl (by rw [ho]; simp only [Op.operands, Call.operands]; simp; right; simpa using hu))
 rw [Lr ho h1 hf]
 have := hF.go ok w _ ha.lt hown (sN _ _ _ _ hr (hc _ _ _ a w ha))
 have he : (args.toList.map a.eval ++ caps).toArray = args.map a.eval ++ caps.toArray := by
  apply Array.ext'
  simp
 rw [he] at this
 simp only [jq]
 refine this.mono ?_
 rintro e w' ⟨v, r, os', rfl, h1, h2, h3⟩
 exact ⟨v, rfl, r, os', h1, h2, h3⟩
theorem GZ {t u ty f : Nat} {pos : String} {af : Array Edge} {gd : Option (Nat × Bool)} {args : Array Operand} {tys : Array TypeId} {caps : List Value} {ds ds' cds : List D} {os0 : List Obj} {Φ : R → List Obj → Prop} (hF : FnM f (ds' ++ cds) os Φ) (hc : ∀ base ok L (a : Act) w, Kn base ok L ⟨rs, rest, fs⟩ a w → fQ ok w cds caps) (hos : os0 = os ++ rest) (ht : look rs u = some (.val (.v (.func (.func f) #[] caps.toArray)))) (hx : evs (⟨rs, rest, fs⟩ : St) args.toList = some ds) (hR : aj fs ds ds') (hf : Enters f) (hg : guardOf ops ⟨rs, os ++ rest, fs⟩ ⟨some t, .call { callee := .value (.tmp u), args := args, argTypes := tys }, ty, pos, af, gd⟩ = some true) (hN : Nat.blt t N = true) (kk : ∀ r os', Φ r os' → EL X ops Q l ⟨(t, r) :: rs, os' ++ rest, fs⟩) : EL X ops Q (⟨some t, .call { callee := .value (.tmp u), args := args, argTypes := tys }, ty, pos, af, gd⟩ :: l) ⟨rs, os0, fs⟩ := by
 subst hos
 exact EL.mut hg (mG rfl hN) (RN hF hc rfl ht hx hR hf) kk
theorem Vp {caps : List Value} (h : ∀ x ∈ caps, x.oneCell' = true) : fQ ok w (caps.map .v) caps := by
 induction caps with
 | nil => rfl
 | cons x xs ih => exact ⟨x, xs, rfl, jK (h x (by simp)), ih fun y hy => h y (by simp [hy])⟩
theorem Xc {T : Nat} (h : UE.contains T = true) : ∃ e, Tryz.prog.underlying T = some (.pointer e) := by
 have := X6.1 Ru T (by simpa using h)
 unfold V7 at this
 split at this
 ·
  rename_i e he
  exact ⟨e, he⟩
 · cases this
end
end E
end Go.Proofs.YtelbhdobjdnglaaGreat
namespace Go.Proofs.YtelbhdobjdnglaaGreat
set_option linter.unusedVariables false
namespace Wd
open Rlp
def le (B : Nat) : List Nat → Nat
 | [] => 0
 | d :: ds => d + B * le B ds
end Wd
end Go.Proofs.YtelbhdobjdnglaaGreat
namespace Go.Proofs.YtelbhdobjdnglaaGreat
set_option linter.unusedVariables false
open Go.RowKit Mono Rlp
namespace E
section
variable {N : Nat} {X : Cx N} {S S' : St} {a : Act} {w w' : World} {ops : Array Oper} {o : Oper} {Q : Exit → Act → World → Prop} {K : Act → World → Prop} {l : List Oper} {c : Code} {TT : St → List Fr → Prop} {EE : List Fr} {rs : List (Tmp × R)} {os os' rest : List Obj} {fs : List (Value × D)} {base ok : Nat → Prop}
theorem EC.Ph (n : Nat) (h : EK X (Code.rounds Tryz.prog c Q n) S) : EC X Q (.loop c) S := ⟨fun a w ha => wp_loop_rounds n (h.go a w ha)⟩
theorem EK.round {n : Nat} (h : EC X (Exit.then (Code.rounds Tryz.prog c Q n) Q) c S) : EK X (Code.rounds Tryz.prog c Q (n + 1)) S := ⟨fun a w ha => h.go a w ha⟩
theorem Ud {f : FuncId} {args : Array Operand} {tys : Array TypeId} {xs vs : List Value} (hrun : ∀ w, (callFunc f xs.toArray).run Tryz.prog w = .ok (.value (.tuple vs.toArray)) w) (hvs : ∀ x ∈ vs, x.oneCell' = true) (ho : o.op = .call { callee := .value (.func f), args := args, argTypes := tys }) (hx : NG S args.toList = some xs) : Still ops S o (.tpl (vs.map .v)) := fun base ok a w ha => by
 have h1 := Ce args.toList xs hx (fun t ht => aQ (x := .tmp t) rfl (by rw [ho]; simp only [Op.operands, Call.operands]; simp; simpa using ht)) ha
 have h2 : args.map a.eval = xs.toArray := by
  apply Array.ext'
  simpa using h1
 refine ⟨.tuple vs.toArray, ?_, vs, rfl, Vp hvs⟩
 unfold execOp
 simp [ho, resolve, Act.eval, Deferred.ofValue, invoke, h2, hrun]
theorem ES.ext {t : Tmp} {f : FuncId} {args : Array Operand} {tys : Array TypeId} {xs vs : List Value} (hrun : ∀ w, (callFunc f xs.toArray).run Tryz.prog w = .ok (.value (.tuple vs.toArray)) w) (hvs : ∀ x ∈ vs, x.oneCell' = true) (ho : o.op = .call { callee := .value (.func f), args := args, argTypes := tys }) (hx : NG (⟨rs, os, fs⟩ : St) args.toList = some xs) (hg : guardOf ops ⟨rs, os, fs⟩ o = some true) (hd : o.dst = some t) (hN : Nat.blt t N = true) (k : EL X ops Q l ⟨(t, .tpl (vs.map .v)) :: rs, os, fs⟩) : EL X ops Q (o :: l) ⟨rs, os, fs⟩ := ES.still (Ud hrun hvs ho hx) hg hd hN k
theorem EH.ext {t : Tmp} {f : FuncId} {args : Array Operand} {tys : Array TypeId} {xs vs : List Value} (hrun : ∀ w, (callFunc f xs.toArray).run Tryz.prog w = .ok (.value (.tuple vs.toArray)) w) (hvs : ∀ x ∈ vs, x.oneCell' = true) (ho : o.op = .call { callee := .value (.func f), args := args, argTypes := tys }) (hx : NG (⟨rs, os, fs⟩ : St) args.toList = some xs) (hg : guardOf ops ⟨rs, os, fs⟩ o = some true) (ht : o.dst = some t) (hd : fF N (some t) EE = true) (k : EM N ops TT l ⟨(t, .tpl (vs.map .v)) :: rs, os, fs⟩ EE) : EM N ops TT (o :: l) ⟨rs, os, fs⟩ EE := EH.still (Ud hrun hvs ho hx) hg ht hd k
theorem Qo {T U : Nat} {k k' : IntKind} {de : TypeDesc} (hu : Tryz.prog.underlying T = some de) (hu' : Tryz.prog.underlying U = some (.int k')) (m n : Int) (h : k'.wrap m = n) : ∀ w, (Go.convert T U (.int k m)).run Tryz.prog w = .ok (.int k' n) w := fun w => by
 subst h
 simp [convert, run_underlying hu, run_underlying hu', Conv.intToInt]
theorem DZ {op : BinOp} {T : TypeId} {k k' : IntKind} {m n : Int} {c : Value} (hc : c.oneCell' = true) (h : ∀ w, (binOp op T (.int k m) (.int k' n)).run Tryz.prog w = .ok c w) : Bin op T (.v (.int k m)) (.v (.int k' n)) c := by
 refine ⟨hc, fun ok w p q hp hq => ?_⟩
 obtain ⟨_, rfl⟩ := bg.1 hp
 obtain ⟨_, rfl⟩ := bg.1 hq
 exact ⟨fun x y => by cases op <;> simp [eqGuard], h w⟩
end
theorem qc {α : Type} : ∀ l : List α, (List.range l.length).filterMap (fun i => l[i]?) = l
 | [] => rfl
 | x :: l => by
  rw [List.length_cons, List.range_succ_eq_map, XD]
  simp only [Xz, List.filterMap_map]
  congr 1
  exact qc l
theorem Bc {os : List Obj} (l : List Nat) (hn : os.length = l.length) (h : l.Perm (List.range l.length)) : os.Perm (l.filterMap fun i => os[i]?) := by
 have := h.filterMap fun i => os[i]?
 rw [← hn, qc] at this
 exact this.symm
theorem Le.pick {N : Nat} {X : Cx N} {rs : List (Tmp × R)} {os : List Obj} {fs : List (Value × D)} (l : List Nat) (os' : List Obj) (hn : os.length = l.length) (h : l.Perm (List.range l.length)) (hp : (l.filterMap fun i => os[i]?) = os') : Le X ⟨rs, os, fs⟩ ⟨rs, os', fs⟩ := hp ▸ Le.perm (Bc l hn h)
theorem FnM.pick {f : FuncId} {ds : List D} {os : List Obj} {Φ : R → List Obj → Prop} (hF : FnM f ds os Φ) (l : List Nat) (hn : os.length = l.length) (h : l.Perm (List.range l.length)) : FnM f ds (l.filterMap fun i => os[i]?) Φ := hF.perm (Bc l hn h)
theorem FnM.out {f : FuncId} {ds : List D} {os : List Obj} {Φ Ψ : R → List Obj → Prop} (hF : FnM f ds os Φ) (k : ∀ r os', Φ r os' → ∃ os2, os'.Perm os2 ∧ Ψ r os2) : FnM f ds os Ψ := ⟨fun ok w xs h1 h2 h3 => (hF.go ok w xs h1 h2 h3).mono fun e w' ⟨v, r, os', e1, e2, e3, e4⟩ => by
 obtain ⟨os2, hp, hΨ⟩ := k r os' e2
 have hok : okM ok os w os' w' = okM ok os w os2 w' := funext fun b => propext ⟨fun h => ⟨h.1, h.2.1, fun o ho => h.2.2 o (hp.mem_iff.2 ho)⟩, fun h => ⟨h.1, h.2.1, fun o ho => h.2.2 o (hp.mem_iff.1 ho)⟩⟩
 exact ⟨v, r, os2, e1, hΨ, ⟨e3.gr, e3.apart.perm hp, fun o ho => hok ▸ e3.at_ o (hp.mem_iff.2 ho)⟩, hok ▸ e4⟩⟩
theorem FnM.frame {f : FuncId} {ds : List D} {os : List Obj} {Φ : R → List Obj → Prop} (hF : FnM f ds os Φ) (rest : List Obj) : FnM f ds (os ++ rest) (fun r os' => ∃ os2, Φ r os2 ∧ os' = os2 ++ rest) := by
 constructor
 intro ok w xs hok hown hr
 have hap := YE.1 hown.apart
 have hown1 : Own ok os w := ⟨fun o ho => hown.at_ o (Yf _ ho), hap.1, fun b ⟨o, ho, e⟩ => hown.off b ⟨o, Yf _ ho, e⟩⟩
 refine (hF.go ok w xs hok hown1 hr).mono ?_
 rintro e w' ⟨v, r, os', rfl, hΦ, ht, hv⟩
 have hrest : ∀ o ∈ rest, ∀ b, o.blk = some b → b < w.heap.size := fun o ho b e => (Obj.gu (hown.at_ o (Ya _ ho)) e).2
 have hoff : ∀ b, (ok b ∨ qh os b ∨ w.heap.size ≤ b) → ∀ o ∈ rest, o.blk ≠ some b := fun b hb o ho e => by
  rcases hb with h | ⟨o', ho', e'⟩ | h
  · exact hown.off b ⟨o, Ya _ ho, e⟩ h
  · exact hap.2.2 o' ho' o ho b e' e
  ·
   have := hrest o ho b e
   omega
 have hbl : ∀ b, qh os b → qh (os ++ rest) b := fun b ⟨o, ho, e⟩ => ⟨o, Yf _ ho, e⟩
 have hz : ∀ b, okM ok os w os' w' b → okM ok (os ++ rest) w (os' ++ rest) w' b := fun b hb => ⟨hb.1.imp id (Or.imp (hbl b) id), hb.2.1, fun o ho => by
  rcases XJ.1 ho with ho | ho
  · exact hb.2.2 o ho
  · exact hoff b hb.1 o ho⟩
 have hblk : ∀ o ∈ os', ∀ b, o.blk = some b → qh os b ∨ w.heap.size ≤ b := fun o ho b e => (Obj.gu (ht.at_ o ho) e).1
 have hnew : ∀ b, ok b → ∀ o ∈ os', o.blk ≠ some b := fun b hb o ho e => by
  rcases hblk o ho b e with h | h
  · exact hown1.off b h hb
  ·
   have := hok b hb
   omega
 refine ⟨v, r, os' ++ rest, rfl, ⟨os', hΦ, rfl⟩, ⟨?_, YE.2 ⟨ht.apart, hap.2.1, fun o ho p hp b e e' => ?_⟩, fun o ho => ?_⟩, cO.mono hz (fun _ _ => rfl) hv⟩
 · exact (GrE.refl w).step ht.gr fun b hb => .inl (hbl b hb)
 · exact hoff b (.inr (hblk o ho b e)) p hp e'
 ·
  rcases XJ.1 ho with ho | ho
  · exact ((ht.at_ o ho).move hz (fun _ _ => rfl) fun _ _ => rfl).oZ fun b e => (hblk o ho b e).imp (hbl b) id
  ·
   have hat := hown.at_ o (Ya _ ho)
   refine (hat.move (z' := okM ok (os ++ rest) w (os' ++ rest) w') (fun b hb => hz b ⟨.inl hb, XM (hok b hb) ht.gr.size, hnew b hb⟩) (fun p hp => ht.gr.cell (hok _ hp) fun hb => hown1.off _ hb hp) fun g e => ht.gr.block g (hrest o ho g e) fun hb => hoff g (.inr (.inl hb)) o ho e).oZ fun b e => .inl ⟨o, Ya _ ho, e⟩
section
variable {S : St} {ops : Array Oper} {o : Oper}
theorem gq {T e z y' : Nat} {s x : Operand} {v : Value} {ds es : List D} (ho : o.op = .call { callee := .builtin .append, args := #[s, x], argTypes := #[T, T] }) (hT : assoc slL T = some (e, z, y')) (hz : Nat.blt 0 z = true) (hs : ev S s = some (.val (.v v))) (hx : ev S x = some (.val (.sl z es))) (hlen : (ds.length + es.length) * y' ≤ 140737488355328 ∧ ds.length + es.length ≤ 9223372036854775807) :
  Ec ops S o [.row v e z ds] (fun r os' => ∃ v', r = .val (.v v') ∧ os' = [.row v' e z (ds ++ es)]) := .mk fun base ok a w ha hown => by
 have hs' := iT ha hs fun t e => aQ e (by rw [ho]; simp [Op.operands, Call.operands])
 obtain ⟨A, c, rows', h1, h2, h3, h4, h5, h6⟩ := wR (ha.ev hx fun t e => aQ e (by rw [ho]; simp [Op.operands, Call.operands]))
 obtain ⟨rows, h7, h8⟩ := hown.at_ (.row v e z ds) List.mem_cons_self
 obtain ⟨hl1, hl2⟩ := au.lens es rows' h6
 have hlen' : rows'.flatten.length = es.length * z := by
  have : ∀ rows : List (List Value), (∀ r ∈ rows, r.length = z) → rows.flatten.length = rows.length * z := by
   intro rows
   induction rows with
   | nil => simp
   | cons r rows ih =>
    intro h
    rw [X8, List.length_append, h r (by simp), ih fun r hr => h r (by simp [hr]), List.length_cons, YA, YQ, YV]
  rw [this rows' hl2, hl1]
 have hrd : Rd w w.heap.size A rows'.flatten := fun hn => by
  obtain ⟨b, n, e, hb, hc⟩ := h5 hn
  exact ⟨b, n, e, ha.lt b hb, hc⟩
 obtain ⟨A', c', w', hrun, hown', hgr, hblk⟩ := jL (P := Tryz.prog) (ty := o.type) (c := c) (Rk hT hz) h7.1 hlen' hrd (au.one es rows' h6) (by simp only [maxLen]; exact hlen.2) hlen.1 (XQ _)
 have hoff : ∀ b, ok b → v.ownBlock ≠ some b := fun b hb e => hown.off b ⟨_, List.mem_cons_self, e⟩ hb
 have hblk' : ∀ b, (Value.slice A' (ds.length + es.length) c').ownBlock = some b → v.ownBlock = some b ∨ w.heap.size ≤ b := fun b e' => by
  rcases hblk with h | h
  · exact .inl (h ▸ e')
  ·
   rw [h] at e'
   cases e'
   exact .inr (Nat.le_refl _)
 have hz' : ∀ b, ok b → okM ok [.row v e z ds] w [.row (.slice A' (ds.length + es.length) c') e z (ds ++ es)] w' b := fun b hb => ⟨.inl hb, XM (ha.lt b hb) hgr.size, fun o' ho' e' => by
  obtain rfl : o' = _ := by simpa using ho'
  rcases hblk' b e' with h | h
  · exact hoff b hb h
  ·
   have := ha.lt b hb
   omega⟩
 have hcell : ∀ p : Addr, ok p.block → w'.cell? p = w.cell? p := fun p hp => World.cell?_of_block (hgr.block _ (ha.lt _ hp) fun e' => hoff _ hp e'.symm)
 unfold execOp
 simp only [ho, resolve, invoke, builtin, XO, XR, XF, YW, X0, Yw, hs', h1, hrun, jq]
 refine ⟨.val (.v (.slice A' (ds.length + es.length) c')), [.row (.slice A' (ds.length + es.length) c') e z (ds ++ es)], ⟨_, rfl, rfl⟩, ⟨⟨hgr.os, hgr.tape, hgr.output, hgr.size, fun k hk hn => hgr.block k hk fun e' => hn ⟨_, List.mem_cons_self, e'.symm⟩⟩, by simp, fun o' ho' => ?_⟩, ?_⟩
 ·
  obtain rfl : o' = _ := by simpa using ho'
  refine ⟨rows ++ rows', ?_, au.append ds es rows rows' (au.mono hz' hcell z ds rows h8) (au.mono hz' hcell z es rows' h6)⟩
  rw [Yz, List.length_append]
  refine ⟨hown', fun b hb => ?_⟩
  rcases hblk' b hb with h | h
  · exact .inl ⟨_, List.mem_cons_self, h⟩
  · exact .inr h
 · exact bg.2 ⟨rfl, rfl⟩
end
def Visit (ops : Array Oper) (S : St) (o : Oper) (r : R) : Prop := ∃ os rest, S.objs.Perm (os ++ rest) ∧ Ec ops ⟨S.regs, rest, S.facts⟩ o os (fun r' os' => r' = r ∧ os' = os)
def OkV (N : Nat) (ops : Array Oper) (S : St) (o : Oper) (i : Inf) : Prop := OkI N ops S o i ∨ ∃ r, i = .grow r ∧ guardOf ops S o = some true ∧ Visit ops S o r
def EV (N : Nat) (ops : Array Oper) (T : St → List Fr → Prop) : List Oper → St → List Fr → Prop
 | [], S, E => T S E
 | o :: l, S, E => ∃ inf : Inf, inf.JL = true ∧ fF N o.dst E = true ∧ ((∃ T d, inf = .new T d) → o.dst ≠ none) ∧ OkV N ops S o inf ∧ EV N ops T l (S.put o.dst inf.reg) (wY E o.dst inf)
section
variable {N : Nat} {X : Cx N} {S S' : St} {a : Act} {w w' : World} {ops : Array Oper} {o : Oper} {Q : Exit → Act → World → Prop} {l : List Oper} {T : St → List Fr → Prop} {E : List Fr}
theorem EV.nil (h : T S E) : EV N ops T [] S E := h
theorem EV.seg {l2 : List Oper} : ∀ (l1 : List Oper) (S : St) (E : List Fr), EM N ops (fun S' E' => EV N ops T l2 S' E') l1 S E → EV N ops T (l1 ++ l2) S E
 | [], S, E, h => h
 | o :: l1, S, E, ⟨inf, h0, h1, h2, h3, h4⟩ => ⟨inf, h0, h1, h2, .inl h3, EV.seg l1 _ _ h4⟩
theorem EV.cut (k : Nat) (h : EM N ops (fun S' E' => EV N ops T (l.drop k) S' E') (l.take k) S E) : EV N ops T l S E := by
 have := EV.seg _ _ _ h
 rwa [X7] at this
theorem Mem.perm {os os' : List Obj} {fs : List (Value × D)} (h : os.Perm os') (hm : Mem X os fs w) : Mem X os' fs w :=
 ((Le.perm (X := X) (rs := []) (fs := fs) h) ⟨Array.replicate N undef, []⟩ w ⟨hm, (fun t r hr => by cases hr), by simp, rfl⟩).mem
abbrev Nw := Nat × Nat × TypeId × D
def Nw.pc (e : Nw) : Obj := .var e.2.1 e.2.2.1 e.2.2.2
structure RV (X : Cx N) (S : St) (a : Act) (infs : List Inf) (L : Nat → Prop) (vs : Nat → Value) (u : World) (nw : List Nw) : Prop where
 nd : (nw.map (·.1)).Nodup
 ok : ∀ e ∈ nw, L e.1 ∧ infs[e.1]? = some (.new e.2.2.1 e.2.2.2) ∧ vs e.1 = .pointer (some ⟨e.2.1, 0, none⟩)
 all : ∀ j T d, L j → infs[j]? = some (.new T d) → ∃ e ∈ nw, e.1 = j
 mem : Mem X (nw.map Nw.pc ++ S.objs) S.facts u
 val : ∀ j i, L j → infs[j]? = some i → cO (X.ok (nw.map Nw.pc ++ S.objs) u) u i.reg (vs j)
 old : ∀ t r, look S.regs t = some r → cO (X.ok (nw.map Nw.pc ++ S.objs) u) u r (a.tmps.getD t undef)
theorem RV.same {infs : List Inf} {L : Nat → Prop} {vs : Nat → Value} {u u' : World} {nw : List Nw} (h : RV X S a infs L vs u nw) {k : Nat} {i : Inf} (hk : ¬ L k) (hi : infs[k]? = some i) (hn : ∀ T d, i ≠ .new T d) (v : Value) (hm : Mem X (nw.map Nw.pc ++ S.objs) S.facts u') (hok : ∀ b, X.ok (nw.map Nw.pc ++ S.objs) u b → X.ok (nw.map Nw.pc ++ S.objs) u' b) (hc : ∀ p : Addr, X.ok (nw.map Nw.pc ++ S.objs) u p.block → u'.cell? p = u.cell? p) (hv : cO (X.ok (nw.map Nw.pc ++ S.objs) u') u' i.reg v) : RV X S a infs (fun j => j = k ∨ L j) (fun j => if j = k then v else vs j) u' nw := by
 refine ⟨h.nd, fun e he => ?_, fun j T d hj hij => ?_, hm, fun j i' hj hij => ?_, fun t r hr => (h.old t r hr).mono hok hc⟩
 ·
  obtain ⟨h1, h2, h3⟩ := h.ok e he
  exact ⟨.inr h1, h2, by rw [if_neg (show ¬ e.1 = k from fun e' => hk (by rw [← e']; exact h1))]; exact h3⟩
 ·
  rcases hj with rfl | hj
  · exact absurd (X3 (hi.symm.trans hij)) (hn T d)
  · exact h.all j T d hj hij
 ·
  by_cases e : j = k
  ·
   subst e
   rw [if_pos rfl]
   obtain rfl : i' = i := X3 (hij.symm.trans hi)
   exact hv
  ·
   rw [if_neg e]
   exact (h.val j i' (hj.resolve_left e) hij).mono hok hc
theorem RV.new {infs : List Inf} {L : Nat → Prop} {vs : Nat → Value} {u : World} {nw : List Nw} (h : RV X S a infs L vs u nw) {k : Nat} {Ty : TypeId} {d : D} {cs : List Value} (hk : ¬ L k) (hi : infs[k]? = some (.new Ty d)) (hcs : Reads (X.ok (nw.map Nw.pc ++ S.objs) u) u d cs) : RV X S a infs (fun j => j = k ∨ L j) (fun j => if j = k then .pointer (some ⟨u.heap.size, 0, none⟩) else vs j) (u.alloc (.cells cs.toArray Ty)) ((k, u.heap.size, Ty, d) :: nw) := by
 have hgr := ay u (.cells cs.toArray Ty)
 have hok : ∀ b, X.ok (nw.map Nw.pc ++ S.objs) u b → X.ok (((k, u.heap.size, Ty, d) :: nw : List Nw).map Nw.pc ++ S.objs) (u.alloc (.cells cs.toArray Ty)) b := fun b hb => ⟨hb.1, XM hb.2.1 hgr.size, fun o ho e => by
  rw [X0, Xr] at ho
  rcases XB.1 ho with rfl | ho
  ·
   cases e
   exact absurd hb.2.1 (Nat.lt_irrefl _)
  · exact hb.2.2 o ho e⟩
 have hc : ∀ p : Addr, X.ok (nw.map Nw.pc ++ S.objs) u p.block → (u.alloc (.cells cs.toArray Ty)).cell? p = u.cell? p := fun p hp => hgr.cell hp.2.1
 refine ⟨?_, fun e he => ?_, fun j T' d' hj hij => ?_, ?_, fun j i' hj hij => ?_, fun t r hr => (h.old t r hr).mono hok hc⟩
 ·
  rw [X0]
  refine Yy.2 ⟨fun hm => ?_, h.nd⟩
  obtain ⟨e, he, e'⟩ := XA.1 hm
  have e2 : e.1 = k := e'
  exact hk (by rw [← e2]; exact (h.ok e he).1)
 ·
  rcases XB.1 he with rfl | he
  · exact ⟨.inl rfl, hi, if_pos rfl⟩
  ·
   obtain ⟨h1, h2, h3⟩ := h.ok e he
   exact ⟨.inr h1, h2, by rw [if_neg (show ¬ e.1 = k from fun e' => hk (by rw [← e']; exact h1))]; exact h3⟩
 ·
  rcases hj with rfl | hj
  · exact ⟨_, List.mem_cons_self, rfl⟩
  ·
   obtain ⟨e, he, e'⟩ := h.all j T' d' hj hij
   exact ⟨e, Xw _ he, e'⟩
 ·
  have hat : At X ⟨[], nw.map Nw.pc ++ S.objs, S.facts⟩ ⟨Array.replicate N undef, []⟩ u := ⟨h.mem, (fun t r hr => by cases hr), by simp, rfl⟩
  exact (hat.new (q := .var u.heap.size Ty d) rfl ⟨.inr h.mem.gr.size, cs, heap_alloc_new u _, Reads.mono hok hc _ _ hcs⟩).mem
 ·
  by_cases e : j = k
  ·
   subst e
   obtain rfl : i' = .new Ty d := X3 (hij.symm.trans hi)
   trivial
  ·
   rw [if_neg e]
   exact (h.val j i' (hj.resolve_left e) hij).mono hok hc
theorem EV.Wn {l' : List Oper} {t : Tmp} {Ty : TypeId} {d : D} {rs : List (Tmp × R)} {os : List Obj} {fs : List (Value × D)} (h : ∀ g, EL X ops Q l' ⟨(t, .val (.v (.pointer (some ⟨g, 0, none⟩)))) :: rs, .var g Ty d :: os, fs⟩) : EV N ops (fun S' E => Bq (EL X ops Q l') E S') [] ⟨rs, os, fs⟩ [(t, Ty, d)] := h
end
section
variable {N : Nat} {X : Cx N} {S : St} {ops : Array Oper} {o : Oper} {Q : Exit → Act → World → Prop} {l' : List Oper} {TT : St → List Fr → Prop} {EE : List Fr} {rs : List (Tmp × R)} {os : List Obj} {fs : List (Value × D)} {w : World} {ok : Nat → Prop}
theorem Na {g n m : Nat} {l : List UInt8} {mid : List Value} (hm : Nat.ble m 4096 = true) (hg : g < w.heap.size) (hr : w.rangeAt g n mid) (h : Reads ok w (.arr m l) mid) : IsB w (.slice (some ⟨g, n, none⟩) m m) l := by
 obtain ⟨h1, h2⟩ : l.length = m ∧ mid = bvs l := by
  rw [Reads] at h
  exact ⟨h.1, h.2⟩
 subst h1 h2
 have := Nat.le_of_ble_eq_true hm
 exact ⟨_, l.length, rfl, Nat.le_refl _, by simp only [maxLen]; omega, fun _ => ⟨g, n, rfl, hg, hr⟩⟩
theorem Py {x : Operand} {g n m : Nat} {t : TypeId} {d : D} {l : List UInt8} (hm : Nat.ble m 4096 = true) (hs : d.sub n m true = some (.arr m l)) (ho : o.op = .convert 38 9 x) (hx : ev S x = some (.val (.v (.slice (some ⟨g, n, none⟩) m m)))) (i : Nat) (hi : S.objs[i]? = some (.var g t d)) : Still ops S o (.val (.v (.string (Go.Proofs.YtelbhdobjdnglaaGreat.bs l)))) := fun base ok a w ha => by
 have hx' := iT ha hx (dG (by rw [ho]; simp [Op.operands]))
 obtain ⟨_, cs, hh, hr⟩ := ha.objs _ (XZ hi)
 obtain ⟨e1, e2, pre, mid, post, rfl, e3, e4⟩ := nO d n m true _ cs hs hr
 have hr := l7 (jC hh)
 rw [XU, e3] at hr
 have hb : IsB w (a.eval x) l := by rw [hx']; exact Na hm (ZE.1 hh).1 hr e4
 refine ⟨_, ?_, jK rfl⟩
 unfold execOp
 simp only [ho, XO, zO hb, XF, XR]
theorem G7 {t ty : Nat} {pos : String} {af : Array Edge} {gd : Option (Nat × Bool)} {x : Operand} {g n m i : Nat} {T : TypeId} {d : D} {l : List UInt8} (hx : ev (⟨rs, os, fs⟩ : St) x = some (.val (.v (.slice (some ⟨g, n, none⟩) m m)))) (hi : os[i]? = some (.var g T d)) (hs : d.sub n m true = some (.arr m l)) (hm : Nat.ble m 4096 = true) (hg : guardOf ops ⟨rs, os, fs⟩ ⟨some t, .convert 38 9 x, ty, pos, af, gd⟩ = some true) (hoff : fF N (some t) EE = true) (kk : EM N ops TT l' ⟨(t, .val (.v (.string (Go.Proofs.YtelbhdobjdnglaaGreat.bs l)))) :: rs, os, fs⟩ EE) : EM N ops TT (⟨some t, .convert 38 9 x, ty, pos, af, gd⟩ :: l') ⟨rs, os, fs⟩ EE := EH.still (Py hm hs rfl hx i hi) hg rfl hoff kk
end
end E
end Go.Proofs.YtelbhdobjdnglaaGreat
namespace Go.Proofs.YtelbhdobjdnglaaGreat
set_option linter.unusedVariables false
open Go.RowKit Mono Rlp
open Go.ChangeMaps (setBlock)
namespace E
theorem AO.left {α β : Type} {R : α → β → Prop} : ∀ {l : List α} {m : List β}, AO R l m → ∀ a ∈ l, ∃ b ∈ m, R a b
 | _, _, .nil, a, h => by cases h
 | _, _, .cons h1 h2, a, h => by
  rcases XB.1 h with rfl | h
  · exact ⟨_, List.mem_cons_self, h1⟩
  ·
   obtain ⟨b, hb, hr⟩ := h2.left a h
   exact ⟨b, Xw _ hb, hr⟩
theorem AO.right {α β : Type} {R : α → β → Prop} : ∀ {l : List α} {m : List β}, AO R l m → ∀ b ∈ m, ∃ a ∈ l, R a b
 | _, _, .nil, a, h => by cases h
 | _, _, .cons h1 h2, a, h => by
  rcases XB.1 h with rfl | h
  · exact ⟨_, List.mem_cons_self, h1⟩
  ·
   obtain ⟨b, hb, hr⟩ := h2.right a h
   exact ⟨b, Xw _ hb, hr⟩
end E
end Go.Proofs.YtelbhdobjdnglaaGreat
namespace Go.Proofs.YtelbhdobjdnglaaGreat
set_option linter.unusedVariables false
open Go.RowKit Mono Rlp
namespace E
def xI (k z : Nat) : Value → Value
 | .slice A n c => .slice (if c = k then A else A.map (·.add (k * z))) (n - k) (c - k)
 | v => v
section
variable {N : Nat} {X : Cx N} {S : St} {ops : Array Oper} {o : Oper} {Q : Exit → Act → World → Prop} {l : List Oper} {rs : List (Tmp × R)} {os os' : List Obj} {fs : List (Value × D)}
theorem kZ {x y : Operand} {T e z b : Nat} {k : Int} {v : Value} {ds : List D} (ho : o.op = .slice T x (some y) none none) (hx : ev S x = some (.val (.v v))) (i : Nat) (hi : S.objs[i]? = some (.row v e z ds)) (hy : ev S y = some (.val (.v (.int .i64 k)))) (hT : assoc slL T = some (e, z, b)) (hk : 0 ≤ k ∧ k.toNat ≤ ds.length) : Still ops S o (.val (.v (xI k.toNat z v))) := fun base ok a w ha => by
 have hx' := iT ha hx (dG (by rw [ho]; simp [Op.operands]))
 have hy' := iT ha hy (dG (by rw [ho]; simp [Op.operands]))
 obtain ⟨rows, ⟨h1, _⟩, _⟩ := ha.objs _ (XZ hi)
 obtain ⟨hu, hs⟩ := qP hT
 have hf : ∃ A c, v = .slice A ds.length c ∧ ds.length ≤ c := by
  rcases h1.2 with ⟨e1, e2⟩ | ⟨g, c, cur, e1, _, _, e3, _⟩
  · exact ⟨none, 0, by rw [e1, e2], by omega⟩
  · exact ⟨_, c, e1, e3⟩
 obtain ⟨A, c, rfl, hc⟩ := hf
 refine ⟨xI k.toNat z (.slice A ds.length c), ?_, jK (by unfold xI; rfl)⟩
 unfold execOp
 have hr : (Instr.sliceAt T (.slice A ds.length c) (some (.int .i64 k)) none none).run Tryz.prog w = .ok (xI k.toNat z (.slice A ds.length c)) w := by
  rw [run_sliceAt_slice (P := Tryz.prog) w T _ _ _ _ hu, run_slice_l (P := Tryz.prog) w T A ds.length c hu .i64 k hk.1 (by omega), hs]
  rfl
 simp only [ho, hx', hy', Zc, YI, XO, hr, XF, XR]
end
end E
end Go.Proofs.YtelbhdobjdnglaaGreat
