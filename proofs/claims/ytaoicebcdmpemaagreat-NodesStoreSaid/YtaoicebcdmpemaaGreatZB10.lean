/-
 Merged: lemmas of this claim.
 Conditions: none.
-/
import Derived.Test.YtaoicebcdmpemaaGreatZB9
import Derived.Laws.Slices
import Derived.Test.YtaoicebcdmpemaaGreatZB5
import Derived.Test.YtaoicebcdmpemaaGreatZB0
namespace Go.Proofs.YtaoicebcdmpemaaGreat
set_option linter.unusedVariables false
open Go.RowKit Mono Rlp
namespace E
def aF (v : Value) (n : Nat) : Value :=
 match v with
 | .slice (some a) _ _ => .pointer (some ⟨a.block, a.off + n, none⟩)
 | _ => .pointer none
theorem jm (v : Value) (n : Nat) : (aF v n).oneCell' = true := by
 unfold aF
 split <;> rfl
def sF (S : St) : List Operand → Option (List Value)
 | [] => some []
 | x :: xs => match ev S x, sF S xs with
  | some (.val (.v v)), some vs => some (v :: vs)
  | _, _ => none
section
variable {N : Nat} {X : Cx N} {S S' : St} {a : Act} {w w' : World} {ops : Array Oper} {o : Oper} {Q : Exit → Act → World → Prop} {l : List Oper} {TT : St → List Fr → Prop} {EE : List Fr} {rs : List (Tmp × R)} {os : List Obj} {fs : List (Value × D)} {base ok : Nat → Prop} {L : Tmp → Prop}
variable {t ty : Nat} {pos : String} {af : Array Edge} {gd : Option (Nat × Bool)}
theorem rP {T K n e : Nat} (h : assoc jT T = some (K, n, e)) : Tryz.prog.underlying T = some (.map K e) ∧ sS K n := GZ (by
 have := KQ.1 Ef _ (dJ _ _ _ h)
 simpa using this)
theorem zvI {T : Nat} {d : D} (h : assoc bY T = some d) : vK T d := qX.get _ _ _ Gq h
theorem cnI {T : Nat} (h : cnL.contains T = true) : ∃ d, Tryz.prog.underlying T = some d ∧ ∀ ms, d ≠ .interface ms := by
 have := KQ.1 Ih T (by simpa using h)
 unfold cnB at this
 split at this
 · cases this
 ·
  rename_i d hd h1
  exact ⟨d, h1, fun ms e => hd ms e⟩
 · cases this
theorem aA {x : Operand} (h : x ∈ o.op.operands.toList) : ∀ t, x = .tmp t → t ∈ o.looksAt ops := fun t e => ak e h
theorem yC {x : Operand} {p : Addr} (ho : o.op = .nilCheck x) (hx : ev S x = some (.val (.v (.pointer (some p))))) : Still ops S o (.val (.v (.pointer (some p)))) := fun base ok a w ha => by
 have h1 := dh ha hx (aA (by rw [ho]; simp [Op.operands]))
 refine ⟨_, ?_, dM rfl⟩
 unfold execOp
 simp only [ho, h1, Ku]
theorem Jd {d : D} {x : Value} (h : aP ok w (.pd d) x) : ∃ b n cs, x = .pointer (some ⟨b, n, none⟩) ∧ ok b ∧ w.rangeAt b n cs ∧ Reads ok w d cs := by
 have h1 := (aI rfl).1 h
 rw [Reads] at h1
 obtain ⟨b, n, cs, h2, h3, h4, h5⟩ := h1
 exact ⟨b, n, cs, by simpa using h2, h3, h4, h5⟩
theorem oD {x : Operand} {d : D} (ho : o.op = .nilCheck x) (hx : ev S x = some (.val (.pd d))) : Still ops S o (.val (.pd d)) := fun base ok a w ha => by
 have h0 := ha.ev hx (aA (by rw [ho]; simp [Op.operands]))
 obtain ⟨b, n, cs, h1, _⟩ := Jd h0
 refine ⟨a.eval x, ?_, h0⟩
 unfold execOp
 simp only [ho, h1, Ku]
theorem yD {T : Nat} {x : Operand} {d : D} (ho : o.op = .makeInterface T x) (hx : ev S x = some (.val d)) (hT : cnL.contains T = true) : Still ops S o (.val (.ifc T d)) := fun base ok a w ha => by
 obtain ⟨cs, h1, h2⟩ := ha.ev hx (aA (by rw [ho]; simp [Op.operands]))
 obtain ⟨de, h3, h4⟩ := cnI hT
 refine ⟨.iface T (a.eval x), ?_, (aI rfl).2 (by rw [Reads]; exact ⟨cs, by rw [h2], h1⟩)⟩
 unfold execOp
 have hr : (Instr.makeInterface T (a.eval x)).run Tryz.prog w = .ok (.iface T (a.eval x)) w := by
  unfold Instr.makeInterface
  rw [Kq, run_underlying h3, J6]
  cases de <;> first | exact absurd rfl (h4 _) | rfl
 simp only [ho, Kq, hr, J6, Ku]
theorem xA {T : TypeId} {d : D} {x : Value} (h : aP ok w (.ifc T d) x) : ∃ cs, x = .iface T (form d cs) ∧ Reads ok w d cs := by
 have h1 := (aI rfl).1 h
 rw [Reads] at h1
 obtain ⟨cs, h2, h3⟩ := h1
 exact ⟨cs, by simpa using h2, h3⟩
theorem EF {x : Operand} {T : Nat} {U : TypeId} {d : D} (ho : o.op = .typeAssert x U T true) (hx : ev S x = some (.val (.ifc T d))) (hT : cnL.contains T = true) : Still ops S o (.tpl [d, .v (.bool true)]) := fun base ok a w ha => by
 obtain ⟨cs, h1, h2⟩ := xA (ha.ev hx (aA (by rw [ho]; simp [Op.operands])))
 obtain ⟨de, h3, h4⟩ := cnI hT
 refine ⟨.tuple #[form d cs, .bool true], ?_, [form d cs, .bool true], rfl, _, _, rfl, ⟨cs, h2, rfl⟩, _, _, rfl, dM rfl, rfl⟩
 unfold execOp
 have hr : (Instr.typeAssert (.iface T (form d cs)) U T true).run Tryz.prog w = .ok (.tuple #[form d cs, .bool true]) w := by
  simp only [Instr.typeAssert, Kq, run_underlying h3, J6]
  cases de <;> first | exact absurd rfl (h4 _) | simp
 simp only [ho, h1, Kq, hr, J6, Ku]
theorem H7 {x : Operand} {T T1 : Nat} {U : TypeId} {d dz : D} (ho : o.op = .typeAssert x U T true) (hx : ev S x = some (.val (.ifc T1 d))) (hT : cnL.contains T = true) (hne : Nat.beq T1 T = false) (hz : assoc bY T = some dz) : Still ops S o (.tpl [dz, .v (.bool false)]) := fun base ok a w ha => by
 obtain ⟨cs, h1, h2⟩ := xA (ha.ev hx (aA (by rw [ho]; simp [Op.operands])))
 obtain ⟨de, h3, h4⟩ := cnI hT
 obtain ⟨z, h5, h6⟩ := (zvI hz).get
 have hne' : ¬ T1 = T := fun e => by subst e; simp at hne
 refine ⟨.tuple #[z, .bool false], ?_, [z, .bool false], rfl, _, _, rfl, h6 _ _, _, _, rfl, dM rfl, rfl⟩
 unfold execOp
 have hr : (Instr.typeAssert (.iface T1 (form d cs)) U T true).run Tryz.prog w = .ok (.tuple #[z, .bool false]) w := by
  simp only [Instr.typeAssert, Kq, run_underlying h3, J6]
  cases de <;> first | exact absurd rfl (h4 _) | simp [hne', h5]
 simp only [ho, h1, Kq, hr, J6, Ku]
theorem EG {x : Operand} {T : Nat} {U : TypeId} {dz : D} (ho : o.op = .typeAssert x U T true) (hx : ev S x = some (.val (.v .nilIface))) (hT : cnL.contains T = true) (hz : assoc bY T = some dz) : Still ops S o (.tpl [dz, .v (.bool false)]) := fun base ok a w ha => by
 have h1 := dh ha hx (aA (by rw [ho]; simp [Op.operands]))
 obtain ⟨de, h3, h4⟩ := cnI hT
 obtain ⟨z, h5, h6⟩ := (zvI hz).get
 refine ⟨.tuple #[z, .bool false], ?_, [z, .bool false], rfl, _, _, rfl, h6 _ _, _, _, rfl, dM rfl, rfl⟩
 unfold execOp
 have hr : (Instr.typeAssert .nilIface U T true).run Tryz.prog w = .ok (.tuple #[z, .bool false]) w := by
  simp only [Instr.typeAssert, Kq, run_underlying h3, J6]
  cases de <;> first | exact absurd rfl (h4 _) | simp [h5]
 simp only [ho, h1, Kq, hr, J6, Ku]
theorem Kn.map {L : Tmp → Prop} (h : Kn base ok L S a w) {i g n c : Nat} {es : List Ent} (hi : S.objs[i]? = some (.map g n c es)) : Obj.At base ok w (.map g n c es) := h.objs _ (KE hi)
theorem BM {x y : Operand} {T K n E g c : Nat} {es : List Ent} {l1 : List UInt8} {dz d' : D} (hget : (aX es l1).getD dz = d') (ho : o.op = .lookup T x y false) (hx : ev S x = some (.val (.v (.map (some g))))) (i : Nat) (hi : S.objs[i]? = some (.map g n c es)) (hy : ev S y = some (.val (.arr n l1))) (hT : assoc jT T = some (K, n, E)) (hz : assoc bY E = some dz) : Still ops S o (.val d') := fun base ok a w ha => by
 have h1 := dh ha hx (aA (by rw [ho]; simp [Op.operands]))
 obtain ⟨h2, h3⟩ := jD (ha.ev hy (aA (by rw [ho]; simp [Op.operands])))
 obtain ⟨v, h4, h5⟩ := nD (rP hT).1 (rP hT).2 (zvI hz) (ha.map hi) l1 h2 false
 refine ⟨v, ?_, by rw [← hget]; exact h5⟩
 unfold execOp
 simp only [ho, h1, h3, Kq, h4, J6, Ku]
 rfl
theorem zH {x y : Operand} {T K n E g c : Nat} {es : List Ent} {l1 : List UInt8} {dz d' : D} {b : Bool} (hget : (aX es l1).getD dz = d' ∧ (aX es l1).isSome = b) (ho : o.op = .lookup T x y true) (hx : ev S x = some (.val (.v (.map (some g))))) (i : Nat) (hi : S.objs[i]? = some (.map g n c es)) (hy : ev S y = some (.val (.arr n l1))) (hT : assoc jT T = some (K, n, E)) (hz : assoc bY E = some dz) : Still ops S o (.tpl [d', .v (.bool b)]) := fun base ok a w ha => by
 have h1 := dh ha hx (aA (by rw [ho]; simp [Op.operands]))
 obtain ⟨h2, h3⟩ := jD (ha.ev hy (aA (by rw [ho]; simp [Op.operands])))
 obtain ⟨v, h4, h5⟩ := nD (rP hT).1 (rP hT).2 (zvI hz) (ha.map hi) l1 h2 true
 refine ⟨.tuple #[v, .bool b], ?_, [v, .bool b], rfl, _, _, rfl, by rw [← hget.1]; exact h5, _, _, rfl, dM rfl, rfl⟩
 unfold execOp
 simp only [ho, h1, h3, Kq, h4, J6, Ku, if_true, hget.2]
theorem uJ {x : Operand} {T K n E g c : Nat} {es : List Ent} (ho : o.op = .call { callee := .builtin .len, args := #[x], argTypes := #[T] }) (hx : ev S x = some (.val (.v (.map (some g))))) (i : Nat) (hi : S.objs[i]? = some (.map g n c es)) (hT : assoc jT T = some (K, n, E)) : Still ops S o (.val (.v (.int .i64 es.length))) := fun base ok a w ha => by
 have h1 := dh ha hx (aA (by rw [ho]; simp [Op.operands, Call.operands]))
 have hr := wu o.type (rP hT).1 (ha.map hi)
 refine ⟨_, ?_, dM rfl⟩
 unfold execOp
 simp only [ho, resolve, invoke, builtin, Kq, Ku, J6, LV, KD, KU, h1, hr]
theorem kP {z : Nat} : ∀ rows : List (List Value), (∀ r ∈ rows, r.length = z) → rows.flatten.length = rows.length * z
 | [], _ => by simp
 | r :: rows, h => by
  rw [KG, List.length_append, h r (by simp), kP rows fun r hr => h r (by simp [hr]), KN, LW, Md, Nat.add_comm]
theorem uS {z : Nat} : ∀ (rows : List (List Value)) (k : Nat) (r : List Value), (∀ r ∈ rows, r.length = z) → rows[k]? = some r → ∃ A B, rows.flatten = A ++ r ++ B ∧ A.length = k * z ∧ ∀ r', (rows.set k r').flatten = A ++ r' ++ B
 | [], k, r, _, h => by simp at h
 | x :: rows, 0, r, hl, h => by
  cases h
  exact ⟨[], rows.flatten, by simp, by simp, fun r' => by simp⟩
 | x :: rows, k + 1, r, hl, h => by
  obtain ⟨A, B, h1, h2, h3⟩ := uS rows k r (fun r hr => hl r (by simp [hr])) (by simpa using h)
  refine ⟨x ++ A, B, by simp [h1], ?_, fun r' => ?_⟩
  · rw [List.length_append, h2, hl x (by simp), LW, Md, Nat.add_comm]
  ·
   rw [L9, KG, h3 r']
   simp
theorem ah.set {z : Nat} : ∀ (ds : List D) (rows : List (List Value)) (k : Nat) (d : D) (r : List Value), ah ok w z ds rows → Reads ok w d r → r.length = z → ah ok w z (ds.set k d) (rows.set k r)
 | [], rows, k, d, r, h, _, _ => by rw [ah] at h; subst h; simp only [List.set_nil]; rw [ah]
 | e :: ds, rows, k, d, r, h, hd, hr => by
  rw [ah] at h
  obtain ⟨x, rest, rfl, h1, h2, h3⟩ := h
  cases k with
  | zero => rw [MJ, MJ, ah]; exact ⟨r, rest, rfl, hr, hd, h3⟩
  | succ k => rw [L9, L9, ah]; exact ⟨x, _, rfl, h1, h2, ah.set ds rest k d r h3 hd hr⟩
structure qQ (base ok : Nat → Prop) (w : World) (v : Value) (e z : Nat) (ds : List D) (g c : Nat) (cur : Array Value) (rows : List (List Value)) : Prop where
 val : v = .slice (some ⟨g, 0, none⟩) ds.length c
 heap : w.heap[g]? = some (.cells cur e (0, 0))
 cells : cur.toList.take (ds.length * z) = rows.flatten
 size : cur.size = c * z
 le : ds.length ≤ c
 max : c ≤ maxLen
 rows : ah ok w z ds rows
 mine : base g
theorem row_in {e z : Nat} {v : Value} {ds : List D} (h : Obj.At base ok w (.row v e z ds)) (h0 : 0 < ds.length) : ∃ g c cur rows, qQ base ok w v e z ds g c cur rows := by
 obtain ⟨rows, ⟨h1, hb⟩, h2⟩ := h
 rcases h1.2 with ⟨_, e⟩ | ⟨g, c, cur, e1, _, e2, e3, e4, e5, e6⟩
 · omega
 · exact ⟨g, c, cur, rows, e1, e2, e6, e5, e3, e4, h2, hb g (by rw [e1]; rfl)⟩
theorem qQ.at {e z g c : Nat} {v : Value} {ds : List D} {cur : Array Value} {rows : List (List Value)} (h : qQ base ok w v e z ds g c cur rows) : Obj.At base ok w (.row v e z ds) := by
 refine ⟨rows, ⟨⟨?_, .inr ⟨g, c, cur, h.val, Lm _, h.heap, h.le, h.max, h.size, h.cells⟩⟩, fun b hb => ?_⟩, h.rows⟩
 ·
  obtain ⟨h1, h2⟩ := ah.lens ds rows h.rows
  rw [kP rows h2, h1]
 ·
  rw [h.val] at hb
  cases hb
  exact h.mine
theorem qQ.elem {e z g c : Nat} {v : Value} {ds : List D} {cur : Array Value} {rows : List (List Value)} (h : qQ base ok w v e z ds g c cur rows) {k : Nat} {d : D} (hk : ds[k]? = some d) : ∃ r A B, rows[k]? = some r ∧ r.length = z ∧ Reads ok w d r ∧ cur.toList = A ++ r ++ B ∧ A.length = k * z ∧ ∀ r', r'.length = z → (A ++ r' ++ B).take (ds.length * z) = (rows.set k r').flatten := by
 obtain ⟨hk', rfl⟩ := Kw.1 hk
 obtain ⟨r, h1, h2, h3⟩ := ah.get ds rows h.rows k hk'
 obtain ⟨hl1, hl2⟩ := ah.lens ds rows h.rows
 obtain ⟨A, B, g1, g2, g3⟩ := uS rows k r hl2 h1
 obtain ⟨sp, hsplit⟩ : ∃ sp, cur.toList = rows.flatten ++ sp := ⟨cur.toList.drop (ds.length * z), by rw [← h.cells, LK]⟩
 refine ⟨r, A, B ++ sp, h1, h2, h3, by rw [hsplit, g1]; simp, g2, fun r' hr' => ?_⟩
 have hlen : (A ++ r' ++ B).length = ds.length * z := by
  have := congrArg List.length g1
  rw [kP rows hl2, hl1] at this
  simp only [List.length_append] at this ⊢
  omega
 rw [g3 r', ← KY, List.take_left' hlen]
theorem uH {x y : Operand} {T e z b : Nat} {k : Int} {v : Value} {ds : List D} (ho : o.op = .indexAddr T x y) (hx : ev S x = some (.val (.v v))) (i : Nat) (hi : S.objs[i]? = some (.row v e z ds)) (hy : ev S y = some (.val (.v (.int .i64 k)))) (hT : assoc slL T = some (e, z, b)) (hk : 0 ≤ k ∧ k.toNat < ds.length) : Still ops S o (.val (.v (aF v (k.toNat * z)))) := fun base ok a w ha => by
 have hx' := dh ha hx (aA (by rw [ho]; simp [Op.operands]))
 have hy' := dh ha hy (aA (by rw [ho]; simp [Op.operands]))
 obtain ⟨g, c, cur, rows, H⟩ := row_in (ha.objs _ (KE hi)) (by omega)
 refine ⟨_, ?_, dM (jm _ _)⟩
 have hlt : k < (ds.length : Int) := by omega
 unfold execOp
 simp [ho, hx', hy', H.val, Instr.indexAt, run_underlying (slI hT).und, asIntOf, hk.1, hlt, iW (slI hT).size, bM, aF]
theorem uG {x : Operand} {e z n : Nat} {v : Value} {ds : List D} (ho : o.op = .nilCheck x) (hx : ev S x = some (.val (.v (aF v n)))) (i : Nat) (hi : S.objs[i]? = some (.row v e z ds)) (hk : 0 < ds.length) : Still ops S o (.val (.v (aF v n))) := fun base ok a w ha => by
 have hx' := dh ha hx (aA (by rw [ho]; simp [Op.operands]))
 obtain ⟨g, c, cur, rows, H⟩ := row_in (ha.objs _ (KE hi)) hk
 refine ⟨_, ?_, dM (jm _ _)⟩
 unfold execOp
 simp only [ho, hx', H.val, aF, Ku]
theorem oC {x : Operand} {T k off sz e z n : Nat} {ag : Bool} {v : Value} {ds : List D} {lf : List (Nat × Nat × Bool)} (ho : o.op = .fieldAddr T x k) (hx : ev S x = some (.val (.v (aF v n)))) (i : Nat) (hi : S.objs[i]? = some (.row v e z ds)) (hk0 : 0 < ds.length) (h : assoc stL T = some lf) (hk : lf[k]? = some (off, sz, ag)) (h0 : Nat.blt 0 sz = true) : Still ops S o (.val (.v (aF v (n + off)))) := fun base ok a w ha => by
 have hx' := dh ha hx (aA (by rw [ho]; simp [Op.operands]))
 obtain ⟨g, c, cur, rows, H⟩ := row_in (ha.objs _ (KE hi)) hk0
 refine ⟨_, ?_, dM (jm _ _)⟩
 unfold execOp
 have e1 : aF v n = .pointer (some ⟨g, n, none⟩) := by rw [H.val]; simp [aF]
 have e2 : aF v (n + off) = .pointer (some ⟨g, n + off, none⟩) := by rw [H.val]; simp [aF]
 simp only [ho, hx', e1, e2, Kq, iZ (H8 h hk h0), J6, Ku]
theorem qE {x : Operand} {T sz e z n k off : Nat} {ag : Bool} {v : Value} {ds : List D} {d d' : D} (hk : n = k * z + off ∧ ds[k]? = some d) (ho : o.op = .load T x) (hx : ev S x = some (.val (.v (aF v n)))) (i : Nat) (hi : S.objs[i]? = some (.row v e z ds)) (hT : assoc tyL T = some (sz, ag)) (hs : d.sub off sz ag = some d') : Still ops S o (.val d') := fun base ok a w ha => by
 have hx' := dh ha hx (aA (by rw [ho]; simp [Op.operands]))
 obtain ⟨g, c, cur, rows, H⟩ := row_in (ha.objs _ (KE hi)) (by have := (Kw.1 hk.2).1; omega)
 obtain ⟨r, A, B, h1, h2, h3, h4, h5, _⟩ := H.elem hk.2
 obtain ⟨e1, e2, pre, mid, post, rfl, e3, e4⟩ := gB d off sz ag d' r hs h3
 have hh : w.heap[g]? = some (.cells (A ++ (pre ++ mid ++ post) ++ B).toArray e (0, 0)) := by rw [← h4]; exact H.heap
 have hr := dA hh
 rw [show A ++ (pre ++ mid ++ post) ++ B = (A ++ pre) ++ mid ++ (post ++ B) by simp] at hr
 have hr := fF hr
 rw [KJ, List.length_append, h5, e3, ← hk.1] at hr
 refine ⟨form d' mid, ?_, mid, e4, rfl⟩
 have ep : aF v n = .pointer (some ⟨g, n, none⟩) := by rw [H.val]; simp [aF]
 unfold execOp
 simp only [ho, hx', ep, Kq, fD (d := d') (by rw [e1, e2]; exact tyI hT) e4 hr, J6, Ku]
theorem uX {T e z b : Nat} (hT : assoc slL T = some (e, z, b)) : Tryz.prog.underlying T = some (.slice (Tryz.prog.elem T)) ∧ ∀ w, (sizeOf (Tryz.prog.elem T)).run Tryz.prog w = .ok z w := by
 have h := slI hT
 have : Tryz.prog.elem T = e := by
  unfold Program.elem
  rw [h.und]
 rw [this]
 exact ⟨h.und, iW h.size⟩
theorem AV {A : Option Addr} {xs : List Value} (h : RdP ok w A xs) (m : Nat) : RdP ok w A (xs.take m) := fun hn => by
 obtain ⟨b, o, e, hb, hc⟩ := h (fun e => hn (by rw [e]; simp))
 refine ⟨b, o, e, hb, fun j u hu => hc j u ?_⟩
 rw [Np] at hu
 split at hu
 · exact hu
 · cases hu
theorem zN {z : Nat} (rows : List (List Value)) (h : ∀ r ∈ rows, r.length = z) : ∀ k, (rows.take k).flatten = rows.flatten.take (k * z) := by
 induction rows with
 | nil => intro k; simp
 | cons r rows ih =>
  intro k
  cases k with
  | zero => simp
  | succ k =>
   have hr := h r (by simp)
   rw [J5, KG, KG, ih (fun r hr => h r (by simp [hr])) k, LW, Md, List.take_append, List.take_of_length_le (by omega : r.length ≤ k * z + z)]
   congr 2
   omega
theorem zO {z : Nat} (rows : List (List Value)) (h : ∀ r ∈ rows, r.length = z) : ∀ k, (rows.drop k).flatten = rows.flatten.drop (k * z) := by
 induction rows with
 | nil => intro k; simp
 | cons r rows ih =>
  intro k
  cases k with
  | zero => simp
  | succ k =>
   have hr := h r (by simp)
   rw [J4, KG, ih (fun r hr => h r (by simp [hr])) k, LW, Md, List.drop_append, List.drop_of_length_le (by omega : r.length ≤ k * z + z), J8]
   congr 1
   omega
theorem Gf {z c : Nat} {A : Option Addr} {ds : List D} {rows : List (List Value)} (h1 : ds.length ≤ c) (h2 : c ≤ maxLen) (h3 : A = none → ds.length = 0 ∧ c = 0) (h4 : RdP ok w A rows.flatten) (h5 : ah ok w z ds rows) : aP ok w (.sl z ds) (.slice A ds.length c) := (aI rfl).2 (by rw [Reads]; exact ⟨A, c, rows, rfl, h1, h2, h3, h4, h5⟩)
theorem BI {x y : Operand} {T e z b : Nat} {k : Int} {ds : List D} (ho : o.op = .slice T x none (some y) none) (hx : ev S x = some (.val (.sl z ds))) (hy : ev S y = some (.val (.v (.int .i64 k)))) (hT : assoc slL T = some (e, z, b)) (hk : 0 ≤ k ∧ k.toNat ≤ ds.length) : Still ops S o (.val (.sl z (ds.take k.toNat))) := fun base ok a w ha => by
 obtain ⟨A, c, rows, h1, h2, h3, h4, h5, h6⟩ := ny (ha.ev hx (aA (by rw [ho]; simp [Op.operands])))
 have hy' := dh ha hy (aA (by rw [ho]; simp [Op.operands]))
 obtain ⟨hu, hs⟩ := uX hT
 have hlen : (ds.take k.toNat).length = k.toNat := by rw [L6]; omega
 refine ⟨.slice A k.toNat c, ?_, by
  have := Gf (ok := ok) (w := w) (A := A) (c := c) (ds := ds.take k.toNat) (rows := rows.take k.toNat) (z := z) (by omega) h3 (fun e => by have := h4 e; omega) (by rw [zN rows (ah.lens ds rows h6).2]; exact AV h5 _) (ah.take ds rows k.toNat h6)
  rwa [hlen] at this⟩
 unfold execOp
 have hr : (Instr.sliceAt T (.slice A ds.length c) none (some (.int .i64 k)) none).run Tryz.prog w = .ok (.slice A k.toNat c) w := by
  rw [run_sliceAt_slice (P := Tryz.prog) w T _ _ _ _ hu, run_slice_h (P := Tryz.prog) w T A ds.length c hu .i64 k hk.1 (by omega), hs]
  cases A with
  | none => simp [sliced, Result.andThen]
  | some p =>
   have : p.add 0 = p := by cases p; simp [Addr.add]
   simp [sliced, Result.andThen, this]
 simp only [ho, h1, hy', Option.map_none, Nk, Kq, hr, J6, Ku]
theorem AX {z : Nat} {A : Option Addr} {xs : List Value} {n c : Nat} (h : RdP ok w A xs) (hn : xs.length = n * z) (hc : n ≤ c) (k : Nat) (hk : k ≤ n) : RdP ok w (if c = k then A else A.map (·.add (k * z))) (xs.drop (k * z)) := fun hne => by
 have hlt : k * z < xs.length := by
  rcases KP (k * z) xs.length with h1 | h1
  · exact h1
  · exact absurd (LJ h1) hne
 have hk' : k < n := by
  rcases KP k n with h1 | h1
  · exact h1
  ·
   have := Nb z h1
   omega
 obtain ⟨b, o, rfl, hb, hcell⟩ := h (fun e => by rw [e] at hlt; simp at hlt)
 rw [if_neg (by omega)]
 refine ⟨b, o + k * z, by simp [bM], hb, fun j u hu => ?_⟩
 rw [Nc]
 exact hcell _ u (by rw [← hu, Nl])
theorem BJ {x y : Operand} {T e z b : Nat} {k : Int} {ds : List D} (ho : o.op = .slice T x (some y) none none) (hx : ev S x = some (.val (.sl z ds))) (hy : ev S y = some (.val (.v (.int .i64 k)))) (hT : assoc slL T = some (e, z, b)) (hk : 0 ≤ k ∧ k.toNat ≤ ds.length) : Still ops S o (.val (.sl z (ds.drop k.toNat))) := fun base ok a w ha => by
 obtain ⟨A, c, rows, h1, h2, h3, h4, h5, h6⟩ := ny (ha.ev hx (aA (by rw [ho]; simp [Op.operands])))
 have hy' := dh ha hy (aA (by rw [ho]; simp [Op.operands]))
 obtain ⟨hu, hs⟩ := uX hT
 obtain ⟨hl1, hl2⟩ := ah.lens ds rows h6
 have hlen : (ds.drop k.toNat).length = ds.length - k.toNat := by rw [List.length_drop]
 refine ⟨.slice (if c = k.toNat then A else A.map (·.add (k.toNat * z))) (ds.length - k.toNat) (c - k.toNat), ?_, by
  have := Gf (ok := ok) (w := w) (A := if c = k.toNat then A else A.map (·.add (k.toNat * z))) (c := c - k.toNat) (ds := ds.drop k.toNat) (rows := rows.drop k.toNat) (z := z) (by omega) (by omega) (fun e => by
   have : A = none := by
    split at e
    · exact e
    · simpa using e
   have := h4 this
   omega) (by rw [zO rows hl2]; exact AX h5 (by rw [kP rows hl2, hl1]) h2 _ hk.2) (ah.drop ds rows k.toNat h6)
  rwa [hlen] at this⟩
 unfold execOp
 have hr : (Instr.sliceAt T (.slice A ds.length c) (some (.int .i64 k)) none none).run Tryz.prog w = .ok (.slice (if c = k.toNat then A else A.map (·.add (k.toNat * z))) (ds.length - k.toNat) (c - k.toNat)) w := by
  rw [run_sliceAt_slice (P := Tryz.prog) w T _ _ _ _ hu, run_slice_l (P := Tryz.prog) w T A ds.length c hu .i64 k hk.1 (by omega), hs]
  rfl
 simp only [ho, h1, hy', Option.map_none, Nk, Kq, hr, J6, Ku]
theorem lG : ∀ (xs : List Operand) (vs : List Value), sF S xs = some vs → (∀ t, .tmp t ∈ xs → L t) → Kn base ok L S a w → xs.map a.eval = vs
 | [], vs, h, _, _ => by cases h; rfl
 | x :: xs, vs, h, hL, ha => by
  rw [sF] at h
  split at h
  ·
   rename_i v vs' h1 h2
   cases h
   rw [KD, dh ha h1 fun t e => hL t (by simp [e]), lG xs vs' h2 (fun t ht => hL t (by simp [ht])) ha]
  · cases h
theorem uI {f : FuncId} {caps : Array Operand} {xs : List Value} (ho : o.op = .makeFunc (.func f) #[] caps) (hx : sF S caps.toList = some xs) : Still ops S o (.val (.v (.func (.func f) #[] xs.toArray))) := fun base ok a w ha => by
 have h1 := lG caps.toList xs hx (fun t ht => ak (x := .tmp t) rfl (by rw [ho]; simp [Op.operands]; simpa using ht)) ha
 refine ⟨_, ?_, dM rfl⟩
 unfold execOp
 have h2 : caps.map a.eval = xs.toArray := by
  apply Array.ext'
  simpa using h1
 simp only [ho, h2, Instr.makeFunc, Kq, Ku, J6, LV, KU]
end
section
variable {N : Nat} {X : Cx N} {S S' : St} {a : Act} {w w' : World} {ops : Array Oper} {o : Oper} {Q : Exit → Act → World → Prop} {l : List Oper} {TT : St → List Fr → Prop} {EE : List Fr} {rs : List (Tmp × R)} {os : List Obj} {fs : List (Value × D)}
variable {t ty : Nat} {pos : String} {af : Array Edge} {gd : Option (Nat × Bool)}
theorem Fz {x : Operand} {p : Addr} (hx : ev (⟨rs, os, fs⟩ : St) x = some (.val (.v (.pointer (some p))))) : PS X ops Q l rs os fs t ty pos af gd (.nilCheck x) (.val (.v (.pointer (some p)))) := fun hg hN kk => ES.still (yC rfl hx) hg rfl hN kk
theorem FU {x : Operand} {p : Addr} (hx : ev (⟨rs, os, fs⟩ : St) x = some (.val (.v (.pointer (some p))))) : HS N ops TT l rs os fs EE t ty pos af gd (.nilCheck x) (.val (.v (.pointer (some p)))) := fun hg hoff kk => EH.still (yC rfl hx) hg rfl hoff kk
theorem zZ {x : Operand} {d : D} (hx : eV rs os fs x (.pd d)) : PS X ops Q l rs os fs t ty pos af gd (.nilCheck x) (.val (.pd d)) := fun hg hN kk => ES.still (oD rfl hx) hg rfl hN kk
theorem Ae {x : Operand} {d : D} (hx : eV rs os fs x (.pd d)) : HS N ops TT l rs os fs EE t ty pos af gd (.nilCheck x) (.val (.pd d)) := fun hg hoff kk => EH.still (oD rfl hx) hg rfl hoff kk
theorem FB {T : Nat} {x : Operand} {d : D} (hx : eV rs os fs x d) (hT : cnL.contains T = true) : PS X ops Q l rs os fs t ty pos af gd (.makeInterface T x) (.val (.ifc T d)) := fun hg hN kk => ES.still (yD rfl hx hT) hg rfl hN kk
theorem FV {T : Nat} {x : Operand} {d : D} (hx : eV rs os fs x d) (hT : cnL.contains T = true) : HS N ops TT l rs os fs EE t ty pos af gd (.makeInterface T x) (.val (.ifc T d)) := fun hg hoff kk => EH.still (yD rfl hx hT) hg rfl hoff kk
theorem FN {x : Operand} {T : Nat} {U : TypeId} {d : D} (hx : eV rs os fs x (.ifc T d)) (hT : cnL.contains T = true) : PS X ops Q l rs os fs t ty pos af gd (.typeAssert x U T true) (.tpl [d, .v (.bool true)]) := fun hg hN kk => ES.still (EF rfl hx hT) hg rfl hN kk
theorem IE {x : Operand} {T T1 : Nat} {U : TypeId} {d dz : D} (hx : eV rs os fs x (.ifc T1 d)) (hT : cnL.contains T = true) (hne : Nat.beq T1 T = false) (hz : assoc bY T = some dz) : PS X ops Q l rs os fs t ty pos af gd (.typeAssert x U T true) (.tpl [dz, .v (.bool false)]) := fun hg hN kk => ES.still (H7 rfl hx hT hne hz) hg rfl hN kk
theorem FP {x : Operand} {T : Nat} {U : TypeId} {dz : D} (hx : eV rs os fs x (.v .nilIface)) (hT : cnL.contains T = true) (hz : assoc bY T = some dz) : PS X ops Q l rs os fs t ty pos af gd (.typeAssert x U T true) (.tpl [dz, .v (.bool false)]) := fun hg hN kk => ES.still (EG rfl hx hT hz) hg rfl hN kk
theorem vN {x y : Operand} {T K n E g c i : Nat} {es : List Ent} {l1 : List UInt8} {dz d' : D} (hget : (aX es l1).getD dz = d') (hx : ev (⟨rs, os, fs⟩ : St) x = some (.val (.v (.map (some g))))) (hi : os[i]? = some (.map g n c es)) (hy : eV rs os fs y (.arr n l1)) (hT : assoc jT T = some (K, n, E)) (hz : assoc bY E = some dz) : HS N ops TT l rs os fs EE t ty pos af gd (.lookup T x y false) (.val d') := fun hg hoff kk => EH.still (BM hget rfl hx i hi hy hT hz) hg rfl hoff kk
theorem gZ {x y : Operand} {T K n E g c i : Nat} {es : List Ent} {l1 : List UInt8} {dz d' : D} {b : Bool} (hget : (aX es l1).getD dz = d' ∧ (aX es l1).isSome = b) (hx : ev (⟨rs, os, fs⟩ : St) x = some (.val (.v (.map (some g))))) (hi : os[i]? = some (.map g n c es)) (hy : eV rs os fs y (.arr n l1)) (hT : assoc jT T = some (K, n, E)) (hz : assoc bY E = some dz) : HS N ops TT l rs os fs EE t ty pos af gd (.lookup T x y true) (.tpl [d', .v (.bool b)]) := fun hg hoff kk => EH.still (zH hget rfl hx i hi hy hT hz) hg rfl hoff kk
theorem Du {x : Operand} {T K n E g c i : Nat} {es : List Ent} (hx : ev (⟨rs, os, fs⟩ : St) x = some (.val (.v (.map (some g))))) (hi : os[i]? = some (.map g n c es)) (hT : assoc jT T = some (K, n, E)) : PS X ops Q l rs os fs t ty pos af gd (.call { callee := .builtin .len, args := #[x], argTypes := #[T] }) (.val (.v (.int .i64 es.length))) := fun hg hN kk => ES.still (uJ rfl hx i hi hT) hg rfl hN kk
theorem DN {x : Operand} {T K n E g c i : Nat} {es : List Ent} (hx : ev (⟨rs, os, fs⟩ : St) x = some (.val (.v (.map (some g))))) (hi : os[i]? = some (.map g n c es)) (hT : assoc jT T = some (K, n, E)) : HS N ops TT l rs os fs EE t ty pos af gd (.call { callee := .builtin .len, args := #[x], argTypes := #[T] }) (.val (.v (.int .i64 es.length))) := fun hg hoff kk => EH.still (uJ rfl hx i hi hT) hg rfl hoff kk
theorem kW {x y : Operand} {T e z b i : Nat} {k : Int} {v : Value} {ds : List D} (hx : eV rs os fs x (.v v)) (hi : os[i]? = some (.row v e z ds)) (hy : eV rs os fs y (.v (.int .i64 k))) (hT : assoc slL T = some (e, z, b)) (hk : 0 ≤ k ∧ k.toNat < ds.length) : PS X ops Q l rs os fs t ty pos af gd (.indexAddr T x y) (.val (.v (aF v (k.toNat * z)))) := fun hg hN kk => ES.still (uH rfl hx i hi hy hT hk) hg rfl hN kk
theorem pK {x y : Operand} {T e z b i : Nat} {k : Int} {v : Value} {ds : List D} (hx : eV rs os fs x (.v v)) (hi : os[i]? = some (.row v e z ds)) (hy : eV rs os fs y (.v (.int .i64 k))) (hT : assoc slL T = some (e, z, b)) (hk : 0 ≤ k ∧ k.toNat < ds.length) : HS N ops TT l rs os fs EE t ty pos af gd (.indexAddr T x y) (.val (.v (aF v (k.toNat * z)))) := fun hg hoff kk => EH.still (uH rfl hx i hi hy hT hk) hg rfl hoff kk
theorem Dl {x : Operand} {e z i : Nat} {v : Value} {ds : List D} {n : Nat} (hx : eV rs os fs x (.v (aF v n))) (hi : os[i]? = some (.row v e z ds)) (hk : 0 < ds.length) : PS X ops Q l rs os fs t ty pos af gd (.nilCheck x) (.val (.v (aF v n))) := fun hg hN kk => ES.still (uG rfl hx i hi hk) hg rfl hN kk
theorem DI {x : Operand} {e z i : Nat} {v : Value} {ds : List D} {n : Nat} (hx : eV rs os fs x (.v (aF v n))) (hi : os[i]? = some (.row v e z ds)) (hk : 0 < ds.length) : HS N ops TT l rs os fs EE t ty pos af gd (.nilCheck x) (.val (.v (aF v n))) := fun hg hoff kk => EH.still (uG rfl hx i hi hk) hg rfl hoff kk
theorem xP {x : Operand} {T k off sz e z i n : Nat} {ag : Bool} {v : Value} {ds : List D} {lf : List (Nat × Nat × Bool)} (hx : eV rs os fs x (.v (aF v n))) (hi : os[i]? = some (.row v e z ds)) (hk0 : 0 < ds.length) (h : assoc stL T = some lf) (hk : lf[k]? = some (off, sz, ag)) (h0 : Nat.blt 0 sz = true) : PS X ops Q l rs os fs t ty pos af gd (.fieldAddr T x k) (.val (.v (aF v (n + off)))) := fun hg hN kk => ES.still (oC rfl hx i hi hk0 h hk h0) hg rfl hN kk
theorem xQ {x : Operand} {T k off sz e z i n : Nat} {ag : Bool} {v : Value} {ds : List D} {lf : List (Nat × Nat × Bool)} (hx : eV rs os fs x (.v (aF v n))) (hi : os[i]? = some (.row v e z ds)) (hk0 : 0 < ds.length) (h : assoc stL T = some lf) (hk : lf[k]? = some (off, sz, ag)) (h0 : Nat.blt 0 sz = true) : HS N ops TT l rs os fs EE t ty pos af gd (.fieldAddr T x k) (.val (.v (aF v (n + off)))) := fun hg hoff kk => EH.still (oC rfl hx i hi hk0 h hk h0) hg rfl hoff kk
theorem qR {x : Operand} {T sz e z i n k off : Nat} {ag : Bool} {v : Value} {ds : List D} {d d' : D} (hx : eV rs os fs x (.v (aF v n))) (hi : os[i]? = some (.row v e z ds)) (hk : n = k * z + off ∧ ds[k]? = some d) (hT : assoc tyL T = some (sz, ag)) (hs : d.sub off sz ag = some d') : PS X ops Q l rs os fs t ty pos af gd (.load T x) (.val d') := fun hg hN kk => ES.still (qE hk rfl hx i hi hT hs) hg rfl hN kk
theorem qW {x : Operand} {T sz e z i n k off : Nat} {ag : Bool} {v : Value} {ds : List D} {d d' : D} (hx : eV rs os fs x (.v (aF v n))) (hi : os[i]? = some (.row v e z ds)) (hk : n = k * z + off ∧ ds[k]? = some d) (hT : assoc tyL T = some (sz, ag)) (hs : d.sub off sz ag = some d') : HS N ops TT l rs os fs EE t ty pos af gd (.load T x) (.val d') := fun hg hoff kk => EH.still (qE hk rfl hx i hi hT hs) hg rfl hoff kk
theorem Iu {x y : Operand} {T e z b : Nat} {k : Int} {ds : List D} (hx : eV rs os fs x (.sl z ds)) (hy : eV rs os fs y (.v (.int .i64 k))) (hT : assoc slL T = some (e, z, b)) (hk : 0 ≤ k ∧ k.toNat ≤ ds.length) : PS X ops Q l rs os fs t ty pos af gd (.slice T x none (some y) none) (.val (.sl z (ds.take k.toNat))) := fun hg hN kk => ES.still (BI rfl hx hy hT hk) hg rfl hN kk
theorem DF {x y : Operand} {T e z b : Nat} {k : Int} {ds : List D} (hx : eV rs os fs x (.sl z ds)) (hy : eV rs os fs y (.v (.int .i64 k))) (hT : assoc slL T = some (e, z, b)) (hk : 0 ≤ k ∧ k.toNat ≤ ds.length) : HS N ops TT l rs os fs EE t ty pos af gd (.slice T x none (some y) none) (.val (.sl z (ds.take k.toNat))) := fun hg hoff kk => EH.still (BI rfl hx hy hT hk) hg rfl hoff kk
theorem pI {x y : Operand} {T e z b : Nat} {k : Int} {ds : List D} (hx : eV rs os fs x (.sl z ds)) (hy : eV rs os fs y (.v (.int .i64 k))) (hT : assoc slL T = some (e, z, b)) (hk : 0 ≤ k ∧ k.toNat ≤ ds.length) : PS X ops Q l rs os fs t ty pos af gd (.slice T x (some y) none none) (.val (.sl z (ds.drop k.toNat))) := fun hg hN kk => ES.still (BJ rfl hx hy hT hk) hg rfl hN kk
theorem Dn {f : FuncId} {caps : Array Operand} {xs : List Value} (hx : sF (⟨rs, os, fs⟩ : St) caps.toList = some xs) : PS X ops Q l rs os fs t ty pos af gd (.makeFunc (.func f) #[] caps) (.val (.v (.func (.func f) #[] xs.toArray))) := fun hg hN kk => ES.still (uI rfl hx) hg rfl hN kk
theorem DJ {f : FuncId} {caps : Array Operand} {xs : List Value} (hx : sF (⟨rs, os, fs⟩ : St) caps.toList = some xs) : HS N ops TT l rs os fs EE t ty pos af gd (.makeFunc (.func f) #[] caps) (.val (.v (.func (.func f) #[] xs.toArray))) := fun hg hoff kk => EH.still (uI rfl hx) hg rfl hoff kk
end
section
variable {N : Nat} {X : Cx N} {S S' : St} {a : Act} {w w' : World} {ops : Array Oper} {o : Oper} {Q : Exit → Act → World → Prop} {l : List Oper} {TT : St → List Fr → Prop} {EE : List Fr} {rs : List (Tmp × R)} {os os' rest : List Obj} {fs : List (Value × D)} {base ok : Nat → Prop} {p q : Obj}
theorem EL.put (i : Nat) (hg : guardOf ops S o = some true) (hd : o.dst = none) (hP : Puts ops S o p q) (hi : S.objs[i]? = some p) (k : EL X ops Q l ⟨S.regs, S.objs.set i q, S.facts⟩) : EL X ops Q (o :: l) S := by
 constructor
 intro a w ha
 obtain ⟨hq, hP⟩ := hP
 have hmem := KE hi
 obtain ⟨w', g, h1, h2, h3, h4⟩ := hP _ _ a w (ha.kn _) (fun g hb hk => hk.2.2 p hmem hb) (ha.mem.at_ p hmem)
 unfold wpList
 rw [if_pos (bK ha hg)]
 refine .inl ?_
 unfold Oper.wp
 rw [h1]
 simp only [Oper.upon_skip, hd, Act.put]
 exact k.go _ _ (ha.turn hi (by rw [h2]; exact h3) (.inl hq) fun hok hcell => h4.move hok (fun _ _ => rfl) fun _ _ => rfl)
theorem Jh (hP : Puts ops S o p q) : lJ ops S o [p] (fun r os' => r = .any ∧ os' = [q]) := .mk fun base ok a w ha hown => by
 obtain ⟨hq, hP⟩ := hP
 obtain ⟨w', g, h1, h2, h3, h4⟩ := hP (fun _ => True) ok a w ⟨fun o ho => (ha.objs o ho).iD fun _ _ => trivial, ha.facts, ha.lt, ha.regs⟩ (fun g hb => hown.off g ⟨p, by simp, hb⟩) (hown.at_ p (by simp))
 rw [h1]
 have hB : ∀ b, iw [p] b ↔ b = g := fun b => ⟨fun ⟨o, ho, e⟩ => by
  obtain rfl : o = p := by simpa using ho
  rw [h2] at e
  injection e with e
  exact e.symm, fun e => ⟨p, by simp, by rw [e]; exact h2⟩⟩
 refine ⟨.any, [q], ⟨rfl, rfl⟩, ⟨⟨h3.os, h3.tape, h3.output, h3.size, fun k hk hn => h3.block k hk fun e => hn ((hB k).2 (by injection e))⟩, by simp, fun o ho => ?_⟩, trivial⟩
 obtain rfl : o = q := by simpa using ho
 refine (h4.move (fun b hb => ⟨.inl hb, KA (ha.lt b hb) h3.size, fun o' ho' e => ?_⟩) (fun _ _ => rfl) fun _ _ => rfl).iD fun b e => .inl ⟨p, by simp, by rw [← hq]; exact e⟩
 obtain rfl : o' = o := by simpa using ho'
 exact hown.off b ⟨p, by simp, by rw [← hq]; exact e⟩ hb
theorem nR {T K n E g c : Nat} {x y z : Operand} {es : List Ent} {l1 : List UInt8} {d : D} (ho : o.op = .mapUpdate T x y z) (hx : ev S x = some (.val (.v (.map (some g))))) (hy : ev S y = some (.val (.arr n l1))) (hz : ev S z = some (.val d)) (hT : assoc jT T = some (K, n, E)) : Puts ops S o (.map g n c es) (.map g n (kC c es l1) (kJ c es l1 d)) := by
 refine ⟨rfl, fun base ok a w ha hno hat => ?_⟩
 have h1 := dh ha hx (aA (by rw [ho]; simp [Op.operands]))
 obtain ⟨h2, h3⟩ := jD (ha.ev hy (aA (by rw [ho]; simp [Op.operands])))
 obtain ⟨w', h4, h5, h6⟩ := pR (rP hT).1 (rP hT).2 hat l1 h2 (ha.ev hz (aA (by rw [ho]; simp [Op.operands]))) (hno g rfl)
 refine ⟨w', g, ?_, rfl, h5, h6⟩
 unfold execOp
 simp only [ho, h1, h3, Kq, h4, J6, Ku]
theorem rH {T e z n k off : Nat} {x y : Operand} {v : Value} {ds : List D} {d d' d'' : D} (hk : n = k * z + off ∧ ds[k]? = some d) (ho : o.op = .store T x y) (hx : ev S x = some (.val (.v (aF v n)))) (hy : ev S y = some (.val d')) (hT : assoc tyL T = some (d'.size, d'.agg)) (hu : d.upd off d' = some d'') : Puts ops S o (.row v e z ds) (.row v e z (ds.set k d'')) := by
 refine ⟨rfl, fun base ok a w ha hno hat => ?_⟩
 have hx' := dh ha hx (aA (by rw [ho]; simp [Op.operands]))
 obtain ⟨cs', h1, h2⟩ := ha.ev hy (aA (by rw [ho]; simp [Op.operands]))
 have hk' := (Kw.1 hk.2).1
 obtain ⟨g, c, cur, rows, H⟩ := row_in hat (by omega)
 obtain ⟨r, A, B, g1, g2, g3, g4, g5, g6⟩ := H.elem hk.2
 obtain ⟨e1, e2, pre, mid, post, rfl, h5, h6, h7⟩ := iQ d off d' d'' r cs' hu g3 h1
 obtain ⟨_, _, _, hT'⟩ := tyI hT
 have hh : w.heap[g]? = some (.cells ((A ++ pre) ++ mid ++ (post ++ B)).toArray e (0, 0)) := by
  have := H.heap
  rw [show cur = (A ++ (pre ++ mid ++ post) ++ B).toArray by rw [← g4]] at this
  rw [this]
  simp
 have hrun := iU (T := T) (by rw [hT', Reads.len _ _ h1]) h1 hh (by rw [List.length_append, g5, h5, ← hk.1]) h6
 have hg := bU g cs' n w
 have hnew := dN cs' (A ++ pre) mid (post ++ B) w h6 hh
 rw [List.length_append, g5, h5, ← hk.1] at hnew
 have hcell : ∀ q : Addr, ok q.block → (w.setCells g n cs').cell? q = w.cell? q := fun q hq => World.cell?_of_block (hg.block _ (ha.lt _ hq) fun e => hno g (by rw [H.val]; rfl) (by injection e with e; rw [← e]; exact hq))
 have hlen : (pre ++ cs' ++ post).length = z := by
  simp only [List.length_append] at g2 ⊢
  omega
 have hrows := ah.set ds rows k d'' (pre ++ cs' ++ post) H.rows h7 hlen
 have hrows' := ah.mono (fun _ h => h) hcell z _ _ hrows
 refine ⟨w.setCells g n cs', g, ?_, by rw [H.val]; rfl, hg, qQ.at (g := g) (c := c) (cur := ((A ++ pre) ++ cs' ++ (post ++ B)).toArray) (rows := rows.set k (pre ++ cs' ++ post)) ⟨by rw [Me]; exact H.val, hnew, ?_, ?_, by rw [Me]; exact H.le, H.max, hrows', H.mine⟩⟩
 ·
  have ep : aF v n = .pointer (some ⟨g, n, none⟩) := by rw [H.val]; simp [aF]
  unfold execOp
  simp only [ho, hx', ep, h2, Kq, hrun, J6, Ku]
 ·
  rw [Me, ← g6 _ hlen]
  simp
 ·
  have := congrArg List.length g4
  rw [Array.length_toList, H.size] at this
  simp only [List.size_toArray, List.length_append] at this ⊢
  omega
theorem Dp {T K n E g c ty : Nat} {pos : String} {af : Array Edge} {gd : Option (Nat × Bool)} {x y z : Operand} {es : List Ent} {l1 : List UInt8} {d : D} (hx : ev (⟨rs, os, fs⟩ : St) x = some (.val (.v (.map (some g))))) (hset : jP os (.map g n c es) (.map g n (kC c es l1) (kJ c es l1 d)) os') (hy : ev (⟨rs, os, fs⟩ : St) y = some (.val (.arr n l1))) (hz : ev (⟨rs, os, fs⟩ : St) z = some (.val d)) (hT : assoc jT T = some (K, n, E)) (hg : guardOf ops ⟨rs, os, fs⟩ ⟨none, .mapUpdate T x y z, ty, pos, af, gd⟩ = some true) (kk : EL X ops Q l ⟨rs, os', fs⟩) : EL X ops Q (⟨none, .mapUpdate T x y z, ty, pos, af, gd⟩ :: l) ⟨rs, os, fs⟩ := by
 obtain ⟨i, hi, rfl⟩ := hset.ix
 exact EL.put i hg rfl (nR rfl hx hy hz hT) hi kk
theorem xO {T e z n k off ty : Nat} {pos : String} {af : Array Edge} {gd : Option (Nat × Bool)} {x y : Operand} {v : Value} {ds : List D} {d d' d'' : D} (hx : ev (⟨rs, os, fs⟩ : St) x = some (.val (.v (aF v n)))) (hset : jP os (.row v e z ds) (.row v e z (ds.set k d'')) os') (hk : n = k * z + off ∧ ds[k]? = some d) (hy : ev (⟨rs, os, fs⟩ : St) y = some (.val d')) (hT : assoc tyL T = some (d'.size, d'.agg)) (hu : d.upd off d' = some d'') (hg : guardOf ops ⟨rs, os, fs⟩ ⟨none, .store T x y, ty, pos, af, gd⟩ = some true) (kk : EL X ops Q l ⟨rs, os', fs⟩) : EL X ops Q (⟨none, .store T x y, ty, pos, af, gd⟩ :: l) ⟨rs, os, fs⟩ := by
 obtain ⟨i, hi, rfl⟩ := hset.ix
 exact EL.put i hg rfl (rH hk rfl hx hy hT hu) hi kk
theorem EL.del {T K n E g c : Nat} {U : TypeId} {x y : Operand} {es : List Ent} {l1 : List UInt8} (i : Nat) (ho : o.op = .call { callee := .builtin .delete, args := #[x, y], argTypes := #[T, U] }) (hg : guardOf ops S o = some true) (hd : o.dst = none) (hx : ev S x = some (.val (.v (.map (some g))))) (hi : S.objs[i]? = some (.map g n c es)) (hy : ev S y = some (.val (.arr n l1))) (hT : assoc jT T = some (K, n, E)) (k : EL X ops Q l ⟨S.regs, S.objs.set i (.map g n c (fO es l1)), S.facts⟩) : EL X ops Q (o :: l) S := by
 constructor
 intro a w ha
 have hk := ha.kn fun t => t ∈ o.looksAt ops
 have h1 := dh hk hx (aA (by rw [ho]; simp [Op.operands, Call.operands]))
 obtain ⟨h2, h3⟩ := jD (hk.ev hy (aA (by rw [ho]; simp [Op.operands, Call.operands])))
 have hmem := KE hi
 obtain ⟨w', h4, h5, h6⟩ := wz (U := U) o.type (rP hT).1 (rP hT).2 (ha.mem.at_ _ hmem) l1 h2 (fun hk => hk.2.2 _ hmem rfl)
 unfold wpList
 rw [if_pos (bK ha hg)]
 refine .inl ?_
 unfold Oper.wp execOp
 simp only [ho, resolve, invoke, builtin, Kq, Ku, J6, LV, KD, KU, h1, h3, h4]
 simp only [Oper.upon_value, hd, Act.put]
 exact k.go _ _ (ha.turn hi h5 (.inl rfl) fun hok hcell => h6.move hok (fun _ _ => rfl) fun _ _ => rfl)
theorem Dv {T K n E g c ty : Nat} {U : TypeId} {pos : String} {af : Array Edge} {gd : Option (Nat × Bool)} {x y : Operand} {es : List Ent} {l1 : List UInt8} (hx : ev (⟨rs, os, fs⟩ : St) x = some (.val (.v (.map (some g))))) (hset : jP os (.map g n c es) (.map g n c (fO es l1)) os') (hy : ev (⟨rs, os, fs⟩ : St) y = some (.val (.arr n l1))) (hT : assoc jT T = some (K, n, E)) (hg : guardOf ops ⟨rs, os, fs⟩ ⟨none, .call { callee := .builtin .delete, args := #[x, y], argTypes := #[T, U] }, ty, pos, af, gd⟩ = some true) (kk : EL X ops Q l ⟨rs, os', fs⟩) : EL X ops Q (⟨none, .call { callee := .builtin .delete, args := #[x, y], argTypes := #[T, U] }, ty, pos, af, gd⟩ :: l) ⟨rs, os, fs⟩ := by
 obtain ⟨i, hi, rfl⟩ := hset.ix
 exact EL.del i rfl hg rfl hx hi hy hT kk
theorem Gh {q : Obj} {r : R} {ob : Go.Obj} {v : Value} (hb : q.blk = some w.heap.size) (hat : ∀ ok' : Nat → Prop, (∀ b, ok b → ok' b) → q.At (fun b => iw [] b ∨ w.heap.size ≤ b) ok' (w.alloc ob)) (hr : ∀ ok', aC ok' (w.alloc ob) r v) (hlt : ∀ b, ok b → b < w.heap.size) : Turned ok [] w [q] (w.alloc ob) ∧ aC (okM ok [] w [q] (w.alloc ob)) (w.alloc ob) r v := by
 have hg := aH w ob
 refine ⟨⟨.of hg, by simp, fun o ho => ?_⟩, hr _⟩
 obtain rfl : o = q := by simpa using ho
 refine hat _ fun b hk => ⟨.inl hk, KA (hlt b hk) hg.size, fun o' ho' e => ?_⟩
 obtain rfl : o' = o := by simpa using ho'
 rw [hb] at e
 injection e with e
 have := hlt b hk
 omega
theorem zx {T K n E : Nat} (ho : o.op = .makeMap T none) (hT : assoc jT T = some (K, n, E)) : lJ ops S o [] (fun r os' => ∃ g, r = .val (.v (.map (some g))) ∧ os' = [.map g n 0 []]) := .mk fun base ok a w ha hown => by
 have hr : (execOp a.eval o).run Tryz.prog w = .ok (.value (.map (some w.heap.size))) (w.alloc (.map #[] 0)) := by
  unfold execOp
  have := @run_makeMap Tryz.prog
  simp [ho, this]
 rw [hr]
 obtain ⟨h1, h2⟩ := Gh (ok := ok) (w := w) (q := .map w.heap.size n 0 []) (r := .val (.v (.map (some w.heap.size)))) (ob := .map #[] 0) (v := .map (some w.heap.size)) rfl (fun ok' _ => ⟨.inr (Nat.le_refl _), lK.nil, #[], heap_alloc_new w _, .nil⟩) (fun _ => dM rfl) ha.lt
 exact ⟨_, _, ⟨_, rfl, rfl⟩, h1, h2⟩
theorem jE {t T K n E ty : Nat} {pos : String} {af : Array Edge} {gd : Option (Nat × Bool)} (hT : assoc jT T = some (K, n, E)) (hg : guardOf ops ⟨rs, os, fs⟩ ⟨some t, .makeMap T none, ty, pos, af, gd⟩ = some true) (hN : Nat.blt t N = true) (kk : ∀ g, EL X ops Q l ⟨(t, .val (.v (.map (some g)))) :: rs, .map g n 0 [] :: os, fs⟩) : EL X ops Q (⟨some t, .makeMap T none, ty, pos, af, gd⟩ :: l) ⟨rs, os, fs⟩ :=
 EL.mut (os := []) (rest := os) hg (fJ rfl hN) (zx rfl hT) fun r os' ⟨g, h1, h2⟩ => by
  subst h1 h2
  exact kk g
theorem aO {t ty f : Nat} {pos : String} {af : Array Edge} {gd : Option (Nat × Bool)} {args : Array Operand} {tys : Array TypeId} {ds ds' : List D} {os0 : List Obj} {Φ : R → List Obj → Prop} (hF : FnM f ds' os Φ) (hos : os0 = os ++ rest := by rfl) (hx : evs (⟨rs, rest, fs⟩ : St) args.toList = some ds := by rfl) (hR : aj fs ds ds' := by exact RL.a) (hf : Enters f := by exact enA) (hg : guardOf ops ⟨rs, os ++ rest, fs⟩ ⟨some t, .call { callee := .value (.func f), args := args, argTypes := tys }, ty, pos, af, gd⟩ = some true := by rfl) (hN : Nat.blt t N = true := by rfl) (kk : ∀ r os', Φ r os' → EL X ops Q l ⟨(t, r) :: rs, os' ++ rest, fs⟩) : EL X ops Q (⟨some t, .call { callee := .value (.func f), args := args, argTypes := tys }, ty, pos, af, gd⟩ :: l) ⟨rs, os0, fs⟩ := by
 subst hos
 refine EL.mut (Φ := Φ) hg (fJ rfl hN) ?_ kk
 exact Bj (S := ⟨rs, rest, fs⟩) hF rfl hx hR hf
theorem CH.vk {os1 : List Obj} {T : St → Prop} {d : Option Tmp} {ty f : Nat} {pos : String} {af : Array Edge} {gd : Option (Nat × Bool)} {args : Array Operand} {tys : Array TypeId} {ds ds' : List D} {os0 : List Obj} {Φ : R → List Obj → Prop} (hF : FnM f ds' os Φ) (hos : os0 = os ++ (rest ++ os1) := by rfl) (hx : evs (⟨rs, rest ++ os1, fs⟩ : St) args.toList = some ds := by rfl) (hR : aj fs ds ds' := by exact RL.a) (hf : Enters f := by exact enA) (hg : guardOf ops ⟨rs, os ++ (rest ++ os1), fs⟩ ⟨d, .call { callee := .value (.func f), args := args, argTypes := tys }, ty, pos, af, gd⟩ = some true := by rfl) (hd : Fa N d = true := by rfl)
  (k : ∀ r os', Φ r os' → CH N ops os1 T l (St.put ⟨rs, os' ++ (rest ++ os1), fs⟩ d r)) : CH N ops os1 T (⟨d, .call { callee := .value (.func f), args := args, argTypes := tys }, ty, pos, af, gd⟩ :: l) ⟨rs, os0, fs⟩ := by
 subst hos
 refine CH.mut (Φ := Φ) hd hg ?_ k
 exact Bj (S := ⟨rs, rest ++ os1, fs⟩) hF rfl hx hR hf
theorem yY {t f : Nat} {args : Array Operand} {tys : Array TypeId} {caps : List Value} (ho : o.op = .call { callee := .value (.tmp t), args := args, argTypes := tys }) (ht : a.eval (.tmp t) = .func (.func f) #[] caps.toArray) (hf : Enters f) : (execOp a.eval o).run Tryz.prog w = .ok (.enter f (args.map a.eval ++ caps.toArray)) w := by
 unfold execOp
 simp [ho, resolve, ht, Deferred.ofValue, invoke, hf (args.map a.eval ++ caps.toArray) w]
theorem rQ {t : Tmp} {args : Array Operand} {tys : Array TypeId} (ho : o.op = .call { callee := .value (.tmp t), args := args, argTypes := tys }) : ∀ u, Operand.tmp t = .tmp u → u ∈ o.looksAt ops := aA (by rw [ho]; simp [Op.operands, Call.operands])
theorem jL : ∀ (ds es : List D) (xs ys : List Value), bC ok w ds xs → bC ok w es ys → bC ok w (ds ++ es) (xs ++ ys)
 | [], es, xs, ys, h, h' => by cases h; exact h'
 | d :: ds, es, xs, ys, h, h' => by
  obtain ⟨x, rest, rfl, h1, h2⟩ := h
  exact ⟨x, _, rfl, h1, jL ds es rest ys h2 h'⟩
theorem Ei {t f : Nat} {args : Array Operand} {tys : Array TypeId} {caps : List Value} {ds ds' cds : List D} {Φ : R → List Obj → Prop} (hF : FnM f (ds' ++ cds) os Φ) (hc : ∀ base ok L (a : Act) w, Kn base ok L S a w → bC ok w cds caps) (ho : o.op = .call { callee := .value (.tmp t), args := args, argTypes := tys }) (ht : look S.regs t = some (.val (.v (.func (.func f) #[] caps.toArray)))) (hx : evs S args.toList = some ds) (hR : aj S.facts ds ds') (hf : Enters f) : lJ ops S o os Φ := .mk fun base ok a w ha hown => by
 have h1 : a.eval (.tmp t) = .func (.func f) #[] caps.toArray := dh ha (x := .tmp t) ht (rQ ho)
 have hr := aj.nN ha.facts _ _ _ hR (ha.evs _ _ hx fun u hu => ak (x := .tmp u) rfl (by rw [ho]; simp only [Op.operands, Call.operands]; simp; right; simpa using hu))
 rw [yY ho h1 hf]
 have := hF.go ok w _ ha.lt hown (jL _ _ _ _ hr (hc _ _ _ a w ha))
 have he : (args.toList.map a.eval ++ caps).toArray = args.map a.eval ++ caps.toArray := by
  apply Array.ext'
  simp
 rw [he] at this
 simp only [dn]
 refine this.mono ?_
 rintro e w' ⟨v, r, os', rfl, h1, h2, h3⟩
 exact ⟨v, rfl, r, os', h1, h2, h3⟩
theorem Dw {t u ty f : Nat} {pos : String} {af : Array Edge} {gd : Option (Nat × Bool)} {args : Array Operand} {tys : Array TypeId} {caps : List Value} {ds ds' cds : List D} {os0 : List Obj} {Φ : R → List Obj → Prop} (hF : FnM f (ds' ++ cds) os Φ) (hc : ∀ base ok L (a : Act) w, Kn base ok L ⟨rs, rest, fs⟩ a w → bC ok w cds caps) (hos : os0 = os ++ rest) (ht : look rs u = some (.val (.v (.func (.func f) #[] caps.toArray)))) (hx : evs (⟨rs, rest, fs⟩ : St) args.toList = some ds) (hR : aj fs ds ds') (hf : Enters f) (hg : guardOf ops ⟨rs, os ++ rest, fs⟩ ⟨some t, .call { callee := .value (.tmp u), args := args, argTypes := tys }, ty, pos, af, gd⟩ = some true) (hN : Nat.blt t N = true) (kk : ∀ r os', Φ r os' → EL X ops Q l ⟨(t, r) :: rs, os' ++ rest, fs⟩) : EL X ops Q (⟨some t, .call { callee := .value (.tmp u), args := args, argTypes := tys }, ty, pos, af, gd⟩ :: l) ⟨rs, os0, fs⟩ := by
 subst hos
 exact EL.mut hg (fJ rfl hN) (Ei hF hc rfl ht hx hR hf) kk
theorem Dc {caps : List Value} (h : ∀ x ∈ caps, x.oneCell' = true) : bC ok w (caps.map .v) caps := by
 induction caps with
 | nil => rfl
 | cons x xs ih => exact ⟨x, xs, rfl, dM (h x (by simp)), ih fun y hy => h y (by simp [hy])⟩
theorem JM {T : Nat} (h : GK.contains T = true) : ∃ e, Tryz.prog.underlying T = some (.pointer e) := by
 have := KQ.1 D7 T (by simpa using h)
 unfold Jc at this
 split at this
 ·
  rename_i e he
  exact ⟨e, he⟩
 · cases this
end
structure Bx (Q : Prop) : Prop where out : Q
theorem stp {P Q : Prop} (q : Q) (h : Bx Q → P := by
 intro q
 first
 | ((with_reducible apply EK.h0); apply EK.round; exact q.out)
 | (apply EL.nil; exact q.out)
 | ((with_reducible apply EK.h0); apply EK.code; exact q.out)
 | (apply EC.t0; rfl; exact q.out)
 | (apply EC.f0; rfl; exact q.out)
 | ((with_reducible apply EK.BF); rfl; exact q.out)
 | ((with_reducible first | apply EC.seq | apply EC.r0 | apply EC.k0 | apply EC.label | apply EC.b0 | apply EC.x0 | apply EC.ret | apply EK.n0 | apply EK.s0 | apply EK.Hz | apply EK.Ar | apply EK.yT); exact q.out)
 | (apply Iw; (iterate 2 rfl); exact q.out)
 | (apply Iz; (iterate 3 rfl); exact q.out)
 | (apply Dy; (iterate 3 rfl); exact q.out)
 | (apply FK; (iterate 6 rfl); exact q.out)
 | (apply Ac; (iterate 7 rfl); exact q.out)
 | (apply Ad; (iterate 4 rfl); exact q.out)
 | (apply Dq; (iterate 5 rfl); exact q.out)
 | (apply Iy; (iterate 4 rfl); exact q.out)
 | (apply JF; (iterate 3 rfl); exact q.out)
 | (apply IB; rfl; exact I.a; (iterate 4 rfl); exact q.out)
 | (apply qU (b := true); (iterate 2 rfl); exact Fe; (iterate 2 rfl); exact q.out)
 | (apply qU (b := false); (iterate 2 rfl); exact Fe; (iterate 2 rfl); exact q.out)
 | (apply qU; (iterate 5 rfl); exact q.out)
 | (apply JY; (iterate 3 rfl); (focus omega); (focus omega); (iterate 2 rfl); exact q.out)
 | (apply FH; (iterate 4 rfl); exact q.out)
 | (apply FD; (iterate 4 rfl); exact q.out)
 | (apply jv; rfl; exact I.a; (iterate 3 rfl); exact q.out)
 | (apply IC; (iterate 4 rfl); exact q.out)
 | (apply FI; (iterate 4 rfl); exact ixA; (iterate 2 rfl); exact q.out)
 | (apply Aa; (iterate 3 rfl); exact ixA; (iterate 2 rfl); exact q.out)
 | (apply JE; (iterate 3 rfl); exact q.out)
 | (apply FM; (iterate 7 rfl); exact q.out)
 | (apply Dx; (iterate 5 rfl); exact q.out)
 | (apply Dt; (iterate 9 rfl); exact q.out)
 | (apply Fz; (iterate 3 rfl); exact q.out)
 | (apply zZ; (iterate 3 rfl); exact q.out)
 | (apply FB; (iterate 4 rfl); exact q.out)
 | (apply FN; (iterate 4 rfl); exact q.out)
 | (apply IE; (iterate 6 rfl); exact q.out)
 | (apply FP; (iterate 5 rfl); exact q.out)
 | (apply Dn; (iterate 3 rfl); exact q.out)
 | (apply Du; rfl; exact I.a; (iterate 3 rfl); exact q.out)
 | (apply Dl; rfl; exact I.a; (focus (first | omega | (simp; done) | (simp; omega))); (iterate 2 rfl); exact q.out)
 | (apply xP; rfl; exact I.a; (focus (first | omega | (simp; done) | (simp; omega))); (iterate 5 rfl); exact q.out)
 | (apply kW; rfl; exact I.a; (iterate 2 rfl); (focus (first | assumption | omega | (constructor <;> (first | (simp; done) | (simp; omega))))); (iterate 2 rfl); exact q.out)
 | (apply Dp; rfl; exact saA; (iterate 4 rfl); exact q.out)
 | (apply jE; rfl; rfl; rfl; exact q.out)
 | (apply Dv; rfl; exact saA; (iterate 3 rfl); exact q.out)
 | (apply FQ; rfl; rfl; rfl; exact q.out)
 | (apply qV; rfl; rfl; rfl; exact q.out)
 | (apply Fv; rfl; exact saA; (iterate 4 rfl); exact q.out)
 | ((apply Dz; rfl; exact saA; (iterate 5 rfl); (focus (constructor <;> (first | (simp; done) | (simp; omega))))); exact q.out)) : P := h ⟨q⟩
theorem sth {P Q : Prop} (q : Q) (h : Bx Q → P := by
 intro q
 first
 | (apply II; (iterate 2 rfl); exact q.out)
 | (apply IK; (iterate 3 rfl); exact q.out)
 | (apply DU; (iterate 3 rfl); exact q.out)
 | (apply FZ; (iterate 6 rfl); exact q.out)
 | (apply Ah; (iterate 7 rfl); exact q.out)
 | (apply Ai; (iterate 4 rfl); exact q.out)
 | (apply DK; (iterate 5 rfl); exact q.out)
 | (apply IJ; (iterate 4 rfl); exact q.out)
 | (apply JH; (iterate 3 rfl); exact q.out)
 | (apply IL; rfl; exact I.a; (iterate 4 rfl); exact q.out)
 | (apply DR (b := true); (iterate 2 rfl); exact Fe; (iterate 2 rfl); exact q.out)
 | (apply DR (b := false); (iterate 2 rfl); exact Fe; (iterate 2 rfl); exact q.out)
 | (apply DR; (iterate 5 rfl); exact q.out)
 | (apply J3; (iterate 3 rfl); (focus omega); (focus omega); (iterate 2 rfl); exact q.out)
 | (apply FX; (iterate 4 rfl); exact q.out)
 | (apply FW; (iterate 4 rfl); exact q.out)
 | (apply DL; rfl; exact I.a; (iterate 3 rfl); exact q.out)
 | (apply IQ; (iterate 4 rfl); exact q.out)
 | (apply FY; (iterate 4 rfl); exact ixA; (iterate 2 rfl); exact q.out)
 | (apply Af; (iterate 3 rfl); exact ixA; (iterate 2 rfl); exact q.out)
 | (apply JG; (iterate 3 rfl); exact q.out)
 | (apply F5; (iterate 7 rfl); exact q.out)
 | (apply DT; (iterate 5 rfl); exact q.out)
 | (apply JI; (iterate 9 rfl); exact q.out)
 | (apply FU; (iterate 3 rfl); exact q.out)
 | (apply Ae; (iterate 3 rfl); exact q.out)
 | (apply FV; (iterate 4 rfl); exact q.out)
 | (apply DJ; (iterate 3 rfl); exact q.out)
 | (apply DN; rfl; exact I.a; (iterate 3 rfl); exact q.out)
 | (apply DI; rfl; exact I.a; (focus (first | omega | (simp; done) | (simp; omega))); (iterate 2 rfl); exact q.out)
 | (apply xQ; rfl; exact I.a; (focus (first | omega | (simp; done) | (simp; omega))); (iterate 5 rfl); exact q.out)
 | (apply pK; rfl; exact I.a; (iterate 2 rfl); (focus (first | assumption | omega | (constructor <;> (first | (simp; done) | (simp; omega))))); (iterate 2 rfl); exact q.out)
 | (apply F6; (iterate 3 rfl); exact q.out)
 | (apply JJ; (iterate 3 rfl); exact q.out)
 | ((with_reducible apply EH.nil); rfl; exact q.out)
 | ((with_reducible apply EH.Jg); rfl; exact q.out)
 | ((with_reducible apply EH.JQ); rfl; exact q.out)) : P := h ⟨q⟩
end E
end Go.Proofs.YtaoicebcdmpemaaGreat
namespace Go.Proofs.YtaoicebcdmpemaaGreat
set_option linter.unusedVariables false
namespace Wd
open Rlp
def le (B : Nat) : List Nat → Nat
 | [] => 0
 | d :: ds => d + B * le B ds
end Wd
end Go.Proofs.YtaoicebcdmpemaaGreat
