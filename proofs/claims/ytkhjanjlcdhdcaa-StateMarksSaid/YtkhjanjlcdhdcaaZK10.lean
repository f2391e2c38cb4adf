/-
 Merged: lemmas of this claim.
 Conditions: none.
-/
import Derived.Test.YtkhjanjlcdhdcaaZK9
import Derived.Laws.Slices
import Derived.Test.YtkhjanjlcdhdcaaZK5
import Derived.LoopN
import Derived.Laws.Externs
import Derived.Laws.MakeOwn
import Derived.Test.YtkhjanjlcdhdcaaZK0
namespace Go.Proofs.Ytkhjanjlcdhdcaa
set_option linter.unusedVariables false
open Go.RowKit Mono Rlp
namespace E
def bJ (v : Value) (n : Nat) : Value :=
 match v with
 | .slice (some a) _ _ => .pointer (some ⟨a.block, a.off + n, none⟩)
 | _ => .pointer none
def cutV (v : Value) (k : Nat) : Value :=
 match v with
 | .slice A n c => .slice A k c
 | v => v
theorem jW (v : Value) (n : Nat) : (bJ v n).oneCell' = true := by
 unfold bJ
 split <;> rfl
def uz (S : St) : List Operand → Option (List Value)
 | [] => some []
 | x :: xs => match ev S x, uz S xs with
  | some (.val (.v v)), some vs => some (v :: vs)
  | _, _ => none
section
variable {N : Nat} {X : Cx N} {S S' : St} {a : Act} {w w' : World} {ops : Array Oper} {o : Oper} {Q : Exit → Act → World → Prop} {l : List Oper} {TT : St → List Fr → Prop} {EE : List Fr} {rs : List (Tmp × R)} {os : List Obj} {fs : List (Value × D)} {base ok : Nat → Prop} {L : Tmp → Prop}
theorem sV {T K n e : Nat} (h : assoc lQ T = some (K, n, e)) : Try.prog.underlying T = some (.map K e) ∧ rJ K n := CW (by
 have := E5.1 AV _ (fM _ _ _ h)
 simpa using this)
theorem zvI {T : Nat} {d : D} (h : assoc eX T = some d) : uN T d := qF.get _ _ _ BX h
theorem cnI {T : Nat} (h : cnL.contains T = true) : ∃ d, Try.prog.underlying T = some d ∧ ∀ ms, d ≠ .interface ms := by
 have := E5.1 Dl T (by simpa using h)
 unfold cnB at this
 split at this
 · cases this
 ·
  rename_i d hd h1
  exact ⟨d, h1, fun ms e => hd ms e⟩
 · cases this
theorem bC {x : Operand} (h : x ∈ o.op.operands.toList) : ∀ t, x = .tmp t → t ∈ o.looksAt ops := fun t e => aF e h
theorem wU {x : Operand} {p : Addr} (ho : o.op = .nilCheck x) (hx : ev S x = some (.val (.v (.pointer (some p))))) : Still ops S o (.val (.v (.pointer (some p)))) := fun base ok a w ha => by
 have h1 := fE ha hx (bC (by rw [ho]; simp [Op.operands]))
 refine ⟨_, ?_, gG rfl⟩
 unfold execOp
 simp only [ho, h1, Eu]
theorem DL {d : D} {x : Value} (h : bZ ok w (.pd d) x) : ∃ b n cs, x = .pointer (some ⟨b, n, none⟩) ∧ ok b ∧ w.rangeAt b n cs ∧ Reads ok w d cs := by
 have h1 := (dN rfl).1 h
 rw [Reads] at h1
 obtain ⟨b, n, cs, h2, h3, h4, h5⟩ := h1
 exact ⟨b, n, cs, by simpa using h2, h3, h4, h5⟩
theorem oO {x : Operand} {d : D} (ho : o.op = .nilCheck x) (hx : ev S x = some (.val (.pd d))) : Still ops S o (.val (.pd d)) := fun base ok a w ha => by
 have h0 := ha.ev hx (bC (by rw [ho]; simp [Op.operands]))
 obtain ⟨b, n, cs, h1, _⟩ := DL h0
 refine ⟨a.eval x, ?_, h0⟩
 unfold execOp
 simp only [ho, h1, Eu]
theorem wV {T : Nat} {x : Operand} {d : D} (ho : o.op = .makeInterface T x) (hx : ev S x = some (.val d)) (hT : cnL.contains T = true) : Still ops S o (.val (.ifc T d)) := fun base ok a w ha => by
 obtain ⟨cs, h1, h2⟩ := ha.ev hx (bC (by rw [ho]; simp [Op.operands]))
 obtain ⟨de, h3, h4⟩ := cnI hT
 refine ⟨.iface T (a.eval x), ?_, (dN rfl).2 (by rw [Reads]; exact ⟨cs, by rw [h2], h1⟩)⟩
 unfold execOp
 have hr : (Instr.makeInterface T (a.eval x)).run Try.prog w = .ok (.iface T (a.eval x)) w := by
  unfold Instr.makeInterface
  rw [En, run_underlying h3, Ei]
  cases de <;> first | exact absurd rfl (h4 _) | rfl
 simp only [ho, En, hr, Ei, Eu]
theorem zq {T : TypeId} {d : D} {x : Value} (h : bZ ok w (.ifc T d) x) : ∃ cs, x = .iface T (form d cs) ∧ Reads ok w d cs := by
 have h1 := (dN rfl).1 h
 rw [Reads] at h1
 obtain ⟨cs, h2, h3⟩ := h1
 exact ⟨cs, by simpa using h2, h3⟩
theorem Bg {x : Operand} {T : Nat} {U : TypeId} {d : D} (ho : o.op = .typeAssert x U T true) (hx : ev S x = some (.val (.ifc T d))) (hT : cnL.contains T = true) : Still ops S o (.tpl [d, .v (.bool true)]) := fun base ok a w ha => by
 obtain ⟨cs, h1, h2⟩ := zq (ha.ev hx (bC (by rw [ho]; simp [Op.operands])))
 obtain ⟨de, h3, h4⟩ := cnI hT
 refine ⟨.tuple #[form d cs, .bool true], ?_, [form d cs, .bool true], rfl, _, _, rfl, ⟨cs, h2, rfl⟩, _, _, rfl, gG rfl, rfl⟩
 unfold execOp
 have hr : (Instr.typeAssert (.iface T (form d cs)) U T true).run Try.prog w = .ok (.tuple #[form d cs, .bool true]) w := by
  simp only [Instr.typeAssert, En, run_underlying h3, Ei]
  cases de <;> first | exact absurd rfl (h4 _) | simp
 simp only [ho, h1, En, hr, Ei, Eu]
theorem Dh {x : Operand} {T T1 : Nat} {U : TypeId} {d dz : D} (ho : o.op = .typeAssert x U T true) (hx : ev S x = some (.val (.ifc T1 d))) (hT : cnL.contains T = true) (hne : Nat.beq T1 T = false) (hz : assoc eX T = some dz) : Still ops S o (.tpl [dz, .v (.bool false)]) := fun base ok a w ha => by
 obtain ⟨cs, h1, h2⟩ := zq (ha.ev hx (bC (by rw [ho]; simp [Op.operands])))
 obtain ⟨de, h3, h4⟩ := cnI hT
 obtain ⟨z, h5, h6⟩ := (zvI hz).get
 have hne' : ¬ T1 = T := fun e => by subst e; simp at hne
 refine ⟨.tuple #[z, .bool false], ?_, [z, .bool false], rfl, _, _, rfl, h6 _ _, _, _, rfl, gG rfl, rfl⟩
 unfold execOp
 have hr : (Instr.typeAssert (.iface T1 (form d cs)) U T true).run Try.prog w = .ok (.tuple #[z, .bool false]) w := by
  simp only [Instr.typeAssert, En, run_underlying h3, Ei]
  cases de <;> first | exact absurd rfl (h4 _) | simp [hne', h5]
 simp only [ho, h1, En, hr, Ei, Eu]
theorem BN {x y : Operand} {tys : Array TypeId} {k : IntKind} {m n : Int} (ho : o.op = .call { callee := .builtin .max, args := #[x, y], argTypes := tys }) (hx : ev S x = some (.val (.v (.int k m)))) (hy : ev S y = some (.val (.v (.int k n)))) : Still ops S o (.val (.v (.int k (if n > m then n else m)))) := fun base ok a w ha => by
 have h1 := fE ha hx (bC (by rw [ho]; simp [Op.operands, Call.operands]))
 have h2 := fE ha hy (bC (by rw [ho]; simp [Op.operands, Call.operands]))
 refine ⟨_, ?_, gG rfl⟩
 unfold execOp
 simp [ho, h1, h2, resolve, invoke, builtin, Builtin.max_, Builtin.max2]
theorem Kn.map {L : Tmp → Prop} (h : Kn base ok L S a w) {i g n c : Nat} {es : List Ent} (hi : S.objs[i]? = some (.map g n c es)) : Obj.At base ok w (.map g n c es) := h.objs _ (EI hi)
theorem zB {x y : Operand} {T K n E g c : Nat} {es : List Ent} {l1 : List UInt8} {dz d' : D} (hget : (aN es l1).getD dz = d') (ho : o.op = .lookup T x y false) (hx : ev S x = some (.val (.v (.map (some g))))) (i : Nat) (hi : S.objs[i]? = some (.map g n c es)) (hy : ev S y = some (.val (.arr n l1))) (hT : assoc lQ T = some (K, n, E)) (hz : assoc eX E = some dz) : Still ops S o (.val d') := fun base ok a w ha => by
 have h1 := fE ha hx (bC (by rw [ho]; simp [Op.operands]))
 obtain ⟨h2, h3⟩ := kN (ha.ev hy (bC (by rw [ho]; simp [Op.operands])))
 obtain ⟨v, h4, h5⟩ := vC (sV hT).1 (sV hT).2 (zvI hz) (ha.map hi) l1 h2 false
 refine ⟨v, ?_, by rw [← hget]; exact h5⟩
 unfold execOp
 simp only [ho, h1, h3, En, h4, Ei, Eu]
 rfl
theorem uf {x y : Operand} {T K n E : Nat} {l1 : List UInt8} {dz : D} (ho : o.op = .lookup T x y false) (hx : ev S x = some (.val (.v (.map none)))) (hy : ev S y = some (.val (.arr n l1))) (hT : assoc lQ T = some (K, n, E)) (hz : assoc eX E = some dz) : Still ops S o (.val dz) := fun base ok a w ha => by
 have h1 := fE ha hx (bC (by rw [ho]; simp [Op.operands]))
 obtain ⟨h2, h3⟩ := kN (ha.ev hy (bC (by rw [ho]; simp [Op.operands])))
 obtain ⟨z, h5, h6⟩ := (zvI hz).get
 obtain ⟨hu, hK⟩ := sV hT
 have hk := run_findKey (w := w) hK l1 h2 [] [] (gu.nil (R := kG ok w n))
 have hr : (Instr.lookup T (.map none) (bI l1) false).run Try.prog w = .ok z w := by
  unfold Instr.lookup
  have hk' : (Instr.findKey K (bI l1) (#[] : Array MapEntry).toList).run Try.prog w = .ok none w := hk
  simp only [En, run_underlying hu, Ei, Eu, dY hK _ l1 h2, hk', h5]
  rfl
 refine ⟨z, ?_, h6 _ _⟩
 unfold execOp
 simp only [ho, h1, h3, En, hr, Ei, Eu]
theorem zC {x : Operand} {T K n E g c : Nat} {es : List Ent} (ho : o.op = .call { callee := .builtin .len, args := #[x], argTypes := #[T] }) (hx : ev S x = some (.val (.v (.map (some g))))) (i : Nat) (hi : S.objs[i]? = some (.map g n c es)) (hT : assoc lQ T = some (K, n, E)) : Still ops S o (.val (.v (.int .i64 es.length))) := fun base ok a w ha => by
 have h1 := fE ha hx (bC (by rw [ho]; simp [Op.operands, Call.operands]))
 have hr := vF o.type (sV hT).1 (ha.map hi)
 refine ⟨_, ?_, gG rfl⟩
 unfold execOp
 simp only [ho, resolve, invoke, builtin, En, Eu, Ei, Gt, EX, FW, h1, hr]
theorem lV {z : Nat} : ∀ rows : List (List Value), (∀ r ∈ rows, r.length = z) → rows.flatten.length = rows.length * z
 | [], _ => by simp
 | r :: rows, h => by
  rw [Fz, Fh, h r (by simp), lV rows fun r hr => h r (by simp [hr]), E8, FY, Gi, Nat.add_comm]
theorem uy {z : Nat} : ∀ (rows : List (List Value)) (k : Nat) (r : List Value), (∀ r ∈ rows, r.length = z) → rows[k]? = some r → ∃ A B, rows.flatten = A ++ r ++ B ∧ A.length = k * z ∧ ∀ r', (rows.set k r').flatten = A ++ r' ++ B
 | [], k, r, _, h => by simp at h
 | x :: rows, 0, r, hl, h => by
  cases h
  exact ⟨[], rows.flatten, by simp, by simp, fun r' => by simp⟩
 | x :: rows, k + 1, r, hl, h => by
  obtain ⟨A, B, h1, h2, h3⟩ := uy rows k r (fun r hr => hl r (by simp [hr])) (by simpa using h)
  refine ⟨x ++ A, B, by simp [h1], ?_, fun r' => ?_⟩
  · rw [Fh, h2, hl x (by simp), FY, Gi, Nat.add_comm]
  ·
   rw [List.set_cons_succ, Fz, h3 r']
   simp
theorem aj.set {z : Nat} : ∀ (ds : List D) (rows : List (List Value)) (k : Nat) (d : D) (r : List Value), aj ok w z ds rows → Reads ok w d r → r.length = z → aj ok w z (ds.set k d) (rows.set k r)
 | [], rows, k, d, r, h, _, _ => by rw [aj] at h; subst h; simp only [List.set_nil]; rw [aj]
 | e :: ds, rows, k, d, r, h, hd, hr => by
  rw [aj] at h
  obtain ⟨x, rest, rfl, h1, h2, h3⟩ := h
  cases k with
  | zero => rw [List.set_cons_zero, List.set_cons_zero, aj]; exact ⟨r, rest, rfl, hr, hd, h3⟩
  | succ k => rw [List.set_cons_succ, List.set_cons_succ, aj]; exact ⟨x, _, rfl, h1, h2, aj.set ds rest k d r h3 hd hr⟩
structure uO (base ok : Nat → Prop) (w : World) (v : Value) (e z : Nat) (ds : List D) (g c : Nat) (cur : Array Value) (rows : List (List Value)) : Prop where
 val : v = .slice (some ⟨g, 0, none⟩) ds.length c
 heap : w.heap[g]? = some (.cells cur e (0, 0))
 cells : cur.toList.take (ds.length * z) = rows.flatten
 size : cur.size = c * z
 le : ds.length ≤ c
 max : c ≤ maxLen
 rows : aj ok w z ds rows
 mine : base g
theorem row_in {e z : Nat} {v : Value} {ds : List D} (h : Obj.At base ok w (.row v e z ds)) (h0 : 0 < ds.length) : ∃ g c cur rows, uO base ok w v e z ds g c cur rows := by
 obtain ⟨rows, ⟨h1, hb⟩, h2⟩ := h
 rcases h1.2 with ⟨_, e⟩ | ⟨g, c, cur, e1, _, e2, e3, e4, e5, e6⟩
 · omega
 · exact ⟨g, c, cur, rows, e1, e2, e6, e5, e3, e4, h2, hb g (by rw [e1]; rfl)⟩
theorem uO.at {e z g c : Nat} {v : Value} {ds : List D} {cur : Array Value} {rows : List (List Value)} (h : uO base ok w v e z ds g c cur rows) : Obj.At base ok w (.row v e z ds) := by
 refine ⟨rows, ⟨⟨?_, .inr ⟨g, c, cur, h.val, Fa _, h.heap, h.le, h.max, h.size, h.cells⟩⟩, fun b hb => ?_⟩, h.rows⟩
 ·
  obtain ⟨h1, h2⟩ := aj.lens ds rows h.rows
  rw [lV rows h2, h1]
 ·
  rw [h.val] at hb
  cases hb
  exact h.mine
theorem uO.elem {e z g c : Nat} {v : Value} {ds : List D} {cur : Array Value} {rows : List (List Value)} (h : uO base ok w v e z ds g c cur rows) {k : Nat} {d : D} (hk : ds[k]? = some d) : ∃ r A B, rows[k]? = some r ∧ r.length = z ∧ Reads ok w d r ∧ cur.toList = A ++ r ++ B ∧ A.length = k * z ∧ ∀ r', r'.length = z → (A ++ r' ++ B).take (ds.length * z) = (rows.set k r').flatten := by
 obtain ⟨hk', rfl⟩ := Ew.1 hk
 obtain ⟨r, h1, h2, h3⟩ := aj.get ds rows h.rows k hk'
 obtain ⟨hl1, hl2⟩ := aj.lens ds rows h.rows
 obtain ⟨A, B, g1, g2, g3⟩ := uy rows k r hl2 h1
 obtain ⟨sp, hsplit⟩ : ∃ sp, cur.toList = rows.flatten ++ sp := ⟨cur.toList.drop (ds.length * z), by rw [← h.cells, FT]⟩
 refine ⟨r, A, B ++ sp, h1, h2, h3, by rw [hsplit, g1]; simp, g2, fun r' hr' => ?_⟩
 have hlen : (A ++ r' ++ B).length = ds.length * z := by
  have := congrArg List.length g1
  rw [lV rows hl2, hl1] at this
  simp only [Fh] at this ⊢
  omega
 rw [g3 r', ← Ey, List.take_left' hlen]
theorem tZ {x y : Operand} {T e z b : Nat} {k : Int} {v : Value} {ds : List D} (ho : o.op = .indexAddr T x y) (hx : ev S x = some (.val (.v v))) (i : Nat) (hi : S.objs[i]? = some (.row v e z ds)) (hy : ev S y = some (.val (.v (.int .i64 k)))) (hT : assoc slL T = some (e, z, b)) (hk : 0 ≤ k ∧ k.toNat < ds.length) : Still ops S o (.val (.v (bJ v (k.toNat * z)))) := fun base ok a w ha => by
 have hx' := fE ha hx (bC (by rw [ho]; simp [Op.operands]))
 have hy' := fE ha hy (bC (by rw [ho]; simp [Op.operands]))
 obtain ⟨g, c, cur, rows, H⟩ := row_in (ha.objs _ (EI hi)) (by omega)
 refine ⟨_, ?_, gG (jW _ _)⟩
 have hlt : k < (ds.length : Int) := by omega
 unfold execOp
 simp [ho, hx', hy', H.val, Instr.indexAt, run_underlying (slI hT).und, asIntOf, hk.1, hlt, jc (slI hT).size, dW, bJ]
theorem tY {x : Operand} {e z n : Nat} {v : Value} {ds : List D} (ho : o.op = .nilCheck x) (hx : ev S x = some (.val (.v (bJ v n)))) (i : Nat) (hi : S.objs[i]? = some (.row v e z ds)) (hk : 0 < ds.length) : Still ops S o (.val (.v (bJ v n))) := fun base ok a w ha => by
 have hx' := fE ha hx (bC (by rw [ho]; simp [Op.operands]))
 obtain ⟨g, c, cur, rows, H⟩ := row_in (ha.objs _ (EI hi)) hk
 refine ⟨_, ?_, gG (jW _ _)⟩
 unfold execOp
 simp only [ho, hx', H.val, bJ, Eu]
theorem oN {x : Operand} {T k off sz e z n : Nat} {ag : Bool} {v : Value} {ds : List D} {lf : List (Nat × Nat × Bool)} (ho : o.op = .fieldAddr T x k) (hx : ev S x = some (.val (.v (bJ v n)))) (i : Nat) (hi : S.objs[i]? = some (.row v e z ds)) (hk0 : 0 < ds.length) (h : assoc stL T = some lf) (hk : lf[k]? = some (off, sz, ag)) (h0 : Nat.blt 0 sz = true) : Still ops S o (.val (.v (bJ v (n + off)))) := fun base ok a w ha => by
 have hx' := fE ha hx (bC (by rw [ho]; simp [Op.operands]))
 obtain ⟨g, c, cur, rows, H⟩ := row_in (ha.objs _ (EI hi)) hk0
 refine ⟨_, ?_, gG (jW _ _)⟩
 unfold execOp
 have e1 : bJ v n = .pointer (some ⟨g, n, none⟩) := by rw [H.val]; simp [bJ]
 have e2 : bJ v (n + off) = .pointer (some ⟨g, n + off, none⟩) := by rw [H.val]; simp [bJ]
 simp only [ho, hx', e1, e2, En, jP (Di h hk h0), Ei, Eu]
theorem qo {x : Operand} {T sz e z n k off : Nat} {ag : Bool} {v : Value} {ds : List D} {d d' : D} (hk : n = k * z + off ∧ ds[k]? = some d) (ho : o.op = .load T x) (hx : ev S x = some (.val (.v (bJ v n)))) (i : Nat) (hi : S.objs[i]? = some (.row v e z ds)) (hT : assoc tyL T = some (sz, ag)) (hs : d.sub off sz ag = some d') : Still ops S o (.val d') := fun base ok a w ha => by
 have hx' := fE ha hx (bC (by rw [ho]; simp [Op.operands]))
 obtain ⟨g, c, cur, rows, H⟩ := row_in (ha.objs _ (EI hi)) (by have := (Ew.1 hk.2).1; omega)
 obtain ⟨r, A, B, h1, h2, h3, h4, h5, _⟩ := H.elem hk.2
 obtain ⟨e1, e2, pre, mid, post, rfl, e3, e4⟩ := jI d off sz ag d' r hs h3
 have hh : w.heap[g]? = some (.cells (A ++ (pre ++ mid ++ post) ++ B).toArray e (0, 0)) := by rw [← h4]; exact H.heap
 have hr := iw hh
 rw [show A ++ (pre ++ mid ++ post) ++ B = (A ++ pre) ++ mid ++ (post ++ B) by simp] at hr
 have hr := jm hr
 rw [Fe, Fh, h5, e3, ← hk.1] at hr
 refine ⟨form d' mid, ?_, mid, e4, rfl⟩
 have ep : bJ v n = .pointer (some ⟨g, n, none⟩) := by rw [H.val]; simp [bJ]
 unfold execOp
 simp only [ho, hx', ep, En, iH (d := d') (by rw [e1, e2]; exact tyI hT) e4 hr, Ei, Eu]
theorem zN {T e z b : Nat} (hT : assoc slL T = some (e, z, b)) : Try.prog.underlying T = some (.slice (Try.prog.elem T)) ∧ ∀ w, (sizeOf (Try.prog.elem T)).run Try.prog w = .ok z w := by
 have h := slI hT
 have : Try.prog.elem T = e := by
  unfold Program.elem
  rw [h.und]
 rw [this]
 exact ⟨h.und, jc h.size⟩
theorem zu {x y : Operand} {T e z b : Nat} {k : Int} {v : Value} {ds : List D} (ho : o.op = .slice T x none (some y) none) (hx : ev S x = some (.val (.v v))) (i : Nat) (hi : S.objs[i]? = some (.row v e z ds)) (hy : ev S y = some (.val (.v (.int .i64 k)))) (hT : assoc slL T = some (e, z, b)) (hk : 0 ≤ k ∧ k.toNat ≤ ds.length) : Still ops S o (.val (.v (cutV v k.toNat))) := fun base ok a w ha => by
 have hx' := fE ha hx (bC (by rw [ho]; simp [Op.operands]))
 have hy' := fE ha hy (bC (by rw [ho]; simp [Op.operands]))
 obtain ⟨rows, ⟨h1, _⟩, _⟩ := ha.objs _ (EI hi)
 obtain ⟨hu, hs⟩ := zN hT
 have hf : ∃ A c, v = .slice A ds.length c ∧ ds.length ≤ c ∧ (A = none ∨ ∃ g, A = some ⟨g, 0, none⟩) := by
  rcases h1.2 with ⟨e1, e2⟩ | ⟨g, c, cur, e1, _, _, e3, _⟩
  · exact ⟨none, 0, by rw [e1, e2], by omega, .inl rfl⟩
  · exact ⟨_, c, e1, e3, .inr ⟨g, rfl⟩⟩
 obtain ⟨A, c, rfl, hc, hA⟩ := hf
 refine ⟨cutV (.slice A ds.length c) k.toNat, ?_, gG (by unfold cutV; rfl)⟩
 unfold execOp
 have hr : (Instr.sliceAt T (.slice A ds.length c) none (some (.int .i64 k)) none).run Try.prog w = .ok (cutV (.slice A ds.length c) k.toNat) w := by
  rw [run_sliceAt_slice (P := Try.prog) w T _ _ _ _ hu, run_slice_h (P := Try.prog) w T A ds.length c hu .i64 k hk.1 (by omega), hs]
  rcases hA with rfl | ⟨g, rfl⟩
  · simp [sliced, cutV, Result.andThen]
  · simp [sliced, cutV, Result.andThen, dW]
 simp only [ho, hx', hy', Option.map_none, Option.map_some, En, hr, Ei, Eu]
theorem qw {z : Nat} (rows : List (List Value)) (h : ∀ r ∈ rows, r.length = z) : ∀ k, (rows.take k).flatten = rows.flatten.take (k * z) := by
 induction rows with
 | nil => intro k; simp
 | cons r rows ih =>
  intro k
  cases k with
  | zero => simp
  | succ k =>
   have hr := h r (by simp)
   rw [Eh, Fz, Fz, ih (fun r hr => h r (by simp [hr])) k, FY, Gi, List.take_append, List.take_of_length_le (by omega : r.length ≤ k * z + z)]
   congr 2
   omega
theorem mO : ∀ (xs : List Operand) (vs : List Value), uz S xs = some vs → (∀ t, .tmp t ∈ xs → L t) → Kn base ok L S a w → xs.map a.eval = vs
 | [], vs, h, _, _ => by cases h; rfl
 | x :: xs, vs, h, hL, ha => by
  rw [uz] at h
  split at h
  ·
   rename_i v vs' h1 h2
   cases h
   rw [EX, fE ha h1 fun t e => hL t (by simp [e]), mO xs vs' h2 (fun t ht => hL t (by simp [ht])) ha]
  · cases h
theorem zA {f : FuncId} {caps : Array Operand} {xs : List Value} (ho : o.op = .makeFunc (.func f) #[] caps) (hx : uz S caps.toList = some xs) : Still ops S o (.val (.v (.func (.func f) #[] xs.toArray))) := fun base ok a w ha => by
 have h1 := mO caps.toList xs hx (fun t ht => aF (x := .tmp t) rfl (by rw [ho]; simp [Op.operands]; simpa using ht)) ha
 refine ⟨_, ?_, gG rfl⟩
 unfold execOp
 have h2 : caps.map a.eval = xs.toArray := by
  apply Gv
  simpa using h1
 simp only [ho, h2, Instr.makeFunc, En, Eu, Ei, Gt, FW]
end
section
variable {N : Nat} {X : Cx N} {S S' : St} {a : Act} {w w' : World} {ops : Array Oper} {o : Oper} {Q : Exit → Act → World → Prop} {l : List Oper} {TT : St → List Fr → Prop} {EE : List Fr} {rs : List (Tmp × R)} {os : List Obj} {fs : List (Value × D)}
theorem aK {t ty : Nat} {pos : String} {af : Array Edge} {gd : Option (Nat × Bool)} {x : Operand} {p : Addr} (hx : ev (⟨rs, os, fs⟩ : St) x = some (.val (.v (.pointer (some p))))) (hg : guardOf ops ⟨rs, os, fs⟩ ⟨some t, .nilCheck x, ty, pos, af, gd⟩ = some true) (hN : Nat.blt t N = true) (kk : EL X ops Q l ⟨(t, (.val (.v (.pointer (some p))))) :: rs, os, fs⟩) : EL X ops Q (⟨some t, .nilCheck x, ty, pos, af, gd⟩ :: l) ⟨rs, os, fs⟩ := ES.still (wU rfl hx) hg rfl hN kk
theorem aT {t ty : Nat} {pos : String} {af : Array Edge} {gd : Option (Nat × Bool)} {x : Operand} {p : Addr} (hx : ev (⟨rs, os, fs⟩ : St) x = some (.val (.v (.pointer (some p))))) (hg : guardOf ops ⟨rs, os, fs⟩ ⟨some t, .nilCheck x, ty, pos, af, gd⟩ = some true) (hoff : cZ N (some t) EE = true) (kk : EM N ops TT l ⟨(t, (.val (.v (.pointer (some p))))) :: rs, os, fs⟩ EE) : EM N ops TT (⟨some t, .nilCheck x, ty, pos, af, gd⟩ :: l) ⟨rs, os, fs⟩ EE := EH.still (wU rfl hx) hg rfl hoff kk
theorem bM {t ty : Nat} {pos : String} {af : Array Edge} {gd : Option (Nat × Bool)} {x : Operand} {d : D} (hx : ev (⟨rs, os, fs⟩ : St) x = some (.val (.pd d))) (hg : guardOf ops ⟨rs, os, fs⟩ ⟨some t, .nilCheck x, ty, pos, af, gd⟩ = some true) (hN : Nat.blt t N = true) (kk : EL X ops Q l ⟨(t, (.val (.pd d))) :: rs, os, fs⟩) : EL X ops Q (⟨some t, .nilCheck x, ty, pos, af, gd⟩ :: l) ⟨rs, os, fs⟩ := ES.still (oO rfl hx) hg rfl hN kk
theorem dB {t ty : Nat} {pos : String} {af : Array Edge} {gd : Option (Nat × Bool)} {x : Operand} {d : D} (hx : ev (⟨rs, os, fs⟩ : St) x = some (.val (.pd d))) (hg : guardOf ops ⟨rs, os, fs⟩ ⟨some t, .nilCheck x, ty, pos, af, gd⟩ = some true) (hoff : cZ N (some t) EE = true) (kk : EM N ops TT l ⟨(t, (.val (.pd d))) :: rs, os, fs⟩ EE) : EM N ops TT (⟨some t, .nilCheck x, ty, pos, af, gd⟩ :: l) ⟨rs, os, fs⟩ EE := EH.still (oO rfl hx) hg rfl hoff kk
theorem eU {t ty : Nat} {pos : String} {af : Array Edge} {gd : Option (Nat × Bool)} {T : Nat} {x : Operand} {d : D} (hx : ev (⟨rs, os, fs⟩ : St) x = some (.val d)) (hT : cnL.contains T = true) (hg : guardOf ops ⟨rs, os, fs⟩ ⟨some t, .makeInterface T x, ty, pos, af, gd⟩ = some true) (hN : Nat.blt t N = true) (kk : EL X ops Q l ⟨(t, (.val (.ifc T d))) :: rs, os, fs⟩) : EL X ops Q (⟨some t, .makeInterface T x, ty, pos, af, gd⟩ :: l) ⟨rs, os, fs⟩ := ES.still (wV rfl hx hT) hg rfl hN kk
theorem dS {t ty : Nat} {pos : String} {af : Array Edge} {gd : Option (Nat × Bool)} {T : Nat} {x : Operand} {d : D} (hx : ev (⟨rs, os, fs⟩ : St) x = some (.val d)) (hT : cnL.contains T = true) (hg : guardOf ops ⟨rs, os, fs⟩ ⟨some t, .makeInterface T x, ty, pos, af, gd⟩ = some true) (hoff : cZ N (some t) EE = true) (kk : EM N ops TT l ⟨(t, (.val (.ifc T d))) :: rs, os, fs⟩ EE) : EM N ops TT (⟨some t, .makeInterface T x, ty, pos, af, gd⟩ :: l) ⟨rs, os, fs⟩ EE := EH.still (wV rfl hx hT) hg rfl hoff kk
theorem nX {t ty : Nat} {pos : String} {af : Array Edge} {gd : Option (Nat × Bool)} {x : Operand} {T : Nat} {U : TypeId} {d : D} (hx : ev (⟨rs, os, fs⟩ : St) x = some (.val (.ifc T d))) (hT : cnL.contains T = true) (hg : guardOf ops ⟨rs, os, fs⟩ ⟨some t, .typeAssert x U T true, ty, pos, af, gd⟩ = some true) (hN : Nat.blt t N = true) (kk : EL X ops Q l ⟨(t, (.tpl [d, .v (.bool true)])) :: rs, os, fs⟩) : EL X ops Q (⟨some t, .typeAssert x U T true, ty, pos, af, gd⟩ :: l) ⟨rs, os, fs⟩ := ES.still (Bg rfl hx hT) hg rfl hN kk
theorem wC {t ty : Nat} {pos : String} {af : Array Edge} {gd : Option (Nat × Bool)} {x : Operand} {T T1 : Nat} {U : TypeId} {d dz : D} (hx : ev (⟨rs, os, fs⟩ : St) x = some (.val (.ifc T1 d))) (hT : cnL.contains T = true) (hne : Nat.beq T1 T = false) (hz : assoc eX T = some dz) (hg : guardOf ops ⟨rs, os, fs⟩ ⟨some t, .typeAssert x U T true, ty, pos, af, gd⟩ = some true) (hN : Nat.blt t N = true) (kk : EL X ops Q l ⟨(t, (.tpl [dz, .v (.bool false)])) :: rs, os, fs⟩) : EL X ops Q (⟨some t, .typeAssert x U T true, ty, pos, af, gd⟩ :: l) ⟨rs, os, fs⟩ := ES.still (Dh rfl hx hT hne hz) hg rfl hN kk
theorem xE {t ty : Nat} {pos : String} {af : Array Edge} {gd : Option (Nat × Bool)} {x y : Operand} {tys : Array TypeId} {k : IntKind} {m n : Int} (hx : ev (⟨rs, os, fs⟩ : St) x = some (.val (.v (.int k m)))) (hy : ev (⟨rs, os, fs⟩ : St) y = some (.val (.v (.int k n)))) (hg : guardOf ops ⟨rs, os, fs⟩ ⟨some t, .call { callee := .builtin .max, args := #[x, y], argTypes := tys }, ty, pos, af, gd⟩ = some true) (hN : Nat.blt t N = true) (kk : EL X ops Q l ⟨(t, (.val (.v (.int k (if n > m then n else m))))) :: rs, os, fs⟩) : EL X ops Q (⟨some t, .call { callee := .builtin .max, args := #[x, y], argTypes := tys }, ty, pos, af, gd⟩ :: l) ⟨rs, os, fs⟩ := ES.still (BN rfl hx hy) hg rfl hN kk
theorem uV {t ty : Nat} {pos : String} {af : Array Edge} {gd : Option (Nat × Bool)} {x y : Operand} {tys : Array TypeId} {k : IntKind} {m n : Int} (hx : ev (⟨rs, os, fs⟩ : St) x = some (.val (.v (.int k m)))) (hy : ev (⟨rs, os, fs⟩ : St) y = some (.val (.v (.int k n)))) (hg : guardOf ops ⟨rs, os, fs⟩ ⟨some t, .call { callee := .builtin .max, args := #[x, y], argTypes := tys }, ty, pos, af, gd⟩ = some true) (hoff : cZ N (some t) EE = true) (kk : EM N ops TT l ⟨(t, (.val (.v (.int k (if n > m then n else m))))) :: rs, os, fs⟩ EE) : EM N ops TT (⟨some t, .call { callee := .builtin .max, args := #[x, y], argTypes := tys }, ty, pos, af, gd⟩ :: l) ⟨rs, os, fs⟩ EE := EH.still (BN rfl hx hy) hg rfl hoff kk
theorem dn {t ty : Nat} {pos : String} {af : Array Edge} {gd : Option (Nat × Bool)} {x y : Operand} {T K n E g c i : Nat} {es : List Ent} {l1 : List UInt8} {dz d' : D} (hget : (aN es l1).getD dz = d') (hx : ev (⟨rs, os, fs⟩ : St) x = some (.val (.v (.map (some g))))) (hi : os[i]? = some (.map g n c es)) (hy : ev (⟨rs, os, fs⟩ : St) y = some (.val (.arr n l1))) (hT : assoc lQ T = some (K, n, E)) (hz : assoc eX E = some dz) (hg : guardOf ops ⟨rs, os, fs⟩ ⟨some t, .lookup T x y false, ty, pos, af, gd⟩ = some true) (hoff : cZ N (some t) EE = true) (kk : EM N ops TT l ⟨(t, (.val d')) :: rs, os, fs⟩ EE) : EM N ops TT (⟨some t, .lookup T x y false, ty, pos, af, gd⟩ :: l) ⟨rs, os, fs⟩ EE := EH.still (zB hget rfl hx i hi hy hT hz) hg rfl hoff kk
theorem uX {t ty : Nat} {pos : String} {af : Array Edge} {gd : Option (Nat × Bool)} {x y : Operand} {T K n E : Nat} {l1 : List UInt8} {dz : D} (hx : ev (⟨rs, os, fs⟩ : St) x = some (.val (.v (.map none)))) (hy : ev (⟨rs, os, fs⟩ : St) y = some (.val (.arr n l1))) (hT : assoc lQ T = some (K, n, E)) (hz : assoc eX E = some dz) (hg : guardOf ops ⟨rs, os, fs⟩ ⟨some t, .lookup T x y false, ty, pos, af, gd⟩ = some true) (hoff : cZ N (some t) EE = true) (kk : EM N ops TT l ⟨(t, (.val dz)) :: rs, os, fs⟩ EE) : EM N ops TT (⟨some t, .lookup T x y false, ty, pos, af, gd⟩ :: l) ⟨rs, os, fs⟩ EE := EH.still (uf rfl hx hy hT hz) hg rfl hoff kk
theorem gW {t ty : Nat} {pos : String} {af : Array Edge} {gd : Option (Nat × Bool)} {x : Operand} {T K n E g c i : Nat} {es : List Ent} (hx : ev (⟨rs, os, fs⟩ : St) x = some (.val (.v (.map (some g))))) (hi : os[i]? = some (.map g n c es)) (hT : assoc lQ T = some (K, n, E)) (hg : guardOf ops ⟨rs, os, fs⟩ ⟨some t, .call { callee := .builtin .len, args := #[x], argTypes := #[T] }, ty, pos, af, gd⟩ = some true) (hN : Nat.blt t N = true) (kk : EL X ops Q l ⟨(t, (.val (.v (.int .i64 es.length)))) :: rs, os, fs⟩) : EL X ops Q (⟨some t, .call { callee := .builtin .len, args := #[x], argTypes := #[T] }, ty, pos, af, gd⟩ :: l) ⟨rs, os, fs⟩ := ES.still (zC rfl hx i hi hT) hg rfl hN kk
theorem dF {t ty : Nat} {pos : String} {af : Array Edge} {gd : Option (Nat × Bool)} {x y : Operand} {T e z b i : Nat} {k : Int} {v : Value} {ds : List D} (hx : ev (⟨rs, os, fs⟩ : St) x = some (.val (.v v))) (hi : os[i]? = some (.row v e z ds)) (hy : ev (⟨rs, os, fs⟩ : St) y = some (.val (.v (.int .i64 k)))) (hT : assoc slL T = some (e, z, b)) (hk : 0 ≤ k ∧ k.toNat < ds.length) (hg : guardOf ops ⟨rs, os, fs⟩ ⟨some t, .indexAddr T x y, ty, pos, af, gd⟩ = some true) (hN : Nat.blt t N = true) (kk : EL X ops Q l ⟨(t, (.val (.v (bJ v (k.toNat * z))))) :: rs, os, fs⟩) : EL X ops Q (⟨some t, .indexAddr T x y, ty, pos, af, gd⟩ :: l) ⟨rs, os, fs⟩ := ES.still (tZ rfl hx i hi hy hT hk) hg rfl hN kk
theorem uT {t ty : Nat} {pos : String} {af : Array Edge} {gd : Option (Nat × Bool)} {x y : Operand} {T e z b i : Nat} {k : Int} {v : Value} {ds : List D} (hx : ev (⟨rs, os, fs⟩ : St) x = some (.val (.v v))) (hi : os[i]? = some (.row v e z ds)) (hy : ev (⟨rs, os, fs⟩ : St) y = some (.val (.v (.int .i64 k)))) (hT : assoc slL T = some (e, z, b)) (hk : 0 ≤ k ∧ k.toNat < ds.length) (hg : guardOf ops ⟨rs, os, fs⟩ ⟨some t, .indexAddr T x y, ty, pos, af, gd⟩ = some true) (hoff : cZ N (some t) EE = true) (kk : EM N ops TT l ⟨(t, (.val (.v (bJ v (k.toNat * z))))) :: rs, os, fs⟩ EE) : EM N ops TT (⟨some t, .indexAddr T x y, ty, pos, af, gd⟩ :: l) ⟨rs, os, fs⟩ EE := EH.still (tZ rfl hx i hi hy hT hk) hg rfl hoff kk
theorem cu {t ty : Nat} {pos : String} {af : Array Edge} {gd : Option (Nat × Bool)} {x : Operand} {e z i : Nat} {v : Value} {ds : List D} {n : Nat} (hx : ev (⟨rs, os, fs⟩ : St) x = some (.val (.v (bJ v n)))) (hi : os[i]? = some (.row v e z ds)) (hk : 0 < ds.length) (hg : guardOf ops ⟨rs, os, fs⟩ ⟨some t, .nilCheck x, ty, pos, af, gd⟩ = some true) (hN : Nat.blt t N = true) (kk : EL X ops Q l ⟨(t, (.val (.v (bJ v n)))) :: rs, os, fs⟩) : EL X ops Q (⟨some t, .nilCheck x, ty, pos, af, gd⟩ :: l) ⟨rs, os, fs⟩ := ES.still (tY rfl hx i hi hk) hg rfl hN kk
theorem dP {t ty : Nat} {pos : String} {af : Array Edge} {gd : Option (Nat × Bool)} {x : Operand} {e z i : Nat} {v : Value} {ds : List D} {n : Nat} (hx : ev (⟨rs, os, fs⟩ : St) x = some (.val (.v (bJ v n)))) (hi : os[i]? = some (.row v e z ds)) (hk : 0 < ds.length) (hg : guardOf ops ⟨rs, os, fs⟩ ⟨some t, .nilCheck x, ty, pos, af, gd⟩ = some true) (hoff : cZ N (some t) EE = true) (kk : EM N ops TT l ⟨(t, (.val (.v (bJ v n)))) :: rs, os, fs⟩ EE) : EM N ops TT (⟨some t, .nilCheck x, ty, pos, af, gd⟩ :: l) ⟨rs, os, fs⟩ EE := EH.still (tY rfl hx i hi hk) hg rfl hoff kk
theorem aJ {t ty : Nat} {pos : String} {af : Array Edge} {gd : Option (Nat × Bool)} {x : Operand} {T k off sz e z i n : Nat} {ag : Bool} {v : Value} {ds : List D} {lf : List (Nat × Nat × Bool)} (hx : ev (⟨rs, os, fs⟩ : St) x = some (.val (.v (bJ v n)))) (hi : os[i]? = some (.row v e z ds)) (hk0 : 0 < ds.length) (h : assoc stL T = some lf) (hk : lf[k]? = some (off, sz, ag)) (h0 : Nat.blt 0 sz = true) (hg : guardOf ops ⟨rs, os, fs⟩ ⟨some t, .fieldAddr T x k, ty, pos, af, gd⟩ = some true) (hN : Nat.blt t N = true) (kk : EL X ops Q l ⟨(t, (.val (.v (bJ v (n + off))))) :: rs, os, fs⟩) : EL X ops Q (⟨some t, .fieldAddr T x k, ty, pos, af, gd⟩ :: l) ⟨rs, os, fs⟩ := ES.still (oN rfl hx i hi hk0 h hk h0) hg rfl hN kk
theorem bY {t ty : Nat} {pos : String} {af : Array Edge} {gd : Option (Nat × Bool)} {x : Operand} {T k off sz e z i n : Nat} {ag : Bool} {v : Value} {ds : List D} {lf : List (Nat × Nat × Bool)} (hx : ev (⟨rs, os, fs⟩ : St) x = some (.val (.v (bJ v n)))) (hi : os[i]? = some (.row v e z ds)) (hk0 : 0 < ds.length) (h : assoc stL T = some lf) (hk : lf[k]? = some (off, sz, ag)) (h0 : Nat.blt 0 sz = true) (hg : guardOf ops ⟨rs, os, fs⟩ ⟨some t, .fieldAddr T x k, ty, pos, af, gd⟩ = some true) (hoff : cZ N (some t) EE = true) (kk : EM N ops TT l ⟨(t, (.val (.v (bJ v (n + off))))) :: rs, os, fs⟩ EE) : EM N ops TT (⟨some t, .fieldAddr T x k, ty, pos, af, gd⟩ :: l) ⟨rs, os, fs⟩ EE := EH.still (oN rfl hx i hi hk0 h hk h0) hg rfl hoff kk
theorem eP {t ty : Nat} {pos : String} {af : Array Edge} {gd : Option (Nat × Bool)} {x : Operand} {T sz e z i n k off : Nat} {ag : Bool} {v : Value} {ds : List D} {d d' : D} (hx : ev (⟨rs, os, fs⟩ : St) x = some (.val (.v (bJ v n)))) (hi : os[i]? = some (.row v e z ds)) (hk : n = k * z + off ∧ ds[k]? = some d) (hT : assoc tyL T = some (sz, ag)) (hs : d.sub off sz ag = some d') (hg : guardOf ops ⟨rs, os, fs⟩ ⟨some t, .load T x, ty, pos, af, gd⟩ = some true) (hN : Nat.blt t N = true) (kk : EL X ops Q l ⟨(t, (.val d')) :: rs, os, fs⟩) : EL X ops Q (⟨some t, .load T x, ty, pos, af, gd⟩ :: l) ⟨rs, os, fs⟩ := ES.still (qo hk rfl hx i hi hT hs) hg rfl hN kk
theorem qC {t ty : Nat} {pos : String} {af : Array Edge} {gd : Option (Nat × Bool)} {x : Operand} {T sz e z i n k off : Nat} {ag : Bool} {v : Value} {ds : List D} {d d' : D} (hx : ev (⟨rs, os, fs⟩ : St) x = some (.val (.v (bJ v n)))) (hi : os[i]? = some (.row v e z ds)) (hk : n = k * z + off ∧ ds[k]? = some d) (hT : assoc tyL T = some (sz, ag)) (hs : d.sub off sz ag = some d') (hg : guardOf ops ⟨rs, os, fs⟩ ⟨some t, .load T x, ty, pos, af, gd⟩ = some true) (hoff : cZ N (some t) EE = true) (kk : EM N ops TT l ⟨(t, (.val d')) :: rs, os, fs⟩ EE) : EM N ops TT (⟨some t, .load T x, ty, pos, af, gd⟩ :: l) ⟨rs, os, fs⟩ EE := EH.still (qo hk rfl hx i hi hT hs) hg rfl hoff kk
theorem l7 {t ty : Nat} {pos : String} {af : Array Edge} {gd : Option (Nat × Bool)} {x y : Operand} {T e z b i : Nat} {k : Int} {v : Value} {ds : List D} (hx : ev (⟨rs, os, fs⟩ : St) x = some (.val (.v v))) (hi : os[i]? = some (.row v e z ds)) (hy : ev (⟨rs, os, fs⟩ : St) y = some (.val (.v (.int .i64 k)))) (hT : assoc slL T = some (e, z, b)) (hk : 0 ≤ k ∧ k.toNat ≤ ds.length) (hg : guardOf ops ⟨rs, os, fs⟩ ⟨some t, .slice T x none (some y) none, ty, pos, af, gd⟩ = some true) (hN : Nat.blt t N = true) (kk : EL X ops Q l ⟨(t, (.val (.v (cutV v k.toNat)))) :: rs, os, fs⟩) : EL X ops Q (⟨some t, .slice T x none (some y) none, ty, pos, af, gd⟩ :: l) ⟨rs, os, fs⟩ := ES.still (zu rfl hx i hi hy hT hk) hg rfl hN kk
theorem kC {t ty : Nat} {pos : String} {af : Array Edge} {gd : Option (Nat × Bool)} {f : FuncId} {caps : Array Operand} {xs : List Value} (hx : uz (⟨rs, os, fs⟩ : St) caps.toList = some xs) (hg : guardOf ops ⟨rs, os, fs⟩ ⟨some t, .makeFunc (.func f) #[] caps, ty, pos, af, gd⟩ = some true) (hN : Nat.blt t N = true) (kk : EL X ops Q l ⟨(t, (.val (.v (.func (.func f) #[] xs.toArray)))) :: rs, os, fs⟩) : EL X ops Q (⟨some t, .makeFunc (.func f) #[] caps, ty, pos, af, gd⟩ :: l) ⟨rs, os, fs⟩ := ES.still (zA rfl hx) hg rfl hN kk
end
section
variable {N : Nat} {X : Cx N} {S S' : St} {a : Act} {w w' : World} {ops : Array Oper} {o : Oper} {Q : Exit → Act → World → Prop} {l : List Oper} {TT : St → List Fr → Prop} {EE : List Fr} {rs : List (Tmp × R)} {os os' rest : List Obj} {fs : List (Value × D)} {base ok : Nat → Prop} {p q : Obj}
theorem EL.put (i : Nat) (hg : guardOf ops S o = some true) (hd : o.dst = none) (hP : Puts ops S o p q) (hi : S.objs[i]? = some p) (k : EL X ops Q l ⟨S.regs, S.objs.set i q, S.facts⟩) : EL X ops Q (o :: l) S := by
 constructor
 intro a w ha
 obtain ⟨hq, hP⟩ := hP
 have hmem := EI hi
 obtain ⟨w', g, h1, h2, h3, h4⟩ := hP _ _ a w (ha.kn _) (fun g hb hk => hk.2.2 p hmem hb) (ha.mem.at_ p hmem)
 unfold wpList
 rw [if_pos (dU ha hg)]
 refine .inl ?_
 unfold Oper.wp
 rw [h1]
 simp only [Oper.upon_skip, hd, Act.put]
 exact k.go _ _ (ha.turn hi (by rw [h2]; exact h3) (.inl hq) fun hok hcell => h4.move hok (fun _ _ => rfl) fun _ _ => rfl)
theorem vI {T K n E g c : Nat} {x y z : Operand} {es : List Ent} {l1 : List UInt8} {d : D} (ho : o.op = .mapUpdate T x y z) (hx : ev S x = some (.val (.v (.map (some g))))) (hy : ev S y = some (.val (.arr n l1))) (hz : ev S z = some (.val d)) (hT : assoc lQ T = some (K, n, E)) : Puts ops S o (.map g n c es) (.map g n (bn c es l1) (bG c es l1 d)) := by
 refine ⟨rfl, fun base ok a w ha hno hat => ?_⟩
 have h1 := fE ha hx (bC (by rw [ho]; simp [Op.operands]))
 obtain ⟨h2, h3⟩ := kN (ha.ev hy (bC (by rw [ho]; simp [Op.operands])))
 obtain ⟨w', h4, h5, h6⟩ := pK (sV hT).1 (sV hT).2 hat l1 h2 (ha.ev hz (bC (by rw [ho]; simp [Op.operands]))) (hno g rfl)
 refine ⟨w', g, ?_, rfl, h5, h6⟩
 unfold execOp
 simp only [ho, h1, h3, En, h4, Ei, Eu]
theorem eH {T K n E g c ty : Nat} {pos : String} {af : Array Edge} {gd : Option (Nat × Bool)} {x y z : Operand} {es : List Ent} {l1 : List UInt8} {d : D} (hx : ev (⟨rs, os, fs⟩ : St) x = some (.val (.v (.map (some g))))) (hset : ku os (.map g n c es) (.map g n (bn c es l1) (bG c es l1 d)) os') (hy : ev (⟨rs, os, fs⟩ : St) y = some (.val (.arr n l1))) (hz : ev (⟨rs, os, fs⟩ : St) z = some (.val d)) (hT : assoc lQ T = some (K, n, E)) (hg : guardOf ops ⟨rs, os, fs⟩ ⟨none, .mapUpdate T x y z, ty, pos, af, gd⟩ = some true) (kk : EL X ops Q l ⟨rs, os', fs⟩) : EL X ops Q (⟨none, .mapUpdate T x y z, ty, pos, af, gd⟩ :: l) ⟨rs, os, fs⟩ := by
 obtain ⟨i, hi, rfl⟩ := hset.ix
 exact EL.put i hg rfl (vI rfl hx hy hz hT) hi kk
theorem EL.del {T K n E g c : Nat} {U : TypeId} {x y : Operand} {es : List Ent} {l1 : List UInt8} (i : Nat) (ho : o.op = .call { callee := .builtin .delete, args := #[x, y], argTypes := #[T, U] }) (hg : guardOf ops S o = some true) (hd : o.dst = none) (hx : ev S x = some (.val (.v (.map (some g))))) (hi : S.objs[i]? = some (.map g n c es)) (hy : ev S y = some (.val (.arr n l1))) (hT : assoc lQ T = some (K, n, E)) (k : EL X ops Q l ⟨S.regs, S.objs.set i (.map g n c (fV es l1)), S.facts⟩) : EL X ops Q (o :: l) S := by
 constructor
 intro a w ha
 have hk := ha.kn fun t => t ∈ o.looksAt ops
 have h1 := fE hk hx (bC (by rw [ho]; simp [Op.operands, Call.operands]))
 obtain ⟨h2, h3⟩ := kN (hk.ev hy (bC (by rw [ho]; simp [Op.operands, Call.operands])))
 have hmem := EI hi
 obtain ⟨w', h4, h5, h6⟩ := vG (U := U) o.type (sV hT).1 (sV hT).2 (ha.mem.at_ _ hmem) l1 h2 (fun hk => hk.2.2 _ hmem rfl)
 unfold wpList
 rw [if_pos (dU ha hg)]
 refine .inl ?_
 unfold Oper.wp execOp
 simp only [ho, resolve, invoke, builtin, En, Eu, Ei, Gt, EX, FW, h1, h3, h4]
 simp only [Oper.upon_value, hd, Act.put]
 exact k.go _ _ (ha.turn hi h5 (.inl rfl) fun hok hcell => h6.move hok (fun _ _ => rfl) fun _ _ => rfl)
theorem uQ {T K n E g c ty : Nat} {U : TypeId} {pos : String} {af : Array Edge} {gd : Option (Nat × Bool)} {x y : Operand} {es : List Ent} {l1 : List UInt8} (hx : ev (⟨rs, os, fs⟩ : St) x = some (.val (.v (.map (some g))))) (hset : ku os (.map g n c es) (.map g n c (fV es l1)) os') (hy : ev (⟨rs, os, fs⟩ : St) y = some (.val (.arr n l1))) (hT : assoc lQ T = some (K, n, E)) (hg : guardOf ops ⟨rs, os, fs⟩ ⟨none, .call { callee := .builtin .delete, args := #[x, y], argTypes := #[T, U] }, ty, pos, af, gd⟩ = some true) (kk : EL X ops Q l ⟨rs, os', fs⟩) : EL X ops Q (⟨none, .call { callee := .builtin .delete, args := #[x, y], argTypes := #[T, U] }, ty, pos, af, gd⟩ :: l) ⟨rs, os, fs⟩ := by
 obtain ⟨i, hi, rfl⟩ := hset.ix
 exact EL.del i rfl hg rfl hx hi hy hT kk
theorem BK {q : Obj} {r : R} {ob : Go.Obj} {v : Value} (hb : q.blk = some w.heap.size) (hat : ∀ ok' : Nat → Prop, (∀ b, ok b → ok' b) → q.At (fun b => kH [] b ∨ w.heap.size ≤ b) ok' (w.alloc ob)) (hr : ∀ ok', aV ok' (w.alloc ob) r v) (hlt : ∀ b, ok b → b < w.heap.size) : Turned ok [] w [q] (w.alloc ob) ∧ aV (okM ok [] w [q] (w.alloc ob)) (w.alloc ob) r v := by
 have hg := eF w ob
 refine ⟨⟨.of hg, by simp, fun o ho => ?_⟩, hr _⟩
 obtain rfl : o = q := by simpa using ho
 refine hat _ fun b hk => ⟨.inl hk, EG (hlt b hk) hg.size, fun o' ho' e => ?_⟩
 obtain rfl : o' = o := by simpa using ho'
 rw [hb] at e
 injection e with e
 have := hlt b hk
 omega
theorem iE {T K n E : Nat} (ho : o.op = .makeMap T none) (hT : assoc lQ T = some (K, n, E)) : pU ops S o [] (fun r os' => ∃ g, r = .val (.v (.map (some g))) ∧ os' = [.map g n 0 []]) := .mk fun base ok a w ha hown => by
 have hr : (execOp a.eval o).run Try.prog w = .ok (.value (.map (some w.heap.size))) (w.alloc (.map #[] 0)) := by
  unfold execOp
  have := @run_makeMap Try.prog
  simp [ho, this]
 rw [hr]
 obtain ⟨h1, h2⟩ := BK (ok := ok) (w := w) (q := .map w.heap.size n 0 []) (r := .val (.v (.map (some w.heap.size)))) (ob := .map #[] 0) (v := .map (some w.heap.size)) rfl (fun ok' _ => ⟨.inr (ED _), mV.nil, #[], heap_alloc_new w _, .nil⟩) (fun _ => gG rfl) ha.lt
 exact ⟨_, _, ⟨_, rfl, rfl⟩, h1, h2⟩
theorem sW {T : TypeId} {x : Operand} {d : D} (ho : o.op = .box T x) (hx : ev S x = some (.val d)) : pU ops S o [] (fun r os' => ∃ g, r = .val (.v (.pointer (some ⟨g, 0, none⟩))) ∧ os' = [.var g T d]) := .mk fun base ok a w ha hown => by
 obtain ⟨cs, h1, h2⟩ := wI ho hx base ok a w ha
 rw [h1]
 obtain ⟨g1, g2⟩ := BK (ok := ok) (w := w) (q := .var w.heap.size T d) (r := .val (.v (.pointer (some ⟨w.heap.size, 0, none⟩)))) (ob := .cells cs.toArray T) (v := .pointer (some ⟨w.heap.size, 0, none⟩)) rfl (fun ok' hk => ⟨.inr (ED _), cs, heap_alloc_new w _, Reads.mono hk (fun p hp => (eF w _).cell (ha.lt _ hp)) _ _ h2⟩) (fun _ => gG rfl) ha.lt
 exact ⟨_, _, ⟨_, rfl, rfl⟩, g1, g2⟩
theorem fO {t T K n E ty : Nat} {pos : String} {af : Array Edge} {gd : Option (Nat × Bool)} (hT : assoc lQ T = some (K, n, E)) (hg : guardOf ops ⟨rs, os, fs⟩ ⟨some t, .makeMap T none, ty, pos, af, gd⟩ = some true) (hN : Nat.blt t N = true) (kk : ∀ g, EL X ops Q l ⟨(t, .val (.v (.map (some g)))) :: rs, .map g n 0 [] :: os, fs⟩) : EL X ops Q (⟨some t, .makeMap T none, ty, pos, af, gd⟩ :: l) ⟨rs, os, fs⟩ :=
 EL.mut (os := []) (rest := os) hg (iW rfl hN) (iE rfl hT) fun r os' ⟨g, h1, h2⟩ => by
  subst h1 h2
  exact kk g
theorem dw {t ty f : Nat} {pos : String} {af : Array Edge} {gd : Option (Nat × Bool)} {args : Array Operand} {tys : Array TypeId} {ds ds' : List D} {os0 : List Obj} {Φ : R → List Obj → Prop} (hF : FnM f ds' os Φ) (hos : os0 = os ++ rest) (hx : evs (⟨rs, rest, fs⟩ : St) args.toList = some ds) (hR : ak fs ds ds') (hf : Enters f) (hg : guardOf ops ⟨rs, os ++ rest, fs⟩ ⟨some t, .call { callee := .value (.func f), args := args, argTypes := tys }, ty, pos, af, gd⟩ = some true) (hN : Nat.blt t N = true) (kk : ∀ r os', Φ r os' → EL X ops Q l ⟨(t, r) :: rs, os' ++ rest, fs⟩) : EL X ops Q (⟨some t, .call { callee := .value (.func f), args := args, argTypes := tys }, ty, pos, af, gd⟩ :: l) ⟨rs, os0, fs⟩ := by
 subst hos
 refine EL.mut (Φ := Φ) hg (iW rfl hN) ?_ kk
 exact qW (S := ⟨rs, rest, fs⟩) hF rfl hx hR hf
theorem fJ {t ty f : Nat} {pos : String} {af : Array Edge} {gd : Option (Nat × Bool)} {args : Array Operand} {tys : Array TypeId} {ds ds' : List D} {os0 os1 : List Obj} {r1 : R} (hF : FnM f ds' os (fun r os' => r = r1 ∧ os' = os1)) (hos : os0 = os ++ rest) (hx : evs (⟨rs, rest, fs⟩ : St) args.toList = some ds) (hR : ak fs ds ds') (hf : Enters f) (hg : guardOf ops ⟨rs, os ++ rest, fs⟩ ⟨some t, .call { callee := .value (.func f), args := args, argTypes := tys }, ty, pos, af, gd⟩ = some true) (hN : Nat.blt t N = true) (kk : EL X ops Q l ⟨(t, r1) :: rs, os1 ++ rest, fs⟩) : EL X ops Q (⟨some t, .call { callee := .value (.func f), args := args, argTypes := tys }, ty, pos, af, gd⟩ :: l) ⟨rs, os0, fs⟩ :=
 dw hF hos hx hR hf hg hN fun r os' ⟨h1, h2⟩ => by
  subst h1 h2
  exact kk
theorem CH.iT {os1 : List Obj} {T : St → Prop} {d : Option Tmp} {ty f : Nat} {pos : String} {af : Array Edge} {gd : Option (Nat × Bool)} {args : Array Operand} {tys : Array TypeId} {ds ds' : List D} {os0 : List Obj} {Φ : R → List Obj → Prop} (hF : FnM f ds' os Φ) (hos : os0 = os ++ (rest ++ os1)) (hx : evs (⟨rs, rest ++ os1, fs⟩ : St) args.toList = some ds) (hR : ak fs ds ds') (hf : Enters f) (hg : guardOf ops ⟨rs, os ++ (rest ++ os1), fs⟩ ⟨d, .call { callee := .value (.func f), args := args, argTypes := tys }, ty, pos, af, gd⟩ = some true) (hd : Bl N d = true)
  (k : ∀ r os', Φ r os' → CH N ops os1 T l (St.put ⟨rs, os' ++ (rest ++ os1), fs⟩ d r)) : CH N ops os1 T (⟨d, .call { callee := .value (.func f), args := args, argTypes := tys }, ty, pos, af, gd⟩ :: l) ⟨rs, os0, fs⟩ := by
 subst hos
 refine CH.mut (Φ := Φ) hd hg ?_ k
 exact qW (S := ⟨rs, rest ++ os1, fs⟩) hF rfl hx hR hf
theorem xO {t f : Nat} {args : Array Operand} {tys : Array TypeId} {caps : List Value} (ho : o.op = .call { callee := .value (.tmp t), args := args, argTypes := tys }) (ht : a.eval (.tmp t) = .func (.func f) #[] caps.toArray) (hf : Enters f) : (execOp a.eval o).run Try.prog w = .ok (.enter f (args.map a.eval ++ caps.toArray)) w := by
 unfold execOp
 simp [ho, resolve, ht, Deferred.ofValue, invoke, hf (args.map a.eval ++ caps.toArray) w]
theorem qX {t : Tmp} {args : Array Operand} {tys : Array TypeId} (ho : o.op = .call { callee := .value (.tmp t), args := args, argTypes := tys }) : ∀ u, Operand.tmp t = .tmp u → u ∈ o.looksAt ops := bC (by rw [ho]; simp [Op.operands, Call.operands])
theorem kT : ∀ (ds es : List D) (xs ys : List Value), dh ok w ds xs → dh ok w es ys → dh ok w (ds ++ es) (xs ++ ys)
 | [], es, xs, ys, h, h' => by cases h; exact h'
 | d :: ds, es, xs, ys, h, h' => by
  obtain ⟨x, rest, rfl, h1, h2⟩ := h
  exact ⟨x, _, rfl, h1, kT ds es rest ys h2 h'⟩
theorem AX {t f : Nat} {args : Array Operand} {tys : Array TypeId} {caps : List Value} {ds ds' cds : List D} {Φ : R → List Obj → Prop} (hF : FnM f (ds' ++ cds) os Φ) (hc : ∀ base ok L (a : Act) w, Kn base ok L S a w → dh ok w cds caps) (ho : o.op = .call { callee := .value (.tmp t), args := args, argTypes := tys }) (ht : look S.regs t = some (.val (.v (.func (.func f) #[] caps.toArray)))) (hx : evs S args.toList = some ds) (hR : ak S.facts ds ds') (hf : Enters f) : pU ops S o os Φ := .mk fun base ok a w ha hown => by
 have h1 : a.eval (.tmp t) = .func (.func f) #[] caps.toArray := fE ha (x := .tmp t) ht (qX ho)
 have hr := ak.oD ha.facts _ _ _ hR (ha.evs _ _ hx fun u hu => aF (x := .tmp u) rfl (by rw [ho]; simp only [Op.operands, Call.operands]; simp; right; simpa using hu))
 rw [xO ho h1 hf]
 have := hF.go ok w _ ha.lt hown (kT _ _ _ _ hr (hc _ _ _ a w ha))
 have he : (args.toList.map a.eval ++ caps).toArray = args.map a.eval ++ caps.toArray := by
  apply Gv
  simp
 rw [he] at this
 simp only [fA]
 refine this.mono ?_
 rintro e w' ⟨v, r, os', rfl, h1, h2, h3⟩
 exact ⟨v, rfl, r, os', h1, h2, h3⟩
theorem pF {t u ty f : Nat} {pos : String} {af : Array Edge} {gd : Option (Nat × Bool)} {args : Array Operand} {tys : Array TypeId} {caps : List Value} {ds ds' cds : List D} {os0 : List Obj} {Φ : R → List Obj → Prop} (hF : FnM f (ds' ++ cds) os Φ) (hc : ∀ base ok L (a : Act) w, Kn base ok L ⟨rs, rest, fs⟩ a w → dh ok w cds caps) (hos : os0 = os ++ rest) (ht : look rs u = some (.val (.v (.func (.func f) #[] caps.toArray)))) (hx : evs (⟨rs, rest, fs⟩ : St) args.toList = some ds) (hR : ak fs ds ds') (hf : Enters f) (hg : guardOf ops ⟨rs, os ++ rest, fs⟩ ⟨some t, .call { callee := .value (.tmp u), args := args, argTypes := tys }, ty, pos, af, gd⟩ = some true) (hN : Nat.blt t N = true) (kk : ∀ r os', Φ r os' → EL X ops Q l ⟨(t, r) :: rs, os' ++ rest, fs⟩) : EL X ops Q (⟨some t, .call { callee := .value (.tmp u), args := args, argTypes := tys }, ty, pos, af, gd⟩ :: l) ⟨rs, os0, fs⟩ := by
 subst hos
 exact EL.mut hg (iW rfl hN) (AX hF hc rfl ht hx hR hf) kk
theorem rF {caps : List Value} (h : ∀ x ∈ caps, x.oneCell' = true) : dh ok w (caps.map .v) caps := by
 induction caps with
 | nil => rfl
 | cons x xs ih => exact ⟨x, xs, rfl, gG (h x (by simp)), ih fun y hy => h y (by simp [hy])⟩
theorem uG (v : Value) (k : Nat) : (cutV v k).ownBlock = v.ownBlock := by
 unfold cutV
 split
 ·
  rename_i A n c
  cases A <;> rfl
 · rfl
theorem Le.ru {e z k : Nat} {v : Value} {ds : List D} (hk : k ≤ ds.length) (hset : ku os (.row v e z ds) (.row (cutV v k) e z (ds.take k)) os') : Le X ⟨rs, os, fs⟩ ⟨rs, os', fs⟩ := by
 obtain ⟨i, hi, rfl⟩ := hset.ix
 intro a w ha
 refine ha.turn hi (World.grownBy.refl w _) (.inl ?_) fun hok hcell => ?_
 · exact uG v k
 ·
  have hat := (ha.mem.at_ _ (EI hi)).move hok (fun _ _ => rfl) fun _ _ => rfl
  obtain ⟨rows, ⟨h1, h2⟩, h3⟩ := hat
  obtain ⟨hl1, hl2⟩ := aj.lens ds rows h3
  have hlen : (ds.take k).length = k := by rw [Gg]; omega
  have hb := uG v k
  refine ⟨rows.take k, ⟨⟨?_, ?_⟩, fun b hb' => h2 b (by rw [← hb]; exact hb')⟩, aj.take ds rows k h3⟩
  ·
   rw [qw rows hl2, Gg, lV rows hl2, hl1, hlen]
   exact He (F9 z hk)
  ·
   rcases h1.2 with ⟨e1, e2⟩ | ⟨g, c, cur, e1, e2, e3, e4, e5, e6, e7⟩
   ·
    refine .inl ⟨?_, by omega⟩
    rw [e1]
    have : k = 0 := by omega
    subst this
    rfl
   ·
    refine .inr ⟨g, c, cur, by rw [e1, hlen]; rfl, e2, e3, by omega, e5, e6, ?_⟩
    rw [qw rows hl2, ← e7, hlen, List.take_take, He (F9 z hk)]
theorem Eb {T : Nat} (h : CP.contains T = true) : ∃ e, Try.prog.underlying T = some (.pointer e) := by
 have := E5.1 AA T (by simpa using h)
 unfold DK at this
 split at this
 ·
  rename_i e he
  exact ⟨e, he⟩
 · cases this
end
end E
end Go.Proofs.Ytkhjanjlcdhdcaa
namespace Go.Proofs.Ytkhjanjlcdhdcaa
set_option linter.unusedVariables false
namespace Wd
open Rlp
def le (B : Nat) : List Nat → Nat
 | [] => 0
 | d :: ds => d + B * le B ds
end Wd
end Go.Proofs.Ytkhjanjlcdhdcaa
namespace Go.Proofs.Ytkhjanjlcdhdcaa
set_option linter.unusedVariables false
open Go.RowKit Mono Rlp
namespace E
section
variable {N : Nat} {X : Cx N} {S S' : St} {a : Act} {w w' : World} {ops : Array Oper} {o : Oper} {Q : Exit → Act → World → Prop} {K : Act → World → Prop} {l : List Oper} {c : Code} {TT : St → List Fr → Prop} {EE : List Fr} {rs : List (Tmp × R)} {os os' rest : List Obj} {fs : List (Value × D)} {base ok : Nat → Prop}
theorem EC.zh (n : Nat) (h : EK X (Code.rounds Try.prog c Q n) S) : EC X Q (.loop c) S := ⟨fun a w ha => wp_loop_rounds n (h.go a w ha)⟩
theorem EK.round {n : Nat} (h : EC X (Exit.then (Code.rounds Try.prog c Q n) Q) c S) : EK X (Code.rounds Try.prog c Q (n + 1)) S := ⟨fun a w ha => h.go a w ha⟩
theorem BO {f : FuncId} {args : Array Operand} {tys : Array TypeId} {xs vs : List Value} (hrun : ∀ w, (callFunc f xs.toArray).run Try.prog w = .ok (.value (.tuple vs.toArray)) w) (hvs : ∀ x ∈ vs, x.oneCell' = true) (ho : o.op = .call { callee := .value (.func f), args := args, argTypes := tys }) (hx : uz S args.toList = some xs) : Still ops S o (.tpl (vs.map .v)) := fun base ok a w ha => by
 have h1 := mO args.toList xs hx (fun t ht => aF (x := .tmp t) rfl (by rw [ho]; simp only [Op.operands, Call.operands]; simp; simpa using ht)) ha
 have h2 : args.map a.eval = xs.toArray := by
  apply Gv
  simpa using h1
 refine ⟨.tuple vs.toArray, ?_, vs, rfl, rF hvs⟩
 unfold execOp
 simp [ho, resolve, Act.eval, Deferred.ofValue, invoke, h2, hrun]
theorem ES.ext {t : Tmp} {f : FuncId} {args : Array Operand} {tys : Array TypeId} {xs vs : List Value} (hrun : ∀ w, (callFunc f xs.toArray).run Try.prog w = .ok (.value (.tuple vs.toArray)) w) (hvs : ∀ x ∈ vs, x.oneCell' = true) (ho : o.op = .call { callee := .value (.func f), args := args, argTypes := tys }) (hx : uz (⟨rs, os, fs⟩ : St) args.toList = some xs) (hg : guardOf ops ⟨rs, os, fs⟩ o = some true) (hd : o.dst = some t) (hN : Nat.blt t N = true) (k : EL X ops Q l ⟨(t, .tpl (vs.map .v)) :: rs, os, fs⟩) : EL X ops Q (o :: l) ⟨rs, os, fs⟩ := ES.still (BO hrun hvs ho hx) hg hd hN k
theorem EH.ext {t : Tmp} {f : FuncId} {args : Array Operand} {tys : Array TypeId} {xs vs : List Value} (hrun : ∀ w, (callFunc f xs.toArray).run Try.prog w = .ok (.value (.tuple vs.toArray)) w) (hvs : ∀ x ∈ vs, x.oneCell' = true) (ho : o.op = .call { callee := .value (.func f), args := args, argTypes := tys }) (hx : uz (⟨rs, os, fs⟩ : St) args.toList = some xs) (hg : guardOf ops ⟨rs, os, fs⟩ o = some true) (ht : o.dst = some t) (hd : cZ N (some t) EE = true) (k : EM N ops TT l ⟨(t, .tpl (vs.map .v)) :: rs, os, fs⟩ EE) : EM N ops TT (o :: l) ⟨rs, os, fs⟩ EE := EH.still (BO hrun hvs ho hx) hg ht hd k
theorem uH {T U : Nat} {k k' : IntKind} {de : TypeDesc} (hu : Try.prog.underlying T = some de) (hu' : Try.prog.underlying U = some (.int k')) (m n : Int) (h : k'.wrap m = n) : ∀ w, (Go.convert T U (.int k m)).run Try.prog w = .ok (.int k' n) w := fun w => by
 subst h
 simp [convert, run_underlying hu, run_underlying hu', Conv.intToInt]
theorem zV {op : BinOp} {T : TypeId} {k k' : IntKind} {m n : Int} {c : Value} (hc : c.oneCell' = true) (h : ∀ w, (binOp op T (.int k m) (.int k' n)).run Try.prog w = .ok c w) : Bin op T (.v (.int k m)) (.v (.int k' n)) c := by
 refine ⟨hc, fun ok w p q hp hq => ?_⟩
 obtain ⟨_, rfl⟩ := aI.1 hp
 obtain ⟨_, rfl⟩ := aI.1 hq
 exact ⟨fun x y => by cases op <;> simp [eqGuard], h w⟩
end
end E
end Go.Proofs.Ytkhjanjlcdhdcaa
