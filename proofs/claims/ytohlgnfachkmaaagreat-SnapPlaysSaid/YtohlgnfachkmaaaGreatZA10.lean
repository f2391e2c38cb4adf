/-
 Merged: lemmas of this claim.
 Conditions: none.
-/
import Derived.Test.YtohlgnfachkmaaaGreatZA9
import Derived.Laws.Slices
import Derived.Test.YtohlgnfachkmaaaGreatZA0
namespace Go.Proofs.YtohlgnfachkmaaaGreat
set_option linter.unusedVariables false
open Go.RowKit Mono Rlp
namespace E
def aN (v : Value) (n : Nat) : Value :=
 match v with
 | .slice (some a) _ _ => .pointer (some ⟨a.block, a.off + n, none⟩)
 | _ => .pointer none
def cutV (v : Value) (k : Nat) : Value :=
 match v with
 | .slice A n c => .slice A k c
 | v => v
theorem kL (v : Value) (n : Nat) : (aN v n).oneCell' = true := by
 unfold aN
 split <;> rfl
def xE (S : St) : List Operand → Option (List Value)
 | [] => some []
 | x :: xs => match ev S x, xE S xs with
  | some (.val (.v v)), some vs => some (v :: vs)
  | _, _ => none
section
variable {N : Nat} {X : Cx N} {S S' : St} {a : Act} {w w' : World} {ops : Array Oper} {o : Oper} {Q : Exit → Act → World → Prop} {l : List Oper} {TT : St → List Fr → Prop} {EE : List Fr} {rs : List (Tmp × R)} {os : List Obj} {fs : List (Value × D)} {base ok : Nat → Prop} {L : Tmp → Prop}
theorem nD {T K n e : Nat} (h : assoc ji T = some (K, n, e)) : Tryz.prog.underlying T = some (.map K e) ∧ vg K n := I8 (by
 have := Md.1 Gs _ (fE _ _ _ h)
 simpa using this)
theorem zvI {T : Nat} {d : D} (h : assoc dI T = some d) : xW T d := tJ.get _ _ _ IB h
theorem cnI {T : Nat} (h : cnL.contains T = true) : ∃ d, Tryz.prog.underlying T = some d ∧ ∀ ms, d ≠ .interface ms := by
 have := Md.1 Jj T (by simpa using h)
 unfold cnB at this
 split at this
 · cases this
 ·
  rename_i d hd h1
  exact ⟨d, h1, fun ms e => hd ms e⟩
 · cases this
theorem aF {x : Operand} (h : x ∈ o.op.operands.toList) : ∀ t, x = .tmp t → t ∈ o.looksAt ops := fun t e => ay e h
theorem zO {x : Operand} {p : Addr} (ho : o.op = .nilCheck x) (hx : ev S x = some (.val (.v (.pointer (some p))))) : Still ops S o (.val (.v (.pointer (some p)))) := fun base ok a w ha => by
 have h1 := bK ha hx (aF (by rw [ho]; simp [Op.operands]))
 refine ⟨_, ?_, dR rfl⟩
 unfold execOp
 simp only [ho, h1, LD]
theorem JR {d : D} {x : Value} (h : bF ok w (.pd d) x) : ∃ b n cs, x = .pointer (some ⟨b, n, none⟩) ∧ ok b ∧ w.rangeAt b n cs ∧ Reads ok w d cs := by
 have h1 := (bQ rfl).1 h
 rw [Reads] at h1
 obtain ⟨b, n, cs, h2, h3, h4, h5⟩ := h1
 exact ⟨b, n, cs, by simpa using h2, h3, h4, h5⟩
theorem qG {x : Operand} {d : D} (ho : o.op = .nilCheck x) (hx : ev S x = some (.val (.pd d))) : Still ops S o (.val (.pd d)) := fun base ok a w ha => by
 have h0 := ha.ev hx (aF (by rw [ho]; simp [Op.operands]))
 obtain ⟨b, n, cs, h1, _⟩ := JR h0
 refine ⟨a.eval x, ?_, h0⟩
 unfold execOp
 simp only [ho, h1, LD]
theorem GH {T : Nat} {x : Operand} {d : D} (ho : o.op = .makeInterface T x) (hx : ev S x = some (.val d)) (hT : cnL.contains T = true) : Still ops S o (.val (.ifc T d)) := fun base ok a w ha => by
 obtain ⟨cs, h1, h2⟩ := ha.ev hx (aF (by rw [ho]; simp [Op.operands]))
 obtain ⟨de, h3, h4⟩ := cnI hT
 refine ⟨.iface T (a.eval x), ?_, (bQ rfl).2 (by rw [Reads]; exact ⟨cs, by rw [h2], h1⟩)⟩
 unfold execOp
 have hr : (Instr.makeInterface T (a.eval x)).run Tryz.prog w = .ok (.iface T (a.eval x)) w := by
  unfold Instr.makeInterface
  rw [Lr, run_underlying h3, Lh]
  cases de <;> first | exact absurd rfl (h4 _) | rfl
 simp only [ho, Lr, hr, Lh, LD]
theorem JZ {x y : Operand} {tys : Array TypeId} {k : IntKind} {m n : Int} (ho : o.op = .call { callee := .builtin .max, args := #[x, y], argTypes := tys }) (hx : ev S x = some (.val (.v (.int k m)))) (hy : ev S y = some (.val (.v (.int k n)))) : Still ops S o (.val (.v (.int k (if n > m then n else m)))) := fun base ok a w ha => by
 have h1 := bK ha hx (aF (by rw [ho]; simp [Op.operands, Call.operands]))
 have h2 := bK ha hy (aF (by rw [ho]; simp [Op.operands, Call.operands]))
 refine ⟨_, ?_, dR rfl⟩
 unfold execOp
 simp [ho, h1, h2, resolve, invoke, builtin, Builtin.max_, Builtin.max2]
theorem Kn.map {L : Tmp → Prop} (h : Kn base ok L S a w) {i g n c : Nat} {es : List Ent} (hi : S.objs[i]? = some (.map g n c es)) : Obj.At base ok w (.map g n c es) := h.objs _ (LC hi)
theorem D8 {x y : Operand} {T K n E g c : Nat} {es : List Ent} {l1 : List UInt8} {dz d' : D} (hget : (aC es l1).getD dz = d') (ho : o.op = .lookup T x y false) (hx : ev S x = some (.val (.v (.map (some g))))) (i : Nat) (hi : S.objs[i]? = some (.map g n c es)) (hy : ev S y = some (.val (.arr n l1))) (hT : assoc ji T = some (K, n, E)) (hz : assoc dI E = some dz) : Still ops S o (.val d') := fun base ok a w ha => by
 have h1 := bK ha hx (aF (by rw [ho]; simp [Op.operands]))
 obtain ⟨h2, h3⟩ := iP (ha.ev hy (aF (by rw [ho]; simp [Op.operands])))
 obtain ⟨v, h4, h5⟩ := qc (nD hT).1 (nD hT).2 (zvI hz) (ha.map hi) l1 h2 false
 refine ⟨v, ?_, by rw [← hget]; exact h5⟩
 unfold execOp
 simp only [ho, h1, h3, Lr, h4, Lh, LD]
 rfl
theorem A8 {x y : Operand} {T K n E g c : Nat} {es : List Ent} {l1 : List UInt8} {dz d' : D} {b : Bool} (hget : (aC es l1).getD dz = d' ∧ (aC es l1).isSome = b) (ho : o.op = .lookup T x y true) (hx : ev S x = some (.val (.v (.map (some g))))) (i : Nat) (hi : S.objs[i]? = some (.map g n c es)) (hy : ev S y = some (.val (.arr n l1))) (hT : assoc ji T = some (K, n, E)) (hz : assoc dI E = some dz) : Still ops S o (.tpl [d', .v (.bool b)]) := fun base ok a w ha => by
 have h1 := bK ha hx (aF (by rw [ho]; simp [Op.operands]))
 obtain ⟨h2, h3⟩ := iP (ha.ev hy (aF (by rw [ho]; simp [Op.operands])))
 obtain ⟨v, h4, h5⟩ := qc (nD hT).1 (nD hT).2 (zvI hz) (ha.map hi) l1 h2 true
 refine ⟨.tuple #[v, .bool b], ?_, [v, .bool b], rfl, _, _, rfl, by rw [← hget.1]; exact h5, _, _, rfl, dR rfl, rfl⟩
 unfold execOp
 simp only [ho, h1, h3, Lr, h4, Lh, LD, if_true, hget.2]
theorem wX {x y : Operand} {T K n E : Nat} {l1 : List UInt8} {dz : D} (ho : o.op = .lookup T x y false) (hx : ev S x = some (.val (.v (.map none)))) (hy : ev S y = some (.val (.arr n l1))) (hT : assoc ji T = some (K, n, E)) (hz : assoc dI E = some dz) : Still ops S o (.val dz) := fun base ok a w ha => by
 have h1 := bK ha hx (aF (by rw [ho]; simp [Op.operands]))
 obtain ⟨h2, h3⟩ := iP (ha.ev hy (aF (by rw [ho]; simp [Op.operands])))
 obtain ⟨z, h5, h6⟩ := (zvI hz).get
 obtain ⟨hu, hK⟩ := nD hT
 have hk := run_findKey (w := w) hK l1 h2 [] [] (fM.nil (R := jM ok w n))
 have hr : (Instr.lookup T (.map none) (aT l1) false).run Tryz.prog w = .ok z w := by
  unfold Instr.lookup
  have hk' : (Instr.findKey K (aT l1) (#[] : Array MapEntry).toList).run Tryz.prog w = .ok none w := hk
  simp only [Lr, run_underlying hu, Lh, LD, dL hK _ l1 h2, hk', h5]
  rfl
 refine ⟨z, ?_, h6 _ _⟩
 unfold execOp
 simp only [ho, h1, h3, Lr, hr, Lh, LD]
theorem wY {x : Operand} {T K n E g c : Nat} {es : List Ent} (ho : o.op = .call { callee := .builtin .len, args := #[x], argTypes := #[T] }) (hx : ev S x = some (.val (.v (.map (some g))))) (i : Nat) (hi : S.objs[i]? = some (.map g n c es)) (hT : assoc ji T = some (K, n, E)) : Still ops S o (.val (.v (.int .i64 es.length))) := fun base ok a w ha => by
 have h1 := bK ha hx (aF (by rw [ho]; simp [Op.operands, Call.operands]))
 have hr := yC o.type (nD hT).1 (ha.map hi)
 refine ⟨_, ?_, dR rfl⟩
 unfold execOp
 simp only [ho, resolve, invoke, builtin, Lr, LD, Lh, Nz, LV, MW, h1, hr]
theorem jm {z : Nat} : ∀ rows : List (List Value), (∀ r ∈ rows, r.length = z) → rows.flatten.length = rows.length * z
 | [], _ => by simp
 | r :: rows, h => by
  rw [MP, List.length_append, h r (by simp), jm rows fun r hr => h r (by simp [hr]), Me, Nq, NR, Nat.add_comm]
theorem xC {z : Nat} : ∀ (rows : List (List Value)) (k : Nat) (r : List Value), (∀ r ∈ rows, r.length = z) → rows[k]? = some r → ∃ A B, rows.flatten = A ++ r ++ B ∧ A.length = k * z ∧ ∀ r', (rows.set k r').flatten = A ++ r' ++ B
 | [], k, r, _, h => by simp at h
 | x :: rows, 0, r, hl, h => by
  cases h
  exact ⟨[], rows.flatten, by simp, by simp, fun r' => by simp⟩
 | x :: rows, k + 1, r, hl, h => by
  obtain ⟨A, B, h1, h2, h3⟩ := xC rows k r (fun r hr => hl r (by simp [hr])) (by simpa using h)
  refine ⟨x ++ A, B, by simp [h1], ?_, fun r' => ?_⟩
  · rw [List.length_append, h2, hl x (by simp), Nq, NR, Nat.add_comm]
  ·
   rw [List.set_cons_succ, MP, h3 r']
   simp
theorem aj.set {z : Nat} : ∀ (ds : List D) (rows : List (List Value)) (k : Nat) (d : D) (r : List Value), aj ok w z ds rows → Reads ok w d r → r.length = z → aj ok w z (ds.set k d) (rows.set k r)
 | [], rows, k, d, r, h, _, _ => by rw [aj] at h; subst h; simp only [List.set_nil]; rw [aj]
 | e :: ds, rows, k, d, r, h, hd, hr => by
  rw [aj] at h
  obtain ⟨x, rest, rfl, h1, h2, h3⟩ := h
  cases k with
  | zero => rw [List.set_cons_zero, List.set_cons_zero, aj]; exact ⟨r, rest, rfl, hr, hd, h3⟩
  | succ k => rw [List.set_cons_succ, List.set_cons_succ, aj]; exact ⟨x, _, rfl, h1, h2, aj.set ds rest k d r h3 hd hr⟩
structure qV (base ok : Nat → Prop) (w : World) (v : Value) (e z : Nat) (ds : List D) (g c : Nat) (cur : Array Value) (rows : List (List Value)) : Prop where
 val : v = .slice (some ⟨g, 0, none⟩) ds.length c
 heap : w.heap[g]? = some (.cells cur e (0, 0))
 cells : cur.toList.take (ds.length * z) = rows.flatten
 size : cur.size = c * z
 le : ds.length ≤ c
 max : c ≤ maxLen
 rows : aj ok w z ds rows
 mine : base g
theorem row_in {e z : Nat} {v : Value} {ds : List D} (h : Obj.At base ok w (.row v e z ds)) (h0 : 0 < ds.length) : ∃ g c cur rows, qV base ok w v e z ds g c cur rows := by
 obtain ⟨rows, ⟨h1, hb⟩, h2⟩ := h
 rcases h1.2 with ⟨_, e⟩ | ⟨g, c, cur, e1, _, e2, e3, e4, e5, e6⟩
 · omega
 · exact ⟨g, c, cur, rows, e1, e2, e6, e5, e3, e4, h2, hb g (by rw [e1]; rfl)⟩
theorem qV.at {e z g c : Nat} {v : Value} {ds : List D} {cur : Array Value} {rows : List (List Value)} (h : qV base ok w v e z ds g c cur rows) : Obj.At base ok w (.row v e z ds) := by
 refine ⟨rows, ⟨⟨?_, .inr ⟨g, c, cur, h.val, LH _, h.heap, h.le, h.max, h.size, h.cells⟩⟩, fun b hb => ?_⟩, h.rows⟩
 ·
  obtain ⟨h1, h2⟩ := aj.lens ds rows h.rows
  rw [jm rows h2, h1]
 ·
  rw [h.val] at hb
  cases hb
  exact h.mine
theorem qV.elem {e z g c : Nat} {v : Value} {ds : List D} {cur : Array Value} {rows : List (List Value)} (h : qV base ok w v e z ds g c cur rows) {k : Nat} {d : D} (hk : ds[k]? = some d) : ∃ r A B, rows[k]? = some r ∧ r.length = z ∧ Reads ok w d r ∧ cur.toList = A ++ r ++ B ∧ A.length = k * z ∧ ∀ r', r'.length = z → (A ++ r' ++ B).take (ds.length * z) = (rows.set k r').flatten := by
 obtain ⟨hk', rfl⟩ := Lp.1 hk
 obtain ⟨r, h1, h2, h3⟩ := aj.get ds rows h.rows k hk'
 obtain ⟨hl1, hl2⟩ := aj.lens ds rows h.rows
 obtain ⟨A, B, g1, g2, g3⟩ := xC rows k r hl2 h1
 obtain ⟨sp, hsplit⟩ : ∃ sp, cur.toList = rows.flatten ++ sp := ⟨cur.toList.drop (ds.length * z), by rw [← h.cells, Nh]⟩
 refine ⟨r, A, B ++ sp, h1, h2, h3, by rw [hsplit, g1]; simp, g2, fun r' hr' => ?_⟩
 have hlen : (A ++ r' ++ B).length = ds.length * z := by
  have := congrArg List.length g1
  rw [jm rows hl2, hl1] at this
  simp only [List.length_append] at this ⊢
  omega
 rw [g3 r', ← L6, List.take_left' hlen]
theorem wW {x y : Operand} {T e z b : Nat} {k : Int} {v : Value} {ds : List D} (ho : o.op = .indexAddr T x y) (hx : ev S x = some (.val (.v v))) (i : Nat) (hi : S.objs[i]? = some (.row v e z ds)) (hy : ev S y = some (.val (.v (.int .i64 k)))) (hT : assoc slL T = some (e, z, b)) (hk : 0 ≤ k ∧ k.toNat < ds.length) : Still ops S o (.val (.v (aN v (k.toNat * z)))) := fun base ok a w ha => by
 have hx' := bK ha hx (aF (by rw [ho]; simp [Op.operands]))
 have hy' := bK ha hy (aF (by rw [ho]; simp [Op.operands]))
 obtain ⟨g, c, cur, rows, H⟩ := row_in (ha.objs _ (LC hi)) (by omega)
 refine ⟨_, ?_, dR (kL _ _)⟩
 have hlt : k < (ds.length : Int) := by omega
 unfold execOp
 simp [ho, hx', hy', H.val, Instr.indexAt, run_underlying (slI hT).und, asIntOf, hk.1, hlt, jf (slI hT).size, bI, aN]
theorem wV {x : Operand} {e z n : Nat} {v : Value} {ds : List D} (ho : o.op = .nilCheck x) (hx : ev S x = some (.val (.v (aN v n)))) (i : Nat) (hi : S.objs[i]? = some (.row v e z ds)) (hk : 0 < ds.length) : Still ops S o (.val (.v (aN v n))) := fun base ok a w ha => by
 have hx' := bK ha hx (aF (by rw [ho]; simp [Op.operands]))
 obtain ⟨g, c, cur, rows, H⟩ := row_in (ha.objs _ (LC hi)) hk
 refine ⟨_, ?_, dR (kL _ _)⟩
 unfold execOp
 simp only [ho, hx', H.val, aN, LD]
theorem qF {x : Operand} {T k off sz e z n : Nat} {ag : Bool} {v : Value} {ds : List D} {lf : List (Nat × Nat × Bool)} (ho : o.op = .fieldAddr T x k) (hx : ev S x = some (.val (.v (aN v n)))) (i : Nat) (hi : S.objs[i]? = some (.row v e z ds)) (hk0 : 0 < ds.length) (h : assoc stL T = some lf) (hk : lf[k]? = some (off, sz, ag)) (h0 : Nat.blt 0 sz = true) : Still ops S o (.val (.v (aN v (n + off)))) := fun base ok a w ha => by
 have hx' := bK ha hx (aF (by rw [ho]; simp [Op.operands]))
 obtain ⟨g, c, cur, rows, H⟩ := row_in (ha.objs _ (LC hi)) hk0
 refine ⟨_, ?_, dR (kL _ _)⟩
 unfold execOp
 have e1 : aN v n = .pointer (some ⟨g, n, none⟩) := by rw [H.val]; simp [aN]
 have e2 : aN v (n + off) = .pointer (some ⟨g, n + off, none⟩) := by rw [H.val]; simp [aN]
 simp only [ho, hx', e1, e2, Lr, jX (GU h hk h0), Lh, LD]
theorem sJ {x : Operand} {T sz e z n k off : Nat} {ag : Bool} {v : Value} {ds : List D} {d d' : D} (hk : n = k * z + off ∧ ds[k]? = some d) (ho : o.op = .load T x) (hx : ev S x = some (.val (.v (aN v n)))) (i : Nat) (hi : S.objs[i]? = some (.row v e z ds)) (hT : assoc tyL T = some (sz, ag)) (hs : d.sub off sz ag = some d') : Still ops S o (.val d') := fun base ok a w ha => by
 have hx' := bK ha hx (aF (by rw [ho]; simp [Op.operands]))
 obtain ⟨g, c, cur, rows, H⟩ := row_in (ha.objs _ (LC hi)) (by have := (Lp.1 hk.2).1; omega)
 obtain ⟨r, A, B, h1, h2, h3, h4, h5, _⟩ := H.elem hk.2
 obtain ⟨e1, e2, pre, mid, post, rfl, e3, e4⟩ := fG d off sz ag d' r hs h3
 have hh : w.heap[g]? = some (.cells (A ++ (pre ++ mid ++ post) ++ B).toArray e (0, 0)) := by rw [← h4]; exact H.heap
 have hr := dM hh
 rw [show A ++ (pre ++ mid ++ post) ++ B = (A ++ pre) ++ mid ++ (post ++ B) by simp] at hr
 have hr := fA hr
 rw [MH, List.length_append, h5, e3, ← hk.1] at hr
 refine ⟨form d' mid, ?_, mid, e4, rfl⟩
 have ep : aN v n = .pointer (some ⟨g, n, none⟩) := by rw [H.val]; simp [aN]
 unfold execOp
 simp only [ho, hx', ep, Lr, ig (d := d') (by rw [e1, e2]; exact tyI hT) e4 hr, Lh, LD]
theorem mM {T e z b : Nat} (hT : assoc slL T = some (e, z, b)) : Tryz.prog.underlying T = some (.slice (Tryz.prog.elem T)) ∧ ∀ w, (sizeOf (Tryz.prog.elem T)).run Tryz.prog w = .ok z w := by
 have h := slI hT
 have : Tryz.prog.elem T = e := by
  unfold Program.elem
  rw [h.und]
 rw [this]
 exact ⟨h.und, jf h.size⟩
theorem DZ {x y : Operand} {T e z b : Nat} {k : Int} {v : Value} {ds : List D} (ho : o.op = .slice T x none (some y) none) (hx : ev S x = some (.val (.v v))) (i : Nat) (hi : S.objs[i]? = some (.row v e z ds)) (hy : ev S y = some (.val (.v (.int .i64 k)))) (hT : assoc slL T = some (e, z, b)) (hk : 0 ≤ k ∧ k.toNat ≤ ds.length) : Still ops S o (.val (.v (cutV v k.toNat))) := fun base ok a w ha => by
 have hx' := bK ha hx (aF (by rw [ho]; simp [Op.operands]))
 have hy' := bK ha hy (aF (by rw [ho]; simp [Op.operands]))
 obtain ⟨rows, ⟨h1, _⟩, _⟩ := ha.objs _ (LC hi)
 obtain ⟨hu, hs⟩ := mM hT
 have hf : ∃ A c, v = .slice A ds.length c ∧ ds.length ≤ c ∧ (A = none ∨ ∃ g, A = some ⟨g, 0, none⟩) := by
  rcases h1.2 with ⟨e1, e2⟩ | ⟨g, c, cur, e1, _, _, e3, _⟩
  · exact ⟨none, 0, by rw [e1, e2], by omega, .inl rfl⟩
  · exact ⟨_, c, e1, e3, .inr ⟨g, rfl⟩⟩
 obtain ⟨A, c, rfl, hc, hA⟩ := hf
 refine ⟨cutV (.slice A ds.length c) k.toNat, ?_, dR (by unfold cutV; rfl)⟩
 unfold execOp
 have hr : (Instr.sliceAt T (.slice A ds.length c) none (some (.int .i64 k)) none).run Tryz.prog w = .ok (cutV (.slice A ds.length c) k.toNat) w := by
  rw [run_sliceAt_slice (P := Tryz.prog) w T _ _ _ _ hu, run_slice_h (P := Tryz.prog) w T A ds.length c hu .i64 k hk.1 (by omega), hs]
  rcases hA with rfl | ⟨g, rfl⟩
  · simp [sliced, cutV, Result.andThen]
  · simp [sliced, cutV, Result.andThen, bI]
 simp only [ho, hx', hy', Ou, NS, Lr, hr, Lh, LD]
theorem Dn {A : Option Addr} {xs : List Value} (h : RdP ok w A xs) (m : Nat) : RdP ok w A (xs.take m) := fun hn => by
 obtain ⟨b, o, e, hb, hc⟩ := h (fun e => hn (by rw [e]; simp))
 refine ⟨b, o, e, hb, fun j u hu => hc j u ?_⟩
 rw [Oq] at hu
 split at hu
 · exact hu
 · cases hu
theorem nK {z : Nat} (rows : List (List Value)) (h : ∀ r ∈ rows, r.length = z) : ∀ k, (rows.take k).flatten = rows.flatten.take (k * z) := by
 induction rows with
 | nil => intro k; simp
 | cons r rows ih =>
  intro k
  cases k with
  | zero => simp
  | succ k =>
   have hr := h r (by simp)
   rw [KQ, MP, MP, ih (fun r hr => h r (by simp [hr])) k, Nq, NR, List.take_append, List.take_of_length_le (by omega : r.length ≤ k * z + z)]
   congr 2
   omega
theorem Bh {z : Nat} (rows : List (List Value)) (h : ∀ r ∈ rows, r.length = z) : ∀ k, (rows.drop k).flatten = rows.flatten.drop (k * z) := by
 induction rows with
 | nil => intro k; simp
 | cons r rows ih =>
  intro k
  cases k with
  | zero => simp
  | succ k =>
   have hr := h r (by simp)
   rw [KP, MP, ih (fun r hr => h r (by simp [hr])) k, Nq, NR, List.drop_append, List.drop_of_length_le (by omega : r.length ≤ k * z + z), KO]
   congr 1
   omega
theorem Ih {z c : Nat} {A : Option Addr} {ds : List D} {rows : List (List Value)} (h1 : ds.length ≤ c) (h2 : c ≤ maxLen) (h3 : A = none → ds.length = 0 ∧ c = 0) (h4 : RdP ok w A rows.flatten) (h5 : aj ok w z ds rows) : bF ok w (.sl z ds) (.slice A ds.length c) := (bQ rfl).2 (by rw [Reads]; exact ⟨A, c, rows, rfl, h1, h2, h3, h4, h5⟩)
theorem DW {x y : Operand} {T e z b : Nat} {k : Int} {ds : List D} (ho : o.op = .slice T x none (some y) none) (hx : ev S x = some (.val (.sl z ds))) (hy : ev S y = some (.val (.v (.int .i64 k)))) (hT : assoc slL T = some (e, z, b)) (hk : 0 ≤ k ∧ k.toNat ≤ ds.length) : Still ops S o (.val (.sl z (ds.take k.toNat))) := fun base ok a w ha => by
 obtain ⟨A, c, rows, h1, h2, h3, h4, h5, h6⟩ := og (ha.ev hx (aF (by rw [ho]; simp [Op.operands])))
 have hy' := bK ha hy (aF (by rw [ho]; simp [Op.operands]))
 obtain ⟨hu, hs⟩ := mM hT
 have hlen : (ds.take k.toNat).length = k.toNat := by rw [MJ]; omega
 refine ⟨.slice A k.toNat c, ?_, by
  have := Ih (ok := ok) (w := w) (A := A) (c := c) (ds := ds.take k.toNat) (rows := rows.take k.toNat) (z := z) (by omega) h3 (fun e => by have := h4 e; omega) (by rw [nK rows (aj.lens ds rows h6).2]; exact Dn h5 _) (aj.take ds rows k.toNat h6)
  rwa [hlen] at this⟩
 unfold execOp
 have hr : (Instr.sliceAt T (.slice A ds.length c) none (some (.int .i64 k)) none).run Tryz.prog w = .ok (.slice A k.toNat c) w := by
  rw [run_sliceAt_slice (P := Tryz.prog) w T _ _ _ _ hu, run_slice_h (P := Tryz.prog) w T A ds.length c hu .i64 k hk.1 (by omega), hs]
  cases A with
  | none => simp [sliced, Result.andThen]
  | some p =>
   have : p.add 0 = p := by cases p; simp [Addr.add]
   simp [sliced, Result.andThen, this]
 simp only [ho, h1, hy', Ou, NS, Lr, hr, Lh, LD]
theorem Dp {z : Nat} {A : Option Addr} {xs : List Value} {n c : Nat} (h : RdP ok w A xs) (hn : xs.length = n * z) (hc : n ≤ c) (k : Nat) (hk : k ≤ n) : RdP ok w (if c = k then A else A.map (·.add (k * z))) (xs.drop (k * z)) := fun hne => by
 have hlt : k * z < xs.length := by
  rcases MK (k * z) xs.length with h1 | h1
  · exact h1
  · exact absurd (NZ h1) hne
 have hk' : k < n := by
  rcases MK k n with h1 | h1
  · exact h1
  ·
   have := NC z h1
   omega
 obtain ⟨b, o, rfl, hb, hcell⟩ := h (fun e => by rw [e] at hlt; simp at hlt)
 rw [if_neg (by omega)]
 refine ⟨b, o + k * z, by simp [bI], hb, fun j u hu => ?_⟩
 rw [OJ]
 exact hcell _ u (by rw [← hu, OO])
theorem DX {x y : Operand} {T e z b : Nat} {k : Int} {ds : List D} (ho : o.op = .slice T x (some y) none none) (hx : ev S x = some (.val (.sl z ds))) (hy : ev S y = some (.val (.v (.int .i64 k)))) (hT : assoc slL T = some (e, z, b)) (hk : 0 ≤ k ∧ k.toNat ≤ ds.length) : Still ops S o (.val (.sl z (ds.drop k.toNat))) := fun base ok a w ha => by
 obtain ⟨A, c, rows, h1, h2, h3, h4, h5, h6⟩ := og (ha.ev hx (aF (by rw [ho]; simp [Op.operands])))
 have hy' := bK ha hy (aF (by rw [ho]; simp [Op.operands]))
 obtain ⟨hu, hs⟩ := mM hT
 obtain ⟨hl1, hl2⟩ := aj.lens ds rows h6
 have hlen : (ds.drop k.toNat).length = ds.length - k.toNat := by rw [List.length_drop]
 refine ⟨.slice (if c = k.toNat then A else A.map (·.add (k.toNat * z))) (ds.length - k.toNat) (c - k.toNat), ?_, by
  have := Ih (ok := ok) (w := w) (A := if c = k.toNat then A else A.map (·.add (k.toNat * z))) (c := c - k.toNat) (ds := ds.drop k.toNat) (rows := rows.drop k.toNat) (z := z) (by omega) (by omega) (fun e => by
   have : A = none := by
    split at e
    · exact e
    · simpa using e
   have := h4 this
   omega) (by rw [Bh rows hl2]; exact Dp h5 (by rw [jm rows hl2, hl1]) h2 _ hk.2) (aj.drop ds rows k.toNat h6)
  rwa [hlen] at this⟩
 unfold execOp
 have hr : (Instr.sliceAt T (.slice A ds.length c) (some (.int .i64 k)) none none).run Tryz.prog w = .ok (.slice (if c = k.toNat then A else A.map (·.add (k.toNat * z))) (ds.length - k.toNat) (c - k.toNat)) w := by
  rw [run_sliceAt_slice (P := Tryz.prog) w T _ _ _ _ hu, run_slice_l (P := Tryz.prog) w T A ds.length c hu .i64 k hk.1 (by omega), hs]
  rfl
 simp only [ho, h1, hy', Ou, NS, Lr, hr, Lh, LD]
theorem nN : ∀ (xs : List Operand) (vs : List Value), xE S xs = some vs → (∀ t, .tmp t ∈ xs → L t) → Kn base ok L S a w → xs.map a.eval = vs
 | [], vs, h, _, _ => by cases h; rfl
 | x :: xs, vs, h, hL, ha => by
  rw [xE] at h
  split at h
  ·
   rename_i v vs' h1 h2
   cases h
   rw [LV, bK ha h1 fun t e => hL t (by simp [e]), nN xs vs' h2 (fun t ht => hL t (by simp [ht])) ha]
  · cases h
theorem D7 {f : FuncId} {caps : Array Operand} {xs : List Value} (ho : o.op = .makeFunc (.func f) #[] caps) (hx : xE S caps.toList = some xs) : Still ops S o (.val (.v (.func (.func f) #[] xs.toArray))) := fun base ok a w ha => by
 have h1 := nN caps.toList xs hx (fun t ht => ay (x := .tmp t) rfl (by rw [ho]; simp [Op.operands]; simpa using ht)) ha
 refine ⟨_, ?_, dR rfl⟩
 unfold execOp
 have h2 : caps.map a.eval = xs.toArray := by
  apply NY
  simpa using h1
 simp only [ho, h2, Instr.makeFunc, Lr, LD, Lh, Nz, MW]
end
section
variable {N : Nat} {X : Cx N} {S S' : St} {a : Act} {w w' : World} {ops : Array Oper} {o : Oper} {Q : Exit → Act → World → Prop} {l : List Oper} {TT : St → List Fr → Prop} {EE : List Fr} {rs : List (Tmp × R)} {os : List Obj} {fs : List (Value × D)}
theorem Hq {t ty : Nat} {pos : String} {af : Array Edge} {gd : Option (Nat × Bool)} {x : Operand} {p : Addr} (hx : ev (⟨rs, os, fs⟩ : St) x = some (.val (.v (.pointer (some p))))) (hg : guardOf ops ⟨rs, os, fs⟩ ⟨some t, .nilCheck x, ty, pos, af, gd⟩ = some true) (hN : Nat.blt t N = true) (kk : EL X ops Q l ⟨(t, (.val (.v (.pointer (some p))))) :: rs, os, fs⟩) : EL X ops Q (⟨some t, .nilCheck x, ty, pos, af, gd⟩ :: l) ⟨rs, os, fs⟩ := ES.still (zO rfl hx) hg rfl hN kk
theorem HY {t ty : Nat} {pos : String} {af : Array Edge} {gd : Option (Nat × Bool)} {x : Operand} {p : Addr} (hx : ev (⟨rs, os, fs⟩ : St) x = some (.val (.v (.pointer (some p))))) (hg : guardOf ops ⟨rs, os, fs⟩ ⟨some t, .nilCheck x, ty, pos, af, gd⟩ = some true) (hoff : bf N (some t) EE = true) (kk : EM N ops TT l ⟨(t, (.val (.v (.pointer (some p))))) :: rs, os, fs⟩ EE) : EM N ops TT (⟨some t, .nilCheck x, ty, pos, af, gd⟩ :: l) ⟨rs, os, fs⟩ EE := EH.still (zO rfl hx) hg rfl hoff kk
theorem BH {t ty : Nat} {pos : String} {af : Array Edge} {gd : Option (Nat × Bool)} {x : Operand} {d : D} (hx : ev (⟨rs, os, fs⟩ : St) x = some (.val (.pd d))) (hg : guardOf ops ⟨rs, os, fs⟩ ⟨some t, .nilCheck x, ty, pos, af, gd⟩ = some true) (hN : Nat.blt t N = true) (kk : EL X ops Q l ⟨(t, (.val (.pd d))) :: rs, os, fs⟩) : EL X ops Q (⟨some t, .nilCheck x, ty, pos, af, gd⟩ :: l) ⟨rs, os, fs⟩ := ES.still (qG rfl hx) hg rfl hN kk
theorem BN {t ty : Nat} {pos : String} {af : Array Edge} {gd : Option (Nat × Bool)} {x : Operand} {d : D} (hx : ev (⟨rs, os, fs⟩ : St) x = some (.val (.pd d))) (hg : guardOf ops ⟨rs, os, fs⟩ ⟨some t, .nilCheck x, ty, pos, af, gd⟩ = some true) (hoff : bf N (some t) EE = true) (kk : EM N ops TT l ⟨(t, (.val (.pd d))) :: rs, os, fs⟩ EE) : EM N ops TT (⟨some t, .nilCheck x, ty, pos, af, gd⟩ :: l) ⟨rs, os, fs⟩ EE := EH.still (qG rfl hx) hg rfl hoff kk
theorem H6 {t ty : Nat} {pos : String} {af : Array Edge} {gd : Option (Nat × Bool)} {T : Nat} {x : Operand} {d : D} (hx : ev (⟨rs, os, fs⟩ : St) x = some (.val d)) (hT : cnL.contains T = true) (hg : guardOf ops ⟨rs, os, fs⟩ ⟨some t, .makeInterface T x, ty, pos, af, gd⟩ = some true) (hoff : bf N (some t) EE = true) (kk : EM N ops TT l ⟨(t, (.val (.ifc T d))) :: rs, os, fs⟩ EE) : EM N ops TT (⟨some t, .makeInterface T x, ty, pos, af, gd⟩ :: l) ⟨rs, os, fs⟩ EE := EH.still (GH rfl hx hT) hg rfl hoff kk
theorem KA {t ty : Nat} {pos : String} {af : Array Edge} {gd : Option (Nat × Bool)} {x y : Operand} {tys : Array TypeId} {k : IntKind} {m n : Int} (hx : ev (⟨rs, os, fs⟩ : St) x = some (.val (.v (.int k m)))) (hy : ev (⟨rs, os, fs⟩ : St) y = some (.val (.v (.int k n)))) (hg : guardOf ops ⟨rs, os, fs⟩ ⟨some t, .call { callee := .builtin .max, args := #[x, y], argTypes := tys }, ty, pos, af, gd⟩ = some true) (hoff : bf N (some t) EE = true) (kk : EM N ops TT l ⟨(t, (.val (.v (.int k (if n > m then n else m))))) :: rs, os, fs⟩ EE) : EM N ops TT (⟨some t, .call { callee := .builtin .max, args := #[x, y], argTypes := tys }, ty, pos, af, gd⟩ :: l) ⟨rs, os, fs⟩ EE := EH.still (JZ rfl hx hy) hg rfl hoff kk
theorem cu {t ty : Nat} {pos : String} {af : Array Edge} {gd : Option (Nat × Bool)} {x y : Operand} {T K n E g c i : Nat} {es : List Ent} {l1 : List UInt8} {dz d' : D} (hget : (aC es l1).getD dz = d') (hx : ev (⟨rs, os, fs⟩ : St) x = some (.val (.v (.map (some g))))) (hi : os[i]? = some (.map g n c es)) (hy : ev (⟨rs, os, fs⟩ : St) y = some (.val (.arr n l1))) (hT : assoc ji T = some (K, n, E)) (hz : assoc dI E = some dz) (hg : guardOf ops ⟨rs, os, fs⟩ ⟨some t, .lookup T x y false, ty, pos, af, gd⟩ = some true) (hoff : bf N (some t) EE = true) (kk : EM N ops TT l ⟨(t, (.val d')) :: rs, os, fs⟩ EE) : EM N ops TT (⟨some t, .lookup T x y false, ty, pos, af, gd⟩ :: l) ⟨rs, os, fs⟩ EE := EH.still (D8 hget rfl hx i hi hy hT hz) hg rfl hoff kk
theorem bV {t ty : Nat} {pos : String} {af : Array Edge} {gd : Option (Nat × Bool)} {x y : Operand} {T K n E g c i : Nat} {es : List Ent} {l1 : List UInt8} {dz d' : D} {b : Bool} (hget : (aC es l1).getD dz = d' ∧ (aC es l1).isSome = b) (hx : ev (⟨rs, os, fs⟩ : St) x = some (.val (.v (.map (some g))))) (hi : os[i]? = some (.map g n c es)) (hy : ev (⟨rs, os, fs⟩ : St) y = some (.val (.arr n l1))) (hT : assoc ji T = some (K, n, E)) (hz : assoc dI E = some dz) (hg : guardOf ops ⟨rs, os, fs⟩ ⟨some t, .lookup T x y true, ty, pos, af, gd⟩ = some true) (hoff : bf N (some t) EE = true) (kk : EM N ops TT l ⟨(t, (.tpl [d', .v (.bool b)])) :: rs, os, fs⟩ EE) : EM N ops TT (⟨some t, .lookup T x y true, ty, pos, af, gd⟩ :: l) ⟨rs, os, fs⟩ EE := EH.still (A8 hget rfl hx i hi hy hT hz) hg rfl hoff kk
theorem x9 {t ty : Nat} {pos : String} {af : Array Edge} {gd : Option (Nat × Bool)} {x y : Operand} {T K n E : Nat} {l1 : List UInt8} {dz : D} (hx : ev (⟨rs, os, fs⟩ : St) x = some (.val (.v (.map none)))) (hy : ev (⟨rs, os, fs⟩ : St) y = some (.val (.arr n l1))) (hT : assoc ji T = some (K, n, E)) (hz : assoc dI E = some dz) (hg : guardOf ops ⟨rs, os, fs⟩ ⟨some t, .lookup T x y false, ty, pos, af, gd⟩ = some true) (hoff : bf N (some t) EE = true) (kk : EM N ops TT l ⟨(t, (.val dz)) :: rs, os, fs⟩ EE) : EM N ops TT (⟨some t, .lookup T x y false, ty, pos, af, gd⟩ :: l) ⟨rs, os, fs⟩ EE := EH.still (wX rfl hx hy hT hz) hg rfl hoff kk
theorem EY {t ty : Nat} {pos : String} {af : Array Edge} {gd : Option (Nat × Bool)} {x : Operand} {T K n E g c i : Nat} {es : List Ent} (hx : ev (⟨rs, os, fs⟩ : St) x = some (.val (.v (.map (some g))))) (hi : os[i]? = some (.map g n c es)) (hT : assoc ji T = some (K, n, E)) (hg : guardOf ops ⟨rs, os, fs⟩ ⟨some t, .call { callee := .builtin .len, args := #[x], argTypes := #[T] }, ty, pos, af, gd⟩ = some true) (hN : Nat.blt t N = true) (kk : EL X ops Q l ⟨(t, (.val (.v (.int .i64 es.length)))) :: rs, os, fs⟩) : EL X ops Q (⟨some t, .call { callee := .builtin .len, args := #[x], argTypes := #[T] }, ty, pos, af, gd⟩ :: l) ⟨rs, os, fs⟩ := ES.still (wY rfl hx i hi hT) hg rfl hN kk
theorem Fq {t ty : Nat} {pos : String} {af : Array Edge} {gd : Option (Nat × Bool)} {x : Operand} {T K n E g c i : Nat} {es : List Ent} (hx : ev (⟨rs, os, fs⟩ : St) x = some (.val (.v (.map (some g))))) (hi : os[i]? = some (.map g n c es)) (hT : assoc ji T = some (K, n, E)) (hg : guardOf ops ⟨rs, os, fs⟩ ⟨some t, .call { callee := .builtin .len, args := #[x], argTypes := #[T] }, ty, pos, af, gd⟩ = some true) (hoff : bf N (some t) EE = true) (kk : EM N ops TT l ⟨(t, (.val (.v (.int .i64 es.length)))) :: rs, os, fs⟩ EE) : EM N ops TT (⟨some t, .call { callee := .builtin .len, args := #[x], argTypes := #[T] }, ty, pos, af, gd⟩ :: l) ⟨rs, os, fs⟩ EE := EH.still (wY rfl hx i hi hT) hg rfl hoff kk
theorem EP {t ty : Nat} {pos : String} {af : Array Edge} {gd : Option (Nat × Bool)} {x y : Operand} {T e z b i : Nat} {k : Int} {v : Value} {ds : List D} (hx : ev (⟨rs, os, fs⟩ : St) x = some (.val (.v v))) (hi : os[i]? = some (.row v e z ds)) (hy : ev (⟨rs, os, fs⟩ : St) y = some (.val (.v (.int .i64 k)))) (hT : assoc slL T = some (e, z, b)) (hk : 0 ≤ k ∧ k.toNat < ds.length) (hg : guardOf ops ⟨rs, os, fs⟩ ⟨some t, .indexAddr T x y, ty, pos, af, gd⟩ = some true) (hN : Nat.blt t N = true) (kk : EL X ops Q l ⟨(t, (.val (.v (aN v (k.toNat * z))))) :: rs, os, fs⟩) : EL X ops Q (⟨some t, .indexAddr T x y, ty, pos, af, gd⟩ :: l) ⟨rs, os, fs⟩ := ES.still (wW rfl hx i hi hy hT hk) hg rfl hN kk
theorem Fh {t ty : Nat} {pos : String} {af : Array Edge} {gd : Option (Nat × Bool)} {x y : Operand} {T e z b i : Nat} {k : Int} {v : Value} {ds : List D} (hx : ev (⟨rs, os, fs⟩ : St) x = some (.val (.v v))) (hi : os[i]? = some (.row v e z ds)) (hy : ev (⟨rs, os, fs⟩ : St) y = some (.val (.v (.int .i64 k)))) (hT : assoc slL T = some (e, z, b)) (hk : 0 ≤ k ∧ k.toNat < ds.length) (hg : guardOf ops ⟨rs, os, fs⟩ ⟨some t, .indexAddr T x y, ty, pos, af, gd⟩ = some true) (hoff : bf N (some t) EE = true) (kk : EM N ops TT l ⟨(t, (.val (.v (aN v (k.toNat * z))))) :: rs, os, fs⟩ EE) : EM N ops TT (⟨some t, .indexAddr T x y, ty, pos, af, gd⟩ :: l) ⟨rs, os, fs⟩ EE := EH.still (wW rfl hx i hi hy hT hk) hg rfl hoff kk
theorem EO {t ty : Nat} {pos : String} {af : Array Edge} {gd : Option (Nat × Bool)} {x : Operand} {e z i : Nat} {v : Value} {ds : List D} {n : Nat} (hx : ev (⟨rs, os, fs⟩ : St) x = some (.val (.v (aN v n)))) (hi : os[i]? = some (.row v e z ds)) (hk : 0 < ds.length) (hg : guardOf ops ⟨rs, os, fs⟩ ⟨some t, .nilCheck x, ty, pos, af, gd⟩ = some true) (hN : Nat.blt t N = true) (kk : EL X ops Q l ⟨(t, (.val (.v (aN v n)))) :: rs, os, fs⟩) : EL X ops Q (⟨some t, .nilCheck x, ty, pos, af, gd⟩ :: l) ⟨rs, os, fs⟩ := ES.still (wV rfl hx i hi hk) hg rfl hN kk
theorem Fg {t ty : Nat} {pos : String} {af : Array Edge} {gd : Option (Nat × Bool)} {x : Operand} {e z i : Nat} {v : Value} {ds : List D} {n : Nat} (hx : ev (⟨rs, os, fs⟩ : St) x = some (.val (.v (aN v n)))) (hi : os[i]? = some (.row v e z ds)) (hk : 0 < ds.length) (hg : guardOf ops ⟨rs, os, fs⟩ ⟨some t, .nilCheck x, ty, pos, af, gd⟩ = some true) (hoff : bf N (some t) EE = true) (kk : EM N ops TT l ⟨(t, (.val (.v (aN v n)))) :: rs, os, fs⟩ EE) : EM N ops TT (⟨some t, .nilCheck x, ty, pos, af, gd⟩ :: l) ⟨rs, os, fs⟩ EE := EH.still (wV rfl hx i hi hk) hg rfl hoff kk
theorem zi {t ty : Nat} {pos : String} {af : Array Edge} {gd : Option (Nat × Bool)} {x : Operand} {T k off sz e z i n : Nat} {ag : Bool} {v : Value} {ds : List D} {lf : List (Nat × Nat × Bool)} (hx : ev (⟨rs, os, fs⟩ : St) x = some (.val (.v (aN v n)))) (hi : os[i]? = some (.row v e z ds)) (hk0 : 0 < ds.length) (h : assoc stL T = some lf) (hk : lf[k]? = some (off, sz, ag)) (h0 : Nat.blt 0 sz = true) (hg : guardOf ops ⟨rs, os, fs⟩ ⟨some t, .fieldAddr T x k, ty, pos, af, gd⟩ = some true) (hN : Nat.blt t N = true) (kk : EL X ops Q l ⟨(t, (.val (.v (aN v (n + off))))) :: rs, os, fs⟩) : EL X ops Q (⟨some t, .fieldAddr T x k, ty, pos, af, gd⟩ :: l) ⟨rs, os, fs⟩ := ES.still (qF rfl hx i hi hk0 h hk h0) hg rfl hN kk
theorem zk {t ty : Nat} {pos : String} {af : Array Edge} {gd : Option (Nat × Bool)} {x : Operand} {T k off sz e z i n : Nat} {ag : Bool} {v : Value} {ds : List D} {lf : List (Nat × Nat × Bool)} (hx : ev (⟨rs, os, fs⟩ : St) x = some (.val (.v (aN v n)))) (hi : os[i]? = some (.row v e z ds)) (hk0 : 0 < ds.length) (h : assoc stL T = some lf) (hk : lf[k]? = some (off, sz, ag)) (h0 : Nat.blt 0 sz = true) (hg : guardOf ops ⟨rs, os, fs⟩ ⟨some t, .fieldAddr T x k, ty, pos, af, gd⟩ = some true) (hoff : bf N (some t) EE = true) (kk : EM N ops TT l ⟨(t, (.val (.v (aN v (n + off))))) :: rs, os, fs⟩ EE) : EM N ops TT (⟨some t, .fieldAddr T x k, ty, pos, af, gd⟩ :: l) ⟨rs, os, fs⟩ EE := EH.still (qF rfl hx i hi hk0 h hk h0) hg rfl hoff kk
theorem bn {t ty : Nat} {pos : String} {af : Array Edge} {gd : Option (Nat × Bool)} {x : Operand} {T sz e z i n k off : Nat} {ag : Bool} {v : Value} {ds : List D} {d d' : D} (hx : ev (⟨rs, os, fs⟩ : St) x = some (.val (.v (aN v n)))) (hi : os[i]? = some (.row v e z ds)) (hk : n = k * z + off ∧ ds[k]? = some d) (hT : assoc tyL T = some (sz, ag)) (hs : d.sub off sz ag = some d') (hg : guardOf ops ⟨rs, os, fs⟩ ⟨some t, .load T x, ty, pos, af, gd⟩ = some true) (hN : Nat.blt t N = true) (kk : EL X ops Q l ⟨(t, (.val d')) :: rs, os, fs⟩) : EL X ops Q (⟨some t, .load T x, ty, pos, af, gd⟩ :: l) ⟨rs, os, fs⟩ := ES.still (sJ hk rfl hx i hi hT hs) hg rfl hN kk
theorem aB {t ty : Nat} {pos : String} {af : Array Edge} {gd : Option (Nat × Bool)} {x : Operand} {T sz e z i n k off : Nat} {ag : Bool} {v : Value} {ds : List D} {d d' : D} (hx : ev (⟨rs, os, fs⟩ : St) x = some (.val (.v (aN v n)))) (hi : os[i]? = some (.row v e z ds)) (hk : n = k * z + off ∧ ds[k]? = some d) (hT : assoc tyL T = some (sz, ag)) (hs : d.sub off sz ag = some d') (hg : guardOf ops ⟨rs, os, fs⟩ ⟨some t, .load T x, ty, pos, af, gd⟩ = some true) (hoff : bf N (some t) EE = true) (kk : EM N ops TT l ⟨(t, (.val d')) :: rs, os, fs⟩ EE) : EM N ops TT (⟨some t, .load T x, ty, pos, af, gd⟩ :: l) ⟨rs, os, fs⟩ EE := EH.still (sJ hk rfl hx i hi hT hs) hg rfl hoff kk
theorem ER {t ty : Nat} {pos : String} {af : Array Edge} {gd : Option (Nat × Bool)} {x y : Operand} {T e z b i : Nat} {k : Int} {v : Value} {ds : List D} (hx : ev (⟨rs, os, fs⟩ : St) x = some (.val (.v v))) (hi : os[i]? = some (.row v e z ds)) (hy : ev (⟨rs, os, fs⟩ : St) y = some (.val (.v (.int .i64 k)))) (hT : assoc slL T = some (e, z, b)) (hk : 0 ≤ k ∧ k.toNat ≤ ds.length) (hg : guardOf ops ⟨rs, os, fs⟩ ⟨some t, .slice T x none (some y) none, ty, pos, af, gd⟩ = some true) (hN : Nat.blt t N = true) (kk : EL X ops Q l ⟨(t, (.val (.v (cutV v k.toNat)))) :: rs, os, fs⟩) : EL X ops Q (⟨some t, .slice T x none (some y) none, ty, pos, af, gd⟩ :: l) ⟨rs, os, fs⟩ := ES.still (DZ rfl hx i hi hy hT hk) hg rfl hN kk
theorem nV {t ty : Nat} {pos : String} {af : Array Edge} {gd : Option (Nat × Bool)} {x y : Operand} {T e z b : Nat} {k : Int} {ds : List D} (hx : ev (⟨rs, os, fs⟩ : St) x = some (.val (.sl z ds))) (hy : ev (⟨rs, os, fs⟩ : St) y = some (.val (.v (.int .i64 k)))) (hT : assoc slL T = some (e, z, b)) (hk : 0 ≤ k ∧ k.toNat ≤ ds.length) (hg : guardOf ops ⟨rs, os, fs⟩ ⟨some t, .slice T x none (some y) none, ty, pos, af, gd⟩ = some true) (hN : Nat.blt t N = true) (kk : EL X ops Q l ⟨(t, (.val (.sl z (ds.take k.toNat)))) :: rs, os, fs⟩) : EL X ops Q (⟨some t, .slice T x none (some y) none, ty, pos, af, gd⟩ :: l) ⟨rs, os, fs⟩ := ES.still (DW rfl hx hy hT hk) hg rfl hN kk
theorem Fe {t ty : Nat} {pos : String} {af : Array Edge} {gd : Option (Nat × Bool)} {x y : Operand} {T e z b : Nat} {k : Int} {ds : List D} (hx : ev (⟨rs, os, fs⟩ : St) x = some (.val (.sl z ds))) (hy : ev (⟨rs, os, fs⟩ : St) y = some (.val (.v (.int .i64 k)))) (hT : assoc slL T = some (e, z, b)) (hk : 0 ≤ k ∧ k.toNat ≤ ds.length) (hg : guardOf ops ⟨rs, os, fs⟩ ⟨some t, .slice T x none (some y) none, ty, pos, af, gd⟩ = some true) (hoff : bf N (some t) EE = true) (kk : EM N ops TT l ⟨(t, (.val (.sl z (ds.take k.toNat)))) :: rs, os, fs⟩ EE) : EM N ops TT (⟨some t, .slice T x none (some y) none, ty, pos, af, gd⟩ :: l) ⟨rs, os, fs⟩ EE := EH.still (DW rfl hx hy hT hk) hg rfl hoff kk
theorem gQ {t ty : Nat} {pos : String} {af : Array Edge} {gd : Option (Nat × Bool)} {x y : Operand} {T e z b : Nat} {k : Int} {ds : List D} (hx : ev (⟨rs, os, fs⟩ : St) x = some (.val (.sl z ds))) (hy : ev (⟨rs, os, fs⟩ : St) y = some (.val (.v (.int .i64 k)))) (hT : assoc slL T = some (e, z, b)) (hk : 0 ≤ k ∧ k.toNat ≤ ds.length) (hg : guardOf ops ⟨rs, os, fs⟩ ⟨some t, .slice T x (some y) none none, ty, pos, af, gd⟩ = some true) (hN : Nat.blt t N = true) (kk : EL X ops Q l ⟨(t, (.val (.sl z (ds.drop k.toNat)))) :: rs, os, fs⟩) : EL X ops Q (⟨some t, .slice T x (some y) none none, ty, pos, af, gd⟩ :: l) ⟨rs, os, fs⟩ := ES.still (DX rfl hx hy hT hk) hg rfl hN kk
theorem ET {t ty : Nat} {pos : String} {af : Array Edge} {gd : Option (Nat × Bool)} {f : FuncId} {caps : Array Operand} {xs : List Value} (hx : xE (⟨rs, os, fs⟩ : St) caps.toList = some xs) (hg : guardOf ops ⟨rs, os, fs⟩ ⟨some t, .makeFunc (.func f) #[] caps, ty, pos, af, gd⟩ = some true) (hN : Nat.blt t N = true) (kk : EL X ops Q l ⟨(t, (.val (.v (.func (.func f) #[] xs.toArray)))) :: rs, os, fs⟩) : EL X ops Q (⟨some t, .makeFunc (.func f) #[] caps, ty, pos, af, gd⟩ :: l) ⟨rs, os, fs⟩ := ES.still (D7 rfl hx) hg rfl hN kk
end
end E
end Go.Proofs.YtohlgnfachkmaaaGreat
