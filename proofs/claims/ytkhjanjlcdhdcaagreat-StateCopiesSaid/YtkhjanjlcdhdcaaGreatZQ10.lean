/-
 Merged: lemmas of this claim.
 Conditions: none.
-/
import Derived.Test.YtkhjanjlcdhdcaaGreatZQ9
import Derived.Laws.Slices
import Derived.Test.YtkhjanjlcdhdcaaGreatZQ0
namespace Go.Proofs.YtkhjanjlcdhdcaaGreat
set_option linter.unusedVariables false
open Go.RowKit Mono Rlp
namespace E
def aH (v : Value) (n : Nat) : Value :=
 match v with
 | .slice (some a) _ _ => .pointer (some ⟨a.block, a.off + n, none⟩)
 | _ => .pointer none
def cutV (v : Value) (k : Nat) : Value :=
 match v with
 | .slice A n c => .slice A k c
 | v => v
theorem kD (v : Value) (n : Nat) : (aH v n).oneCell' = true := by
 unfold aH
 split <;> rfl
def vk (S : St) : List Operand → Option (List Value)
 | [] => some []
 | x :: xs => match ev S x, vk S xs with
  | some (.val (.v v)), some vs => some (v :: vs)
  | _, _ => none
section
variable {N : Nat} {X : Cx N} {S S' : St} {a : Act} {w w' : World} {ops : Array Oper} {o : Oper} {Q : Exit → Act → World → Prop} {l : List Oper} {TT : St → List Fr → Prop} {EE : List Fr} {rs : List (Tmp × R)} {os : List Obj} {fs : List (Value × D)} {base ok : Nat → Prop} {L : Tmp → Prop}
theorem xg {T K n e : Nat} (h : assoc mZ T = some (K, n, e)) : Tryz.prog.underlying T = some (.map K e) ∧ vP K n := IW (by
 have := LZ.1 Gg _ (eP _ _ _ h)
 simpa using this)
theorem zvI {T : Nat} {d : D} (h : assoc dL T = some d) : yC T d := tY.get _ _ _ Il h
theorem cnI {T : Nat} (h : cnL.contains T = true) : ∃ d, Tryz.prog.underlying T = some d ∧ ∀ ms, d ≠ .interface ms := by
 have := LZ.1 Jo T (by simpa using h)
 unfold cnB at this
 split at this
 · cases this
 ·
  rename_i d hd h1
  exact ⟨d, h1, fun ms e => hd ms e⟩
 · cases this
theorem aB {x : Operand} (h : x ∈ o.op.operands.toList) : ∀ t, x = .tmp t → t ∈ o.looksAt ops := fun t e => au e h
theorem Ak {x : Operand} {p : Addr} (ho : o.op = .nilCheck x) (hx : ev S x = some (.val (.v (.pointer (some p))))) : Still ops S o (.val (.v (.pointer (some p)))) := fun base ok a w ha => by
 have h1 := dh ha hx (aB (by rw [ho]; simp [Op.operands]))
 refine ⟨_, ?_, dM rfl⟩
 unfold execOp
 simp only [ho, h1, KX]
theorem Gs {T : Nat} {x : Operand} {d : D} (ho : o.op = .makeInterface T x) (hx : ev S x = some (.val d)) (hT : cnL.contains T = true) : Still ops S o (.val (.ifc T d)) := fun base ok a w ha => by
 obtain ⟨cs, h1, h2⟩ := ha.ev hx (aB (by rw [ho]; simp [Op.operands]))
 obtain ⟨de, h3, h4⟩ := cnI hT
 refine ⟨.iface T (a.eval x), ?_, (bH rfl).2 (by rw [Reads]; exact ⟨cs, by rw [h2], h1⟩)⟩
 unfold execOp
 have hr : (Instr.makeInterface T (a.eval x)).run Tryz.prog w = .ok (.iface T (a.eval x)) w := by
  unfold Instr.makeInterface
  rw [KW, run_underlying h3, KL]
  cases de <;> first | exact absurd rfl (h4 _) | rfl
 simp only [ho, KW, hr, KL, KX]
theorem DU {T : TypeId} {d : D} {x : Value} (h : bf ok w (.ifc T d) x) : ∃ cs, x = .iface T (form d cs) ∧ Reads ok w d cs := by
 have h1 := (bH rfl).1 h
 rw [Reads] at h1
 obtain ⟨cs, h2, h3⟩ := h1
 exact ⟨cs, by simpa using h2, h3⟩
theorem Gy {x : Operand} {T : Nat} {U : TypeId} {d : D} (ho : o.op = .typeAssert x U T true) (hx : ev S x = some (.val (.ifc T d))) (hT : cnL.contains T = true) : Still ops S o (.tpl [d, .v (.bool true)]) := fun base ok a w ha => by
 obtain ⟨cs, h1, h2⟩ := DU (ha.ev hx (aB (by rw [ho]; simp [Op.operands])))
 obtain ⟨de, h3, h4⟩ := cnI hT
 refine ⟨.tuple #[form d cs, .bool true], ?_, [form d cs, .bool true], rfl, _, _, rfl, ⟨cs, h2, rfl⟩, _, _, rfl, dM rfl, rfl⟩
 unfold execOp
 have hr : (Instr.typeAssert (.iface T (form d cs)) U T true).run Tryz.prog w = .ok (.tuple #[form d cs, .bool true]) w := by
  simp only [Instr.typeAssert, KW, run_underlying h3, KL]
  cases de <;> first | exact absurd rfl (h4 _) | simp
 simp only [ho, h1, KW, hr, KL, KX]
theorem Jf {x : Operand} {T T1 : Nat} {U : TypeId} {d dz : D} (ho : o.op = .typeAssert x U T true) (hx : ev S x = some (.val (.ifc T1 d))) (hT : cnL.contains T = true) (hne : Nat.beq T1 T = false) (hz : assoc dL T = some dz) : Still ops S o (.tpl [dz, .v (.bool false)]) := fun base ok a w ha => by
 obtain ⟨cs, h1, h2⟩ := DU (ha.ev hx (aB (by rw [ho]; simp [Op.operands])))
 obtain ⟨de, h3, h4⟩ := cnI hT
 obtain ⟨z, h5, h6⟩ := (zvI hz).get
 have hne' : ¬ T1 = T := fun e => by subst e; simp at hne
 refine ⟨.tuple #[z, .bool false], ?_, [z, .bool false], rfl, _, _, rfl, h6 _ _, _, _, rfl, dM rfl, rfl⟩
 unfold execOp
 have hr : (Instr.typeAssert (.iface T1 (form d cs)) U T true).run Tryz.prog w = .ok (.tuple #[z, .bool false]) w := by
  simp only [Instr.typeAssert, KW, run_underlying h3, KL]
  cases de <;> first | exact absurd rfl (h4 _) | simp [hne', h5]
 simp only [ho, h1, KW, hr, KL, KX]
theorem JU {x y : Operand} {tys : Array TypeId} {k : IntKind} {m n : Int} (ho : o.op = .call { callee := .builtin .max, args := #[x, y], argTypes := tys }) (hx : ev S x = some (.val (.v (.int k m)))) (hy : ev S y = some (.val (.v (.int k n)))) : Still ops S o (.val (.v (.int k (if n > m then n else m)))) := fun base ok a w ha => by
 have h1 := dh ha hx (aB (by rw [ho]; simp [Op.operands, Call.operands]))
 have h2 := dh ha hy (aB (by rw [ho]; simp [Op.operands, Call.operands]))
 refine ⟨_, ?_, dM rfl⟩
 unfold execOp
 simp [ho, h1, h2, resolve, invoke, builtin, Builtin.max_, Builtin.max2]
theorem Kn.map {L : Tmp → Prop} (h : Kn base ok L S a w) {i g n c : Nat} {es : List Ent} (hi : S.objs[i]? = some (.map g n c es)) : Obj.At base ok w (.map g n c es) := h.objs _ (Ls hi)
theorem D9 {x y : Operand} {T K n E g c : Nat} {es : List Ent} {l1 : List UInt8} {dz d' : D} (hget : (aJ es l1).getD dz = d') (ho : o.op = .lookup T x y false) (hx : ev S x = some (.val (.v (.map (some g))))) (i : Nat) (hi : S.objs[i]? = some (.map g n c es)) (hy : ev S y = some (.val (.arr n l1))) (hT : assoc mZ T = some (K, n, E)) (hz : assoc dL E = some dz) : Still ops S o (.val d') := fun base ok a w ha => by
 have h1 := dh ha hx (aB (by rw [ho]; simp [Op.operands]))
 obtain ⟨h2, h3⟩ := jw (ha.ev hy (aB (by rw [ho]; simp [Op.operands])))
 obtain ⟨v, h4, h5⟩ := yQ (xg hT).1 (xg hT).2 (zvI hz) (ha.map hi) l1 h2 false
 refine ⟨v, ?_, by rw [← hget]; exact h5⟩
 unfold execOp
 simp only [ho, h1, h3, KW, h4, KL, KX]
 rfl
theorem xQ {x y : Operand} {T K n E : Nat} {l1 : List UInt8} {dz : D} (ho : o.op = .lookup T x y false) (hx : ev S x = some (.val (.v (.map none)))) (hy : ev S y = some (.val (.arr n l1))) (hT : assoc mZ T = some (K, n, E)) (hz : assoc dL E = some dz) : Still ops S o (.val dz) := fun base ok a w ha => by
 have h1 := dh ha hx (aB (by rw [ho]; simp [Op.operands]))
 obtain ⟨h2, h3⟩ := jw (ha.ev hy (aB (by rw [ho]; simp [Op.operands])))
 obtain ⟨z, h5, h6⟩ := (zvI hz).get
 obtain ⟨hu, hK⟩ := xg hT
 have hk := run_findKey (w := w) hK l1 h2 [] [] (fD.nil (R := kQ ok w n))
 have hr : (Instr.lookup T (.map none) (aV l1) false).run Tryz.prog w = .ok z w := by
  unfold Instr.lookup
  have hk' : (Instr.findKey K (aV l1) (#[] : Array MapEntry).toList).run Tryz.prog w = .ok none w := hk
  simp only [KW, run_underlying hu, KL, KX, dF hK _ l1 h2, hk', h5]
  rfl
 refine ⟨z, ?_, h6 _ _⟩
 unfold execOp
 simp only [ho, h1, h3, KW, hr, KL, KX]
theorem Ea {x : Operand} {T K n E g c : Nat} {es : List Ent} (ho : o.op = .call { callee := .builtin .len, args := #[x], argTypes := #[T] }) (hx : ev S x = some (.val (.v (.map (some g))))) (i : Nat) (hi : S.objs[i]? = some (.map g n c es)) (hT : assoc mZ T = some (K, n, E)) : Still ops S o (.val (.v (.int .i64 es.length))) := fun base ok a w ha => by
 have h1 := dh ha hx (aB (by rw [ho]; simp [Op.operands, Call.operands]))
 have hr := yR o.type (xg hT).1 (ha.map hi)
 refine ⟨_, ?_, dM rfl⟩
 unfold execOp
 simp only [ho, resolve, invoke, builtin, KW, KX, KL, Np, Lu, ML, h1, hr]
theorem ku {z : Nat} : ∀ rows : List (List Value), (∀ r ∈ rows, r.length = z) → rows.flatten.length = rows.length * z
 | [], _ => by simp
 | r :: rows, h => by
  rw [Md, LP, h r (by simp), ku rows fun r hr => h r (by simp [hr]), LX, Nb, NC, Ot]
theorem x9 {z : Nat} : ∀ (rows : List (List Value)) (k : Nat) (r : List Value), (∀ r ∈ rows, r.length = z) → rows[k]? = some r → ∃ A B, rows.flatten = A ++ r ++ B ∧ A.length = k * z ∧ ∀ r', (rows.set k r').flatten = A ++ r' ++ B
 | [], k, r, _, h => by simp at h
 | x :: rows, 0, r, hl, h => by
  cases h
  exact ⟨[], rows.flatten, by simp, by simp, fun r' => by simp⟩
 | x :: rows, k + 1, r, hl, h => by
  obtain ⟨A, B, h1, h2, h3⟩ := x9 rows k r (fun r hr => hl r (by simp [hr])) (by simpa using h)
  refine ⟨x ++ A, B, by simp [h1], ?_, fun r' => ?_⟩
  · rw [LP, h2, hl x (by simp), Nb, NC, Ot]
  ·
   rw [OM, Md, h3 r']
   simp
theorem ah.set {z : Nat} : ∀ (ds : List D) (rows : List (List Value)) (k : Nat) (d : D) (r : List Value), ah ok w z ds rows → Reads ok w d r → r.length = z → ah ok w z (ds.set k d) (rows.set k r)
 | [], rows, k, d, r, h, _, _ => by rw [ah] at h; subst h; simp only [List.set_nil]; rw [ah]
 | e :: ds, rows, k, d, r, h, hd, hr => by
  rw [ah] at h
  obtain ⟨x, rest, rfl, h1, h2, h3⟩ := h
  cases k with
  | zero => rw [Oe, Oe, ah]; exact ⟨r, rest, rfl, hr, hd, h3⟩
  | succ k => rw [OM, OM, ah]; exact ⟨x, _, rfl, h1, h2, ah.set ds rest k d r h3 hd hr⟩
structure tX (base ok : Nat → Prop) (w : World) (v : Value) (e z : Nat) (ds : List D) (g c : Nat) (cur : Array Value) (rows : List (List Value)) : Prop where
 val : v = .slice (some ⟨g, 0, none⟩) ds.length c
 heap : w.heap[g]? = some (.cells cur e (0, 0))
 cells : cur.toList.take (ds.length * z) = rows.flatten
 size : cur.size = c * z
 le : ds.length ≤ c
 max : c ≤ maxLen
 rows : ah ok w z ds rows
 mine : base g
theorem row_in {e z : Nat} {v : Value} {ds : List D} (h : Obj.At base ok w (.row v e z ds)) (h0 : 0 < ds.length) : ∃ g c cur rows, tX base ok w v e z ds g c cur rows := by
 obtain ⟨rows, ⟨h1, hb⟩, h2⟩ := h
 rcases h1.2 with ⟨_, e⟩ | ⟨g, c, cur, e1, _, e2, e3, e4, e5, e6⟩
 · omega
 · exact ⟨g, c, cur, rows, e1, e2, e6, e5, e3, e4, h2, hb g (by rw [e1]; rfl)⟩
theorem tX.at {e z g c : Nat} {v : Value} {ds : List D} {cur : Array Value} {rows : List (List Value)} (h : tX base ok w v e z ds g c cur rows) : Obj.At base ok w (.row v e z ds) := by
 refine ⟨rows, ⟨⟨?_, .inr ⟨g, c, cur, h.val, Lr _, h.heap, h.le, h.max, h.size, h.cells⟩⟩, fun b hb => ?_⟩, h.rows⟩
 ·
  obtain ⟨h1, h2⟩ := ah.lens ds rows h.rows
  rw [ku rows h2, h1]
 ·
  rw [h.val] at hb
  cases hb
  exact h.mine
theorem tX.elem {e z g c : Nat} {v : Value} {ds : List D} {cur : Array Value} {rows : List (List Value)} (h : tX base ok w v e z ds g c cur rows) {k : Nat} {d : D} (hk : ds[k]? = some d) : ∃ r A B, rows[k]? = some r ∧ r.length = z ∧ Reads ok w d r ∧ cur.toList = A ++ r ++ B ∧ A.length = k * z ∧ ∀ r', r'.length = z → (A ++ r' ++ B).take (ds.length * z) = (rows.set k r').flatten := by
 obtain ⟨hk', rfl⟩ := KZ.1 hk
 obtain ⟨r, h1, h2, h3⟩ := ah.get ds rows h.rows k hk'
 obtain ⟨hl1, hl2⟩ := ah.lens ds rows h.rows
 obtain ⟨A, B, g1, g2, g3⟩ := x9 rows k r hl2 h1
 obtain ⟨sp, hsplit⟩ : ∃ sp, cur.toList = rows.flatten ++ sp := ⟨cur.toList.drop (ds.length * z), by rw [← h.cells, MF]⟩
 refine ⟨r, A, B ++ sp, h1, h2, h3, by rw [hsplit, g1]; simp, g2, fun r' hr' => ?_⟩
 have hlen : (A ++ r' ++ B).length = ds.length * z := by
  have := congrArg List.length g1
  rw [ku rows hl2, hl1] at this
  simp only [LP] at this ⊢
  omega
 rw [g3 r', ← Lc, List.take_left' hlen]
theorem xP {x y : Operand} {T e z b : Nat} {k : Int} {v : Value} {ds : List D} (ho : o.op = .indexAddr T x y) (hx : ev S x = some (.val (.v v))) (i : Nat) (hi : S.objs[i]? = some (.row v e z ds)) (hy : ev S y = some (.val (.v (.int .i64 k)))) (hT : assoc slL T = some (e, z, b)) (hk : 0 ≤ k ∧ k.toNat < ds.length) : Still ops S o (.val (.v (aH v (k.toNat * z)))) := fun base ok a w ha => by
 have hx' := dh ha hx (aB (by rw [ho]; simp [Op.operands]))
 have hy' := dh ha hy (aB (by rw [ho]; simp [Op.operands]))
 obtain ⟨g, c, cur, rows, H⟩ := row_in (ha.objs _ (Ls hi)) (by omega)
 refine ⟨_, ?_, dM (kD _ _)⟩
 have hlt : k < (ds.length : Int) := by omega
 unfold execOp
 simp [ho, hx', hy', H.val, Instr.indexAt, run_underlying (slI hT).und, asIntOf, hk.1, hlt, gX (slI hT).size, bQ, aH]
theorem xO {x : Operand} {e z n : Nat} {v : Value} {ds : List D} (ho : o.op = .nilCheck x) (hx : ev S x = some (.val (.v (aH v n)))) (i : Nat) (hi : S.objs[i]? = some (.row v e z ds)) (hk : 0 < ds.length) : Still ops S o (.val (.v (aH v n))) := fun base ok a w ha => by
 have hx' := dh ha hx (aB (by rw [ho]; simp [Op.operands]))
 obtain ⟨g, c, cur, rows, H⟩ := row_in (ha.objs _ (Ls hi)) hk
 refine ⟨_, ?_, dM (kD _ _)⟩
 unfold execOp
 simp only [ho, hx', H.val, aH, KX]
theorem qJ {x : Operand} {T k off sz e z n : Nat} {ag : Bool} {v : Value} {ds : List D} {lf : List (Nat × Nat × Bool)} (ho : o.op = .fieldAddr T x k) (hx : ev S x = some (.val (.v (aH v n)))) (i : Nat) (hi : S.objs[i]? = some (.row v e z ds)) (hk0 : 0 < ds.length) (h : assoc stL T = some lf) (hk : lf[k]? = some (off, sz, ag)) (h0 : Nat.blt 0 sz = true) : Still ops S o (.val (.v (aH v (n + off)))) := fun base ok a w ha => by
 have hx' := dh ha hx (aB (by rw [ho]; simp [Op.operands]))
 obtain ⟨g, c, cur, rows, H⟩ := row_in (ha.objs _ (Ls hi)) hk0
 refine ⟨_, ?_, dM (kD _ _)⟩
 unfold execOp
 have e1 : aH v n = .pointer (some ⟨g, n, none⟩) := by rw [H.val]; simp [aH]
 have e2 : aH v (n + off) = .pointer (some ⟨g, n + off, none⟩) := by rw [H.val]; simp [aH]
 simp only [ho, hx', e1, e2, KW, jS (GH h hk h0), KL, KX]
theorem sU {x : Operand} {T sz e z n k off : Nat} {ag : Bool} {v : Value} {ds : List D} {d d' : D} (hk : n = k * z + off ∧ ds[k]? = some d) (ho : o.op = .load T x) (hx : ev S x = some (.val (.v (aH v n)))) (i : Nat) (hi : S.objs[i]? = some (.row v e z ds)) (hT : assoc tyL T = some (sz, ag)) (hs : d.sub off sz ag = some d') : Still ops S o (.val d') := fun base ok a w ha => by
 have hx' := dh ha hx (aB (by rw [ho]; simp [Op.operands]))
 obtain ⟨g, c, cur, rows, H⟩ := row_in (ha.objs _ (Ls hi)) (by have := (KZ.1 hk.2).1; omega)
 obtain ⟨r, A, B, h1, h2, h3, h4, h5, _⟩ := H.elem hk.2
 obtain ⟨e1, e2, pre, mid, post, rfl, e3, e4⟩ := fO d off sz ag d' r hs h3
 have hh : w.heap[g]? = some (.cells (A ++ (pre ++ mid ++ post) ++ B).toArray e (0, 0)) := by rw [← h4]; exact H.heap
 have hr := dG hh
 rw [show A ++ (pre ++ mid ++ post) ++ B = (A ++ pre) ++ mid ++ (post ++ B) by simp] at hr
 have hr := fF hr
 rw [L8, LP, h5, e3, ← hk.1] at hr
 refine ⟨form d' mid, ?_, mid, e4, rfl⟩
 have ep : aH v n = .pointer (some ⟨g, n, none⟩) := by rw [H.val]; simp [aH]
 unfold execOp
 simp only [ho, hx', ep, KW, fE (d := d') (by rw [e1, e2]; exact tyI hT) e4 hr, KL, KX]
theorem qN {T e z b : Nat} (hT : assoc slL T = some (e, z, b)) : Tryz.prog.underlying T = some (.slice (Tryz.prog.elem T)) ∧ ∀ w, (sizeOf (Tryz.prog.elem T)).run Tryz.prog w = .ok z w := by
 have h := slI hT
 have : Tryz.prog.elem T = e := by
  unfold Program.elem
  rw [h.und]
 rw [this]
 exact ⟨h.und, gX h.size⟩
theorem DZ {x y : Operand} {T e z b : Nat} {k : Int} {v : Value} {ds : List D} (ho : o.op = .slice T x none (some y) none) (hx : ev S x = some (.val (.v v))) (i : Nat) (hi : S.objs[i]? = some (.row v e z ds)) (hy : ev S y = some (.val (.v (.int .i64 k)))) (hT : assoc slL T = some (e, z, b)) (hk : 0 ≤ k ∧ k.toNat ≤ ds.length) : Still ops S o (.val (.v (cutV v k.toNat))) := fun base ok a w ha => by
 have hx' := dh ha hx (aB (by rw [ho]; simp [Op.operands]))
 have hy' := dh ha hy (aB (by rw [ho]; simp [Op.operands]))
 obtain ⟨rows, ⟨h1, _⟩, _⟩ := ha.objs _ (Ls hi)
 obtain ⟨hu, hs⟩ := qN hT
 have hf : ∃ A c, v = .slice A ds.length c ∧ ds.length ≤ c ∧ (A = none ∨ ∃ g, A = some ⟨g, 0, none⟩) := by
  rcases h1.2 with ⟨e1, e2⟩ | ⟨g, c, cur, e1, _, _, e3, _⟩
  · exact ⟨none, 0, by rw [e1, e2], by omega, .inl rfl⟩
  · exact ⟨_, c, e1, e3, .inr ⟨g, rfl⟩⟩
 obtain ⟨A, c, rfl, hc, hA⟩ := hf
 refine ⟨cutV (.slice A ds.length c) k.toNat, ?_, dM (by unfold cutV; rfl)⟩
 unfold execOp
 have hr : (Instr.sliceAt T (.slice A ds.length c) none (some (.int .i64 k)) none).run Tryz.prog w = .ok (cutV (.slice A ds.length c) k.toNat) w := by
  rw [run_sliceAt_slice (P := Tryz.prog) w T _ _ _ _ hu, run_slice_h (P := Tryz.prog) w T A ds.length c hu .i64 k hk.1 (by omega), hs]
  rcases hA with rfl | ⟨g, rfl⟩
  · simp [sliced, cutV, Result.andThen]
  · simp [sliced, cutV, Result.andThen, bQ]
 simp only [ho, hx', hy', OL, Og, KW, hr, KL, KX]
theorem Dn {A : Option Addr} {xs : List Value} (h : RdP ok w A xs) (m : Nat) : RdP ok w A (xs.take m) := fun hn => by
 obtain ⟨b, o, e, hb, hc⟩ := h (fun e => hn (by rw [e]; simp))
 refine ⟨b, o, e, hb, fun j u hu => hc j u ?_⟩
 rw [Nc] at hu
 split at hu
 · exact hu
 · cases hu
theorem nT {z : Nat} (rows : List (List Value)) (h : ∀ r ∈ rows, r.length = z) : ∀ k, (rows.take k).flatten = rows.flatten.take (k * z) := by
 induction rows with
 | nil => intro k; simp
 | cons r rows ih =>
  intro k
  cases k with
  | zero => simp
  | succ k =>
   have hr := h r (by simp)
   rw [KG, Md, Md, ih (fun r hr => h r (by simp [hr])) k, Nb, NC, List.take_append, MW (by omega : r.length ≤ k * z + z)]
   congr 2
   omega
theorem BH {z : Nat} (rows : List (List Value)) (h : ∀ r ∈ rows, r.length = z) : ∀ k, (rows.drop k).flatten = rows.flatten.drop (k * z) := by
 induction rows with
 | nil => intro k; simp
 | cons r rows ih =>
  intro k
  cases k with
  | zero => simp
  | succ k =>
   have hr := h r (by simp)
   rw [KF, Md, ih (fun r hr => h r (by simp [hr])) k, Nb, NC, List.drop_append, List.drop_of_length_le (by omega : r.length ≤ k * z + z), KE]
   congr 1
   omega
theorem H7 {z c : Nat} {A : Option Addr} {ds : List D} {rows : List (List Value)} (h1 : ds.length ≤ c) (h2 : c ≤ maxLen) (h3 : A = none → ds.length = 0 ∧ c = 0) (h4 : RdP ok w A rows.flatten) (h5 : ah ok w z ds rows) : bf ok w (.sl z ds) (.slice A ds.length c) := (bH rfl).2 (by rw [Reads]; exact ⟨A, c, rows, rfl, h1, h2, h3, h4, h5⟩)
theorem DX {x y : Operand} {T e z b : Nat} {k : Int} {ds : List D} (ho : o.op = .slice T x none (some y) none) (hx : ev S x = some (.val (.sl z ds))) (hy : ev S y = some (.val (.v (.int .i64 k)))) (hT : assoc slL T = some (e, z, b)) (hk : 0 ≤ k ∧ k.toNat ≤ ds.length) : Still ops S o (.val (.sl z (ds.take k.toNat))) := fun base ok a w ha => by
 obtain ⟨A, c, rows, h1, h2, h3, h4, h5, h6⟩ := qg (ha.ev hx (aB (by rw [ho]; simp [Op.operands])))
 have hy' := dh ha hy (aB (by rw [ho]; simp [Op.operands]))
 obtain ⟨hu, hs⟩ := qN hT
 have hlen : (ds.take k.toNat).length = k.toNat := by rw [LV]; omega
 refine ⟨.slice A k.toNat c, ?_, by
  have := H7 (ok := ok) (w := w) (A := A) (c := c) (ds := ds.take k.toNat) (rows := rows.take k.toNat) (z := z) (by omega) h3 (fun e => by have := h4 e; omega) (by rw [nT rows (ah.lens ds rows h6).2]; exact Dn h5 _) (ah.take ds rows k.toNat h6)
  rwa [hlen] at this⟩
 unfold execOp
 have hr : (Instr.sliceAt T (.slice A ds.length c) none (some (.int .i64 k)) none).run Tryz.prog w = .ok (.slice A k.toNat c) w := by
  rw [run_sliceAt_slice (P := Tryz.prog) w T _ _ _ _ hu, run_slice_h (P := Tryz.prog) w T A ds.length c hu .i64 k hk.1 (by omega), hs]
  cases A with
  | none => simp [sliced, Result.andThen]
  | some p =>
   have : p.add 0 = p := by cases p; simp [Addr.add]
   simp [sliced, Result.andThen, this]
 simp only [ho, h1, hy', OL, Og, KW, hr, KL, KX]
theorem Dp {z : Nat} {A : Option Addr} {xs : List Value} {n c : Nat} (h : RdP ok w A xs) (hn : xs.length = n * z) (hc : n ≤ c) (k : Nat) (hk : k ≤ n) : RdP ok w (if c = k then A else A.map (·.add (k * z))) (xs.drop (k * z)) := fun hne => by
 have hlt : k * z < xs.length := by
  rcases Me (k * z) xs.length with h1 | h1
  · exact h1
  · exact absurd (MC h1) hne
 have hk' : k < n := by
  rcases Me k n with h1 | h1
  · exact h1
  ·
   have := Nj z h1
   omega
 obtain ⟨b, o, rfl, hb, hcell⟩ := h (fun e => by rw [e] at hlt; simp at hlt)
 rw [if_neg (by omega)]
 refine ⟨b, o + k * z, by simp [bQ], hb, fun j u hu => ?_⟩
 rw [N9]
 exact hcell _ u (by rw [← hu, NS])
theorem DY {x y : Operand} {T e z b : Nat} {k : Int} {ds : List D} (ho : o.op = .slice T x (some y) none none) (hx : ev S x = some (.val (.sl z ds))) (hy : ev S y = some (.val (.v (.int .i64 k)))) (hT : assoc slL T = some (e, z, b)) (hk : 0 ≤ k ∧ k.toNat ≤ ds.length) : Still ops S o (.val (.sl z (ds.drop k.toNat))) := fun base ok a w ha => by
 obtain ⟨A, c, rows, h1, h2, h3, h4, h5, h6⟩ := qg (ha.ev hx (aB (by rw [ho]; simp [Op.operands])))
 have hy' := dh ha hy (aB (by rw [ho]; simp [Op.operands]))
 obtain ⟨hu, hs⟩ := qN hT
 obtain ⟨hl1, hl2⟩ := ah.lens ds rows h6
 have hlen : (ds.drop k.toNat).length = ds.length - k.toNat := by rw [OB]
 refine ⟨.slice (if c = k.toNat then A else A.map (·.add (k.toNat * z))) (ds.length - k.toNat) (c - k.toNat), ?_, by
  have := H7 (ok := ok) (w := w) (A := if c = k.toNat then A else A.map (·.add (k.toNat * z))) (c := c - k.toNat) (ds := ds.drop k.toNat) (rows := rows.drop k.toNat) (z := z) (by omega) (by omega) (fun e => by
   have : A = none := by
    split at e
    · exact e
    · simpa using e
   have := h4 this
   omega) (by rw [BH rows hl2]; exact Dp h5 (by rw [ku rows hl2, hl1]) h2 _ hk.2) (ah.drop ds rows k.toNat h6)
  rwa [hlen] at this⟩
 unfold execOp
 have hr : (Instr.sliceAt T (.slice A ds.length c) (some (.int .i64 k)) none none).run Tryz.prog w = .ok (.slice (if c = k.toNat then A else A.map (·.add (k.toNat * z))) (ds.length - k.toNat) (c - k.toNat)) w := by
  rw [run_sliceAt_slice (P := Tryz.prog) w T _ _ _ _ hu, run_slice_l (P := Tryz.prog) w T A ds.length c hu .i64 k hk.1 (by omega), hs]
  rfl
 simp only [ho, h1, hy', OL, Og, KW, hr, KL, KX]
theorem nX : ∀ (xs : List Operand) (vs : List Value), vk S xs = some vs → (∀ t, .tmp t ∈ xs → L t) → Kn base ok L S a w → xs.map a.eval = vs
 | [], vs, h, _, _ => by cases h; rfl
 | x :: xs, vs, h, hL, ha => by
  rw [vk] at h
  split at h
  ·
   rename_i v vs' h1 h2
   cases h
   rw [Lu, dh ha h1 fun t e => hL t (by simp [e]), nX xs vs' h2 (fun t ht => hL t (by simp [ht])) ha]
  · cases h
theorem D8 {f : FuncId} {caps : Array Operand} {xs : List Value} (ho : o.op = .makeFunc (.func f) #[] caps) (hx : vk S caps.toList = some xs) : Still ops S o (.val (.v (.func (.func f) #[] xs.toArray))) := fun base ok a w ha => by
 have h1 := nX caps.toList xs hx (fun t ht => au (x := .tmp t) rfl (by rw [ho]; simp [Op.operands]; simpa using ht)) ha
 refine ⟨_, ?_, dM rfl⟩
 unfold execOp
 have h2 : caps.map a.eval = xs.toArray := by
  apply NY
  simpa using h1
 simp only [ho, h2, Instr.makeFunc, KW, KX, KL, Np, ML]
end
section
variable {N : Nat} {X : Cx N} {S S' : St} {a : Act} {w w' : World} {ops : Array Oper} {o : Oper} {Q : Exit → Act → World → Prop} {l : List Oper} {TT : St → List Fr → Prop} {EE : List Fr} {rs : List (Tmp × R)} {os : List Obj} {fs : List (Value × D)}
theorem G5 {t ty : Nat} {pos : String} {af : Array Edge} {gd : Option (Nat × Bool)} {x : Operand} {p : Addr} (hx : ev (⟨rs, os, fs⟩ : St) x = some (.val (.v (.pointer (some p))))) (hg : guardOf ops ⟨rs, os, fs⟩ ⟨some t, .nilCheck x, ty, pos, af, gd⟩ = some true) (hN : Nat.blt t N = true) (kk : EL X ops Q l ⟨(t, (.val (.v (.pointer (some p))))) :: rs, os, fs⟩) : EL X ops Q (⟨some t, .nilCheck x, ty, pos, af, gd⟩ :: l) ⟨rs, os, fs⟩ := ES.still (Ak rfl hx) hg rfl hN kk
theorem Hl {t ty : Nat} {pos : String} {af : Array Edge} {gd : Option (Nat × Bool)} {x : Operand} {p : Addr} (hx : ev (⟨rs, os, fs⟩ : St) x = some (.val (.v (.pointer (some p))))) (hg : guardOf ops ⟨rs, os, fs⟩ ⟨some t, .nilCheck x, ty, pos, af, gd⟩ = some true) (hoff : bg N (some t) EE = true) (kk : EM N ops TT l ⟨(t, (.val (.v (.pointer (some p))))) :: rs, os, fs⟩ EE) : EM N ops TT (⟨some t, .nilCheck x, ty, pos, af, gd⟩ :: l) ⟨rs, os, fs⟩ EE := EH.still (Ak rfl hx) hg rfl hoff kk
theorem Ho {t ty : Nat} {pos : String} {af : Array Edge} {gd : Option (Nat × Bool)} {T : Nat} {x : Operand} {d : D} (hx : ev (⟨rs, os, fs⟩ : St) x = some (.val d)) (hT : cnL.contains T = true) (hg : guardOf ops ⟨rs, os, fs⟩ ⟨some t, .makeInterface T x, ty, pos, af, gd⟩ = some true) (hoff : bg N (some t) EE = true) (kk : EM N ops TT l ⟨(t, (.val (.ifc T d))) :: rs, os, fs⟩ EE) : EM N ops TT (⟨some t, .makeInterface T x, ty, pos, af, gd⟩ :: l) ⟨rs, os, fs⟩ EE := EH.still (Gs rfl hx hT) hg rfl hoff kk
theorem Hf {t ty : Nat} {pos : String} {af : Array Edge} {gd : Option (Nat × Bool)} {x : Operand} {T : Nat} {U : TypeId} {d : D} (hx : ev (⟨rs, os, fs⟩ : St) x = some (.val (.ifc T d))) (hT : cnL.contains T = true) (hg : guardOf ops ⟨rs, os, fs⟩ ⟨some t, .typeAssert x U T true, ty, pos, af, gd⟩ = some true) (hN : Nat.blt t N = true) (kk : EL X ops Q l ⟨(t, (.tpl [d, .v (.bool true)])) :: rs, os, fs⟩) : EL X ops Q (⟨some t, .typeAssert x U T true, ty, pos, af, gd⟩ :: l) ⟨rs, os, fs⟩ := ES.still (Gy rfl hx hT) hg rfl hN kk
theorem JA {t ty : Nat} {pos : String} {af : Array Edge} {gd : Option (Nat × Bool)} {x : Operand} {T T1 : Nat} {U : TypeId} {d dz : D} (hx : ev (⟨rs, os, fs⟩ : St) x = some (.val (.ifc T1 d))) (hT : cnL.contains T = true) (hne : Nat.beq T1 T = false) (hz : assoc dL T = some dz) (hg : guardOf ops ⟨rs, os, fs⟩ ⟨some t, .typeAssert x U T true, ty, pos, af, gd⟩ = some true) (hN : Nat.blt t N = true) (kk : EL X ops Q l ⟨(t, (.tpl [dz, .v (.bool false)])) :: rs, os, fs⟩) : EL X ops Q (⟨some t, .typeAssert x U T true, ty, pos, af, gd⟩ :: l) ⟨rs, os, fs⟩ := ES.still (Jf rfl hx hT hne hz) hg rfl hN kk
theorem Kq {t ty : Nat} {pos : String} {af : Array Edge} {gd : Option (Nat × Bool)} {x y : Operand} {tys : Array TypeId} {k : IntKind} {m n : Int} (hx : ev (⟨rs, os, fs⟩ : St) x = some (.val (.v (.int k m)))) (hy : ev (⟨rs, os, fs⟩ : St) y = some (.val (.v (.int k n)))) (hg : guardOf ops ⟨rs, os, fs⟩ ⟨some t, .call { callee := .builtin .max, args := #[x, y], argTypes := tys }, ty, pos, af, gd⟩ = some true) (hoff : bg N (some t) EE = true) (kk : EM N ops TT l ⟨(t, (.val (.v (.int k (if n > m then n else m))))) :: rs, os, fs⟩ EE) : EM N ops TT (⟨some t, .call { callee := .builtin .max, args := #[x, y], argTypes := tys }, ty, pos, af, gd⟩ :: l) ⟨rs, os, fs⟩ EE := EH.still (JU rfl hx hy) hg rfl hoff kk
theorem bY {t ty : Nat} {pos : String} {af : Array Edge} {gd : Option (Nat × Bool)} {x y : Operand} {T K n E g c i : Nat} {es : List Ent} {l1 : List UInt8} {dz d' : D} (hget : (aJ es l1).getD dz = d') (hx : ev (⟨rs, os, fs⟩ : St) x = some (.val (.v (.map (some g))))) (hi : os[i]? = some (.map g n c es)) (hy : ev (⟨rs, os, fs⟩ : St) y = some (.val (.arr n l1))) (hT : assoc mZ T = some (K, n, E)) (hz : assoc dL E = some dz) (hg : guardOf ops ⟨rs, os, fs⟩ ⟨some t, .lookup T x y false, ty, pos, af, gd⟩ = some true) (hoff : bg N (some t) EE = true) (kk : EM N ops TT l ⟨(t, (.val d')) :: rs, os, fs⟩ EE) : EM N ops TT (⟨some t, .lookup T x y false, ty, pos, af, gd⟩ :: l) ⟨rs, os, fs⟩ EE := EH.still (D9 hget rfl hx i hi hy hT hz) hg rfl hoff kk
theorem yF {t ty : Nat} {pos : String} {af : Array Edge} {gd : Option (Nat × Bool)} {x y : Operand} {T K n E : Nat} {l1 : List UInt8} {dz : D} (hx : ev (⟨rs, os, fs⟩ : St) x = some (.val (.v (.map none)))) (hy : ev (⟨rs, os, fs⟩ : St) y = some (.val (.arr n l1))) (hT : assoc mZ T = some (K, n, E)) (hz : assoc dL E = some dz) (hg : guardOf ops ⟨rs, os, fs⟩ ⟨some t, .lookup T x y false, ty, pos, af, gd⟩ = some true) (hoff : bg N (some t) EE = true) (kk : EM N ops TT l ⟨(t, (.val dz)) :: rs, os, fs⟩ EE) : EM N ops TT (⟨some t, .lookup T x y false, ty, pos, af, gd⟩ :: l) ⟨rs, os, fs⟩ EE := EH.still (xQ rfl hx hy hT hz) hg rfl hoff kk
theorem EZ {t ty : Nat} {pos : String} {af : Array Edge} {gd : Option (Nat × Bool)} {x : Operand} {T K n E g c i : Nat} {es : List Ent} (hx : ev (⟨rs, os, fs⟩ : St) x = some (.val (.v (.map (some g))))) (hi : os[i]? = some (.map g n c es)) (hT : assoc mZ T = some (K, n, E)) (hg : guardOf ops ⟨rs, os, fs⟩ ⟨some t, .call { callee := .builtin .len, args := #[x], argTypes := #[T] }, ty, pos, af, gd⟩ = some true) (hN : Nat.blt t N = true) (kk : EL X ops Q l ⟨(t, (.val (.v (.int .i64 es.length)))) :: rs, os, fs⟩) : EL X ops Q (⟨some t, .call { callee := .builtin .len, args := #[x], argTypes := #[T] }, ty, pos, af, gd⟩ :: l) ⟨rs, os, fs⟩ := ES.still (Ea rfl hx i hi hT) hg rfl hN kk
theorem kM {t ty : Nat} {pos : String} {af : Array Edge} {gd : Option (Nat × Bool)} {x y : Operand} {T e z b i : Nat} {k : Int} {v : Value} {ds : List D} (hx : ev (⟨rs, os, fs⟩ : St) x = some (.val (.v v))) (hi : os[i]? = some (.row v e z ds)) (hy : ev (⟨rs, os, fs⟩ : St) y = some (.val (.v (.int .i64 k)))) (hT : assoc slL T = some (e, z, b)) (hk : 0 ≤ k ∧ k.toNat < ds.length) (hg : guardOf ops ⟨rs, os, fs⟩ ⟨some t, .indexAddr T x y, ty, pos, af, gd⟩ = some true) (hN : Nat.blt t N = true) (kk : EL X ops Q l ⟨(t, (.val (.v (aH v (k.toNat * z))))) :: rs, os, fs⟩) : EL X ops Q (⟨some t, .indexAddr T x y, ty, pos, af, gd⟩ :: l) ⟨rs, os, fs⟩ := ES.still (xP rfl hx i hi hy hT hk) hg rfl hN kk
theorem Fp {t ty : Nat} {pos : String} {af : Array Edge} {gd : Option (Nat × Bool)} {x y : Operand} {T e z b i : Nat} {k : Int} {v : Value} {ds : List D} (hx : ev (⟨rs, os, fs⟩ : St) x = some (.val (.v v))) (hi : os[i]? = some (.row v e z ds)) (hy : ev (⟨rs, os, fs⟩ : St) y = some (.val (.v (.int .i64 k)))) (hT : assoc slL T = some (e, z, b)) (hk : 0 ≤ k ∧ k.toNat < ds.length) (hg : guardOf ops ⟨rs, os, fs⟩ ⟨some t, .indexAddr T x y, ty, pos, af, gd⟩ = some true) (hoff : bg N (some t) EE = true) (kk : EM N ops TT l ⟨(t, (.val (.v (aH v (k.toNat * z))))) :: rs, os, fs⟩ EE) : EM N ops TT (⟨some t, .indexAddr T x y, ty, pos, af, gd⟩ :: l) ⟨rs, os, fs⟩ EE := EH.still (xP rfl hx i hi hy hT hk) hg rfl hoff kk
theorem EP {t ty : Nat} {pos : String} {af : Array Edge} {gd : Option (Nat × Bool)} {x : Operand} {e z i : Nat} {v : Value} {ds : List D} {n : Nat} (hx : ev (⟨rs, os, fs⟩ : St) x = some (.val (.v (aH v n)))) (hi : os[i]? = some (.row v e z ds)) (hk : 0 < ds.length) (hg : guardOf ops ⟨rs, os, fs⟩ ⟨some t, .nilCheck x, ty, pos, af, gd⟩ = some true) (hN : Nat.blt t N = true) (kk : EL X ops Q l ⟨(t, (.val (.v (aH v n)))) :: rs, os, fs⟩) : EL X ops Q (⟨some t, .nilCheck x, ty, pos, af, gd⟩ :: l) ⟨rs, os, fs⟩ := ES.still (xO rfl hx i hi hk) hg rfl hN kk
theorem Fj {t ty : Nat} {pos : String} {af : Array Edge} {gd : Option (Nat × Bool)} {x : Operand} {e z i : Nat} {v : Value} {ds : List D} {n : Nat} (hx : ev (⟨rs, os, fs⟩ : St) x = some (.val (.v (aH v n)))) (hi : os[i]? = some (.row v e z ds)) (hk : 0 < ds.length) (hg : guardOf ops ⟨rs, os, fs⟩ ⟨some t, .nilCheck x, ty, pos, af, gd⟩ = some true) (hoff : bg N (some t) EE = true) (kk : EM N ops TT l ⟨(t, (.val (.v (aH v n)))) :: rs, os, fs⟩ EE) : EM N ops TT (⟨some t, .nilCheck x, ty, pos, af, gd⟩ :: l) ⟨rs, os, fs⟩ EE := EH.still (xO rfl hx i hi hk) hg rfl hoff kk
theorem zF {t ty : Nat} {pos : String} {af : Array Edge} {gd : Option (Nat × Bool)} {x : Operand} {T k off sz e z i n : Nat} {ag : Bool} {v : Value} {ds : List D} {lf : List (Nat × Nat × Bool)} (hx : ev (⟨rs, os, fs⟩ : St) x = some (.val (.v (aH v n)))) (hi : os[i]? = some (.row v e z ds)) (hk0 : 0 < ds.length) (h : assoc stL T = some lf) (hk : lf[k]? = some (off, sz, ag)) (h0 : Nat.blt 0 sz = true) (hg : guardOf ops ⟨rs, os, fs⟩ ⟨some t, .fieldAddr T x k, ty, pos, af, gd⟩ = some true) (hN : Nat.blt t N = true) (kk : EL X ops Q l ⟨(t, (.val (.v (aH v (n + off))))) :: rs, os, fs⟩) : EL X ops Q (⟨some t, .fieldAddr T x k, ty, pos, af, gd⟩ :: l) ⟨rs, os, fs⟩ := ES.still (qJ rfl hx i hi hk0 h hk h0) hg rfl hN kk
theorem zH {t ty : Nat} {pos : String} {af : Array Edge} {gd : Option (Nat × Bool)} {x : Operand} {T k off sz e z i n : Nat} {ag : Bool} {v : Value} {ds : List D} {lf : List (Nat × Nat × Bool)} (hx : ev (⟨rs, os, fs⟩ : St) x = some (.val (.v (aH v n)))) (hi : os[i]? = some (.row v e z ds)) (hk0 : 0 < ds.length) (h : assoc stL T = some lf) (hk : lf[k]? = some (off, sz, ag)) (h0 : Nat.blt 0 sz = true) (hg : guardOf ops ⟨rs, os, fs⟩ ⟨some t, .fieldAddr T x k, ty, pos, af, gd⟩ = some true) (hoff : bg N (some t) EE = true) (kk : EM N ops TT l ⟨(t, (.val (.v (aH v (n + off))))) :: rs, os, fs⟩ EE) : EM N ops TT (⟨some t, .fieldAddr T x k, ty, pos, af, gd⟩ :: l) ⟨rs, os, fs⟩ EE := EH.still (qJ rfl hx i hi hk0 h hk h0) hg rfl hoff kk
theorem aU {t ty : Nat} {pos : String} {af : Array Edge} {gd : Option (Nat × Bool)} {x : Operand} {T sz e z i n k off : Nat} {ag : Bool} {v : Value} {ds : List D} {d d' : D} (hx : ev (⟨rs, os, fs⟩ : St) x = some (.val (.v (aH v n)))) (hi : os[i]? = some (.row v e z ds)) (hk : n = k * z + off ∧ ds[k]? = some d) (hT : assoc tyL T = some (sz, ag)) (hs : d.sub off sz ag = some d') (hg : guardOf ops ⟨rs, os, fs⟩ ⟨some t, .load T x, ty, pos, af, gd⟩ = some true) (hN : Nat.blt t N = true) (kk : EL X ops Q l ⟨(t, (.val d')) :: rs, os, fs⟩) : EL X ops Q (⟨some t, .load T x, ty, pos, af, gd⟩ :: l) ⟨rs, os, fs⟩ := ES.still (sU hk rfl hx i hi hT hs) hg rfl hN kk
theorem dB {t ty : Nat} {pos : String} {af : Array Edge} {gd : Option (Nat × Bool)} {x : Operand} {T sz e z i n k off : Nat} {ag : Bool} {v : Value} {ds : List D} {d d' : D} (hx : ev (⟨rs, os, fs⟩ : St) x = some (.val (.v (aH v n)))) (hi : os[i]? = some (.row v e z ds)) (hk : n = k * z + off ∧ ds[k]? = some d) (hT : assoc tyL T = some (sz, ag)) (hs : d.sub off sz ag = some d') (hg : guardOf ops ⟨rs, os, fs⟩ ⟨some t, .load T x, ty, pos, af, gd⟩ = some true) (hoff : bg N (some t) EE = true) (kk : EM N ops TT l ⟨(t, (.val d')) :: rs, os, fs⟩ EE) : EM N ops TT (⟨some t, .load T x, ty, pos, af, gd⟩ :: l) ⟨rs, os, fs⟩ EE := EH.still (sU hk rfl hx i hi hT hs) hg rfl hoff kk
theorem yE {t ty : Nat} {pos : String} {af : Array Edge} {gd : Option (Nat × Bool)} {x y : Operand} {T e z b i : Nat} {k : Int} {v : Value} {ds : List D} (hx : ev (⟨rs, os, fs⟩ : St) x = some (.val (.v v))) (hi : os[i]? = some (.row v e z ds)) (hy : ev (⟨rs, os, fs⟩ : St) y = some (.val (.v (.int .i64 k)))) (hT : assoc slL T = some (e, z, b)) (hk : 0 ≤ k ∧ k.toNat ≤ ds.length) (hg : guardOf ops ⟨rs, os, fs⟩ ⟨some t, .slice T x none (some y) none, ty, pos, af, gd⟩ = some true) (hN : Nat.blt t N = true) (kk : EL X ops Q l ⟨(t, (.val (.v (cutV v k.toNat)))) :: rs, os, fs⟩) : EL X ops Q (⟨some t, .slice T x none (some y) none, ty, pos, af, gd⟩ :: l) ⟨rs, os, fs⟩ := ES.still (DZ rfl hx i hi hy hT hk) hg rfl hN kk
theorem oz {t ty : Nat} {pos : String} {af : Array Edge} {gd : Option (Nat × Bool)} {x y : Operand} {T e z b : Nat} {k : Int} {ds : List D} (hx : ev (⟨rs, os, fs⟩ : St) x = some (.val (.sl z ds))) (hy : ev (⟨rs, os, fs⟩ : St) y = some (.val (.v (.int .i64 k)))) (hT : assoc slL T = some (e, z, b)) (hk : 0 ≤ k ∧ k.toNat ≤ ds.length) (hg : guardOf ops ⟨rs, os, fs⟩ ⟨some t, .slice T x none (some y) none, ty, pos, af, gd⟩ = some true) (hN : Nat.blt t N = true) (kk : EL X ops Q l ⟨(t, (.val (.sl z (ds.take k.toNat)))) :: rs, os, fs⟩) : EL X ops Q (⟨some t, .slice T x none (some y) none, ty, pos, af, gd⟩ :: l) ⟨rs, os, fs⟩ := ES.still (DX rfl hx hy hT hk) hg rfl hN kk
theorem Fh {t ty : Nat} {pos : String} {af : Array Edge} {gd : Option (Nat × Bool)} {x y : Operand} {T e z b : Nat} {k : Int} {ds : List D} (hx : ev (⟨rs, os, fs⟩ : St) x = some (.val (.sl z ds))) (hy : ev (⟨rs, os, fs⟩ : St) y = some (.val (.v (.int .i64 k)))) (hT : assoc slL T = some (e, z, b)) (hk : 0 ≤ k ∧ k.toNat ≤ ds.length) (hg : guardOf ops ⟨rs, os, fs⟩ ⟨some t, .slice T x none (some y) none, ty, pos, af, gd⟩ = some true) (hoff : bg N (some t) EE = true) (kk : EM N ops TT l ⟨(t, (.val (.sl z (ds.take k.toNat)))) :: rs, os, fs⟩ EE) : EM N ops TT (⟨some t, .slice T x none (some y) none, ty, pos, af, gd⟩ :: l) ⟨rs, os, fs⟩ EE := EH.still (DX rfl hx hy hT hk) hg rfl hoff kk
theorem fZ {t ty : Nat} {pos : String} {af : Array Edge} {gd : Option (Nat × Bool)} {x y : Operand} {T e z b : Nat} {k : Int} {ds : List D} (hx : ev (⟨rs, os, fs⟩ : St) x = some (.val (.sl z ds))) (hy : ev (⟨rs, os, fs⟩ : St) y = some (.val (.v (.int .i64 k)))) (hT : assoc slL T = some (e, z, b)) (hk : 0 ≤ k ∧ k.toNat ≤ ds.length) (hg : guardOf ops ⟨rs, os, fs⟩ ⟨some t, .slice T x (some y) none none, ty, pos, af, gd⟩ = some true) (hN : Nat.blt t N = true) (kk : EL X ops Q l ⟨(t, (.val (.sl z (ds.drop k.toNat)))) :: rs, os, fs⟩) : EL X ops Q (⟨some t, .slice T x (some y) none none, ty, pos, af, gd⟩ :: l) ⟨rs, os, fs⟩ := ES.still (DY rfl hx hy hT hk) hg rfl hN kk
theorem ER {t ty : Nat} {pos : String} {af : Array Edge} {gd : Option (Nat × Bool)} {f : FuncId} {caps : Array Operand} {xs : List Value} (hx : vk (⟨rs, os, fs⟩ : St) caps.toList = some xs) (hg : guardOf ops ⟨rs, os, fs⟩ ⟨some t, .makeFunc (.func f) #[] caps, ty, pos, af, gd⟩ = some true) (hN : Nat.blt t N = true) (kk : EL X ops Q l ⟨(t, (.val (.v (.func (.func f) #[] xs.toArray)))) :: rs, os, fs⟩) : EL X ops Q (⟨some t, .makeFunc (.func f) #[] caps, ty, pos, af, gd⟩ :: l) ⟨rs, os, fs⟩ := ES.still (D8 rfl hx) hg rfl hN kk
end
end E
end Go.Proofs.YtkhjanjlcdhdcaaGreat
