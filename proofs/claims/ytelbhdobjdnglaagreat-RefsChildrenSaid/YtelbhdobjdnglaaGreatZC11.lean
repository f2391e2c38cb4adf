/-
 Merged: lemmas of this claim.
 Conditions: none.
-/
import Derived.Test.YtelbhdobjdnglaaGreatZC10
import Derived.Laws.Slices
import Derived.Test.YtelbhdobjdnglaaGreatZC5
import Derived.LoopN
import Derived.Laws.Externs
import Derived.Laws.MakeOwn
import Derived.Test.YtelbhdobjdnglaaGreatZC0
namespace Go.Proofs.YtelbhdobjdnglaaGreat
set_option linter.unusedVariables false
open Go.RowKit Mono Rlp
namespace E
def jq (v : Value) (n : Nat) : Value :=
 match v with
 | .slice (some a) _ _ => .pointer (some ⟨a.block, a.off + n, none⟩)
 | _ => .pointer none
def cutV (v : Value) (k : Nat) : Value :=
 match v with
 | .slice A n c => .slice A k c
 | v => v
theorem Gx (v : Value) (n : Nat) : (jq v n).oneCell' = true := by
 unfold jq
 split <;> rfl
def Gv (S : St) : List Operand → Option (List Value)
 | [] => some []
 | x :: xs => match ev S x, Gv S xs with
  | some (.val (.v v)), some vs => some (v :: vs)
  | _, _ => none
section
variable {N : Nat} {X : Cx N} {S S' : St} {a : Act} {w w' : World} {ops : Array Oper} {o : Oper} {Q : Exit → Act → World → Prop} {l : List Oper} {TT : St → List Fr → Prop} {EE : List Fr} {rs : List (Tmp × R)} {os : List Obj} {fs : List (Value × D)} {base ok : Nat → Prop} {L : Tmp → Prop}
theorem zf {T K n e : Nat} (h : assoc rX T = some (K, n, e)) : Tryz.prog.underlying T = some (.map K e) ∧ Aw K n := Uk (by
 have := Xk.1 Ru _ (jK _ _ _ h)
 simpa using this)
theorem zvI {T : Nat} {d : D} (h : assoc iy T = some d) : CU T d := CW.get _ _ _ TS h
theorem cnI {T : Nat} (h : cnL.contains T = true) : ∃ d, Tryz.prog.underlying T = some d ∧ ∀ ms, d ≠ .interface ms := by
 have := Xk.1 UZ T (by simpa using h)
 unfold cnB at this
 split at this
 · cases this
 ·
  rename_i d hd h1
  exact ⟨d, h1, fun ms e => hd ms e⟩
 · cases this
theorem bD {x : Operand} (h : x ∈ o.op.operands.toList) : ∀ t, x = .tmp t → t ∈ o.looksAt ops := fun t e => aU e h
theorem JY {x : Operand} {p : Addr} (ho : o.op = .nilCheck x) (hx : ev S x = some (.val (.v (.pointer (some p))))) : Still ops S o (.val (.v (.pointer (some p)))) := fun base ok a w ha => by
 have h1 := gW ha hx (bD (by rw [ho]; simp [Op.operands]))
 refine ⟨_, ?_, iD rfl⟩
 unfold execOp
 simp only [ho, h1, Xc]
theorem Vz {d : D} {x : Value} (h : bW ok w (.pd d) x) : ∃ b n cs, x = .pointer (some ⟨b, n, none⟩) ∧ ok b ∧ w.rangeAt b n cs ∧ Reads ok w d cs := by
 have h1 := (dn rfl).1 h
 rw [Reads] at h1
 obtain ⟨b, n, cs, h2, h3, h4, h5⟩ := h1
 exact ⟨b, n, cs, by simpa using h2, h3, h4, h5⟩
theorem IY {x : Operand} {d : D} (ho : o.op = .nilCheck x) (hx : ev S x = some (.val (.pd d))) : Still ops S o (.val (.pd d)) := fun base ok a w ha => by
 have h0 := ha.ev hx (bD (by rw [ho]; simp [Op.operands]))
 obtain ⟨b, n, cs, h1, _⟩ := Vz h0
 refine ⟨a.eval x, ?_, h0⟩
 unfold execOp
 simp only [ho, h1, Xc]
theorem JZ {T : Nat} {x : Operand} {d : D} (ho : o.op = .makeInterface T x) (hx : ev S x = some (.val d)) (hT : cnL.contains T = true) : Still ops S o (.val (.ifc T d)) := fun base ok a w ha => by
 obtain ⟨cs, h1, h2⟩ := ha.ev hx (bD (by rw [ho]; simp [Op.operands]))
 obtain ⟨de, h3, h4⟩ := cnI hT
 refine ⟨.iface T (a.eval x), ?_, (dn rfl).2 (by rw [Reads]; exact ⟨cs, by rw [h2], h1⟩)⟩
 unfold execOp
 have hr : (Instr.makeInterface T (a.eval x)).run Tryz.prog w = .ok (.iface T (a.eval x)) w := by
  unfold Instr.makeInterface
  rw [WX, run_underlying h3, WV]
  cases de <;> first | exact absurd rfl (h4 _) | rfl
 simp only [ho, WX, hr, WV, Xc]
theorem O8 {T : TypeId} {d : D} {x : Value} (h : bW ok w (.ifc T d) x) : ∃ cs, x = .iface T (form d cs) ∧ Reads ok w d cs := by
 have h1 := (dn rfl).1 h
 rw [Reads] at h1
 obtain ⟨cs, h2, h3⟩ := h1
 exact ⟨cs, by simpa using h2, h3⟩
theorem RZ {x : Operand} {T : Nat} {U : TypeId} {d : D} (ho : o.op = .typeAssert x U T true) (hx : ev S x = some (.val (.ifc T d))) (hT : cnL.contains T = true) : Still ops S o (.tpl [d, .v (.bool true)]) := fun base ok a w ha => by
 obtain ⟨cs, h1, h2⟩ := O8 (ha.ev hx (bD (by rw [ho]; simp [Op.operands])))
 obtain ⟨de, h3, h4⟩ := cnI hT
 refine ⟨.tuple #[form d cs, .bool true], ?_, [form d cs, .bool true], rfl, _, _, rfl, ⟨cs, h2, rfl⟩, _, _, rfl, iD rfl, rfl⟩
 unfold execOp
 have hr : (Instr.typeAssert (.iface T (form d cs)) U T true).run Tryz.prog w = .ok (.tuple #[form d cs, .bool true]) w := by
  simp only [Instr.typeAssert, WX, run_underlying h3, WV]
  cases de <;> first | exact absurd rfl (h4 _) | simp
 simp only [ho, h1, WX, hr, WV, Xc]
theorem UK {x : Operand} {T T1 : Nat} {U : TypeId} {d dz : D} (ho : o.op = .typeAssert x U T true) (hx : ev S x = some (.val (.ifc T1 d))) (hT : cnL.contains T = true) (hne : Nat.beq T1 T = false) (hz : assoc iy T = some dz) : Still ops S o (.tpl [dz, .v (.bool false)]) := fun base ok a w ha => by
 obtain ⟨cs, h1, h2⟩ := O8 (ha.ev hx (bD (by rw [ho]; simp [Op.operands])))
 obtain ⟨de, h3, h4⟩ := cnI hT
 obtain ⟨z, h5, h6⟩ := (zvI hz).get
 have hne' : ¬ T1 = T := fun e => by subst e; simp at hne
 refine ⟨.tuple #[z, .bool false], ?_, [z, .bool false], rfl, _, _, rfl, h6 _ _, _, _, rfl, iD rfl, rfl⟩
 unfold execOp
 have hr : (Instr.typeAssert (.iface T1 (form d cs)) U T true).run Tryz.prog w = .ok (.tuple #[z, .bool false]) w := by
  simp only [Instr.typeAssert, WX, run_underlying h3, WV]
  cases de <;> first | exact absurd rfl (h4 _) | simp [hne', h5]
 simp only [ho, h1, WX, hr, WV, Xc]
theorem Sj {x : Operand} {T : Nat} {U : TypeId} {dz : D} (ho : o.op = .typeAssert x U T true) (hx : ev S x = some (.val (.v .nilIface))) (hT : cnL.contains T = true) (hz : assoc iy T = some dz) : Still ops S o (.tpl [dz, .v (.bool false)]) := fun base ok a w ha => by
 have h1 := gW ha hx (bD (by rw [ho]; simp [Op.operands]))
 obtain ⟨de, h3, h4⟩ := cnI hT
 obtain ⟨z, h5, h6⟩ := (zvI hz).get
 refine ⟨.tuple #[z, .bool false], ?_, [z, .bool false], rfl, _, _, rfl, h6 _ _, _, _, rfl, iD rfl, rfl⟩
 unfold execOp
 have hr : (Instr.typeAssert .nilIface U T true).run Tryz.prog w = .ok (.tuple #[z, .bool false]) w := by
  simp only [Instr.typeAssert, WX, run_underlying h3, WV]
  cases de <;> first | exact absurd rfl (h4 _) | simp [h5]
 simp only [ho, h1, WX, hr, WV, Xc]
theorem Kn.map {L : Tmp → Prop} (h : Kn base ok L S a w) {i g n c : Nat} {es : List Ent} (hi : S.objs[i]? = some (.map g n c es)) : Obj.At base ok w (.map g n c es) := h.objs _ (Xh hi)
theorem FZ {x y : Operand} {T K n E g c : Nat} {es : List Ent} {l1 : List UInt8} {dz d' : D} (hget : (dW es l1).getD dz = d') (ho : o.op = .lookup T x y false) (hx : ev S x = some (.val (.v (.map (some g))))) (i : Nat) (hi : S.objs[i]? = some (.map g n c es)) (hy : ev S y = some (.val (.arr n l1))) (hT : assoc rX T = some (K, n, E)) (hz : assoc iy E = some dz) : Still ops S o (.val d') := fun base ok a w ha => by
 have h1 := gW ha hx (bD (by rw [ho]; simp [Op.operands]))
 obtain ⟨h2, h3⟩ := pJ (ha.ev hy (bD (by rw [ho]; simp [Op.operands])))
 obtain ⟨v, h4, h5⟩ := yB (zf hT).1 (zf hT).2 (zvI hz) (ha.map hi) l1 h2 false
 refine ⟨v, ?_, by rw [← hget]; exact h5⟩
 unfold execOp
 simp only [ho, h1, h3, WX, h4, WV, Xc]
 rfl
theorem MZ {x y : Operand} {T K n E g c : Nat} {es : List Ent} {l1 : List UInt8} {dz d' : D} {b : Bool} (hget : (dW es l1).getD dz = d' ∧ (dW es l1).isSome = b) (ho : o.op = .lookup T x y true) (hx : ev S x = some (.val (.v (.map (some g))))) (i : Nat) (hi : S.objs[i]? = some (.map g n c es)) (hy : ev S y = some (.val (.arr n l1))) (hT : assoc rX T = some (K, n, E)) (hz : assoc iy E = some dz) : Still ops S o (.tpl [d', .v (.bool b)]) := fun base ok a w ha => by
 have h1 := gW ha hx (bD (by rw [ho]; simp [Op.operands]))
 obtain ⟨h2, h3⟩ := pJ (ha.ev hy (bD (by rw [ho]; simp [Op.operands])))
 obtain ⟨v, h4, h5⟩ := yB (zf hT).1 (zf hT).2 (zvI hz) (ha.map hi) l1 h2 true
 refine ⟨.tuple #[v, .bool b], ?_, [v, .bool b], rfl, _, _, rfl, by rw [← hget.1]; exact h5, _, _, rfl, iD rfl, rfl⟩
 unfold execOp
 simp only [ho, h1, h3, WX, h4, WV, Xc, if_true, hget.2]
theorem kT {z : Nat} : ∀ rows : List (List Value), (∀ r ∈ rows, r.length = z) → rows.flatten.length = rows.length * z
 | [], _ => by simp
 | r :: rows, h => by
  rw [Xv, List.length_append, h r (by simp), kT rows fun r hr => h r (by simp [hr]), WS, X5, Yj, Yv]
theorem Gh {z : Nat} : ∀ (rows : List (List Value)) (k : Nat) (r : List Value), (∀ r ∈ rows, r.length = z) → rows[k]? = some r → ∃ A B, rows.flatten = A ++ r ++ B ∧ A.length = k * z ∧ ∀ r', (rows.set k r').flatten = A ++ r' ++ B
 | [], k, r, _, h => by simp at h
 | x :: rows, 0, r, hl, h => by
  cases h
  exact ⟨[], rows.flatten, by simp, by simp, fun r' => by simp⟩
 | x :: rows, k + 1, r, hl, h => by
  obtain ⟨A, B, h1, h2, h3⟩ := Gh rows k r (fun r hr => hl r (by simp [hr])) (by simpa using h)
  refine ⟨x ++ A, B, by simp [h1], ?_, fun r' => ?_⟩
  · rw [List.length_append, h2, hl x (by simp), X5, Yj, Yv]
  ·
   rw [Yt, Xv, h3 r']
   simp
theorem ay.set {z : Nat} : ∀ (ds : List D) (rows : List (List Value)) (k : Nat) (d : D) (r : List Value), ay ok w z ds rows → Reads ok w d r → r.length = z → ay ok w z (ds.set k d) (rows.set k r)
 | [], rows, k, d, r, h, _, _ => by rw [ay] at h; subst h; simp only [List.set_nil]; rw [ay]
 | e :: ds, rows, k, d, r, h, hd, hr => by
  rw [ay] at h
  obtain ⟨x, rest, rfl, h1, h2, h3⟩ := h
  cases k with
  | zero => rw [YI, YI, ay]; exact ⟨r, rest, rfl, hr, hd, h3⟩
  | succ k => rw [Yt, Yt, ay]; exact ⟨x, _, rfl, h1, h2, ay.set ds rest k d r h3 hd hr⟩
structure zX (base ok : Nat → Prop) (w : World) (v : Value) (e z : Nat) (ds : List D) (g c : Nat) (cur : Array Value) (rows : List (List Value)) : Prop where
 val : v = .slice (some ⟨g, 0, none⟩) ds.length c
 heap : w.heap[g]? = some (.cells cur e (0, 0))
 cells : cur.toList.take (ds.length * z) = rows.flatten
 size : cur.size = c * z
 le : ds.length ≤ c
 max : c ≤ maxLen
 rows : ay ok w z ds rows
 mine : base g
theorem row_in {e z : Nat} {v : Value} {ds : List D} (h : Obj.At base ok w (.row v e z ds)) (h0 : 0 < ds.length) : ∃ g c cur rows, zX base ok w v e z ds g c cur rows := by
 obtain ⟨rows, ⟨h1, hb⟩, h2⟩ := h
 rcases h1.2 with ⟨_, e⟩ | ⟨g, c, cur, e1, _, e2, e3, e4, e5, e6⟩
 · omega
 · exact ⟨g, c, cur, rows, e1, e2, e6, e5, e3, e4, h2, hb g (by rw [e1]; rfl)⟩
theorem zX.at {e z g c : Nat} {v : Value} {ds : List D} {cur : Array Value} {rows : List (List Value)} (h : zX base ok w v e z ds g c cur rows) : Obj.At base ok w (.row v e z ds) := by
 refine ⟨rows, ⟨⟨?_, .inr ⟨g, c, cur, h.val, Xo _, h.heap, h.le, h.max, h.size, h.cells⟩⟩, fun b hb => ?_⟩, h.rows⟩
 ·
  obtain ⟨h1, h2⟩ := ay.lens ds rows h.rows
  rw [kT rows h2, h1]
 ·
  rw [h.val] at hb
  cases hb
  exact h.mine
theorem zX.elem {e z g c : Nat} {v : Value} {ds : List D} {cur : Array Value} {rows : List (List Value)} (h : zX base ok w v e z ds g c cur rows) {k : Nat} {d : D} (hk : ds[k]? = some d) : ∃ r A B, rows[k]? = some r ∧ r.length = z ∧ Reads ok w d r ∧ cur.toList = A ++ r ++ B ∧ A.length = k * z ∧ ∀ r', r'.length = z → (A ++ r' ++ B).take (ds.length * z) = (rows.set k r').flatten := by
 obtain ⟨hk', rfl⟩ := Xf.1 hk
 obtain ⟨r, h1, h2, h3⟩ := ay.get ds rows h.rows k hk'
 obtain ⟨hl1, hl2⟩ := ay.lens ds rows h.rows
 obtain ⟨A, B, g1, g2, g3⟩ := Gh rows k r hl2 h1
 obtain ⟨sp, hsplit⟩ : ∃ sp, cur.toList = rows.flatten ++ sp := ⟨cur.toList.drop (ds.length * z), by rw [← h.cells, XE]⟩
 refine ⟨r, A, B ++ sp, h1, h2, h3, by rw [hsplit, g1]; simp, g2, fun r' hr' => ?_⟩
 have hlen : (A ++ r' ++ B).length = ds.length * z := by
  have := congrArg List.length g1
  rw [kT rows hl2, hl1] at this
  simp only [List.length_append] at this ⊢
  omega
 rw [g3 r', ← Xp, List.take_left' hlen]
theorem Pj {x y : Operand} {T e z b : Nat} {k : Int} {v : Value} {ds : List D} (ho : o.op = .indexAddr T x y) (hx : ev S x = some (.val (.v v))) (i : Nat) (hi : S.objs[i]? = some (.row v e z ds)) (hy : ev S y = some (.val (.v (.int .i64 k)))) (hT : assoc slL T = some (e, z, b)) (hk : 0 ≤ k ∧ k.toNat < ds.length) : Still ops S o (.val (.v (jq v (k.toNat * z)))) := fun base ok a w ha => by
 have hx' := gW ha hx (bD (by rw [ho]; simp [Op.operands]))
 have hy' := gW ha hy (bD (by rw [ho]; simp [Op.operands]))
 obtain ⟨g, c, cur, rows, H⟩ := row_in (ha.objs _ (Xh hi)) (by omega)
 refine ⟨_, ?_, iD (Gx _ _)⟩
 have hlt : k < (ds.length : Int) := by omega
 unfold execOp
 simp [ho, hx', hy', H.val, Instr.indexAt, run_underlying (slI hT).und, asIntOf, hk.1, hlt, nV (slI hT).size, eu, jq]
theorem MX {x : Operand} {T sz e z n k off : Nat} {ag : Bool} {v : Value} {ds : List D} {d d' : D} (hk : n = k * z + off ∧ ds[k]? = some d) (ho : o.op = .load T x) (hx : ev S x = some (.val (.v (jq v n)))) (i : Nat) (hi : S.objs[i]? = some (.row v e z ds)) (hT : assoc tyL T = some (sz, ag)) (hs : d.sub off sz ag = some d') : Still ops S o (.val d') := fun base ok a w ha => by
 have hx' := gW ha hx (bD (by rw [ho]; simp [Op.operands]))
 obtain ⟨g, c, cur, rows, H⟩ := row_in (ha.objs _ (Xh hi)) (by have := (Xf.1 hk.2).1; omega)
 obtain ⟨r, A, B, h1, h2, h3, h4, h5, _⟩ := H.elem hk.2
 obtain ⟨e1, e2, pre, mid, post, rfl, e3, e4⟩ := nT d off sz ag d' r hs h3
 have hh : w.heap[g]? = some (.cells (A ++ (pre ++ mid ++ post) ++ B).toArray e (0, 0)) := by rw [← h4]; exact H.heap
 have hr := iL hh
 rw [show A ++ (pre ++ mid ++ post) ++ B = (A ++ pre) ++ mid ++ (post ++ B) by simp] at hr
 have hr := lU hr
 rw [Xj, List.length_append, h5, e3, ← hk.1] at hr
 refine ⟨form d' mid, ?_, mid, e4, rfl⟩
 have ep : jq v n = .pointer (some ⟨g, n, none⟩) := by rw [H.val]; simp [jq]
 unfold execOp
 simp only [ho, hx', ep, WX, lT (d := d') (by rw [e1, e2]; exact tyI hT) e4 hr, WV, Xc]
theorem qP {T e z b : Nat} (hT : assoc slL T = some (e, z, b)) : Tryz.prog.underlying T = some (.slice (Tryz.prog.elem T)) ∧ ∀ w, (sizeOf (Tryz.prog.elem T)).run Tryz.prog w = .ok z w := by
 have h := slI hT
 have : Tryz.prog.elem T = e := by
  unfold Program.elem
  rw [h.und]
 rw [this]
 exact ⟨h.und, nV h.size⟩
theorem Pm {x y : Operand} {T e z b : Nat} {k : Int} {v : Value} {ds : List D} (ho : o.op = .slice T x none (some y) none) (hx : ev S x = some (.val (.v v))) (i : Nat) (hi : S.objs[i]? = some (.row v e z ds)) (hy : ev S y = some (.val (.v (.int .i64 k)))) (hT : assoc slL T = some (e, z, b)) (hk : 0 ≤ k ∧ k.toNat ≤ ds.length) : Still ops S o (.val (.v (cutV v k.toNat))) := fun base ok a w ha => by
 have hx' := gW ha hx (bD (by rw [ho]; simp [Op.operands]))
 have hy' := gW ha hy (bD (by rw [ho]; simp [Op.operands]))
 obtain ⟨rows, ⟨h1, _⟩, _⟩ := ha.objs _ (Xh hi)
 obtain ⟨hu, hs⟩ := qP hT
 have hf : ∃ A c, v = .slice A ds.length c ∧ ds.length ≤ c ∧ (A = none ∨ ∃ g, A = some ⟨g, 0, none⟩) := by
  rcases h1.2 with ⟨e1, e2⟩ | ⟨g, c, cur, e1, _, _, e3, _⟩
  · exact ⟨none, 0, by rw [e1, e2], by omega, .inl rfl⟩
  · exact ⟨_, c, e1, e3, .inr ⟨g, rfl⟩⟩
 obtain ⟨A, c, rfl, hc, hA⟩ := hf
 refine ⟨cutV (.slice A ds.length c) k.toNat, ?_, iD (by unfold cutV; rfl)⟩
 unfold execOp
 have hr : (Instr.sliceAt T (.slice A ds.length c) none (some (.int .i64 k)) none).run Tryz.prog w = .ok (cutV (.slice A ds.length c) k.toNat) w := by
  rw [run_sliceAt_slice (P := Tryz.prog) w T _ _ _ _ hu, run_slice_h (P := Tryz.prog) w T A ds.length c hu .i64 k hk.1 (by omega), hs]
  rcases hA with rfl | ⟨g, rfl⟩
  · simp [sliced, cutV, Result.andThen]
  · simp [sliced, cutV, Result.andThen, eu]
 simp only [ho, hx', hy', YL, XW, WX, hr, WV, Xc]
theorem OE {A : Option Addr} {xs : List Value} (h : RdP ok w A xs) (m : Nat) : RdP ok w A (xs.take m) := fun hn => by
 obtain ⟨b, o, e, hb, hc⟩ := h (fun e => hn (by rw [e]; simp))
 refine ⟨b, o, e, hb, fun j u hu => hc j u ?_⟩
 rw [YH] at hu
 split at hu
 · exact hu
 · cases hu
theorem vU {z : Nat} (rows : List (List Value)) (h : ∀ r ∈ rows, r.length = z) : ∀ k, (rows.take k).flatten = rows.flatten.take (k * z) := by
 induction rows with
 | nil => intro k; simp
 | cons r rows ih =>
  intro k
  cases k with
  | zero => simp
  | succ k =>
   have hr := h r (by simp)
   rw [WH, Xv, Xv, ih (fun r hr => h r (by simp [hr])) k, X5, Yj, List.take_append, XT (by omega : r.length ≤ k * z + z)]
   congr 2
   omega
theorem Nl {z : Nat} (rows : List (List Value)) (h : ∀ r ∈ rows, r.length = z) : ∀ k, (rows.drop k).flatten = rows.flatten.drop (k * z) := by
 induction rows with
 | nil => intro k; simp
 | cons r rows ih =>
  intro k
  cases k with
  | zero => simp
  | succ k =>
   have hr := h r (by simp)
   rw [WG, Xv, ih (fun r hr => h r (by simp [hr])) k, X5, Yj, List.drop_append, List.drop_of_length_le (by omega : r.length ≤ k * z + z), WJ]
   congr 1
   omega
theorem TB {z c : Nat} {A : Option Addr} {ds : List D} {rows : List (List Value)} (h1 : ds.length ≤ c) (h2 : c ≤ maxLen) (h3 : A = none → ds.length = 0 ∧ c = 0) (h4 : RdP ok w A rows.flatten) (h5 : ay ok w z ds rows) : bW ok w (.sl z ds) (.slice A ds.length c) := (dn rfl).2 (by rw [Reads]; exact ⟨A, c, rows, rfl, h1, h2, h3, h4, h5⟩)
theorem UH {x y : Operand} {T e z b : Nat} {k : Int} {ds : List D} (ho : o.op = .slice T x none (some y) none) (hx : ev S x = some (.val (.sl z ds))) (hy : ev S y = some (.val (.v (.int .i64 k)))) (hT : assoc slL T = some (e, z, b)) (hk : 0 ≤ k ∧ k.toNat ≤ ds.length) : Still ops S o (.val (.sl z (ds.take k.toNat))) := fun base ok a w ha => by
 obtain ⟨A, c, rows, h1, h2, h3, h4, h5, h6⟩ := wH (ha.ev hx (bD (by rw [ho]; simp [Op.operands])))
 have hy' := gW ha hy (bD (by rw [ho]; simp [Op.operands]))
 obtain ⟨hu, hs⟩ := qP hT
 have hlen : (ds.take k.toNat).length = k.toNat := by rw [Xi]; omega
 refine ⟨.slice A k.toNat c, ?_, by
  have := TB (ok := ok) (w := w) (A := A) (c := c) (ds := ds.take k.toNat) (rows := rows.take k.toNat) (z := z) (by omega) h3 (fun e => by have := h4 e; omega) (by rw [vU rows (ay.lens ds rows h6).2]; exact OE h5 _) (ay.take ds rows k.toNat h6)
  rwa [hlen] at this⟩
 unfold execOp
 have hr : (Instr.sliceAt T (.slice A ds.length c) none (some (.int .i64 k)) none).run Tryz.prog w = .ok (.slice A k.toNat c) w := by
  rw [run_sliceAt_slice (P := Tryz.prog) w T _ _ _ _ hu, run_slice_h (P := Tryz.prog) w T A ds.length c hu .i64 k hk.1 (by omega), hs]
  cases A with
  | none => simp [sliced, Result.andThen]
  | some p =>
   have : p.add 0 = p := by cases p; simp [Addr.add]
   simp [sliced, Result.andThen, this]
 simp only [ho, h1, hy', YL, XW, WX, hr, WV, Xc]
theorem E5 {z : Nat} {A : Option Addr} {xs : List Value} {n c : Nat} (h : RdP ok w A xs) (hn : xs.length = n * z) (hc : n ≤ c) (k : Nat) (hk : k ≤ n) : RdP ok w (if c = k then A else A.map (·.add (k * z))) (xs.drop (k * z)) := fun hne => by
 have hlt : k * z < xs.length := by
  rcases Xx (k * z) xs.length with h1 | h1
  · exact h1
  · exact absurd (Xt h1) hne
 have hk' : k < n := by
  rcases Xx k n with h1 | h1
  · exact h1
  ·
   have := Ye z h1
   omega
 obtain ⟨b, o, rfl, hb, hcell⟩ := h (fun e => by rw [e] at hlt; simp at hlt)
 rw [if_neg (by omega)]
 refine ⟨b, o + k * z, by simp [eu], hb, fun j u hu => ?_⟩
 rw [Y0]
 exact hcell _ u (by rw [← hu, YG])
theorem Pg {x y : Operand} {T e z b : Nat} {k : Int} {ds : List D} (ho : o.op = .slice T x (some y) none none) (hx : ev S x = some (.val (.sl z ds))) (hy : ev S y = some (.val (.v (.int .i64 k)))) (hT : assoc slL T = some (e, z, b)) (hk : 0 ≤ k ∧ k.toNat ≤ ds.length) : Still ops S o (.val (.sl z (ds.drop k.toNat))) := fun base ok a w ha => by
 obtain ⟨A, c, rows, h1, h2, h3, h4, h5, h6⟩ := wH (ha.ev hx (bD (by rw [ho]; simp [Op.operands])))
 have hy' := gW ha hy (bD (by rw [ho]; simp [Op.operands]))
 obtain ⟨hu, hs⟩ := qP hT
 obtain ⟨hl1, hl2⟩ := ay.lens ds rows h6
 have hlen : (ds.drop k.toNat).length = ds.length - k.toNat := by rw [W9]
 refine ⟨.slice (if c = k.toNat then A else A.map (·.add (k.toNat * z))) (ds.length - k.toNat) (c - k.toNat), ?_, by
  have := TB (ok := ok) (w := w) (A := if c = k.toNat then A else A.map (·.add (k.toNat * z))) (c := c - k.toNat) (ds := ds.drop k.toNat) (rows := rows.drop k.toNat) (z := z) (by omega) (by omega) (fun e => by
   have : A = none := by
    split at e
    · exact e
    · simpa using e
   have := h4 this
   omega) (by rw [Nl rows hl2]; exact E5 h5 (by rw [kT rows hl2, hl1]) h2 _ hk.2) (ay.drop ds rows k.toNat h6)
  rwa [hlen] at this⟩
 unfold execOp
 have hr : (Instr.sliceAt T (.slice A ds.length c) (some (.int .i64 k)) none none).run Tryz.prog w = .ok (.slice (if c = k.toNat then A else A.map (·.add (k.toNat * z))) (ds.length - k.toNat) (c - k.toNat)) w := by
  rw [run_sliceAt_slice (P := Tryz.prog) w T _ _ _ _ hu, run_slice_l (P := Tryz.prog) w T A ds.length c hu .i64 k hk.1 (by omega), hs]
  rfl
 simp only [ho, h1, hy', YL, XW, WX, hr, WV, Xc]
theorem vW : ∀ (xs : List Operand) (vs : List Value), Gv S xs = some vs → (∀ t, .tmp t ∈ xs → L t) → Kn base ok L S a w → xs.map a.eval = vs
 | [], vs, h, _, _ => by cases h; rfl
 | x :: xs, vs, h, hL, ha => by
  rw [Gv] at h
  split at h
  ·
   rename_i v vs' h1 h2
   cases h
   rw [Xm, gW ha h1 fun t e => hL t (by simp [e]), vW xs vs' h2 (fun t ht => hL t (by simp [ht])) ha]
  · cases h
theorem Pq {f : FuncId} {caps : Array Operand} {xs : List Value} (ho : o.op = .makeFunc (.func f) #[] caps) (hx : Gv S caps.toList = some xs) : Still ops S o (.val (.v (.func (.func f) #[] xs.toArray))) := fun base ok a w ha => by
 have h1 := vW caps.toList xs hx (fun t ht => aU (x := .tmp t) rfl (by rw [ho]; simp [Op.operands]; simpa using ht)) ha
 refine ⟨_, ?_, iD rfl⟩
 unfold execOp
 have h2 : caps.map a.eval = xs.toArray := by
  apply Zc
  simpa using h1
 simp only [ho, h2, Instr.makeFunc, WX, Xc, WV, Yq, X3]
end
section
variable {N : Nat} {X : Cx N} {S S' : St} {a : Act} {w w' : World} {ops : Array Oper} {o : Oper} {Q : Exit → Act → World → Prop} {l : List Oper} {TT : St → List Fr → Prop} {EE : List Fr} {rs : List (Tmp × R)} {os : List Obj} {fs : List (Value × D)}
theorem kL {t ty : Nat} {pos : String} {af : Array Edge} {gd : Option (Nat × Bool)} {x : Operand} {p : Addr} (hx : ev (⟨rs, os, fs⟩ : St) x = some (.val (.v (.pointer (some p))))) (hg : guardOf ops ⟨rs, os, fs⟩ ⟨some t, .nilCheck x, ty, pos, af, gd⟩ = some true) (hN : Nat.blt t N = true) (kk : EL X ops Q l ⟨(t, (.val (.v (.pointer (some p))))) :: rs, os, fs⟩) : EL X ops Q (⟨some t, .nilCheck x, ty, pos, af, gd⟩ :: l) ⟨rs, os, fs⟩ := ES.still (JY rfl hx) hg rfl hN kk
theorem gQ {t ty : Nat} {pos : String} {af : Array Edge} {gd : Option (Nat × Bool)} {x : Operand} {p : Addr} (hx : ev (⟨rs, os, fs⟩ : St) x = some (.val (.v (.pointer (some p))))) (hg : guardOf ops ⟨rs, os, fs⟩ ⟨some t, .nilCheck x, ty, pos, af, gd⟩ = some true) (hoff : fM N (some t) EE = true) (kk : EM N ops TT l ⟨(t, (.val (.v (.pointer (some p))))) :: rs, os, fs⟩ EE) : EM N ops TT (⟨some t, .nilCheck x, ty, pos, af, gd⟩ :: l) ⟨rs, os, fs⟩ EE := EH.still (JY rfl hx) hg rfl hoff kk
theorem jL {t ty : Nat} {pos : String} {af : Array Edge} {gd : Option (Nat × Bool)} {x : Operand} {d : D} (hx : ev (⟨rs, os, fs⟩ : St) x = some (.val (.pd d))) (hg : guardOf ops ⟨rs, os, fs⟩ ⟨some t, .nilCheck x, ty, pos, af, gd⟩ = some true) (hN : Nat.blt t N = true) (kk : EL X ops Q l ⟨(t, (.val (.pd d))) :: rs, os, fs⟩) : EL X ops Q (⟨some t, .nilCheck x, ty, pos, af, gd⟩ :: l) ⟨rs, os, fs⟩ := ES.still (IY rfl hx) hg rfl hN kk
theorem iP {t ty : Nat} {pos : String} {af : Array Edge} {gd : Option (Nat × Bool)} {T : Nat} {x : Operand} {d : D} (hx : ev (⟨rs, os, fs⟩ : St) x = some (.val d)) (hT : cnL.contains T = true) (hg : guardOf ops ⟨rs, os, fs⟩ ⟨some t, .makeInterface T x, ty, pos, af, gd⟩ = some true) (hN : Nat.blt t N = true) (kk : EL X ops Q l ⟨(t, (.val (.ifc T d))) :: rs, os, fs⟩) : EL X ops Q (⟨some t, .makeInterface T x, ty, pos, af, gd⟩ :: l) ⟨rs, os, fs⟩ := ES.still (JZ rfl hx hT) hg rfl hN kk
theorem Eo {t ty : Nat} {pos : String} {af : Array Edge} {gd : Option (Nat × Bool)} {T : Nat} {x : Operand} {d : D} (hx : ev (⟨rs, os, fs⟩ : St) x = some (.val d)) (hT : cnL.contains T = true) (hg : guardOf ops ⟨rs, os, fs⟩ ⟨some t, .makeInterface T x, ty, pos, af, gd⟩ = some true) (hoff : fM N (some t) EE = true) (kk : EM N ops TT l ⟨(t, (.val (.ifc T d))) :: rs, os, fs⟩ EE) : EM N ops TT (⟨some t, .makeInterface T x, ty, pos, af, gd⟩ :: l) ⟨rs, os, fs⟩ EE := EH.still (JZ rfl hx hT) hg rfl hoff kk
theorem iC {t ty : Nat} {pos : String} {af : Array Edge} {gd : Option (Nat × Bool)} {x : Operand} {T : Nat} {U : TypeId} {d : D} (hx : ev (⟨rs, os, fs⟩ : St) x = some (.val (.ifc T d))) (hT : cnL.contains T = true) (hg : guardOf ops ⟨rs, os, fs⟩ ⟨some t, .typeAssert x U T true, ty, pos, af, gd⟩ = some true) (hN : Nat.blt t N = true) (kk : EL X ops Q l ⟨(t, (.tpl [d, .v (.bool true)])) :: rs, os, fs⟩) : EL X ops Q (⟨some t, .typeAssert x U T true, ty, pos, af, gd⟩ :: l) ⟨rs, os, fs⟩ := ES.still (RZ rfl hx hT) hg rfl hN kk
theorem ji {t ty : Nat} {pos : String} {af : Array Edge} {gd : Option (Nat × Bool)} {x : Operand} {T T1 : Nat} {U : TypeId} {d dz : D} (hx : ev (⟨rs, os, fs⟩ : St) x = some (.val (.ifc T1 d))) (hT : cnL.contains T = true) (hne : Nat.beq T1 T = false) (hz : assoc iy T = some dz) (hg : guardOf ops ⟨rs, os, fs⟩ ⟨some t, .typeAssert x U T true, ty, pos, af, gd⟩ = some true) (hN : Nat.blt t N = true) (kk : EL X ops Q l ⟨(t, (.tpl [dz, .v (.bool false)])) :: rs, os, fs⟩) : EL X ops Q (⟨some t, .typeAssert x U T true, ty, pos, af, gd⟩ :: l) ⟨rs, os, fs⟩ := ES.still (UK rfl hx hT hne hz) hg rfl hN kk
theorem xQ {t ty : Nat} {pos : String} {af : Array Edge} {gd : Option (Nat × Bool)} {x : Operand} {T : Nat} {U : TypeId} {dz : D} (hx : ev (⟨rs, os, fs⟩ : St) x = some (.val (.v .nilIface))) (hT : cnL.contains T = true) (hz : assoc iy T = some dz) (hg : guardOf ops ⟨rs, os, fs⟩ ⟨some t, .typeAssert x U T true, ty, pos, af, gd⟩ = some true) (hN : Nat.blt t N = true) (kk : EL X ops Q l ⟨(t, (.tpl [dz, .v (.bool false)])) :: rs, os, fs⟩) : EL X ops Q (⟨some t, .typeAssert x U T true, ty, pos, af, gd⟩ :: l) ⟨rs, os, fs⟩ := ES.still (Sj rfl hx hT hz) hg rfl hN kk
theorem zZ {t ty : Nat} {pos : String} {af : Array Edge} {gd : Option (Nat × Bool)} {x y : Operand} {T K n E g c i : Nat} {es : List Ent} {l1 : List UInt8} {dz d' : D} (hget : (dW es l1).getD dz = d') (hx : ev (⟨rs, os, fs⟩ : St) x = some (.val (.v (.map (some g))))) (hi : os[i]? = some (.map g n c es)) (hy : ev (⟨rs, os, fs⟩ : St) y = some (.val (.arr n l1))) (hT : assoc rX T = some (K, n, E)) (hz : assoc iy E = some dz) (hg : guardOf ops ⟨rs, os, fs⟩ ⟨some t, .lookup T x y false, ty, pos, af, gd⟩ = some true) (hN : Nat.blt t N = true) (kk : EL X ops Q l ⟨(t, (.val d')) :: rs, os, fs⟩) : EL X ops Q (⟨some t, .lookup T x y false, ty, pos, af, gd⟩ :: l) ⟨rs, os, fs⟩ := ES.still (FZ hget rfl hx i hi hy hT hz) hg rfl hN kk
theorem jX {t ty : Nat} {pos : String} {af : Array Edge} {gd : Option (Nat × Bool)} {x y : Operand} {T K n E g c i : Nat} {es : List Ent} {l1 : List UInt8} {dz d' : D} (hget : (dW es l1).getD dz = d') (hx : ev (⟨rs, os, fs⟩ : St) x = some (.val (.v (.map (some g))))) (hi : os[i]? = some (.map g n c es)) (hy : ev (⟨rs, os, fs⟩ : St) y = some (.val (.arr n l1))) (hT : assoc rX T = some (K, n, E)) (hz : assoc iy E = some dz) (hg : guardOf ops ⟨rs, os, fs⟩ ⟨some t, .lookup T x y false, ty, pos, af, gd⟩ = some true) (hoff : fM N (some t) EE = true) (kk : EM N ops TT l ⟨(t, (.val d')) :: rs, os, fs⟩ EE) : EM N ops TT (⟨some t, .lookup T x y false, ty, pos, af, gd⟩ :: l) ⟨rs, os, fs⟩ EE := EH.still (FZ hget rfl hx i hi hy hT hz) hg rfl hoff kk
theorem kH {t ty : Nat} {pos : String} {af : Array Edge} {gd : Option (Nat × Bool)} {x y : Operand} {T K n E g c i : Nat} {es : List Ent} {l1 : List UInt8} {dz d' : D} {b : Bool} (hget : (dW es l1).getD dz = d' ∧ (dW es l1).isSome = b) (hx : ev (⟨rs, os, fs⟩ : St) x = some (.val (.v (.map (some g))))) (hi : os[i]? = some (.map g n c es)) (hy : ev (⟨rs, os, fs⟩ : St) y = some (.val (.arr n l1))) (hT : assoc rX T = some (K, n, E)) (hz : assoc iy E = some dz) (hg : guardOf ops ⟨rs, os, fs⟩ ⟨some t, .lookup T x y true, ty, pos, af, gd⟩ = some true) (hoff : fM N (some t) EE = true) (kk : EM N ops TT l ⟨(t, (.tpl [d', .v (.bool b)])) :: rs, os, fs⟩ EE) : EM N ops TT (⟨some t, .lookup T x y true, ty, pos, af, gd⟩ :: l) ⟨rs, os, fs⟩ EE := EH.still (MZ hget rfl hx i hi hy hT hz) hg rfl hoff kk
theorem qX {t ty : Nat} {pos : String} {af : Array Edge} {gd : Option (Nat × Bool)} {x y : Operand} {T e z b i : Nat} {k : Int} {v : Value} {ds : List D} (hx : ev (⟨rs, os, fs⟩ : St) x = some (.val (.v v))) (hi : os[i]? = some (.row v e z ds)) (hy : ev (⟨rs, os, fs⟩ : St) y = some (.val (.v (.int .i64 k)))) (hT : assoc slL T = some (e, z, b)) (hk : 0 ≤ k ∧ k.toNat < ds.length) (hg : guardOf ops ⟨rs, os, fs⟩ ⟨some t, .indexAddr T x y, ty, pos, af, gd⟩ = some true) (hN : Nat.blt t N = true) (kk : EL X ops Q l ⟨(t, (.val (.v (jq v (k.toNat * z))))) :: rs, os, fs⟩) : EL X ops Q (⟨some t, .indexAddr T x y, ty, pos, af, gd⟩ :: l) ⟨rs, os, fs⟩ := ES.still (Pj rfl hx i hi hy hT hk) hg rfl hN kk
theorem oJ {t ty : Nat} {pos : String} {af : Array Edge} {gd : Option (Nat × Bool)} {x : Operand} {T sz e z i n k off : Nat} {ag : Bool} {v : Value} {ds : List D} {d d' : D} (hx : ev (⟨rs, os, fs⟩ : St) x = some (.val (.v (jq v n)))) (hi : os[i]? = some (.row v e z ds)) (hk : n = k * z + off ∧ ds[k]? = some d) (hT : assoc tyL T = some (sz, ag)) (hs : d.sub off sz ag = some d') (hg : guardOf ops ⟨rs, os, fs⟩ ⟨some t, .load T x, ty, pos, af, gd⟩ = some true) (hN : Nat.blt t N = true) (kk : EL X ops Q l ⟨(t, (.val d')) :: rs, os, fs⟩) : EL X ops Q (⟨some t, .load T x, ty, pos, af, gd⟩ :: l) ⟨rs, os, fs⟩ := ES.still (MX hk rfl hx i hi hT hs) hg rfl hN kk
theorem GX {t ty : Nat} {pos : String} {af : Array Edge} {gd : Option (Nat × Bool)} {x y : Operand} {T e z b i : Nat} {k : Int} {v : Value} {ds : List D} (hx : ev (⟨rs, os, fs⟩ : St) x = some (.val (.v v))) (hi : os[i]? = some (.row v e z ds)) (hy : ev (⟨rs, os, fs⟩ : St) y = some (.val (.v (.int .i64 k)))) (hT : assoc slL T = some (e, z, b)) (hk : 0 ≤ k ∧ k.toNat ≤ ds.length) (hg : guardOf ops ⟨rs, os, fs⟩ ⟨some t, .slice T x none (some y) none, ty, pos, af, gd⟩ = some true) (hN : Nat.blt t N = true) (kk : EL X ops Q l ⟨(t, (.val (.v (cutV v k.toNat)))) :: rs, os, fs⟩) : EL X ops Q (⟨some t, .slice T x none (some y) none, ty, pos, af, gd⟩ :: l) ⟨rs, os, fs⟩ := ES.still (Pm rfl hx i hi hy hT hk) hg rfl hN kk
theorem QI {t ty : Nat} {pos : String} {af : Array Edge} {gd : Option (Nat × Bool)} {x y : Operand} {T e z b : Nat} {k : Int} {ds : List D} (hx : ev (⟨rs, os, fs⟩ : St) x = some (.val (.sl z ds))) (hy : ev (⟨rs, os, fs⟩ : St) y = some (.val (.v (.int .i64 k)))) (hT : assoc slL T = some (e, z, b)) (hk : 0 ≤ k ∧ k.toNat ≤ ds.length) (hg : guardOf ops ⟨rs, os, fs⟩ ⟨some t, .slice T x none (some y) none, ty, pos, af, gd⟩ = some true) (hoff : fM N (some t) EE = true) (kk : EM N ops TT l ⟨(t, (.val (.sl z (ds.take k.toNat)))) :: rs, os, fs⟩ EE) : EM N ops TT (⟨some t, .slice T x none (some y) none, ty, pos, af, gd⟩ :: l) ⟨rs, os, fs⟩ EE := EH.still (UH rfl hx hy hT hk) hg rfl hoff kk
theorem GV {t ty : Nat} {pos : String} {af : Array Edge} {gd : Option (Nat × Bool)} {x y : Operand} {T e z b : Nat} {k : Int} {ds : List D} (hx : ev (⟨rs, os, fs⟩ : St) x = some (.val (.sl z ds))) (hy : ev (⟨rs, os, fs⟩ : St) y = some (.val (.v (.int .i64 k)))) (hT : assoc slL T = some (e, z, b)) (hk : 0 ≤ k ∧ k.toNat ≤ ds.length) (hg : guardOf ops ⟨rs, os, fs⟩ ⟨some t, .slice T x (some y) none none, ty, pos, af, gd⟩ = some true) (hN : Nat.blt t N = true) (kk : EL X ops Q l ⟨(t, (.val (.sl z (ds.drop k.toNat)))) :: rs, os, fs⟩) : EL X ops Q (⟨some t, .slice T x (some y) none none, ty, pos, af, gd⟩ :: l) ⟨rs, os, fs⟩ := ES.still (Pg rfl hx hy hT hk) hg rfl hN kk
theorem uU {t ty : Nat} {pos : String} {af : Array Edge} {gd : Option (Nat × Bool)} {f : FuncId} {caps : Array Operand} {xs : List Value} (hx : Gv (⟨rs, os, fs⟩ : St) caps.toList = some xs) (hg : guardOf ops ⟨rs, os, fs⟩ ⟨some t, .makeFunc (.func f) #[] caps, ty, pos, af, gd⟩ = some true) (hN : Nat.blt t N = true) (kk : EL X ops Q l ⟨(t, (.val (.v (.func (.func f) #[] xs.toArray)))) :: rs, os, fs⟩) : EL X ops Q (⟨some t, .makeFunc (.func f) #[] caps, ty, pos, af, gd⟩ :: l) ⟨rs, os, fs⟩ := ES.still (Pq rfl hx) hg rfl hN kk
end
section
variable {N : Nat} {X : Cx N} {S S' : St} {a : Act} {w w' : World} {ops : Array Oper} {o : Oper} {Q : Exit → Act → World → Prop} {l : List Oper} {TT : St → List Fr → Prop} {EE : List Fr} {rs : List (Tmp × R)} {os os' rest : List Obj} {fs : List (Value × D)} {base ok : Nat → Prop} {p q : Obj}
theorem EL.put (i : Nat) (hg : guardOf ops S o = some true) (hd : o.dst = none) (hP : Puts ops S o p q) (hi : S.objs[i]? = some p) (k : EL X ops Q l ⟨S.regs, S.objs.set i q, S.facts⟩) : EL X ops Q (o :: l) S := by
 constructor
 intro a w ha
 obtain ⟨hq, hP⟩ := hP
 have hmem := Xh hi
 obtain ⟨w', g, h1, h2, h3, h4⟩ := hP _ _ a w (ha.kn _) (fun g hb hk => hk.2.2 p hmem hb) (ha.mem.at_ p hmem)
 unfold wpList
 rw [if_pos (gX ha hg)]
 refine .inl ?_
 unfold Oper.wp
 rw [h1]
 simp only [Oper.upon_skip, hd, Act.put]
 exact k.go _ _ (ha.turn hi (by rw [h2]; exact h3) (.inl hq) fun hok hcell => h4.move hok (fun _ _ => rfl) fun _ _ => rfl)
theorem kR (hP : Puts ops S o p q) : wB ops S o [p] (fun r os' => r = .any ∧ os' = [q]) := .mk fun base ok a w ha hown => by
 obtain ⟨hq, hP⟩ := hP
 obtain ⟨w', g, h1, h2, h3, h4⟩ := hP (fun _ => True) ok a w ⟨fun o ho => (ha.objs o ho).ku fun _ _ => trivial, ha.facts, ha.lt, ha.regs⟩ (fun g hb => hown.off g ⟨p, by simp, hb⟩) (hown.at_ p (by simp))
 rw [h1]
 have hB : ∀ b, oO [p] b ↔ b = g := fun b => ⟨fun ⟨o, ho, e⟩ => by
  obtain rfl : o = p := by simpa using ho
  rw [h2] at e
  injection e with e
  exact e.symm, fun e => ⟨p, by simp, by rw [e]; exact h2⟩⟩
 refine ⟨.any, [q], ⟨rfl, rfl⟩, ⟨⟨h3.os, h3.tape, h3.output, h3.size, fun k hk hn => h3.block k hk fun e => hn ((hB k).2 (by injection e))⟩, by simp, fun o ho => ?_⟩, trivial⟩
 obtain rfl : o = q := by simpa using ho
 refine (h4.move (fun b hb => ⟨.inl hb, Xd (ha.lt b hb) h3.size, fun o' ho' e => ?_⟩) (fun _ _ => rfl) fun _ _ => rfl).ku fun b e => .inl ⟨p, by simp, by rw [← hq]; exact e⟩
 obtain rfl : o' = o := by simpa using ho'
 exact hown.off b ⟨p, by simp, by rw [← hq]; exact e⟩ hb
theorem yQ {T K n E g c : Nat} {x y z : Operand} {es : List Ent} {l1 : List UInt8} {d : D} (ho : o.op = .mapUpdate T x y z) (hx : ev S x = some (.val (.v (.map (some g))))) (hy : ev S y = some (.val (.arr n l1))) (hz : ev S z = some (.val d)) (hT : assoc rX T = some (K, n, E)) : Puts ops S o (.map g n c es) (.map g n (iR c es l1) (iQ c es l1 d)) := by
 refine ⟨rfl, fun base ok a w ha hno hat => ?_⟩
 have h1 := gW ha hx (bD (by rw [ho]; simp [Op.operands]))
 obtain ⟨h2, h3⟩ := pJ (ha.ev hy (bD (by rw [ho]; simp [Op.operands])))
 obtain ⟨w', h4, h5, h6⟩ := Ai (zf hT).1 (zf hT).2 hat l1 h2 (ha.ev hz (bD (by rw [ho]; simp [Op.operands]))) (hno g rfl)
 refine ⟨w', g, ?_, rfl, h5, h6⟩
 unfold execOp
 simp only [ho, h1, h3, WX, h4, WV, Xc]
theorem Dx {T e z n k off : Nat} {x y : Operand} {v : Value} {ds : List D} {d d' d'' : D} (hk : n = k * z + off ∧ ds[k]? = some d) (ho : o.op = .store T x y) (hx : ev S x = some (.val (.v (jq v n)))) (hy : ev S y = some (.val d')) (hT : assoc tyL T = some (d'.size, d'.agg)) (hu : d.upd off d' = some d'') : Puts ops S o (.row v e z ds) (.row v e z (ds.set k d'')) := by
 refine ⟨rfl, fun base ok a w ha hno hat => ?_⟩
 have hx' := gW ha hx (bD (by rw [ho]; simp [Op.operands]))
 obtain ⟨cs', h1, h2⟩ := ha.ev hy (bD (by rw [ho]; simp [Op.operands]))
 have hk' := (Xf.1 hk.2).1
 obtain ⟨g, c, cur, rows, H⟩ := row_in hat (by omega)
 obtain ⟨r, A, B, g1, g2, g3, g4, g5, g6⟩ := H.elem hk.2
 obtain ⟨e1, e2, pre, mid, post, rfl, h5, h6, h7⟩ := nR d off d' d'' r cs' hu g3 h1
 obtain ⟨_, _, _, hT'⟩ := tyI hT
 have hh : w.heap[g]? = some (.cells ((A ++ pre) ++ mid ++ (post ++ B)).toArray e (0, 0)) := by
  have := H.heap
  rw [show cur = (A ++ (pre ++ mid ++ post) ++ B).toArray by rw [← g4]] at this
  rw [this]
  simp
 have hrun := mJ (T := T) (by rw [hT', Reads.len _ _ h1]) h1 hh (by rw [List.length_append, g5, h5, ← hk.1]) h6
 have hg := eY g cs' n w
 have hnew := iJ cs' (A ++ pre) mid (post ++ B) w h6 hh
 rw [List.length_append, g5, h5, ← hk.1] at hnew
 have hcell : ∀ q : Addr, ok q.block → (w.setCells g n cs').cell? q = w.cell? q := fun q hq => World.cell?_of_block (hg.block _ (ha.lt _ hq) fun e => hno g (by rw [H.val]; rfl) (by injection e with e; rw [← e]; exact hq))
 have hlen : (pre ++ cs' ++ post).length = z := by
  simp only [List.length_append] at g2 ⊢
  omega
 have hrows := ay.set ds rows k d'' (pre ++ cs' ++ post) H.rows h7 hlen
 have hrows' := ay.mono (fun _ h => h) hcell z _ _ hrows
 refine ⟨w.setCells g n cs', g, ?_, by rw [H.val]; rfl, hg, zX.at (g := g) (c := c) (cur := ((A ++ pre) ++ cs' ++ (post ++ B)).toArray) (rows := rows.set k (pre ++ cs' ++ post)) ⟨by rw [Yh]; exact H.val, hnew, ?_, ?_, by rw [Yh]; exact H.le, H.max, hrows', H.mine⟩⟩
 ·
  have ep : jq v n = .pointer (some ⟨g, n, none⟩) := by rw [H.val]; simp [jq]
  unfold execOp
  simp only [ho, hx', ep, h2, WX, hrun, WV, Xc]
 ·
  rw [Yh, ← g6 _ hlen]
  simp
 ·
  have := congrArg List.length g4
  rw [Yy, H.size] at this
  simp only [Yx, List.length_append] at this ⊢
  omega
theorem QF {T K n E g c ty : Nat} {pos : String} {af : Array Edge} {gd : Option (Nat × Bool)} {x y z : Operand} {es : List Ent} {l1 : List UInt8} {d : D} (hx : ev (⟨rs, os, fs⟩ : St) x = some (.val (.v (.map (some g))))) (hset : qc os (.map g n c es) (.map g n (iR c es l1) (iQ c es l1 d)) os') (hy : ev (⟨rs, os, fs⟩ : St) y = some (.val (.arr n l1))) (hz : ev (⟨rs, os, fs⟩ : St) z = some (.val d)) (hT : assoc rX T = some (K, n, E)) (hg : guardOf ops ⟨rs, os, fs⟩ ⟨none, .mapUpdate T x y z, ty, pos, af, gd⟩ = some true) (kk : EL X ops Q l ⟨rs, os', fs⟩) : EL X ops Q (⟨none, .mapUpdate T x y z, ty, pos, af, gd⟩ :: l) ⟨rs, os, fs⟩ := by
 obtain ⟨i, hi, rfl⟩ := hset.ix
 exact EL.put i hg rfl (yQ rfl hx hy hz hT) hi kk
theorem Jp {T e z n k off ty : Nat} {pos : String} {af : Array Edge} {gd : Option (Nat × Bool)} {x y : Operand} {v : Value} {ds : List D} {d d' d'' : D} (hx : ev (⟨rs, os, fs⟩ : St) x = some (.val (.v (jq v n)))) (hset : qc os (.row v e z ds) (.row v e z (ds.set k d'')) os') (hk : n = k * z + off ∧ ds[k]? = some d) (hy : ev (⟨rs, os, fs⟩ : St) y = some (.val d')) (hT : assoc tyL T = some (d'.size, d'.agg)) (hu : d.upd off d' = some d'') (hg : guardOf ops ⟨rs, os, fs⟩ ⟨none, .store T x y, ty, pos, af, gd⟩ = some true) (kk : EL X ops Q l ⟨rs, os', fs⟩) : EL X ops Q (⟨none, .store T x y, ty, pos, af, gd⟩ :: l) ⟨rs, os, fs⟩ := by
 obtain ⟨i, hi, rfl⟩ := hset.ix
 exact EL.put i hg rfl (Dx hk rfl hx hy hT hu) hi kk
theorem EL.del {T K n E g c : Nat} {U : TypeId} {x y : Operand} {es : List Ent} {l1 : List UInt8} (i : Nat) (ho : o.op = .call { callee := .builtin .delete, args := #[x, y], argTypes := #[T, U] }) (hg : guardOf ops S o = some true) (hd : o.dst = none) (hx : ev S x = some (.val (.v (.map (some g))))) (hi : S.objs[i]? = some (.map g n c es)) (hy : ev S y = some (.val (.arr n l1))) (hT : assoc rX T = some (K, n, E)) (k : EL X ops Q l ⟨S.regs, S.objs.set i (.map g n c (kG es l1)), S.facts⟩) : EL X ops Q (o :: l) S := by
 constructor
 intro a w ha
 have hk := ha.kn fun t => t ∈ o.looksAt ops
 have h1 := gW hk hx (bD (by rw [ho]; simp [Op.operands, Call.operands]))
 obtain ⟨h2, h3⟩ := pJ (hk.ev hy (bD (by rw [ho]; simp [Op.operands, Call.operands])))
 have hmem := Xh hi
 obtain ⟨w', h4, h5, h6⟩ := H9 (U := U) o.type (zf hT).1 (zf hT).2 (ha.mem.at_ _ hmem) l1 h2 (fun hk => hk.2.2 _ hmem rfl)
 unfold wpList
 rw [if_pos (gX ha hg)]
 refine .inl ?_
 unfold Oper.wp execOp
 simp only [ho, resolve, invoke, builtin, WX, Xc, WV, Yq, Xm, X3, h1, h3, h4]
 simp only [Oper.upon_value, hd, Act.put]
 exact k.go _ _ (ha.turn hi h5 (.inl rfl) fun hok hcell => h6.move hok (fun _ _ => rfl) fun _ _ => rfl)
theorem Ac {T K n E g c ty : Nat} {U : TypeId} {pos : String} {af : Array Edge} {gd : Option (Nat × Bool)} {x y : Operand} {es : List Ent} {l1 : List UInt8} (hx : ev (⟨rs, os, fs⟩ : St) x = some (.val (.v (.map (some g))))) (hset : qc os (.map g n c es) (.map g n c (kG es l1)) os') (hy : ev (⟨rs, os, fs⟩ : St) y = some (.val (.arr n l1))) (hT : assoc rX T = some (K, n, E)) (hg : guardOf ops ⟨rs, os, fs⟩ ⟨none, .call { callee := .builtin .delete, args := #[x, y], argTypes := #[T, U] }, ty, pos, af, gd⟩ = some true) (kk : EL X ops Q l ⟨rs, os', fs⟩) : EL X ops Q (⟨none, .call { callee := .builtin .delete, args := #[x, y], argTypes := #[T, U] }, ty, pos, af, gd⟩ :: l) ⟨rs, os, fs⟩ := by
 obtain ⟨i, hi, rfl⟩ := hset.ix
 exact EL.del i rfl hg rfl hx hi hy hT kk
theorem OX {q : Obj} {r : R} {ob : Go.Obj} {v : Value} (hb : q.blk = some w.heap.size) (hat : ∀ ok' : Nat → Prop, (∀ b, ok b → ok' b) → q.At (fun b => oO [] b ∨ w.heap.size ≤ b) ok' (w.alloc ob)) (hr : ∀ ok', bU ok' (w.alloc ob) r v) (hlt : ∀ b, ok b → b < w.heap.size) : Turned ok [] w [q] (w.alloc ob) ∧ bU (okM ok [] w [q] (w.alloc ob)) (w.alloc ob) r v := by
 have hg := au w ob
 refine ⟨⟨.of hg, by simp, fun o ho => ?_⟩, hr _⟩
 obtain rfl : o = q := by simpa using ho
 refine hat _ fun b hk => ⟨.inl hk, Xd (hlt b hk) hg.size, fun o' ho' e => ?_⟩
 obtain rfl : o' = o := by simpa using ho'
 rw [hb] at e
 injection e with e
 have := hlt b hk
 omega
theorem MB {T K n E : Nat} (ho : o.op = .makeMap T none) (hT : assoc rX T = some (K, n, E)) : wB ops S o [] (fun r os' => ∃ g, r = .val (.v (.map (some g))) ∧ os' = [.map g n 0 []]) := .mk fun base ok a w ha hown => by
 have hr : (execOp a.eval o).run Tryz.prog w = .ok (.value (.map (some w.heap.size))) (w.alloc (.map #[] 0)) := by
  unfold execOp
  have := @run_makeMap Tryz.prog
  simp [ho, this]
 rw [hr]
 obtain ⟨h1, h2⟩ := OX (ok := ok) (w := w) (q := .map w.heap.size n 0 []) (r := .val (.v (.map (some w.heap.size)))) (ob := .map #[] 0) (v := .map (some w.heap.size)) rfl (fun ok' _ => ⟨.inr (Nat.le_refl _), qZ.nil, #[], heap_alloc_new w _, .nil⟩) (fun _ => iD rfl) ha.lt
 exact ⟨_, _, ⟨_, rfl, rfl⟩, h1, h2⟩
theorem CV {t T K n E ty : Nat} {pos : String} {af : Array Edge} {gd : Option (Nat × Bool)} (hT : assoc rX T = some (K, n, E)) (hg : guardOf ops ⟨rs, os, fs⟩ ⟨some t, .makeMap T none, ty, pos, af, gd⟩ = some true) (hN : Nat.blt t N = true) (kk : ∀ g, EL X ops Q l ⟨(t, .val (.v (.map (some g)))) :: rs, .map g n 0 [] :: os, fs⟩) : EL X ops Q (⟨some t, .makeMap T none, ty, pos, af, gd⟩ :: l) ⟨rs, os, fs⟩ :=
 EL.mut (os := []) (rest := os) hg (jf rfl hN) (MB rfl hT) fun r os' ⟨g, h1, h2⟩ => by
  subst h1 h2
  exact kk g
theorem dD {t ty f : Nat} {pos : String} {af : Array Edge} {gd : Option (Nat × Bool)} {args : Array Operand} {tys : Array TypeId} {ds ds' : List D} {os0 : List Obj} {Φ : R → List Obj → Prop} (hF : FnM f ds' os Φ) (hos : os0 = os ++ rest) (hx : evs (⟨rs, rest, fs⟩ : St) args.toList = some ds) (hR : aj fs ds ds') (hf : Enters f) (hg : guardOf ops ⟨rs, os ++ rest, fs⟩ ⟨some t, .call { callee := .value (.func f), args := args, argTypes := tys }, ty, pos, af, gd⟩ = some true) (hN : Nat.blt t N = true) (kk : ∀ r os', Φ r os' → EL X ops Q l ⟨(t, r) :: rs, os' ++ rest, fs⟩) : EL X ops Q (⟨some t, .call { callee := .value (.func f), args := args, argTypes := tys }, ty, pos, af, gd⟩ :: l) ⟨rs, os0, fs⟩ := by
 subst hos
 refine EL.mut (Φ := Φ) hg (jf rfl hN) ?_ kk
 exact Un (S := ⟨rs, rest, fs⟩) hF rfl hx hR hf
theorem GY {t ty f : Nat} {pos : String} {af : Array Edge} {gd : Option (Nat × Bool)} {args : Array Operand} {tys : Array TypeId} {ds ds' : List D} {os0 os1 : List Obj} {r1 : R} (hF : FnM f ds' os (fun r os' => r = r1 ∧ os' = os1)) (hos : os0 = os ++ rest) (hx : evs (⟨rs, rest, fs⟩ : St) args.toList = some ds) (hR : aj fs ds ds') (hf : Enters f) (hg : guardOf ops ⟨rs, os ++ rest, fs⟩ ⟨some t, .call { callee := .value (.func f), args := args, argTypes := tys }, ty, pos, af, gd⟩ = some true) (hN : Nat.blt t N = true) (kk : EL X ops Q l ⟨(t, r1) :: rs, os1 ++ rest, fs⟩) : EL X ops Q (⟨some t, .call { callee := .value (.func f), args := args, argTypes := tys }, ty, pos, af, gd⟩ :: l) ⟨rs, os0, fs⟩ :=
 dD hF hos hx hR hf hg hN fun r os' ⟨h1, h2⟩ => by
  subst h1 h2
  exact kk
theorem KU {t f : Nat} {args : Array Operand} {tys : Array TypeId} {caps : List Value} (ho : o.op = .call { callee := .value (.tmp t), args := args, argTypes := tys }) (ht : a.eval (.tmp t) = .func (.func f) #[] caps.toArray) (hf : Enters f) : (execOp a.eval o).run Tryz.prog w = .ok (.enter f (args.map a.eval ++ caps.toArray)) w := by
 unfold execOp
 simp [ho, resolve, ht, Deferred.ofValue, invoke, hf (args.map a.eval ++ caps.toArray) w]
theorem DL {t : Tmp} {args : Array Operand} {tys : Array TypeId} (ho : o.op = .call { callee := .value (.tmp t), args := args, argTypes := tys }) : ∀ u, Operand.tmp t = .tmp u → u ∈ o.looksAt ops := bD (by rw [ho]; simp [Op.operands, Call.operands])
theorem sF : ∀ (ds es : List D) (xs ys : List Value), fH ok w ds xs → fH ok w es ys → fH ok w (ds ++ es) (xs ++ ys)
 | [], es, xs, ys, h, h' => by cases h; exact h'
 | d :: ds, es, xs, ys, h, h' => by
  obtain ⟨x, rest, rfl, h1, h2⟩ := h
  exact ⟨x, _, rfl, h1, sF ds es rest ys h2 h'⟩
theorem Rx {t f : Nat} {args : Array Operand} {tys : Array TypeId} {caps : List Value} {ds ds' cds : List D} {Φ : R → List Obj → Prop} (hF : FnM f (ds' ++ cds) os Φ) (hc : ∀ base ok L (a : Act) w, Kn base ok L S a w → fH ok w cds caps) (ho : o.op = .call { callee := .value (.tmp t), args := args, argTypes := tys }) (ht : look S.regs t = some (.val (.v (.func (.func f) #[] caps.toArray)))) (hx : evs S args.toList = some ds) (hR : aj S.facts ds ds') (hf : Enters f) : wB ops S o os Φ := .mk fun base ok a w ha hown => by
 have h1 : a.eval (.tmp t) = .func (.func f) #[] caps.toArray := gW ha (x := .tmp t) ht (DL ho)
 have hr := aj.yN ha.facts _ _ _ hR (ha.evs _ _ hx fun u hu => aU (x := .tmp u) rfl (by rw [ho]; simp only [Op.operands, Call.operands]; simp; right; simpa using hu))
 rw [KU ho h1 hf]
 have := hF.go ok w _ ha.lt hown (sF _ _ _ _ hr (hc _ _ _ a w ha))
 have he : (args.toList.map a.eval ++ caps).toArray = args.map a.eval ++ caps.toArray := by
  apply Zc
  simp
 rw [he] at this
 simp only [iW]
 refine this.mono ?_
 rintro e w' ⟨v, r, os', rfl, h1, h2, h3⟩
 exact ⟨v, rfl, r, os', h1, h2, h3⟩
theorem oL {t u ty f : Nat} {pos : String} {af : Array Edge} {gd : Option (Nat × Bool)} {args : Array Operand} {tys : Array TypeId} {caps : List Value} {ds ds' cds : List D} {os0 : List Obj} {Φ : R → List Obj → Prop} (hF : FnM f (ds' ++ cds) os Φ) (hc : ∀ base ok L (a : Act) w, Kn base ok L ⟨rs, rest, fs⟩ a w → fH ok w cds caps) (hos : os0 = os ++ rest) (ht : look rs u = some (.val (.v (.func (.func f) #[] caps.toArray)))) (hx : evs (⟨rs, rest, fs⟩ : St) args.toList = some ds) (hR : aj fs ds ds') (hf : Enters f) (hg : guardOf ops ⟨rs, os ++ rest, fs⟩ ⟨some t, .call { callee := .value (.tmp u), args := args, argTypes := tys }, ty, pos, af, gd⟩ = some true) (hN : Nat.blt t N = true) (kk : ∀ r os', Φ r os' → EL X ops Q l ⟨(t, r) :: rs, os' ++ rest, fs⟩) : EL X ops Q (⟨some t, .call { callee := .value (.tmp u), args := args, argTypes := tys }, ty, pos, af, gd⟩ :: l) ⟨rs, os0, fs⟩ := by
 subst hos
 exact EL.mut hg (jf rfl hN) (Rx hF hc rfl ht hx hR hf) kk
theorem Jk {caps : List Value} (h : ∀ x ∈ caps, x.oneCell' = true) : fH ok w (caps.map .v) caps := by
 induction caps with
 | nil => rfl
 | cons x xs ih => exact ⟨x, xs, rfl, iD (h x (by simp)), ih fun y hy => h y (by simp [hy])⟩
theorem Gy (v : Value) (k : Nat) : (cutV v k).ownBlock = v.ownBlock := by
 unfold cutV
 split
 ·
  rename_i A n c
  cases A <;> rfl
 · rfl
theorem Le.P9 {e z k : Nat} {v : Value} {ds : List D} (hk : k ≤ ds.length) (hset : qc os (.row v e z ds) (.row (cutV v k) e z (ds.take k)) os') : Le X ⟨rs, os, fs⟩ ⟨rs, os', fs⟩ := by
 obtain ⟨i, hi, rfl⟩ := hset.ix
 intro a w ha
 refine ha.turn hi (World.grownBy.refl w _) (.inl ?_) fun hok hcell => ?_
 · exact Gy v k
 ·
  have hat := (ha.mem.at_ _ (Xh hi)).move hok (fun _ _ => rfl) fun _ _ => rfl
  obtain ⟨rows, ⟨h1, h2⟩, h3⟩ := hat
  obtain ⟨hl1, hl2⟩ := ay.lens ds rows h3
  have hlen : (ds.take k).length = k := by rw [Xi]; omega
  have hb := Gy v k
  refine ⟨rows.take k, ⟨⟨?_, ?_⟩, fun b hb' => h2 b (by rw [← hb]; exact hb')⟩, ay.take ds rows k h3⟩
  ·
   rw [vU rows hl2, Xi, kT rows hl2, hl1, hlen]
   exact Y3 (Ye z hk)
  ·
   rcases h1.2 with ⟨e1, e2⟩ | ⟨g, c, cur, e1, e2, e3, e4, e5, e6, e7⟩
   ·
    refine .inl ⟨?_, by omega⟩
    rw [e1]
    have : k = 0 := by omega
    subst this
    rfl
   ·
    refine .inr ⟨g, c, cur, by rw [e1, hlen]; rfl, e2, e3, by omega, e5, e6, ?_⟩
    rw [vU rows hl2, ← e7, hlen, List.take_take, Y3 (Ye z hk)]
theorem Wq {T : Nat} (h : Uh.contains T = true) : ∃ e, Tryz.prog.underlying T = some (.pointer e) := by
 have := Xk.1 Ri T (by simpa using h)
 unfold Vy at this
 split at this
 ·
  rename_i e he
  exact ⟨e, he⟩
 · cases this
end
end E
end Go.Proofs.YtelbhdobjdnglaaGreat
namespace Go.Proofs.YtelbhdobjdnglaaGreat
set_option linter.unusedVariables false
namespace Wd
open Rlp
def le (B : Nat) : List Nat → Nat
 | [] => 0
 | d :: ds => d + B * le B ds
end Wd
end Go.Proofs.YtelbhdobjdnglaaGreat
namespace Go.Proofs.YtelbhdobjdnglaaGreat
set_option linter.unusedVariables false
open Go.RowKit Mono Rlp
namespace E
section
variable {N : Nat} {X : Cx N} {S S' : St} {a : Act} {w w' : World} {ops : Array Oper} {o : Oper} {Q : Exit → Act → World → Prop} {K : Act → World → Prop} {l : List Oper} {c : Code} {TT : St → List Fr → Prop} {EE : List Fr} {rs : List (Tmp × R)} {os os' rest : List Obj} {fs : List (Value × D)} {base ok : Nat → Prop}
theorem EK.round {n : Nat} (h : EC X (Exit.then (Code.rounds Tryz.prog c Q n) Q) c S) : EK X (Code.rounds Tryz.prog c Q (n + 1)) S := ⟨fun a w ha => h.go a w ha⟩
theorem TG {f : FuncId} {args : Array Operand} {tys : Array TypeId} {xs vs : List Value} (hrun : ∀ w, (callFunc f xs.toArray).run Tryz.prog w = .ok (.value (.tuple vs.toArray)) w) (hvs : ∀ x ∈ vs, x.oneCell' = true) (ho : o.op = .call { callee := .value (.func f), args := args, argTypes := tys }) (hx : Gv S args.toList = some xs) : Still ops S o (.tpl (vs.map .v)) := fun base ok a w ha => by
 have h1 := vW args.toList xs hx (fun t ht => aU (x := .tmp t) rfl (by rw [ho]; simp only [Op.operands, Call.operands]; simp; simpa using ht)) ha
 have h2 : args.map a.eval = xs.toArray := by
  apply Zc
  simpa using h1
 refine ⟨.tuple vs.toArray, ?_, vs, rfl, Jk hvs⟩
 unfold execOp
 simp [ho, resolve, Act.eval, Deferred.ofValue, invoke, h2, hrun]
theorem ES.ext {t : Tmp} {f : FuncId} {args : Array Operand} {tys : Array TypeId} {xs vs : List Value} (hrun : ∀ w, (callFunc f xs.toArray).run Tryz.prog w = .ok (.value (.tuple vs.toArray)) w) (hvs : ∀ x ∈ vs, x.oneCell' = true) (ho : o.op = .call { callee := .value (.func f), args := args, argTypes := tys }) (hx : Gv (⟨rs, os, fs⟩ : St) args.toList = some xs) (hg : guardOf ops ⟨rs, os, fs⟩ o = some true) (hd : o.dst = some t) (hN : Nat.blt t N = true) (k : EL X ops Q l ⟨(t, .tpl (vs.map .v)) :: rs, os, fs⟩) : EL X ops Q (o :: l) ⟨rs, os, fs⟩ := ES.still (TG hrun hvs ho hx) hg hd hN k
theorem EH.ext {t : Tmp} {f : FuncId} {args : Array Operand} {tys : Array TypeId} {xs vs : List Value} (hrun : ∀ w, (callFunc f xs.toArray).run Tryz.prog w = .ok (.value (.tuple vs.toArray)) w) (hvs : ∀ x ∈ vs, x.oneCell' = true) (ho : o.op = .call { callee := .value (.func f), args := args, argTypes := tys }) (hx : Gv (⟨rs, os, fs⟩ : St) args.toList = some xs) (hg : guardOf ops ⟨rs, os, fs⟩ o = some true) (ht : o.dst = some t) (hd : fM N (some t) EE = true) (k : EM N ops TT l ⟨(t, .tpl (vs.map .v)) :: rs, os, fs⟩ EE) : EM N ops TT (o :: l) ⟨rs, os, fs⟩ EE := EH.still (TG hrun hvs ho hx) hg ht hd k
theorem Qm {op : BinOp} {T : TypeId} {k k' : IntKind} {m n : Int} {c : Value} (hc : c.oneCell' = true) (h : ∀ w, (binOp op T (.int k m) (.int k' n)).run Tryz.prog w = .ok c w) : Bin op T (.v (.int k m)) (.v (.int k' n)) c := by
 refine ⟨hc, fun ok w p q hp hq => ?_⟩
 obtain ⟨_, rfl⟩ := aY.1 hp
 obtain ⟨_, rfl⟩ := aY.1 hq
 exact ⟨fun x y => by cases op <;> simp [eqGuard], h w⟩
end
end E
end Go.Proofs.YtelbhdobjdnglaaGreat
