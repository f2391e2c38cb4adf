/-
 Merged (wip/tools/merge.py): E10, EB, ECmp, EM, E11, E12.
 Conditions: none.
-/
import Derived.Test.YtiledgojbpmoiaaZC6
import Derived.Stop.BytesEq
import Derived.Carry
import Derived.MapKept
/-
 The abstract machine's rules, the operation written out. (Printed by wip/tools/erules.py.)
 Conditions: none.
-/
namespace Go.Proofs.Ytiledgojbpmoiaa
set_option linter.unusedVariables false
open Go.RowKit Mono Rlp
namespace E
section
variable {N : Nat} {X : Cx N} {S S' : St} {ops : Array Oper} {o : Oper} {Q : Exit → Act → World → Prop} {l : List Oper} {TT : St → List Fr → Prop} {EE : List Fr} {rs : List (Tmp × R)} {os : List Obj} {fs : List (Value × D)}
inductive SetAt : List Obj → Obj → Obj → List Obj → Prop where
 | z {p q : Obj} {m : List Obj} : SetAt (p :: m) p q (q :: m)
 | s {a p q : Obj} {m m' : List Obj} (h : SetAt m p q m') : SetAt (a :: m) p q (a :: m')
theorem SetAt.ix {p q : Obj} {m m' : List Obj} (h : SetAt m p q m') : ∃ i : Nat, m[i]? = some p ∧ m' = m.set i q := by
 induction h with
 | z => exact ⟨0, rfl, rfl⟩
 | s h ih =>
  obtain ⟨i, h1, h2⟩ := ih
  exact ⟨i + 1, by simpa using h1, by rw [h2]; rfl⟩
inductive SetAtF : List Obj → Obj → (Value → Obj) → (Value → List Obj) → Prop where
 | z {p : Obj} {q : Value → Obj} {m : List Obj} : SetAtF (p :: m) p q (fun v => q v :: m)
 | s {a p : Obj} {q : Value → Obj} {m : List Obj} {m' : Value → List Obj} (h : SetAtF m p q m') : SetAtF (a :: m) p q (fun v => a :: m' v)
theorem SetAtF.ix {p : Obj} {q : Value → Obj} {m : List Obj} {m' : Value → List Obj} (h : SetAtF m p q m') : ∃ i : Nat, m[i]? = some p ∧ ∀ v, m' v = m.set i (q v) := by
 induction h with
 | z => exact ⟨0, rfl, fun v => rfl⟩
 | s h ih =>
  obtain ⟨i, h1, h2⟩ := ih
  exact ⟨i + 1, by simpa using h1, fun v => congrArg (List.cons _) (h2 v)⟩
theorem I0 {α : Type} {a : α} {m : List α} : (a :: m)[0]? = some a := rfl
theorem I1 {α : Type} {o0 a : α} {m : List α} : (o0 :: a :: m)[1]? = some a := rfl
theorem I2 {α : Type} {o0 o1 a : α} {m : List α} : (o0 :: o1 :: a :: m)[2]? = some a := rfl
theorem I3 {α : Type} {o0 o1 o2 a : α} {m : List α} : (o0 :: o1 :: o2 :: a :: m)[3]? = some a := rfl
theorem I4 {α : Type} {o0 o1 o2 o3 a : α} {m : List α} : (o0 :: o1 :: o2 :: o3 :: a :: m)[4]? = some a := rfl
theorem I5 {α : Type} {o0 o1 o2 o3 o4 a : α} {m : List α} : (o0 :: o1 :: o2 :: o3 :: o4 :: a :: m)[5]? = some a := rfl
theorem I6 {α : Type} {o0 o1 o2 o3 o4 o5 a : α} {m : List α} : (o0 :: o1 :: o2 :: o3 :: o4 :: o5 :: a :: m)[6]? = some a := rfl
def Bin (op : BinOp) (T : TypeId) (d e : D) (c : Value) : Prop := c.oneCell' = true ∧ ∀ ok w p q, ReadV ok w d p → ReadV ok w e q → (∀ x y, (eqGuard op T x y p q).run Try.prog w = .ok () w) ∧ (binOp op T p q).run Try.prog w = .ok c w
theorem g_binI {x y : Operand} {op : BinOp} {T U : TypeId} {d e : D} {c : Value} (ho : o.op = .binOp op T x y U) (hx : ev S x = some (.val d)) (hy : ev S y = some (.val e)) (h : Bin op T d e c) : Still ops S o (.val (.v c)) :=
 g_bin ho hx hy h.1 fun ok w p q hp hq => ⟨(h.2 ok w p q hp hq).1 x y, (h.2 ok w p q hp hq).2⟩
theorem g_indexJ {x y : Operand} {T e z b : Nat} {k : Int} {ds : List D} {d : D} (ho : o.op = .indexAddr T x y) (hx : ev S x = some (.val (.sl z ds))) (hy : ev S y = some (.val (.v (.int .i64 k)))) (hT : assoc slL T = some (e, z, b)) (hz : Nat.blt 0 z = true) (hk : 0 ≤ k ∧ ds[k.toNat]? = some d) : Still ops S o (.val (.pd d)) := by
 obtain ⟨h1, h2⟩ := List.getElem?_eq_some_iff.1 hk.2
 subst h2
 exact g_indexI ho hx hy hT hz hk.1 h1
theorem g_index_bsJ {x y : Operand} {T e b : Nat} {k : Int} {l1 : List UInt8} {c : UInt8} (ho : o.op = .indexAddr T x y) (hx : ev S x = some (.val (.bs l1))) (hy : ev S y = some (.val (.v (.int .i64 k)))) (hT : assoc slL T = some (e, 1, b)) (hk : 0 ≤ k ∧ l1[k.toNat]? = some c) : Still ops S o (.val (.pd (.v (bv c)))) := by
 obtain ⟨h1, h2⟩ := List.getElem?_eq_some_iff.1 hk.2
 subst h2
 exact g_index_bsI ho hx hy hT hk.1 h1
theorem P_move {t ty : Nat} {pos : String} {af : Array Edge} {gd : Option (Nat × Bool)} {x : Operand} {r : R} (hx : ev (⟨rs, os, fs⟩ : St) x = some r) (hg : guardOf ops ⟨rs, os, fs⟩ ⟨some t, .move x, ty, pos, af, gd⟩ = some true) (hN : Nat.blt t N = true) (kk : EL X ops Q l ⟨(t, r) :: rs, os, fs⟩) : EL X ops Q (⟨some t, .move x, ty, pos, af, gd⟩ :: l) ⟨rs, os, fs⟩ := ES.still (g_move rfl hx) hg rfl hN kk
theorem H_move {t ty : Nat} {pos : String} {af : Array Edge} {gd : Option (Nat × Bool)} {x : Operand} {r : R} (hx : ev (⟨rs, os, fs⟩ : St) x = some r) (hg : guardOf ops ⟨rs, os, fs⟩ ⟨some t, .move x, ty, pos, af, gd⟩ = some true) (hoff : offB N (some t) EE = true) (kk : EM N ops TT l ⟨(t, r) :: rs, os, fs⟩ EE) : EM N ops TT (⟨some t, .move x, ty, pos, af, gd⟩ :: l) ⟨rs, os, fs⟩ EE := EH.still (g_move rfl hx) hg rfl hoff kk
theorem P_assign {t ty : Nat} {pos : String} {af : Array Edge} {gd : Option (Nat × Bool)} {x : Operand} {r : R} (hx : ev (⟨rs, os, fs⟩ : St) x = some r) (hg : guardOf ops ⟨rs, os, fs⟩ ⟨some t, .assign x, ty, pos, af, gd⟩ = some true) (hN : Nat.blt t N = true) (kk : EL X ops Q l ⟨(t, r) :: rs, os, fs⟩) : EL X ops Q (⟨some t, .assign x, ty, pos, af, gd⟩ :: l) ⟨rs, os, fs⟩ := ES.still (g_assign rfl hx) hg rfl hN kk
theorem H_assign {t ty : Nat} {pos : String} {af : Array Edge} {gd : Option (Nat × Bool)} {x : Operand} {r : R} (hx : ev (⟨rs, os, fs⟩ : St) x = some r) (hg : guardOf ops ⟨rs, os, fs⟩ ⟨some t, .assign x, ty, pos, af, gd⟩ = some true) (hoff : offB N (some t) EE = true) (kk : EM N ops TT l ⟨(t, r) :: rs, os, fs⟩ EE) : EM N ops TT (⟨some t, .assign x, ty, pos, af, gd⟩ :: l) ⟨rs, os, fs⟩ EE := EH.still (g_assign rfl hx) hg rfl hoff kk
theorem P_extract {t ty : Nat} {pos : String} {af : Array Edge} {gd : Option (Nat × Bool)} {x : Operand} {i : Nat} {ds : List D} {d : D} (hx : ev (⟨rs, os, fs⟩ : St) x = some (.tpl ds)) (hd : ds[i]? = some d) (hg : guardOf ops ⟨rs, os, fs⟩ ⟨some t, .extract x i, ty, pos, af, gd⟩ = some true) (hN : Nat.blt t N = true) (kk : EL X ops Q l ⟨(t, (.val d)) :: rs, os, fs⟩) : EL X ops Q (⟨some t, .extract x i, ty, pos, af, gd⟩ :: l) ⟨rs, os, fs⟩ := ES.still (g_extract rfl hx hd) hg rfl hN kk
theorem H_extract {t ty : Nat} {pos : String} {af : Array Edge} {gd : Option (Nat × Bool)} {x : Operand} {i : Nat} {ds : List D} {d : D} (hx : ev (⟨rs, os, fs⟩ : St) x = some (.tpl ds)) (hd : ds[i]? = some d) (hg : guardOf ops ⟨rs, os, fs⟩ ⟨some t, .extract x i, ty, pos, af, gd⟩ = some true) (hoff : offB N (some t) EE = true) (kk : EM N ops TT l ⟨(t, (.val d)) :: rs, os, fs⟩ EE) : EM N ops TT (⟨some t, .extract x i, ty, pos, af, gd⟩ :: l) ⟨rs, os, fs⟩ EE := EH.still (g_extract rfl hx hd) hg rfl hoff kk
theorem P_pick {t ty : Nat} {pos : String} {af : Array Edge} {gd : Option (Nat × Bool)} {c x y : Operand} {b : Bool} {r : R} (hc : ev (⟨rs, os, fs⟩ : St) c = some (.val (.v (.bool b)))) (hx : ev (⟨rs, os, fs⟩ : St) (if b then x else y) = some r) (hg : guardOf ops ⟨rs, os, fs⟩ ⟨some t, .pick c x y, ty, pos, af, gd⟩ = some true) (hN : Nat.blt t N = true) (kk : EL X ops Q l ⟨(t, r) :: rs, os, fs⟩) : EL X ops Q (⟨some t, .pick c x y, ty, pos, af, gd⟩ :: l) ⟨rs, os, fs⟩ := ES.still (g_pick rfl hc hx) hg rfl hN kk
theorem H_pick {t ty : Nat} {pos : String} {af : Array Edge} {gd : Option (Nat × Bool)} {c x y : Operand} {b : Bool} {r : R} (hc : ev (⟨rs, os, fs⟩ : St) c = some (.val (.v (.bool b)))) (hx : ev (⟨rs, os, fs⟩ : St) (if b then x else y) = some r) (hg : guardOf ops ⟨rs, os, fs⟩ ⟨some t, .pick c x y, ty, pos, af, gd⟩ = some true) (hoff : offB N (some t) EE = true) (kk : EM N ops TT l ⟨(t, r) :: rs, os, fs⟩ EE) : EM N ops TT (⟨some t, .pick c x y, ty, pos, af, gd⟩ :: l) ⟨rs, os, fs⟩ EE := EH.still (g_pick rfl hc hx) hg rfl hoff kk
theorem P_field {t ty : Nat} {pos : String} {af : Array Edge} {gd : Option (Nat × Bool)} {x : Operand} {T k off sz g n : Nat} {ag : Bool} {lf : List (Nat × Nat × Bool)} (hx : ev (⟨rs, os, fs⟩ : St) x = some (.val (.v (.pointer (some ⟨g, n, none⟩))))) (h : assoc stL T = some lf) (hk : lf[k]? = some (off, sz, ag)) (h0 : Nat.blt 0 sz = true) (hg : guardOf ops ⟨rs, os, fs⟩ ⟨some t, .fieldAddr T x k, ty, pos, af, gd⟩ = some true) (hN : Nat.blt t N = true) (kk : EL X ops Q l ⟨(t, (.val (.v (.pointer (some ⟨g, n + off, none⟩))))) :: rs, os, fs⟩) : EL X ops Q (⟨some t, .fieldAddr T x k, ty, pos, af, gd⟩ :: l) ⟨rs, os, fs⟩ := ES.still (g_fieldI rfl hx h hk h0) hg rfl hN kk
theorem H_field {t ty : Nat} {pos : String} {af : Array Edge} {gd : Option (Nat × Bool)} {x : Operand} {T k off sz g n : Nat} {ag : Bool} {lf : List (Nat × Nat × Bool)} (hx : ev (⟨rs, os, fs⟩ : St) x = some (.val (.v (.pointer (some ⟨g, n, none⟩))))) (h : assoc stL T = some lf) (hk : lf[k]? = some (off, sz, ag)) (h0 : Nat.blt 0 sz = true) (hg : guardOf ops ⟨rs, os, fs⟩ ⟨some t, .fieldAddr T x k, ty, pos, af, gd⟩ = some true) (hoff : offB N (some t) EE = true) (kk : EM N ops TT l ⟨(t, (.val (.v (.pointer (some ⟨g, n + off, none⟩))))) :: rs, os, fs⟩ EE) : EM N ops TT (⟨some t, .fieldAddr T x k, ty, pos, af, gd⟩ :: l) ⟨rs, os, fs⟩ EE := EH.still (g_fieldI rfl hx h hk h0) hg rfl hoff kk
theorem P_fieldpd {t ty : Nat} {pos : String} {af : Array Edge} {gd : Option (Nat × Bool)} {x : Operand} {T k off sz : Nat} {ag : Bool} {d d' : D} {lf : List (Nat × Nat × Bool)} (hx : ev (⟨rs, os, fs⟩ : St) x = some (.val (.pd d))) (h : assoc stL T = some lf) (hk : lf[k]? = some (off, sz, ag)) (h0 : Nat.blt 0 sz = true) (hs : d.sub off sz ag = some d') (hg : guardOf ops ⟨rs, os, fs⟩ ⟨some t, .fieldAddr T x k, ty, pos, af, gd⟩ = some true) (hN : Nat.blt t N = true) (kk : EL X ops Q l ⟨(t, (.val (.pd d'))) :: rs, os, fs⟩) : EL X ops Q (⟨some t, .fieldAddr T x k, ty, pos, af, gd⟩ :: l) ⟨rs, os, fs⟩ := ES.still (g_field_pdI rfl hx h hk h0 hs) hg rfl hN kk
theorem H_fieldpd {t ty : Nat} {pos : String} {af : Array Edge} {gd : Option (Nat × Bool)} {x : Operand} {T k off sz : Nat} {ag : Bool} {d d' : D} {lf : List (Nat × Nat × Bool)} (hx : ev (⟨rs, os, fs⟩ : St) x = some (.val (.pd d))) (h : assoc stL T = some lf) (hk : lf[k]? = some (off, sz, ag)) (h0 : Nat.blt 0 sz = true) (hs : d.sub off sz ag = some d') (hg : guardOf ops ⟨rs, os, fs⟩ ⟨some t, .fieldAddr T x k, ty, pos, af, gd⟩ = some true) (hoff : offB N (some t) EE = true) (kk : EM N ops TT l ⟨(t, (.val (.pd d'))) :: rs, os, fs⟩ EE) : EM N ops TT (⟨some t, .fieldAddr T x k, ty, pos, af, gd⟩ :: l) ⟨rs, os, fs⟩ EE := EH.still (g_field_pdI rfl hx h hk h0 hs) hg rfl hoff kk
theorem P_loadpd {t ty : Nat} {pos : String} {af : Array Edge} {gd : Option (Nat × Bool)} {x : Operand} {T sz : Nat} {ag : Bool} {d d' : D} (hx : ev (⟨rs, os, fs⟩ : St) x = some (.val (.pd d))) (hT : assoc tyL T = some (sz, ag)) (hs : d.sub 0 sz ag = some d') (hg : guardOf ops ⟨rs, os, fs⟩ ⟨some t, .load T x, ty, pos, af, gd⟩ = some true) (hN : Nat.blt t N = true) (kk : EL X ops Q l ⟨(t, (.val d')) :: rs, os, fs⟩) : EL X ops Q (⟨some t, .load T x, ty, pos, af, gd⟩ :: l) ⟨rs, os, fs⟩ := ES.still (g_load_pdI rfl hx hT hs) hg rfl hN kk
theorem H_loadpd {t ty : Nat} {pos : String} {af : Array Edge} {gd : Option (Nat × Bool)} {x : Operand} {T sz : Nat} {ag : Bool} {d d' : D} (hx : ev (⟨rs, os, fs⟩ : St) x = some (.val (.pd d))) (hT : assoc tyL T = some (sz, ag)) (hs : d.sub 0 sz ag = some d') (hg : guardOf ops ⟨rs, os, fs⟩ ⟨some t, .load T x, ty, pos, af, gd⟩ = some true) (hoff : offB N (some t) EE = true) (kk : EM N ops TT l ⟨(t, (.val d')) :: rs, os, fs⟩ EE) : EM N ops TT (⟨some t, .load T x, ty, pos, af, gd⟩ :: l) ⟨rs, os, fs⟩ EE := EH.still (g_load_pdI rfl hx hT hs) hg rfl hoff kk
theorem P_lenbs {t ty : Nat} {pos : String} {af : Array Edge} {gd : Option (Nat × Bool)} {x : Operand} {T e z y : Nat} {b : List UInt8} (hx : ev (⟨rs, os, fs⟩ : St) x = some (.val (.bs b))) (hT : assoc slL T = some (e, z, y)) (hg : guardOf ops ⟨rs, os, fs⟩ ⟨some t, .call { callee := .builtin .len, args := #[x], argTypes := #[T] }, ty, pos, af, gd⟩ = some true) (hN : Nat.blt t N = true) (kk : EL X ops Q l ⟨(t, (.val (.v (.int .i64 b.length)))) :: rs, os, fs⟩) : EL X ops Q (⟨some t, .call { callee := .builtin .len, args := #[x], argTypes := #[T] }, ty, pos, af, gd⟩ :: l) ⟨rs, os, fs⟩ := ES.still (g_len_bsI rfl hx hT) hg rfl hN kk
theorem H_lenbs {t ty : Nat} {pos : String} {af : Array Edge} {gd : Option (Nat × Bool)} {x : Operand} {T e z y : Nat} {b : List UInt8} (hx : ev (⟨rs, os, fs⟩ : St) x = some (.val (.bs b))) (hT : assoc slL T = some (e, z, y)) (hg : guardOf ops ⟨rs, os, fs⟩ ⟨some t, .call { callee := .builtin .len, args := #[x], argTypes := #[T] }, ty, pos, af, gd⟩ = some true) (hoff : offB N (some t) EE = true) (kk : EM N ops TT l ⟨(t, (.val (.v (.int .i64 b.length)))) :: rs, os, fs⟩ EE) : EM N ops TT (⟨some t, .call { callee := .builtin .len, args := #[x], argTypes := #[T] }, ty, pos, af, gd⟩ :: l) ⟨rs, os, fs⟩ EE := EH.still (g_len_bsI rfl hx hT) hg rfl hoff kk
theorem P_lensl {t ty : Nat} {pos : String} {af : Array Edge} {gd : Option (Nat × Bool)} {x : Operand} {T e z y z' : Nat} {ds : List D} (hx : ev (⟨rs, os, fs⟩ : St) x = some (.val (.sl z' ds))) (hT : assoc slL T = some (e, z, y)) (hg : guardOf ops ⟨rs, os, fs⟩ ⟨some t, .call { callee := .builtin .len, args := #[x], argTypes := #[T] }, ty, pos, af, gd⟩ = some true) (hN : Nat.blt t N = true) (kk : EL X ops Q l ⟨(t, (.val (.v (.int .i64 ds.length)))) :: rs, os, fs⟩) : EL X ops Q (⟨some t, .call { callee := .builtin .len, args := #[x], argTypes := #[T] }, ty, pos, af, gd⟩ :: l) ⟨rs, os, fs⟩ := ES.still (g_len_slI rfl hx hT) hg rfl hN kk
theorem H_lensl {t ty : Nat} {pos : String} {af : Array Edge} {gd : Option (Nat × Bool)} {x : Operand} {T e z y z' : Nat} {ds : List D} (hx : ev (⟨rs, os, fs⟩ : St) x = some (.val (.sl z' ds))) (hT : assoc slL T = some (e, z, y)) (hg : guardOf ops ⟨rs, os, fs⟩ ⟨some t, .call { callee := .builtin .len, args := #[x], argTypes := #[T] }, ty, pos, af, gd⟩ = some true) (hoff : offB N (some t) EE = true) (kk : EM N ops TT l ⟨(t, (.val (.v (.int .i64 ds.length)))) :: rs, os, fs⟩ EE) : EM N ops TT (⟨some t, .call { callee := .builtin .len, args := #[x], argTypes := #[T] }, ty, pos, af, gd⟩ :: l) ⟨rs, os, fs⟩ EE := EH.still (g_len_slI rfl hx hT) hg rfl hoff kk
theorem P_lenv {t ty : Nat} {pos : String} {af : Array Edge} {gd : Option (Nat × Bool)} {x : Operand} {T e n c z y : Nat} {A : Option Addr} (hx : ev (⟨rs, os, fs⟩ : St) x = some (.val (.v (.slice A n c)))) (hT : assoc slL T = some (e, z, y)) (hg : guardOf ops ⟨rs, os, fs⟩ ⟨some t, .call { callee := .builtin .len, args := #[x], argTypes := #[T] }, ty, pos, af, gd⟩ = some true) (hN : Nat.blt t N = true) (kk : EL X ops Q l ⟨(t, (.val (.v (.int .i64 n)))) :: rs, os, fs⟩) : EL X ops Q (⟨some t, .call { callee := .builtin .len, args := #[x], argTypes := #[T] }, ty, pos, af, gd⟩ :: l) ⟨rs, os, fs⟩ := ES.still (g_len_nilI rfl hx hT) hg rfl hN kk
theorem P_cmp {t ty : Nat} {pos : String} {af : Array Edge} {gd : Option (Nat × Bool)} {x y : Operand} {op : BinOp} {T U : TypeId} {k : IntKind} {m n : Int} {b : Bool} (hx : ev (⟨rs, os, fs⟩ : St) x = some (.val (.v (.int k m)))) (hy : ev (⟨rs, os, fs⟩ : St) y = some (.val (.v (.int k n)))) (hb : cmpI op m n = some b) (hg : guardOf ops ⟨rs, os, fs⟩ ⟨some t, .binOp op T x y U, ty, pos, af, gd⟩ = some true) (hN : Nat.blt t N = true) (kk : EL X ops Q l ⟨(t, (.val (.v (.bool b)))) :: rs, os, fs⟩) : EL X ops Q (⟨some t, .binOp op T x y U, ty, pos, af, gd⟩ :: l) ⟨rs, os, fs⟩ := ES.still (g_cmp rfl hx hy hb) hg rfl hN kk
theorem H_cmp {t ty : Nat} {pos : String} {af : Array Edge} {gd : Option (Nat × Bool)} {x y : Operand} {op : BinOp} {T U : TypeId} {k : IntKind} {m n : Int} {b : Bool} (hx : ev (⟨rs, os, fs⟩ : St) x = some (.val (.v (.int k m)))) (hy : ev (⟨rs, os, fs⟩ : St) y = some (.val (.v (.int k n)))) (hb : cmpI op m n = some b) (hg : guardOf ops ⟨rs, os, fs⟩ ⟨some t, .binOp op T x y U, ty, pos, af, gd⟩ = some true) (hoff : offB N (some t) EE = true) (kk : EM N ops TT l ⟨(t, (.val (.v (.bool b)))) :: rs, os, fs⟩ EE) : EM N ops TT (⟨some t, .binOp op T x y U, ty, pos, af, gd⟩ :: l) ⟨rs, os, fs⟩ EE := EH.still (g_cmp rfl hx hy hb) hg rfl hoff kk
theorem P_ar {t ty : Nat} {pos : String} {af : Array Edge} {gd : Option (Nat × Bool)} {x y : Operand} {op : BinOp} {T U : TypeId} {m n s : Int} (hx : ev (⟨rs, os, fs⟩ : St) x = some (.val (.v (.int .i64 m)))) (hy : ev (⟨rs, os, fs⟩ : St) y = some (.val (.v (.int .i64 n)))) (hb : arI op m n = some s) (h1 : -9223372036854775808 ≤ s) (h2 : s ≤ 9223372036854775807) (hg : guardOf ops ⟨rs, os, fs⟩ ⟨some t, .binOp op T x y U, ty, pos, af, gd⟩ = some true) (hN : Nat.blt t N = true) (kk : EL X ops Q l ⟨(t, (.val (.v (.int .i64 s)))) :: rs, os, fs⟩) : EL X ops Q (⟨some t, .binOp op T x y U, ty, pos, af, gd⟩ :: l) ⟨rs, os, fs⟩ := ES.still (g_ar rfl hx hy hb h1 h2) hg rfl hN kk
theorem H_ar {t ty : Nat} {pos : String} {af : Array Edge} {gd : Option (Nat × Bool)} {x y : Operand} {op : BinOp} {T U : TypeId} {m n s : Int} (hx : ev (⟨rs, os, fs⟩ : St) x = some (.val (.v (.int .i64 m)))) (hy : ev (⟨rs, os, fs⟩ : St) y = some (.val (.v (.int .i64 n)))) (hb : arI op m n = some s) (h1 : -9223372036854775808 ≤ s) (h2 : s ≤ 9223372036854775807) (hg : guardOf ops ⟨rs, os, fs⟩ ⟨some t, .binOp op T x y U, ty, pos, af, gd⟩ = some true) (hoff : offB N (some t) EE = true) (kk : EM N ops TT l ⟨(t, (.val (.v (.int .i64 s)))) :: rs, os, fs⟩ EE) : EM N ops TT (⟨some t, .binOp op T x y U, ty, pos, af, gd⟩ :: l) ⟨rs, os, fs⟩ EE := EH.still (g_ar rfl hx hy hb h1 h2) hg rfl hoff kk
theorem P_not {t ty : Nat} {pos : String} {af : Array Edge} {gd : Option (Nat × Bool)} {x : Operand} {T : TypeId} {b : Bool} (hx : ev (⟨rs, os, fs⟩ : St) x = some (.val (.v (.bool b)))) (hg : guardOf ops ⟨rs, os, fs⟩ ⟨some t, .unOp .not T x, ty, pos, af, gd⟩ = some true) (hN : Nat.blt t N = true) (kk : EL X ops Q l ⟨(t, (.val (.v (.bool (!b))))) :: rs, os, fs⟩) : EL X ops Q (⟨some t, .unOp .not T x, ty, pos, af, gd⟩ :: l) ⟨rs, os, fs⟩ := ES.still (g_not rfl hx) hg rfl hN kk
theorem H_not {t ty : Nat} {pos : String} {af : Array Edge} {gd : Option (Nat × Bool)} {x : Operand} {T : TypeId} {b : Bool} (hx : ev (⟨rs, os, fs⟩ : St) x = some (.val (.v (.bool b)))) (hg : guardOf ops ⟨rs, os, fs⟩ ⟨some t, .unOp .not T x, ty, pos, af, gd⟩ = some true) (hoff : offB N (some t) EE = true) (kk : EM N ops TT l ⟨(t, (.val (.v (.bool (!b))))) :: rs, os, fs⟩ EE) : EM N ops TT (⟨some t, .unOp .not T x, ty, pos, af, gd⟩ :: l) ⟨rs, os, fs⟩ EE := EH.still (g_not rfl hx) hg rfl hoff kk
theorem P_str {t ty : Nat} {pos : String} {af : Array Edge} {gd : Option (Nat × Bool)} {x : Operand} {b : List UInt8} (hx : ev (⟨rs, os, fs⟩ : St) x = some (.val (.bs b))) (hg : guardOf ops ⟨rs, os, fs⟩ ⟨some t, .convert 24 9 x, ty, pos, af, gd⟩ = some true) (hN : Nat.blt t N = true) (kk : EL X ops Q l ⟨(t, (.val (.v (.string (Go.Proofs.Ytiledgojbpmoiaa.bs b))))) :: rs, os, fs⟩) : EL X ops Q (⟨some t, .convert 24 9 x, ty, pos, af, gd⟩ :: l) ⟨rs, os, fs⟩ := ES.still (g_str rfl hx) hg rfl hN kk
theorem H_str {t ty : Nat} {pos : String} {af : Array Edge} {gd : Option (Nat × Bool)} {x : Operand} {b : List UInt8} (hx : ev (⟨rs, os, fs⟩ : St) x = some (.val (.bs b))) (hg : guardOf ops ⟨rs, os, fs⟩ ⟨some t, .convert 24 9 x, ty, pos, af, gd⟩ = some true) (hoff : offB N (some t) EE = true) (kk : EM N ops TT l ⟨(t, (.val (.v (.string (Go.Proofs.Ytiledgojbpmoiaa.bs b))))) :: rs, os, fs⟩ EE) : EM N ops TT (⟨some t, .convert 24 9 x, ty, pos, af, gd⟩ :: l) ⟨rs, os, fs⟩ EE := EH.still (g_str rfl hx) hg rfl hoff kk
theorem P_bin {t ty : Nat} {pos : String} {af : Array Edge} {gd : Option (Nat × Bool)} {x y : Operand} {op : BinOp} {T U : TypeId} {d e : D} {c : Value} (hx : ev (⟨rs, os, fs⟩ : St) x = some (.val d)) (hy : ev (⟨rs, os, fs⟩ : St) y = some (.val e)) (hrun : Bin op T d e c) (hg : guardOf ops ⟨rs, os, fs⟩ ⟨some t, .binOp op T x y U, ty, pos, af, gd⟩ = some true) (hN : Nat.blt t N = true) (kk : EL X ops Q l ⟨(t, (.val (.v c))) :: rs, os, fs⟩) : EL X ops Q (⟨some t, .binOp op T x y U, ty, pos, af, gd⟩ :: l) ⟨rs, os, fs⟩ := ES.still (g_binI rfl hx hy hrun) hg rfl hN kk
theorem P_build {t ty : Nat} {pos : String} {af : Array Edge} {gd : Option (Nat × Bool)} {T : Nat} {parts : Array (Nat × Operand)} {lf : List (Nat × Nat × Bool)} {d0 d : D} {ps : List (Nat × D)} (hx : evps (⟨rs, os, fs⟩ : St) parts.toList = some ps) (hT : assoc stL T = some lf) (hz : assoc zeroL T = some d0) (hd0 : d0.agg = true) (hf : fillD (lf.map fun x => (x.1, x.2.1)) d0 ps = some d) (hg : guardOf ops ⟨rs, os, fs⟩ ⟨some t, .build T parts, ty, pos, af, gd⟩ = some true) (hN : Nat.blt t N = true) (kk : EL X ops Q l ⟨(t, (.val d)) :: rs, os, fs⟩) : EL X ops Q (⟨some t, .build T parts, ty, pos, af, gd⟩ :: l) ⟨rs, os, fs⟩ := ES.still (g_buildI rfl hx hT hz hd0 hf) hg rfl hN kk
theorem H_build {t ty : Nat} {pos : String} {af : Array Edge} {gd : Option (Nat × Bool)} {T : Nat} {parts : Array (Nat × Operand)} {lf : List (Nat × Nat × Bool)} {d0 d : D} {ps : List (Nat × D)} (hx : evps (⟨rs, os, fs⟩ : St) parts.toList = some ps) (hT : assoc stL T = some lf) (hz : assoc zeroL T = some d0) (hd0 : d0.agg = true) (hf : fillD (lf.map fun x => (x.1, x.2.1)) d0 ps = some d) (hg : guardOf ops ⟨rs, os, fs⟩ ⟨some t, .build T parts, ty, pos, af, gd⟩ = some true) (hoff : offB N (some t) EE = true) (kk : EM N ops TT l ⟨(t, (.val d)) :: rs, os, fs⟩ EE) : EM N ops TT (⟨some t, .build T parts, ty, pos, af, gd⟩ :: l) ⟨rs, os, fs⟩ EE := EH.still (g_buildI rfl hx hT hz hd0 hf) hg rfl hoff kk
theorem P_build0 {t ty : Nat} {pos : String} {af : Array Edge} {gd : Option (Nat × Bool)} {T n e z : Nat} {d : D} (hT : assoc arL T = some (n, e, z)) (hz : assoc zeroL T = some d) (hd : d.agg = true) (hg : guardOf ops ⟨rs, os, fs⟩ ⟨some t, .build T #[], ty, pos, af, gd⟩ = some true) (hN : Nat.blt t N = true) (kk : EL X ops Q l ⟨(t, (.val d)) :: rs, os, fs⟩) : EL X ops Q (⟨some t, .build T #[], ty, pos, af, gd⟩ :: l) ⟨rs, os, fs⟩ := ES.still (g_build0I rfl hT hz hd) hg rfl hN kk
theorem P_index {t ty : Nat} {pos : String} {af : Array Edge} {gd : Option (Nat × Bool)} {x y : Operand} {T e z b : Nat} {k : Int} {ds : List D} {d : D} (hx : ev (⟨rs, os, fs⟩ : St) x = some (.val (.sl z ds))) (hy : ev (⟨rs, os, fs⟩ : St) y = some (.val (.v (.int .i64 k)))) (hT : assoc slL T = some (e, z, b)) (hz : Nat.blt 0 z = true) (hk : 0 ≤ k ∧ ds[k.toNat]? = some d) (hg : guardOf ops ⟨rs, os, fs⟩ ⟨some t, .indexAddr T x y, ty, pos, af, gd⟩ = some true) (hN : Nat.blt t N = true) (kk : EL X ops Q l ⟨(t, (.val (.pd d))) :: rs, os, fs⟩) : EL X ops Q (⟨some t, .indexAddr T x y, ty, pos, af, gd⟩ :: l) ⟨rs, os, fs⟩ := ES.still (g_indexJ rfl hx hy hT hz hk) hg rfl hN kk
theorem H_index {t ty : Nat} {pos : String} {af : Array Edge} {gd : Option (Nat × Bool)} {x y : Operand} {T e z b : Nat} {k : Int} {ds : List D} {d : D} (hx : ev (⟨rs, os, fs⟩ : St) x = some (.val (.sl z ds))) (hy : ev (⟨rs, os, fs⟩ : St) y = some (.val (.v (.int .i64 k)))) (hT : assoc slL T = some (e, z, b)) (hz : Nat.blt 0 z = true) (hk : 0 ≤ k ∧ ds[k.toNat]? = some d) (hg : guardOf ops ⟨rs, os, fs⟩ ⟨some t, .indexAddr T x y, ty, pos, af, gd⟩ = some true) (hoff : offB N (some t) EE = true) (kk : EM N ops TT l ⟨(t, (.val (.pd d))) :: rs, os, fs⟩ EE) : EM N ops TT (⟨some t, .indexAddr T x y, ty, pos, af, gd⟩ :: l) ⟨rs, os, fs⟩ EE := EH.still (g_indexJ rfl hx hy hT hz hk) hg rfl hoff kk
theorem P_indexbs {t ty : Nat} {pos : String} {af : Array Edge} {gd : Option (Nat × Bool)} {x y : Operand} {T e b : Nat} {k : Int} {l1 : List UInt8} {c : UInt8} (hx : ev (⟨rs, os, fs⟩ : St) x = some (.val (.bs l1))) (hy : ev (⟨rs, os, fs⟩ : St) y = some (.val (.v (.int .i64 k)))) (hT : assoc slL T = some (e, 1, b)) (hk : 0 ≤ k ∧ l1[k.toNat]? = some c) (hg : guardOf ops ⟨rs, os, fs⟩ ⟨some t, .indexAddr T x y, ty, pos, af, gd⟩ = some true) (hN : Nat.blt t N = true) (kk : EL X ops Q l ⟨(t, (.val (.pd (.v (bv c))))) :: rs, os, fs⟩) : EL X ops Q (⟨some t, .indexAddr T x y, ty, pos, af, gd⟩ :: l) ⟨rs, os, fs⟩ := ES.still (g_index_bsJ rfl hx hy hT hk) hg rfl hN kk
theorem H_indexbs {t ty : Nat} {pos : String} {af : Array Edge} {gd : Option (Nat × Bool)} {x y : Operand} {T e b : Nat} {k : Int} {l1 : List UInt8} {c : UInt8} (hx : ev (⟨rs, os, fs⟩ : St) x = some (.val (.bs l1))) (hy : ev (⟨rs, os, fs⟩ : St) y = some (.val (.v (.int .i64 k)))) (hT : assoc slL T = some (e, 1, b)) (hk : 0 ≤ k ∧ l1[k.toNat]? = some c) (hg : guardOf ops ⟨rs, os, fs⟩ ⟨some t, .indexAddr T x y, ty, pos, af, gd⟩ = some true) (hoff : offB N (some t) EE = true) (kk : EM N ops TT l ⟨(t, (.val (.pd (.v (bv c))))) :: rs, os, fs⟩ EE) : EM N ops TT (⟨some t, .indexAddr T x y, ty, pos, af, gd⟩ :: l) ⟨rs, os, fs⟩ EE := EH.still (g_index_bsJ rfl hx hy hT hk) hg rfl hoff kk
theorem P_load {t ty : Nat} {pos : String} {af : Array Edge} {gd : Option (Nat × Bool)} {x : Operand} {T sz g n i : Nat} {ag : Bool} {t0 : TypeId} {d d' : D} (hx : ev (⟨rs, os, fs⟩ : St) x = some (.val (.v (.pointer (some ⟨g, n, none⟩))))) (hi : os[i]? = some (.var g t0 d)) (hT : assoc tyL T = some (sz, ag)) (hs : d.sub n sz ag = some d') (hg : guardOf ops ⟨rs, os, fs⟩ ⟨some t, .load T x, ty, pos, af, gd⟩ = some true) (hN : Nat.blt t N = true) (kk : EL X ops Q l ⟨(t, (.val d')) :: rs, os, fs⟩) : EL X ops Q (⟨some t, .load T x, ty, pos, af, gd⟩ :: l) ⟨rs, os, fs⟩ := ES.still (g_loadI i rfl hx hi hT hs) hg rfl hN kk
theorem H_load {t ty : Nat} {pos : String} {af : Array Edge} {gd : Option (Nat × Bool)} {x : Operand} {T sz g n i : Nat} {ag : Bool} {t0 : TypeId} {d d' : D} (hx : ev (⟨rs, os, fs⟩ : St) x = some (.val (.v (.pointer (some ⟨g, n, none⟩))))) (hi : os[i]? = some (.var g t0 d)) (hT : assoc tyL T = some (sz, ag)) (hs : d.sub n sz ag = some d') (hg : guardOf ops ⟨rs, os, fs⟩ ⟨some t, .load T x, ty, pos, af, gd⟩ = some true) (hoff : offB N (some t) EE = true) (kk : EM N ops TT l ⟨(t, (.val d')) :: rs, os, fs⟩ EE) : EM N ops TT (⟨some t, .load T x, ty, pos, af, gd⟩ :: l) ⟨rs, os, fs⟩ EE := EH.still (g_loadI i rfl hx hi hT hs) hg rfl hoff kk
theorem P_lenrow {t ty : Nat} {pos : String} {af : Array Edge} {gd : Option (Nat × Bool)} {x : Operand} {T e e' z z' y i : Nat} {v : Value} {ds : List D} (hx : ev (⟨rs, os, fs⟩ : St) x = some (.val (.v v))) (hi : os[i]? = some (.row v e' z ds)) (hT : assoc slL T = some (e, z', y)) (hg : guardOf ops ⟨rs, os, fs⟩ ⟨some t, .call { callee := .builtin .len, args := #[x], argTypes := #[T] }, ty, pos, af, gd⟩ = some true) (hN : Nat.blt t N = true) (kk : EL X ops Q l ⟨(t, (.val (.v (.int .i64 ds.length)))) :: rs, os, fs⟩) : EL X ops Q (⟨some t, .call { callee := .builtin .len, args := #[x], argTypes := #[T] }, ty, pos, af, gd⟩ :: l) ⟨rs, os, fs⟩ := ES.still (g_len_rowI i rfl hx hi hT) hg rfl hN kk
set_option maxRecDepth 100000 in
theorem P_lit {t ty T n e z y : Nat} {pos : String} {af : Array Edge} {gd : Option (Nat × Bool)} {parts : Array (Nat × Operand)} {ps : List (Nat × D)} {ds : List D} {d0 : D} (hx : evps (⟨rs, os, fs⟩ : St) parts.toList = some ps) (hT : assoc slL T = some (e, z, y)) (hz : assoc zeroL e = some d0) (hin : inRow 0 ps = some ds) (hsz : allB z ps = true) (hn : ps.length = n) (h0 : litB n z = true) (hg : guardOf ops ⟨rs, os, fs⟩ ⟨some t, .buildSlice T n parts, ty, pos, af, gd⟩ = some true) (hN : Nat.blt t N = true) (kk : EL X ops Q l ⟨(t, .val (.sl z ds)) :: rs, os, fs⟩) : EL X ops Q (⟨some t, .buildSlice T n parts, ty, pos, af, gd⟩ :: l) ⟨rs, os, fs⟩ := ES.grow (g_slice_litI (T := T) (n := n) (z := z) (parts := parts) rfl hx hT hz hin hsz hn h0) hg rfl hN kk
set_option maxRecDepth 100000 in
theorem H_lit {t ty T n e z y : Nat} {pos : String} {af : Array Edge} {gd : Option (Nat × Bool)} {parts : Array (Nat × Operand)} {ps : List (Nat × D)} {ds : List D} {d0 : D} (hx : evps (⟨rs, os, fs⟩ : St) parts.toList = some ps) (hT : assoc slL T = some (e, z, y)) (hz : assoc zeroL e = some d0) (hin : inRow 0 ps = some ds) (hsz : allB z ps = true) (hn : ps.length = n) (h0 : litB n z = true) (hg : guardOf ops ⟨rs, os, fs⟩ ⟨some t, .buildSlice T n parts, ty, pos, af, gd⟩ = some true) (hoff : offB N (some t) EE = true) (kk : EM N ops TT l ⟨(t, .val (.sl z ds)) :: rs, os, fs⟩ EE) : EM N ops TT (⟨some t, .buildSlice T n parts, ty, pos, af, gd⟩ :: l) ⟨rs, os, fs⟩ EE := EH.grow (g_slice_litI (T := T) (n := n) (z := z) (parts := parts) rfl hx hT hz hin hsz hn h0) hg rfl hoff kk
theorem P_call {t ty f : Nat} {pos : String} {af : Array Edge} {gd : Option (Nat × Bool)} {args : Array Operand} {tys : Array TypeId} {ds ds' : List D} {r : R} (hF : Fn f ds' (· = r)) (hx : evs (⟨rs, os, fs⟩ : St) args.toList = some ds) (hR : RefineL fs ds ds') (hf : Enters f) (hg : guardOf ops ⟨rs, os, fs⟩ ⟨some t, .call { callee := .value (.func f), args := args, argTypes := tys }, ty, pos, af, gd⟩ = some true) (hN : Nat.blt t N = true) (kk : EL X ops Q l ⟨(t, r) :: rs, os, fs⟩) : EL X ops Q (⟨some t, .call { callee := .value (.func f), args := args, argTypes := tys }, ty, pos, af, gd⟩ :: l) ⟨rs, os, fs⟩ := ES.call hF rfl hx hf hR hg rfl hN kk
theorem H_call {t ty f : Nat} {pos : String} {af : Array Edge} {gd : Option (Nat × Bool)} {args : Array Operand} {tys : Array TypeId} {ds ds' : List D} {r : R} (hF : Fn f ds' (· = r)) (hx : evs (⟨rs, os, fs⟩ : St) args.toList = some ds) (hR : RefineL fs ds ds') (hf : Enters f) (hg : guardOf ops ⟨rs, os, fs⟩ ⟨some t, .call { callee := .value (.func f), args := args, argTypes := tys }, ty, pos, af, gd⟩ = some true) (hoff : offB N (some t) EE = true) (kk : EM N ops TT l ⟨(t, r) :: rs, os, fs⟩ EE) : EM N ops TT (⟨some t, .call { callee := .value (.func f), args := args, argTypes := tys }, ty, pos, af, gd⟩ :: l) ⟨rs, os, fs⟩ EE := EH.call hF rfl hx hf hR hg rfl hoff kk
theorem P_skip {t ty : Nat} {op : Op} {pos : String} {af : Array Edge} {gd : Nat × Bool} (hg : guardOf ops ⟨rs, os, fs⟩ ⟨some t, op, ty, pos, af, some gd⟩ = some false) (hN : Nat.blt t N = true) (kk : EL X ops Q l ⟨(t, .tpl []) :: rs, os, fs⟩) : EL X ops Q (⟨some t, op, ty, pos, af, some gd⟩ :: l) ⟨rs, os, fs⟩ := ES.skip hg rfl hN kk
theorem H_skip {t ty : Nat} {op : Op} {pos : String} {af : Array Edge} {gd : Nat × Bool} (hg : guardOf ops ⟨rs, os, fs⟩ ⟨some t, op, ty, pos, af, some gd⟩ = some false) (hoff : offB N (some t) EE = true) (kk : EM N ops TT l ⟨(t, .tpl []) :: rs, os, fs⟩ EE) : EM N ops TT (⟨some t, op, ty, pos, af, some gd⟩ :: l) ⟨rs, os, fs⟩ EE := EH.skip hg rfl hoff kk
theorem P_alloc {t ty T : Nat} {pos : String} {af : Array Edge} {gd : Option (Nat × Bool)} {d : D} (hz : assoc zeroL T = some d) (hg : guardOf ops ⟨rs, os, fs⟩ ⟨some t, .alloc T, ty, pos, af, gd⟩ = some true) (hN : Nat.blt t N = true) (kk : ∀ g, EL X ops Q l ⟨(t, .val (.v (.pointer (some ⟨g, 0, none⟩)))) :: rs, .var g T d :: os, fs⟩) : EL X ops Q (⟨some t, .alloc T, ty, pos, af, gd⟩ :: l) ⟨rs, os, fs⟩ := ES.alloc rfl hz hg rfl hN kk
theorem H_alloc {t ty T : Nat} {pos : String} {af : Array Edge} {gd : Option (Nat × Bool)} {d : D} (hz : assoc zeroL T = some d) (hg : guardOf ops ⟨rs, os, fs⟩ ⟨some t, .alloc T, ty, pos, af, gd⟩ = some true) (hoff : offB N (some t) EE = true) (kk : EM N ops TT l ⟨(t, .any) :: rs, os, fs⟩ (EE ++ [(t, T, d)])) : EM N ops TT (⟨some t, .alloc T, ty, pos, af, gd⟩ :: l) ⟨rs, os, fs⟩ EE := EH.alloc rfl hz rfl hg hoff kk
theorem P_box {t ty T : Nat} {pos : String} {af : Array Edge} {gd : Option (Nat × Bool)} {x : Operand} {d : D} (hx : ev (⟨rs, os, fs⟩ : St) x = some (.val d)) (hg : guardOf ops ⟨rs, os, fs⟩ ⟨some t, .box T x, ty, pos, af, gd⟩ = some true) (hN : Nat.blt t N = true) (kk : ∀ g, EL X ops Q l ⟨(t, .val (.v (.pointer (some ⟨g, 0, none⟩)))) :: rs, .var g T d :: os, fs⟩) : EL X ops Q (⟨some t, .box T x, ty, pos, af, gd⟩ :: l) ⟨rs, os, fs⟩ := ES.box rfl hx hg rfl hN kk
theorem P_store {T g n ty : Nat} {pos : String} {af : Array Edge} {gd : Option (Nat × Bool)} {x y : Operand} {t0 : TypeId} {d d' d'' : D} {os' : List Obj} (hx : ev (⟨rs, os, fs⟩ : St) x = some (.val (.v (.pointer (some ⟨g, n, none⟩))))) (hset : SetAt os (.var g t0 d) (.var g t0 d'') os') (hy : ev (⟨rs, os, fs⟩ : St) y = some (.val d')) (hT : assoc tyL T = some (d'.size, d'.agg)) (hu : d.upd n d' = some d'') (hg : guardOf ops ⟨rs, os, fs⟩ ⟨none, .store T x y, ty, pos, af, gd⟩ = some true) (kk : EL X ops Q l ⟨rs, os', fs⟩) : EL X ops Q (⟨none, .store T x y, ty, pos, af, gd⟩ :: l) ⟨rs, os, fs⟩ := by
 obtain ⟨i, hi, rfl⟩ := hset.ix
 exact EL.store i rfl rfl hg hx hi hy (tyI hT) hu kk
theorem P_append {t T e z y ty : Nat} {pos : String} {af : Array Edge} {gd : Option (Nat × Bool)} {s x : Operand} {v : Value} {ds es : List D} {os' : Value → List Obj} (hs : ev (⟨rs, os, fs⟩ : St) s = some (.val (.v v))) (hset : SetAtF os (.row v e z ds) (fun v' => .row v' e z (ds ++ es)) os') (hx : ev (⟨rs, os, fs⟩ : St) x = some (.val (.sl z es))) (hT : assoc slL T = some (e, z, y)) (hz : Nat.blt 0 z = true) (hg : guardOf ops ⟨rs, os, fs⟩ ⟨some t, .call { callee := .builtin .append, args := #[s, x], argTypes := #[T, T] }, ty, pos, af, gd⟩ = some true) (hN : Nat.blt t N = true) (hlen : (ds.length + es.length) * y ≤ 140737488355328 ∧ ds.length + es.length ≤ 9223372036854775807) (kk : ∀ v', EL X ops Q l ⟨(t, .val (.v v')) :: rs, os' v', fs⟩) : EL X ops Q (⟨some t, .call { callee := .builtin .append, args := #[s, x], argTypes := #[T, T] }, ty, pos, af, gd⟩ :: l) ⟨rs, os, fs⟩ := by
 obtain ⟨i, hi, hl'⟩ := hset.ix
 exact ES.append (v := v) (ds := ds) i rfl hT hz hs hi hx hg rfl hN hlen fun v' => by rw [← hl' v']; exact kk v'
end
end E
end Go.Proofs.Ytiledgojbpmoiaa
/-
 The abstract machine: arguments of the elder contracts.
 Conditions: none.
-/
namespace Go.Proofs.Ytiledgojbpmoiaa
set_option linter.unusedVariables false
open Go.RowKit Mono Rlp
namespace E
section
variable {ok : Nat → Prop} {w : World}
theorem isB_of (hok : ∀ b, ok b → b < w.heap.size) {l : List UInt8} {v : Value} (h : ReadV ok w (.bs l) v) : IsB w v l := by
 obtain ⟨A, c, h1, h2, h3, h4⟩ := bs_ex h
 exact ⟨A, c, h1, h2, h3, fun hn => by
  obtain ⟨b, n, e, hb, hc⟩ := h4 hn
  exact ⟨b, n, e, hok b hb, hc⟩⟩
theorem arrV_of {n : Nat} {l : List UInt8} {v : Value} (h : ReadV ok w (.arr n l) v) : l.length = n ∧ v = arrV l := by
 obtain ⟨cs, h1, rfl⟩ := (readV_agg rfl).1 h
 rw [Reads] at h1
 rw [h1.2]
 exact ⟨h1.1, rfl⟩
theorem arrV_mk {n : Nat} {l : List UInt8} (h : l.length = n) : ReadV ok w (.arr n l) (arrV l) := (readV_agg rfl).2 ⟨bvs l, by rw [Reads]; exact ⟨h, rfl⟩, rfl⟩
theorem one_arg {d : D} {xs : List Value} (h : ReadVs ok w [d] xs) : ∃ v, xs = [v] ∧ ReadV ok w d v := by
 obtain ⟨x, rest, rfl, h1, h2⟩ := h
 cases h2
 exact ⟨x, rfl, h1⟩
theorem bs_read {w : World} {l : List UInt8} {v : Value} (h : IsB w v l) : ReadV (fun b => b < w.heap.size) w (.bs l) v := bs_mk h
end
end E
end Go.Proofs.Ytiledgojbpmoiaa
/-
 The abstract machine: tests of arrays, of structs of arrays, of strings, of bools.
 Conditions: none.
-/
namespace Go.Proofs.Ytiledgojbpmoiaa
set_option linter.unusedVariables false
open Go.RowKit Mono Rlp
namespace E
section
variable {T e n : Nat}
theorem eq_arr (hT : Try.prog.underlying T = some (.array n e)) (he : Try.prog.underlying e = some (.int .u8)) (hs : ∀ w, (sizeOf e).run Try.prog w = .ok 1 w) (w : World) (l m : List UInt8) (hl : l.length = n) (hm : m.length = n) : (Op.equalIn 10000 T (arrV l) (arrV m)).run Try.prog w = .ok (l == m) w := by
 have h2 := run_equalIn_bytes w 9998 T e n hT he hs l m hl hm
 rw [show (Op.equalIn 10000 T (arrV l) (arrV m)) = (Op.equalIn (9998 + 2) T (.agg (l.map Extern.Stop.cell).toArray) (.agg (m.map Extern.Stop.cell).toArray)) from rfl, h2]
theorem bin_arr (hT : Try.prog.underlying T = some (.array n e)) (he : Try.prog.underlying e = some (.int .u8)) (hs : ∀ w, (sizeOf e).run Try.prog w = .ok 1 w) (hg : Try.prog.eqGuardType Try.prog.depth T = false) (l m : List UInt8) : Bin .eql T (.arr n l) (.arr n m) (.bool (l == m)) ∧ Bin .neq T (.arr n l) (.arr n m) (.bool (l != m)) := by
 refine ⟨⟨rfl, fun ok w p q hp hq => ?_⟩, ⟨rfl, fun ok w p q hp hq => ?_⟩⟩ <;> (obtain ⟨e1, rfl⟩ := arrV_of hp; obtain ⟨e2, rfl⟩ := arrV_of hq; refine ⟨fun x y => run_eqGuard_agg w _ _ _ _ _ _ hg, ?_⟩)
 · exact run_eql_bytes w T e n hT he hs l m e1 e2
 ·
  have h1 : (binOp .neq T (arrV l) (arrV m)).run Try.prog w = ((Op.equalIn 10000 T (arrV l) (arrV m)).run Try.prog w).andThen fun b w' => .ok (.bool (!b)) w' := by
   simp only [arrV, binOp, Op.equal, Op.maxDepth, Sem.run_bind, Sem.run_pure]
  rw [h1, eq_arr hT he hs w l m e1 e2]
  rfl
end
theorem bin_word (l m : List UInt8) : Bin .eql 23 (.arr 32 l) (.arr 32 m) (.bool (l == m)) ∧ Bin .neq 23 (.arr 32 l) (.arr 32 m) (.bool (l != m)) :=
 bin_arr Try.underlying23 Try.underlying5 (fun w => by kernel_rfl) (by kernel_rfl) l m
theorem bin_bool (a b : Bool) : Bin .eql 4 (.v (.bool a)) (.v (.bool b)) (.bool (a == b)) ∧ Bin .neq 4 (.v (.bool a)) (.v (.bool b)) (.bool (a != b)) := by
 refine ⟨⟨rfl, fun ok w p q hp hq => ?_⟩, ⟨rfl, fun ok w p q hp hq => ?_⟩⟩ <;> (obtain rfl := (readV_v.1 hp).2; obtain rfl := (readV_v.1 hq).2; refine ⟨fun x y => by simp [eqGuard], ?_⟩)
 · simp [binOp, run_equal_bool w _ a b Try.underlying4]
 · simp [binOp, run_equal_bool w _ a b Try.underlying4, bne]
theorem bin_string (l m : List UInt8) : Bin .eql 9 (.v (.string (Go.Proofs.Ytiledgojbpmoiaa.bs l))) (.v (.string (Go.Proofs.Ytiledgojbpmoiaa.bs m))) (.bool (l == m)) ∧ Bin .neq 9 (.v (.string (Go.Proofs.Ytiledgojbpmoiaa.bs l))) (.v (.string (Go.Proofs.Ytiledgojbpmoiaa.bs m))) (.bool (l != m)) := by
 refine ⟨⟨rfl, fun ok w p q hp hq => ?_⟩, ⟨rfl, fun ok w p q hp hq => ?_⟩⟩ <;> (obtain rfl := (readV_v.1 hp).2; obtain rfl := (readV_v.1 hq).2; refine ⟨fun x y => by simp [eqGuard], ?_⟩)
 · simp [binOp, Op.stringOp, bs_toList]
 · simp [binOp, Op.stringOp, bs_toList, bne]
theorem EC.lenOf {N : Nat} {X : Cx N} {S : St} {Q : Exit → Act → World → Prop} {c : Code} {t : Tmp} {z : Nat} {ds : List D} (hl : look S.regs t = some (.val (.sl z ds))) (k : ds.length ≤ maxLen → EC X Q c S) : EC X Q c S := ⟨fun a w ha => by
 obtain ⟨A, c', rows, h1, h2, h3, _⟩ := sl_ex (ha.regs t _ hl)
 exact (k (by omega)).go a w ha⟩
end E
end Go.Proofs.Ytiledgojbpmoiaa
/-
 The abstract machine: maps whose keys are arrays of bytes.
 Conditions: none.
-/
namespace Go.Proofs.Ytiledgojbpmoiaa
set_option linter.unusedVariables false
open Go.RowKit Mono Rlp
namespace E
abbrev Ent := Nat × List UInt8 × D
def hasE (es : List Ent) (l : List UInt8) : Bool := es.any fun x => x.2.1 == l
def getE : List Ent → List UInt8 → Option D
 | [], _ => none
 | x :: es, l => if x.2.1 == l then some x.2.2 else getE es l
def setE : List Ent → List UInt8 → D → List Ent
 | [], _, _ => []
 | x :: es, l, d => if x.2.1 == l then (x.1, x.2.1, d) :: es else x :: setE es l d
def putE (c : Nat) (es : List Ent) (l : List UInt8) (d : D) : List Ent := if hasE es l then setE es l d else es ++ [(c, l, d)]
def tickE (c : Nat) (es : List Ent) (l : List UInt8) : Nat := if hasE es l then c else c + 1
/-! ### Laws of entries -/
theorem hasE_iff : ∀ (es : List Ent) (l : List UInt8), hasE es l = (getE es l).isSome
 | [], l => rfl
 | x :: es, l => by
  unfold hasE getE
  cases h : x.2.1 == l
  ·
   have := hasE_iff es l
   unfold hasE at this
   simp [h, this]
  · simp [h]
theorem getE_none : ∀ (es : List Ent) (l : List UInt8), getE es l = none ↔ l ∉ es.map (·.2.1)
 | [], l => by simp [getE]
 | x :: es, l => by
  rw [getE]
  cases h : x.2.1 == l
  ·
   have h1 : x.2.1 ≠ l := by simpa using h
   simp [getE_none es l, h1.symm]
  ·
   have h1 : x.2.1 = l := by simpa using h
   simp [h1]
theorem setE_keys : ∀ (es : List Ent) (l : List UInt8) (d : D), (setE es l d).map (·.2.1) = es.map (·.2.1)
 | [], l, d => rfl
 | x :: es, l, d => by
  rw [setE]
  split
  · rfl
  · simp [setE_keys es l d]
theorem setE_borns : ∀ (es : List Ent) (l : List UInt8) (d : D), (setE es l d).map (·.1) = es.map (·.1)
 | [], l, d => rfl
 | x :: es, l, d => by
  rw [setE]
  split
  · rfl
  · simp [setE_borns es l d]
theorem Ents.set {c : Nat} {es : List Ent} (h : Ents c es) (l : List UInt8) (d : D) : Ents c (setE es l d) := by
 refine ⟨by rw [setE_keys]; exact h.keys, by rw [setE_borns]; exact h.borns, fun x hx => ?_⟩
 have : x.1 ∈ (setE es l d).map (·.1) := List.mem_map.2 ⟨x, hx, rfl⟩
 rw [setE_borns] at this
 obtain ⟨y, hy, e⟩ := List.mem_map.1 this
 rw [← e]
 exact h.lt y hy
theorem Ents.put {c : Nat} {es : List Ent} (h : Ents c es) (l : List UInt8) (d : D) : Ents (tickE c es l) (putE c es l d) := by
 unfold tickE putE
 cases hh : hasE es l
 ·
  have hn : l ∉ es.map (·.2.1) := by
   rw [hasE_iff] at hh
   exact (getE_none es l).1 (by simpa using hh)
  refine ⟨?_, ?_, fun x hx => ?_⟩
  ·
   simp only [Bool.false_eq_true, if_false, List.map_append, List.map_cons, List.map_nil]
   refine List.nodup_append.2 ⟨h.keys, by simp, fun a ha b hb e => ?_⟩
   simp only [List.mem_cons, List.not_mem_nil, or_false] at hb
   subst e hb
   exact hn ha
  ·
   simp only [Bool.false_eq_true, if_false, List.map_append, List.map_cons, List.map_nil]
   refine List.nodup_append.2 ⟨h.borns, by simp, fun a ha b hb e => ?_⟩
   simp only [List.mem_cons, List.not_mem_nil, or_false] at hb
   subst e hb
   obtain ⟨y, hy, e⟩ := List.mem_map.1 ha
   have := h.lt y hy
   omega
  ·
   simp only [Bool.false_eq_true, if_false] at hx ⊢
   rcases List.mem_append.1 hx with hx | hx
   ·
    have := h.lt x hx
    omega
   ·
    simp only [List.mem_cons, List.not_mem_nil, or_false] at hx
    subst hx
    simp
 ·
  simp only [if_true]
  exact h.set l d
theorem Ents.nil : Ents 0 [] := ⟨List.nodup_nil, List.nodup_nil, fun x h => by cases h⟩
/-! ### The machine on keys of bytes -/
section
variable {K n : Nat} {ok : Nat → Prop} {w : World}
def hit (l : List UInt8) : List MapEntry → List Ent → Nat → Option (Nat × Value)
 | e :: arr, x :: es, i => if l == x.2.1 then some (i, e.val) else hit l arr es (i + 1)
 | _, _, _ => none
end
end E
end Go.Proofs.Ytiledgojbpmoiaa
/-
 The abstract machine: ends whose results read otherwise; arrays out of slices; forgetting.
 Conditions: none.
-/
namespace Go.Proofs.Ytiledgojbpmoiaa
set_option linter.unusedVariables false
open Go.RowKit Mono Rlp
namespace E
section
variable {N : Nat} {X : Cx N} {S S' : St} {ops : Array Oper} {o : Oper} {Q : Exit → Act → World → Prop} {l : List Oper} {T : St → List Fr → Prop} {EE : List Fr} {rs : List (Tmp × R)} {os : List Obj} {fs : List (Value × D)} {fn : Func} {Φ : R → Prop} {w : World}
theorem Refine1.readV {ok : Nat → Prop} {F : List (Value × D)} (hF : ∀ f ∈ F, Reads ok w f.2 [f.1]) {d d' : D} {x : Value} (h : RefineL F [d] [d']) (hr : ReadV ok w d x) : ReadV ok w d' x := by
 have := RefineL.readVs hF [d] [d'] [x] h ⟨x, [], rfl, hr, rfl⟩
 obtain ⟨y, rest, e, h1, _⟩ := this
 cases e
 exact h1
theorem RefineL.cons {F : List (Value × D)} {d d' : D} {ds ds' : List D} (h : RefineL F (d :: ds) (d' :: ds')) : RefineL F [d] [d'] ∧ RefineL F ds ds' := by
 rw [RefineL] at h
 obtain ⟨_, _, e, h1, h2⟩ := h
 cases e
 refine ⟨?_, h2⟩
 rw [RefineL]
 exact ⟨_, _, rfl, h1, by rw [RefineL]⟩
theorem EK.ret1r {t : Tmp} {d d' : D} (hres : fn.results = #[.tmp t]) (hl : look S.regs t = some (.val d)) (hR : RefineL S.facts [d] [d']) (hΦ : Φ (.val d')) : EK X (bodyPost Try.prog fn (Out X Φ) .ret) S := by
 constructor
 intro a w ha
 exact bodyPost_ret (results_tmp hres a.tmps Try.prog w) ha.defers ⟨ha.mem.gr, _, _, rfl, hΦ, ReadV.mono (fun b hb => ⟨hb.1, hb.2.1⟩) (fun _ _ => rfl) (Refine1.readV ha.mem.fact hR (ha.regs t _ hl))⟩
theorem EK.retc1r {p : Tmp} {g ty : Nat} {t : TypeId} {d d' : D} (i : Nat) (hres : fn.results = #[.cell p ty]) (hl : look S.regs p = some (.val (.v (.pointer (some ⟨g, 0, none⟩))))) (hi : S.objs[i]? = some (.var g t d)) (hT : assoc tyL ty = some (d.size, d.agg)) (hR : RefineL S.facts [d] [d']) (hΦ : Φ (.val d')) : EK X (bodyPost Try.prog fn (Out X Φ) .ret) S := by
 constructor
 intro a w ha
 obtain ⟨x, h1, h2⟩ := run_cell ha.mem hi (tyI hT)
 have hp := (readV_v.1 (ha.regs p _ hl)).2
 have hp' : a.tmps[p]?.getD undef = .pointer (some ⟨g, 0, none⟩) := by simpa using hp
 refine bodyPost_ret (v := x) ?_ ha.defers ⟨ha.mem.gr, _, _, rfl, hΦ, ReadV.mono (fun b hb => ⟨hb.1, hb.2.1⟩) (fun _ _ => rfl) (Refine1.readV ha.mem.fact hR h2)⟩
 simp [results, hres, hp', asAddr, h1]
theorem EK.retc2r {p u : Tmp} {g ty : Nat} {t : TypeId} {d e d' e' : D} (i : Nat) (hres : fn.results = #[.cell p ty, .tmp u]) (hl : look S.regs p = some (.val (.v (.pointer (some ⟨g, 0, none⟩))))) (hi : S.objs[i]? = some (.var g t d)) (hT : assoc tyL ty = some (d.size, d.agg)) (hk : look S.regs u = some (.val e)) (hR : RefineL S.facts [d, e] [d', e']) (hΦ : Φ (.tpl [d', e'])) : EK X (bodyPost Try.prog fn (Out X Φ) .ret) S := by
 constructor
 intro a w ha
 obtain ⟨x, h1, h2⟩ := run_cell ha.mem hi (tyI hT)
 obtain ⟨hR1, hR2⟩ := hR.cons
 have hp := (readV_v.1 (ha.regs p _ hl)).2
 have hp' : a.tmps[p]?.getD undef = .pointer (some ⟨g, 0, none⟩) := by simpa using hp
 refine bodyPost_ret (v := .tuple #[x, a.tmps.getD u undef]) ?_ ha.defers ⟨ha.mem.gr, _, _, rfl, hΦ, [x, a.tmps.getD u undef], rfl, _, _, rfl, ReadV.mono (fun b hb => ⟨hb.1, hb.2.1⟩) (fun _ _ => rfl) (Refine1.readV ha.mem.fact hR1 h2), _, _, rfl, ReadV.mono (fun b hb => ⟨hb.1, hb.2.1⟩) (fun _ _ => rfl) (Refine1.readV ha.mem.fact hR2 (ha.regs u _ hk)), rfl⟩
 simp [results, hres, hp', asAddr, h1]
theorem g_s2a {x : Operand} {T n e z : Nat} {b : List UInt8} (ho : o.op = .sliceToArrayPointer T x) (hx : ev S x = some (.val (.bs b))) (hT : assoc arL T = some (n, e, z)) (hn : b.length = n) (h0 : Nat.blt 0 n = true) : Still ops S o (.val (.pd (.arr n b))) := fun base ok a w ha => by
 obtain ⟨A, c, h1, h2, h3, h4⟩ := bs_ex (ha.ev hx fun t e => looks_of e (by rw [ho]; simp [Op.operands]))
 have h0' : 0 < n := by simpa using h0
 obtain ⟨bl, m, rfl, hb, hc⟩ := h4 (fun e => by have := congrArg List.length e; rw [bvs_length] at this; simp at this; rw [this] at hn; simp at hn; omega)
 refine ⟨.pointer (some ⟨bl, m, none⟩), ?_, (readV_one rfl).2 (by rw [Reads]; exact ⟨bl, m, bvs b, rfl, hb, hc, by rw [Reads]; exact ⟨hn, rfl⟩⟩)⟩
 unfold execOp
 simp only [ho, h1, Sem.run_bind]
 rw [run_arrayAt _ _ _ n (some ⟨bl, m, none⟩) b.length c (arI' hT).und (by omega)]
 simp
theorem P_s2a {t ty : Nat} {pos : String} {af : Array Edge} {gd : Option (Nat × Bool)} {x : Operand} {T n e z : Nat} {b : List UInt8} (hx : ev ⟨rs, os, fs⟩ x = some (.val (.bs b))) (hT : assoc arL T = some (n, e, z)) (hn : b.length = n) (h0 : Nat.blt 0 n = true) (hg : guardOf ops ⟨rs, os, fs⟩ ⟨some t, .sliceToArrayPointer T x, ty, pos, af, gd⟩ = some true) (hN : Nat.blt t N = true) (kk : EL X ops Q l ⟨(t, .val (.pd (.arr n b))) :: rs, os, fs⟩) : EL X ops Q (⟨some t, .sliceToArrayPointer T x, ty, pos, af, gd⟩ :: l) ⟨rs, os, fs⟩ := ES.still (g_s2a rfl hx hT hn h0) hg rfl hN kk
theorem RL.nil {F : List (Value × D)} : RefineL F [] [] := by rw [RefineL]
theorem RL.cons {F : List (Value × D)} {d d' : D} {ds ds' : List D} (h : Refine F d d') (k : RefineL F ds ds') : RefineL F (d :: ds) (d' :: ds') := by
 rw [RefineL]
 exact ⟨d', ds', rfl, h, k⟩
theorem Rf.same {F : List (Value × D)} {d : D} : Refine F d d := by
 have := RefineL.refl F [d]
 rw [RefineL] at this
 obtain ⟨_, _, e, h, _⟩ := this
 cases e
 exact h
theorem Rf.bs0 {F : List (Value × D)} : Refine F (.v (.slice none 0 0)) (.bs []) := by
 rw [Refine]
 exact .inr (.inr ⟨rfl, .inl rfl⟩)
theorem Rf.sl0 {F : List (Value × D)} {z : Nat} : Refine F (.v (.slice none 0 0)) (.sl z []) := by
 rw [Refine]
 exact .inr (.inr ⟨rfl, .inr ⟨z, rfl⟩⟩)
theorem Rf.fact {F : List (Value × D)} {x : Value} {d : D} (h : (x, d) ∈ F) (hd : d.agg = false) : Refine F (.v x) d := by
 rw [Refine]
 exact .inr (.inl ⟨h, hd⟩)
theorem Rf.tup {F : List (Value × D)} {ds ds' : List D} (h : RefineL F ds ds') : Refine F (.tup ds) (.tup ds') := by
 rw [Refine]
 exact ⟨ds', rfl, h⟩
theorem Le.keep {rs' : List (Tmp × R)} {os' : List Obj} {fs' : List (Value × D)} (hr : Sub rs rs') (ho : os'.Sublist os) (hf : ∀ f ∈ fs', f ∈ fs) : Le X ⟨rs, os, fs⟩ ⟨rs', os', fs'⟩ := Le.less ho hf hr
end
end E
end Go.Proofs.Ytiledgojbpmoiaa
/-
 The abstract machine at the top: all that is below may be read; functions whose result may lie anywhere; a variable that is written no more.
 Conditions: none.
-/
namespace Go.Proofs.Ytiledgojbpmoiaa
set_option linter.unusedVariables false
open Go.RowKit Mono Rlp
namespace E
structure FnA (f : FuncId) (ds : List D) (Φ : R → Prop) : Prop where
 go : ∀ (w : World) (xs : List Value), ReadVs (fun b => b < w.heap.size) w ds xs →
  Calls Try.prog f xs.toArray w fun e w' => Gr w w' ∧ ∃ v r, e = .returned v ∧ Φ r ∧ ReadR (fun b => b < w'.heap.size) w' r v
theorem Fn.all {f : FuncId} {ds : List D} {Φ : R → Prop} (h : Fn f ds Φ) : FnA f ds Φ := ⟨fun w xs hr => (h.go _ w xs (fun _ hb => hb) hr).mono fun e w' ⟨h1, v, r, h2, h3, h4⟩ => ⟨h1, v, r, h2, h3, h4.mono (fun b hb => hb.2) fun _ _ => rfl⟩⟩
theorem FnA.mono {f : FuncId} {ds : List D} {Φ Ψ : R → Prop} (h : FnA f ds Φ) (k : ∀ r, Φ r → Ψ r) : FnA f ds Ψ := ⟨fun w xs hr => (h.go w xs hr).mono fun e w' ⟨h1, v, r, h2, h3, h4⟩ => ⟨h1, v, r, h2, k r h3, h4⟩⟩
def All {N : Nat} (X : Cx N) : Prop := ∀ b, b < X.w0.heap.size → X.ok0 b
section
variable {N : Nat} {X : Cx N} {S : St} {ops : Array Oper} {o : Oper} {Q : Exit → Act → World → Prop} {l : List Oper} {rs : List (Tmp × R)} {os : List Obj} {fs : List (Value × D)}
theorem FnA.walk {f : FuncId} {fn : Func} {c : Code} {ds : List D} {Φ : R → Prop} (N : Nat) (hf : Try.prog.funcs[f]? = some fn) (hb : fn.body = some c) (hN : fn.ntmps = N) (hl : ds.length ≤ N)
  (h : ∀ X : Cx N, All X → EC X (bodyPost Try.prog fn (Out X Φ)) c ⟨regsOf 0 ds, [], []⟩) : FnA f ds Φ := by
 constructor
 intro w xs hr
 have hxl := readVs_len ds xs hr
 refine Calls.mono (calls_of_wp hf hb ((h ⟨w, fun b => b < w.heap.size, fun _ => False, fun _ hb => hb⟩ fun _ hb => hb).go _ w ⟨⟨.refl w, List.Pairwise.nil, (fun o ho => by cases ho), (fun f hf => by cases hf)⟩, fun t r ht => ?_, ?_, rfl⟩)) ?_
 ·
  refine regs_read ds xs 0 _ (ReadVs.mono (fun b hb => ⟨.inl hb, hb, (fun o ho => by cases ho)⟩) (fun _ _ => rfl) ds xs hr) (fun j x hx => ?_) t r ht
  have hj := (List.getElem?_eq_some_iff.1 hx).1
  have : (xs.toArray ++ Array.replicate (fn.ntmps - xs.toArray.size) undef)[j]? = some x := by
   rw [Array.getElem?_append_left (by simpa using hj)]
   simpa using hx
  rw [Nat.zero_add, Array.getD_eq_getD_getElem?, this]
  rfl
 ·
  simp [hN]
  omega
 ·
  rintro e w' ⟨h1, v, r, h2, h3, h4⟩
  exact ⟨h1.gr (fun _ h => h), v, r, h2, h3, h4.mono (fun b hb => hb.2) fun _ _ => rfl⟩
theorem Le.pin {p : Tmp} {g : Nat} {t : TypeId} {d : D} {pre post : List Obj} (hl : look S.regs p = some (.val (.v (.pointer (some ⟨g, 0, none⟩))))) (ho : S.objs = pre ++ .var g t d :: post) : Le X S ⟨(p, .val (.pd d)) :: S.regs, pre ++ post, S.facts⟩ := by
 intro a w h
 have hm := h.mem
 rw [ho] at hm
 have hsub : (pre ++ post).Sublist S.objs := by rw [ho]; exact List.Sublist.append (List.Sublist.refl _) (List.sublist_cons_self _ _)
 have hl' : At X ⟨S.regs, pre ++ post, S.facts⟩ a w := ⟨h.mem.less hsub (fun _ hf => hf), fun t r ht => ReadR.mono (fun b hb => ⟨hb.1, hb.2.1, fun o hm => hb.2.2 o (hsub.subset hm)⟩) (fun _ _ => rfl) (h.regs t r ht), h.size, h.defers⟩
 refine ⟨hl'.mem, fun u r hu => ?_, hl'.size, hl'.defers⟩
 rw [look] at hu
 split at hu
 ·
  rename_i e
  cases hu
  subst e
  obtain ⟨h1, cs, h2, h3⟩ := hm.at_ (.var g t d) (by simp)
  have hp := (readV_v.1 (h.regs _ _ hl)).2
  rw [hp]
  refine (readV_one rfl).2 ?_
  rw [Reads]
  refine ⟨g, 0, cs, rfl, ⟨.inr h1, lt_of_some h2, fun q hq => ?_⟩, range_of_row h2, Reads.mono (fun b hb => ⟨hb.1, hb.2.1, fun o hm => hb.2.2 o (by
   rcases List.mem_append.1 hm with hm | hm
   · simp [hm]
   · simp [hm])⟩) (fun _ _ => rfl) _ _ h3⟩
  have hap := hm.apart
  rcases List.mem_append.1 hq with hq | hq
  · exact fun e => (List.pairwise_append.1 hap).2.2 q hq _ (List.mem_cons_self) g e rfl
  · exact (List.pairwise_cons.1 (List.pairwise_append.1 hap).2.1).1 q hq g rfl
 · exact hl'.regs u r hu
end
end E
end Go.Proofs.Ytiledgojbpmoiaa
