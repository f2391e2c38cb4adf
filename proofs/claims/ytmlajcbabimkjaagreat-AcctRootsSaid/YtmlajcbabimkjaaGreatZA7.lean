/-
  Merged (wip/tools/merge.py): E10, EB, ECmp, EM.
  Conditions: none.
-/
import Derived.Test.YtmlajcbabimkjaaGreatZA6
import Derived.Stop.BytesEq
import Derived.Carry
import Derived.MapKept
/-
  The abstract machine's rules, the operation written out. (Printed by wip/tools/erules.py.)
  Conditions: none.
-/
namespace Go.Proofs.YtmlajcbabimkjaaGreat
set_option linter.unusedVariables false
open Go.RowKit Mono Rlp
namespace E
section
variable {N : Nat} {X : Cx N} {S S' : St} {ops : Array Oper} {o : Oper} {Q : Exit → Act → World → Prop} {l : List Oper} {TT : St → List Fr → Prop} {EE : List Fr} {rs : List (Tmp × R)} {os : List Obj} {fs : List (Value × D)}
inductive SetAt : List Obj → Obj → Obj → List Obj → Prop where
  | z {p q : Obj} {m : List Obj} : SetAt (p :: m) p q (q :: m)
  | s {a p q : Obj} {m m' : List Obj} (h : SetAt m p q m') : SetAt (a :: m) p q (a :: m')
theorem SetAt.ix {p q : Obj} {m m' : List Obj} (h : SetAt m p q m') : ∃ i : Nat, m[i]? = some p ∧ m' = m.set i q := by
  induction h with
  | z => exact ⟨0, rfl, rfl⟩
  | s h ih =>
    obtain ⟨i, h1, h2⟩ := ih
    exact ⟨i + 1, by simpa using h1, by rw [h2]; rfl⟩
inductive SetAtF : List Obj → Obj → (Value → Obj) → (Value → List Obj) → Prop where
  | z {p : Obj} {q : Value → Obj} {m : List Obj} : SetAtF (p :: m) p q (fun v => q v :: m)
  | s {a p : Obj} {q : Value → Obj} {m : List Obj} {m' : Value → List Obj} (h : SetAtF m p q m') : SetAtF (a :: m) p q (fun v => a :: m' v)
theorem SetAtF.ix {p : Obj} {q : Value → Obj} {m : List Obj} {m' : Value → List Obj} (h : SetAtF m p q m') : ∃ i : Nat, m[i]? = some p ∧ ∀ v, m' v = m.set i (q v) := by
  induction h with
  | z => exact ⟨0, rfl, fun v => rfl⟩
  | s h ih =>
    obtain ⟨i, h1, h2⟩ := ih
    exact ⟨i + 1, by simpa using h1, fun v => congrArg (List.cons _) (h2 v)⟩
theorem I0 {α : Type} {a : α} {m : List α} : (a :: m)[0]? = some a := rfl
theorem I1 {α : Type} {o0 a : α} {m : List α} : (o0 :: a :: m)[1]? = some a := rfl
theorem I2 {α : Type} {o0 o1 a : α} {m : List α} : (o0 :: o1 :: a :: m)[2]? = some a := rfl
theorem I3 {α : Type} {o0 o1 o2 a : α} {m : List α} : (o0 :: o1 :: o2 :: a :: m)[3]? = some a := rfl
theorem I4 {α : Type} {o0 o1 o2 o3 a : α} {m : List α} : (o0 :: o1 :: o2 :: o3 :: a :: m)[4]? = some a := rfl
theorem I5 {α : Type} {o0 o1 o2 o3 o4 a : α} {m : List α} : (o0 :: o1 :: o2 :: o3 :: o4 :: a :: m)[5]? = some a := rfl
theorem I6 {α : Type} {o0 o1 o2 o3 o4 o5 a : α} {m : List α} : (o0 :: o1 :: o2 :: o3 :: o4 :: o5 :: a :: m)[6]? = some a := rfl
def Bin (op : BinOp) (T : TypeId) (d e : D) (c : Value) : Prop := c.oneCell' = true ∧ ∀ ok w p q, ReadV ok w d p → ReadV ok w e q → (∀ x y, (eqGuard op T x y p q).run Tryz.prog w = .ok () w) ∧ (binOp op T p q).run Tryz.prog w = .ok c w
theorem g_binI {x y : Operand} {op : BinOp} {T U : TypeId} {d e : D} {c : Value} (ho : o.op = .binOp op T x y U) (hx : ev S x = some (.val d)) (hy : ev S y = some (.val e)) (h : Bin op T d e c) : Still ops S o (.val (.v c)) :=
  g_bin ho hx hy h.1 fun ok w p q hp hq => ⟨(h.2 ok w p q hp hq).1 x y, (h.2 ok w p q hp hq).2⟩
theorem g_indexJ {x y : Operand} {T e z b : Nat} {k : Int} {ds : List D} {d : D} (ho : o.op = .indexAddr T x y) (hx : ev S x = some (.val (.sl z ds))) (hy : ev S y = some (.val (.v (.int .i64 k)))) (hT : assoc slL T = some (e, z, b)) (hz : Nat.blt 0 z = true) (hk : 0 ≤ k ∧ ds[k.toNat]? = some d) : Still ops S o (.val (.pd d)) := by
  obtain ⟨h1, h2⟩ := List.getElem?_eq_some_iff.1 hk.2
  subst h2
  exact g_indexI ho hx hy hT hz hk.1 h1
theorem g_index_bsJ {x y : Operand} {T e b : Nat} {k : Int} {l1 : List UInt8} {c : UInt8} (ho : o.op = .indexAddr T x y) (hx : ev S x = some (.val (.bs l1))) (hy : ev S y = some (.val (.v (.int .i64 k)))) (hT : assoc slL T = some (e, 1, b)) (hk : 0 ≤ k ∧ l1[k.toNat]? = some c) : Still ops S o (.val (.pd (.v (bv c)))) := by
  obtain ⟨h1, h2⟩ := List.getElem?_eq_some_iff.1 hk.2
  subst h2
  exact g_index_bsI ho hx hy hT hk.1 h1
theorem P_move {t ty : Nat} {pos : String} {af : Array Edge} {gd : Option (Nat × Bool)} {x : Operand} {r : R} (hx : ev (⟨rs, os, fs⟩ : St) x = some r) (hg : guardOf ops ⟨rs, os, fs⟩ ⟨some t, .move x, ty, pos, af, gd⟩ = some true) (hN : Nat.blt t N = true) (kk : EL X ops Q l ⟨(t, r) :: rs, os, fs⟩) : EL X ops Q (⟨some t, .move x, ty, pos, af, gd⟩ :: l) ⟨rs, os, fs⟩ := ES.still (g_move rfl hx) hg rfl hN kk
theorem H_move {t ty : Nat} {pos : String} {af : Array Edge} {gd : Option (Nat × Bool)} {x : Operand} {r : R} (hx : ev (⟨rs, os, fs⟩ : St) x = some r) (hg : guardOf ops ⟨rs, os, fs⟩ ⟨some t, .move x, ty, pos, af, gd⟩ = some true) (hoff : offB N (some t) EE = true) (kk : EM N ops TT l ⟨(t, r) :: rs, os, fs⟩ EE) : EM N ops TT (⟨some t, .move x, ty, pos, af, gd⟩ :: l) ⟨rs, os, fs⟩ EE := EH.still (g_move rfl hx) hg rfl hoff kk
theorem P_assign {t ty : Nat} {pos : String} {af : Array Edge} {gd : Option (Nat × Bool)} {x : Operand} {r : R} (hx : ev (⟨rs, os, fs⟩ : St) x = some r) (hg : guardOf ops ⟨rs, os, fs⟩ ⟨some t, .assign x, ty, pos, af, gd⟩ = some true) (hN : Nat.blt t N = true) (kk : EL X ops Q l ⟨(t, r) :: rs, os, fs⟩) : EL X ops Q (⟨some t, .assign x, ty, pos, af, gd⟩ :: l) ⟨rs, os, fs⟩ := ES.still (g_assign rfl hx) hg rfl hN kk
theorem H_assign {t ty : Nat} {pos : String} {af : Array Edge} {gd : Option (Nat × Bool)} {x : Operand} {r : R} (hx : ev (⟨rs, os, fs⟩ : St) x = some r) (hg : guardOf ops ⟨rs, os, fs⟩ ⟨some t, .assign x, ty, pos, af, gd⟩ = some true) (hoff : offB N (some t) EE = true) (kk : EM N ops TT l ⟨(t, r) :: rs, os, fs⟩ EE) : EM N ops TT (⟨some t, .assign x, ty, pos, af, gd⟩ :: l) ⟨rs, os, fs⟩ EE := EH.still (g_assign rfl hx) hg rfl hoff kk
theorem P_extract {t ty : Nat} {pos : String} {af : Array Edge} {gd : Option (Nat × Bool)} {x : Operand} {i : Nat} {ds : List D} {d : D} (hx : ev (⟨rs, os, fs⟩ : St) x = some (.tpl ds)) (hd : ds[i]? = some d) (hg : guardOf ops ⟨rs, os, fs⟩ ⟨some t, .extract x i, ty, pos, af, gd⟩ = some true) (hN : Nat.blt t N = true) (kk : EL X ops Q l ⟨(t, (.val d)) :: rs, os, fs⟩) : EL X ops Q (⟨some t, .extract x i, ty, pos, af, gd⟩ :: l) ⟨rs, os, fs⟩ := ES.still (g_extract rfl hx hd) hg rfl hN kk
theorem H_extract {t ty : Nat} {pos : String} {af : Array Edge} {gd : Option (Nat × Bool)} {x : Operand} {i : Nat} {ds : List D} {d : D} (hx : ev (⟨rs, os, fs⟩ : St) x = some (.tpl ds)) (hd : ds[i]? = some d) (hg : guardOf ops ⟨rs, os, fs⟩ ⟨some t, .extract x i, ty, pos, af, gd⟩ = some true) (hoff : offB N (some t) EE = true) (kk : EM N ops TT l ⟨(t, (.val d)) :: rs, os, fs⟩ EE) : EM N ops TT (⟨some t, .extract x i, ty, pos, af, gd⟩ :: l) ⟨rs, os, fs⟩ EE := EH.still (g_extract rfl hx hd) hg rfl hoff kk
theorem P_pick {t ty : Nat} {pos : String} {af : Array Edge} {gd : Option (Nat × Bool)} {c x y : Operand} {b : Bool} {r : R} (hc : ev (⟨rs, os, fs⟩ : St) c = some (.val (.v (.bool b)))) (hx : ev (⟨rs, os, fs⟩ : St) (if b then x else y) = some r) (hg : guardOf ops ⟨rs, os, fs⟩ ⟨some t, .pick c x y, ty, pos, af, gd⟩ = some true) (hN : Nat.blt t N = true) (kk : EL X ops Q l ⟨(t, r) :: rs, os, fs⟩) : EL X ops Q (⟨some t, .pick c x y, ty, pos, af, gd⟩ :: l) ⟨rs, os, fs⟩ := ES.still (g_pick rfl hc hx) hg rfl hN kk
theorem H_pick {t ty : Nat} {pos : String} {af : Array Edge} {gd : Option (Nat × Bool)} {c x y : Operand} {b : Bool} {r : R} (hc : ev (⟨rs, os, fs⟩ : St) c = some (.val (.v (.bool b)))) (hx : ev (⟨rs, os, fs⟩ : St) (if b then x else y) = some r) (hg : guardOf ops ⟨rs, os, fs⟩ ⟨some t, .pick c x y, ty, pos, af, gd⟩ = some true) (hoff : offB N (some t) EE = true) (kk : EM N ops TT l ⟨(t, r) :: rs, os, fs⟩ EE) : EM N ops TT (⟨some t, .pick c x y, ty, pos, af, gd⟩ :: l) ⟨rs, os, fs⟩ EE := EH.still (g_pick rfl hc hx) hg rfl hoff kk
theorem P_field {t ty : Nat} {pos : String} {af : Array Edge} {gd : Option (Nat × Bool)} {x : Operand} {T k off sz g n : Nat} {ag : Bool} {lf : List (Nat × Nat × Bool)} (hx : ev (⟨rs, os, fs⟩ : St) x = some (.val (.v (.pointer (some ⟨g, n, none⟩))))) (h : assoc stL T = some lf) (hk : lf[k]? = some (off, sz, ag)) (h0 : Nat.blt 0 sz = true) (hg : guardOf ops ⟨rs, os, fs⟩ ⟨some t, .fieldAddr T x k, ty, pos, af, gd⟩ = some true) (hN : Nat.blt t N = true) (kk : EL X ops Q l ⟨(t, (.val (.v (.pointer (some ⟨g, n + off, none⟩))))) :: rs, os, fs⟩) : EL X ops Q (⟨some t, .fieldAddr T x k, ty, pos, af, gd⟩ :: l) ⟨rs, os, fs⟩ := ES.still (g_fieldI rfl hx h hk h0) hg rfl hN kk
theorem H_field {t ty : Nat} {pos : String} {af : Array Edge} {gd : Option (Nat × Bool)} {x : Operand} {T k off sz g n : Nat} {ag : Bool} {lf : List (Nat × Nat × Bool)} (hx : ev (⟨rs, os, fs⟩ : St) x = some (.val (.v (.pointer (some ⟨g, n, none⟩))))) (h : assoc stL T = some lf) (hk : lf[k]? = some (off, sz, ag)) (h0 : Nat.blt 0 sz = true) (hg : guardOf ops ⟨rs, os, fs⟩ ⟨some t, .fieldAddr T x k, ty, pos, af, gd⟩ = some true) (hoff : offB N (some t) EE = true) (kk : EM N ops TT l ⟨(t, (.val (.v (.pointer (some ⟨g, n + off, none⟩))))) :: rs, os, fs⟩ EE) : EM N ops TT (⟨some t, .fieldAddr T x k, ty, pos, af, gd⟩ :: l) ⟨rs, os, fs⟩ EE := EH.still (g_fieldI rfl hx h hk h0) hg rfl hoff kk
theorem P_fieldpd {t ty : Nat} {pos : String} {af : Array Edge} {gd : Option (Nat × Bool)} {x : Operand} {T k off sz : Nat} {ag : Bool} {d d' : D} {lf : List (Nat × Nat × Bool)} (hx : ev (⟨rs, os, fs⟩ : St) x = some (.val (.pd d))) (h : assoc stL T = some lf) (hk : lf[k]? = some (off, sz, ag)) (h0 : Nat.blt 0 sz = true) (hs : d.sub off sz ag = some d') (hg : guardOf ops ⟨rs, os, fs⟩ ⟨some t, .fieldAddr T x k, ty, pos, af, gd⟩ = some true) (hN : Nat.blt t N = true) (kk : EL X ops Q l ⟨(t, (.val (.pd d'))) :: rs, os, fs⟩) : EL X ops Q (⟨some t, .fieldAddr T x k, ty, pos, af, gd⟩ :: l) ⟨rs, os, fs⟩ := ES.still (g_field_pdI rfl hx h hk h0 hs) hg rfl hN kk
theorem H_fieldpd {t ty : Nat} {pos : String} {af : Array Edge} {gd : Option (Nat × Bool)} {x : Operand} {T k off sz : Nat} {ag : Bool} {d d' : D} {lf : List (Nat × Nat × Bool)} (hx : ev (⟨rs, os, fs⟩ : St) x = some (.val (.pd d))) (h : assoc stL T = some lf) (hk : lf[k]? = some (off, sz, ag)) (h0 : Nat.blt 0 sz = true) (hs : d.sub off sz ag = some d') (hg : guardOf ops ⟨rs, os, fs⟩ ⟨some t, .fieldAddr T x k, ty, pos, af, gd⟩ = some true) (hoff : offB N (some t) EE = true) (kk : EM N ops TT l ⟨(t, (.val (.pd d'))) :: rs, os, fs⟩ EE) : EM N ops TT (⟨some t, .fieldAddr T x k, ty, pos, af, gd⟩ :: l) ⟨rs, os, fs⟩ EE := EH.still (g_field_pdI rfl hx h hk h0 hs) hg rfl hoff kk
theorem P_loadpd {t ty : Nat} {pos : String} {af : Array Edge} {gd : Option (Nat × Bool)} {x : Operand} {T sz : Nat} {ag : Bool} {d d' : D} (hx : ev (⟨rs, os, fs⟩ : St) x = some (.val (.pd d))) (hT : assoc tyL T = some (sz, ag)) (hs : d.sub 0 sz ag = some d') (hg : guardOf ops ⟨rs, os, fs⟩ ⟨some t, .load T x, ty, pos, af, gd⟩ = some true) (hN : Nat.blt t N = true) (kk : EL X ops Q l ⟨(t, (.val d')) :: rs, os, fs⟩) : EL X ops Q (⟨some t, .load T x, ty, pos, af, gd⟩ :: l) ⟨rs, os, fs⟩ := ES.still (g_load_pdI rfl hx hT hs) hg rfl hN kk
theorem H_loadpd {t ty : Nat} {pos : String} {af : Array Edge} {gd : Option (Nat × Bool)} {x : Operand} {T sz : Nat} {ag : Bool} {d d' : D} (hx : ev (⟨rs, os, fs⟩ : St) x = some (.val (.pd d))) (hT : assoc tyL T = some (sz, ag)) (hs : d.sub 0 sz ag = some d') (hg : guardOf ops ⟨rs, os, fs⟩ ⟨some t, .load T x, ty, pos, af, gd⟩ = some true) (hoff : offB N (some t) EE = true) (kk : EM N ops TT l ⟨(t, (.val d')) :: rs, os, fs⟩ EE) : EM N ops TT (⟨some t, .load T x, ty, pos, af, gd⟩ :: l) ⟨rs, os, fs⟩ EE := EH.still (g_load_pdI rfl hx hT hs) hg rfl hoff kk
theorem P_lenbs {t ty : Nat} {pos : String} {af : Array Edge} {gd : Option (Nat × Bool)} {x : Operand} {T e z y : Nat} {b : List UInt8} (hx : ev (⟨rs, os, fs⟩ : St) x = some (.val (.bs b))) (hT : assoc slL T = some (e, z, y)) (hg : guardOf ops ⟨rs, os, fs⟩ ⟨some t, .call { callee := .builtin .len, args := #[x], argTypes := #[T] }, ty, pos, af, gd⟩ = some true) (hN : Nat.blt t N = true) (kk : EL X ops Q l ⟨(t, (.val (.v (.int .i64 b.length)))) :: rs, os, fs⟩) : EL X ops Q (⟨some t, .call { callee := .builtin .len, args := #[x], argTypes := #[T] }, ty, pos, af, gd⟩ :: l) ⟨rs, os, fs⟩ := ES.still (g_len_bsI rfl hx hT) hg rfl hN kk
theorem H_lenbs {t ty : Nat} {pos : String} {af : Array Edge} {gd : Option (Nat × Bool)} {x : Operand} {T e z y : Nat} {b : List UInt8} (hx : ev (⟨rs, os, fs⟩ : St) x = some (.val (.bs b))) (hT : assoc slL T = some (e, z, y)) (hg : guardOf ops ⟨rs, os, fs⟩ ⟨some t, .call { callee := .builtin .len, args := #[x], argTypes := #[T] }, ty, pos, af, gd⟩ = some true) (hoff : offB N (some t) EE = true) (kk : EM N ops TT l ⟨(t, (.val (.v (.int .i64 b.length)))) :: rs, os, fs⟩ EE) : EM N ops TT (⟨some t, .call { callee := .builtin .len, args := #[x], argTypes := #[T] }, ty, pos, af, gd⟩ :: l) ⟨rs, os, fs⟩ EE := EH.still (g_len_bsI rfl hx hT) hg rfl hoff kk
theorem P_lensl {t ty : Nat} {pos : String} {af : Array Edge} {gd : Option (Nat × Bool)} {x : Operand} {T e z y z' : Nat} {ds : List D} (hx : ev (⟨rs, os, fs⟩ : St) x = some (.val (.sl z' ds))) (hT : assoc slL T = some (e, z, y)) (hg : guardOf ops ⟨rs, os, fs⟩ ⟨some t, .call { callee := .builtin .len, args := #[x], argTypes := #[T] }, ty, pos, af, gd⟩ = some true) (hN : Nat.blt t N = true) (kk : EL X ops Q l ⟨(t, (.val (.v (.int .i64 ds.length)))) :: rs, os, fs⟩) : EL X ops Q (⟨some t, .call { callee := .builtin .len, args := #[x], argTypes := #[T] }, ty, pos, af, gd⟩ :: l) ⟨rs, os, fs⟩ := ES.still (g_len_slI rfl hx hT) hg rfl hN kk
theorem H_lensl {t ty : Nat} {pos : String} {af : Array Edge} {gd : Option (Nat × Bool)} {x : Operand} {T e z y z' : Nat} {ds : List D} (hx : ev (⟨rs, os, fs⟩ : St) x = some (.val (.sl z' ds))) (hT : assoc slL T = some (e, z, y)) (hg : guardOf ops ⟨rs, os, fs⟩ ⟨some t, .call { callee := .builtin .len, args := #[x], argTypes := #[T] }, ty, pos, af, gd⟩ = some true) (hoff : offB N (some t) EE = true) (kk : EM N ops TT l ⟨(t, (.val (.v (.int .i64 ds.length)))) :: rs, os, fs⟩ EE) : EM N ops TT (⟨some t, .call { callee := .builtin .len, args := #[x], argTypes := #[T] }, ty, pos, af, gd⟩ :: l) ⟨rs, os, fs⟩ EE := EH.still (g_len_slI rfl hx hT) hg rfl hoff kk
theorem P_lenv {t ty : Nat} {pos : String} {af : Array Edge} {gd : Option (Nat × Bool)} {x : Operand} {T e n c z y : Nat} {A : Option Addr} (hx : ev (⟨rs, os, fs⟩ : St) x = some (.val (.v (.slice A n c)))) (hT : assoc slL T = some (e, z, y)) (hg : guardOf ops ⟨rs, os, fs⟩ ⟨some t, .call { callee := .builtin .len, args := #[x], argTypes := #[T] }, ty, pos, af, gd⟩ = some true) (hN : Nat.blt t N = true) (kk : EL X ops Q l ⟨(t, (.val (.v (.int .i64 n)))) :: rs, os, fs⟩) : EL X ops Q (⟨some t, .call { callee := .builtin .len, args := #[x], argTypes := #[T] }, ty, pos, af, gd⟩ :: l) ⟨rs, os, fs⟩ := ES.still (g_len_nilI rfl hx hT) hg rfl hN kk
theorem P_cmp {t ty : Nat} {pos : String} {af : Array Edge} {gd : Option (Nat × Bool)} {x y : Operand} {op : BinOp} {T U : TypeId} {k : IntKind} {m n : Int} {b : Bool} (hx : ev (⟨rs, os, fs⟩ : St) x = some (.val (.v (.int k m)))) (hy : ev (⟨rs, os, fs⟩ : St) y = some (.val (.v (.int k n)))) (hb : cmpI op m n = some b) (hg : guardOf ops ⟨rs, os, fs⟩ ⟨some t, .binOp op T x y U, ty, pos, af, gd⟩ = some true) (hN : Nat.blt t N = true) (kk : EL X ops Q l ⟨(t, (.val (.v (.bool b)))) :: rs, os, fs⟩) : EL X ops Q (⟨some t, .binOp op T x y U, ty, pos, af, gd⟩ :: l) ⟨rs, os, fs⟩ := ES.still (g_cmp rfl hx hy hb) hg rfl hN kk
theorem H_cmp {t ty : Nat} {pos : String} {af : Array Edge} {gd : Option (Nat × Bool)} {x y : Operand} {op : BinOp} {T U : TypeId} {k : IntKind} {m n : Int} {b : Bool} (hx : ev (⟨rs, os, fs⟩ : St) x = some (.val (.v (.int k m)))) (hy : ev (⟨rs, os, fs⟩ : St) y = some (.val (.v (.int k n)))) (hb : cmpI op m n = some b) (hg : guardOf ops ⟨rs, os, fs⟩ ⟨some t, .binOp op T x y U, ty, pos, af, gd⟩ = some true) (hoff : offB N (some t) EE = true) (kk : EM N ops TT l ⟨(t, (.val (.v (.bool b)))) :: rs, os, fs⟩ EE) : EM N ops TT (⟨some t, .binOp op T x y U, ty, pos, af, gd⟩ :: l) ⟨rs, os, fs⟩ EE := EH.still (g_cmp rfl hx hy hb) hg rfl hoff kk
theorem P_ar {t ty : Nat} {pos : String} {af : Array Edge} {gd : Option (Nat × Bool)} {x y : Operand} {op : BinOp} {T U : TypeId} {m n s : Int} (hx : ev (⟨rs, os, fs⟩ : St) x = some (.val (.v (.int .i64 m)))) (hy : ev (⟨rs, os, fs⟩ : St) y = some (.val (.v (.int .i64 n)))) (hb : arI op m n = some s) (h1 : -9223372036854775808 ≤ s) (h2 : s ≤ 9223372036854775807) (hg : guardOf ops ⟨rs, os, fs⟩ ⟨some t, .binOp op T x y U, ty, pos, af, gd⟩ = some true) (hN : Nat.blt t N = true) (kk : EL X ops Q l ⟨(t, (.val (.v (.int .i64 s)))) :: rs, os, fs⟩) : EL X ops Q (⟨some t, .binOp op T x y U, ty, pos, af, gd⟩ :: l) ⟨rs, os, fs⟩ := ES.still (g_ar rfl hx hy hb h1 h2) hg rfl hN kk
theorem H_ar {t ty : Nat} {pos : String} {af : Array Edge} {gd : Option (Nat × Bool)} {x y : Operand} {op : BinOp} {T U : TypeId} {m n s : Int} (hx : ev (⟨rs, os, fs⟩ : St) x = some (.val (.v (.int .i64 m)))) (hy : ev (⟨rs, os, fs⟩ : St) y = some (.val (.v (.int .i64 n)))) (hb : arI op m n = some s) (h1 : -9223372036854775808 ≤ s) (h2 : s ≤ 9223372036854775807) (hg : guardOf ops ⟨rs, os, fs⟩ ⟨some t, .binOp op T x y U, ty, pos, af, gd⟩ = some true) (hoff : offB N (some t) EE = true) (kk : EM N ops TT l ⟨(t, (.val (.v (.int .i64 s)))) :: rs, os, fs⟩ EE) : EM N ops TT (⟨some t, .binOp op T x y U, ty, pos, af, gd⟩ :: l) ⟨rs, os, fs⟩ EE := EH.still (g_ar rfl hx hy hb h1 h2) hg rfl hoff kk
theorem P_not {t ty : Nat} {pos : String} {af : Array Edge} {gd : Option (Nat × Bool)} {x : Operand} {T : TypeId} {b : Bool} (hx : ev (⟨rs, os, fs⟩ : St) x = some (.val (.v (.bool b)))) (hg : guardOf ops ⟨rs, os, fs⟩ ⟨some t, .unOp .not T x, ty, pos, af, gd⟩ = some true) (hN : Nat.blt t N = true) (kk : EL X ops Q l ⟨(t, (.val (.v (.bool (!b))))) :: rs, os, fs⟩) : EL X ops Q (⟨some t, .unOp .not T x, ty, pos, af, gd⟩ :: l) ⟨rs, os, fs⟩ := ES.still (g_not rfl hx) hg rfl hN kk
theorem H_not {t ty : Nat} {pos : String} {af : Array Edge} {gd : Option (Nat × Bool)} {x : Operand} {T : TypeId} {b : Bool} (hx : ev (⟨rs, os, fs⟩ : St) x = some (.val (.v (.bool b)))) (hg : guardOf ops ⟨rs, os, fs⟩ ⟨some t, .unOp .not T x, ty, pos, af, gd⟩ = some true) (hoff : offB N (some t) EE = true) (kk : EM N ops TT l ⟨(t, (.val (.v (.bool (!b))))) :: rs, os, fs⟩ EE) : EM N ops TT (⟨some t, .unOp .not T x, ty, pos, af, gd⟩ :: l) ⟨rs, os, fs⟩ EE := EH.still (g_not rfl hx) hg rfl hoff kk
theorem P_str {t ty : Nat} {pos : String} {af : Array Edge} {gd : Option (Nat × Bool)} {x : Operand} {b : List UInt8} (hx : ev (⟨rs, os, fs⟩ : St) x = some (.val (.bs b))) (hg : guardOf ops ⟨rs, os, fs⟩ ⟨some t, .convert 30 9 x, ty, pos, af, gd⟩ = some true) (hN : Nat.blt t N = true) (kk : EL X ops Q l ⟨(t, (.val (.v (.string (Go.Proofs.YtmlajcbabimkjaaGreat.bs b))))) :: rs, os, fs⟩) : EL X ops Q (⟨some t, .convert 30 9 x, ty, pos, af, gd⟩ :: l) ⟨rs, os, fs⟩ := ES.still (g_str rfl hx) hg rfl hN kk
theorem H_str {t ty : Nat} {pos : String} {af : Array Edge} {gd : Option (Nat × Bool)} {x : Operand} {b : List UInt8} (hx : ev (⟨rs, os, fs⟩ : St) x = some (.val (.bs b))) (hg : guardOf ops ⟨rs, os, fs⟩ ⟨some t, .convert 30 9 x, ty, pos, af, gd⟩ = some true) (hoff : offB N (some t) EE = true) (kk : EM N ops TT l ⟨(t, (.val (.v (.string (Go.Proofs.YtmlajcbabimkjaaGreat.bs b))))) :: rs, os, fs⟩ EE) : EM N ops TT (⟨some t, .convert 30 9 x, ty, pos, af, gd⟩ :: l) ⟨rs, os, fs⟩ EE := EH.still (g_str rfl hx) hg rfl hoff kk
theorem P_bin {t ty : Nat} {pos : String} {af : Array Edge} {gd : Option (Nat × Bool)} {x y : Operand} {op : BinOp} {T U : TypeId} {d e : D} {c : Value} (hx : ev (⟨rs, os, fs⟩ : St) x = some (.val d)) (hy : ev (⟨rs, os, fs⟩ : St) y = some (.val e)) (hrun : Bin op T d e c) (hg : guardOf ops ⟨rs, os, fs⟩ ⟨some t, .binOp op T x y U, ty, pos, af, gd⟩ = some true) (hN : Nat.blt t N = true) (kk : EL X ops Q l ⟨(t, (.val (.v c))) :: rs, os, fs⟩) : EL X ops Q (⟨some t, .binOp op T x y U, ty, pos, af, gd⟩ :: l) ⟨rs, os, fs⟩ := ES.still (g_binI rfl hx hy hrun) hg rfl hN kk
theorem H_bin {t ty : Nat} {pos : String} {af : Array Edge} {gd : Option (Nat × Bool)} {x y : Operand} {op : BinOp} {T U : TypeId} {d e : D} {c : Value} (hx : ev (⟨rs, os, fs⟩ : St) x = some (.val d)) (hy : ev (⟨rs, os, fs⟩ : St) y = some (.val e)) (hrun : Bin op T d e c) (hg : guardOf ops ⟨rs, os, fs⟩ ⟨some t, .binOp op T x y U, ty, pos, af, gd⟩ = some true) (hoff : offB N (some t) EE = true) (kk : EM N ops TT l ⟨(t, (.val (.v c))) :: rs, os, fs⟩ EE) : EM N ops TT (⟨some t, .binOp op T x y U, ty, pos, af, gd⟩ :: l) ⟨rs, os, fs⟩ EE := EH.still (g_binI rfl hx hy hrun) hg rfl hoff kk
theorem P_build {t ty : Nat} {pos : String} {af : Array Edge} {gd : Option (Nat × Bool)} {T : Nat} {parts : Array (Nat × Operand)} {lf : List (Nat × Nat × Bool)} {d0 d : D} {ps : List (Nat × D)} (hx : evps (⟨rs, os, fs⟩ : St) parts.toList = some ps) (hT : assoc stL T = some lf) (hz : assoc zeroL T = some d0) (hd0 : d0.agg = true) (hf : fillD (lf.map fun x => (x.1, x.2.1)) d0 ps = some d) (hg : guardOf ops ⟨rs, os, fs⟩ ⟨some t, .build T parts, ty, pos, af, gd⟩ = some true) (hN : Nat.blt t N = true) (kk : EL X ops Q l ⟨(t, (.val d)) :: rs, os, fs⟩) : EL X ops Q (⟨some t, .build T parts, ty, pos, af, gd⟩ :: l) ⟨rs, os, fs⟩ := ES.still (g_buildI rfl hx hT hz hd0 hf) hg rfl hN kk
theorem H_build {t ty : Nat} {pos : String} {af : Array Edge} {gd : Option (Nat × Bool)} {T : Nat} {parts : Array (Nat × Operand)} {lf : List (Nat × Nat × Bool)} {d0 d : D} {ps : List (Nat × D)} (hx : evps (⟨rs, os, fs⟩ : St) parts.toList = some ps) (hT : assoc stL T = some lf) (hz : assoc zeroL T = some d0) (hd0 : d0.agg = true) (hf : fillD (lf.map fun x => (x.1, x.2.1)) d0 ps = some d) (hg : guardOf ops ⟨rs, os, fs⟩ ⟨some t, .build T parts, ty, pos, af, gd⟩ = some true) (hoff : offB N (some t) EE = true) (kk : EM N ops TT l ⟨(t, (.val d)) :: rs, os, fs⟩ EE) : EM N ops TT (⟨some t, .build T parts, ty, pos, af, gd⟩ :: l) ⟨rs, os, fs⟩ EE := EH.still (g_buildI rfl hx hT hz hd0 hf) hg rfl hoff kk
theorem P_build0 {t ty : Nat} {pos : String} {af : Array Edge} {gd : Option (Nat × Bool)} {T n e z : Nat} {d : D} (hT : assoc arL T = some (n, e, z)) (hz : assoc zeroL T = some d) (hd : d.agg = true) (hg : guardOf ops ⟨rs, os, fs⟩ ⟨some t, .build T #[], ty, pos, af, gd⟩ = some true) (hN : Nat.blt t N = true) (kk : EL X ops Q l ⟨(t, (.val d)) :: rs, os, fs⟩) : EL X ops Q (⟨some t, .build T #[], ty, pos, af, gd⟩ :: l) ⟨rs, os, fs⟩ := ES.still (g_build0I rfl hT hz hd) hg rfl hN kk
theorem H_build0 {t ty : Nat} {pos : String} {af : Array Edge} {gd : Option (Nat × Bool)} {T n e z : Nat} {d : D} (hT : assoc arL T = some (n, e, z)) (hz : assoc zeroL T = some d) (hd : d.agg = true) (hg : guardOf ops ⟨rs, os, fs⟩ ⟨some t, .build T #[], ty, pos, af, gd⟩ = some true) (hoff : offB N (some t) EE = true) (kk : EM N ops TT l ⟨(t, (.val d)) :: rs, os, fs⟩ EE) : EM N ops TT (⟨some t, .build T #[], ty, pos, af, gd⟩ :: l) ⟨rs, os, fs⟩ EE := EH.still (g_build0I rfl hT hz hd) hg rfl hoff kk
theorem P_index {t ty : Nat} {pos : String} {af : Array Edge} {gd : Option (Nat × Bool)} {x y : Operand} {T e z b : Nat} {k : Int} {ds : List D} {d : D} (hx : ev (⟨rs, os, fs⟩ : St) x = some (.val (.sl z ds))) (hy : ev (⟨rs, os, fs⟩ : St) y = some (.val (.v (.int .i64 k)))) (hT : assoc slL T = some (e, z, b)) (hz : Nat.blt 0 z = true) (hk : 0 ≤ k ∧ ds[k.toNat]? = some d) (hg : guardOf ops ⟨rs, os, fs⟩ ⟨some t, .indexAddr T x y, ty, pos, af, gd⟩ = some true) (hN : Nat.blt t N = true) (kk : EL X ops Q l ⟨(t, (.val (.pd d))) :: rs, os, fs⟩) : EL X ops Q (⟨some t, .indexAddr T x y, ty, pos, af, gd⟩ :: l) ⟨rs, os, fs⟩ := ES.still (g_indexJ rfl hx hy hT hz hk) hg rfl hN kk
theorem H_index {t ty : Nat} {pos : String} {af : Array Edge} {gd : Option (Nat × Bool)} {x y : Operand} {T e z b : Nat} {k : Int} {ds : List D} {d : D} (hx : ev (⟨rs, os, fs⟩ : St) x = some (.val (.sl z ds))) (hy : ev (⟨rs, os, fs⟩ : St) y = some (.val (.v (.int .i64 k)))) (hT : assoc slL T = some (e, z, b)) (hz : Nat.blt 0 z = true) (hk : 0 ≤ k ∧ ds[k.toNat]? = some d) (hg : guardOf ops ⟨rs, os, fs⟩ ⟨some t, .indexAddr T x y, ty, pos, af, gd⟩ = some true) (hoff : offB N (some t) EE = true) (kk : EM N ops TT l ⟨(t, (.val (.pd d))) :: rs, os, fs⟩ EE) : EM N ops TT (⟨some t, .indexAddr T x y, ty, pos, af, gd⟩ :: l) ⟨rs, os, fs⟩ EE := EH.still (g_indexJ rfl hx hy hT hz hk) hg rfl hoff kk
theorem P_indexbs {t ty : Nat} {pos : String} {af : Array Edge} {gd : Option (Nat × Bool)} {x y : Operand} {T e b : Nat} {k : Int} {l1 : List UInt8} {c : UInt8} (hx : ev (⟨rs, os, fs⟩ : St) x = some (.val (.bs l1))) (hy : ev (⟨rs, os, fs⟩ : St) y = some (.val (.v (.int .i64 k)))) (hT : assoc slL T = some (e, 1, b)) (hk : 0 ≤ k ∧ l1[k.toNat]? = some c) (hg : guardOf ops ⟨rs, os, fs⟩ ⟨some t, .indexAddr T x y, ty, pos, af, gd⟩ = some true) (hN : Nat.blt t N = true) (kk : EL X ops Q l ⟨(t, (.val (.pd (.v (bv c))))) :: rs, os, fs⟩) : EL X ops Q (⟨some t, .indexAddr T x y, ty, pos, af, gd⟩ :: l) ⟨rs, os, fs⟩ := ES.still (g_index_bsJ rfl hx hy hT hk) hg rfl hN kk
theorem P_load {t ty : Nat} {pos : String} {af : Array Edge} {gd : Option (Nat × Bool)} {x : Operand} {T sz g n i : Nat} {ag : Bool} {t0 : TypeId} {d d' : D} (hx : ev (⟨rs, os, fs⟩ : St) x = some (.val (.v (.pointer (some ⟨g, n, none⟩))))) (hi : os[i]? = some (.var g t0 d)) (hT : assoc tyL T = some (sz, ag)) (hs : d.sub n sz ag = some d') (hg : guardOf ops ⟨rs, os, fs⟩ ⟨some t, .load T x, ty, pos, af, gd⟩ = some true) (hN : Nat.blt t N = true) (kk : EL X ops Q l ⟨(t, (.val d')) :: rs, os, fs⟩) : EL X ops Q (⟨some t, .load T x, ty, pos, af, gd⟩ :: l) ⟨rs, os, fs⟩ := ES.still (g_loadI i rfl hx hi hT hs) hg rfl hN kk
theorem H_load {t ty : Nat} {pos : String} {af : Array Edge} {gd : Option (Nat × Bool)} {x : Operand} {T sz g n i : Nat} {ag : Bool} {t0 : TypeId} {d d' : D} (hx : ev (⟨rs, os, fs⟩ : St) x = some (.val (.v (.pointer (some ⟨g, n, none⟩))))) (hi : os[i]? = some (.var g t0 d)) (hT : assoc tyL T = some (sz, ag)) (hs : d.sub n sz ag = some d') (hg : guardOf ops ⟨rs, os, fs⟩ ⟨some t, .load T x, ty, pos, af, gd⟩ = some true) (hoff : offB N (some t) EE = true) (kk : EM N ops TT l ⟨(t, (.val d')) :: rs, os, fs⟩ EE) : EM N ops TT (⟨some t, .load T x, ty, pos, af, gd⟩ :: l) ⟨rs, os, fs⟩ EE := EH.still (g_loadI i rfl hx hi hT hs) hg rfl hoff kk
set_option maxRecDepth 100000 in
theorem P_lit {t ty T n e z y : Nat} {pos : String} {af : Array Edge} {gd : Option (Nat × Bool)} {parts : Array (Nat × Operand)} {ps : List (Nat × D)} {ds : List D} {d0 : D} (hx : evps (⟨rs, os, fs⟩ : St) parts.toList = some ps) (hT : assoc slL T = some (e, z, y)) (hz : assoc zeroL e = some d0) (hin : inRow 0 ps = some ds) (hsz : allB z ps = true) (hn : ps.length = n) (h0 : litB n z = true) (hg : guardOf ops ⟨rs, os, fs⟩ ⟨some t, .buildSlice T n parts, ty, pos, af, gd⟩ = some true) (hN : Nat.blt t N = true) (kk : EL X ops Q l ⟨(t, .val (.sl z ds)) :: rs, os, fs⟩) : EL X ops Q (⟨some t, .buildSlice T n parts, ty, pos, af, gd⟩ :: l) ⟨rs, os, fs⟩ := ES.grow (g_slice_litI (T := T) (n := n) (z := z) (parts := parts) rfl hx hT hz hin hsz hn h0) hg rfl hN kk
set_option maxRecDepth 100000 in
theorem H_lit {t ty T n e z y : Nat} {pos : String} {af : Array Edge} {gd : Option (Nat × Bool)} {parts : Array (Nat × Operand)} {ps : List (Nat × D)} {ds : List D} {d0 : D} (hx : evps (⟨rs, os, fs⟩ : St) parts.toList = some ps) (hT : assoc slL T = some (e, z, y)) (hz : assoc zeroL e = some d0) (hin : inRow 0 ps = some ds) (hsz : allB z ps = true) (hn : ps.length = n) (h0 : litB n z = true) (hg : guardOf ops ⟨rs, os, fs⟩ ⟨some t, .buildSlice T n parts, ty, pos, af, gd⟩ = some true) (hoff : offB N (some t) EE = true) (kk : EM N ops TT l ⟨(t, .val (.sl z ds)) :: rs, os, fs⟩ EE) : EM N ops TT (⟨some t, .buildSlice T n parts, ty, pos, af, gd⟩ :: l) ⟨rs, os, fs⟩ EE := EH.grow (g_slice_litI (T := T) (n := n) (z := z) (parts := parts) rfl hx hT hz hin hsz hn h0) hg rfl hoff kk
theorem P_call {t ty f : Nat} {pos : String} {af : Array Edge} {gd : Option (Nat × Bool)} {args : Array Operand} {tys : Array TypeId} {ds ds' : List D} {r : R} (hF : Fn f ds' (· = r)) (hx : evs (⟨rs, os, fs⟩ : St) args.toList = some ds) (hR : RefineL fs ds ds') (hf : Enters f) (hg : guardOf ops ⟨rs, os, fs⟩ ⟨some t, .call { callee := .value (.func f), args := args, argTypes := tys }, ty, pos, af, gd⟩ = some true) (hN : Nat.blt t N = true) (kk : EL X ops Q l ⟨(t, r) :: rs, os, fs⟩) : EL X ops Q (⟨some t, .call { callee := .value (.func f), args := args, argTypes := tys }, ty, pos, af, gd⟩ :: l) ⟨rs, os, fs⟩ := ES.call hF rfl hx hf hR hg rfl hN kk
theorem H_call {t ty f : Nat} {pos : String} {af : Array Edge} {gd : Option (Nat × Bool)} {args : Array Operand} {tys : Array TypeId} {ds ds' : List D} {r : R} (hF : Fn f ds' (· = r)) (hx : evs (⟨rs, os, fs⟩ : St) args.toList = some ds) (hR : RefineL fs ds ds') (hf : Enters f) (hg : guardOf ops ⟨rs, os, fs⟩ ⟨some t, .call { callee := .value (.func f), args := args, argTypes := tys }, ty, pos, af, gd⟩ = some true) (hoff : offB N (some t) EE = true) (kk : EM N ops TT l ⟨(t, r) :: rs, os, fs⟩ EE) : EM N ops TT (⟨some t, .call { callee := .value (.func f), args := args, argTypes := tys }, ty, pos, af, gd⟩ :: l) ⟨rs, os, fs⟩ EE := EH.call hF rfl hx hf hR hg rfl hoff kk
theorem P_callE {t ty f : Nat} {pos : String} {af : Array Edge} {gd : Option (Nat × Bool)} {args : Array Operand} {tys : Array TypeId} {ds ds' : List D} {Φ : R → Prop} (hF : Fn f ds' Φ) (hx : evs (⟨rs, os, fs⟩ : St) args.toList = some ds) (hR : RefineL fs ds ds') (hf : Enters f) (hg : guardOf ops ⟨rs, os, fs⟩ ⟨some t, .call { callee := .value (.func f), args := args, argTypes := tys }, ty, pos, af, gd⟩ = some true) (hN : Nat.blt t N = true) (kk : ∀ r, Φ r → EL X ops Q l ⟨(t, r) :: rs, os, fs⟩) : EL X ops Q (⟨some t, .call { callee := .value (.func f), args := args, argTypes := tys }, ty, pos, af, gd⟩ :: l) ⟨rs, os, fs⟩ := ES.callE hF rfl hx hf hR hg rfl hN kk
theorem P_skip {t ty : Nat} {op : Op} {pos : String} {af : Array Edge} {gd : Nat × Bool} (hg : guardOf ops ⟨rs, os, fs⟩ ⟨some t, op, ty, pos, af, some gd⟩ = some false) (hN : Nat.blt t N = true) (kk : EL X ops Q l ⟨(t, .tpl []) :: rs, os, fs⟩) : EL X ops Q (⟨some t, op, ty, pos, af, some gd⟩ :: l) ⟨rs, os, fs⟩ := ES.skip hg rfl hN kk
theorem H_skip {t ty : Nat} {op : Op} {pos : String} {af : Array Edge} {gd : Nat × Bool} (hg : guardOf ops ⟨rs, os, fs⟩ ⟨some t, op, ty, pos, af, some gd⟩ = some false) (hoff : offB N (some t) EE = true) (kk : EM N ops TT l ⟨(t, .tpl []) :: rs, os, fs⟩ EE) : EM N ops TT (⟨some t, op, ty, pos, af, some gd⟩ :: l) ⟨rs, os, fs⟩ EE := EH.skip hg rfl hoff kk
theorem P_alloc {t ty T : Nat} {pos : String} {af : Array Edge} {gd : Option (Nat × Bool)} {d : D} (hz : assoc zeroL T = some d) (hg : guardOf ops ⟨rs, os, fs⟩ ⟨some t, .alloc T, ty, pos, af, gd⟩ = some true) (hN : Nat.blt t N = true) (kk : ∀ g, EL X ops Q l ⟨(t, .val (.v (.pointer (some ⟨g, 0, none⟩)))) :: rs, .var g T d :: os, fs⟩) : EL X ops Q (⟨some t, .alloc T, ty, pos, af, gd⟩ :: l) ⟨rs, os, fs⟩ := ES.alloc rfl hz hg rfl hN kk
theorem P_box {t ty T : Nat} {pos : String} {af : Array Edge} {gd : Option (Nat × Bool)} {x : Operand} {d : D} (hx : ev (⟨rs, os, fs⟩ : St) x = some (.val d)) (hg : guardOf ops ⟨rs, os, fs⟩ ⟨some t, .box T x, ty, pos, af, gd⟩ = some true) (hN : Nat.blt t N = true) (kk : ∀ g, EL X ops Q l ⟨(t, .val (.v (.pointer (some ⟨g, 0, none⟩)))) :: rs, .var g T d :: os, fs⟩) : EL X ops Q (⟨some t, .box T x, ty, pos, af, gd⟩ :: l) ⟨rs, os, fs⟩ := ES.box rfl hx hg rfl hN kk
theorem P_store {T g n ty : Nat} {pos : String} {af : Array Edge} {gd : Option (Nat × Bool)} {x y : Operand} {t0 : TypeId} {d d' d'' : D} {os' : List Obj} (hx : ev (⟨rs, os, fs⟩ : St) x = some (.val (.v (.pointer (some ⟨g, n, none⟩))))) (hset : SetAt os (.var g t0 d) (.var g t0 d'') os') (hy : ev (⟨rs, os, fs⟩ : St) y = some (.val d')) (hT : assoc tyL T = some (d'.size, d'.agg)) (hu : d.upd n d' = some d'') (hg : guardOf ops ⟨rs, os, fs⟩ ⟨none, .store T x y, ty, pos, af, gd⟩ = some true) (kk : EL X ops Q l ⟨rs, os', fs⟩) : EL X ops Q (⟨none, .store T x y, ty, pos, af, gd⟩ :: l) ⟨rs, os, fs⟩ := by
  obtain ⟨i, hi, rfl⟩ := hset.ix
  exact EL.store i rfl rfl hg hx hi hy (tyI hT) hu kk
theorem P_append {t T e z y ty : Nat} {pos : String} {af : Array Edge} {gd : Option (Nat × Bool)} {s x : Operand} {v : Value} {ds es : List D} {os' : Value → List Obj} (hs : ev (⟨rs, os, fs⟩ : St) s = some (.val (.v v))) (hset : SetAtF os (.row v e z ds) (fun v' => .row v' e z (ds ++ es)) os') (hx : ev (⟨rs, os, fs⟩ : St) x = some (.val (.sl z es))) (hT : assoc slL T = some (e, z, y)) (hz : Nat.blt 0 z = true) (hg : guardOf ops ⟨rs, os, fs⟩ ⟨some t, .call { callee := .builtin .append, args := #[s, x], argTypes := #[T, T] }, ty, pos, af, gd⟩ = some true) (hN : Nat.blt t N = true) (hlen : (ds.length + es.length) * y ≤ 140737488355328 ∧ ds.length + es.length ≤ 9223372036854775807) (kk : ∀ v', EL X ops Q l ⟨(t, .val (.v v')) :: rs, os' v', fs⟩) : EL X ops Q (⟨some t, .call { callee := .builtin .append, args := #[s, x], argTypes := #[T, T] }, ty, pos, af, gd⟩ :: l) ⟨rs, os, fs⟩ := by
  obtain ⟨i, hi, hl'⟩ := hset.ix
  exact ES.append (v := v) (ds := ds) i rfl hT hz hs hi hx hg rfl hN hlen fun v' => by rw [← hl' v']; exact kk v'
end
end E
end Go.Proofs.YtmlajcbabimkjaaGreat
/-
  The abstract machine: arguments of the elder contracts.
  Conditions: none.
-/
namespace Go.Proofs.YtmlajcbabimkjaaGreat
set_option linter.unusedVariables false
open Go.RowKit Mono Rlp
namespace E
section
variable {ok : Nat → Prop} {w : World}
theorem isB_of (hok : ∀ b, ok b → b < w.heap.size) {l : List UInt8} {v : Value} (h : ReadV ok w (.bs l) v) : IsB w v l := by
  obtain ⟨A, c, h1, h2, h3, h4⟩ := bs_ex h
  exact ⟨A, c, h1, h2, h3, fun hn => by
    obtain ⟨b, n, e, hb, hc⟩ := h4 hn
    exact ⟨b, n, e, hok b hb, hc⟩⟩
theorem arrV_of {n : Nat} {l : List UInt8} {v : Value} (h : ReadV ok w (.arr n l) v) : l.length = n ∧ v = arrV l := by
  obtain ⟨cs, h1, rfl⟩ := (readV_agg rfl).1 h
  rw [Reads] at h1
  rw [h1.2]
  exact ⟨h1.1, rfl⟩
theorem arrV_mk {n : Nat} {l : List UInt8} (h : l.length = n) : ReadV ok w (.arr n l) (arrV l) := (readV_agg rfl).2 ⟨bvs l, by rw [Reads]; exact ⟨h, rfl⟩, rfl⟩
theorem one_arg {d : D} {xs : List Value} (h : ReadVs ok w [d] xs) : ∃ v, xs = [v] ∧ ReadV ok w d v := by
  obtain ⟨x, rest, rfl, h1, h2⟩ := h
  cases h2
  exact ⟨x, rfl, h1⟩
end
end E
end Go.Proofs.YtmlajcbabimkjaaGreat
/-
  The abstract machine: tests of arrays, of structs of arrays, of strings, of bools.
  Conditions: none.
-/
namespace Go.Proofs.YtmlajcbabimkjaaGreat
set_option linter.unusedVariables false
open Go.RowKit Mono Rlp
namespace E
section
variable {T e n : Nat}
theorem eq_arr (hT : Tryz.prog.underlying T = some (.array n e)) (he : Tryz.prog.underlying e = some (.int .u8)) (hs : ∀ w, (sizeOf e).run Tryz.prog w = .ok 1 w) (w : World) (l m : List UInt8) (hl : l.length = n) (hm : m.length = n) : (Op.equalIn 10000 T (arrV l) (arrV m)).run Tryz.prog w = .ok (l == m) w := by
  have h2 := run_equalIn_bytes w 9998 T e n hT he hs l m hl hm
  rw [show (Op.equalIn 10000 T (arrV l) (arrV m)) = (Op.equalIn (9998 + 2) T (.agg (l.map Extern.Stop.cell).toArray) (.agg (m.map Extern.Stop.cell).toArray)) from rfl, h2]
theorem bin_arr (hT : Tryz.prog.underlying T = some (.array n e)) (he : Tryz.prog.underlying e = some (.int .u8)) (hs : ∀ w, (sizeOf e).run Tryz.prog w = .ok 1 w) (hg : Tryz.prog.eqGuardType Tryz.prog.depth T = false) (l m : List UInt8) : Bin .eql T (.arr n l) (.arr n m) (.bool (l == m)) ∧ Bin .neq T (.arr n l) (.arr n m) (.bool (l != m)) := by
  refine ⟨⟨rfl, fun ok w p q hp hq => ?_⟩, ⟨rfl, fun ok w p q hp hq => ?_⟩⟩ <;> (obtain ⟨e1, rfl⟩ := arrV_of hp; obtain ⟨e2, rfl⟩ := arrV_of hq; refine ⟨fun x y => run_eqGuard_agg w _ _ _ _ _ _ hg, ?_⟩)
  · exact run_eql_bytes w T e n hT he hs l m e1 e2
  · have h1 : (binOp .neq T (arrV l) (arrV m)).run Tryz.prog w = ((Op.equalIn 10000 T (arrV l) (arrV m)).run Tryz.prog w).andThen fun b w' => .ok (.bool (!b)) w' := by
      simp only [arrV, binOp, Op.equal, Op.maxDepth, Sem.run_bind, Sem.run_pure]
    rw [h1, eq_arr hT he hs w l m e1 e2]
    rfl
end
theorem bin_word (l m : List UInt8) : Bin .eql 29 (.arr 32 l) (.arr 32 m) (.bool (l == m)) ∧ Bin .neq 29 (.arr 32 l) (.arr 32 m) (.bool (l != m)) :=
  bin_arr Tryz.underlying29 Tryz.underlying5 (fun w => by kernel_rfl) (by kernel_rfl) l m
theorem bin_bool (a b : Bool) : Bin .eql 4 (.v (.bool a)) (.v (.bool b)) (.bool (a == b)) ∧ Bin .neq 4 (.v (.bool a)) (.v (.bool b)) (.bool (a != b)) := by
  refine ⟨⟨rfl, fun ok w p q hp hq => ?_⟩, ⟨rfl, fun ok w p q hp hq => ?_⟩⟩ <;> (obtain rfl := (readV_v.1 hp).2; obtain rfl := (readV_v.1 hq).2; refine ⟨fun x y => by simp [eqGuard], ?_⟩)
  · simp [binOp, run_equal_bool w _ a b Tryz.underlying4]
  · simp [binOp, run_equal_bool w _ a b Tryz.underlying4, bne]
theorem bin_string (l m : List UInt8) : Bin .eql 9 (.v (.string (Go.Proofs.YtmlajcbabimkjaaGreat.bs l))) (.v (.string (Go.Proofs.YtmlajcbabimkjaaGreat.bs m))) (.bool (l == m)) ∧ Bin .neq 9 (.v (.string (Go.Proofs.YtmlajcbabimkjaaGreat.bs l))) (.v (.string (Go.Proofs.YtmlajcbabimkjaaGreat.bs m))) (.bool (l != m)) := by
  refine ⟨⟨rfl, fun ok w p q hp hq => ?_⟩, ⟨rfl, fun ok w p q hp hq => ?_⟩⟩ <;> (obtain rfl := (readV_v.1 hp).2; obtain rfl := (readV_v.1 hq).2; refine ⟨fun x y => by simp [eqGuard], ?_⟩)
  · simp [binOp, Op.stringOp, bs_toList]
  · simp [binOp, Op.stringOp, bs_toList, bne]
theorem EC.lenOf {N : Nat} {X : Cx N} {S : St} {Q : Exit → Act → World → Prop} {c : Code} {t : Tmp} {z : Nat} {ds : List D} (hl : look S.regs t = some (.val (.sl z ds))) (k : ds.length ≤ maxLen → EC X Q c S) : EC X Q c S := ⟨fun a w ha => by
  obtain ⟨A, c', rows, h1, h2, h3, _⟩ := sl_ex (ha.regs t _ hl)
  exact (k (by omega)).go a w ha⟩
end E
end Go.Proofs.YtmlajcbabimkjaaGreat
/-
  The abstract machine: maps whose keys are arrays of bytes.
  Conditions: none.
-/
namespace Go.Proofs.YtmlajcbabimkjaaGreat
set_option linter.unusedVariables false
open Go.RowKit Mono Rlp
namespace E
abbrev Ent := Nat × List UInt8 × D
def hasE (es : List Ent) (l : List UInt8) : Bool := es.any fun x => x.2.1 == l
def getE : List Ent → List UInt8 → Option D
  | [], _ => none
  | x :: es, l => if x.2.1 == l then some x.2.2 else getE es l
def setE : List Ent → List UInt8 → D → List Ent
  | [], _, _ => []
  | x :: es, l, d => if x.2.1 == l then (x.1, x.2.1, d) :: es else x :: setE es l d
def putE (c : Nat) (es : List Ent) (l : List UInt8) (d : D) : List Ent := if hasE es l then setE es l d else es ++ [(c, l, d)]
def tickE (c : Nat) (es : List Ent) (l : List UInt8) : Nat := if hasE es l then c else c + 1
def delE : List Ent → List UInt8 → List Ent
  | [], _ => []
  | x :: es, l => if x.2.1 == l then es else x :: delE es l
/-! ### Laws of entries -/
theorem hasE_iff : ∀ (es : List Ent) (l : List UInt8), hasE es l = (getE es l).isSome
  | [], l => rfl
  | x :: es, l => by
    unfold hasE getE
    cases h : x.2.1 == l
    · have := hasE_iff es l
      unfold hasE at this
      simp [h, this]
    · simp [h]
theorem getE_none : ∀ (es : List Ent) (l : List UInt8), getE es l = none ↔ l ∉ es.map (·.2.1)
  | [], l => by simp [getE]
  | x :: es, l => by
    rw [getE]
    cases h : x.2.1 == l
    · have h1 : x.2.1 ≠ l := by simpa using h
      simp [getE_none es l, h1.symm]
    · have h1 : x.2.1 = l := by simpa using h
      simp [h1]
theorem setE_keys : ∀ (es : List Ent) (l : List UInt8) (d : D), (setE es l d).map (·.2.1) = es.map (·.2.1)
  | [], l, d => rfl
  | x :: es, l, d => by
    rw [setE]
    split
    · rfl
    · simp [setE_keys es l d]
theorem setE_borns : ∀ (es : List Ent) (l : List UInt8) (d : D), (setE es l d).map (·.1) = es.map (·.1)
  | [], l, d => rfl
  | x :: es, l, d => by
    rw [setE]
    split
    · rfl
    · simp [setE_borns es l d]
theorem getE_setE : ∀ (es : List Ent) (l k : List UInt8) (d : D), getE (setE es l d) k = if l = k ∧ hasE es l then some d else getE es k
  | [], l, k, d => by simp [setE, getE, hasE]
  | x :: es, l, k, d => by
    rw [setE]
    cases h : x.2.1 == l
    · have h1 : ¬ x.2.1 = l := by simpa using h
      rw [if_neg (by simp), getE, getE_setE es l k d, getE]
      unfold hasE
      rw [List.any_cons, h, Bool.false_or]
      cases h2 : x.2.1 == k
      · simp
      · have h3 : x.2.1 = k := by simpa using h2
        have h4 : ¬ l = k := fun e => h1 (h3.trans e.symm)
        simp [h4]
    · have h1 : x.2.1 = l := by simpa using h
      rw [if_pos (by simp), getE, getE]
      unfold hasE
      rw [List.any_cons, h, Bool.true_or]
      subst h1
      by_cases h2 : x.2.1 = k
      · simp [h2]
      · simp [h2]
theorem getE_append : ∀ (es : List Ent) (c : Nat) (l k : List UInt8) (d : D), getE (es ++ [(c, l, d)]) k = match getE es k with
    | some y => some y
    | none => if l = k then some d else none
  | [], c, l, k, d => by simp [getE]
  | x :: es, c, l, k, d => by
    rw [List.cons_append, getE, getE_append es c l k d, getE]
    split <;> rfl
theorem getE_putE (c : Nat) (es : List Ent) (l k : List UInt8) (d : D) : getE (putE c es l d) k = if l = k then some d else getE es k := by
  unfold putE
  cases h : hasE es l
  · rw [if_neg (by simp), getE_append]
    by_cases h1 : l = k
    · subst h1
      have : getE es l = none := by
        rw [hasE_iff] at h
        simpa using h
      rw [this]
    · simp [h1]
      cases getE es k <;> rfl
  · rw [if_pos rfl, getE_setE, h]
    simp
theorem Ents.set {c : Nat} {es : List Ent} (h : Ents c es) (l : List UInt8) (d : D) : Ents c (setE es l d) := by
  refine ⟨by rw [setE_keys]; exact h.keys, by rw [setE_borns]; exact h.borns, fun x hx => ?_⟩
  have : x.1 ∈ (setE es l d).map (·.1) := List.mem_map.2 ⟨x, hx, rfl⟩
  rw [setE_borns] at this
  obtain ⟨y, hy, e⟩ := List.mem_map.1 this
  rw [← e]
  exact h.lt y hy
theorem Ents.put {c : Nat} {es : List Ent} (h : Ents c es) (l : List UInt8) (d : D) : Ents (tickE c es l) (putE c es l d) := by
  unfold tickE putE
  cases hh : hasE es l
  · have hn : l ∉ es.map (·.2.1) := by
      rw [hasE_iff] at hh
      exact (getE_none es l).1 (by simpa using hh)
    refine ⟨?_, ?_, fun x hx => ?_⟩
    · simp only [Bool.false_eq_true, if_false, List.map_append, List.map_cons, List.map_nil]
      refine List.nodup_append.2 ⟨h.keys, by simp, fun a ha b hb e => ?_⟩
      simp only [List.mem_cons, List.not_mem_nil, or_false] at hb
      subst e hb
      exact hn ha
    · simp only [Bool.false_eq_true, if_false, List.map_append, List.map_cons, List.map_nil]
      refine List.nodup_append.2 ⟨h.borns, by simp, fun a ha b hb e => ?_⟩
      simp only [List.mem_cons, List.not_mem_nil, or_false] at hb
      subst e hb
      obtain ⟨y, hy, e⟩ := List.mem_map.1 ha
      have := h.lt y hy
      omega
    · simp only [Bool.false_eq_true, if_false] at hx ⊢
      rcases List.mem_append.1 hx with hx | hx
      · have := h.lt x hx
        omega
      · simp only [List.mem_cons, List.not_mem_nil, or_false] at hx
        subst hx
        simp
  · simp only [if_true]
    exact h.set l d
theorem Ents.nil : Ents 0 [] := ⟨List.nodup_nil, List.nodup_nil, fun x h => by cases h⟩
/-! ### The machine on keys of bytes -/
section
variable {K n : Nat} {ok : Nat → Prop} {w : World}
theorem run_checkKey_bytes' (hK : KeyT K n) (em : Bool) (d : Nat) (l : List UInt8) (hl : l.length = n) : (Instr.checkKey em (d + 2) K (arrV l)).run Tryz.prog w = .ok () w := by
  obtain ⟨e, ht, he, hsz⟩ := hK.get
  rw [Instr.checkKey]
  unfold arrV
  simp only [Sem.run_bind, run_underlying ht, Result.andThen_ok, Std.Legacy.Range.forIn_eq_forIn_range', Std.Legacy.Range.size, Nat.sub_zero, Nat.add_sub_cancel, Nat.div_one]
  have hlt : ∀ i ∈ List.range' 0 n 1, i < n := fun i hi => by simpa using (List.mem_range'_1.1 hi).2
  generalize List.range' 0 n 1 = is at hlt ⊢
  induction is with
  | nil => simp
  | cons i is ih =>
    have hi : i < n := hlt i (by simp)
    have px : (part e (bvs l).toArray (i * 1)).run Tryz.prog w = .ok (bv (l.getD i 0)) w := by
      simp [part, isAgg, run_underlying he, List.getD, bvs, List.getElem?_eq_getElem (show i < l.length by omega)]
    have pc : (Instr.checkKey em (d + 1) e (bv (l.getD i 0))).run Tryz.prog w = .ok () w := by
      rw [Instr.checkKey]
      simp [run_underlying he, bv]
    simp only [List.forIn_cons, Sem.run_bind, hsz, px, pc, Result.andThen_ok, Sem.run_pure]
    exact ih fun j hj => hlt j (by simp [hj])
theorem run_checkKey_bytes (hK : KeyT K n) (em : Bool) (l : List UInt8) (hl : l.length = n) : (Instr.checkKey em 10000 K (arrV l)).run Tryz.prog w = .ok () w := run_checkKey_bytes' hK em 9998 l hl
def hit (l : List UInt8) : List MapEntry → List Ent → Nat → Option (Nat × Value)
  | e :: arr, x :: es, i => if l == x.2.1 then some (i, e.val) else hit l arr es (i + 1)
  | _, _, _ => none
theorem run_findAsking (hK : KeyT K n) (l : List UInt8) (hl : l.length = n) : ∀ (arr : List MapEntry) (es : List Ent) (i : Nat), All2 (EntAt ok w n) arr es → (Instr.findAsking K (arrV l) arr i).run Tryz.prog w = .ok (hit l arr es i) w
  | [], [], i, _ => by simp [Instr.findAsking, hit]
  | e :: arr, x :: es, i, .cons h1 h2 => by
    obtain ⟨e', ht, he, hsz⟩ := hK.get
    have heq : (Op.equal K (arrV l) e.key).run Tryz.prog w = .ok (l == x.2.1) w := by
      rw [h1.key]
      exact eq_arr ht he hsz w l x.2.1 hl h1.len
    rw [Instr.findAsking, Sem.run_bind, heq, Result.andThen_ok, hit]
    cases l == x.2.1
    · simpa using run_findAsking hK l hl arr es (i + 1) h2
    · simp
theorem run_findKey (hK : KeyT K n) (l : List UInt8) (hl : l.length = n) (arr : List MapEntry) (es : List Ent) (h : All2 (EntAt ok w n) arr es) : (Instr.findKey K (arrV l) arr).run Tryz.prog w = .ok (hit l arr es 0) w := by
  obtain ⟨e', ht, he, hsz⟩ := hK.get
  unfold Instr.findKey
  rw [Sem.run_bind, run_underlying ht, Result.andThen_ok]
  cases h with
  | nil => simp [Instr.findNow, hit]
  | @cons e x arr es h1 h2 =>
    have : Instr.findNow (.array n e') (arrV l) (e :: arr) 0 = none := by
      unfold Instr.findNow arrV
      rw [h1.key]
      rfl
    rw [this]
    exact run_findAsking hK l hl _ _ 0 (.cons h1 h2)
theorem hit_get : ∀ (arr : List MapEntry) (es : List Ent) (i : Nat) (l : List UInt8), All2 (EntAt ok w n) arr es →
    match hit l arr es i with
    | some (j, v) => ∃ k d, j = i + k ∧ getE es l = some d ∧ ReadV ok w d v ∧ ∃ e x, arr[k]? = some e ∧ es[k]? = some x ∧ e.val = v ∧ x.2.1 = l
    | none => getE es l = none
  | [], [], i, l, _ => by simp [hit, getE]
  | e :: arr, x :: es, i, l, .cons h1 h2 => by
    rw [hit, getE]
    by_cases h : l = x.2.1
    · subst h
      simp only [beq_self_eq_true, if_true]
      exact ⟨0, x.2.2, rfl, rfl, h1.val, e, x, rfl, rfl, rfl, rfl⟩
    · rw [if_neg (by simpa using h), if_neg (by simpa using fun e => h e.symm)]
      have := hit_get arr es (i + 1) l h2
      cases hh : hit l arr es (i + 1) with
      | none => rw [hh] at this; exact this
      | some p =>
        rw [hh] at this
        obtain ⟨k, d, e1, e2, e3, e', x', e4, e5, e6, e7⟩ := this
        exact ⟨k + 1, d, by omega, e2, e3, e', x', by simpa using e4, by simpa using e5, e6, e7⟩
theorem run_lookup {T E g c : Nat} {base : Nat → Prop} {es : List Ent} {dz : D} (hT : Tryz.prog.underlying T = some (.map K E)) (hK : KeyT K n) (hz : ZeroV E dz) (h : Obj.At base ok w (.map g n c es)) (l : List UInt8) (hl : l.length = n) (cok : Bool) :
    ∃ v, (Instr.lookup T (.map (some g)) (arrV l) cok).run Tryz.prog w = .ok (if cok then .tuple #[v, .bool (getE es l).isSome] else v) w ∧ ReadV ok w ((getE es l).getD dz) v := by
  obtain ⟨_, _, arr, hw, hf⟩ := h
  obtain ⟨z, hz1, hz2⟩ := hz.get
  have hg := hit_get arr.toList es 0 l hf
  have hk := run_findKey hK l hl arr.toList es hf
  unfold Instr.lookup
  simp only [Sem.run_bind, run_underlying hT, Result.andThen_ok, MapKept.run_getObj_map hw, Sem.run_pure, run_checkKey_bytes hK _ l hl, hk]
  cases hh : hit l arr.toList es 0 with
  | none =>
    rw [hh] at hg
    dsimp only at hg
    refine ⟨z, ?_, by rw [hg]; exact hz2 _ _⟩
    simp [hg, hz1]
  | some p =>
    rw [hh] at hg
    obtain ⟨k, d, e1, e2, e3, _⟩ := hg
    refine ⟨p.2, ?_, by rw [e2]; exact e3⟩
    simp [e2]
theorem sameBits_bytes (k : Nat) (l : List UInt8) : Instr.sameBits (k + 1) (arrV l) (arrV l) = true := by
  unfold arrV Instr.sameBits
  simp only [beq_self_eq_true, Bool.true_and, List.all_eq_true]
  intro p hp
  obtain ⟨x, y⟩ := p
  have hxy : x = y ∧ x ∈ bvs l := by
    have : ∀ m : List Value, (x, y) ∈ m.zip m → x = y ∧ x ∈ m := by
      intro m
      induction m with
      | nil => intro h; simp at h
      | cons z m ih =>
        intro h
        rw [List.zip_cons_cons] at h
        rcases List.mem_cons.1 h with h | h
        · cases h
          simp
        · obtain ⟨h1, h2⟩ := ih h
          exact ⟨h1, List.mem_cons_of_mem _ h2⟩
    exact this _ (by simpa using hp)
  obtain ⟨rfl, hx⟩ := hxy
  obtain ⟨b, _, rfl⟩ := List.mem_map.1 hx
  cases k <;> simp [bv, Instr.sameBits]
theorem forall2_set {α β : Type} {R : α → β → Prop} {a : α} {b : β} (h : R a b) : ∀ {l : List α} {m : List β} (i : Nat), All2 R l m → All2 R (l.set i a) (m.set i b)
  | [], [], i, _ => by simpa using All2.nil
  | x :: l, y :: m, 0, .cons h1 h2 => .cons h h2
  | x :: l, y :: m, i + 1, .cons h1 h2 => .cons h1 (forall2_set h i h2)
theorem forall2_append {α β : Type} {R : α → β → Prop} : ∀ {l : List α} {m : List β} {l' : List α} {m' : List β}, All2 R l m → All2 R l' m' → All2 R (l ++ l') (m ++ m')
  | [], [], l', m', _, h => h
  | x :: l, y :: m, l', m', .cons h1 h2, h => .cons h1 (forall2_append h2 h)
theorem hit_ix : ∀ (arr : List MapEntry) (es : List Ent) (i : Nat) (l : List UInt8), All2 (EntAt ok w n) arr es →
    match hit l arr es i with
    | some (j, v) => hasE es l = true ∧ ∃ k e x, j = i + k ∧ arr[k]? = some e ∧ es[k]? = some x ∧ x.2.1 = l ∧ (∀ d, setE es l d = es.set k (x.1, x.2.1, d)) ∧ delE es l = es.eraseIdx k
    | none => hasE es l = false ∧ delE es l = es
  | [], [], i, l, _ => by simp [hit, hasE, delE]
  | e :: arr, x :: es, i, l, .cons h1 h2 => by
    rw [hit]
    by_cases h : l = x.2.1
    · subst h
      simp only [beq_self_eq_true, if_true]
      exact ⟨by simp [hasE], 0, e, x, rfl, rfl, rfl, rfl, fun d => by simp [setE], by simp [delE]⟩
    · rw [if_neg (by simpa using h)]
      have h' : (x.2.1 == l) = false := by simpa using fun e => h e.symm
      have := hit_ix arr es (i + 1) l h2
      cases hh : hit l arr es (i + 1) with
      | none =>
        rw [hh] at this
        refine ⟨?_, ?_⟩
        · unfold hasE
          rw [List.any_cons, h']
          exact this.1
        · rw [delE, h', if_neg (by simp), this.2]
      | some p =>
        rw [hh] at this
        obtain ⟨e0, k, e', x', e1, e2, e3, e4, e5, e6⟩ := this
        refine ⟨?_, k + 1, e', x', by omega, by simpa using e2, by simpa using e3, e4, fun d => ?_, ?_⟩
        · unfold hasE
          rw [List.any_cons, h']
          exact e0
        · rw [setE, h', if_neg (by simp), e5 d]
          rfl
        · rw [delE, h', if_neg (by simp), e6]
          rfl
theorem grownBy_put {g : Nat} {o o' : Go.Obj} (hg : w.heap[g]? = some o) : w.grownBy { w with heap := w.heap.setIfInBounds g o' } (some g) := ⟨rfl, rfl, rfl, by simp, fun k hk hne => by
  simp only [Array.getElem?_setIfInBounds]
  rw [if_neg fun e => hne (by rw [e])]⟩
theorem forall2_get {α β : Type} {R : α → β → Prop} : ∀ {l : List α} {m : List β} {k : Nat} {a : α} {b : β}, All2 R l m → l[k]? = some a → m[k]? = some b → R a b
  | x :: l, y :: m, 0, a, b, .cons h1 h2, ha, hb => by
    cases ha
    cases hb
    exact h1
  | x :: l, y :: m, k + 1, a, b, .cons h1 h2, ha, hb => forall2_get h2 (by simpa using ha) (by simpa using hb)
theorem cell_put {g : Nat} {o' : Go.Obj} (hg : ¬ ok g) (p : Addr) (hp : ok p.block) : World.cell? { w with heap := w.heap.setIfInBounds g o' } p = w.cell? p := World.cell?_of_block (by
  simp only [Array.getElem?_setIfInBounds]
  rw [if_neg fun e => hg (by rw [e]; exact hp)])
theorem heap_put {g : Nat} {o o' : Go.Obj} (hg : w.heap[g]? = some o) : ({ w with heap := w.heap.setIfInBounds g o' } : World).heap[g]? = some o' := by
  have := lt_of_some hg
  simp [this]
theorem run_mapUpdate {T E g c : Nat} {base : Nat → Prop} {es : List Ent} {d : D} {v : Value} (hT : Tryz.prog.underlying T = some (.map K E)) (hK : KeyT K n) (h : Obj.At base ok w (.map g n c es)) (l : List UInt8) (hl : l.length = n) (hv : ReadV ok w d v) (hg : ¬ ok g) :
    ∃ w', (Instr.mapUpdate T (.map (some g)) (arrV l) v).run Tryz.prog w = .ok () w' ∧ w.grownBy w' (some g) ∧ Obj.At base ok w' (.map g n (tickE c es l) (putE c es l d)) := by
  obtain ⟨hb, hE, arr, hw, hf⟩ := h
  have hx := hit_ix arr.toList es 0 l hf
  have hk := run_findKey hK l hl arr.toList es hf
  have hE' := hE.put l d
  have hf' := fun (o' : Go.Obj) => forall2_imp (fun e x h => EntAt.mono (w' := { w with heap := w.heap.setIfInBounds g o' }) h (fun _ h => h) (cell_put hg)) hf
  have hv' := fun (o' : Go.Obj) => ReadV.mono (w' := { w with heap := w.heap.setIfInBounds g o' }) (fun _ h => h) (cell_put hg) hv
  unfold Instr.mapUpdate
  simp only [Sem.run_bind, run_underlying hT, Result.andThen_ok, MapKept.run_getObj_map hw, run_checkKey_bytes hK _ l hl, hk]
  cases hh : hit l arr.toList es 0 with
  | none =>
    rw [hh] at hx
    obtain ⟨h1, _⟩ := hx
    refine ⟨{ w with heap := w.heap.setIfInBounds g (.map (arr.push { key := arrV l, val := v, born := c }) (c + 1)) }, MapKept.run_setObj_map _ hw, grownBy_put hw, hb, hE', arr.push { key := arrV l, val := v, born := c }, ?_, ?_⟩
    · simp only [tickE, h1]
      exact heap_put hw
    · simp only [putE, h1, Bool.false_eq_true, if_false, Array.toList_push]
      exact forall2_append (hf' _) (.cons ⟨rfl, rfl, hl, hv' _⟩ .nil)
  | some p =>
    rw [hh] at hx
    obtain ⟨h1, k, e, x, e1, e2, e3, e4, e5, _⟩ := hx
    obtain ⟨j, u⟩ := p
    obtain rfl : j = k := by simpa using e1
    have hek : e.key = arrV l := by rw [(forall2_get hf e2 e3).key, e4]
    have e2' : arr[j]? = some e := by simpa using e2
    refine ⟨{ w with heap := w.heap.setIfInBounds g (.map (arr.modify j fun e => { e with key := arrV l, val := v }) c) }, ?_, grownBy_put hw, hb, hE', arr.modify j (fun e => { e with key := arrV l, val := v }), ?_, ?_⟩
    · simp only [e2', Option.map_some, Option.getD_some, hek, Instr.keyThatStays, sameBits_bytes 9999 l, if_true, Sem.run_bind, Sem.run_pure, Result.andThen_ok, MapKept.run_setObj_map _ hw]
    · simp only [tickE, h1, if_true]
      exact heap_put hw
    · simp only [putE, h1, if_true, e5 d, Array.toList_modify]
      have hset : arr.toList.modify j (fun e => { e with key := arrV l, val := v }) = arr.toList.set j { e with key := arrV l, val := v } := by
        rw [List.modify_eq_set, e2]
        rfl
      rw [hset]
      have he := forall2_get (hf' (.map (arr.modify j fun e => { e with key := arrV l, val := v }) c)) e2 e3
      exact forall2_set ⟨he.born, by rw [e4], he.len, hv' _⟩ j (hf' _)
end
end E
end Go.Proofs.YtmlajcbabimkjaaGreat
