/-
  Merged (wip/tools/merge.py): E10, EB, RlpRead, Item.
  Conditions: none.
-/
import Derived.Test.YtmlajcbabimkjaaZB6
import Derived.Test.YtmlajcbabimkjaaZB2
import Derived.Laws.Rows
/-
  The abstract machine's rules, the operation written out. (Printed by wip/tools/erules.py.)
  Conditions: none.
-/
namespace Go.Proofs.Ytmlajcbabimkjaa
set_option linter.unusedVariables false
open Go.RowKit Mono Rlp
namespace E
section
variable {N : Nat} {X : Cx N} {S S' : St} {ops : Array Oper} {o : Oper} {Q : Exit → Act → World → Prop} {l : List Oper} {TT : St → List Fr → Prop} {EE : List Fr} {rs : List (Tmp × R)} {os : List Obj} {fs : List (Value × D)}
inductive SetAt : List Obj → Obj → Obj → List Obj → Prop where
  | z {p q : Obj} {m : List Obj} : SetAt (p :: m) p q (q :: m)
  | s {a p q : Obj} {m m' : List Obj} (h : SetAt m p q m') : SetAt (a :: m) p q (a :: m')
theorem SetAt.ix {p q : Obj} {m m' : List Obj} (h : SetAt m p q m') : ∃ i : Nat, m[i]? = some p ∧ m' = m.set i q := by
  induction h with
  | z => exact ⟨0, rfl, rfl⟩
  | s h ih =>
    obtain ⟨i, h1, h2⟩ := ih
    exact ⟨i + 1, by simpa using h1, by rw [h2]; rfl⟩
inductive SetAtF : List Obj → Obj → (Value → Obj) → (Value → List Obj) → Prop where
  | z {p : Obj} {q : Value → Obj} {m : List Obj} : SetAtF (p :: m) p q (fun v => q v :: m)
  | s {a p : Obj} {q : Value → Obj} {m : List Obj} {m' : Value → List Obj} (h : SetAtF m p q m') : SetAtF (a :: m) p q (fun v => a :: m' v)
theorem SetAtF.ix {p : Obj} {q : Value → Obj} {m : List Obj} {m' : Value → List Obj} (h : SetAtF m p q m') : ∃ i : Nat, m[i]? = some p ∧ ∀ v, m' v = m.set i (q v) := by
  induction h with
  | z => exact ⟨0, rfl, fun v => rfl⟩
  | s h ih =>
    obtain ⟨i, h1, h2⟩ := ih
    exact ⟨i + 1, by simpa using h1, fun v => congrArg (List.cons _) (h2 v)⟩
theorem I0 {α : Type} {a : α} {m : List α} : (a :: m)[0]? = some a := rfl
theorem I1 {α : Type} {o0 a : α} {m : List α} : (o0 :: a :: m)[1]? = some a := rfl
theorem I2 {α : Type} {o0 o1 a : α} {m : List α} : (o0 :: o1 :: a :: m)[2]? = some a := rfl
theorem I3 {α : Type} {o0 o1 o2 a : α} {m : List α} : (o0 :: o1 :: o2 :: a :: m)[3]? = some a := rfl
theorem I4 {α : Type} {o0 o1 o2 o3 a : α} {m : List α} : (o0 :: o1 :: o2 :: o3 :: a :: m)[4]? = some a := rfl
theorem I5 {α : Type} {o0 o1 o2 o3 o4 a : α} {m : List α} : (o0 :: o1 :: o2 :: o3 :: o4 :: a :: m)[5]? = some a := rfl
theorem I6 {α : Type} {o0 o1 o2 o3 o4 o5 a : α} {m : List α} : (o0 :: o1 :: o2 :: o3 :: o4 :: o5 :: a :: m)[6]? = some a := rfl
def Bin (op : BinOp) (T : TypeId) (d e : D) (c : Value) : Prop := c.oneCell' = true ∧ ∀ ok w p q, ReadV ok w d p → ReadV ok w e q → (∀ x y, (eqGuard op T x y p q).run Try.prog w = .ok () w) ∧ (binOp op T p q).run Try.prog w = .ok c w
theorem g_binI {x y : Operand} {op : BinOp} {T U : TypeId} {d e : D} {c : Value} (ho : o.op = .binOp op T x y U) (hx : ev S x = some (.val d)) (hy : ev S y = some (.val e)) (h : Bin op T d e c) : Still ops S o (.val (.v c)) :=
  g_bin ho hx hy h.1 fun ok w p q hp hq => ⟨(h.2 ok w p q hp hq).1 x y, (h.2 ok w p q hp hq).2⟩
theorem g_indexJ {x y : Operand} {T e z b : Nat} {k : Int} {ds : List D} {d : D} (ho : o.op = .indexAddr T x y) (hx : ev S x = some (.val (.sl z ds))) (hy : ev S y = some (.val (.v (.int .i64 k)))) (hT : assoc slL T = some (e, z, b)) (hz : Nat.blt 0 z = true) (hk : 0 ≤ k ∧ ds[k.toNat]? = some d) : Still ops S o (.val (.pd d)) := by
  obtain ⟨h1, h2⟩ := List.getElem?_eq_some_iff.1 hk.2
  subst h2
  exact g_indexI ho hx hy hT hz hk.1 h1
theorem P_move {t ty : Nat} {pos : String} {af : Array Edge} {gd : Option (Nat × Bool)} {x : Operand} {r : R} (hx : ev (⟨rs, os, fs⟩ : St) x = some r) (hg : guardOf ops ⟨rs, os, fs⟩ ⟨some t, .move x, ty, pos, af, gd⟩ = some true) (hN : Nat.blt t N = true) (kk : EL X ops Q l ⟨(t, r) :: rs, os, fs⟩) : EL X ops Q (⟨some t, .move x, ty, pos, af, gd⟩ :: l) ⟨rs, os, fs⟩ := ES.still (g_move rfl hx) hg rfl hN kk
theorem H_move {t ty : Nat} {pos : String} {af : Array Edge} {gd : Option (Nat × Bool)} {x : Operand} {r : R} (hx : ev (⟨rs, os, fs⟩ : St) x = some r) (hg : guardOf ops ⟨rs, os, fs⟩ ⟨some t, .move x, ty, pos, af, gd⟩ = some true) (hoff : offB N (some t) EE = true) (kk : EM N ops TT l ⟨(t, r) :: rs, os, fs⟩ EE) : EM N ops TT (⟨some t, .move x, ty, pos, af, gd⟩ :: l) ⟨rs, os, fs⟩ EE := EH.still (g_move rfl hx) hg rfl hoff kk
theorem P_assign {t ty : Nat} {pos : String} {af : Array Edge} {gd : Option (Nat × Bool)} {x : Operand} {r : R} (hx : ev (⟨rs, os, fs⟩ : St) x = some r) (hg : guardOf ops ⟨rs, os, fs⟩ ⟨some t, .assign x, ty, pos, af, gd⟩ = some true) (hN : Nat.blt t N = true) (kk : EL X ops Q l ⟨(t, r) :: rs, os, fs⟩) : EL X ops Q (⟨some t, .assign x, ty, pos, af, gd⟩ :: l) ⟨rs, os, fs⟩ := ES.still (g_assign rfl hx) hg rfl hN kk
theorem H_assign {t ty : Nat} {pos : String} {af : Array Edge} {gd : Option (Nat × Bool)} {x : Operand} {r : R} (hx : ev (⟨rs, os, fs⟩ : St) x = some r) (hg : guardOf ops ⟨rs, os, fs⟩ ⟨some t, .assign x, ty, pos, af, gd⟩ = some true) (hoff : offB N (some t) EE = true) (kk : EM N ops TT l ⟨(t, r) :: rs, os, fs⟩ EE) : EM N ops TT (⟨some t, .assign x, ty, pos, af, gd⟩ :: l) ⟨rs, os, fs⟩ EE := EH.still (g_assign rfl hx) hg rfl hoff kk
theorem P_extract {t ty : Nat} {pos : String} {af : Array Edge} {gd : Option (Nat × Bool)} {x : Operand} {i : Nat} {ds : List D} {d : D} (hx : ev (⟨rs, os, fs⟩ : St) x = some (.tpl ds)) (hd : ds[i]? = some d) (hg : guardOf ops ⟨rs, os, fs⟩ ⟨some t, .extract x i, ty, pos, af, gd⟩ = some true) (hN : Nat.blt t N = true) (kk : EL X ops Q l ⟨(t, (.val d)) :: rs, os, fs⟩) : EL X ops Q (⟨some t, .extract x i, ty, pos, af, gd⟩ :: l) ⟨rs, os, fs⟩ := ES.still (g_extract rfl hx hd) hg rfl hN kk
theorem H_extract {t ty : Nat} {pos : String} {af : Array Edge} {gd : Option (Nat × Bool)} {x : Operand} {i : Nat} {ds : List D} {d : D} (hx : ev (⟨rs, os, fs⟩ : St) x = some (.tpl ds)) (hd : ds[i]? = some d) (hg : guardOf ops ⟨rs, os, fs⟩ ⟨some t, .extract x i, ty, pos, af, gd⟩ = some true) (hoff : offB N (some t) EE = true) (kk : EM N ops TT l ⟨(t, (.val d)) :: rs, os, fs⟩ EE) : EM N ops TT (⟨some t, .extract x i, ty, pos, af, gd⟩ :: l) ⟨rs, os, fs⟩ EE := EH.still (g_extract rfl hx hd) hg rfl hoff kk
theorem P_pick {t ty : Nat} {pos : String} {af : Array Edge} {gd : Option (Nat × Bool)} {c x y : Operand} {b : Bool} {r : R} (hc : ev (⟨rs, os, fs⟩ : St) c = some (.val (.v (.bool b)))) (hx : ev (⟨rs, os, fs⟩ : St) (if b then x else y) = some r) (hg : guardOf ops ⟨rs, os, fs⟩ ⟨some t, .pick c x y, ty, pos, af, gd⟩ = some true) (hN : Nat.blt t N = true) (kk : EL X ops Q l ⟨(t, r) :: rs, os, fs⟩) : EL X ops Q (⟨some t, .pick c x y, ty, pos, af, gd⟩ :: l) ⟨rs, os, fs⟩ := ES.still (g_pick rfl hc hx) hg rfl hN kk
theorem H_pick {t ty : Nat} {pos : String} {af : Array Edge} {gd : Option (Nat × Bool)} {c x y : Operand} {b : Bool} {r : R} (hc : ev (⟨rs, os, fs⟩ : St) c = some (.val (.v (.bool b)))) (hx : ev (⟨rs, os, fs⟩ : St) (if b then x else y) = some r) (hg : guardOf ops ⟨rs, os, fs⟩ ⟨some t, .pick c x y, ty, pos, af, gd⟩ = some true) (hoff : offB N (some t) EE = true) (kk : EM N ops TT l ⟨(t, r) :: rs, os, fs⟩ EE) : EM N ops TT (⟨some t, .pick c x y, ty, pos, af, gd⟩ :: l) ⟨rs, os, fs⟩ EE := EH.still (g_pick rfl hc hx) hg rfl hoff kk
theorem P_field {t ty : Nat} {pos : String} {af : Array Edge} {gd : Option (Nat × Bool)} {x : Operand} {T k off sz g n : Nat} {ag : Bool} {lf : List (Nat × Nat × Bool)} (hx : ev (⟨rs, os, fs⟩ : St) x = some (.val (.v (.pointer (some ⟨g, n, none⟩))))) (h : assoc stL T = some lf) (hk : lf[k]? = some (off, sz, ag)) (h0 : Nat.blt 0 sz = true) (hg : guardOf ops ⟨rs, os, fs⟩ ⟨some t, .fieldAddr T x k, ty, pos, af, gd⟩ = some true) (hN : Nat.blt t N = true) (kk : EL X ops Q l ⟨(t, (.val (.v (.pointer (some ⟨g, n + off, none⟩))))) :: rs, os, fs⟩) : EL X ops Q (⟨some t, .fieldAddr T x k, ty, pos, af, gd⟩ :: l) ⟨rs, os, fs⟩ := ES.still (g_fieldI rfl hx h hk h0) hg rfl hN kk
theorem H_field {t ty : Nat} {pos : String} {af : Array Edge} {gd : Option (Nat × Bool)} {x : Operand} {T k off sz g n : Nat} {ag : Bool} {lf : List (Nat × Nat × Bool)} (hx : ev (⟨rs, os, fs⟩ : St) x = some (.val (.v (.pointer (some ⟨g, n, none⟩))))) (h : assoc stL T = some lf) (hk : lf[k]? = some (off, sz, ag)) (h0 : Nat.blt 0 sz = true) (hg : guardOf ops ⟨rs, os, fs⟩ ⟨some t, .fieldAddr T x k, ty, pos, af, gd⟩ = some true) (hoff : offB N (some t) EE = true) (kk : EM N ops TT l ⟨(t, (.val (.v (.pointer (some ⟨g, n + off, none⟩))))) :: rs, os, fs⟩ EE) : EM N ops TT (⟨some t, .fieldAddr T x k, ty, pos, af, gd⟩ :: l) ⟨rs, os, fs⟩ EE := EH.still (g_fieldI rfl hx h hk h0) hg rfl hoff kk
theorem P_fieldpd {t ty : Nat} {pos : String} {af : Array Edge} {gd : Option (Nat × Bool)} {x : Operand} {T k off sz : Nat} {ag : Bool} {d d' : D} {lf : List (Nat × Nat × Bool)} (hx : ev (⟨rs, os, fs⟩ : St) x = some (.val (.pd d))) (h : assoc stL T = some lf) (hk : lf[k]? = some (off, sz, ag)) (h0 : Nat.blt 0 sz = true) (hs : d.sub off sz ag = some d') (hg : guardOf ops ⟨rs, os, fs⟩ ⟨some t, .fieldAddr T x k, ty, pos, af, gd⟩ = some true) (hN : Nat.blt t N = true) (kk : EL X ops Q l ⟨(t, (.val (.pd d'))) :: rs, os, fs⟩) : EL X ops Q (⟨some t, .fieldAddr T x k, ty, pos, af, gd⟩ :: l) ⟨rs, os, fs⟩ := ES.still (g_field_pdI rfl hx h hk h0 hs) hg rfl hN kk
theorem H_fieldpd {t ty : Nat} {pos : String} {af : Array Edge} {gd : Option (Nat × Bool)} {x : Operand} {T k off sz : Nat} {ag : Bool} {d d' : D} {lf : List (Nat × Nat × Bool)} (hx : ev (⟨rs, os, fs⟩ : St) x = some (.val (.pd d))) (h : assoc stL T = some lf) (hk : lf[k]? = some (off, sz, ag)) (h0 : Nat.blt 0 sz = true) (hs : d.sub off sz ag = some d') (hg : guardOf ops ⟨rs, os, fs⟩ ⟨some t, .fieldAddr T x k, ty, pos, af, gd⟩ = some true) (hoff : offB N (some t) EE = true) (kk : EM N ops TT l ⟨(t, (.val (.pd d'))) :: rs, os, fs⟩ EE) : EM N ops TT (⟨some t, .fieldAddr T x k, ty, pos, af, gd⟩ :: l) ⟨rs, os, fs⟩ EE := EH.still (g_field_pdI rfl hx h hk h0 hs) hg rfl hoff kk
theorem P_loadpd {t ty : Nat} {pos : String} {af : Array Edge} {gd : Option (Nat × Bool)} {x : Operand} {T sz : Nat} {ag : Bool} {d d' : D} (hx : ev (⟨rs, os, fs⟩ : St) x = some (.val (.pd d))) (hT : assoc tyL T = some (sz, ag)) (hs : d.sub 0 sz ag = some d') (hg : guardOf ops ⟨rs, os, fs⟩ ⟨some t, .load T x, ty, pos, af, gd⟩ = some true) (hN : Nat.blt t N = true) (kk : EL X ops Q l ⟨(t, (.val d')) :: rs, os, fs⟩) : EL X ops Q (⟨some t, .load T x, ty, pos, af, gd⟩ :: l) ⟨rs, os, fs⟩ := ES.still (g_load_pdI rfl hx hT hs) hg rfl hN kk
theorem H_loadpd {t ty : Nat} {pos : String} {af : Array Edge} {gd : Option (Nat × Bool)} {x : Operand} {T sz : Nat} {ag : Bool} {d d' : D} (hx : ev (⟨rs, os, fs⟩ : St) x = some (.val (.pd d))) (hT : assoc tyL T = some (sz, ag)) (hs : d.sub 0 sz ag = some d') (hg : guardOf ops ⟨rs, os, fs⟩ ⟨some t, .load T x, ty, pos, af, gd⟩ = some true) (hoff : offB N (some t) EE = true) (kk : EM N ops TT l ⟨(t, (.val d')) :: rs, os, fs⟩ EE) : EM N ops TT (⟨some t, .load T x, ty, pos, af, gd⟩ :: l) ⟨rs, os, fs⟩ EE := EH.still (g_load_pdI rfl hx hT hs) hg rfl hoff kk
theorem P_lenbs {t ty : Nat} {pos : String} {af : Array Edge} {gd : Option (Nat × Bool)} {x : Operand} {T e z y : Nat} {b : List UInt8} (hx : ev (⟨rs, os, fs⟩ : St) x = some (.val (.bs b))) (hT : assoc slL T = some (e, z, y)) (hg : guardOf ops ⟨rs, os, fs⟩ ⟨some t, .call { callee := .builtin .len, args := #[x], argTypes := #[T] }, ty, pos, af, gd⟩ = some true) (hN : Nat.blt t N = true) (kk : EL X ops Q l ⟨(t, (.val (.v (.int .i64 b.length)))) :: rs, os, fs⟩) : EL X ops Q (⟨some t, .call { callee := .builtin .len, args := #[x], argTypes := #[T] }, ty, pos, af, gd⟩ :: l) ⟨rs, os, fs⟩ := ES.still (g_len_bsI rfl hx hT) hg rfl hN kk
theorem P_lensl {t ty : Nat} {pos : String} {af : Array Edge} {gd : Option (Nat × Bool)} {x : Operand} {T e z y z' : Nat} {ds : List D} (hx : ev (⟨rs, os, fs⟩ : St) x = some (.val (.sl z' ds))) (hT : assoc slL T = some (e, z, y)) (hg : guardOf ops ⟨rs, os, fs⟩ ⟨some t, .call { callee := .builtin .len, args := #[x], argTypes := #[T] }, ty, pos, af, gd⟩ = some true) (hN : Nat.blt t N = true) (kk : EL X ops Q l ⟨(t, (.val (.v (.int .i64 ds.length)))) :: rs, os, fs⟩) : EL X ops Q (⟨some t, .call { callee := .builtin .len, args := #[x], argTypes := #[T] }, ty, pos, af, gd⟩ :: l) ⟨rs, os, fs⟩ := ES.still (g_len_slI rfl hx hT) hg rfl hN kk
theorem P_lenv {t ty : Nat} {pos : String} {af : Array Edge} {gd : Option (Nat × Bool)} {x : Operand} {T e n c z y : Nat} {A : Option Addr} (hx : ev (⟨rs, os, fs⟩ : St) x = some (.val (.v (.slice A n c)))) (hT : assoc slL T = some (e, z, y)) (hg : guardOf ops ⟨rs, os, fs⟩ ⟨some t, .call { callee := .builtin .len, args := #[x], argTypes := #[T] }, ty, pos, af, gd⟩ = some true) (hN : Nat.blt t N = true) (kk : EL X ops Q l ⟨(t, (.val (.v (.int .i64 n)))) :: rs, os, fs⟩) : EL X ops Q (⟨some t, .call { callee := .builtin .len, args := #[x], argTypes := #[T] }, ty, pos, af, gd⟩ :: l) ⟨rs, os, fs⟩ := ES.still (g_len_nilI rfl hx hT) hg rfl hN kk
theorem P_cmp {t ty : Nat} {pos : String} {af : Array Edge} {gd : Option (Nat × Bool)} {x y : Operand} {op : BinOp} {T U : TypeId} {k : IntKind} {m n : Int} {b : Bool} (hx : ev (⟨rs, os, fs⟩ : St) x = some (.val (.v (.int k m)))) (hy : ev (⟨rs, os, fs⟩ : St) y = some (.val (.v (.int k n)))) (hb : cmpI op m n = some b) (hg : guardOf ops ⟨rs, os, fs⟩ ⟨some t, .binOp op T x y U, ty, pos, af, gd⟩ = some true) (hN : Nat.blt t N = true) (kk : EL X ops Q l ⟨(t, (.val (.v (.bool b)))) :: rs, os, fs⟩) : EL X ops Q (⟨some t, .binOp op T x y U, ty, pos, af, gd⟩ :: l) ⟨rs, os, fs⟩ := ES.still (g_cmp rfl hx hy hb) hg rfl hN kk
theorem H_cmp {t ty : Nat} {pos : String} {af : Array Edge} {gd : Option (Nat × Bool)} {x y : Operand} {op : BinOp} {T U : TypeId} {k : IntKind} {m n : Int} {b : Bool} (hx : ev (⟨rs, os, fs⟩ : St) x = some (.val (.v (.int k m)))) (hy : ev (⟨rs, os, fs⟩ : St) y = some (.val (.v (.int k n)))) (hb : cmpI op m n = some b) (hg : guardOf ops ⟨rs, os, fs⟩ ⟨some t, .binOp op T x y U, ty, pos, af, gd⟩ = some true) (hoff : offB N (some t) EE = true) (kk : EM N ops TT l ⟨(t, (.val (.v (.bool b)))) :: rs, os, fs⟩ EE) : EM N ops TT (⟨some t, .binOp op T x y U, ty, pos, af, gd⟩ :: l) ⟨rs, os, fs⟩ EE := EH.still (g_cmp rfl hx hy hb) hg rfl hoff kk
theorem P_not {t ty : Nat} {pos : String} {af : Array Edge} {gd : Option (Nat × Bool)} {x : Operand} {T : TypeId} {b : Bool} (hx : ev (⟨rs, os, fs⟩ : St) x = some (.val (.v (.bool b)))) (hg : guardOf ops ⟨rs, os, fs⟩ ⟨some t, .unOp .not T x, ty, pos, af, gd⟩ = some true) (hN : Nat.blt t N = true) (kk : EL X ops Q l ⟨(t, (.val (.v (.bool (!b))))) :: rs, os, fs⟩) : EL X ops Q (⟨some t, .unOp .not T x, ty, pos, af, gd⟩ :: l) ⟨rs, os, fs⟩ := ES.still (g_not rfl hx) hg rfl hN kk
theorem P_str {t ty : Nat} {pos : String} {af : Array Edge} {gd : Option (Nat × Bool)} {x : Operand} {b : List UInt8} (hx : ev (⟨rs, os, fs⟩ : St) x = some (.val (.bs b))) (hg : guardOf ops ⟨rs, os, fs⟩ ⟨some t, .convert 23 9 x, ty, pos, af, gd⟩ = some true) (hN : Nat.blt t N = true) (kk : EL X ops Q l ⟨(t, (.val (.v (.string (Go.Proofs.Ytmlajcbabimkjaa.bs b))))) :: rs, os, fs⟩) : EL X ops Q (⟨some t, .convert 23 9 x, ty, pos, af, gd⟩ :: l) ⟨rs, os, fs⟩ := ES.still (g_str rfl hx) hg rfl hN kk
theorem P_bin {t ty : Nat} {pos : String} {af : Array Edge} {gd : Option (Nat × Bool)} {x y : Operand} {op : BinOp} {T U : TypeId} {d e : D} {c : Value} (hx : ev (⟨rs, os, fs⟩ : St) x = some (.val d)) (hy : ev (⟨rs, os, fs⟩ : St) y = some (.val e)) (hrun : Bin op T d e c) (hg : guardOf ops ⟨rs, os, fs⟩ ⟨some t, .binOp op T x y U, ty, pos, af, gd⟩ = some true) (hN : Nat.blt t N = true) (kk : EL X ops Q l ⟨(t, (.val (.v c))) :: rs, os, fs⟩) : EL X ops Q (⟨some t, .binOp op T x y U, ty, pos, af, gd⟩ :: l) ⟨rs, os, fs⟩ := ES.still (g_binI rfl hx hy hrun) hg rfl hN kk
theorem H_bin {t ty : Nat} {pos : String} {af : Array Edge} {gd : Option (Nat × Bool)} {x y : Operand} {op : BinOp} {T U : TypeId} {d e : D} {c : Value} (hx : ev (⟨rs, os, fs⟩ : St) x = some (.val d)) (hy : ev (⟨rs, os, fs⟩ : St) y = some (.val e)) (hrun : Bin op T d e c) (hg : guardOf ops ⟨rs, os, fs⟩ ⟨some t, .binOp op T x y U, ty, pos, af, gd⟩ = some true) (hoff : offB N (some t) EE = true) (kk : EM N ops TT l ⟨(t, (.val (.v c))) :: rs, os, fs⟩ EE) : EM N ops TT (⟨some t, .binOp op T x y U, ty, pos, af, gd⟩ :: l) ⟨rs, os, fs⟩ EE := EH.still (g_binI rfl hx hy hrun) hg rfl hoff kk
theorem P_build {t ty : Nat} {pos : String} {af : Array Edge} {gd : Option (Nat × Bool)} {T : Nat} {parts : Array (Nat × Operand)} {lf : List (Nat × Nat × Bool)} {d0 d : D} {ps : List (Nat × D)} (hx : evps (⟨rs, os, fs⟩ : St) parts.toList = some ps) (hT : assoc stL T = some lf) (hz : assoc zeroL T = some d0) (hd0 : d0.agg = true) (hf : fillD (lf.map fun x => (x.1, x.2.1)) d0 ps = some d) (hg : guardOf ops ⟨rs, os, fs⟩ ⟨some t, .build T parts, ty, pos, af, gd⟩ = some true) (hN : Nat.blt t N = true) (kk : EL X ops Q l ⟨(t, (.val d)) :: rs, os, fs⟩) : EL X ops Q (⟨some t, .build T parts, ty, pos, af, gd⟩ :: l) ⟨rs, os, fs⟩ := ES.still (g_buildI rfl hx hT hz hd0 hf) hg rfl hN kk
theorem P_build0 {t ty : Nat} {pos : String} {af : Array Edge} {gd : Option (Nat × Bool)} {T n e z : Nat} {d : D} (hT : assoc arL T = some (n, e, z)) (hz : assoc zeroL T = some d) (hd : d.agg = true) (hg : guardOf ops ⟨rs, os, fs⟩ ⟨some t, .build T #[], ty, pos, af, gd⟩ = some true) (hN : Nat.blt t N = true) (kk : EL X ops Q l ⟨(t, (.val d)) :: rs, os, fs⟩) : EL X ops Q (⟨some t, .build T #[], ty, pos, af, gd⟩ :: l) ⟨rs, os, fs⟩ := ES.still (g_build0I rfl hT hz hd) hg rfl hN kk
theorem P_index {t ty : Nat} {pos : String} {af : Array Edge} {gd : Option (Nat × Bool)} {x y : Operand} {T e z b : Nat} {k : Int} {ds : List D} {d : D} (hx : ev (⟨rs, os, fs⟩ : St) x = some (.val (.sl z ds))) (hy : ev (⟨rs, os, fs⟩ : St) y = some (.val (.v (.int .i64 k)))) (hT : assoc slL T = some (e, z, b)) (hz : Nat.blt 0 z = true) (hk : 0 ≤ k ∧ ds[k.toNat]? = some d) (hg : guardOf ops ⟨rs, os, fs⟩ ⟨some t, .indexAddr T x y, ty, pos, af, gd⟩ = some true) (hN : Nat.blt t N = true) (kk : EL X ops Q l ⟨(t, (.val (.pd d))) :: rs, os, fs⟩) : EL X ops Q (⟨some t, .indexAddr T x y, ty, pos, af, gd⟩ :: l) ⟨rs, os, fs⟩ := ES.still (g_indexJ rfl hx hy hT hz hk) hg rfl hN kk
theorem H_index {t ty : Nat} {pos : String} {af : Array Edge} {gd : Option (Nat × Bool)} {x y : Operand} {T e z b : Nat} {k : Int} {ds : List D} {d : D} (hx : ev (⟨rs, os, fs⟩ : St) x = some (.val (.sl z ds))) (hy : ev (⟨rs, os, fs⟩ : St) y = some (.val (.v (.int .i64 k)))) (hT : assoc slL T = some (e, z, b)) (hz : Nat.blt 0 z = true) (hk : 0 ≤ k ∧ ds[k.toNat]? = some d) (hg : guardOf ops ⟨rs, os, fs⟩ ⟨some t, .indexAddr T x y, ty, pos, af, gd⟩ = some true) (hoff : offB N (some t) EE = true) (kk : EM N ops TT l ⟨(t, (.val (.pd d))) :: rs, os, fs⟩ EE) : EM N ops TT (⟨some t, .indexAddr T x y, ty, pos, af, gd⟩ :: l) ⟨rs, os, fs⟩ EE := EH.still (g_indexJ rfl hx hy hT hz hk) hg rfl hoff kk
theorem P_load {t ty : Nat} {pos : String} {af : Array Edge} {gd : Option (Nat × Bool)} {x : Operand} {T sz g n i : Nat} {ag : Bool} {t0 : TypeId} {d d' : D} (hx : ev (⟨rs, os, fs⟩ : St) x = some (.val (.v (.pointer (some ⟨g, n, none⟩))))) (hi : os[i]? = some (.var g t0 d)) (hT : assoc tyL T = some (sz, ag)) (hs : d.sub n sz ag = some d') (hg : guardOf ops ⟨rs, os, fs⟩ ⟨some t, .load T x, ty, pos, af, gd⟩ = some true) (hN : Nat.blt t N = true) (kk : EL X ops Q l ⟨(t, (.val d')) :: rs, os, fs⟩) : EL X ops Q (⟨some t, .load T x, ty, pos, af, gd⟩ :: l) ⟨rs, os, fs⟩ := ES.still (g_loadI i rfl hx hi hT hs) hg rfl hN kk
theorem H_load {t ty : Nat} {pos : String} {af : Array Edge} {gd : Option (Nat × Bool)} {x : Operand} {T sz g n i : Nat} {ag : Bool} {t0 : TypeId} {d d' : D} (hx : ev (⟨rs, os, fs⟩ : St) x = some (.val (.v (.pointer (some ⟨g, n, none⟩))))) (hi : os[i]? = some (.var g t0 d)) (hT : assoc tyL T = some (sz, ag)) (hs : d.sub n sz ag = some d') (hg : guardOf ops ⟨rs, os, fs⟩ ⟨some t, .load T x, ty, pos, af, gd⟩ = some true) (hoff : offB N (some t) EE = true) (kk : EM N ops TT l ⟨(t, (.val d')) :: rs, os, fs⟩ EE) : EM N ops TT (⟨some t, .load T x, ty, pos, af, gd⟩ :: l) ⟨rs, os, fs⟩ EE := EH.still (g_loadI i rfl hx hi hT hs) hg rfl hoff kk
set_option maxRecDepth 100000 in
theorem P_lit {t ty T n e z y : Nat} {pos : String} {af : Array Edge} {gd : Option (Nat × Bool)} {parts : Array (Nat × Operand)} {ps : List (Nat × D)} {ds : List D} {d0 : D} (hx : evps (⟨rs, os, fs⟩ : St) parts.toList = some ps) (hT : assoc slL T = some (e, z, y)) (hz : assoc zeroL e = some d0) (hin : inRow 0 ps = some ds) (hsz : allB z ps = true) (hn : ps.length = n) (h0 : litB n z = true) (hg : guardOf ops ⟨rs, os, fs⟩ ⟨some t, .buildSlice T n parts, ty, pos, af, gd⟩ = some true) (hN : Nat.blt t N = true) (kk : EL X ops Q l ⟨(t, .val (.sl z ds)) :: rs, os, fs⟩) : EL X ops Q (⟨some t, .buildSlice T n parts, ty, pos, af, gd⟩ :: l) ⟨rs, os, fs⟩ := ES.grow (g_slice_litI (T := T) (n := n) (z := z) (parts := parts) rfl hx hT hz hin hsz hn h0) hg rfl hN kk
set_option maxRecDepth 100000 in
theorem H_lit {t ty T n e z y : Nat} {pos : String} {af : Array Edge} {gd : Option (Nat × Bool)} {parts : Array (Nat × Operand)} {ps : List (Nat × D)} {ds : List D} {d0 : D} (hx : evps (⟨rs, os, fs⟩ : St) parts.toList = some ps) (hT : assoc slL T = some (e, z, y)) (hz : assoc zeroL e = some d0) (hin : inRow 0 ps = some ds) (hsz : allB z ps = true) (hn : ps.length = n) (h0 : litB n z = true) (hg : guardOf ops ⟨rs, os, fs⟩ ⟨some t, .buildSlice T n parts, ty, pos, af, gd⟩ = some true) (hoff : offB N (some t) EE = true) (kk : EM N ops TT l ⟨(t, .val (.sl z ds)) :: rs, os, fs⟩ EE) : EM N ops TT (⟨some t, .buildSlice T n parts, ty, pos, af, gd⟩ :: l) ⟨rs, os, fs⟩ EE := EH.grow (g_slice_litI (T := T) (n := n) (z := z) (parts := parts) rfl hx hT hz hin hsz hn h0) hg rfl hoff kk
theorem P_call {t ty f : Nat} {pos : String} {af : Array Edge} {gd : Option (Nat × Bool)} {args : Array Operand} {tys : Array TypeId} {ds ds' : List D} {r : R} (hF : Fn f ds' (· = r)) (hx : evs (⟨rs, os, fs⟩ : St) args.toList = some ds) (hR : RefineL fs ds ds') (hf : Enters f) (hg : guardOf ops ⟨rs, os, fs⟩ ⟨some t, .call { callee := .value (.func f), args := args, argTypes := tys }, ty, pos, af, gd⟩ = some true) (hN : Nat.blt t N = true) (kk : EL X ops Q l ⟨(t, r) :: rs, os, fs⟩) : EL X ops Q (⟨some t, .call { callee := .value (.func f), args := args, argTypes := tys }, ty, pos, af, gd⟩ :: l) ⟨rs, os, fs⟩ := ES.call hF rfl hx hf hR hg rfl hN kk
theorem H_call {t ty f : Nat} {pos : String} {af : Array Edge} {gd : Option (Nat × Bool)} {args : Array Operand} {tys : Array TypeId} {ds ds' : List D} {r : R} (hF : Fn f ds' (· = r)) (hx : evs (⟨rs, os, fs⟩ : St) args.toList = some ds) (hR : RefineL fs ds ds') (hf : Enters f) (hg : guardOf ops ⟨rs, os, fs⟩ ⟨some t, .call { callee := .value (.func f), args := args, argTypes := tys }, ty, pos, af, gd⟩ = some true) (hoff : offB N (some t) EE = true) (kk : EM N ops TT l ⟨(t, r) :: rs, os, fs⟩ EE) : EM N ops TT (⟨some t, .call { callee := .value (.func f), args := args, argTypes := tys }, ty, pos, af, gd⟩ :: l) ⟨rs, os, fs⟩ EE := EH.call hF rfl hx hf hR hg rfl hoff kk
theorem P_skip {t ty : Nat} {op : Op} {pos : String} {af : Array Edge} {gd : Nat × Bool} (hg : guardOf ops ⟨rs, os, fs⟩ ⟨some t, op, ty, pos, af, some gd⟩ = some false) (hN : Nat.blt t N = true) (kk : EL X ops Q l ⟨(t, .tpl []) :: rs, os, fs⟩) : EL X ops Q (⟨some t, op, ty, pos, af, some gd⟩ :: l) ⟨rs, os, fs⟩ := ES.skip hg rfl hN kk
theorem P_alloc {t ty T : Nat} {pos : String} {af : Array Edge} {gd : Option (Nat × Bool)} {d : D} (hz : assoc zeroL T = some d) (hg : guardOf ops ⟨rs, os, fs⟩ ⟨some t, .alloc T, ty, pos, af, gd⟩ = some true) (hN : Nat.blt t N = true) (kk : ∀ g, EL X ops Q l ⟨(t, .val (.v (.pointer (some ⟨g, 0, none⟩)))) :: rs, .var g T d :: os, fs⟩) : EL X ops Q (⟨some t, .alloc T, ty, pos, af, gd⟩ :: l) ⟨rs, os, fs⟩ := ES.alloc rfl hz hg rfl hN kk
theorem P_box {t ty T : Nat} {pos : String} {af : Array Edge} {gd : Option (Nat × Bool)} {x : Operand} {d : D} (hx : ev (⟨rs, os, fs⟩ : St) x = some (.val d)) (hg : guardOf ops ⟨rs, os, fs⟩ ⟨some t, .box T x, ty, pos, af, gd⟩ = some true) (hN : Nat.blt t N = true) (kk : ∀ g, EL X ops Q l ⟨(t, .val (.v (.pointer (some ⟨g, 0, none⟩)))) :: rs, .var g T d :: os, fs⟩) : EL X ops Q (⟨some t, .box T x, ty, pos, af, gd⟩ :: l) ⟨rs, os, fs⟩ := ES.box rfl hx hg rfl hN kk
theorem P_store {T g n ty : Nat} {pos : String} {af : Array Edge} {gd : Option (Nat × Bool)} {x y : Operand} {t0 : TypeId} {d d' d'' : D} {os' : List Obj} (hx : ev (⟨rs, os, fs⟩ : St) x = some (.val (.v (.pointer (some ⟨g, n, none⟩))))) (hset : SetAt os (.var g t0 d) (.var g t0 d'') os') (hy : ev (⟨rs, os, fs⟩ : St) y = some (.val d')) (hT : assoc tyL T = some (d'.size, d'.agg)) (hu : d.upd n d' = some d'') (hg : guardOf ops ⟨rs, os, fs⟩ ⟨none, .store T x y, ty, pos, af, gd⟩ = some true) (kk : EL X ops Q l ⟨rs, os', fs⟩) : EL X ops Q (⟨none, .store T x y, ty, pos, af, gd⟩ :: l) ⟨rs, os, fs⟩ := by
  obtain ⟨i, hi, rfl⟩ := hset.ix
  exact EL.store i rfl rfl hg hx hi hy (tyI hT) hu kk
end
end E
end Go.Proofs.Ytmlajcbabimkjaa
/-
  The abstract machine: arguments of the elder contracts.
  Conditions: none.
-/
namespace Go.Proofs.Ytmlajcbabimkjaa
set_option linter.unusedVariables false
open Go.RowKit Mono Rlp
namespace E
section
variable {ok : Nat → Prop} {w : World}
theorem isB_of (hok : ∀ b, ok b → b < w.heap.size) {l : List UInt8} {v : Value} (h : ReadV ok w (.bs l) v) : IsB w v l := by
  obtain ⟨A, c, h1, h2, h3, h4⟩ := bs_ex h
  exact ⟨A, c, h1, h2, h3, fun hn => by
    obtain ⟨b, n, e, hb, hc⟩ := h4 hn
    exact ⟨b, n, e, hok b hb, hc⟩⟩
theorem arrV_of {n : Nat} {l : List UInt8} {v : Value} (h : ReadV ok w (.arr n l) v) : l.length = n ∧ v = arrV l := by
  obtain ⟨cs, h1, rfl⟩ := (readV_agg rfl).1 h
  rw [Reads] at h1
  rw [h1.2]
  exact ⟨h1.1, rfl⟩
theorem arrV_mk {n : Nat} {l : List UInt8} (h : l.length = n) : ReadV ok w (.arr n l) (arrV l) := (readV_agg rfl).2 ⟨bvs l, by rw [Reads]; exact ⟨h, rfl⟩, rfl⟩
theorem one_arg {d : D} {xs : List Value} (h : ReadVs ok w [d] xs) : ∃ v, xs = [v] ∧ ReadV ok w d v := by
  obtain ⟨x, rest, rfl, h1, h2⟩ := h
  cases h2
  exact ⟨x, rfl, h1⟩
theorem bs_read {w : World} {l : List UInt8} {v : Value} (h : IsB w v l) : ReadV (fun b => b < w.heap.size) w (.bs l) v := bs_mk h
end
end E
end Go.Proofs.Ytmlajcbabimkjaa
/-
  Items in plain words: what bytes are read as.
  Conditions: none. No program is named here.
-/
namespace Go.Proofs.Ytmlajcbabimkjaa
namespace Rlp
set_option maxRecDepth 100000
def hdr (b : List UInt8) (base : Nat) : Option (Nat × Nat) :=
  if (b.getD 0 0).toNat - base ≤ 55 then
    if (b.getD 0 0).toNat - base ≤ b.length - 1 then some (1, (b.getD 0 0).toNat - base) else none
  else if b.length < 1 + ((b.getD 0 0).toNat - base - 55) ∨ b.getD 1 0 = 0 then none
  else if val ((b.drop 1).take ((b.getD 0 0).toNat - base - 55)) > most then none
  else if 55 < val ((b.drop 1).take ((b.getD 0 0).toNat - base - 55)) ∧ val ((b.drop 1).take ((b.getD 0 0).toNat - base - 55)) ≤ b.length - 1 - ((b.getD 0 0).toNat - base - 55) then
    some (1 + ((b.getD 0 0).toNat - base - 55), val ((b.drop 1).take ((b.getD 0 0).toNat - base - 55)))
  else none
def parseL (p : List UInt8 → Except Nat (Raw × Nat)) : Nat → List UInt8 → Except Nat (List Raw)
  | _, [] => .ok []
  | 0, _ :: _ => .error 4
  | f + 1, c :: b => match p (c :: b) with
    | .error e => .error e
    | .ok (x, k) => match parseL p f ((c :: b).drop k) with
      | .error e => .error e
      | .ok xs => .ok (x :: xs)
def stepP (p : Option (List UInt8 → Except Nat (Raw × Nat))) : List UInt8 → Except Nat (Raw × Nat)
  | [] => .error 4
  | c :: t =>
    if c < 128 then .ok (.mk false [c] [], 1)
    else if c < 192 then match hdr (c :: t) 128 with
      | none => .error 4
      | some (h, n) => if n = 1 ∧ (c :: t).getD h 0 < 128 then .error 4 else .ok (.mk false (((c :: t).drop h).take n) [], h + n)
    else match p with
      | none => .error 3
      | some p => match hdr (c :: t) 192 with
        | none => .error 4
        | some (h, n) => match parseL p n (((c :: t).drop h).take n) with
          | .error e => .error e
          | .ok xs => .ok (.mk true [] xs, h + n)
theorem stepP_cons (p : Option (List UInt8 → Except Nat (Raw × Nat))) (c : UInt8) (t : List UInt8) : stepP p (c :: t) =
    if c < 128 then .ok (.mk false [c] [], 1)
    else if c < 192 then match hdr (c :: t) 128 with
      | none => .error 4
      | some (h, n) => if n = 1 ∧ (c :: t).getD h 0 < 128 then .error 4 else .ok (.mk false (((c :: t).drop h).take n) [], h + n)
    else match p with
      | none => .error 3
      | some p => match hdr (c :: t) 192 with
        | none => .error 4
        | some (h, n) => match parseL p n (((c :: t).drop h).take n) with
          | .error e => .error e
          | .ok xs => .ok (.mk true [] xs, h + n) := rfl
def parse : Nat → List UInt8 → Except Nat (Raw × Nat)
  | 0 => stepP none
  | d + 1 => stepP (some (parse d))
def readR (b : List UInt8) : Except Nat Raw := if b.length > most then .error 3 else match parse 32 b with
  | .error e => .error e
  | .ok (x, n) => if n = b.length then .ok x else .error 4
/-! ### What is read is an item's bytes -/
theorem hdr_spec {b : List UInt8} {base h n : Nat} (hb : hdr b base = some (h, n)) (h0 : b ≠ []) (h1 : base ≤ (b.getD 0 0).toNat) (_ : base ≤ 192) (h2 : (b.getD 0 0).toNat < base + 64) :
    b.take h = head n base ∧ h + n ≤ b.length ∧ 0 < h ∧ n ≤ b.length := by
  obtain ⟨c, t, rfl⟩ := List.exists_cons_of_ne_nil h0
  unfold hdr at hb
  simp only [List.getD_cons_zero, List.length_cons, List.getD_cons_succ, List.drop_succ_cons, List.drop_zero, Nat.add_sub_cancel] at hb h1 h2
  have hcl := c.toNat_lt
  split at hb
  · rename_i hk
    split at hb
    · rename_i hk2
      simp only [Option.some.injEq, Prod.mk.injEq] at hb
      obtain ⟨rfl, rfl⟩ := hb
      refine ⟨?_, by simp; omega, by omega, by simp; omega⟩
      unfold head
      rw [if_pos (by omega), show base + (c.toNat - base) = c.toNat by omega, UInt8.ofNat_toNat]
      rfl
    · cases hb
  · rename_i hk
    split at hb
    · cases hb
    · rename_i hk2
      split at hb
      · cases hb
      · split at hb
        · rename_i hk3 hk4
          simp only [Option.some.injEq, Prod.mk.injEq] at hb
          obtain ⟨rfl, rfl⟩ := hb
          obtain ⟨hm, hz⟩ : ¬ t.length + 1 < 1 + (c.toNat - base - 55) ∧ ¬ t.getD 0 0 = 0 := ⟨fun h => hk2 (.inl h), fun h => hk2 (.inr h)⟩
          refine ⟨?_, by simp; omega, by omega, by simp; omega⟩
          have hml : (t.take (c.toNat - base - 55)).length = c.toNat - base - 55 := by rw [List.length_take]; omega
          have hbe := be_val (t.take (c.toNat - base - 55)) (fun e => hz (by
            rcases t with _ | ⟨x, t⟩
            · simp at hml; omega
            · rw [show c.toNat - base - 55 = (c.toNat - base - 56) + 1 by omega, List.take_succ_cons] at e
              simpa using e))
          unfold head
          rw [if_neg (by omega), hbe, hml, Nat.add_comm 1, List.take_succ_cons]
          congr 1
          rw [show base + 55 + (c.toNat - base - 55) = c.toNat by omega, UInt8.ofNat_toNat]
        · cases hb
theorem parseL_E {p : List UInt8 → Except Nat (Raw × Nat)} (hp : ∀ b x k, p b = .ok (x, k) → b.take k = E x ∧ k ≤ b.length) : ∀ (f : Nat) (b : List UInt8) (xs : List Raw), parseL p f b = .ok xs → EL xs = b
  | _, [], xs, h => by unfold parseL at h; cases h; rfl
  | 0, _ :: _, xs, h => by unfold parseL at h; cases h
  | f + 1, c :: b, xs, h => by
    unfold parseL at h
    split at h
    · cases h
    · rename_i x k hx
      split at h
      · cases h
      · rename_i ys hy
        cases h
        have h1 := hp _ _ _ hx
        have h2 := parseL_E hp f _ ys hy
        rw [EL, h2, ← h1.1, List.take_append_drop]
theorem stepP_E (p : Option (List UInt8 → Except Nat (Raw × Nat))) (hp : ∀ q, p = some q → ∀ b x k, q b = .ok (x, k) → b.take k = E x ∧ k ≤ b.length ∧ 0 < k) (b : List UInt8) (x : Raw) (n : Nat) (h : stepP p b = .ok (x, n)) : b.take n = E x ∧ n ≤ b.length ∧ 0 < n := by
  cases b with
  | nil => cases h
  | cons c t =>
    rw [stepP_cons] at h
    split at h
    · rename_i hc
      cases h
      refine ⟨?_, by simp, by omega⟩
      rw [E, EB, if_pos ⟨rfl, hc⟩]
      rfl
    · rename_i hc
      have hcn : 128 ≤ c.toNat := by
        exact Nat.not_lt.1 fun e => hc (UInt8.lt_iff_toNat_lt.2 e)
      split at h
      · rename_i hc2
        have hcm : c.toNat < 192 := UInt8.lt_iff_toNat_lt.1 hc2
        split at h
        · cases h
        · rename_i k m hh
          split at h
          · cases h
          · rename_i hne
            cases h
            obtain ⟨h1, h2, h3, _⟩ := hdr_spec hh (by simp) (by simpa using hcn) (by omega) (by simp; omega)
            refine ⟨?_, h2, by omega⟩
            have hl : (((c :: t).drop k).take m).length = m := by rw [List.length_take, List.length_drop]; omega
            rw [E, EB, hl, if_neg ?_, ← h1, List.take_add]
            rintro ⟨h4, h5⟩
            refine hne ⟨h4, ?_⟩
            have h6 : (((c :: t).drop k).take m).getD 0 0 = (c :: t).getD k 0 := by
              simp only [List.getD_eq_getElem?_getD, List.getElem?_take, List.getElem?_drop]
              rw [if_pos (by omega), Nat.add_zero]
            rw [h6] at h5
            exact h5
      · rename_i hc2
        have hcm : 192 ≤ c.toNat := by
          exact Nat.not_lt.1 fun e => hc2 (UInt8.lt_iff_toNat_lt.2 e)
        have hcl := c.toNat_lt
        cases p with
        | none => cases h
        | some p =>
          dsimp only at h
          split at h
          · cases h
          · rename_i k m hh
            split at h
            · cases h
            · rename_i ys hy
              cases h
              obtain ⟨h1, h2, h3, _⟩ := hdr_spec hh (by simp) (by simpa using hcm) (by omega) (by simp; omega)
              refine ⟨?_, h2, by omega⟩
              have hE := parseL_E (fun b x k hb => ⟨(hp p rfl b x k hb).1, (hp p rfl b x k hb).2.1⟩) _ _ _ hy
              have hl : (((c :: t).drop k).take m).length = m := by rw [List.length_take, List.length_drop]; omega
              rw [E, hE, hl, ← h1, List.take_add]
theorem parse_E : ∀ (d : Nat) (b : List UInt8) (x : Raw) (n : Nat), parse d b = .ok (x, n) → b.take n = E x ∧ n ≤ b.length ∧ 0 < n
  | 0, b, x, n, h => stepP_E none (fun q e => by cases e) b x n h
  | d + 1, b, x, n, h => stepP_E (some (parse d)) (fun q e => by cases e; exact parse_E d) b x n h
/-! ### An item's bytes are read as it -/
mutual
def norm : Raw → Raw
  | .mk false bs _ => .mk false bs []
  | .mk true _ xs => .mk true [] (normL xs)
def normL : List Raw → List Raw
  | [] => []
  | x :: xs => norm x :: normL xs
end
theorem hdr_head (n base : Nat) (t : List UInt8) (hb : base = 128 ∨ base = 192) (h1 : n ≤ t.length) (h2 : n ≤ most) : hdr (head n base ++ t) base = some ((head n base).length, n) := by
  unfold head
  by_cases hn : n < 56
  · rw [if_pos hn]
    have hc : (UInt8.ofNat (base + n)).toNat = base + n := by rw [UInt8.toNat_ofNat']; omega
    unfold hdr
    simp only [List.singleton_append, List.getD_cons_zero, hc, List.length_cons, Nat.add_sub_cancel_left]
    rw [if_pos (by omega), if_pos (by omega)]
    rfl
  · rw [if_neg hn]
    have hl := be_length 4 n (by simp only [most] at h2; omega)
    obtain ⟨x, l, hx, hx0⟩ := be_head n (by omega)
    have hl1 : 0 < (be n).length := by rw [hx]; simp
    have hc : (UInt8.ofNat (base + 55 + (be n).length)).toNat = base + 55 + (be n).length := by rw [UInt8.toNat_ofNat']; omega
    unfold hdr
    have hg1 : (be n ++ t).getD 0 0 = x := by rw [hx]; rfl
    simp only [List.cons_append, List.getD_cons_zero, hc, List.length_cons, List.length_append, List.getD_cons_succ, List.drop_succ_cons, List.drop_zero, hg1]
    have hk : base + 55 + (be n).length - base - 55 = (be n).length := by omega
    rw [hk, List.take_left' rfl, val_be, if_neg (by omega), if_neg (by rintro (h | h); omega; exact hx0 h), if_neg (by omega), if_pos (by omega)]
    congr 2
    omega
theorem head_first (n base : Nat) (h : base = 128 ∨ base = 192) (h2 : n ≤ most) : ∃ c l, head n base = c :: l ∧ base ≤ c.toNat ∧ c.toNat < base + 64 := by
  unfold head
  by_cases hn : n < 56
  · rw [if_pos hn]
    have hc : (UInt8.ofNat (base + n)).toNat = base + n := by rw [UInt8.toNat_ofNat']; omega
    exact ⟨_, _, rfl, by omega, by omega⟩
  · rw [if_neg hn]
    have hl := be_length 4 n (by simp only [most] at h2; omega)
    have hc : (UInt8.ofNat (base + 55 + (be n).length)).toNat = base + 55 + (be n).length := by rw [UInt8.toNat_ofNat']; omega
    exact ⟨_, _, rfl, by omega, by omega⟩
theorem head_pos (n base : Nat) : 0 < (head n base).length := by
  unfold head
  split <;> simp
theorem E_pos : ∀ r : Raw, 0 < (E r).length
  | .mk false bs _ => by
    rw [E, EB]
    split
    · rename_i h; omega
    · rw [List.length_append]; have := head_pos bs.length 128; omega
  | .mk true _ xs => by rw [E, List.length_append]; have := head_pos (EL xs).length 192; omega
theorem meas_most (bs xs) (d n : Nat) (h : meas (.mk false bs xs) d = some n) : bs.length ≤ most := by
  rw [meas] at h
  split at h
  · assumption
  · cases h
theorem measL_of (xs : List Raw) (o : List UInt8) (d n : Nat) (h : meas (.mk true o xs) d = some n) : d ≠ 32 ∧ ∃ k, measL xs (d + 1) 0 = some k := by
  rw [meas] at h
  split at h
  · cases h
  · refine ⟨by assumption, ?_⟩
    cases hm : measL xs (d + 1) 0 with
    | none => rw [hm] at h; cases h
    | some k => exact ⟨k, rfl⟩
theorem parse_step (m : Nat) : ∃ p, parse m = stepP p ∧ (∀ k, m = k + 1 → p = some (parse k)) := by
  cases m with
  | zero => exact ⟨none, rfl, fun k e => by cases e⟩
  | succ m => exact ⟨some (parse m), rfl, fun k e => by cases e; rfl⟩
mutual
theorem parse_of : ∀ (r : Raw) (d m n : Nat) (t : List UInt8), d + m = 32 → meas r d = some n → (E r).length ≤ most → parse m (E r ++ t) = .ok (norm r, (E r).length)
  | .mk false bs xs, d, m, n, t, h, hm, hl => by
    have hb := meas_most bs xs d n hm
    rw [E, norm]
    unfold EB
    by_cases hs : bs.length = 1 ∧ bs.getD 0 0 < 128
    · rw [if_pos hs]
      obtain ⟨c, rfl⟩ := List.length_eq_one_iff.1 hs.1
      obtain ⟨p, hp, _⟩ := parse_step m
      rw [List.singleton_append, hp]
      rw [stepP_cons]
      rw [if_pos (by simpa using hs.2)]
      rfl
    · rw [if_neg hs]
      obtain ⟨c, l, hc, hc1, hc2⟩ := head_first bs.length 128 (.inl rfl) hb
      have hh := hdr_head bs.length 128 (bs ++ t) (.inl rfl) (by simp) hb
      have hgd : (head bs.length 128 ++ (bs ++ t)).getD (head bs.length 128).length 0 = (bs ++ t).getD 0 0 := by
        simp only [List.getD_eq_getElem?_getD]
        rw [List.getElem?_append_right (Nat.le_refl _), Nat.sub_self]
      have hdr1 : (head bs.length 128 ++ (bs ++ t)).drop (head bs.length 128).length = bs ++ t := List.drop_left' rfl
      rw [List.append_assoc, List.length_append]
      rw [hc] at hh hgd hdr1 ⊢
      rw [List.cons_append] at hh hgd hdr1 ⊢
      obtain ⟨p, hp, _⟩ := parse_step m
      rw [hp]
      rw [stepP_cons]
      have g1 : ¬ c < 128 := fun e => by have := UInt8.lt_iff_toNat_lt.1 e; have h128 : (128 : UInt8).toNat = 128 := rfl; omega
      have g2 : c < 192 := UInt8.lt_iff_toNat_lt.2 (by have h192 : (192 : UInt8).toNat = 192 := rfl; omega)
      rw [if_neg g1, if_pos g2, hh]
      dsimp only
      rw [if_neg ?_, hdr1, List.take_left' rfl]
      rintro ⟨h4, h5⟩
      rw [hgd] at h5
      refine hs ⟨h4, ?_⟩
      obtain ⟨x, rfl⟩ := List.length_eq_one_iff.1 h4
      simpa using h5
  | .mk true o xs, d, m, n, t, h, hm, hl => by
    obtain ⟨hd, k, hk⟩ := measL_of xs o d n hm
    have hkl := measL_E xs (d + 1) 0 k hk
    rw [Nat.zero_add] at hkl
    rw [E] at hl ⊢
    rw [norm]
    rw [List.length_append] at hl
    obtain ⟨m, rfl⟩ : ∃ m', m = m' + 1 := ⟨m - 1, by omega⟩
    obtain ⟨c, l, hc, hc1, hc2⟩ := head_first (EL xs).length 192 (.inr rfl) (by omega)
    have hh := hdr_head (EL xs).length 192 (EL xs ++ t) (.inr rfl) (by simp) (by omega)
    have hdr1 : (head (EL xs).length 192 ++ (EL xs ++ t)).drop (head (EL xs).length 192).length = EL xs ++ t := List.drop_left' rfl
    have hps := parseL_of xs (d + 1) m 0 k (by omega) hk (by omega) (EL xs).length (Nat.le_refl _)
    rw [List.append_assoc, List.length_append]
    rw [hc] at hh hdr1 ⊢
    rw [List.cons_append] at hh hdr1 ⊢
    rw [show parse (m + 1) = stepP (some (parse m)) from rfl]
    rw [stepP_cons]
    have g1 : ¬ c < 128 := fun e => by have := UInt8.lt_iff_toNat_lt.1 e; have h128 : (128 : UInt8).toNat = 128 := rfl; omega
    have g2 : ¬ c < 192 := fun e => by have := UInt8.lt_iff_toNat_lt.1 e; have h192 : (192 : UInt8).toNat = 192 := rfl; omega
    rw [if_neg g1, if_neg g2]
    dsimp only
    rw [hh]
    dsimp only
    rw [hdr1, List.take_left' rfl, hps]
theorem parseL_of : ∀ (xs : List Raw) (d m n k : Nat), d + m = 32 → measL xs d n = some k → (EL xs).length ≤ most → ∀ f, (EL xs).length ≤ f → parseL (parse m) f (EL xs) = .ok (normL xs)
  | [], d, m, n, k, h, hm, hl, f, hf => by rw [EL, normL]; unfold parseL; rfl
  | x :: xs, d, m, n, k, h, hm, hl, f, hf => by
    rw [EL, List.length_append] at hl hf
    have hp := E_pos x
    rw [measL] at hm
    cases hx : meas x d with
    | none => rw [hx] at hm; cases hm
    | some j =>
      rw [hx] at hm
      dsimp only at hm
      split at hm
      · cases hm
      · have h1 := parse_of x d m j (EL xs) h hx (by omega)
        obtain ⟨f, rfl⟩ : ∃ f', f = f' + 1 := ⟨f - 1, by omega⟩
        have h2 := parseL_of xs d m (n + j) k h hm (by omega) f (by omega)
        rw [EL, normL]
        obtain ⟨c, l, hc⟩ : ∃ c l, E x ++ EL xs = c :: l := by
          cases he : E x with
          | nil => rw [he] at hp; simp at hp
          | cons c l => exact ⟨c, l ++ EL xs, rfl⟩
        have hdr1 : (E x ++ EL xs).drop (E x).length = EL xs := List.drop_left' rfl
        rw [hc] at h1 hdr1 ⊢
        unfold parseL
        rw [h1]
        dsimp only
        rw [hdr1, h2]
end
theorem readR_of {r : Raw} {b : List UInt8} (h : packed r = some b) : readR b = .ok (norm r) := by
  unfold packed at h
  cases hm : meas r 0 with
  | none => rw [hm] at h; cases h
  | some n =>
    rw [hm] at h
    dsimp only at h
    split at h
    · cases h
    · rename_i hn
      cases h
      have hl := meas_E r 0 n hm
      have := parse_of r 0 32 n [] rfl hm (by omega)
      rw [List.append_nil] at this
      unfold readR
      rw [if_neg (by omega), this]
      dsimp only
      rw [if_pos rfl]
/-! ### Items that are one -/
end Rlp
end Go.Proofs.Ytmlajcbabimkjaa
/-
  Items in memory; rlp's of.
  Conditions: none.
-/
namespace Go.Proofs.Ytmlajcbabimkjaa
set_option linter.unusedVariables false
open Go.RowKit Mono Rlp
mutual
def ItemAtP (ok : Nat → Prop) (w : World) : Raw → List Value → Prop
  | .mk b bs xs, cs => ∃ vb A c rows, cs = [.bool b, vb, .slice A xs.length c] ∧ IsBP ok w vb bs ∧ xs.length ≤ c ∧ c ≤ maxLen ∧ (A = none → xs.length = 0 ∧ c = 0) ∧ RdP ok w A rows.flatten ∧ ItemsAtP ok w xs rows
def ItemsAtP (ok : Nat → Prop) (w : World) : List Raw → List (List Value) → Prop
  | [], rows => rows = []
  | x :: xs, rows => ∃ r rest, rows = r :: rest ∧ ItemAtP ok w x r ∧ ItemsAtP ok w xs rest
end
def ItemAt (w : World) (x : Raw) (cs : List Value) : Prop := ItemAtP (fun b => b < w.heap.size) w x cs
def ItemsAt (w : World) (xs : List Raw) (rows : List (List Value)) : Prop := ItemsAtP (fun b => b < w.heap.size) w xs rows
mutual
theorem ItemAtP.mono {ok ok' : Nat → Prop} {w w' : World} (h1 : ∀ b, ok b → ok' b) (h2 : ∀ p : Addr, ok p.block → w'.cell? p = w.cell? p) : ∀ (x : Raw) (cs : List Value), ItemAtP ok w x cs → ItemAtP ok' w' x cs
  | .mk b bs xs, cs, h => by
    rw [ItemAtP] at h ⊢
    obtain ⟨vb, A, c, rows, g1, g2, g3, g4, g5, g6, g7⟩ := h
    exact ⟨vb, A, c, rows, g1, g2.mono h1 h2, g3, g4, g5, g6.mono h1 h2, ItemsAtP.mono h1 h2 xs rows g7⟩
theorem ItemsAtP.mono {ok ok' : Nat → Prop} {w w' : World} (h1 : ∀ b, ok b → ok' b) (h2 : ∀ p : Addr, ok p.block → w'.cell? p = w.cell? p) : ∀ (xs : List Raw) (rows : List (List Value)), ItemsAtP ok w xs rows → ItemsAtP ok' w' xs rows
  | [], rows, h => by rw [ItemsAtP] at h ⊢; exact h
  | x :: xs, rows, h => by
    rw [ItemsAtP] at h ⊢
    obtain ⟨r, rest, g1, g2, g3⟩ := h
    exact ⟨r, rest, g1, ItemAtP.mono h1 h2 x r g2, ItemsAtP.mono h1 h2 xs rest g3⟩
end
theorem ItemAt.eq (w : World) (b : Bool) (bs : List UInt8) (xs : List Raw) (cs : List Value) : ItemAt w (.mk b bs xs) cs = ∃ vb A c rows, cs = [.bool b, vb, .slice A xs.length c] ∧ IsB w vb bs ∧ xs.length ≤ c ∧ c ≤ maxLen ∧ (A = none → xs.length = 0 ∧ c = 0) ∧ Rd w w.heap.size A rows.flatten ∧ ItemsAt w xs rows := by
  unfold ItemAt
  rw [ItemAtP]
  rfl
theorem ItemsAt.nil_eq (w : World) (rows : List (List Value)) : ItemsAt w [] rows = (rows = []) := by unfold ItemsAt; rw [ItemsAtP]
theorem ItemsAt.cons_eq (w : World) (x : Raw) (xs : List Raw) (rows : List (List Value)) : ItemsAt w (x :: xs) rows = ∃ r rest, rows = r :: rest ∧ ItemAt w x r ∧ ItemsAt w xs rest := by
  unfold ItemsAt
  rw [ItemsAtP]
  rfl
theorem ItemAt.gr {w w' : World} (hg : Gr w w') (x : Raw) (cs : List Value) (h : ItemAt w x cs) : ItemAt w' x cs :=
  ItemAtP.mono (fun b hb => Nat.lt_of_lt_of_le hb hg.size) (fun p hp => hg.cell hp) x cs h
theorem ItemsAt.gr {w w' : World} (hg : Gr w w') (xs : List Raw) (rows : List (List Value)) (h : ItemsAt w xs rows) : ItemsAt w' xs rows :=
  ItemsAtP.mono (fun b hb => Nat.lt_of_lt_of_le hb hg.size) (fun p hp => hg.cell hp) xs rows h
theorem ItemsAtP.append {ok : Nat → Prop} {w : World} : ∀ (xs ys : List Raw) (rows rest : List (List Value)), ItemsAtP ok w xs rows → ItemsAtP ok w ys rest → ItemsAtP ok w (xs ++ ys) (rows ++ rest)
  | [], ys, rows, rest, h, h2 => by rw [ItemsAtP] at h; subst h; exact h2
  | x :: xs, ys, rows, rest, h, h2 => by
    rw [ItemsAtP] at h
    obtain ⟨r, rs, rfl, h3, h4⟩ := h
    rw [List.cons_append, ItemsAtP]
    exact ⟨r, rs ++ rest, rfl, h3, ItemsAtP.append xs ys rs rest h4 h2⟩
theorem ItemAtP.len {ok : Nat → Prop} {w : World} {x : Raw} {cs : List Value} (h : ItemAtP ok w x cs) : ∃ b A1 n1 c1 A n c, cs = [.bool b, .slice A1 n1 c1, .slice A n c] := by
  cases x
  rw [ItemAtP] at h
  obtain ⟨vb, A, c, rows, h1, ⟨A1, c1, rfl, _⟩, _⟩ := h
  exact ⟨_, _, _, _, _, _, _, h1⟩
theorem ItemAt.len {w : World} {x : Raw} {cs : List Value} (h : ItemAt w x cs) : ∃ b vb A n c, cs = [.bool b, vb, .slice A n c] := by
  cases x
  rw [ItemAt.eq] at h
  obtain ⟨vb, A, c, rows, h1, _⟩ := h
  exact ⟨_, _, _, _, _, h1⟩
theorem ItemsAt.length {w : World} : ∀ (xs : List Raw) (rows : List (List Value)), ItemsAt w xs rows → rows.length = xs.length
  | [], rows, h => by rw [ItemsAt.nil_eq] at h; rw [h]; rfl
  | x :: xs, rows, h => by
    rw [ItemsAt.cons_eq] at h
    obtain ⟨r, rest, rfl, _, h3⟩ := h
    simp [ItemsAt.length xs rest h3]
theorem ItemsAt.get {w : World} : ∀ (xs : List Raw) (rows : List (List Value)), ItemsAt w xs rows → ∀ k (hk : k < xs.length), ∃ cs, ItemAt w xs[k] cs ∧ ∀ j u, cs[j]? = some u → rows.flatten[k * 3 + j]? = some u
  | [], rows, _, k, hk => by simp at hk
  | x :: xs, rows, h, k, hk => by
    rw [ItemsAt.cons_eq] at h
    obtain ⟨r, rest, rfl, h2, h3⟩ := h
    obtain ⟨b, vb, A, n, c, hr⟩ := h2.len
    have hr3 : r.length = 3 := by rw [hr]; rfl
    cases k with
    | zero =>
      refine ⟨r, h2, fun j u hu => ?_⟩
      have hj := (List.getElem?_eq_some_iff.1 hu).1
      rw [Nat.zero_mul, Nat.zero_add, List.flatten_cons, List.getElem?_append_left hj]
      exact hu
    | succ k =>
      obtain ⟨cs, h4, h5⟩ := ItemsAt.get xs rest h3 k (by simpa using hk)
      refine ⟨cs, h4, fun j u hu => ?_⟩
      rw [List.flatten_cons, List.getElem?_append_right (by omega), hr3, ← h5 j u hu]
      congr 1
      omega
def IsItem (w : World) (v : Value) (x : Raw) : Prop := ∃ cs, v = .agg cs.toArray ∧ ItemAt w x cs
def IsItems (w : World) (v : Value) (xs : List Raw) : Prop := ∃ A c rows, v = .slice A xs.length c ∧ xs.length ≤ c ∧ c ≤ maxLen ∧ (A = none → xs.length = 0 ∧ c = 0) ∧ Rd w w.heap.size A rows.flatten ∧ ItemsAt w xs rows
theorem IsItem.gr {w w' : World} {v : Value} {x : Raw} (h : IsItem w v x) (hg : Gr w w') : IsItem w' v x := by
  obtain ⟨cs, h1, h2⟩ := h
  exact ⟨cs, h1, h2.gr hg⟩
theorem IsItems.gr {w w' : World} {v : Value} {xs : List Raw} (h : IsItems w v xs) (hg : Gr w w') : IsItems w' v xs := by
  obtain ⟨A, c, rows, h1, h2, h3, h4, h5, h6⟩ := h
  exact ⟨A, c, rows, h1, h2, h3, h4, h5.gr hg, h6.gr hg⟩
theorem isItem_form {w : World} {v : Value} {b : Bool} {bs : List UInt8} {xs : List Raw} (h : IsItem w v (.mk b bs xs)) : ∃ vb vl, v = .agg #[.bool b, vb, vl] ∧ IsB w vb bs ∧ IsItems w vl xs := by
  obtain ⟨cs, rfl, h⟩ := h
  rw [ItemAt.eq] at h
  obtain ⟨vb, A, c, rows, rfl, h2, h3, h4, h5, h6, h7⟩ := h
  exact ⟨vb, _, rfl, h2, A, c, rows, rfl, h3, h4, h5, h6, h7⟩
theorem IsItems.nil (w : World) : IsItems w (.slice none 0 0) [] := ⟨none, 0, [], rfl, Nat.le_refl _, by simp [maxLen], fun _ => ⟨rfl, rfl⟩, Rd.nil, by rw [ItemsAt.nil_eq]⟩
theorem items_at {w : World} {A : Option Addr} {xs : List Raw} {rows : List (List Value)} (hr : Rd w w.heap.size A rows.flatten) (h : ItemsAt w xs rows) (k : Nat) (hk : k < xs.length) :
    ∃ bl o f vb vl, A = some ⟨bl, o, none⟩ ∧ bl < w.heap.size ∧ w.cell? ⟨bl, o + k * 3, none⟩ = some (.bool f) ∧ w.cell? ⟨bl, o + k * 3 + 1, none⟩ = some vb ∧ w.cell? ⟨bl, o + k * 3 + 2, none⟩ = some vl ∧
      IsItem w (.agg #[.bool f, vb, vl]) xs[k] ∧ (∃ A' n c, vb = .slice A' n c) ∧ (∃ A' n c, vl = .slice A' n c) := by
  obtain ⟨cs, h1, h2⟩ := ItemsAt.get xs rows h k hk
  obtain ⟨f, vb, A', n, c, rfl⟩ := h1.len
  have hvb : ∃ A' n c, vb = .slice A' n c := by
    have h3 := h1
    generalize xs[k] = x at h3
    obtain ⟨b', bs', xs'⟩ := x
    rw [ItemAt.eq] at h3
    obtain ⟨vb', A2, c2, rows2, h4, h5, _⟩ := h3
    simp only [List.cons.injEq] at h4
    obtain ⟨A3, c3, h6, _⟩ := h5
    exact ⟨_, _, _, h4.2.1.trans h6⟩
  have hne : rows.flatten ≠ [] := fun e => by
    have := h2 0 _ rfl
    rw [e] at this
    simp at this
  obtain ⟨bl, o, rfl, hb, hc⟩ := hr hne
  exact ⟨bl, o, f, vb, .slice A' n c, rfl, hb, hc _ _ (h2 0 _ rfl), hc _ _ (h2 1 _ rfl), hc _ _ (h2 2 _ rfl), ⟨_, rfl, h1⟩, hvb, A', n, c, rfl⟩
@[go_sem] theorem as_bytes (v : Value) (w : World) : (Instr.typeAssert (.iface 23 v) 145 23 true).run Try.prog w = .ok (.tuple #[v, .bool true]) w := by kernel_rfl
@[go_sem] theorem as_bytes_no (v : Value) (w : World) : (Instr.typeAssert (.iface 39 v) 145 23 true).run Try.prog w = .ok (.tuple #[.slice none 0 0, .bool false]) w := by kernel_rfl
@[go_sem] theorem as_items (v : Value) (w : World) : (Instr.typeAssert (.iface 39 v) 145 39 true).run Try.prog w = .ok (.tuple #[v, .bool true]) w := by kernel_rfl
def IsOf (w : World) (v : Value) : Raw → Prop
  | .mk false bs _ => ∃ vb, v = .iface 23 vb ∧ IsB w vb bs
  | .mk true _ xs => ∃ vl, v = .iface 39 vl ∧ IsItems w vl xs
theorem IsOf.gr {w w' : World} {v : Value} {x : Raw} (h : IsOf w v x) (hg : Gr w w') : IsOf w' v x := by
  obtain ⟨b, bs, xs⟩ := x
  cases b
  · obtain ⟨vb, h1, h2⟩ := h
    exact ⟨vb, h1, h2.gr hg⟩
  · obtain ⟨vb, h1, h2⟩ := h
    exact ⟨vb, h1, h2.gr hg⟩
set_option maxHeartbeats 400000 in
theorem rlp_of (v : Value) (x : Raw) (w : World) (h : IsItem w v x) : Calls Try.prog 76 #[v] w (Ret (fun v w' => IsOf w' v x) w) := by
  obtain ⟨b, bs, xs⟩ := x
  obtain ⟨vb, vl, rfl, h1, h2⟩ := isItem_form h
  have H1 := Lib.hid h1
  have H2 := Lib.hid h2
  clear h h1 h2
  cases b with
  | false =>
    go_enter Try.func76, Try.ntmps76
    go_wp2
    refine bodyPost_ret (results_tmp rfl _ _ _) rfl ?_
    exact ⟨_, rfl, gr_alloc w _, _, rfl, H1.out.gr (gr_alloc w _)⟩
  | true =>
    go_enter Try.func76, Try.ntmps76
    go_wp2
    refine bodyPost_ret (results_tmp rfl _ _ _) rfl ?_
    exact ⟨_, rfl, gr_alloc w _, _, rfl, H2.out.gr (gr_alloc w _)⟩
def ItemIn (ok : Nat → Prop) (w : World) (v : Value) (x : Raw) : Prop := ∃ cs, v = .agg cs.toArray ∧ ItemAtP ok w x cs
theorem ItemIn.mono {ok ok' : Nat → Prop} {w w' : World} {v : Value} {x : Raw} (h : ItemIn ok w v x) (h1 : ∀ b, ok b → ok' b) (h2 : ∀ p : Addr, ok p.block → w'.cell? p = w.cell? p) : ItemIn ok' w' v x := by
  obtain ⟨cs, e, h⟩ := h
  exact ⟨cs, e, ItemAtP.mono h1 h2 x cs h⟩
theorem ItemIn.is {ok : Nat → Prop} {w : World} {v : Value} {x : Raw} (h : ItemIn ok w v x) (h1 : ∀ b, ok b → b < w.heap.size) : IsItem w v x := h.mono h1 fun _ _ => rfl
theorem itemIn_bytes {ok : Nat → Prop} {w : World} {vb : Value} {l : List UInt8} (h : IsBP ok w vb l) : ItemIn ok w (.agg #[.bool false, vb, .slice none 0 0]) (.mk false l []) := by
  refine ⟨[.bool false, vb, .slice none 0 0], rfl, ?_⟩
  rw [ItemAtP]
  exact ⟨vb, none, 0, [], rfl, h, Nat.le_refl _, by simp [maxLen], fun _ => ⟨rfl, rfl⟩, fun hn => absurd rfl hn, by rw [ItemsAtP]⟩
theorem slT_items : SlT Try.prog 39 41 3 56 :=
  ⟨Try.underlying39, by
    have h : (Try.prog.info? 41).map (fun i => (i.zero, i.size, i.bytes)) = some (some (.agg #[.bool false, .slice none 0 0, .slice none 0 0]), 3, 56) := by kernel_rfl
    obtain ⟨i, hi, hz, h1, h2⟩ := info_parts h
    exact ⟨i, _, hi, hz, h1, h2, rfl⟩, by omega⟩
end Go.Proofs.Ytmlajcbabimkjaa
