/-
 Merged: lemmas of this claim.
 Conditions: none.
-/
import Derived.Test.YtelbhdobjdnglaaGreatZC3
import Derived.IntWalk
import Derived.Great.BuildSlice
import Derived.Laws.Tables
import Derived.Test.YtelbhdobjdnglaaGreatZC0
namespace Go.Proofs.YtelbhdobjdnglaaGreat
set_option linter.unusedVariables false
open Go.RowKit Mono Rlp
namespace E
section
variable {N : Nat} {X : Cx N} {S S' : St} {a : Act} {w w' : World} {ops : Array Oper} {o : Oper} {Q : Exit → Act → World → Prop} {l : List Oper} {L : Tmp → Prop}
structure QB (T e z : Nat) : Prop where
 und : Tryz.prog.underlying T = some (.slice e)
 size : (Tryz.prog.info? e).map (·.size) = some z
structure Tt (T n e z : Nat) : Prop where
 und : Tryz.prog.underlying T = some (.array n e)
 size : (Tryz.prog.info? e).map (·.size) = some z
theorem nV {e z : Nat} (h : (Tryz.prog.info? e).map (·.size) = some z) (w : World) : (sizeOf e).run Tryz.prog w = .ok z w := by
 cases hi : Tryz.prog.info? e with
 | none => rw [hi] at h; cases h
 | some i =>
  rw [hi] at h
  have hs : i.size = z := by simpa using h
  simp [sizeOf, typeInfo, hi, hs]
theorem zQ {ok : Nat → Prop} {l : List UInt8} {x : Value} (h : bW ok w (.bs l) x) : wC ok w x l := by
 have := (dn rfl).1 h
 rw [Reads] at this
 obtain ⟨u, h1, h2⟩ := this
 obtain rfl : x = u := by simpa using h1
 exact h2
theorem wH {ok : Nat → Prop} {z : Nat} {ds : List D} {x : Value} (h : bW ok w (.sl z ds) x) : ∃ A c rows, x = .slice A ds.length c ∧ ds.length ≤ c ∧ c ≤ maxLen ∧ (A = none → ds.length = 0 ∧ c = 0) ∧ RdP ok w A rows.flatten ∧ ay ok w z ds rows := by
 have := (dn rfl).1 h
 rw [Reads] at this
 obtain ⟨A, c, rows, h1, h2⟩ := this
 exact ⟨A, c, rows, by simpa using h1, h2⟩
theorem Qk {ok : Nat → Prop} {l : List UInt8} {x : Value} (h : wC ok w x l) : bW ok w (.bs l) x := (dn rfl).2 (by rw [Reads]; exact ⟨x, rfl, h⟩)
theorem iD {ok : Nat → Prop} {x : Value} (h : x.oneCell' = true) : bW ok w (.v x) x := aY.2 ⟨h, rfl⟩
theorem gW {base : Nat → Prop} {ok : Nat → Prop} (h : Kn base ok L S a w) {x : Operand} {y : Value} (hx : ev S x = some (.val (.v y))) (hL : ∀ t, x = .tmp t → L t) : a.eval x = y := (aY.1 (h.ev hx hL)).2
theorem Q8 {ok : Nat → Prop} {z : Nat} {ds : List D} {A : Option Addr} {rows : List (List Value)} (hr : RdP ok w A rows.flatten) (h : ay ok w z ds rows) (hz : 0 < z) (k : Nat) (hk : k < ds.length) :
  ∃ b n r, A = some ⟨b, n, none⟩ ∧ ok b ∧ w.rangeAt b (n + k * z) r ∧ Reads ok w ds[k] r := by
 obtain ⟨r, h1, h2, h3⟩ := ay.get ds rows h k hk
 have hl := (ay.lens ds rows h).2
 have hget : ∀ j v, r[j]? = some v → rows.flatten[k * z + j]? = some v := by
  have : ∀ (rows : List (List Value)) (k : Nat), (∀ r ∈ rows, r.length = z) → rows[k]? = some r → ∀ j v, r[j]? = some v → rows.flatten[k * z + j]? = some v := by
   intro rows
   induction rows with
   | nil => intro k _ hk; simp at hk
   | cons x xs ih =>
    intro k hn hk j v hv
    rw [Xv]
    cases k with
    | zero =>
     simp at hk
     subst hk
     rw [Za, Xj, XZ ((Xf.1 hv).1)]
     exact hv
    | succ k =>
     have hx := hn x (by simp)
     rw [X5, Yj, XY (by omega), hx, show k * z + z + j - z = k * z + j by omega]
     exact ih k (fun r hr => hn r (by simp [hr])) (by simpa using hk) j v hv
  exact this rows k hl h1
 have hne : 0 < r.length := by omega
 have h0 := hget 0 r[0] (by simp)
 obtain ⟨b, n, e, hb, hc⟩ := hr (fun e => by rw [e] at h0; simp at h0)
 exact ⟨b, n, r, e, hb, fun j v hv => by rw [Y0]; exact hc _ v (hget j v hv), h3⟩
theorem RS {x y : Operand} {T e z : Nat} {k : Int} {ds : List D} (ho : o.op = .indexAddr T x y) (hx : ev S x = some (.val (.sl z ds))) (hy : ev S y = some (.val (.v (.int .i64 k)))) (hT : QB T e z) (hz : 0 < z) (h0 : 0 ≤ k) (hk : k.toNat < ds.length) : Still ops S o (.val (.pd ds[k.toNat])) := fun base ok a w ha => by
 obtain ⟨A, c, rows, h1, h2, h3, h4, h5, h6⟩ := wH (ha.ev hx fun t e => aU e (by rw [ho]; simp [Op.operands]))
 have hy' := gW ha hy fun t e => aU e (by rw [ho]; simp [Op.operands])
 obtain ⟨b, n, r, rfl, hb, hrg, hrd⟩ := Q8 h5 h6 hz _ hk
 refine ⟨.pointer (some ⟨b, n + k.toNat * z, none⟩), ?_, (dn rfl).2 (by rw [Reads]; exact ⟨b, _, r, rfl, hb, hrg, hrd⟩)⟩
 have hlt : k < (ds.length : Int) := by omega
 unfold execOp
 simp [ho, h1, hy', Instr.indexAt, run_underlying hT.und, asIntOf, h0, hlt, nV hT.size, eu]
theorem I8 {x y : Operand} {T e : Nat} {k : Int} {l : List UInt8} (ho : o.op = .indexAddr T x y) (hx : ev S x = some (.val (.bs l))) (hy : ev S y = some (.val (.v (.int .i64 k)))) (hT : QB T e 1) (h0 : 0 ≤ k) (hk : k.toNat < l.length) : Still ops S o (.val (.pd (.v (bv l[k.toNat])))) := fun base ok a w ha => by
 obtain ⟨A, c, h1, h2, h3, h4⟩ := zQ (ha.ev hx fun t e => aU e (by rw [ho]; simp [Op.operands]))
 have hy' := gW ha hy fun t e => aU e (by rw [ho]; simp [Op.operands])
 obtain ⟨b, n, rfl, hb, hc⟩ := h4 (fun e => by have := congrArg List.length e; rw [bJ] at this; simp at this; rw [this] at hk; simp at hk)
 refine ⟨.pointer (some ⟨b, n + k.toNat, none⟩), ?_, (dn rfl).2 (by
  rw [Reads]
  refine ⟨b, _, [bv l[k.toNat]], rfl, hb, fun j v hv => ?_, by rw [Reads]; exact ⟨rfl, rfl⟩⟩
  cases j with
  | zero => cases hv; exact hc _ _ (mg l _ hk)
  | succ j => simp at hv)⟩
 have hlt : k < (l.length : Int) := by omega
 unfold execOp
 simp [ho, h1, hy', Instr.indexAt, run_underlying hT.und, asIntOf, h0, hlt, nV hT.size, eu]
theorem F5 {x y : Operand} {T n e z g off : Nat} {k : Int} (ho : o.op = .indexAddr T x y) (hx : ev S x = some (.val (.v (.pointer (some ⟨g, off, none⟩))))) (hy : ev S y = some (.val (.v (.int .i64 k)))) (hT : Tt T n e z) (h0 : 0 ≤ k) (hk : k.toNat < n) : Still ops S o (.val (.v (.pointer (some ⟨g, off + k.toNat * z, none⟩)))) := fun base ok a w ha => by
 have hx' := gW ha hx fun t e => aU e (by rw [ho]; simp [Op.operands])
 have hy' := gW ha hy fun t e => aU e (by rw [ho]; simp [Op.operands])
 refine ⟨_, ?_, iD rfl⟩
 have hlt : k < (n : Int) := by omega
 unfold execOp
 simp [ho, hx', hy', Instr.indexAt, run_underlying hT.und, asIntOf, h0, hlt, nV hT.size, eu, Instr.sureAddr]
theorem Px {x : Operand} {T e : Nat} {l : List UInt8} (ho : o.op = .call { callee := .builtin .len, args := #[x], argTypes := #[T] }) (hx : ev S x = some (.val (.bs l))) (hT : Tryz.prog.underlying T = some (.slice e)) : Still ops S o (.val (.v (.int .i64 l.length))) := fun base ok a w ha => by
 obtain ⟨A, c, h1, h2, h3, h4⟩ := zQ (ha.ev hx fun t e => aU e (by rw [ho]; simp [Op.operands, Call.operands]))
 refine ⟨_, ?_, iD rfl⟩
 unfold execOp
 simp [ho, h1, resolve, invoke, builtin, Builtin.len_, run_underlying hT, goInt]
theorem Pv {x : Operand} {T e z : Nat} {ds : List D} (ho : o.op = .call { callee := .builtin .len, args := #[x], argTypes := #[T] }) (hx : ev S x = some (.val (.sl z ds))) (hT : Tryz.prog.underlying T = some (.slice e)) : Still ops S o (.val (.v (.int .i64 ds.length))) := fun base ok a w ha => by
 obtain ⟨A, c, rows, h1, h2⟩ := wH (ha.ev hx fun t e => aU e (by rw [ho]; simp [Op.operands, Call.operands]))
 refine ⟨_, ?_, iD rfl⟩
 unfold execOp
 simp [ho, h1, resolve, invoke, builtin, Builtin.len_, run_underlying hT, goInt]
theorem Nc {x : Operand} {T e n c : Nat} {A : Option Addr} (ho : o.op = .call { callee := .builtin .len, args := #[x], argTypes := #[T] }) (hx : ev S x = some (.val (.v (.slice A n c)))) (hT : Tryz.prog.underlying T = some (.slice e)) : Still ops S o (.val (.v (.int .i64 n))) := fun base ok a w ha => by
 have h1 := gW ha hx fun t e => aU e (by rw [ho]; simp [Op.operands, Call.operands])
 refine ⟨_, ?_, iD rfl⟩
 unfold execOp
 simp [ho, h1, resolve, invoke, builtin, Builtin.len_, run_underlying hT, goInt]
theorem Nb {x : Operand} {T e e' z : Nat} {v : Value} {ds : List D} (i : Nat) (ho : o.op = .call { callee := .builtin .len, args := #[x], argTypes := #[T] }) (hx : ev S x = some (.val (.v v))) (hi : S.objs[i]? = some (.row v e' z ds)) (hT : Tryz.prog.underlying T = some (.slice e)) : Still ops S o (.val (.v (.int .i64 ds.length))) := fun base ok a w ha => by
 have h1 := gW ha hx fun t e => aU e (by rw [ho]; simp [Op.operands, Call.operands])
 obtain ⟨rows, h2, _⟩ := ha.objs _ (Xh hi)
 obtain ⟨A, c, rfl, _⟩ := dB h2.1
 refine ⟨_, ?_, iD rfl⟩
 unfold execOp
 simp [ho, h1, resolve, invoke, builtin, Builtin.len_, run_underlying hT, goInt]
def gq (op : BinOp) (x y : Int) : Option Bool :=
 match op with
 | .eql => some (x == y)
 | .neq => some (x != y)
 | .lss => some (decide (x < y))
 | .leq => some (decide (x ≤ y))
 | .gtr => some (decide (x > y))
 | .geq => some (decide (x ≥ y))
 | _ => none
theorem TI {x y : Operand} {op : BinOp} {T U : TypeId} {k : IntKind} {m n : Int} {b : Bool} (ho : o.op = .binOp op T x y U) (hx : ev S x = some (.val (.v (.int k m)))) (hy : ev S y = some (.val (.v (.int k n)))) (hb : gq op m n = some b) : Still ops S o (.val (.v (.bool b))) := fun base ok a w ha => by
 have hx' := gW ha hx fun t e => aU e (by rw [ho]; simp [Op.operands])
 have hy' := gW ha hy fun t e => aU e (by rw [ho]; simp [Op.operands])
 refine ⟨_, ?_, iD rfl⟩
 unfold execOp
 cases op <;> simp [gq] at hb <;> subst hb <;> simp [ho, hx', hy', eqGuard, binOp, Op.intCmp]
def arI (op : BinOp) (x y : Int) : Option Int :=
 match op with
 | .add => some (x + y)
 | .sub => some (x - y)
 | .mul => some (x * y)
 | _ => none
theorem VZ {x y : Operand} {op : BinOp} {T U : TypeId} {m n r : Int} (ho : o.op = .binOp op T x y U) (hx : ev S x = some (.val (.v (.int .i64 m)))) (hy : ev S y = some (.val (.v (.int .i64 n)))) (hb : arI op m n = some r) (h1 : -9223372036854775808 ≤ r) (h2 : r ≤ 9223372036854775807) : Still ops S o (.val (.v (.int .i64 r))) := fun base ok a w ha => by
 have hx' := gW ha hx fun t e => aU e (by rw [ho]; simp [Op.operands])
 have hy' := gW ha hy fun t e => aU e (by rw [ho]; simp [Op.operands])
 have hw : IntKind.i64.wrap r = r := IntWalk.i64_in r ⟨h1, h2⟩
 refine ⟨_, ?_, iD rfl⟩
 unfold execOp
 cases op <;> simp [arI] at hb <;> subst hb <;> simp [ho, hx', hy', eqGuard, binOp, Op.intArith, hw]
theorem TF {x : Operand} {T : TypeId} {b : Bool} (ho : o.op = .unOp .not T x) (hx : ev S x = some (.val (.v (.bool b)))) : Still ops S o (.val (.v (.bool (!b)))) := fun base ok a w ha => by
 have hx' := gW ha hx fun t e => aU e (by rw [ho]; simp [Op.operands])
 refine ⟨_, ?_, iD rfl⟩
 unfold execOp
 simp [ho, hx', Op.unary]
theorem VY {x y : Operand} {op : BinOp} {T U : TypeId} {d e : D} {c : Value} (ho : o.op = .binOp op T x y U) (hx : ev S x = some (.val d)) (hy : ev S y = some (.val e)) (hc : c.oneCell' = true)
  (hrun : ∀ ok w p q, bW ok w d p → bW ok w e q → (eqGuard op T x y p q).run Tryz.prog w = .ok () w ∧ (binOp op T p q).run Tryz.prog w = .ok c w) : Still ops S o (.val (.v c)) := fun base ok a w ha => by
 have hx' := ha.ev hx fun t e => aU e (by rw [ho]; simp [Op.operands])
 have hy' := ha.ev hy fun t e => aU e (by rw [ho]; simp [Op.operands])
 obtain ⟨h1, h2⟩ := hrun _ _ _ _ hx' hy'
 refine ⟨_, ?_, iD hc⟩
 unfold execOp
 simp only [ho, WX, h1, h2, WV, Xc]
theorem VW {x : Operand} {l : List UInt8} (ho : o.op = .convert 38 9 x) (hx : ev S x = some (.val (.bs l))) : Still ops S o (.val (.v (.string (Go.Proofs.YtelbhdobjdnglaaGreat.bs l)))) := fun base ok a w ha => by
 have hb := zQ (ha.ev hx fun t e => aU e (by rw [ho]; simp [Op.operands]))
 have : IsB w (a.eval x) l := by
  obtain ⟨A, c, h1, h2, h3, h4⟩ := hb
  exact ⟨A, c, h1, h2, h3, fun hn => by
   obtain ⟨b, n, e, hb, hc⟩ := h4 hn
   exact ⟨b, n, e, ha.lt _ hb, hc⟩⟩
 refine ⟨_, ?_, iD rfl⟩
 unfold execOp
 simp only [ho, WX, zL this, WV, Xc]
structure Fn (f : FuncId) (ds : List D) (Φ : R → Prop) : Prop where
 go : ∀ (ok : Nat → Prop) (w : World) (xs : List Value), (∀ b, ok b → b < w.heap.size) → fH ok w ds xs →
  Calls Tryz.prog f xs.toArray w fun e w' => Gr w w' ∧ ∃ v r, e = .returned v ∧ Φ r ∧ bU (fun b => (ok b ∨ w.heap.size ≤ b) ∧ b < w'.heap.size) w' r v
def Enters (f : FuncId) : Prop := ∀ xs w, (callFunc f xs).run Tryz.prog w = .ok (.enter f xs) w
def sW : Nat → List D → List (Tmp × R)
 | _, [] => []
 | k, d :: ds => (k, .val d) :: sW (k + 1) ds
def Out (X : Cx N) (Φ : R → Prop) (e : Ending) (w' : World) : Prop := GrE X.own0 X.w0 w' ∧ ∃ v r, e = .returned v ∧ Φ r ∧ bU (fun b => (X.ok0 b ∨ X.mine b) ∧ b < w'.heap.size) w' r v
theorem rD {ok : Nat → Prop} : ∀ (ds : List D) (xs : List Value) (k : Nat) (tmps : Array Value), fH ok w ds xs → (∀ j x, xs[j]? = some x → tmps.getD (k + j) undef = x) → ∀ t r, look (sW k ds) t = some r → bU ok w r (tmps.getD t undef)
 | [], xs, k, tmps, _, _, t, r, h => by simp [sW, look] at h
 | d :: ds, xs, k, tmps, hr, ht, t, r, h => by
  obtain ⟨x, rest, rfl, h1, h2⟩ := hr
  rw [sW, look] at h
  split at h
  ·
   rename_i e
   cases h
   subst e
   have := ht 0 x rfl
   rw [XI] at this
   rw [this]
   exact h1
  · exact rD ds rest (k + 1) tmps h2 (fun j y hy => by have := ht (j + 1) y (by simpa using hy); rwa [show k + 1 + j = k + (j + 1) by omega]) t r h
theorem oV {ok : Nat → Prop} : ∀ (ds : List D) (xs : List Value), fH ok w ds xs → xs.length = ds.length
 | [], xs, h => by cases h; rfl
 | d :: ds, xs, h => by
  obtain ⟨x, rest, rfl, _, h2⟩ := h
  simp [oV ds rest h2]
theorem Fn.walk {f : FuncId} {fn : Func} {c : Code} {ds : List D} {Φ : R → Prop} (N : Nat) (hf : Tryz.prog.funcs[f]? = some fn) (hb : fn.body = some c) (hN : fn.ntmps = N) (hl : ds.length ≤ N)
  (h : ∀ X : Cx N, EC X (bodyPost Tryz.prog fn (Out X Φ)) c ⟨sW 0 ds, [], []⟩) : Fn f ds Φ := by
 constructor
 intro ok w xs hok hr
 have hxl := oV ds xs hr
 refine Calls.mono (calls_of_wp hf hb ((h ⟨w, ok, fun _ => False, hok⟩).go _ w ⟨⟨.refl w, List.Pairwise.nil, (fun o ho => by cases ho), (fun f hf => by cases hf)⟩, fun t r ht => ?_, ?_, rfl⟩)) ?_
 ·
  refine rD ds xs 0 _ (fH.mono (fun b hb => ⟨.inl hb, hok b hb, (fun o ho => by cases ho)⟩) (fun _ _ => rfl) ds xs hr) (fun j x hx => ?_) t r ht
  have hj := (Xf.1 hx).1
  have : (xs.toArray ++ Array.replicate (fn.ntmps - xs.toArray.size) undef)[j]? = some x := by
   rw [Zh (by simpa using hj)]
   simpa using hx
  rw [Xj, Zb, this]
  rfl
 ·
  simp [hN]
  omega
 ·
  rintro e w' ⟨h1, v, r, h2, h3, h4⟩
  exact ⟨h1.gr (fun _ h => h), v, r, h2, h3, h4.mono (fun b hb => ⟨hb.1.imp id fun h => h.resolve_left id, hb.2⟩) fun _ _ => rfl⟩
theorem EK.Ak {X : Cx N} {fn : Func} {t : Tmp} {r : R} {Φ : R → Prop} (hres : fn.results = #[.tmp t]) (hl : look S.regs t = some r) (hΦ : Φ r) : EK X (bodyPost Tryz.prog fn (Out X Φ) .ret) S := by
 constructor
 intro a w ha
 exact bodyPost_ret (results_tmp hres a.tmps Tryz.prog w) ha.defers ⟨ha.mem.gr, _, r, rfl, hΦ, (ha.regs t r hl).mono (fun b hb => ⟨hb.1, hb.2.1⟩) (fun _ _ => rfl)⟩
theorem uh {ty g : Nat} {d : D} {i : Nat} {t : TypeId} {objs : List Obj} {facts : List (Value × D)} (hm : Mem X objs facts w) (hi : objs[i]? = some (.var g t d)) (hT : Ty Tryz.prog ty d.size d.agg) : ∃ x, (loadVar ty ⟨g, 0, none⟩).run Tryz.prog w = .ok x w ∧ bW (X.ok objs w) w d x := by
 obtain ⟨_, cs, h2, h3⟩ := hm.var hi
 have hr := iL h2
 have := lT (P := Tryz.prog) hT h3 hr
 simp only [Instr.loadAt, Instr.sureAddr, WX, Xc, WV] at this
 exact ⟨_, this, cs, h3, rfl⟩
end
section
variable {N : Nat} {X : Cx N} {S S' : St} {a : Act} {w w' : World} {ops : Array Oper} {o : Oper} {Q : Exit → Act → World → Prop} {l : List Oper} {L : Tmp → Prop} {objs : List Obj} {facts : List (Value × D)}
theorem vT {i : Nat} {p q : Obj} (h : p ∈ objs.set i q) : p = q ∨ ∃ j, j ≠ i ∧ objs[j]? = some p := by
 obtain ⟨j, hj⟩ := Zf h
 rw [List.getElem?_set] at hj
 split at hj
 ·
  split at hj
  · cases hj; exact .inl rfl
  · cases hj
 ·
  rename_i hne
  exact .inr ⟨j, fun e => hne e.symm, hj⟩
theorem CQ (h : objs.Pairwise fun o p => ∀ b, o.blk = some b → p.blk ≠ some b) {i j : Nat} {p q : Obj} (hi : objs[i]? = some p) (hj : objs[j]? = some q) (hne : j ≠ i) {b : Nat} (hb : p.blk = some b) : q.blk ≠ some b := by
 have hp := Yu.1 h
 obtain ⟨hi', hpi⟩ := Xf.1 hi
 obtain ⟨hj', hqj⟩ := Xf.1 hj
 rcases Nat.lt_or_gt_of_ne hne with h1 | h1
 ·
  intro e
  have := hp j i hj' hi' h1 b (by rw [hqj]; exact e)
  rw [hpi] at this
  exact this hb
 ·
  have := hp i j hi' hj' h1 b (by rw [hpi]; exact hb)
  rwa [hqj] at this
theorem NP (h : objs.Pairwise fun o p => ∀ b, o.blk = some b → p.blk ≠ some b) {i : Nat} {q : Obj} (hq : ∀ j p, j ≠ i → objs[j]? = some p → ∀ b, q.blk = some b → p.blk ≠ some b) : (objs.set i q).Pairwise fun o p => ∀ b, o.blk = some b → p.blk ≠ some b := by
 refine Yu.2 fun j k hj hk hjk b => ?_
 rw [Yh] at hj hk
 rw [List.getElem_set, List.getElem_set]
 split
 ·
  rename_i e
  rw [if_neg (by omega)]
  exact hq k _ (by omega) (by simp [hk]) b
 ·
  split
  ·
   intro h1 h2
   exact hq j _ (by omega) (by simp [hj]) b h2 h1
  · exact Yu.1 h j k hj hk hjk b
theorem Mem.turn (h : Mem X objs facts w) {i : Nat} {p q : Obj} (hi : objs[i]? = some p) (hg : w.grownBy w' p.blk) (hb : q.blk = p.blk ∨ ∃ b, q.blk = some b ∧ w.heap.size ≤ b) (hq : (∀ b, X.ok objs w b → X.ok (objs.set i q) w' b) → (∀ p : Addr, X.ok objs w p.block → w'.cell? p = w.cell? p) → q.At X.mine (X.ok (objs.set i q) w') w') : Mem X (objs.set i q) facts w' := by
 have h0 := h.gr.size
 have hnew : ∀ j p', j ≠ i → objs[j]? = some p' → ∀ b, q.blk = some b → p'.blk ≠ some b := fun j p' hj hp' b hqb => by
  rcases hb with hb | ⟨b', hb, hle⟩
  · exact CQ h.apart hi hp' hj (hb ▸ hqb)
  ·
   rw [hqb] at hb
   cases hb
   intro e
   have := (Obj.eP (h.at_ p' (Xh hp')) e).2
   omega
 have hok : ∀ b, X.ok objs w b → X.ok (objs.set i q) w' b := fun b hb' => ⟨hb'.1, Xd hb'.2.1 hg.size, fun r hr e => by
  rcases vT hr with rfl | ⟨j, hj, hr⟩
  ·
   rcases hb with hb | ⟨b', hb, hle⟩
   · exact hb'.2.2 p (Xh hi) (hb ▸ e)
   ·
    rw [hb] at e
    cases e
    have := hb'.2.1
    omega
  · exact hb'.2.2 r (Xh hr) e⟩
 have hcell : ∀ r : Addr, X.ok objs w r.block → w'.cell? r = w.cell? r := fun r hr => World.cell?_of_block (hg.block _ hr.2.1 fun e => hr.2.2 p (Xh hi) e.symm)
 refine ⟨h.gr.grown hg (fun b e => (Obj.eP (h.at_ p (Xh hi)) e).1), NP h.apart hnew, fun r hr => ?_, fun f hf => Reads.mono hok hcell _ _ (h.fact f hf)⟩
 rcases vT hr with rfl | ⟨j, hj, hr⟩
 · exact hq hok hcell
 ·
  have hat := h.at_ r (Xh hr)
  exact hat.move hok hcell fun g hb => hg.block g (Obj.eP hat hb).2 fun e => CQ h.apart hi hr hj e.symm hb
theorem At.turn (h : At X S a w) {i : Nat} {p q : Obj} (hi : S.objs[i]? = some p) (hg : w.grownBy w' p.blk) (hb : q.blk = p.blk ∨ ∃ b, q.blk = some b ∧ w.heap.size ≤ b) (hq : (∀ b, X.ok S.objs w b → X.ok (S.objs.set i q) w' b) → (∀ p : Addr, X.ok S.objs w p.block → w'.cell? p = w.cell? p) → q.At X.mine (X.ok (S.objs.set i q) w') w') : At X ⟨S.regs, S.objs.set i q, S.facts⟩ a w' := by
 have hm := h.mem.turn hi hg hb hq
 have hok : ∀ b, X.ok S.objs w b → X.ok (S.objs.set i q) w' b := fun b hb' => ⟨hb'.1, Xd hb'.2.1 hg.size, fun r hr e => by
  rcases vT hr with rfl | ⟨j, hj, hr⟩
  ·
   rcases hb with hb | ⟨b', hb, hle⟩
   · exact hb'.2.2 p (Xh hi) (hb ▸ e)
   ·
    rw [hb] at e
    cases e
    have := hb'.2.1
    omega
  · exact hb'.2.2 r (Xh hr) e⟩
 have hcell : ∀ r : Addr, X.ok S.objs w r.block → w'.cell? r = w.cell? r := fun r hr => World.cell?_of_block (hg.block _ hr.2.1 fun e => hr.2.2 p (Xh hi) e.symm)
 exact ⟨hm, fun t r hr => (h.regs t r hr).mono hok hcell, h.size, h.defers⟩
theorem At.new (h : At X S a w) {q : Obj} {cs : Array Value} {t : TypeId} (hb : q.blk = some w.heap.size) (hq : q.At X.mine (X.ok (q :: S.objs) (w.alloc (.cells cs t))) (w.alloc (.cells cs t))) : At X ⟨S.regs, q :: S.objs, S.facts⟩ a (w.alloc (.cells cs t)) := by
 have hg := au w (.cells cs t)
 have hok : ∀ b, X.ok S.objs w b → X.ok (q :: S.objs) (w.alloc (.cells cs t)) b := fun b hb' => ⟨hb'.1, Xd hb'.2.1 hg.size, fun r hr e => by
  rcases Xb.1 hr with rfl | hr
  ·
   rw [hb] at e
   cases e
   exact absurd hb'.2.1 (by omega)
  · exact hb'.2.2 r hr e⟩
 have hcell : ∀ r : Addr, X.ok S.objs w r.block → (w.alloc (.cells cs t)).cell? r = w.cell? r := fun r hr => hg.cell hr.2.1
 refine ⟨⟨h.mem.gr.trans (.of hg), Yc.2 ⟨fun r hr b e => ?_, h.mem.apart⟩, fun r hr => ?_, fun f hf => Reads.mono hok hcell _ _ (h.mem.fact f hf)⟩, fun t' r hr => (h.regs t' r hr).mono hok hcell, h.size, h.defers⟩
 ·
  rw [hb] at e
  cases e
  intro e
  have := (Obj.eP (h.mem.at_ r hr) e).2
  omega
 ·
  rcases Xb.1 hr with rfl | hr
  · exact hq
  ·
   have hat := h.mem.at_ r hr
   exact hat.move hok hcell fun g hb => hg.block g (Obj.eP hat hb).2
def Zero (T : TypeId) (d : D) : Prop := ∃ z, (Tryz.prog.info? T).bind (·.zero) = some z ∧ ∀ (ok : Nat → Prop) (w : World), Reads ok w d z.cells.toList
theorem Bd {T : TypeId} {z : Value} (h : (Tryz.prog.info? T).bind (·.zero) = some z) (w : World) : (Instr.alloc T true (.tuple #[])).run Tryz.prog w = .ok (.pointer (some ⟨w.heap.size, 0, none⟩)) (w.alloc (.cells z.cells T)) := by
 cases hi : Tryz.prog.info? T with
 | none => rw [hi] at h; cases h
 | some i =>
  rw [hi] at h
  have hz : i.zero = some z := by simpa using h
  simp [Instr.alloc, zeroValue, typeInfo, hi, hz, newVar, newRow]
theorem EL.alloc {T : TypeId} {d : D} (ho : o.op = .alloc T) (hg : guardOf ops S o = some true) (hd : ∀ t, o.dst = some t → t < N) (hz : Zero T d)
  (k : ∀ g, EL X ops Q l (St.put ⟨S.regs, .var g T d :: S.objs, S.facts⟩ o.dst (.val (.v (.pointer (some ⟨g, 0, none⟩)))))) : EL X ops Q (o :: l) S := by
 constructor
 intro a w ha
 obtain ⟨z, hz, hr⟩ := hz
 unfold wpList
 rw [if_pos (gX ha hg)]
 refine .inl ?_
 unfold Oper.wp execOp
 simp only [ho, WX, Bd hz, WV, Xc]
 refine (k w.heap.size).go _ _ ((ha.new (q := .var w.heap.size T d) rfl ⟨.inr ha.mem.gr.size, z.cells.toList, ?_, hr _ _⟩).put hd (iD rfl))
 rw [heap_alloc_new]
theorem EL.box {T : TypeId} {x : Operand} {d : D} (ho : o.op = .box T x) (hg : guardOf ops S o = some true) (hd : ∀ t, o.dst = some t → t < N) (hx : ev S x = some (.val d))
  (k : ∀ g, EL X ops Q l (St.put ⟨S.regs, .var g T d :: S.objs, S.facts⟩ o.dst (.val (.v (.pointer (some ⟨g, 0, none⟩)))))) : EL X ops Q (o :: l) S := by
 constructor
 intro a w ha
 obtain ⟨cs, h1, h2⟩ := (ha.kn fun t => t ∈ o.looksAt ops).ev hx fun t e => aU e (by rw [ho]; simp [Op.operands])
 have hrun : (Instr.box T (a.eval x)).run Tryz.prog w = .ok (.pointer (some ⟨w.heap.size, 0, none⟩)) (w.alloc (.cells cs.toArray T)) := by
  have := lZ h1
  simp [Instr.box, newVar, newRow, h2, this]
 unfold wpList
 rw [if_pos (gX ha hg)]
 refine .inl ?_
 unfold Oper.wp execOp
 simp only [ho, WX, hrun, WV, Xc]
 refine (k w.heap.size).go _ _ ((ha.new (q := .var w.heap.size T d) rfl ⟨.inr ha.mem.gr.size, cs, heap_alloc_new w _, ?_⟩).put hd (iD rfl))
 refine Reads.mono (fun b hb => ⟨hb.1, Xd hb.2.1 (au w _).size, fun r hr e => ?_⟩) (fun p hp => (au w _).cell hp.2.1) _ _ h1
 rcases Xb.1 hr with rfl | hr
 ·
  cases e
  exact absurd hb.2.1 (by omega)
 · exact hb.2.2 r hr e
theorem EN {g n : Nat} {cs : Array Value} {t : TypeId} {fr : Nat × Nat} {v : Value} (h : w.heap[g]? = some (.cells cs t fr)) : (w.setCell ⟨g, n, none⟩ v).heap[g]? = some (.cells (cs.setIfInBounds n v) t fr) := by
 simp [World.setCell, Array.getElem?_modify, h]
theorem iJ {g : Nat} {t : TypeId} {fr : Nat × Nat} : ∀ (new pre mid post : List Value) (w : World), mid.length = new.length → w.heap[g]? = some (.cells (pre ++ mid ++ post).toArray t fr) → (w.setCells g pre.length new).heap[g]? = some (.cells (pre ++ new ++ post).toArray t fr)
 | [], pre, mid, post, w, hl, h => by
  obtain rfl : mid = [] := YX.1 hl
  exact h
 | v :: new, pre, m :: mid, post, w, hl, h => by
  rw [World.setCells]
  have h1 := EN (n := pre.length) (v := v) h
  have h2 : ((pre ++ m :: mid ++ post).toArray.setIfInBounds pre.length v) = ((pre ++ [v]) ++ mid ++ post).toArray := by simp [List.set_append_right]
  rw [h2] at h1
  have := iJ new (pre ++ [v]) mid post _ (by simpa using hl) h1
  simpa using this
theorem eY (g : Nat) : ∀ (new : List Value) (n : Nat) (w : World), w.grownBy (w.setCells g n new) (some g)
 | [], n, w => ⟨rfl, rfl, rfl, Nat.le_refl _, fun _ _ _ => rfl⟩
 | v :: new, n, w => by
  rw [World.setCells]
  have h := eY g new (n + 1) (w.setCell ⟨g, n, none⟩ v)
  exact ⟨h.os, h.tape, h.output, by simpa [World.setCell] using h.size, fun k hk hne => (h.block k (by simpa [World.setCell] using hk) hne).trans (Below.heap_setCell _ _ _ _ (fun e => hne (by rw [e])))⟩
theorem mJ {T g n : Nat} {t : TypeId} {pre mid post cs : List Value} {ok : Nat → Prop} {d : D} (hT : (Tryz.prog.info? T).map (·.size) = some cs.length) (hr : Reads ok w d cs) (hw : w.heap[g]? = some (.cells (pre ++ mid ++ post).toArray t (0, 0))) (hn : pre.length = n) (hl : mid.length = cs.length) :
  (Instr.storeAt T (.pointer (some ⟨g, n, none⟩)) (form d cs)).run Tryz.prog w = .ok () (w.setCells g n cs) := by
 have hcells := lZ hr
 have hc : ∀ j, j < cs.length → (w.cell? ⟨g, n + j, none⟩).isSome = true := fun j hj => by
  rw [cell_of_row w g (n + j) _ t (0, 0) hw]
  simp only [Y8, Xp]
  rw [XY (by omega), XZ (by omega)]
  simp
  omega
 have hf : ∀ j, j < cs.length → w.frozen? ⟨g, n + j, none⟩ = false := fun j _ => by simp [World.frozen?, hw]
 have := run_storeCells_cells (P := Tryz.prog) g n cs 0 w (fun j hj => by simpa using hc j hj) (fun j hj => by simpa using hf j hj) (fun v hv => Reads.one d cs hr v hv)
 rw [XI] at this
 cases hi : Tryz.prog.info? T with
 | none => rw [hi] at hT; cases hT
 | some i =>
  have hs : i.size = cs.length := by rw [hi] at hT; simpa using hT
  simp [Instr.storeAt, Instr.sureAddr, storeVar, sizeOf, typeInfo, hi, hcells, hs, this]
theorem EL.store {T g n : Nat} {x y : Operand} {t : TypeId} {d d' d'' : D} (i : Nat) (ho : o.op = .store T x y) (hdst : o.dst = none) (hg : guardOf ops S o = some true) (hx : ev S x = some (.val (.v (.pointer (some ⟨g, n, none⟩))))) (hi : S.objs[i]? = some (.var g t d)) (hy : ev S y = some (.val d'))
  (hT : Ty Tryz.prog T d'.size d'.agg) (hu : d.upd n d' = some d'') (k : EL X ops Q l ⟨S.regs, S.objs.set i (.var g t d''), S.facts⟩) : EL X ops Q (o :: l) S := by
 constructor
 intro a w ha
 have hk := ha.kn fun t => t ∈ o.looksAt ops
 have hx' := gW hk hx fun t e => aU e (by rw [ho]; simp [Op.operands])
 obtain ⟨cs', h1, h2⟩ := hk.ev hy fun t e => aU e (by rw [ho]; simp [Op.operands])
 obtain ⟨hge, cs, h3, h4⟩ := ha.mem.var hi
 obtain ⟨e1, e2, pre, mid, post, rfl, h5, h6, h7⟩ := nR d n d' d'' cs cs' hu h4 h1
 obtain ⟨_, _, _, hT'⟩ := hT
 have hrun := mJ (T := T) (by rw [hT', Reads.len _ _ h1]) h1 h3 h5 h6
 unfold wpList
 rw [if_pos (gX ha hg)]
 refine .inl ?_
 unfold Oper.wp execOp
 simp only [ho, hx', h2, WX, hrun, WV, Xc]
 simp only [Oper.upon_skip, hdst, Act.put]
 refine k.go _ _ (ha.turn (w' := w.setCells g n cs') hi (eY g cs' n w) (.inl rfl) fun hok hcell => ⟨hge, pre ++ cs' ++ post, ?_, Reads.mono hok hcell _ _ h7⟩)
 have := iJ cs' pre mid post w h6 h3
 rwa [h5] at this
theorem EL.append {T e z y' : Nat} {s x : Operand} {v : Value} {ds es : List D} (i : Nat) (ho : o.op = .call { callee := .builtin .append, args := #[s, x], argTypes := #[T, T] }) (hg : guardOf ops S o = some true) (hd : ∀ t, o.dst = some t → t < N) (hT : SlT Tryz.prog T e z y')
  (hs : ev S s = some (.val (.v v))) (hi : S.objs[i]? = some (.row v e z ds)) (hx : ev S x = some (.val (.sl z es))) (hlen : (ds.length + es.length) * y' ≤ 140737488355328 ∧ ds.length + es.length ≤ 9223372036854775807)
  (k : ∀ v', EL X ops Q l (St.put ⟨S.regs, S.objs.set i (.row v' e z (ds ++ es)), S.facts⟩ o.dst (.val (.v v')))) : EL X ops Q (o :: l) S := by
 constructor
 intro a w ha
 have hk := ha.kn fun t => t ∈ o.looksAt ops
 have hs' := gW hk hs fun t e => aU e (by rw [ho]; simp [Op.operands, Call.operands])
 obtain ⟨A, c, rows', h1, h2, h3, h4, h5, h6⟩ := wH (hk.ev hx fun t e => aU e (by rw [ho]; simp [Op.operands, Call.operands]))
 obtain ⟨rows, h7, h8⟩ := ha.mem.at_ _ (Xh hi)
 obtain ⟨hl1, hl2⟩ := ay.lens es rows' h6
 have hlen' : rows'.flatten.length = es.length * z := by
  have : ∀ rows : List (List Value), (∀ r ∈ rows, r.length = z) → rows.flatten.length = rows.length * z := by
   intro rows
   induction rows with
   | nil => simp
   | cons r rows ih =>
    intro h
    rw [Xv, List.length_append, h r (by simp), ih fun r hr => h r (by simp [hr]), WS, X5, Yj, Yv]
  rw [this rows' hl2, hl1]
 have hrd : Rd w w.heap.size A rows'.flatten := fun hn => by
  obtain ⟨b, n, e, hb, hc⟩ := h5 hn
  exact ⟨b, n, e, hb.2.1, hc⟩
 have hge := ha.mem.gr.size
 obtain ⟨A', c', w', hrun, hown, hgr, hblk⟩ := kJ (P := Tryz.prog) (ty := o.type) (c := c) hT h7.1 hlen' hrd (ay.one es rows' h6) (by simp only [maxLen]; exact hlen.2) hlen.1 (Xo _)
 unfold wpList
 rw [if_pos (gX ha hg)]
 refine .inl ?_
 unfold Oper.wp execOp
 simp only [ho, resolve, invoke, builtin, WX, Xc, WV, Yq, Xm, X3, hs', h1, hrun]
 refine (k _).go _ _ ((ha.turn (q := .row (.slice A' (ds.length + es.length) c') e z (ds ++ es)) hi hgr ?_ fun hok hcell => ⟨rows ++ rows', ?_, ay.append ds es rows rows' (ay.mono hok hcell z ds rows h8) (ay.mono hok hcell z es rows' h6)⟩).put hd (iD rfl))
 ·
  rcases hblk with hb | hb
  · exact .inl hb
  · exact .inr ⟨_, hb, Nat.le_refl _⟩
 ·
  rw [Yz, List.length_append]
  refine ⟨hown, fun b hb => ?_⟩
  rcases hblk with e | e
  · exact h7.2 b (e ▸ hb)
  ·
   rw [e] at hb
   cases hb
   exact .inr hge
theorem Le.row (e z : Nat) : Le X S ⟨S.regs, .row (.slice none 0 0) e z [] :: S.objs, S.facts⟩ := fun a w ha => by
 have hok : ∀ b, X.ok S.objs w b → X.ok (.row (.slice none 0 0) e z [] :: S.objs) w b := fun b hb => ⟨hb.1, hb.2.1, fun r hr h => by
  rcases Xb.1 hr with rfl | hr
  · cases h
  · exact hb.2.2 r hr h⟩
 refine ⟨⟨ha.mem.gr, Yc.2 ⟨(fun r hr b h => by cases h), ha.mem.apart⟩, fun r hr => ?_, fun f hf => Reads.mono hok (fun _ _ => rfl) _ _ (ha.mem.fact f hf)⟩, fun t r hr => (ha.regs t r hr).mono hok (fun _ _ => rfl), ha.size, ha.defers⟩
 rcases Xb.1 hr with rfl | hr
 · exact ⟨[], ⟨World.ownsRow_nil _ _ _ _, fun b hb => by cases hb⟩, by rw [ay]⟩
 · exact (ha.mem.at_ r hr).move hok (fun _ _ => rfl) fun _ _ => rfl
end
section
variable {N : Nat} {X : Cx N} {S S' : St} {a : Act} {w w' : World} {ops : Array Oper} {o : Oper} {Q : Exit → Act → World → Prop} {l : List Oper} {L : Tmp → Prop} {objs : List Obj} {facts : List (Value × D)}
theorem wG (o : Nat) : ∀ (vs A M Z : List Value) (s : Nat), A.length = o + s → M.length = vs.length → (vs.zipIdx s).foldl (fun (cs : Array Value) (x : Value × Nat) => cs.setIfInBounds (o + x.2) x.1) (A ++ M ++ Z).toArray = (A ++ vs ++ Z).toArray
 | [], A, M, Z, s, _, hM => by
  obtain rfl : M = [] := YX.1 hM
  rfl
 | v :: vs, A, m :: M, Z, s, hA, hM => by
  rw [List.zipIdx_cons, XJ]
  have h1 : ((A ++ (m :: M) ++ Z).toArray).setIfInBounds (o + s) v = ((A ++ [v]) ++ M ++ Z).toArray := by
   rw [← hA]
   simp [List.set_append_right]
  rw [h1, wG o vs (A ++ [v]) M Z (s + 1) (by simp; omega) (by simpa using hM)]
  simp
theorem Hz (vs A M Z : List Value) (hM : M.length = vs.length) : vs.toArray.zipIdx.foldl (fun (cs : Array Value) (x : Value × Nat) => cs.setIfInBounds (A.length + x.2) x.1) (A ++ M ++ Z).toArray = (A ++ vs ++ Z).toArray := by
 rw [← Array.foldl_toList, Array.toList_zipIdx]
 exact wG A.length vs A M Z 0 rfl hM
theorem CG (place : Nat → Option (Nat × Nat)) (i : Nat) (v : Value) (vs A M Z : List Value) (rest : List (Nat × Value)) (hp : place i = some (A.length, vs.length)) (hv : v.cells = vs.toArray) (hM : M.length = vs.length) :
  Instr.fill place (A ++ M ++ Z).toArray ((i, v) :: rest) = Instr.fill place (A ++ vs ++ Z).toArray rest := by
 rw [Instr.fill, hp]
 dsimp only
 rw [hv, if_neg (by simp [hM])]
 congr 1
 exact Hz vs A M Z hM
structure Td (T : Nat) (places : List (Nat × Nat)) : Prop where
 get : ∃ fs, Tryz.prog.underlying T = some (.struct fs) ∧ fs.toList.mapM (fun f => (Tryz.prog.info? f.type).map fun i => (f.offset, i.size)) = some places
def sN (places : List (Nat × Nat)) : D → List (Nat × D) → Option D
 | d, [] => some d
 | d, (i, e) :: rest => match places[i]? with
  | some (off, sz) => if e.size = sz then (match d.upd off e with
   | some d' => sN places d' rest
   | none => none) else none
  | none => none
def rY (S : St) : List (Nat × Operand) → Option (List (Nat × D))
 | [] => some []
 | (i, x) :: xs => match ev S x, rY S xs with
  | some (.val d), some ds => some ((i, d) :: ds)
  | _, _ => none
def zY (ok : Nat → Prop) (w : World) : List (Nat × D) → List (Nat × Value) → Prop
 | [], xs => xs = []
 | (i, d) :: ds, xs => ∃ x rest, xs = (i, x) :: rest ∧ bW ok w d x ∧ zY ok w ds rest
theorem Kn.rY {base : Nat → Prop} {ok : Nat → Prop} (h : Kn base ok L S a w) : ∀ (xs : List (Nat × Operand)) (ds : List (Nat × D)), E.rY S xs = some ds → (∀ i t, (i, .tmp t) ∈ xs → L t) → zY ok w ds (xs.map fun (i, x) => (i, a.eval x))
 | [], ds, hx, _ => by cases hx; rfl
 | (i, x) :: xs, ds, hx, hL => by
  rw [E.rY] at hx
  cases h1 : E.ev S x with
  | none => rw [h1] at hx; cases hx
  | some r =>
   cases h2 : E.rY S xs with
   | none => rw [h1, h2] at hx; cases r <;> cases hx
   | some es =>
    rw [h1, h2] at hx
    cases r with
    | val d =>
     cases hx
     exact ⟨_, _, rfl, h.ev h1 (fun t e => hL i t (by simp [e])), Kn.rY h xs es h2 fun i t ht => hL i t (by simp [ht])⟩
    | _ => cases hx
theorem CB {ok : Nat → Prop} {places : List (Nat × Nat)} : ∀ (parts : List (Nat × D)) (vs : List (Nat × Value)) (d d' : D) (cs : List Value), sN places d parts = some d' → zY ok w parts vs → Reads ok w d cs → d'.agg = d.agg ∧ ∃ cs', Instr.fill (places.toArray[·]?) cs.toArray vs = some cs'.toArray ∧ Reads ok w d' cs'
 | [], vs, d, d', cs, h, hp, hr => by
  cases h
  cases hp
  exact ⟨rfl, cs, rfl, hr⟩
 | (i, e) :: parts, vs, d, d', cs, h, hp, hr => by
  obtain ⟨x, rest, rfl, ⟨es, h1, rfl⟩, h2⟩ := hp
  rw [sN] at h
  split at h
  ·
   rename_i off sz hpl
   split at h
   ·
    rename_i hsz
    cases hu : d.upd off e with
    | none => rw [hu] at h; cases h
    | some d1 =>
     rw [hu] at h
     dsimp only at h
     obtain ⟨e1, e2, pre, mid, post, rfl, h3, h4, h5⟩ := nR d off e d1 cs es hu hr h1
     obtain ⟨e3, cs', h6, h7⟩ := CB parts rest d1 d' _ h h2 h5
     refine ⟨e3.trans e2, cs', ?_, h7⟩
     rw [CG _ i (form e es) es pre mid post rest (by simp [hpl, h3, ← hsz, Reads.len _ _ h1]) (lZ h1) h4]
     exact h6
   · cases h
  · cases h
theorem EP {T : Nat} {places : List (Nat × Nat)} {d0 d : D} {parts : List (Nat × D)} {vs : List (Nat × Value)} {ok : Nat → Prop} (hT : Td T places) (hz : Zero T d0) (hd0 : d0.agg = true) (hf : sN places d0 parts = some d) (hp : zY ok w parts vs) :
  ∃ x, (Instr.build T vs.toArray).run Tryz.prog w = .ok x w ∧ bW ok w d x := by
 obtain ⟨z, hz, hr⟩ := hz
 obtain ⟨fs, hu, hm⟩ := hT
 obtain ⟨e1, cs', h1, h2⟩ := CB parts vs d0 d _ hf hp (hr ok w)
 refine ⟨.agg cs'.toArray, ?_, (nZ (e1.trans hd0)).2 ⟨cs', h2, rfl⟩⟩
 refine run_build w T vs.toArray _ ?_
 cases hi : Tryz.prog.info? T with
 | none => rw [hi] at hz; cases hz
 | some it =>
  rw [hi] at hz
  have hz' : it.zero = some z := by simpa using hz
  unfold Program.built
  rw [hi, hu]
  dsimp only
  rw [hz', hm]
  simpa using h1
theorem RY {T : Nat} {parts : Array (Nat × Operand)} {places : List (Nat × Nat)} {d0 d : D} {ps : List (Nat × D)} (ho : o.op = .build T parts) (hx : rY S parts.toList = some ps) (hT : Td T places) (hz : Zero T d0) (hd0 : d0.agg = true) (hf : sN places d0 ps = some d) : Still ops S o (.val d) := fun base ok a w ha => by
 have hp := ha.rY _ _ hx fun i t ht => aU (x := .tmp t) rfl (by rw [ho]; simp only [Op.operands]; simp; exact ⟨i, by simpa using ht⟩)
 obtain ⟨x, h1, h2⟩ := EP hT hz hd0 hf hp
 refine ⟨x, ?_, h2⟩
 have he : (parts.toList.map fun (i, x) => (i, a.eval x)).toArray = parts.map fun (i, x) => (i, a.eval x) := by
  apply Zc
  simp
 rw [he] at h1
 unfold execOp
 simp only [ho, WX, h1, WV, Xc]
theorem Pz {T n e z : Nat} {d : D} (ho : o.op = .build T #[]) (hT : Tt T n e z) (hz : Zero T d) (hd : d.agg = true) : Still ops S o (.val d) := fun base ok a w ha => by
 obtain ⟨zv, hz, hr⟩ := hz
 refine ⟨.agg zv.cells, ?_, (nZ hd).2 ⟨_, hr _ _, by simp⟩⟩
 cases hi : Tryz.prog.info? T with
 | none => rw [hi] at hz; cases hz
 | some i =>
  rw [hi] at hz
  have hz' : i.zero = some zv := by simpa using hz
  unfold execOp
  simp [ho, Instr.build, zeroValue, typeInfo, hi, hz', run_underlying hT.und, nV hT.size, Instr.fill]
def qJ : Nat → List (Nat × D) → Option (List D)
 | _, [] => some []
 | k, (i, d) :: ps => if i = k then (qJ (k + 1) ps).map (d :: ·) else none
theorem J6 {ok : Nat → Prop} {z : Nat} : ∀ (ps : List (Nat × D)) (k : Nat) (ds : List D) (vs : List (Nat × Value)) (A M : List Value), qJ k ps = some ds → zY ok w ps vs → (∀ p ∈ ps, p.2.size = z) → A.length = k * z → M.length = ps.length * z →
  ∃ rows, Instr.fill (fun i => some (i * z, z)) (A ++ M).toArray vs = some (A ++ rows.flatten).toArray ∧ ay ok w z ds rows
 | [], k, ds, vs, A, M, h, hp, hs, hA, hM => by
  cases h
  cases hp
  obtain rfl : M = [] := YX.1 (by simpa using hM)
  exact ⟨[], rfl, by rw [ay]⟩
 | (i, d) :: ps, k, ds, vs, A, M, h, hp, hs, hA, hM => by
  obtain ⟨x, rest, rfl, ⟨es, h1, rfl⟩, h2⟩ := hp
  rw [qJ] at h
  split at h
  ·
   rename_i e
   subst e
   cases hr : qJ (i + 1) ps with
   | none => rw [hr] at h; cases h
   | some ds' =>
    rw [hr] at h
    cases h
    have hz := hs (i, d) (by simp)
    have hl := Reads.len _ _ h1
    have hml : (M.take z).length = es.length := by
     rw [Xi, hM, hl, hz, WS, X5, Yj]
     omega
    have hmr : (M.drop z).length = ps.length * z := by
     rw [W9, hM, WS, X5, Yj]
     omega
    obtain ⟨rows, h3, h4⟩ := J6 ps (i + 1) ds' rest (A ++ es) (M.drop z) hr h2 (fun p hp => hs p (by simp [hp])) (by rw [List.length_append, hA, hl, hz, X5, Yj]) hmr
    refine ⟨es :: rows, ?_, by rw [ay]; exact ⟨es, rows, rfl, by rw [hl, hz], h1, h4⟩⟩
    have := CG (fun i => some (i * z, z)) i (form d es) es A (M.take z) (M.drop z) rest (by simp [hA, hl, hz]) (lZ h1) hml
    rw [Xp, XE] at this
    rw [this, h3, Xv, Xp]
  · cases h
theorem FY {T e z n : Nat} {parts : Array (Nat × Operand)} {ps : List (Nat × D)} {ds : List D} {d0 : D} (ho : o.op = .buildSlice T n parts) (hx : rY S parts.toList = some ps) (hT : QB T e z) (hz : Zero e d0) (hin : qJ 0 ps = some ds) (hsz : ∀ p ∈ ps, p.2.size = z) (hn : ps.length = n) (h0 : 0 < n ∧ 0 < z) (hbig : n * z ≤ 16777216) : oN ops S o (· = .val (.sl z ds)) := fun base ok a w ha => by
 have hp := ha.rY _ _ hx fun i t ht => aU (x := .tmp t) rfl (by rw [ho]; simp only [Op.operands]; simp; exact ⟨i, by simpa using ht⟩)
 obtain ⟨zv, hz, hr⟩ := hz
 cases hi : Tryz.prog.info? e with
 | none => rw [hi] at hz; cases hz
 | some ie =>
  rw [hi] at hz
  have hz' : ie.zero = some zv := by simpa using hz
  have hsize : ie.size = z := by have := hT.size; rw [hi] at this; simpa using this
  subst hn
  obtain ⟨rows, h1, h2⟩ := J6 ps 0 ds _ [] ((Array.range (ps.length * z)).map (zv.cells[· % zv.cells.size]!)).toList hin hp hsz (by simp) (by simp)
  simp only [WJ] at h1
  rw [Array.toArray_toList] at h1
  have he : (parts.toList.map fun (i, x) => (i, a.eval x)).toArray = parts.map fun (i, x) => (i, a.eval x) := by
   apply Zc
   simp
  have hrun := run_buildSlice (P := Tryz.prog) w T e ps.length (parts.toList.map fun (i, x) => (i, a.eval x)).toArray rows.flatten.toArray ie zv hT.und hi hz' (by rw [hsize]; omega) (by rw [hsize]; exact Nat.pos_iff_ne_zero.1 (Nat.mul_pos h0.1 h0.2)) (by rw [hsize]; exact h1)
  rw [he] at hrun
  have hlen : ds.length = ps.length := by
   have : ∀ (ps : List (Nat × D)) (k : Nat) (ds : List D), qJ k ps = some ds → ds.length = ps.length := by
    intro ps
    induction ps with
    | nil => intro k ds h; cases h; rfl
    | cons p ps ih =>
     intro k ds h
     obtain ⟨i, d⟩ := p
     rw [qJ] at h
     split at h
     ·
      cases hr : qJ (k + 1) ps with
      | none => rw [hr] at h; cases h
      | some es =>
       rw [hr] at h
       cases h
       simp [ih _ _ hr]
     · cases h
   exact this ps 0 ds hin
  have hexec : (execOp a.eval o).run Tryz.prog w = .ok (.value (.slice (some ⟨w.heap.size, 0, none⟩) ps.length ps.length)) (w.alloc (.cells rows.flatten.toArray e)) := by
   unfold execOp
   simp only [ho, WX, hrun, WV, Xc]
  rw [hexec]
  have hg := au w (.cells rows.flatten.toArray e)
  refine ⟨hg, _, rfl, (dn rfl).2 ?_⟩
  rw [Reads]
  refine ⟨_, ps.length, rows, by rw [hlen], by omega, ?_, (fun e => by cases e), fun hne => ⟨_, 0, rfl, ⟨.inr (Nat.le_refl _), by simp⟩, fun j u hu => ?_⟩, ay.mono (fun b hb => ⟨.inl hb, Xd (ha.lt b hb) hg.size⟩) (fun p hp => hg.cell (ha.lt _ hp)) z ds rows h2⟩
  ·
   have : ps.length ≤ ps.length * z := Nat.le_mul_of_pos_right _ h0.2
   simp only [maxLen]
   omega
  ·
   rw [Xj, cell_of_row _ _ _ _ _ (0, 0) (heap_alloc_new w _)]
   simpa using hu
end
end E
end Go.Proofs.YtelbhdobjdnglaaGreat
