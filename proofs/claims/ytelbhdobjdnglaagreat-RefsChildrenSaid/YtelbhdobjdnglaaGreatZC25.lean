/-
 Merged: lemmas of this claim.
 Conditions: none.
-/
import Derived.Test.YtelbhdobjdnglaaGreatZC12
import Derived.Lib.SliceRun
import Derived.Lib.AppendZeros
import Derived.Test.YtelbhdobjdnglaaGreatZC19
import Derived.Test.YtelbhdobjdnglaaGreatZC7
import Derived.Test.YtelbhdobjdnglaaGreatZC17
import Derived.Test.YtelbhdobjdnglaaGreatZC13
import Derived.Test.YtelbhdobjdnglaaGreatZC18
import Derived.Test.YtelbhdobjdnglaaGreatZC22
import Derived.Test.YtelbhdobjdnglaaGreatZC15
import Derived.Test.YtelbhdobjdnglaaGreatZC2
import Derived.Test.YtelbhdobjdnglaaGreatZC23
import Derived.Test.YtelbhdobjdnglaaGreatZC0
namespace Go.Proofs.YtelbhdobjdnglaaGreat
set_option linter.unusedVariables false
open Go.RowKit Mono Rlp
namespace E
def Ah (k z : Nat) : Value → Value
 | .slice A n c => .slice (if c = k then A else A.map (·.add (k * z))) (n - k) (c - k)
 | v => v
section
variable {N : Nat} {X : Cx N} {S : St} {ops : Array Oper} {o : Oper} {Q : Exit → Act → World → Prop} {l : List Oper} {rs : List (Tmp × R)} {os os' : List Obj} {fs : List (Value × D)}
theorem Ph {x y : Operand} {T e z b : Nat} {k : Int} {v : Value} {ds : List D} (ho : o.op = .slice T x (some y) none none) (hx : ev S x = some (.val (.v v))) (i : Nat) (hi : S.objs[i]? = some (.row v e z ds)) (hy : ev S y = some (.val (.v (.int .i64 k)))) (hT : assoc slL T = some (e, z, b)) (hk : 0 ≤ k ∧ k.toNat ≤ ds.length) : Still ops S o (.val (.v (Ah k.toNat z v))) := fun base ok a w ha => by
 have hx' := gW ha hx (bD (by rw [ho]; simp [Op.operands]))
 have hy' := gW ha hy (bD (by rw [ho]; simp [Op.operands]))
 obtain ⟨rows, ⟨h1, _⟩, _⟩ := ha.objs _ (Xh hi)
 obtain ⟨hu, hs⟩ := qP hT
 have hf : ∃ A c, v = .slice A ds.length c ∧ ds.length ≤ c := by
  rcases h1.2 with ⟨e1, e2⟩ | ⟨g, c, cur, e1, _, _, e3, _⟩
  · exact ⟨none, 0, by rw [e1, e2], by omega⟩
  · exact ⟨_, c, e1, e3⟩
 obtain ⟨A, c, rfl, hc⟩ := hf
 refine ⟨Ah k.toNat z (.slice A ds.length c), ?_, iD (by unfold Ah; rfl)⟩
 unfold execOp
 have hr : (Instr.sliceAt T (.slice A ds.length c) (some (.int .i64 k)) none none).run Tryz.prog w = .ok (Ah k.toNat z (.slice A ds.length c)) w := by
  rw [run_sliceAt_slice (P := Tryz.prog) w T _ _ _ _ hu, run_slice_l (P := Tryz.prog) w T A ds.length c hu .i64 k hk.1 (by omega), hs]
  rfl
 simp only [ho, hx', hy', YL, XW, WX, hr, WV, Xc]
theorem QD {t ty : Nat} {pos : String} {af : Array Edge} {gd : Option (Nat × Bool)} {x y : Operand} {T e z b i : Nat} {k : Int} {v : Value} {ds : List D} (hx : ev (⟨rs, os, fs⟩ : St) x = some (.val (.v v))) (hi : os[i]? = some (.row v e z ds)) (hy : ev (⟨rs, os, fs⟩ : St) y = some (.val (.v (.int .i64 k)))) (hT : assoc slL T = some (e, z, b)) (hk : 0 ≤ k ∧ k.toNat ≤ ds.length) (hg : guardOf ops ⟨rs, os, fs⟩ ⟨some t, .slice T x (some y) none none, ty, pos, af, gd⟩ = some true) (hN : Nat.blt t N = true) (kk : EL X ops Q l ⟨(t, .val (.v (Ah k.toNat z v))) :: rs, os, fs⟩) : EL X ops Q (⟨some t, .slice T x (some y) none none, ty, pos, af, gd⟩ :: l) ⟨rs, os, fs⟩ := ES.still (Ph rfl hx i hi hy hT hk) hg rfl hN kk
end
theorem xR (cs : List Value) (h0 : 0 < cs.length) (m : Nat) : (Builtin.zeroCells cs.toArray m).toList = (List.replicate m cs).flatten := by
 have hl : ∀ m, (List.replicate m cs).flatten.length = m * cs.length := fun m => by
  induction m with
  | zero => simp
  | succ m ih => rw [YB, Xv, List.length_append, ih, X5, Yj, Yv]
 have hg : ∀ m j, j < m * cs.length → (List.replicate m cs).flatten[j]? = cs[j % cs.length]? := fun m => by
  induction m with
  | zero => intro j h; omega
  | succ m ih =>
   intro j h
   rw [YB, Xv]
   by_cases hj : j < cs.length
   · rw [XZ hj, Nat.mod_eq_of_lt hj]
   ·
    rw [XY (by omega), ih (j - cs.length) (by rw [X5, Yj] at h; omega)]
    conv => rhs; rw [show j = j - cs.length + cs.length by omega, Nat.add_mod_right]
 refine Yo fun j => ?_
 by_cases hj : j < m * cs.length
 ·
  rw [hg m j hj]
  have hm : j % cs.length < cs.length := Nat.mod_lt _ h0
  simp [Builtin.zeroCells, hj, hm]
 · rw [XM (by simp [Builtin.zeroCells]; omega), XM (by rw [hl]; omega)]
theorem Bf {ok : Nat → Prop} {w : World} {z : Nat} {d : D} {cs : List Value} (h : Reads ok w d cs) (hl : cs.length = z) : ∀ m : Nat, ay ok w z (List.replicate m d) (List.replicate m cs)
 | 0 => by rw [List.replicate_zero, ay]; rfl
 | m + 1 => by
  rw [YB, YB, ay]
  exact ⟨cs, _, rfl, hl, h, Bf h hl m⟩
section
variable {N : Nat} {X : Cx N} {S : St} {ops : Array Oper} {o : Oper} {Q : Exit → Act → World → Prop} {l' : List Oper} {rs : List (Tmp × R)} {os : List Obj} {fs : List (Value × D)}
theorem KD {t ty : Nat} {pos : String} {af : Array Edge} {gd : Option (Nat × Bool)} {x y : Operand} {T U e z b : Nat} {ds : List D} (hx : ev (⟨rs, os, fs⟩ : St) x = some (.val (.sl z ds))) (hy : ev (⟨rs, os, fs⟩ : St) y = some (.val (.v (.slice none 0 0)))) (hT : assoc slL T = some (e, z, b)) (hz : Nat.blt 0 z = true) (hg : guardOf ops ⟨rs, os, fs⟩ ⟨some t, .binOp .eql T x y U, ty, pos, af, gd⟩ = some true) (hN : Nat.blt t N = true) (kk : ∀ v, (v = true → ds = []) → EL X ops Q l' ⟨(t, .val (.v (.bool v))) :: rs, os, fs⟩) : EL X ops Q (⟨some t, .binOp .eql T x y U, ty, pos, af, gd⟩ :: l') ⟨rs, os, fs⟩ := by
 refine EL.growE (Φ := fun r => ∃ v, (v = true → ds = []) ∧ r = .val (.v (.bool v))) hg (jf rfl hN) (fun base ok a w ha => ?_) fun r ⟨v, h1, h2⟩ => by
  subst h2
  exact kk v h1
 obtain ⟨A, c, rows, h1, h2, h3, h4, _⟩ := wH (ha.ev hx (bD (by simp [Op.operands])))
 have h5 := gW ha hy (bD (by simp [Op.operands]))
 have hu := (Og hT hz).und
 have hrun : (execOp a.eval ⟨some t, .binOp .eql T x y U, ty, pos, af, gd⟩).run Tryz.prog w = .ok (.value (.bool A.isNone)) w := by
  unfold execOp
  have hq : (eqGuard .eql T x y (.slice A ds.length c) (.slice none 0 0)).run Tryz.prog w = .ok () w := by simp [eqGuard]
  simp only [h1, h5, WX, hq, WV, Lib.run_eql_slice_nil w T e A ds.length c 0 0 hu, Xc]
 rw [hrun]
 refine ⟨Gr.refl w, _, ⟨_, fun hv => ?_, rfl⟩, aY.2 ⟨rfl, rfl⟩⟩
 cases A with
 | none => exact XF (h4 rfl).1
 | some _ => cases hv
theorem OY {T e z b : Nat} (ho : o.op = .buildSlice T 0 #[]) (hT : assoc slL T = some (e, z, b)) (hz : Nat.blt 0 z = true) : wB ops S o [] (fun r os' => ∃ v, r = .val (.v v) ∧ os' = [.row v e z []]) := .mk fun base ok a w ha hown => by
 have hS := Og hT hz
 obtain ⟨i, zv, hi, hzv, hsz, hby, hcs⟩ := hS.info
 have hr : (execOp a.eval o).run Tryz.prog w = .ok (.value (.slice (some ⟨w.heap.size, 0, none⟩) 0 0)) (w.alloc (.cells #[] e)) := by
  unfold execOp
  simp [ho, Instr.buildSlice, run_underlying hS.und, sizeOf, typeInfo, hi, Instr.fill, newRow]
  have e0 : Array.map (fun _ : Nat => (default : Value)) (Array.range 0) = #[] := by apply Zc; simp
  rw [e0]
 rw [hr]
 obtain ⟨g1, g2⟩ := OX (ok := ok) (w := w) (q := .row (.slice (some ⟨w.heap.size, 0, none⟩) 0 0) e z []) (r := .val (.v (.slice (some ⟨w.heap.size, 0, none⟩) 0 0))) (ob := .cells #[] e) (v := .slice (some ⟨w.heap.size, 0, none⟩) 0 0) rfl (fun ok' hk => ⟨[], ⟨by
  have := iT w #[] e z 0 w.heap.size 0 rfl (Xo _) (by simp [maxLen]) (by simp)
  exact this, fun b hb => by cases hb; exact .inr (Nat.le_refl _)⟩, by rw [ay]⟩) (fun _ => iD rfl) ha.lt
 exact ⟨_, _, ⟨_, rfl, rfl⟩, g1, g2⟩
end
section
variable {N : Nat} {X : Cx N} {S : St} {ops : Array Oper} {o : Oper} {Q : Exit → Act → World → Prop} {l : List Oper} {rs : List (Tmp × R)} {os os' : List Obj} {fs : List (Value × D)}
theorem EL.U1 {T e z b k : Nat} {x : Operand} {v : Value} {ds : List D} {dz : D} (i : Nat) (ho : o.op = .call { callee := .builtin .clear, args := #[x], argTypes := #[T] }) (hg : guardOf ops S o = some true) (hd : o.dst = none) (hx : ev S x = some (.val (.v (Ah k z v)))) (hi : S.objs[i]? = some (.row v e z ds)) (hT : assoc slL T = some (e, z, b)) (hz : assoc iy e = some dz) (hag : dz.agg = false) (hsz : dz.size = z) (hpos : Nat.blt 0 dz.size = true) (hk : k < ds.length) (kk : EL X ops Q l ⟨S.regs, S.objs.set i (.row v e z (ds.take k ++ List.replicate (ds.length - k) dz)), S.facts⟩) : EL X ops Q (o :: l) S := by
 constructor
 intro a w ha
 have hkn := ha.kn fun t => t ∈ o.looksAt ops
 have h1 := gW hkn hx (bD (by rw [ho]; simp [Op.operands, Call.operands]))
 have hmem := Xh hi
 have hat := ha.mem.at_ _ hmem
 obtain ⟨hu, _⟩ := Og hT (by rw [← hsz]; exact hpos)
 obtain ⟨g, c, cur, rows, H⟩ := row_in hat (by omega)
 obtain ⟨zv, hz1, hz2⟩ := (zvI hz).get
 have hcs := (dn hag).1 (hz2 (X.ok S.objs w) w)
 have hzc : zv.cells = [zv].toArray := by
  have := Reads.one _ _ hcs zv (by simp)
  cases zv <;> first | rfl | (simp [Value.oneCell'] at this)
 generalize [zv] = cs at hcs hzc
 have hcl : cs.length = z := by rw [← hsz]; exact Reads.len _ _ hcs
 have hz0 : 0 < cs.length := by rw [hcl, ← hsz]; simpa using hpos
 have hmk : ds.length - k ≠ 0 := by omega
 obtain ⟨m, hm⟩ : ∃ m, ds.length - k = m := ⟨_, rfl⟩
 rw [hm] at hmk kk
 obtain ⟨hl1, hl2⟩ := ay.lens ds rows H.rows
 obtain ⟨sp, hsplit⟩ : ∃ sp, cur.toList = rows.flatten ++ sp := ⟨cur.toList.drop (ds.length * z), by rw [← H.cells, XE]⟩
 have hrs : rows.flatten = (rows.take k).flatten ++ (rows.drop k).flatten := by rw [← Yz, XE]
 have hA : (rows.take k).flatten.length = k * z := by
  rw [kT _ fun r hr => hl2 r (Yl hr), Xi, hl1, Y3 (by omega)]
 have hM : (rows.drop k).flatten.length = m * z := by
  rw [kT _ fun r hr => hl2 r (List.mem_of_mem_drop hr), W9, hl1, hm]
 have hN : (List.replicate m cs).flatten.length = m * z := by
  rw [kT _ (show ∀ r ∈ List.replicate m cs, r.length = z from fun r hr => by rw [List.eq_of_mem_replicate hr]; exact hcl), Y9]
 generalize hAe : (rows.take k).flatten = A at hrs hA
 generalize hMe : (rows.drop k).flatten = r at hrs hM
 have hcur : cur = (A ++ r ++ sp).toArray := by rw [← hrs, ← hsplit]
 have hv : Ah k z v = .slice (some ⟨g, 0 + k * z, none⟩) m (c - k) := by
  rw [H.val]
  have hle := H.le
  unfold Ah
  dsimp only
  rw [if_neg (by omega), hm, XW, eu]
 have hheap := H.heap
 rw [hcur] at hheap
 have hset := iJ (List.replicate m cs).flatten A r sp w (by rw [hN, hM]) hheap
 rw [hA] at hset
 have hgr := eY g (List.replicate m cs).flatten (k * z) w
 have hno : ∀ b, X.ok S.objs w b → b ≠ g := fun b' hb' e' => hb'.2.2 _ hmem (by rw [e']; show v.ownBlock = some g; rw [H.val]; rfl)
 have hcell : ∀ q : Addr, X.ok S.objs w q.block → (w.setCells g (k * z) (List.replicate m cs).flatten).cell? q = w.cell? q := fun q hq => World.cell?_of_block (hgr.block _ hq.2.1 fun e' => hno _ hq (by injection e'))
 have hnl : (ds.take k ++ List.replicate m dz).length = ds.length := by rw [List.length_append, Xi, Y9]; omega
 have hrows := ay.append _ _ _ _ (ay.take ds rows k H.rows) (Bf hcs hcl m)
 have hrows' := ay.mono (fun _ h => h) hcell z _ _ hrows
 have hat' : Obj.At X.mine (X.ok S.objs w) (w.setCells g (k * z) (List.replicate m cs).flatten) (.row v e z (ds.take k ++ List.replicate m dz)) := zX.at (g := g) (c := c) (cur := (A ++ (List.replicate m cs).flatten ++ sp).toArray) (rows := rows.take k ++ List.replicate m cs) ⟨by rw [hnl]; exact H.val, hset, by
  rw [hnl, Yz, hAe]
  have : ds.length * z = (A ++ (List.replicate m cs).flatten).length := by
   rw [List.length_append, hA, hN, ← X5, show k + m = ds.length by omega]
  rw [this]
  exact List.take_left' rfl, by
  have := congrArg List.length hsplit
  rw [Yy, H.size, hrs] at this
  simp only [Yx, List.length_append] at this ⊢
  rw [hN, ← hM]
  omega, by rw [hnl]; exact H.le, H.max, hrows', H.mine⟩
 have hst : (storeCells ⟨g, 0 + k * z, none⟩ (Builtin.zeroCells zv.cells m).toList).run Tryz.prog w = .ok () (w.setCells g (k * z) (List.replicate m cs).flatten) := by
  rw [hzc, xR cs hz0 m]
  have := run_storeCells_cells (P := Tryz.prog) g (k * z) (List.replicate m cs).flatten 0 w (fun j hj => ?_) (fun j hj => ?_) (fun u hu => by
   obtain ⟨r', hr', hu'⟩ := List.mem_flatten.1 hu
   rw [List.eq_of_mem_replicate hr'] at hu'
   exact Reads.one _ _ hcs u hu')
  · simpa using this
  ·
   rw [cell_of_row w g _ _ _ _ hheap, Option.isSome_iff_exists]
   have hsz2 : k * z + 0 + j < (A ++ r ++ sp).toArray.size := by
    simp only [Yx, List.length_append]
    rw [hN] at hj
    omega
   exact ⟨_, Zl hsz2⟩
  · simp [World.frozen?, hheap]
 have hrun : (Builtin.clear_ #[T] o.type #[Ah k z v]).run Tryz.prog w = .ok (.tuple #[]) (w.setCells g (k * z) (List.replicate m cs).flatten) := by
  rw [hv]
  obtain ⟨m', rfl⟩ : ∃ m', m = m' + 1 := ⟨m - 1, by omega⟩
  rw [Xj] at hst ⊢
  simp [Builtin.clear_, run_underlying hu, hz1, hst]
 unfold wpList
 rw [if_pos (gX ha hg)]
 refine .inl ?_
 unfold Oper.wp execOp
 simp only [ho, resolve, invoke, builtin, WX, Xc, WV, Yq, Xm, X3, h1, hrun]
 simp only [Oper.upon_value, hd, Act.put]
 exact kk.go _ _ (ha.turn hi (by rw [show (Obj.row v e z ds).blk = some g by show v.ownBlock = some g; rw [H.val]; rfl]; exact hgr) (.inl rfl) fun hok hcell => hat'.move hok (fun _ _ => rfl) fun _ _ => rfl)
theorem QG {T e z b k ty : Nat} {pos : String} {af : Array Edge} {gd : Option (Nat × Bool)} {x : Operand} {v : Value} {ds : List D} {dz : D} (hx : ev (⟨rs, os, fs⟩ : St) x = some (.val (.v (Ah k z v)))) (hset : qc os (.row v e z ds) (.row v e z (ds.take k ++ List.replicate (ds.length - k) dz)) os') (hk : k < ds.length) (hT : assoc slL T = some (e, z, b)) (hz : assoc iy e = some dz) (hag : dz.agg = false) (hsz : dz.size = z) (hpos : Nat.blt 0 dz.size = true) (hg : guardOf ops ⟨rs, os, fs⟩ ⟨none, .call { callee := .builtin .clear, args := #[x], argTypes := #[T] }, ty, pos, af, gd⟩ = some true) (kk : EL X ops Q l ⟨rs, os', fs⟩) : EL X ops Q (⟨none, .call { callee := .builtin .clear, args := #[x], argTypes := #[T] }, ty, pos, af, gd⟩ :: l) ⟨rs, os, fs⟩ := by
 obtain ⟨i, hi, rfl⟩ := hset.ix
 exact EL.U1 i rfl hg rfl hx hi hT hz hag hsz hpos hk kk
theorem ET {ok : Nat → Prop} {w : World} : ∀ (ds : List D) (cs : List Value), (∀ d ∈ ds, d.size = 1) → dF ok w ds cs → ay ok w 1 ds (cs.map fun c => [c])
 | [], cs, _, h => by
  rw [dF] at h
  subst h
  rw [X3, ay]
 | d :: ds, cs, hd, h => by
  rw [dF] at h
  obtain ⟨c1, c2, rfl, h1, h2⟩ := h
  obtain ⟨u, rfl⟩ : ∃ u, c1 = [u] := Yf.1 ((Reads.len _ _ h1).trans (hd d (by simp)))
  rw [YK, Xm, ay]
  exact ⟨[u], _, rfl, rfl, h1, ET ds c2 (fun d hd' => hd d (by simp [hd'])) h2⟩
theorem PK (cs : List Value) : (cs.map fun c => [c]).flatten = cs := by
 induction cs with
 | nil => rfl
 | cons c cs ih => rw [Xm, Xv, ih]; rfl
theorem RQ {x : Operand} {T n : Nat} {ds : List D} (hA : tV T n) (hn : Nat.ble n 4096 = true) (ho : o.op = .slice T x none none none) (hx : ev S x = some (.val (.pd (.tup ds)))) (hm : ds.length = n) (h1 : ∀ d ∈ ds, d.size = 1) : Still ops S o (.val (.sl 1 ds)) := fun base ok a w ha => by
 subst hm
 have h2 := (dn rfl).1 (ha.ev hx fun t e => aU e (by rw [ho]; simp [Op.operands]))
 rw [Reads] at h2
 obtain ⟨g, k, cs, e, hg, hr, h3⟩ := h2
 rw [Reads] at h3
 have e' : a.eval x = .pointer (some ⟨g, k, none⟩) := List.singleton_inj.1 e
 have hrw := ET ds cs h1 h3
 simp only [Nat.ble_eq] at hn
 refine ⟨.slice (some ⟨g, k, none⟩) ds.length ds.length, ?_, (dn rfl).2 ?_⟩
 ·
  unfold execOp
  simp only [ho, e', YL, WX, hA.ok w g k, WV, Xc]
 ·
  rw [Reads]
  exact ⟨some ⟨g, k, none⟩, ds.length, cs.map fun c => [c], rfl, Nat.le_refl _, by simp [maxLen]; omega, (fun h => by cases h), fun _ => ⟨g, k, rfl, hg, by rw [PK]; exact fun j u hu => hr j u hu⟩, hrw⟩
theorem Ti {t ty : Nat} {pos : String} {af : Array Edge} {gd : Option (Nat × Bool)} {x : Operand} {T n : Nat} {ds : List D} (hA : tV T n) (hn : Nat.ble n 4096 = true) (hx : ev (⟨rs, os, fs⟩ : St) x = some (.val (.pd (.tup ds)))) (hm : ds.length = n) (h1 : ∀ d ∈ ds, d.size = 1) (hg : guardOf ops ⟨rs, os, fs⟩ ⟨some t, .slice T x none none none, ty, pos, af, gd⟩ = some true) (hN : Nat.blt t N = true) (kk : EL X ops Q l ⟨(t, .val (.sl 1 ds)) :: rs, os, fs⟩) : EL X ops Q (⟨some t, .slice T x none none none, ty, pos, af, gd⟩ :: l) ⟨rs, os, fs⟩ := by
 refine ES.still (r := .val (.sl 1 ds)) ?_ hg rfl hN kk
 exact RQ hA hn rfl hx hm h1
end
theorem Q5 : tV 242 16 := ⟨fun w g o => by
 have hn : Tryz.prog.arrayLen 242 = 16 := by kernel_rfl
 have hs : (sizeOf (Tryz.prog.elem 242)).run Tryz.prog w = .ok 1 w := by kernel_rfl
 rw [run_sliceAt_array_all (P := Tryz.prog) w 242 ⟨g, o, none⟩ (by kernel_rfl), hs]
 simp [slicedAt, hn, eu, Result.andThen]⟩
abbrev ndF : Value := .func (.func 154) #[] #[]
def O6 (ts : List Tn) : List Tn := ts.filter fun t => !t.isNil
structure Dlt (ts R : List Tn) (k i : Nat) : Prop where
 len : R.length = ts.length
 ki : k < i
 le : i ≤ ts.length
 hd : R.take k = O6 (ts.take i)
 tl : R.drop i = ts.drop i
theorem Dlt.at_ {ts R : List Tn} {k i : Nat} (h : Dlt ts R k i) (hi : i < ts.length) : R[i]? = some ts[i] := by
 have h1 := congrArg (fun l => l[0]?) h.tl
 simp only [YG, XI] at h1
 rw [h1, List.getElem?_eq_getElem hi]
theorem Dlt.skip {ts R : List Tn} {k i : Nat} (h : Dlt ts R k i) (hi : i < ts.length) (hn : ts[i].isNil = true) : Dlt ts R k (i + 1) :=
 ⟨h.len, by have := h.ki; omega, hi, by
  rw [h.hd, Xa hi]
  unfold O6
  rw [YF, Ym (by simp [hn]), List.filter_nil, XB], by
  have := congrArg (List.drop 1) h.tl
  rwa [Yr, Yr] at this⟩
theorem Dlt.keep {ts R : List Tn} {k i : Nat} (h : Dlt ts R k i) (hi : i < ts.length) (hn : ts[i].isNil = false) : Dlt ts (R.set k ts[i]) (k + 1) (i + 1) :=
 ⟨by rw [Yh, h.len], by have := h.ki; omega, hi, by
  have hk : k < R.length := by rw [h.len]; have := h.ki; omega
  rw [Xa (by rw [Yh]; exact hk), List.getElem_set_self, List.take_set_of_le (Nat.le_refl _), h.hd, Xa hi]
  unfold O6
  rw [YF, Yd (by simp [hn]), List.filter_nil], by
  have := congrArg (List.drop 1) h.tl
  rw [Yr, Yr] at this
  rw [List.drop_set_of_lt (by have := h.ki; omega)]
  exact this⟩
end E
end Go.Proofs.YtelbhdobjdnglaaGreat
namespace Go.Proofs.YtelbhdobjdnglaaGreat
set_option linter.unusedVariables false
set_option maxHeartbeats 1000000
open Go.RowKit Mono Rlp
theorem U0 (v : Value) (l : List UInt8) (w : World) (h : IsB w v l) (hl : l.length ≤ 140737488355328) : Calls Tryz.prog 75 #[v] w (Ret (fun v w' => OwnB w' w.heap.size v l) w) := by
 obtain ⟨A, c, rfl, hc1, hc2, hr⟩ := h
 cases A with
 | none =>
  have hl0 : l = [] := by
   by_cases hn : bvs l = []
   · simpa [bvs] using hn
   ·
    obtain ⟨b, o, e, _⟩ := hr hn
    cases e
  subst hl0
  clear hr
  have hq := Lib.run_eql_slice_nil w 38 5 none 0 c 0 0 Tryz.underlying38
  go_enter Tryz.func75, Tryz.ntmps75
  go_wp2
  refine bodyPost_ret (results_tmp rfl _ _ _) rfl ?_
  exact ⟨_, rfl, Gr.refl _, OwnB.nil _ _⟩
 | some a =>
  have HR := Lib.hid hr
  clear hr
  have hq := Lib.run_eql_slice_nil w 38 5 (some a) l.length c 0 0 Tryz.underlying38
  go_enter Tryz.func75, Tryz.ntmps75
  go_wp2_with (at_builtin; refine bn (.tmp 5) (.tmp 6) 38 cu (base := w.heap.size) _ 0 [] _ l.length c w.heap.size (bvs l) rfl rfl rfl rfl (iT w #[] 5 1 0 w.heap.size w.heap.size rfl (Nat.le_refl _) (by simp [maxLen]) rfl) (HR.out.below ((Below.refl _ _).alloc (Nat.le_refl _) _)) (by simp [bvs]) (dR _) (by simp only [maxLen]; omega) (by omega) (by simp) ?_; intro A2 c2 w2 hown2 hg2 _)
  refine bodyPost_ret (results_tmp rfl _ _ _) rfl ?_
  refine ⟨_, rfl, ((Below.refl _ _).alloc (Nat.le_refl _) _).grown hg2 (by simp) (fun j hj => by cases hj; exact Nat.le_refl _), ?_⟩
  rw [Xj, WJ] at hown2
  exact hown2
namespace E
theorem SL (l : List UInt8) (hl : l.length ≤ 140737488355328) : Fn 75 [.bs l] (· = .val (.bs l)) := ⟨fun ok w xs hok hr => by
 obtain ⟨x, _, rfl, hx, rfl⟩ := hr
 refine (U0 x l w (nJ hok hx) hl).mono ?_
 rintro e w' ⟨v, rfl, hg, ho⟩
 exact ⟨hg, v, .val (.bs l), rfl, rfl, (dn rfl).2 (by rw [Reads]; exact ⟨v, rfl, wC.mono (nI ho) (fun b hb => ⟨.inr hb.1, hb.2⟩) fun _ _ => rfl⟩)⟩⟩
end E
end Go.Proofs.YtelbhdobjdnglaaGreat
namespace Go.Proofs.YtelbhdobjdnglaaGreat
set_option linter.unusedVariables false
set_option maxRecDepth 20000
set_option maxHeartbeats 8000000
open Go.RowKit Mono Rlp
namespace E
theorem yg (k : Nd) : (dN k).sub 0 1 false = some (dN k) := by
 cases k <;> (rw [dN]; simp [D.sub])
theorem TV (t t' : Nd) : (dN t).upd 0 (dN t') = some (dN t') := Tv t _ (jV t').1 (jV t').2
abbrev nhO (v : Value) (ts : List Nd) : Obj := .row v 110 1 (ts.map dN)
theorem Gt (t : Nd) : Fn 154 ([dN t] ++ []) (· = .val (.v (.bool t.isNil))) := by
 have h : Bin .eql 110 (dN t) (.v .nilIface) (.bool t.isNil) := by
  cases t with
  | nil => exact Qn
  | hash a => exact xO _ _
  | leaf a b => exact xO _ _
  | ext a b => exact xO _ _
  | br a b => exact xO _ _
 rw [XB]
 refine Fn.walk 5 Tryz.func154 rfl Tryz.ntmps154 (by simp) fun X => ?_
 repeat
  (first
   | (apply nC; (iterate 2 rfl); exact h; iterate 2 rfl) | (apply ak; iterate 3 rfl) | (apply ah; iterate 3 rfl) | apply EL.nil
   | (with_reducible first | apply EK.nc | apply EC.seq | apply EC.r0 | apply EC.ret))
 exact EK.Ak rfl rfl rfl
def kW : List Nd → Nat → Int
 | [], _ => -1
 | t :: l, k => if t.isNil then (k : Int) else kW l (k + 1)
theorem wS : ∀ (l : List Nd) (k : Nat), kW l k = -1 → l.filter (fun t => !t.isNil) = l
 | [], _, _ => rfl
 | t :: l, k, h => by
  rw [kW] at h
  split at h
  · omega
  ·
   rename_i hn
   rw [Yd (by simpa using hn), wS l (k + 1) h]
theorem wR : ∀ (l : List Nd) (k : Nat), kW l k ≠ -1 → ∃ j, kW l k = ((k + j : Nat) : Int) ∧ j < l.length ∧ (l.take (j + 1)).filter (fun t => !t.isNil) = l.take j
 | [], _, h => absurd rfl h
 | t :: l, k, h => by
  rw [kW] at h ⊢
  split
  ·
   rename_i hn
   exact ⟨0, rfl, by simp, by simp [hn]⟩
  ·
   rename_i hn
   rw [if_neg hn] at h
   obtain ⟨j, h1, h2, h3⟩ := wR l (k + 1) h
   refine ⟨j + 1, by rw [h1]; omega, by simpa using h2, ?_⟩
   rw [WH, Yd (by simpa using hn), h3, WH]
theorem O7 (v : Value) (ts : List Nd) (hl : ts.length ≤ 1000000) : FnM 185 [.v v, .v ndF] [nhO v ts] (fun r os' => r = .val (.v (.int .i64 (kW ts 0))) ∧ os' = [nhO v ts]) := by
 have hml : (ts.map dN).length = ts.length := WY _
 generalize hres : kW ts 0 = res
 refine FnM.walk 19 Tryz.func185 rfl Tryz.ntmps185 (by simp) fun X => ?_
 repeat
  (first
   | (apply ak; iterate 3 rfl) | (apply ah; iterate 3 rfl) | (apply oK; rfl; exact I.a; iterate 3 rfl) | apply EL.nil
   | (with_reducible first | apply EK.nc | apply EC.seq | apply EC.r0 | apply EC.b0))
 refine EC.loop (ι := {i : Nat // i ≤ ts.length ∧ res = kW (ts.drop i) i})
  (fun i => ⟨[(8, .val (.v (.int .i64 (i.1 : Int)))), (7, .val (.v (.int .i64 ((ts.map dN).length : Int)))), (1, .val (.v ndF)), (0, .val (.v v))], [nhO v ts], []⟩)
  (fun i => ts.length - i.1) ⟨0, Xo _, hres.symm⟩ ?_ ?_
 · exact Le.kp
 rintro ⟨i, hi, hI⟩
 dsimp only at hi ⊢
 by_cases hlt : i < ts.length
 ·
  have hd : (ts.map dN)[i]? = some (dN ts[i]) := by rw [Xl, List.getElem?_eq_getElem hlt]; rfl
  have hb := Gt ts[i]
  have hsub := yg ts[i]
  rw [Xn hlt, kW] at hI
  cases hn : ts[i].isNil with
  | true =>
   rw [hn] at hb hI
   rw [if_pos rfl] at hI
   generalize dN ts[i] = x at hd hb hsub
   repeat
    (first
     | (apply oJ (k := i) (off := 0) (d := x) (d' := x); rfl; exact I0; exact ⟨by simp, hd⟩; rfl; exact hsub; iterate 2 rfl)
     | (apply oL (os := []) (caps := []) (ds' := [x]) (cds := []) hb.QW; (exact fun base ok L a w _ => rfl); (iterate 3 rfl); exact aj.refl _ _; (focus (intro _ _; simp [go_sem]; done)); (iterate 2 rfl); rintro _ _ ⟨rfl, rfl⟩; simp only [WJ])
     | (apply ak; iterate 3 rfl) | (apply ah; iterate 3 rfl) | (apply aF (b := true); (iterate 2 rfl); exact aQ; iterate 2 rfl)
     | (apply qX; rfl; exact I.a; (iterate 2 rfl); (focus (first | assumption | omega | (constructor <;> (first | (simp; done) | (simp; omega))))); iterate 2 rfl) | apply EL.nil
     | (apply EC.t0; rfl)
     | (with_reducible first | apply EK.nc | apply EC.seq | apply EC.r0 | apply EC.k0 | apply EC.b0 | apply EC.ret | apply EK.bK | apply EK.aB))
   exact EK.aW [nhO v ts] rfl rfl (by (repeat first | exact WI _ | apply List.Sublist.cons_cons | apply List.Sublist.cons)) ⟨by rw [hI], rfl⟩
  | false =>
   rw [hn] at hb hI
   rw [if_neg (by decide)] at hI
   generalize dN ts[i] = x at hd hb hsub
   repeat
    (first
     | (apply oJ (k := i) (off := 0) (d := x) (d' := x); rfl; exact I0; exact ⟨by simp, hd⟩; rfl; exact hsub; iterate 2 rfl)
     | (apply oL (os := []) (caps := []) (ds' := [x]) (cds := []) hb.QW; (exact fun base ok L a w _ => rfl); (iterate 3 rfl); exact aj.refl _ _; (focus (intro _ _; simp [go_sem]; done)); (iterate 2 rfl); rintro _ _ ⟨rfl, rfl⟩; simp only [WJ])
     | (apply ak; iterate 3 rfl) | (apply ah; iterate 3 rfl) | (apply aF (b := true); (iterate 2 rfl); exact aQ; iterate 2 rfl)
     | (apply jM; (iterate 3 rfl); (focus omega); (focus omega); iterate 2 rfl)
     | (apply qX; rfl; exact I.a; (iterate 2 rfl); (focus (first | assumption | omega | (constructor <;> (first | (simp; done) | (simp; omega))))); iterate 2 rfl) | apply EL.nil
     | (apply EC.t0; rfl) | (apply EC.f0; rfl)
     | (with_reducible first | apply EK.nc | apply EC.seq | apply EC.r0 | apply EC.k0 | apply EC.b0 | apply EK.n0))
   refine EK.again ⟨i + 1, hlt, hI⟩ (by dsimp only; omega) ?_
   simp only [XA]
   exact Le.kp
 ·
  obtain rfl : res = -1 := by rw [hI, Xt (by omega), kW]
  repeat
   (first
    | (apply ah; iterate 3 rfl) | (apply aF (b := false); (iterate 2 rfl); exact aQ; iterate 2 rfl) | apply EL.nil
    | (apply EC.f0; rfl) | (with_reducible first | apply EK.nc | apply EC.seq | apply EC.r0 | apply EC.x0 | apply EC.ret | apply EK.s0 | apply EK.aJ))
  exact EK.aW [nhO v ts] rfl rfl (by (repeat first | exact WI _ | apply List.Sublist.cons_cons | apply List.Sublist.cons)) ⟨rfl, rfl⟩
def sH (ts : List Nd) : List Nd := ts.filter fun t => !t.isNil
structure Ep (ts R : List Nd) (k i : Nat) : Prop where
 len : R.length = ts.length
 ki : k < i
 le : i ≤ ts.length
 hd : R.take k = sH (ts.take i)
 tl : R.drop i = ts.drop i
theorem Ep.at_ {ts R : List Nd} {k i : Nat} (h : Ep ts R k i) (hi : i < ts.length) : R[i]? = some ts[i] := by
 have h1 := congrArg (fun l => l[0]?) h.tl
 simp only [YG, XI] at h1
 rw [h1, List.getElem?_eq_getElem hi]
theorem Ep.skip {ts R : List Nd} {k i : Nat} (h : Ep ts R k i) (hi : i < ts.length) (hn : ts[i].isNil = true) : Ep ts R k (i + 1) :=
 ⟨h.len, by have := h.ki; omega, hi, by
  rw [h.hd, Xa hi]
  unfold sH
  rw [YF, Ym (by simp [hn]), List.filter_nil, XB], by
  have := congrArg (List.drop 1) h.tl
  rwa [Yr, Yr] at this⟩
theorem Ep.keep {ts R : List Nd} {k i : Nat} (h : Ep ts R k i) (hi : i < ts.length) (hn : ts[i].isNil = false) : Ep ts (R.set k ts[i]) (k + 1) (i + 1) :=
 ⟨by rw [Yh, h.len], by have := h.ki; omega, hi, by
  have hk : k < R.length := by rw [h.len]; have := h.ki; omega
  rw [Xa (by rw [Yh]; exact hk), List.getElem_set_self, List.take_set_of_le (Nat.le_refl _), h.hd, Xa hi]
  unfold sH
  rw [YF, Yd (by simp [hn]), List.filter_nil], by
  have := congrArg (List.drop 1) h.tl
  rw [Yr, Yr] at this
  rw [List.drop_set_of_lt (by have := h.ki; omega)]
  exact this⟩
theorem NG (v : Value) (ts : List Nd) (hl : ts.length ≤ 1000000) : FnM 152 [.v v, .v ndF] [nhO v ts] (fun r os' => ∃ v', r = .val (.v v') ∧ os' = [nhO v' (sH ts)]) := by
 have hix := O7 v ts hl
 refine FnM.walk 42 Tryz.func152 rfl Tryz.ntmps152 (by simp) fun X => ?_
 by_cases hnone : kW ts 0 = -1
 ·
  rw [hnone] at hix
  have hk : sH ts = ts := wS ts 0 hnone
  rw [hk]
  repeat
   (first
    | ((apply GY (hix); (iterate 2 rfl); exact RL.a; exact enA; iterate 2 rfl)) | (apply ak; iterate 3 rfl) | (apply ah; iterate 3 rfl)
    | (apply aF (b := true); (iterate 2 rfl); exact aQ; iterate 2 rfl) | apply EL.nil | (apply EC.t0; rfl)
    | (with_reducible first | apply EK.nc | apply EC.seq | apply EC.r0 | apply EC.ret | apply EK.aB))
  exact EK.aW [nhO v ts] rfl rfl (by (repeat first | exact WI _ | apply List.Sublist.cons_cons | apply List.Sublist.cons)) ⟨v, rfl, rfl⟩
 ·
  obtain ⟨j, h1, h2, h3⟩ := wR ts 0 hnone
  rw [Xj] at h1
  rw [h1] at hix
  repeat
   (first
    | ((apply GY (hix); (iterate 2 rfl); exact RL.a; exact enA; iterate 2 rfl)) | (apply ak; iterate 3 rfl) | (apply ah; iterate 3 rfl)
    | (apply aF (b := false); (iterate 2 rfl); exact aQ; iterate 2 rfl) | (apply jM; (iterate 3 rfl); (focus omega); (focus omega); iterate 2 rfl) | apply EL.nil
    | (apply EC.f0; rfl) | (with_reducible first | apply EK.nc | apply EC.seq | apply EC.r0 | apply EC.k0 | apply EC.b0))
  refine EC.loop (ι := {x : Nat × Nat × List Nd // Ep ts x.2.2 x.2.1 x.1})
   (fun x => ⟨[(6, .val (.v (.int .i64 (x.1.1 : Int)))), (5, .val (.v (.int .i64 (x.1.2.1 : Int)))), (1, .val (.v ndF)), (0, .val (.v v))], [nhO v x.1.2.2], []⟩)
   (fun x => ts.length - x.1.1) ⟨(j + 1, j, ts), rfl, by dsimp only; omega, h2, h3.symm, rfl⟩ ?_ ?_
  ·
   simp only [XA]
   exact Le.kp
  rintro ⟨⟨i, k, R⟩, hD⟩
  dsimp only at hD ⊢
  have hRl : (R.map dN).length = ts.length := by rw [WY, hD.len]
  have hRn : R.length = ts.length := hD.len
  have hki := hD.ki
  have hil := hD.le
  by_cases hlt : i < ts.length
  ·
   have hd : (R.map dN)[i]? = some (dN ts[i]) := by rw [Xl, hD.at_ hlt]; rfl
   have hsub := yg ts[i]
   have hb := Gt ts[i]
   cases hn : ts[i].isNil with
   | true =>
    rw [hn] at hb
    have hD2 := hD.skip hlt hn
    repeat
     (first
      | (apply oJ (k := i) (off := 0) (d := dN ts[i]) (d' := dN ts[i]); rfl; exact I0; exact ⟨by simp, hd⟩; rfl; exact hsub; iterate 2 rfl)
      | (apply oL (os := []) (caps := []) (ds' := [dN ts[i]]) (cds := []) hb.QW; (exact fun base ok L a w _ => rfl); (iterate 3 rfl); exact aj.refl _ _; (focus (intro _ _; simp [go_sem]; done)); (iterate 2 rfl); rintro _ _ ⟨rfl, rfl⟩; simp only [WJ])
      | (apply ak; iterate 3 rfl) | (apply ah; iterate 3 rfl) | (apply bM; iterate 3 rfl)
      | (apply aF (b := true); (iterate 2 rfl); exact aQ; iterate 2 rfl) | (apply jM; (iterate 3 rfl); (focus omega); (focus omega); iterate 2 rfl)
      | (apply oK; rfl; exact I.a; iterate 3 rfl)
      | (apply qX; rfl; exact I.a; (iterate 2 rfl); (focus (first | assumption | omega | (constructor <;> (first | (simp; done) | (simp; omega))))); iterate 2 rfl) | apply EL.nil
      | (apply EC.t0; rfl) | (apply EC.f0; rfl)
      | (with_reducible first | apply EK.nc | apply EC.seq | apply EC.r0 | apply EC.k0 | apply EC.b0 | apply EK.n0))
    refine EK.again ⟨(i + 1, k, R), hD2⟩ (by dsimp only; omega) ?_
    simp only [XA]
    exact Le.kp
   | false =>
    rw [hn] at hb
    have hD2 := hD.keep hlt hn
    have hkR : k < R.length := by rw [hD.len]; omega
    have hd2 : (R.map dN)[k]? = some (dN R[k]) := by rw [Xl, List.getElem?_eq_getElem hkR]; rfl
    have hset : (R.map dN).set k (dN ts[i]) = (R.set k ts[i]).map dN := by rw [List.map_set]
    repeat
     (first
      | (apply oJ (k := i) (off := 0) (d := dN ts[i]) (d' := dN ts[i]); rfl; exact I0; exact ⟨by simp, hd⟩; rfl; exact hsub; iterate 2 rfl)
      | (apply oL (os := []) (caps := []) (ds' := [dN ts[i]]) (cds := []) hb.QW; (exact fun base ok L a w _ => rfl); (iterate 3 rfl); exact aj.refl _ _; (focus (intro _ _; simp [go_sem]; done)); (iterate 2 rfl); rintro _ _ ⟨rfl, rfl⟩; simp only [WJ])
      | (apply Jp (k := k) (off := 0) (d := dN R[k]) (d' := dN ts[i]) (d'' := dN ts[i]); rfl; exact .z; exact ⟨by simp, hd2⟩; rfl; (rw [(jV ts[i]).1, (jV ts[i]).2]; rfl); exact TV _ _; rfl)
      | (apply ak; iterate 3 rfl) | (apply ah; iterate 3 rfl) | (apply bM; iterate 3 rfl)
      | (apply aF (b := true); (iterate 2 rfl); exact aQ; iterate 2 rfl) | (apply jM; (iterate 3 rfl); (focus omega); (focus omega); iterate 2 rfl)
      | (apply oK; rfl; exact I.a; iterate 3 rfl)
      | (apply qX; rfl; exact I.a; (iterate 2 rfl); (focus (first | assumption | omega | (constructor <;> (first | (simp; done) | (simp; omega))))); iterate 2 rfl) | apply EL.nil
      | (apply EC.t0; rfl) | (with_reducible first | apply EK.nc | apply EC.seq | apply EC.r0 | apply EC.k0 | apply EC.b0 | apply EK.n0))
    rw [hset]
    refine EK.again ⟨(i + 1, k + 1, R.set k ts[i]), hD2⟩ (by dsimp only; omega) ?_
    simp only [XA]
    exact Le.kp
  ·
   obtain rfl : i = ts.length := by omega
   have hkd := hD.hd
   rw [Yb] at hkd
   repeat
    (first
     | (apply QD; rfl; exact I0; (iterate 2 rfl); (focus (constructor <;> (first | omega | (rw [Xy, hRl]; omega)))); iterate 2 rfl)
     | (apply ak; iterate 3 rfl) | (apply aF (b := false); (iterate 2 rfl); exact aQ; iterate 2 rfl) | (apply oK; rfl; exact I.a; iterate 3 rfl)
     | apply EL.nil | (apply EC.f0; rfl)
     | (with_reducible first | apply EK.nc | apply EC.seq | apply EC.r0 | apply EC.x0 | apply EK.s0 | apply EK.aJ))
   rw [Xy]
   repeat
    (first
     | (apply QG (k := k) (dz := .v .nilIface); rfl; exact .z; (rw [hRl]; omega); iterate 6 rfl) | (apply ak; iterate 3 rfl) | apply EL.nil
     | (with_reducible first | apply EK.nc | apply EC.seq | apply EC.r0))
   have hcl : ((R.map dN).take k ++ List.replicate ((R.map dN).length - k) (D.v .nilIface)).length = ts.length := by
    rw [List.length_append, Xi, Y9, hRl]
    omega
   have hct : ((R.map dN).take k ++ List.replicate ((R.map dN).length - k) (D.v .nilIface)).take k = (sH ts).map dN := by
    rw [List.take_left' (by rw [Xi, hRl]; omega), ← List.map_take, hkd]
   generalize (R.map dN).take k ++ List.replicate ((R.map dN).length - k) (D.v .nilIface) = Z at hcl hct ⊢
   repeat
    (first
     | (apply GX; rfl; exact I0; (iterate 2 rfl); (focus (constructor <;> (first | omega | (rw [Xy, hcl]; omega)))); iterate 2 rfl)
     | (apply ah; iterate 3 rfl) | apply EL.nil | ((with_reducible apply EK.h0); apply EK.code) | (with_reducible apply EC.ret))
   rw [Xy]
   refine EK.le (Le.P9 (k := k) (by rw [hcl]; omega) .z) ?_
   rw [hct]
   exact EK.aW [nhO (cutV v k) (sH ts)] rfl rfl (by (repeat first | exact WI _ | apply List.Sublist.cons_cons | apply List.Sublist.cons)) ⟨_, rfl, rfl⟩
theorem Qe (ts : List Nd) (hl : ts.length = 16) : FnM 153 [.sl 1 (ts.map dN)] [] (fun r os' => ∃ v, r = .val (.v v) ∧ os' = [nhO v ts]) := by
 have hml : (ts.map dN).length = 16 := by rw [WY, hl]
 refine FnM.walk 8 Tryz.func153 rfl Tryz.ntmps153 (by simp) fun X => ?_
 repeat
  (first
   | (apply KD; (iterate 6 rfl); intro v hv) | (apply ak; iterate 3 rfl) | (apply ah; iterate 3 rfl) | apply EL.nil
   | (with_reducible first | apply EK.nc | apply EC.seq | apply EC.r0))
 cases v with
 | true =>
  have h0 := hv rfl
  rw [h0] at hml
  cases hml
 | false =>
  repeat
   (first
    | (refine EL.mut (os := []) (rest := []) rfl (jf rfl rfl) (OY rfl rfl rfl) ?_; rintro _ _ ⟨v, rfl, rfl⟩; simp only [St.put, WL, WJ])
    | (apply ak; iterate 3 rfl) | (apply ah; iterate 3 rfl)
    | ((apply jB; rfl; exact saA; (iterate 5 rfl); (focus (constructor <;> (first | (simp; done) | (simp; omega))))); intro _)
    | apply EL.nil | (apply EC.f0; rfl) | (with_reducible first | apply EK.nc | apply EC.seq | apply EC.r0 | apply EC.k0 | apply EC.ret))
  rename_i v'
  exact EK.aW [nhO v' ts] rfl rfl (by (repeat first | exact WI _ | apply List.Sublist.cons_cons | apply List.Sublist.cons)) ⟨v', rfl, rfl⟩
def sG : Nd → List Nd
 | .ext _ k => [k]
 | .br ks _ => sH ((List.range 16).map ks)
 | _ => []
theorem SI (t : Nd) : Fn 100 [dN t] (· = .val (.sl 1 ((sG t).map dN))) := by
 refine FnM.toFn ?_
 cases t with
 | nil =>
  unfold dN sG
  refine FnM.walk 23 Tryz.func100 rfl Tryz.ntmps100 (by simp) fun X => ?_
  repeat
   (first
    | (apply ak; iterate 3 rfl) | (apply ah; iterate 3 rfl) | (apply aA; iterate 4 rfl) | (apply xQ; iterate 5 rfl) | apply EL.nil
    | (apply EC.f0; rfl)
    | (with_reducible first | apply EK.nc | apply EC.seq | apply EC.r0 | apply EC.k0 | apply EC.b0 | apply EC.ret | apply EK.n0))
  exact EK.iZ [] rfl rfl (RL.cons Rf.sl0 RL.nil) (WI _) ⟨rfl, rfl⟩
 | hash w =>
  unfold dN sG
  refine FnM.walk 23 Tryz.func100 rfl Tryz.ntmps100 (by simp) fun X => ?_
  repeat
   (first
    | (apply ak; iterate 3 rfl) | (apply ah; iterate 3 rfl) | (apply aA; iterate 4 rfl) | (apply ji; iterate 6 rfl) | apply EL.nil
    | (apply EC.f0; rfl)
    | (with_reducible first | apply EK.nc | apply EC.seq | apply EC.r0 | apply EC.k0 | apply EC.b0 | apply EC.ret | apply EK.n0))
  exact EK.iZ [] rfl rfl (RL.cons Rf.sl0 RL.nil) (WI _) ⟨rfl, rfl⟩
 | leaf p v =>
  unfold dN sG
  refine FnM.walk 23 Tryz.func100 rfl Tryz.ntmps100 (by simp) fun X => ?_
  repeat
   (first
    | (apply ak; iterate 3 rfl) | (apply ah; iterate 3 rfl) | (apply aA; iterate 4 rfl) | (apply ji; iterate 6 rfl) | apply EL.nil
    | (apply EC.f0; rfl)
    | (with_reducible first | apply EK.nc | apply EC.seq | apply EC.r0 | apply EC.k0 | apply EC.b0 | apply EC.ret | apply EK.n0))
  exact EK.iZ [] rfl rfl (RL.cons Rf.sl0 RL.nil) (WI _) ⟨rfl, rfl⟩
 | ext p k =>
  unfold sG
  cases k with
  | nil =>
   unfold dN
   refine FnM.walk 23 Tryz.func100 rfl Tryz.ntmps100 (by simp) fun X => ?_
   repeat
    (first
     | (apply ak; iterate 3 rfl) | (apply ah; iterate 3 rfl) | (apply aP; iterate 7 rfl) | (apply aA; iterate 4 rfl)
     | (apply aG; iterate 5 rfl) | (apply mG; iterate 9 rfl) | (apply jL; iterate 3 rfl) | (apply iC; iterate 4 rfl) | apply EL.nil
     | (apply EC.t0; rfl)
     | (with_reducible first | apply EK.nc | apply EC.seq | apply EC.r0 | apply EC.b0 | apply EC.ret | apply EK.bK | apply EK.aB))
   exact EK.aW [] rfl rfl (WI _) ⟨rfl, rfl⟩
  | hash a =>
   unfold dN
   refine FnM.walk 23 Tryz.func100 rfl Tryz.ntmps100 (by simp) fun X => ?_
   repeat
    (first
     | (apply ak; iterate 3 rfl) | (apply ah; iterate 3 rfl) | (apply aP; iterate 7 rfl) | (apply aA; iterate 4 rfl)
     | (apply aG; iterate 5 rfl) | (apply mG; iterate 9 rfl) | (apply jL; iterate 3 rfl) | (apply iC; iterate 4 rfl) | apply EL.nil
     | (apply EC.t0; rfl)
     | (with_reducible first | apply EK.nc | apply EC.seq | apply EC.r0 | apply EC.b0 | apply EC.ret | apply EK.bK | apply EK.aB))
   exact EK.aW [] rfl rfl (WI _) ⟨rfl, rfl⟩
  | leaf a b =>
   unfold dN
   refine FnM.walk 23 Tryz.func100 rfl Tryz.ntmps100 (by simp) fun X => ?_
   repeat
    (first
     | (apply ak; iterate 3 rfl) | (apply ah; iterate 3 rfl) | (apply aP; iterate 7 rfl) | (apply aA; iterate 4 rfl)
     | (apply aG; iterate 5 rfl) | (apply mG; iterate 9 rfl) | (apply jL; iterate 3 rfl) | (apply iC; iterate 4 rfl) | apply EL.nil
     | (apply EC.t0; rfl)
     | (with_reducible first | apply EK.nc | apply EC.seq | apply EC.r0 | apply EC.b0 | apply EC.ret | apply EK.bK | apply EK.aB))
   exact EK.aW [] rfl rfl (WI _) ⟨rfl, rfl⟩
  | ext a b =>
   unfold dN
   refine FnM.walk 23 Tryz.func100 rfl Tryz.ntmps100 (by simp) fun X => ?_
   repeat
    (first
     | (apply ak; iterate 3 rfl) | (apply ah; iterate 3 rfl) | (apply aP; iterate 7 rfl) | (apply aA; iterate 4 rfl)
     | (apply aG; iterate 5 rfl) | (apply mG; iterate 9 rfl) | (apply jL; iterate 3 rfl) | (apply iC; iterate 4 rfl) | apply EL.nil
     | (apply EC.t0; rfl)
     | (with_reducible first | apply EK.nc | apply EC.seq | apply EC.r0 | apply EC.b0 | apply EC.ret | apply EK.bK | apply EK.aB))
   exact EK.aW [] rfl rfl (WI _) ⟨rfl, rfl⟩
  | br a b =>
   unfold dN
   refine FnM.walk 23 Tryz.func100 rfl Tryz.ntmps100 (by simp) fun X => ?_
   repeat
    (first
     | (apply ak; iterate 3 rfl) | (apply ah; iterate 3 rfl) | (apply aP; iterate 7 rfl) | (apply aA; iterate 4 rfl)
     | (apply aG; iterate 5 rfl) | (apply mG; iterate 9 rfl) | (apply jL; iterate 3 rfl) | (apply iC; iterate 4 rfl) | apply EL.nil
     | (apply EC.t0; rfl)
     | (with_reducible first | apply EK.nc | apply EC.seq | apply EC.r0 | apply EC.b0 | apply EC.ret | apply EK.bK | apply EK.aB))
   exact EK.aW [] rfl rfl (WI _) ⟨rfl, rfl⟩
 | br ks v =>
  have hK : (∀ e ∈ (List.range 16).map (fun i => dN (ks i)), ∃ s : Nd, e = dN s) ∧ ((List.range 16).map fun i => dN (ks i)).length = 16 := ⟨fun e he => by
   obtain ⟨i, _, rfl⟩ := Xg.1 he
   exact ⟨_, rfl⟩, by simp⟩
  have hsz := (xG hK.1).trans hK.2
  have hc := Qe ((List.range 16).map ks) (by simp)
  have hall : ∀ d ∈ ((List.range 16).map fun i => dN (ks i)), d.size = 1 := fun d hd => by
   obtain ⟨i, _, rfl⟩ := Xg.1 hd
   exact (jV _).1
  have hlen : ((List.range 16).map fun i => dN (ks i)).length = 16 := by simp
  rw [XU, show (dN ∘ ks) = (fun i => dN (ks i)) from rfl] at hc
  unfold dN sG
  refine FnM.walk 23 Tryz.func100 rfl Tryz.ntmps100 (by simp) fun X => ?_
  generalize hE : ((List.range 16).map fun i => dN (ks i)) = K at *
  repeat
   (first
    | (apply aP; (iterate 4 rfl); exact QZ _ hsz; iterate 2 rfl) | (apply Ti Q5 rfl; rfl; exact hlen; exact hall; iterate 2 rfl)
    | (apply dD (os := []) hc; (iterate 2 rfl); exact aj.refl _ _; (focus (intro _ _; simp [go_sem]; done)); (iterate 2 rfl); rintro _ _ ⟨u, rfl, rfl⟩; simp only [WL, WJ])
    | (apply ak; iterate 3 rfl) | (apply ah; iterate 3 rfl) | (apply aA; iterate 4 rfl) | (apply jL; iterate 3 rfl)
    | (apply iC; iterate 4 rfl) | (apply ji; iterate 6 rfl) | apply EL.nil | (apply EC.t0; rfl)
    | (apply EC.f0; rfl) | (with_reducible first | apply EK.nc | apply EC.seq | apply EC.r0 | apply EC.b0))
  refine dD (os := [nhO u ((List.range 16).map ks)]) (NG u ((List.range 16).map ks) (by simp)) rfl rfl (aj.refl _ _) (by intro _ _; simp [go_sem]) rfl rfl ?_
  rintro _ _ ⟨u', rfl, rfl⟩
  simp only [WL, WJ]
  refine EL.le (Le.freeze (pre := []) rfl) ?_
  repeat
   (first
    | (apply ah; iterate 3 rfl) | apply EL.nil | (with_reducible first | apply EK.nc | apply EC.ret | apply EK.bK | apply EK.aB))
  refine EK.iZ [] rfl rfl (RL.cons (Rf.fact WT rfl) RL.nil) (WI _) ⟨rfl, rfl⟩
end E
end Go.Proofs.YtelbhdobjdnglaaGreat
