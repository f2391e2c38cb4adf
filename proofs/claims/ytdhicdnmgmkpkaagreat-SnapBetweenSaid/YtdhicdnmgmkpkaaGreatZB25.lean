/-
  Merged (wip/tools/merge.py): EP, EQ, SP4.
  Conditions: none.
-/
import Derived.Test.YtdhicdnmgmkpkaaGreatZB24
import Derived.Lib.AppendZeros
import Derived.Test.YtdhicdnmgmkpkaaGreatZB16
import Derived.Test.YtdhicdnmgmkpkaaGreatZB14
import Derived.Test.YtdhicdnmgmkpkaaGreatZB21
/-
  The abstract machine: 'append(nil, make(..)...)', 'clear' of a row's end.
  Conditions: none.
-/
namespace Go.Proofs.YtdhicdnmgmkpkaaGreat
set_option linter.unusedVariables false
open Go.RowKit Mono Rlp
namespace E
theorem zeroCells_flat (cs : List Value) (h0 : 0 < cs.length) (m : Nat) : (Builtin.zeroCells cs.toArray m).toList = (List.replicate m cs).flatten := by
  have hl : ∀ m, (List.replicate m cs).flatten.length = m * cs.length := fun m => by
    induction m with
    | zero => simp
    | succ m ih => rw [List.replicate_succ, List.flatten_cons, List.length_append, ih, Nat.add_mul, Nat.one_mul, Nat.add_comm]
  have hg : ∀ m j, j < m * cs.length → (List.replicate m cs).flatten[j]? = cs[j % cs.length]? := fun m => by
    induction m with
    | zero => intro j h; omega
    | succ m ih =>
      intro j h
      rw [List.replicate_succ, List.flatten_cons]
      by_cases hj : j < cs.length
      · rw [List.getElem?_append_left hj, Nat.mod_eq_of_lt hj]
      · rw [List.getElem?_append_right (by omega), ih (j - cs.length) (by rw [Nat.add_mul, Nat.one_mul] at h; omega)]
        conv => rhs; rw [show j = j - cs.length + cs.length by omega, Nat.add_mod_right]
  refine List.ext_getElem? fun j => ?_
  by_cases hj : j < m * cs.length
  · rw [hg m j hj]
    have hm : j % cs.length < cs.length := Nat.mod_lt _ h0
    simp [Builtin.zeroCells, hj, hm]
  · rw [List.getElem?_eq_none (by simp [Builtin.zeroCells]; omega), List.getElem?_eq_none (by rw [hl]; omega)]
theorem rows_repl {ok : Nat → Prop} {w : World} {z : Nat} {d : D} {cs : List Value} (h : Reads ok w d cs) (hl : cs.length = z) : ∀ m : Nat, ReadsRows ok w z (List.replicate m d) (List.replicate m cs)
  | 0 => by rw [List.replicate_zero, ReadsRows]; rfl
  | m + 1 => by
    rw [List.replicate_succ, List.replicate_succ, ReadsRows]
    exact ⟨cs, _, rfl, hl, h, rows_repl h hl m⟩
section
variable {N : Nat} {X : Cx N} {S : St} {ops : Array Oper} {o : Oper} {Q : Exit → Act → World → Prop} {l : List Oper} {rs : List (Tmp × R)} {os os' : List Obj} {fs : List (Value × D)}
theorem EL.clearK {T e z b k : Nat} {x : Operand} {v : Value} {ds : List D} {dz : D} (i : Nat) (ho : o.op = .call { callee := .builtin .clear, args := #[x], argTypes := #[T] }) (hg : guardOf ops S o = some true) (hd : o.dst = none) (hx : ev S x = some (.val (.v (sufV k z v)))) (hi : S.objs[i]? = some (.row v e z ds)) (hT : assoc slL T = some (e, z, b)) (hz : assoc zeroL e = some dz) (hag : dz.agg = true) (hsz : dz.size = z) (hpos : Nat.blt 0 dz.size = true) (hk : k < ds.length) (kk : EL X ops Q l ⟨S.regs, S.objs.set i (.row v e z (ds.take k ++ List.replicate (ds.length - k) dz)), S.facts⟩) : EL X ops Q (o :: l) S := by
  constructor
  intro a w ha
  have hkn := ha.kn fun t => t ∈ o.looksAt ops
  have h1 := ev_v hkn hx (looks_op (by rw [ho]; simp [Op.operands, Call.operands]))
  have hmem := List.mem_of_getElem? hi
  have hat := ha.mem.at_ _ hmem
  obtain ⟨hu, _⟩ := slTI hT (by rw [← hsz]; exact hpos)
  obtain ⟨g, c, cur, rows, H⟩ := row_in hat (by omega)
  obtain ⟨zv, hz1, hz2⟩ := (zvI hz).get
  obtain ⟨cs, hcs, rfl⟩ := (readV_agg hag).1 (hz2 (X.ok S.objs w) w)
  have hcl : cs.length = z := by rw [← hsz]; exact Reads.len _ _ hcs
  have hz0 : 0 < cs.length := by rw [hcl, ← hsz]; simpa using hpos
  have hmk : ds.length - k ≠ 0 := by omega
  obtain ⟨m, hm⟩ : ∃ m, ds.length - k = m := ⟨_, rfl⟩
  rw [hm] at hmk kk
  obtain ⟨hl1, hl2⟩ := ReadsRows.lens ds rows H.rows
  obtain ⟨sp, hsplit⟩ : ∃ sp, cur.toList = rows.flatten ++ sp := ⟨cur.toList.drop (ds.length * z), by rw [← H.cells, List.take_append_drop]⟩
  have hrs : rows.flatten = (rows.take k).flatten ++ (rows.drop k).flatten := by rw [← List.flatten_append, List.take_append_drop]
  have hA : (rows.take k).flatten.length = k * z := by
    rw [flat_len _ fun r hr => hl2 r (List.mem_of_mem_take hr), List.length_take, hl1, Nat.min_eq_left (by omega)]
  have hM : (rows.drop k).flatten.length = m * z := by
    rw [flat_len _ fun r hr => hl2 r (List.mem_of_mem_drop hr), List.length_drop, hl1, hm]
  have hN : (List.replicate m cs).flatten.length = m * z := by
    rw [flat_len _ (show ∀ r ∈ List.replicate m cs, r.length = z from fun r hr => by rw [List.eq_of_mem_replicate hr]; exact hcl), List.length_replicate]
  generalize hAe : (rows.take k).flatten = A at hrs hA
  generalize hMe : (rows.drop k).flatten = r at hrs hM
  have hcur : cur = (A ++ r ++ sp).toArray := by rw [← hrs, ← hsplit]
  have hv : sufV k z v = .slice (some ⟨g, 0 + k * z, none⟩) m (c - k) := by
    rw [H.val]
    have hle := H.le
    unfold sufV
    dsimp only
    rw [if_neg (by omega), hm, Option.map_some, add_none]
  have hheap := H.heap
  rw [hcur] at hheap
  have hset := setCells_row (List.replicate m cs).flatten A r sp w (by rw [hN, hM]) hheap
  rw [hA] at hset
  have hgr := grownBy_setCells g (List.replicate m cs).flatten (k * z) w
  have hno : ∀ b, X.ok S.objs w b → b ≠ g := fun b' hb' e' => hb'.2.2 _ hmem (by rw [e']; show v.ownBlock = some g; rw [H.val]; rfl)
  have hcell : ∀ q : Addr, X.ok S.objs w q.block → (w.setCells g (k * z) (List.replicate m cs).flatten).cell? q = w.cell? q := fun q hq => World.cell?_of_block (hgr.block _ hq.2.1 fun e' => hno _ hq (by injection e'))
  have hnl : (ds.take k ++ List.replicate m dz).length = ds.length := by rw [List.length_append, List.length_take, List.length_replicate]; omega
  have hrows := ReadsRows.append _ _ _ _ (ReadsRows.take ds rows k H.rows) (rows_repl hcs hcl m)
  have hrows' := ReadsRows.mono (fun _ h => h) hcell z _ _ hrows
  have hat' : Obj.At X.mine (X.ok S.objs w) (w.setCells g (k * z) (List.replicate m cs).flatten) (.row v e z (ds.take k ++ List.replicate m dz)) := RowIn.at (g := g) (c := c) (cur := (A ++ (List.replicate m cs).flatten ++ sp).toArray) (rows := rows.take k ++ List.replicate m cs) ⟨by rw [hnl]; exact H.val, hset, by
    rw [hnl, List.flatten_append, hAe]
    have : ds.length * z = (A ++ (List.replicate m cs).flatten).length := by
      rw [List.length_append, hA, hN, ← Nat.add_mul, show k + m = ds.length by omega]
    rw [this]
    exact List.take_left' rfl, by
    have := congrArg List.length hsplit
    rw [Array.length_toList, H.size, hrs] at this
    simp only [List.size_toArray, List.length_append] at this ⊢
    rw [hN, ← hM]
    omega, by rw [hnl]; exact H.le, H.max, hrows', H.mine⟩
  have hst : (storeCells ⟨g, 0 + k * z, none⟩ (Builtin.zeroCells (Value.agg cs.toArray).cells m).toList).run Tryz.prog w = .ok () (w.setCells g (k * z) (List.replicate m cs).flatten) := by
    rw [show (Value.agg cs.toArray).cells = cs.toArray from rfl, zeroCells_flat cs hz0 m]
    have := run_storeCells_cells (P := Tryz.prog) g (k * z) (List.replicate m cs).flatten 0 w (fun j hj => ?_) (fun j hj => ?_) (fun u hu => by
      obtain ⟨r', hr', hu'⟩ := List.mem_flatten.1 hu
      rw [List.eq_of_mem_replicate hr'] at hu'
      exact Reads.one _ _ hcs u hu')
    · simpa using this
    · rw [cell_of_row w g _ _ _ _ hheap, Option.isSome_iff_exists]
      have hsz2 : k * z + 0 + j < (A ++ r ++ sp).toArray.size := by
        simp only [List.size_toArray, List.length_append]
        rw [hN] at hj
        omega
      exact ⟨_, Array.getElem?_eq_getElem hsz2⟩
    · simp [World.frozen?, hheap]
  have hrun : (Builtin.clear_ #[T] o.type #[sufV k z v]).run Tryz.prog w = .ok (.tuple #[]) (w.setCells g (k * z) (List.replicate m cs).flatten) := by
    rw [hv]
    obtain ⟨m', rfl⟩ : ∃ m', m = m' + 1 := ⟨m - 1, by omega⟩
    rw [Nat.zero_add] at hst ⊢
    simp [Builtin.clear_, run_underlying hu, hz1, hst]
  unfold wpList
  rw [if_pos (wanted_of ha hg)]
  refine .inl ?_
  unfold Oper.wp execOp
  simp only [ho, resolve, invoke, builtin, Sem.run_bind, Sem.run_pure, Result.andThen_ok, List.map_toArray, List.map_cons, List.map_nil, h1, hrun]
  simp only [Oper.upon_value, hd, Act.put]
  exact kk.go _ _ (ha.turn hi (by rw [show (Obj.row v e z ds).blk = some g by show v.ownBlock = some g; rw [H.val]; rfl]; exact hgr) (.inl rfl) fun hok hcell => hat'.move hok (fun _ _ => rfl) fun _ _ => rfl)
theorem P_clearK {T e z b k ty : Nat} {pos : String} {af : Array Edge} {gd : Option (Nat × Bool)} {x : Operand} {v : Value} {ds : List D} {dz : D} (hx : ev (⟨rs, os, fs⟩ : St) x = some (.val (.v (sufV k z v)))) (hset : SetAt os (.row v e z ds) (.row v e z (ds.take k ++ List.replicate (ds.length - k) dz)) os') (hk : k < ds.length) (hT : assoc slL T = some (e, z, b)) (hz : assoc zeroL e = some dz) (hag : dz.agg = true) (hsz : dz.size = z) (hpos : Nat.blt 0 dz.size = true) (hg : guardOf ops ⟨rs, os, fs⟩ ⟨none, .call { callee := .builtin .clear, args := #[x], argTypes := #[T] }, ty, pos, af, gd⟩ = some true) (kk : EL X ops Q l ⟨rs, os', fs⟩) : EL X ops Q (⟨none, .call { callee := .builtin .clear, args := #[x], argTypes := #[T] }, ty, pos, af, gd⟩ :: l) ⟨rs, os, fs⟩ := by
  obtain ⟨i, hi, rfl⟩ := hset.ix
  exact EL.clearK i rfl hg rfl hx hi hT hz hag hsz hpos hk kk
theorem m_zeros {T U e z b n : Nat} {k : Int} {s x : Operand} {dz : D} (ho : o.op = .call { callee := .builtin .append, args := #[s, x], argTypes := #[T, U] }) (hs : ev S s = some (.val (.v (.slice none 0 0)))) (hx : ev S x = some (.val (.v (.int .i64 k)))) (hT : assoc slL T = some (e, z, b)) (hU : Tryz.prog.underlying U = some (.int .i64)) (hz : assoc zeroL e = some dz) (hag : dz.agg = true) (hsz : dz.size = z) (hpos : Nat.blt 0 dz.size = true) (hk : k = (n : Int)) (hn : 0 < n ∧ n * b ≤ 281474976710656 ∧ n ≤ 4611686018427387904) :
    Muts ops S o [] (fun r os' => ∃ v, r = .val (.v v) ∧ os' = [.row v e z (List.replicate n dz)]) := .mk fun base ok a w ha hown => by
  subst hk
  have h1 := ev_v ha hs fun t e => looks_of e (by rw [ho]; simp [Op.operands, Call.operands])
  have h2 := ev_v ha hx fun t e => looks_of e (by rw [ho]; simp [Op.operands, Call.operands])
  have hS := slTI hT (by rw [← hsz]; exact hpos)
  obtain ⟨i, zv, hi, hzv, hsz', hby, hcs⟩ := hS.info
  obtain ⟨zv', hz1, hz2⟩ := (zvI hz).get
  obtain rfl : zv' = zv := by
    have := hz1 w
    simp [zeroValue, typeInfo, hi, hzv] at this
    exact this.symm
  obtain ⟨cs, hcs', rfl⟩ := (readV_agg hag).1 (hz2 ok w)
  have hcl : cs.length = z := by rw [← hsz]; exact Reads.len _ _ hcs'
  have hz0 : 0 < cs.length := by rw [hcl, ← hsz]; simpa using hpos
  have hrun := Lib.run_append_nil_zeros (P := Tryz.prog) w T U o.type e i (.agg cs.toArray) .i64 .i64 hS.und hU hi hzv n hn.1 (by rw [hsz']; omega) (by omega) (by rw [hby]; exact hn.2.1)
  have hge := grownCap_ge w n 0 e
  have hle := grownCap_le_maxLen w n 0 e (by unfold maxLen; omega)
  generalize grownCap w n 0 e = cap at hrun hge hle
  have hc1 : (Builtin.zeroCells (Value.agg cs.toArray).cells n ++ Builtin.zeroCells (Value.agg cs.toArray).cells (cap - n)).toList = (List.replicate n cs).flatten ++ (List.replicate (cap - n) cs).flatten := by
    rw [Array.toList_append, show (Value.agg cs.toArray).cells = cs.toArray from rfl, zeroCells_flat cs hz0, zeroCells_flat cs hz0]
  have hflen : ∀ m, (List.replicate m cs).flatten.length = m * z := fun m => by
    rw [flat_len _ (show ∀ r ∈ List.replicate m cs, r.length = z from fun r hr => by rw [List.eq_of_mem_replicate hr]; exact hcl), List.length_replicate]
  generalize Builtin.zeroCells (Value.agg cs.toArray).cells n ++ Builtin.zeroCells (Value.agg cs.toArray).cells (cap - n) = C at hrun hc1
  have hCs : C.size = cap * z := by
    rw [← Array.length_toList, hc1, List.length_append, hflen, hflen, ← Nat.add_mul, show n + (cap - n) = cap by omega]
  unfold execOp
  simp only [ho, resolve, invoke, builtin, Sem.run_bind, Sem.run_pure, Result.andThen_ok, List.map_toArray, List.map_cons, List.map_nil, h1, h2, hrun, setsTo]
  have hheap : (w.drew.alloc (.cells C e)).heap[w.heap.size]? = some (.cells C e (0, 0)) := (MapKept.heap_alloc w.drew _).1
  have hB : Below w.heap.size w (w.drew.alloc (.cells C e)) := ⟨rfl, rfl, rfl, Nat.le_of_lt (lt_of_some hheap), fun k hk => (MapKept.heap_alloc w.drew (.cells C e)).2 k hk⟩
  refine ⟨.val (.v (.slice (some ⟨w.heap.size, 0, none⟩) n cap)), [.row (.slice (some ⟨w.heap.size, 0, none⟩) n cap) e z (List.replicate n dz)], ⟨_, rfl, rfl⟩, ⟨.of hB, by simp, fun o' ho' => ?_⟩, readV_v.2 ⟨rfl, rfl⟩⟩
  obtain rfl : o' = _ := by simpa using ho'
  obtain ⟨cs2, hr2, he2⟩ := (readV_agg hag).1 (hz2 (okM ok [] w [.row (.slice (some ⟨w.heap.size, 0, none⟩) n cap) e z (List.replicate n dz)] (w.drew.alloc (.cells C e))) (w.drew.alloc (.cells C e)))
  obtain rfl : cs2 = cs := by simpa using he2.symm
  refine RowIn.at (g := w.heap.size) (c := cap) (cur := C) (rows := List.replicate n cs2) ⟨by rw [List.length_replicate], hheap, ?_, hCs, by rw [List.length_replicate]; exact hge, hle, rows_repl hr2 hcl n, .inr (Nat.le_refl _)⟩
  rw [List.length_replicate, hc1]
  exact List.take_left' (hflen n)
end
end E
end Go.Proofs.YtdhicdnmgmkpkaaGreat
/-
  bytes.Compare of arrays in variables of the call's own; bytes.Equal; trie.Compare; halving.
  Conditions: none.
-/
namespace Go.Proofs.YtdhicdnmgmkpkaaGreat
set_option linter.unusedVariables false
open Go.RowKit Mono Rlp Go.Sort
namespace E
section
variable {N : Nat} {X : Cx N} {S : St} {ops : Array Oper} {o : Oper} {Q : Exit → Act → World → Prop} {l' : List Oper} {rs : List (Tmp × R)} {os : List Obj} {fs : List (Value × D)}
theorem isB_var {base ok : Nat → Prop} {L : Tmp → Prop} {a : Act} {w : World} (ha : Kn base ok L S a w) {x : Operand} {g n m i : Nat} {t : TypeId} {d : D} {l : List UInt8} (hL : ∀ u, x = .tmp u → L u) (hx : ev S x = some (.val (.v (.slice (some ⟨g, n, none⟩) m m)))) (hi : S.objs[i]? = some (.var g t d)) (hs : d.sub n m true = some (.arr m l)) (hm : Nat.ble m 4096 = true) : IsB w (a.eval x) l := by
  have hx' := ev_v ha hx hL
  obtain ⟨_, cs, hh, hr⟩ := ha.objs _ (List.mem_of_getElem? hi)
  obtain ⟨e1, e2, pre, mid, post, rfl, e3, e4⟩ := sub_spec d n m true _ cs hs hr
  have hr := range_part (range_of_row hh)
  rw [Nat.zero_add, e3] at hr
  rw [hx']
  exact isB_range hm (Array.getElem?_eq_some_iff.1 hh).1 hr e4
theorem g_cmpvar {x y : Operand} {tys : Array TypeId} {g1 n1 m1 i1 g2 n2 m2 i2 : Nat} {t1 t2 : TypeId} {d1 d2 : D} {l1 l2 : List UInt8} (ho : o.op = .call { callee := .value (.func 77), args := #[x, y], argTypes := tys })
    (hx : ev S x = some (.val (.v (.slice (some ⟨g1, n1, none⟩) m1 m1)))) (hi1 : S.objs[i1]? = some (.var g1 t1 d1)) (hs1 : d1.sub n1 m1 true = some (.arr m1 l1)) (hm1 : Nat.ble m1 4096 = true)
    (hy : ev S y = some (.val (.v (.slice (some ⟨g2, n2, none⟩) m2 m2)))) (hi2 : S.objs[i2]? = some (.var g2 t2 d2)) (hs2 : d2.sub n2 m2 true = some (.arr m2 l2)) (hm2 : Nat.ble m2 4096 = true) : Grows ops S o (· = .val (.v (.int .i64 (cmpB l1 l2)))) := fun base ok a w ha => by
  have h1 := isB_var ha (looks_op (by rw [ho]; simp [Op.operands, Call.operands])) hx hi1 hs1 hm1
  have h2 := isB_var ha (looks_op (by rw [ho]; simp [Op.operands, Call.operands])) hy hi2 hs2 hm2
  have hrun : (execOp a.eval o).run Tryz.prog w = .ok (.enter 77 #[a.eval x, a.eval y]) w := by
    unfold execOp
    simp [ho, resolve, Act.eval, Deferred.ofValue, invoke]
  rw [hrun]
  refine ⟨Gr.refl w, (bytes_CompareW _ _ l1 l2 w h1 h2).mono ?_⟩
  rintro e w' ⟨rfl, rfl⟩
  exact ⟨_, rfl, Gr.refl _, _, rfl, readV_v.2 ⟨rfl, rfl⟩⟩
theorem P_slnil {t ty : Nat} {pos : String} {af : Array Edge} {gd : Option (Nat × Bool)} {x y : Operand} {T U e z b : Nat} {ds : List D} (hx : ev (⟨rs, os, fs⟩ : St) x = some (.val (.sl z ds))) (hy : ev (⟨rs, os, fs⟩ : St) y = some (.val (.v (.slice none 0 0)))) (hT : assoc slL T = some (e, z, b)) (hz : Nat.blt 0 z = true) (hg : guardOf ops ⟨rs, os, fs⟩ ⟨some t, .binOp .eql T x y U, ty, pos, af, gd⟩ = some true) (hN : Nat.blt t N = true) (kk : ∀ v, (v = true → ds = []) → EL X ops Q l' ⟨(t, .val (.v (.bool v))) :: rs, os, fs⟩) : EL X ops Q (⟨some t, .binOp .eql T x y U, ty, pos, af, gd⟩ :: l') ⟨rs, os, fs⟩ := by
  refine EL.growE (Φ := fun r => ∃ v, (v = true → ds = []) ∧ r = .val (.v (.bool v))) hg (dst_lt rfl hN) (fun base ok a w ha => ?_) fun r ⟨v, h1, h2⟩ => by
    subst h2
    exact kk v h1
  obtain ⟨A, c, rows, h1, h2, h3, h4, _⟩ := sl_ex (ha.ev hx (looks_op (by simp [Op.operands])))
  have h5 := ev_v ha hy (looks_op (by simp [Op.operands]))
  have hu := (slTI hT hz).und
  have hrun : (execOp a.eval ⟨some t, .binOp .eql T x y U, ty, pos, af, gd⟩).run Tryz.prog w = .ok (.value (.bool A.isNone)) w := by
    unfold execOp
    have hq : (eqGuard .eql T x y (.slice A ds.length c) (.slice none 0 0)).run Tryz.prog w = .ok () w := by simp [eqGuard]
    simp only [h1, h5, Sem.run_bind, hq, Result.andThen_ok, Lib.run_eql_slice_nil w T e A ds.length c 0 0 hu, Sem.run_pure]
  rw [hrun]
  refine ⟨Gr.refl w, _, ⟨_, fun hv => ?_, rfl⟩, readV_v.2 ⟨rfl, rfl⟩⟩
  cases A with
  | none => exact List.eq_nil_of_length_eq_zero (h4 rfl).1
  | some _ => cases hv
theorem m_lit0 {T e z b : Nat} (ho : o.op = .buildSlice T 0 #[]) (hT : assoc slL T = some (e, z, b)) (hz : Nat.blt 0 z = true) : Muts ops S o [] (fun r os' => ∃ v, r = .val (.v v) ∧ os' = [.row v e z []]) := .mk fun base ok a w ha hown => by
  have hS := slTI hT hz
  obtain ⟨i, zv, hi, hzv, hsz, hby, hcs⟩ := hS.info
  have hr : (execOp a.eval o).run Tryz.prog w = .ok (.value (.slice (some ⟨w.heap.size, 0, none⟩) 0 0)) (w.alloc (.cells #[] e)) := by
    unfold execOp
    simp [ho, Instr.buildSlice, run_underlying hS.und, sizeOf, typeInfo, hi, Instr.fill, newRow]
    have e0 : Array.map (fun _ : Nat => (default : Value)) (Array.range 0) = #[] := by apply Array.ext'; simp
    rw [e0]
  rw [hr]
  obtain ⟨g1, g2⟩ := m_new (ok := ok) (w := w) (q := .row (.slice (some ⟨w.heap.size, 0, none⟩) 0 0) e z []) (r := .val (.v (.slice (some ⟨w.heap.size, 0, none⟩) 0 0))) (ob := .cells #[] e) (v := .slice (some ⟨w.heap.size, 0, none⟩) 0 0) rfl (fun ok' hk => ⟨[], ⟨by
    have := own_lit w #[] e z 0 w.heap.size 0 rfl (Nat.zero_le _) (by simp [maxLen]) (by simp)
    exact this, fun b hb => by cases hb; exact .inr (Nat.le_refl _)⟩, by rw [ReadsRows]⟩) (fun _ => v_mk rfl) ha.lt
  exact ⟨_, _, ⟨_, rfl, rfl⟩, g1, g2⟩
end
theorem f_Equal (l m : List UInt8) : Fn 137 [.bs l, .bs m] (· = .val (.v (.bool (l == m)))) := by
  have hb := (bin_string l m).1
  refine Fn.walk 10 Tryz.func137 rfl Tryz.ntmps137 (by simp) fun X => ?_
  repeat
    (first
     | (apply P_bin; (iterate 2 exact rfl); exact hb; (iterate 2 exact rfl)) | (apply P_move; (iterate 3 exact rfl)) | (apply P_assign; (iterate 3 exact rfl)) | (apply P_str; (iterate 3 exact rfl))
     | apply EL.nil | ((with_reducible apply EK.then_normal); apply EK.code)
     | (with_reducible first | apply EC.seq | apply EC.region | apply EC.skip | apply EC.label | apply EC.block | apply EC.exit | apply EC.ret | apply EK.in_normal | apply EK.in_same | apply EK.in_ret | apply EK.then_ret | apply EK.then_exit))
  exact EK.ret1 rfl rfl rfl
theorem bin_half (n : Nat) (hn : n ≤ 9223372036854775807) : Bin .shr 166 (.v (.int .u64 (n : Int))) (.v (.int .u64 1)) (.int .u64 ((n / 2 : Nat) : Int)) := by
  refine bin_of rfl fun w => ?_
  have h1 : ¬ ((1 : Int) < 0) := by decide
  have h2 : min ((1 : Int)).toNat IntKind.u64.bits = 1 := by decide
  have h3 : (n : Int).fdiv (2 ^ 1) = ((n / 2 : Nat) : Int) := by
    rw [Int.fdiv_eq_ediv_of_nonneg _ (by decide)]
    simp
  show (Op.shift .shr .u64 (n : Int) .u64 1).run Tryz.prog w = _
  unfold Op.shift
  rw [if_neg h1]
  simp only [h2, h3, Sem.run_pure]
end E
end Go.Proofs.YtdhicdnmgmkpkaaGreat
/-
  The program's acct: Copy, Find, Empty; snap's same.
  Conditions: none.
-/
namespace Go.Proofs.YtdhicdnmgmkpkaaGreat
set_option linter.unusedVariables false
open Go.RowKit Mono Rlp Wd Go.Sort
namespace E
set_option maxRecDepth 20000 in
set_option maxHeartbeats 4000000 in
theorem f_cloneSl (l : List (List UInt8 × List UInt8)) (hl : l.length ≤ 1000000) : FnM 165 [.sl 64 (l.map dSlL)] [] (fun r os' => r = .val (.sl 64 (l.map dSlL)) ∧ os' = []) := by
  have hml : (l.map dSlL).length = l.length := List.length_map _
  refine FnM.walk 8 Tryz.func165 rfl Tryz.ntmps165 (by simp) fun X => ?_
  repeat
    (first
     | (apply P_slnil; (iterate 6 exact rfl); intro v hv) | (apply P_move; (iterate 3 exact rfl)) | (apply P_assign; (iterate 3 exact rfl)) | apply EL.nil
     | ((with_reducible apply EK.then_normal); apply EK.code)
     | (with_reducible first | apply EC.seq | apply EC.region | apply EC.skip | apply EC.label | apply EC.block | apply EC.exit | apply EC.ret | apply EK.in_normal | apply EK.in_same | apply EK.in_ret | apply EK.then_ret | apply EK.then_exit))
  cases v with
  | true =>
    have h0 := hv rfl
    rw [h0]
    repeat
      (first
       | (apply P_assign; (iterate 3 exact rfl)) | apply EL.nil | ((with_reducible apply EK.then_normal); apply EK.code) | (apply EC.cond_true; exact rfl)
       | (with_reducible first | apply EC.seq | apply EC.region | apply EC.skip | apply EC.label | apply EC.block | apply EC.exit | apply EC.ret | apply EK.in_normal | apply EK.in_same | apply EK.in_ret | apply EK.then_ret | apply EK.then_exit))
    exact EK.retM1k [] rfl rfl (RL.cons Rf.sl0 RL.nil) (List.nil_sublist _) ⟨rfl, rfl⟩
  | false =>
    repeat
      (first
       | (refine EL.mut (os := []) (rest := []) rfl (dst_lt rfl rfl) (m_lit0 rfl rfl rfl) ?_; rintro _ _ ⟨v, rfl, rfl⟩; simp only [St.put, List.cons_append, List.nil_append])
       | (apply P_move; (iterate 3 exact rfl)) | (apply P_assign; (iterate 3 exact rfl))
       | ((apply P_append; exact rfl; (focus (repeat first | exact .z | apply SetAt.s | apply SetAtF.s)); (iterate 5 exact rfl); (focus (constructor <;> (first | (simp; done) | (simp; omega))))); intro _)
       | apply EL.nil | ((with_reducible apply EK.then_normal); apply EK.code) | (apply EC.cond_false; exact rfl)
       | (with_reducible first | apply EC.seq | apply EC.region | apply EC.skip | apply EC.label | apply EC.block | apply EC.exit | apply EC.ret | apply EK.in_normal | apply EK.in_same | apply EK.in_ret | apply EK.then_ret | apply EK.then_exit))
    refine EK.le (Le.freeze (pre := []) rfl) ?_
    exact EK.retM1k [] rfl rfl (RL.cons (Rf.fact List.mem_cons_self rfl) RL.nil) (List.nil_sublist _) ⟨rfl, rfl⟩
set_option maxRecDepth 20000 in
set_option maxHeartbeats 4000000 in
theorem f_acopy (x : AcL) (hx : x.sl.length ≤ 1000000) (hc : x.cd.length ≤ 140737488355328) : FnM 128 [dAcL x] [] (fun r os' => r = .val (dAcL x) ∧ os' = []) := by
  have h1 := f_Clone x.cd hc
  have h2 := f_cloneSl x.sl hx
  obtain ⟨xa, n, w, cd, ss⟩ := x
  unfold dAcL
  dsimp only at h1 h2 ⊢
  refine FnM.walk 12 Tryz.func128 rfl Tryz.ntmps128 (by simp) fun X => ?_
  repeat
    (first
     | (apply P_alloc; exact rfl; exact rfl; exact rfl; intro _) | (apply P_box; exact rfl; exact rfl; exact rfl; intro _) | apply EL.nil | ((with_reducible apply EK.then_normal); apply EK.code)
     | (with_reducible first | apply EC.seq | apply EC.region | apply EC.skip | apply EC.label | apply EC.block | apply EC.exit | apply EC.ret | apply EK.in_normal | apply EK.in_same | apply EK.in_ret | apply EK.then_ret | apply EK.then_exit))
  rename_i g1 g2
  refine EC.drawC 7 [0, 1, 3, 4, 6] [2, 5] [] _ (by kernel_rfl) (by kernel_rfl) rfl ?_
  simp only [pickL, List.filterMap_cons, List.filterMap_nil, List.getElem?_cons_zero, List.getElem?_cons_succ]
  repeat
    (first
     | (apply H_field; (iterate 6 exact rfl)) | (apply H_load; exact rfl; (first | exact I0 | exact I1 | exact I2 | exact I3 | exact I4 | exact I5 | exact I6); (iterate 4 exact rfl)))
  refine EM.nil ?_
  repeat (first | rw [List.cons_append] | rw [List.nil_append])
  refine CH.cut 1 ?_
  simp only [List.take_succ_cons, List.take_zero, List.drop_succ_cons, List.drop_zero]
  repeat
    (first
     | (apply H_call (h1); exact rfl; (focus (repeat first | exact RefineL.refl _ _ | exact RL.nil | exact Rf.same | exact Rf.bs0 | exact Rf.sl0 | (apply Rf.fact; (focus (simp; done)); exact rfl) | apply Rf.tup | apply RL.cons)); (focus (intro _ _; simp [go_sem]; done)); (iterate 2 exact rfl)))
  refine EM.nil ?_
  repeat (first | rw [List.cons_append] | rw [List.nil_append])
  refine CH.callM (os := []) (rest := []) h2 rfl rfl (RefineL.refl _ _) (by intro _ _; simp [go_sem]) rfl rfl ?_
  rintro _ _ ⟨rfl, rfl⟩
  try simp only [St.put]
  repeat (first | rw [List.cons_append] | rw [List.nil_append])
  refine CH.nil ?_
  try simp only [List.drop_succ_cons, List.drop_zero]
  repeat
    (first
     | (apply P_field; (iterate 6 exact rfl)) | (apply P_load; exact rfl; (first | exact I0 | exact I1 | exact I2 | exact I3 | exact I4 | exact I5 | exact I6); (iterate 4 exact rfl))
     | (apply P_store; exact rfl; (focus (repeat first | exact .z | apply SetAt.s | apply SetAtF.s)); (iterate 4 exact rfl)) | apply EL.nil | ((with_reducible apply EK.then_normal); apply EK.code)
     | (with_reducible first | apply EC.seq | apply EC.region | apply EC.skip | apply EC.label | apply EC.block | apply EC.exit | apply EC.ret | apply EK.in_normal | apply EK.in_same | apply EK.in_ret | apply EK.then_ret | apply EK.then_exit))
  refine EK.retMc1s 0 [] rfl rfl rfl rfl ?_ (List.nil_sublist _) ⟨rfl, rfl⟩
  (repeat first | exact RefineL.refl _ _ | exact RL.nil | exact Rf.same | exact Rf.bs0 | exact Rf.sl0 | (apply Rf.fact; (focus (simp; done)); exact rfl) | apply Rf.tup | apply RL.cons)
theorem f_findcmp (x : AcL) (m : List UInt8) : Fn 130 ([dAcL x, .arr 20 m] ++ []) (· = .val (.v (.int .i64 (cmpB x.a m)))) := by
  obtain ⟨xa, n, w, cd, ss⟩ := x
  unfold dAcL
  dsimp only [List.append_nil]
  refine Fn.walk 9 Tryz.func130 rfl Tryz.ntmps130 (by simp) fun X => ?_
  repeat
    (first
     | (apply P_assign; (iterate 3 exact rfl)) | (apply P_box; exact rfl; exact rfl; exact rfl; intro _) | apply EL.nil | ((with_reducible apply EK.then_normal); apply EK.code)
     | (with_reducible first | apply EC.seq | apply EC.region | apply EC.skip | apply EC.label | apply EC.block | apply EC.exit | apply EC.ret | apply EK.in_normal | apply EK.in_same | apply EK.in_ret | apply EK.then_ret | apply EK.then_exit))
  refine EC.draw 4 (by kernel_rfl) ?_
  simp only [List.take_succ_cons, List.take_zero, List.drop_succ_cons, List.drop_zero]
  repeat
    (first
     | (apply H_slarr sl_addr; (iterate 3 exact rfl)) | (apply EH.grow (g_cmpvar (i1 := 1) (i2 := 0) (m1 := 20) (m2 := 20) rfl rfl rfl rfl rfl rfl rfl rfl rfl); exact rfl; exact rfl; exact rfl)
     | (apply H_field; (iterate 6 exact rfl)) | ((with_reducible apply EH.nil); exact rfl))
  repeat
    (first
     | (apply P_assign; (iterate 3 exact rfl)) | apply EL.nil | ((with_reducible apply EK.then_normal); apply EK.code)
     | (with_reducible first | apply EC.seq | apply EC.region | apply EC.skip | apply EC.label | apply EC.block | apply EC.exit | apply EC.ret | apply EK.in_normal | apply EK.in_same | apply EK.in_ret | apply EK.then_ret | apply EK.then_exit))
  exact EK.ret1 rfl rfl rfl
set_option maxRecDepth 20000 in
set_option maxHeartbeats 8000000 in
theorem f_aEmpty (x : AcL) : Fn 99 [dAcL x] (· = .val (.v (.bool x.empty))) := by
  obtain ⟨xa, n, w, cd, ss⟩ := x
  have hz := (bin_word w zero32).1
  unfold AcL.empty dAcL
  dsimp only
  refine Fn.walk 24 Tryz.func99 rfl Tryz.ntmps99 (by simp) fun X => ?_
  by_cases h1 : n = 0
  · by_cases h2 : (w == zero32) = true
    · rw [h2] at hz
      by_cases h3 : cd = []
      · by_cases h4 : ss = []
        · subst h3
          subst h4
          rw [h2]
          subst h1
          repeat
            (first
             | (apply P_bin; (iterate 2 exact rfl); exact hz; (iterate 2 exact rfl)) | (apply P_move; (iterate 3 exact rfl)) | (apply P_assign; (iterate 3 exact rfl)) | (apply P_field; (iterate 6 exact rfl))
             | (apply P_pick; (iterate 4 exact rfl)) | (apply P_load; exact rfl; (first | exact I0 | exact I1 | exact I2 | exact I3 | exact I4 | exact I5 | exact I6); (iterate 4 exact rfl))
             | (apply P_cmp (b := true); (iterate 2 exact rfl); (focus (first | (simp [cmpI]; done) | (simp [cmpI]; omega))); (iterate 2 exact rfl)) | (apply P_lenbs; (iterate 4 exact rfl))
             | (apply P_lensl; (iterate 4 exact rfl)) | (apply P_build0; (iterate 5 exact rfl)) | (apply P_box; exact rfl; exact rfl; exact rfl; intro _) | apply EL.nil
             | ((with_reducible apply EK.then_normal); apply EK.code)
             | (with_reducible first | apply EC.seq | apply EC.region | apply EC.skip | apply EC.label | apply EC.block | apply EC.exit | apply EC.ret | apply EK.in_normal | apply EK.in_same | apply EK.in_ret | apply EK.then_ret | apply EK.then_exit))
          exact EK.ret1 rfl rfl rfl
        · subst h3
          have h5 : ss.isEmpty = false := by cases ss with | nil => exact absurd rfl h4 | cons _ _ => rfl
          have h6 : (ss.map dSlL).length ≠ 0 := by cases ss with | nil => exact absurd rfl h4 | cons _ _ => simp
          rw [h2, h5]
          subst h1
          repeat
            (first
             | (apply P_bin; (iterate 2 exact rfl); exact hz; (iterate 2 exact rfl)) | (apply P_move; (iterate 3 exact rfl)) | (apply P_assign; (iterate 3 exact rfl)) | (apply P_field; (iterate 6 exact rfl))
             | (apply P_pick; (iterate 4 exact rfl)) | (apply P_load; exact rfl; (first | exact I0 | exact I1 | exact I2 | exact I3 | exact I4 | exact I5 | exact I6); (iterate 4 exact rfl))
             | (apply P_cmp (b := true); (iterate 2 exact rfl); (focus (first | (simp [cmpI]; done) | (simp [cmpI]; omega))); (iterate 2 exact rfl))
             | (apply P_cmp (b := false); (iterate 2 exact rfl); (focus (first | (simp [cmpI]; done) | (simp [cmpI]; omega))); (iterate 2 exact rfl)) | (apply P_lenbs; (iterate 4 exact rfl))
             | (apply P_lensl; (iterate 4 exact rfl)) | (apply P_build0; (iterate 5 exact rfl)) | (apply P_box; exact rfl; exact rfl; exact rfl; intro _) | apply EL.nil
             | ((with_reducible apply EK.then_normal); apply EK.code)
             | (with_reducible first | apply EC.seq | apply EC.region | apply EC.skip | apply EC.label | apply EC.block | apply EC.exit | apply EC.ret | apply EK.in_normal | apply EK.in_same | apply EK.in_ret | apply EK.then_ret | apply EK.then_exit))
          exact EK.ret1 rfl rfl rfl
      · have h5 : cd.isEmpty = false := by cases cd with | nil => exact absurd rfl h3 | cons _ _ => rfl
        rw [h2, h5]
        subst h1
        repeat
          (first
           | (apply P_skip; (iterate 2 exact rfl)) | (apply P_bin; (iterate 2 exact rfl); exact hz; (iterate 2 exact rfl)) | (apply P_move; (iterate 3 exact rfl)) | (apply P_assign; (iterate 3 exact rfl))
           | (apply P_field; (iterate 6 exact rfl)) | (apply P_pick; (iterate 4 exact rfl))
           | (apply P_load; exact rfl; (first | exact I0 | exact I1 | exact I2 | exact I3 | exact I4 | exact I5 | exact I6); (iterate 4 exact rfl))
           | (apply P_cmp (b := true); (iterate 2 exact rfl); (focus (first | (simp [cmpI]; done) | (simp [cmpI]; omega))); (iterate 2 exact rfl))
           | (apply P_cmp (b := false); (iterate 2 exact rfl); (focus (first | (simp [cmpI]; done) | (simp [cmpI]; omega))); (iterate 2 exact rfl)) | (apply P_lenbs; (iterate 4 exact rfl))
           | (apply P_build0; (iterate 5 exact rfl)) | (apply P_box; exact rfl; exact rfl; exact rfl; intro _) | apply EL.nil | ((with_reducible apply EK.then_normal); apply EK.code)
           | (with_reducible first | apply EC.seq | apply EC.region | apply EC.skip | apply EC.label | apply EC.block | apply EC.exit | apply EC.ret | apply EK.in_normal | apply EK.in_same | apply EK.in_ret | apply EK.then_ret | apply EK.then_exit))
        exact EK.ret1 rfl rfl rfl
    · have h2 : (w == zero32) = false := by simpa using h2
      rw [h2] at hz ⊢
      subst h1
      repeat
        (first
         | (apply P_skip; (iterate 2 exact rfl)) | (apply P_bin; (iterate 2 exact rfl); exact hz; (iterate 2 exact rfl)) | (apply P_move; (iterate 3 exact rfl)) | (apply P_assign; (iterate 3 exact rfl))
         | (apply P_field; (iterate 6 exact rfl)) | (apply P_pick; (iterate 4 exact rfl))
         | (apply P_load; exact rfl; (first | exact I0 | exact I1 | exact I2 | exact I3 | exact I4 | exact I5 | exact I6); (iterate 4 exact rfl))
         | (apply P_cmp (b := true); (iterate 2 exact rfl); (focus (first | (simp [cmpI]; done) | (simp [cmpI]; omega))); (iterate 2 exact rfl)) | (apply P_build0; (iterate 5 exact rfl))
         | (apply P_box; exact rfl; exact rfl; exact rfl; intro _) | apply EL.nil | ((with_reducible apply EK.then_normal); apply EK.code)
         | (with_reducible first | apply EC.seq | apply EC.region | apply EC.skip | apply EC.label | apply EC.block | apply EC.exit | apply EC.ret | apply EK.in_normal | apply EK.in_same | apply EK.in_ret | apply EK.then_ret | apply EK.then_exit))
      exact EK.ret1 rfl rfl rfl
  · have h5 : decide (n = 0) = false := by simp [h1]
    rw [h5]
    repeat
      (first
       | (apply P_skip; (iterate 2 exact rfl)) | (apply P_move; (iterate 3 exact rfl)) | (apply P_assign; (iterate 3 exact rfl)) | (apply P_field; (iterate 6 exact rfl)) | (apply P_pick; (iterate 4 exact rfl))
       | (apply P_load; exact rfl; (first | exact I0 | exact I1 | exact I2 | exact I3 | exact I4 | exact I5 | exact I6); (iterate 4 exact rfl))
       | (apply P_cmp (b := false); (iterate 2 exact rfl); (focus (first | (simp [cmpI]; done) | (simp [cmpI]; omega))); (iterate 2 exact rfl)) | (apply P_box; exact rfl; exact rfl; exact rfl; intro _)
       | apply EL.nil | ((with_reducible apply EK.then_normal); apply EK.code)
       | (with_reducible first | apply EC.seq | apply EC.region | apply EC.skip | apply EC.label | apply EC.block | apply EC.exit | apply EC.ret | apply EK.in_normal | apply EK.in_same | apply EK.in_ret | apply EK.then_ret | apply EK.then_exit))
    exact EK.ret1 rfl rfl rfl
def AcL.same (x y : AcL) : Bool := decide (x.n = y.n) && (x.w == y.w) && (x.cd == y.cd)
set_option maxRecDepth 20000 in
set_option maxHeartbeats 8000000 in
theorem f_same (x y : AcL) : Fn 100 [dAcL x, dAcL y] (· = .val (.v (.bool (x.same y)))) := by
  obtain ⟨xa, n, w, cd, ss⟩ := x
  obtain ⟨ya, n', w', cd', ss'⟩ := y
  have hz := (bin_word w w').1
  have he := f_Equal cd cd'
  unfold AcL.same dAcL
  dsimp only
  refine Fn.walk 24 Tryz.func100 rfl Tryz.ntmps100 (by simp) fun X => ?_
  by_cases h1 : n = n'
  · have h6 : decide (n = n') = true := by simp [h1]
    rw [h6]
    subst h1
    cases h2 : (w == w') with
    | true =>
      rw [h2] at hz
      repeat
        (first
         | (apply P_bin; (iterate 2 exact rfl); exact hz; (iterate 2 exact rfl))
         | (apply P_call (he); exact rfl; (focus (repeat first | exact RefineL.refl _ _ | exact RL.nil | exact Rf.same | exact Rf.bs0 | exact Rf.sl0 | (apply Rf.fact; (focus (simp; done)); exact rfl) | apply Rf.tup | apply RL.cons)); (focus (intro _ _; simp [go_sem]; done)); (iterate 2 exact rfl))
         | (apply P_move; (iterate 3 exact rfl)) | (apply P_assign; (iterate 3 exact rfl)) | (apply P_field; (iterate 6 exact rfl)) | (apply P_pick; (iterate 4 exact rfl))
         | (apply P_load; exact rfl; (first | exact I0 | exact I1 | exact I2 | exact I3 | exact I4 | exact I5 | exact I6); (iterate 4 exact rfl))
         | (apply P_cmp (b := true); (iterate 2 exact rfl); (focus (first | (simp [cmpI]; done) | (simp [cmpI]; omega))); (iterate 2 exact rfl)) | (apply P_box; exact rfl; exact rfl; exact rfl; intro _)
         | apply EL.nil | ((with_reducible apply EK.then_normal); apply EK.code)
         | (with_reducible first | apply EC.seq | apply EC.region | apply EC.skip | apply EC.label | apply EC.block | apply EC.exit | apply EC.ret | apply EK.in_normal | apply EK.in_same | apply EK.in_ret | apply EK.then_ret | apply EK.then_exit))
      exact EK.ret1 rfl rfl rfl
    | false =>
      rw [h2] at hz
      repeat
        (first
         | (apply P_skip; (iterate 2 exact rfl)) | (apply P_bin; (iterate 2 exact rfl); exact hz; (iterate 2 exact rfl)) | (apply P_move; (iterate 3 exact rfl)) | (apply P_assign; (iterate 3 exact rfl))
         | (apply P_field; (iterate 6 exact rfl)) | (apply P_pick; (iterate 4 exact rfl))
         | (apply P_load; exact rfl; (first | exact I0 | exact I1 | exact I2 | exact I3 | exact I4 | exact I5 | exact I6); (iterate 4 exact rfl))
         | (apply P_cmp (b := true); (iterate 2 exact rfl); (focus (first | (simp [cmpI]; done) | (simp [cmpI]; omega))); (iterate 2 exact rfl)) | (apply P_box; exact rfl; exact rfl; exact rfl; intro _)
         | apply EL.nil | ((with_reducible apply EK.then_normal); apply EK.code)
         | (with_reducible first | apply EC.seq | apply EC.region | apply EC.skip | apply EC.label | apply EC.block | apply EC.exit | apply EC.ret | apply EK.in_normal | apply EK.in_same | apply EK.in_ret | apply EK.then_ret | apply EK.then_exit))
      exact EK.ret1 rfl rfl rfl
  · have h5 : decide (n = n') = false := by simp [h1]
    rw [h5]
    repeat
      (first
       | (apply P_skip; (iterate 2 exact rfl)) | (apply P_move; (iterate 3 exact rfl)) | (apply P_assign; (iterate 3 exact rfl)) | (apply P_field; (iterate 6 exact rfl)) | (apply P_pick; (iterate 4 exact rfl))
       | (apply P_load; exact rfl; (first | exact I0 | exact I1 | exact I2 | exact I3 | exact I4 | exact I5 | exact I6); (iterate 4 exact rfl))
       | (apply P_cmp (b := false); (iterate 2 exact rfl); (focus (first | (simp [cmpI]; done) | (simp [cmpI]; omega))); (iterate 2 exact rfl)) | (apply P_box; exact rfl; exact rfl; exact rfl; intro _)
       | apply EL.nil | ((with_reducible apply EK.then_normal); apply EK.code)
       | (with_reducible first | apply EC.seq | apply EC.region | apply EC.skip | apply EC.label | apply EC.block | apply EC.exit | apply EC.ret | apply EK.in_normal | apply EK.in_same | apply EK.in_ret | apply EK.then_ret | apply EK.then_exit))
    exact EK.ret1 rfl rfl rfl
end E
end Go.Proofs.YtdhicdnmgmkpkaaGreat
