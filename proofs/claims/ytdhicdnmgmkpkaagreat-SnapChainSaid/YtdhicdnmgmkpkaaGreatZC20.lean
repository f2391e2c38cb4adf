/-
  Merged (wip/tools/merge.py): EN, EO, EP, EQ.
  Conditions: none.
-/
import Derived.Test.YtdhicdnmgmkpkaaGreatZC19
import Derived.Maps.RangeRun
import Derived.Lib.SliceRun
import Derived.Lib.AppendZeros
import Derived.Test.YtdhicdnmgmkpkaaGreatZC16
import Derived.Test.YtdhicdnmgmkpkaaGreatZC14
/-
  The abstract machine: ranges over maps; an entry of a map's literal; pieces of a chain in another order.
  Conditions: none.
-/
namespace Go.Proofs.YtdhicdnmgmkpkaaGreat
set_option linter.unusedVariables false
open Go.RowKit Mono Rlp
open Go.ChangeMaps (setBlock)
namespace E
abbrev itO (r b c : Nat) (seen : Array Nat) : Obj := .it r (.mapIter (some b) c seen c)
theorem All2.left {α β : Type} {R : α → β → Prop} : ∀ {l : List α} {m : List β}, All2 R l m → ∀ a ∈ l, ∃ b ∈ m, R a b
  | _, _, .nil, a, h => by cases h
  | _, _, .cons h1 h2, a, h => by
    rcases List.mem_cons.1 h with rfl | h
    · exact ⟨_, List.mem_cons_self, h1⟩
    · obtain ⟨b, hb, hr⟩ := h2.left a h
      exact ⟨b, List.mem_cons_of_mem _ hb, hr⟩
theorem All2.right {α β : Type} {R : α → β → Prop} : ∀ {l : List α} {m : List β}, All2 R l m → ∀ b ∈ m, ∃ a ∈ l, R a b
  | _, _, .nil, a, h => by cases h
  | _, _, .cons h1 h2, a, h => by
    rcases List.mem_cons.1 h with rfl | h
    · exact ⟨_, List.mem_cons_self, h1⟩
    · obtain ⟨b, hb, hr⟩ := h2.right a h
      exact ⟨b, List.mem_cons_of_mem _ hb, hr⟩
theorem borns_eq {ok : Nat → Prop} {w : World} {n : Nat} : ∀ {l : List MapEntry} {m : List Ent}, All2 (EntAt ok w n) l m → l.map (·.born) = m.map (·.1)
  | _, _, .nil => rfl
  | _, _, .cons h1 h2 => by rw [List.map_cons, List.map_cons, h1.born, borns_eq h2]
section
variable {N : Nat} {X : Cx N} {S : St} {a : Act} {w w' : World} {ops : Array Oper} {o : Oper} {Q : Exit → Act → World → Prop} {l : List Oper} {rs : List (Tmp × R)} {os os' rest : List Obj} {fs : List (Value × D)}
theorem m_range {T K n E b c i : Nat} {es : List Ent} {x : Operand} (ho : o.op = .range T x) (hx : ev S x = some (.val (.v (.map (some b))))) (hi : S.objs[i]? = some (.map b n c es)) (hT : assoc mapL T = some (K, n, E)) : Muts ops S o [] (fun r os' => ∃ g, r = .val (.v (.pointer (some ⟨g, 0, none⟩))) ∧ os' = [itO g b c #[]]) := .mk fun base ok a w ha hown => by
  have h1 := ev_v ha hx (looks_op (by rw [ho]; simp [Op.operands]))
  obtain ⟨_, _, arr, h2, _⟩ := ha.map hi
  have hr : (execOp a.eval o).run Tryz.prog w = .ok (.value (.pointer (some ⟨w.heap.size, 0, none⟩))) (w.alloc (.mapIter (some b) c #[] c)) := by
    simp [execOp, ho, h1, run_range_map w T _ _ b arr c (mapI hT).1 h2, Result.andThen]
  rw [hr]
  obtain ⟨g1, g2⟩ := m_new (ok := ok) (w := w) (q := itO w.heap.size b c #[]) (r := .val (.v (.pointer (some ⟨w.heap.size, 0, none⟩)))) (ob := .mapIter (some b) c #[] c) (v := .pointer (some ⟨w.heap.size, 0, none⟩)) rfl (fun ok' _ => ⟨.inr (Nat.le_refl _), heap_alloc_new w _⟩) (fun _ => v_mk rfl) ha.lt
  exact ⟨_, _, ⟨_, rfl, rfl⟩, g1, g2⟩
theorem P_range {t T K n E b c i ty : Nat} {pos : String} {af : Array Edge} {gd : Option (Nat × Bool)} {es : List Ent} {x : Operand} (hx : ev (⟨rs, os, fs⟩ : St) x = some (.val (.v (.map (some b))))) (hi : os[i]? = some (.map b n c es)) (hT : assoc mapL T = some (K, n, E)) (hg : guardOf ops ⟨rs, os, fs⟩ ⟨some t, .range T x, ty, pos, af, gd⟩ = some true) (hN : Nat.blt t N = true) (kk : ∀ g, EL X ops Q l ⟨(t, .val (.v (.pointer (some ⟨g, 0, none⟩)))) :: rs, itO g b c #[] :: os, fs⟩) : EL X ops Q (⟨some t, .range T x, ty, pos, af, gd⟩ :: l) ⟨rs, os, fs⟩ :=
  EL.mut (os := []) (rest := os) hg (dst_lt rfl hN) (m_range rfl hx hi hT) fun r os' ⟨g, h1, h2⟩ => by
    subst h1 h2
    exact kk g
theorem m_next {b n c g : Nat} {es : List Ent} {seen : Array Nat} {x : Operand} (ho : o.op = .next x false) (hx : ev S x = some (.val (.v (.pointer (some ⟨g, 0, none⟩))))) :
    Muts ops S o [itO g b c seen, .map b n c es] (fun r os' => (r = .tpl [.v (.bool false)] ∧ (∀ e ∈ es, e.1 ∈ seen) ∧ os' = [itO g b c seen, .map b n c es]) ∨ (∃ e ∈ es, e.1 ∉ seen ∧ r = .tpl [.v (.bool true), .arr n e.2.1, e.2.2] ∧ os' = [itO g b c (seen.push e.1), .map b n c es])) := .mk fun base ok a w ha hown => by
  have h1 := ev_v ha hx (looks_op (by rw [ho]; simp [Op.operands]))
  obtain ⟨_, h2⟩ := hown.at_ (itO g b c seen) (by simp)
  obtain ⟨_, hE, arr, h3, h4⟩ := hown.at_ (.map b n c es) (by simp)
  have hne : g ≠ b := fun e => by rw [e, h3] at h2; cases h2
  have hlt : ∀ x ∈ arr.toList, x.born < c := fun x hx => by
    obtain ⟨y, hy, h5⟩ := h4.left x hx
    rw [h5.born]
    exact hE.lt y hy
  have hBg : Blks [itO g b c seen, .map b n c es] g := ⟨_, List.mem_cons_self, rfl⟩
  rcases run_next_at (P := Tryz.prog) w o.type g b c c seen arr c h2 h3 hlt (Nat.le_refl _) with ⟨h0, hrun⟩ | ⟨e, he, w1, hal, hrun⟩
  · have hr : (execOp a.eval o).run Tryz.prog w = .ok (.value (.tuple #[.bool false])) w := by simp [execOp, ho, h1, hrun, Result.andThen]
    rw [hr]
    refine ⟨_, _, .inl ⟨rfl, fun e he => ?_, rfl⟩, ⟨.refl w, hown.apart, fun p hp => ?_⟩, ?_⟩
    · obtain ⟨x, hx, h5⟩ := h4.right e he
      have h6 : leftOf arr seen = #[] := Array.eq_empty_of_size_eq_zero h0
      refine Classical.byContradiction fun hn => ?_
      have : x ∈ leftOf arr seen := by
        unfold leftOf
        rw [Array.mem_filter]
        refine ⟨by simpa using hx, ?_⟩
        rw [h5.born]
        simpa using hn
      rw [h6] at this
      simp at this
    · refine ((hown.at_ p hp).move (fun b' hb' => ⟨.inl hb', ha.lt b' hb', fun o' ho' e => hown.off b' ⟨o', ho', e⟩ hb'⟩) (fun _ _ => rfl) fun _ _ => rfl).rebase fun b' e => .inl ⟨p, hp, e⟩
    · exact ⟨[.bool false], rfl, _, _, rfl, v_mk rfl, rfl⟩
  · obtain ⟨hem, hes⟩ := mem_left he
    have hr1 : w1.heap[g]? = some (.mapIter (some b) c seen c) := by rcases hal with rfl | rfl <;> exact h2
    have hset : (setBlock w1 g (.mapIter (some b) c (seen.push e.born) c)).heap[g]? = some (.mapIter (some b) c (seen.push e.born) c) ∧ ∀ j, j ≠ g → (setBlock w1 g (.mapIter (some b) c (seen.push e.born) c)).heap[j]? = w1.heap[j]? := MapKept.heap_set (o' := .mapIter (some b) c (seen.push e.born) c) hr1
    have hgr : w.grownBy (setBlock w1 g (.mapIter (some b) c (seen.push e.born) c)) (some g) := by rcases hal with rfl | rfl <;> exact ⟨rfl, rfl, rfl, by simp [setBlock], fun i _ hi => hset.2 i (fun e1 => hi (by rw [e1]))⟩
    have hr : (execOp a.eval o).run Tryz.prog w = .ok (.value (.tuple #[.bool true, e.key, e.val])) (setBlock w1 g (.mapIter (some b) c (seen.push e.born) c)) := by simp [execOp, ho, h1, hrun, Result.andThen]
    rw [hr]
    obtain ⟨x, hx, h5⟩ := h4.left e (by simpa using hem)
    generalize setBlock w1 g (.mapIter (some b) c (seen.push e.born) c) = w2 at hset hgr hr ⊢
    rw [h5.born] at hset
    have hok : ∀ b', ok b' → okM ok [itO g b c seen, .map b n c es] w [itO g b c (seen.push x.1), .map b n c es] w2 b' := fun b' hb' => ⟨.inl hb', Nat.lt_of_lt_of_le (ha.lt b' hb') hgr.size, fun o' ho' e' => by
      simp only [List.mem_cons, List.not_mem_nil, or_false] at ho'
      rcases ho' with rfl | rfl
      · exact hown.off b' ⟨itO g b c seen, List.mem_cons_self, e'⟩ hb'
      · exact hown.off b' ⟨.map b n c es, by simp, e'⟩ hb'⟩
    have hcell : ∀ p : Addr, ok p.block → w2.cell? p = w.cell? p := fun p hp => World.cell?_of_block (hgr.block _ (ha.lt _ hp) fun e' => hown.off p.block ⟨itO g b c seen, List.mem_cons_self, e'.symm ▸ rfl⟩ hp)
    refine ⟨_, _, .inr ⟨x, hx, ?_, rfl, rfl⟩, ⟨⟨hgr.os, hgr.tape, hgr.output, hgr.size, fun k hk hn => hgr.block k hk fun e' => hn (by injection e' with e'; subst e'; exact hBg)⟩, ?_, fun p hp => ?_⟩, ?_⟩
    · rw [← h5.born]
      intro hm
      rw [Array.contains_iff_mem.2 hm] at hes
      cases hes
    · have := hown.apart
      simpa [Apart, Obj.blk] using this
    · simp only [List.mem_cons, List.not_mem_nil, or_false] at hp
      rcases hp with rfl | rfl
      · exact ⟨.inl hBg, hset.1⟩
      · refine ⟨.inl ⟨.map b n c es, by simp, rfl⟩, hE, arr, (hset.2 b (fun e' => hne e'.symm)).trans (by rcases hal with rfl | rfl <;> exact h3), forall2_imp (fun _ _ h => h.mono hok hcell) h4⟩
    · refine ⟨[.bool true, e.key, e.val], rfl, _, _, rfl, v_mk rfl, _, _, rfl, ?_, _, _, rfl, h5.val.mono hok hcell, rfl⟩
      rw [h5.key]
      exact arrV_mk h5.len
theorem g_entry {b n c g i j : Nat} {es : List Ent} {seen : Array Nat} {x : Operand} {e : Ent} (he : e ∈ es) (ho : o.op = .entry x) (hx : ev S x = some (.val (.v (.pointer (some ⟨g, 0, none⟩))))) (hi : S.objs[i]? = some (itO g b c (seen.push e.1))) (hj : S.objs[j]? = some (.map b n c es)) : Still ops S o (.tpl [.arr n e.2.1, e.2.2]) := fun base ok a w ha => by
  have h1 := ev_v ha hx (looks_op (by rw [ho]; simp [Op.operands]))
  obtain ⟨_, hE, arr, h3, h4⟩ := ha.map hj
  obtain ⟨_, h2⟩ := ha.objs _ (List.mem_of_getElem? hi)
  obtain ⟨y, hy, h5⟩ := h4.right e he
  rw [← h5.born] at h2
  have hrun := run_entry_at (P := Tryz.prog) w g b c seen arr c y h2 h3 hy (by rw [borns_eq h4]; exact hE.borns)
  refine ⟨.tuple #[y.key, y.val], ?_, [y.key, y.val], rfl, _, _, rfl, by rw [h5.key]; exact arrV_mk h5.len, _, _, rfl, h5.val, rfl⟩
  simp [execOp, ho, h1, hrun, Result.andThen]
theorem P_next {t b n c g ty : Nat} {pos : String} {af : Array Edge} {gd : Option (Nat × Bool)} {es : List Ent} {seen : Array Nat} {x : Operand} (hx : ev (⟨rs, os, fs⟩ : St) x = some (.val (.v (.pointer (some ⟨g, 0, none⟩))))) (hg : guardOf ops ⟨rs, [itO g b c seen, .map b n c es] ++ os, fs⟩ ⟨some t, .next x false, ty, pos, af, gd⟩ = some true) (hN : Nat.blt t N = true)
    (kd : (∀ e ∈ es, e.1 ∈ seen) → EL X ops Q l ⟨(t, .tpl [.v (.bool false)]) :: rs, itO g b c seen :: .map b n c es :: os, fs⟩)
    (km : ∀ e ∈ es, e.1 ∉ seen → EL X ops Q l ⟨(t, .tpl [.v (.bool true), .arr n e.2.1, e.2.2]) :: rs, itO g b c (seen.push e.1) :: .map b n c es :: os, fs⟩) : EL X ops Q (⟨some t, .next x false, ty, pos, af, gd⟩ :: l) ⟨rs, itO g b c seen :: .map b n c es :: os, fs⟩ :=
  EL.mut (os := [itO g b c seen, .map b n c es]) (rest := os) hg (dst_lt rfl hN) (m_next rfl hx) fun r os' h => by
    rcases h with ⟨h1, h2, h3⟩ | ⟨e, h1, h2, h3, h4⟩
    · subst h1 h3
      exact kd h2
    · subst h3 h4
      exact km e h1 h2
theorem P_entry {t b n c g i j ty : Nat} {pos : String} {af : Array Edge} {gd : Option (Nat × Bool)} {es : List Ent} {seen : Array Nat} {x : Operand} {e : Ent} (he : e ∈ es) (hx : ev (⟨rs, os, fs⟩ : St) x = some (.val (.v (.pointer (some ⟨g, 0, none⟩))))) (hi : os[i]? = some (itO g b c (seen.push e.1))) (hj : os[j]? = some (.map b n c es)) (hg : guardOf ops ⟨rs, os, fs⟩ ⟨some t, .entry x, ty, pos, af, gd⟩ = some true) (hN : Nat.blt t N = true) (kk : EL X ops Q l ⟨(t, .tpl [.arr n e.2.1, e.2.2]) :: rs, os, fs⟩) : EL X ops Q (⟨some t, .entry x, ty, pos, af, gd⟩ :: l) ⟨rs, os, fs⟩ := ES.still (g_entry he rfl hx hi hj) hg rfl hN kk
theorem put_insert {T K n E g c : Nat} {x y z : Operand} {es : List Ent} {l1 : List UInt8} {d : D} (ho : o.op = .insert T x y z) (hx : ev S x = some (.val (.v (.map (some g))))) (hy : ev S y = some (.val (.arr n l1))) (hz : ev S z = some (.val d)) (hT : assoc mapL T = some (K, n, E)) : Puts ops S o (.map g n c es) (.map g n (tickE c es l1) (putE c es l1 d)) := by
  refine ⟨rfl, fun base ok a w ha hno hat => ?_⟩
  have h1 := ev_v ha hx (looks_op (by rw [ho]; simp [Op.operands]))
  obtain ⟨h2, h3⟩ := arrV_of (ha.ev hy (looks_op (by rw [ho]; simp [Op.operands])))
  obtain ⟨w', h4, h5, h6⟩ := run_mapUpdate (mapI hT).1 (mapI hT).2 hat l1 h2 (ha.ev hz (looks_op (by rw [ho]; simp [Op.operands]))) (hno g rfl)
  refine ⟨w', g, ?_, rfl, h5, h6⟩
  unfold execOp
  simp only [ho, h1, h3, Sem.run_bind, h4, Result.andThen_ok, Sem.run_pure]
end
end E
end Go.Proofs.YtdhicdnmgmkpkaaGreat
/-
  The abstract machine: what is behind the first of a row, and 'clear' of the last one.
  Conditions: none.
-/
namespace Go.Proofs.YtdhicdnmgmkpkaaGreat
set_option linter.unusedVariables false
open Go.RowKit Mono Rlp
namespace E
def sufV (k z : Nat) : Value → Value
  | .slice A n c => .slice (if c = k then A else A.map (·.add (k * z))) (n - k) (c - k)
  | v => v
section
variable {N : Nat} {X : Cx N} {S : St} {ops : Array Oper} {o : Oper} {Q : Exit → Act → World → Prop} {l : List Oper} {rs : List (Tmp × R)} {os os' : List Obj} {fs : List (Value × D)}
theorem g_rowsuf {x y : Operand} {T e z b : Nat} {k : Int} {v : Value} {ds : List D} (ho : o.op = .slice T x (some y) none none) (hx : ev S x = some (.val (.v v))) (i : Nat) (hi : S.objs[i]? = some (.row v e z ds)) (hy : ev S y = some (.val (.v (.int .i64 k)))) (hT : assoc slL T = some (e, z, b)) (hk : 0 ≤ k ∧ k.toNat ≤ ds.length) : Still ops S o (.val (.v (sufV k.toNat z v))) := fun base ok a w ha => by
  have hx' := ev_v ha hx (looks_op (by rw [ho]; simp [Op.operands]))
  have hy' := ev_v ha hy (looks_op (by rw [ho]; simp [Op.operands]))
  obtain ⟨rows, ⟨h1, _⟩, _⟩ := ha.objs _ (List.mem_of_getElem? hi)
  obtain ⟨hu, hs⟩ := elem_und hT
  have hf : ∃ A c, v = .slice A ds.length c ∧ ds.length ≤ c := by
    rcases h1.2 with ⟨e1, e2⟩ | ⟨g, c, cur, e1, _, _, e3, _⟩
    · exact ⟨none, 0, by rw [e1, e2], by omega⟩
    · exact ⟨_, c, e1, e3⟩
  obtain ⟨A, c, rfl, hc⟩ := hf
  refine ⟨sufV k.toNat z (.slice A ds.length c), ?_, v_mk (by unfold sufV; rfl)⟩
  unfold execOp
  have hr : (Instr.sliceAt T (.slice A ds.length c) (some (.int .i64 k)) none none).run Tryz.prog w = .ok (sufV k.toNat z (.slice A ds.length c)) w := by
    rw [run_sliceAt_slice (P := Tryz.prog) w T _ _ _ _ hu, run_slice_l (P := Tryz.prog) w T A ds.length c hu .i64 k hk.1 (by omega), hs]
    rfl
  simp only [ho, hx', hy', Option.map_none, Option.map_some, Sem.run_bind, hr, Result.andThen_ok, Sem.run_pure]
theorem P_rowsuf {t ty : Nat} {pos : String} {af : Array Edge} {gd : Option (Nat × Bool)} {x y : Operand} {T e z b i : Nat} {k : Int} {v : Value} {ds : List D} (hx : ev (⟨rs, os, fs⟩ : St) x = some (.val (.v v))) (hi : os[i]? = some (.row v e z ds)) (hy : ev (⟨rs, os, fs⟩ : St) y = some (.val (.v (.int .i64 k)))) (hT : assoc slL T = some (e, z, b)) (hk : 0 ≤ k ∧ k.toNat ≤ ds.length) (hg : guardOf ops ⟨rs, os, fs⟩ ⟨some t, .slice T x (some y) none none, ty, pos, af, gd⟩ = some true) (hN : Nat.blt t N = true) (kk : EL X ops Q l ⟨(t, .val (.v (sufV k.toNat z v))) :: rs, os, fs⟩) : EL X ops Q (⟨some t, .slice T x (some y) none none, ty, pos, af, gd⟩ :: l) ⟨rs, os, fs⟩ := ES.still (g_rowsuf rfl hx i hi hy hT hk) hg rfl hN kk
theorem EL.clear1 {T e z b k : Nat} {x : Operand} {v : Value} {ds : List D} {dz : D} (i : Nat) (ho : o.op = .call { callee := .builtin .clear, args := #[x], argTypes := #[T] }) (hg : guardOf ops S o = some true) (hd : o.dst = none) (hx : ev S x = some (.val (.v (sufV k z v)))) (hi : S.objs[i]? = some (.row v e z ds)) (hT : assoc slL T = some (e, z, b)) (hz : assoc zeroL e = some dz) (hag : dz.agg = true) (hsz : dz.size = z) (hpos : Nat.blt 0 dz.size = true) (hk : k + 1 = ds.length) (kk : EL X ops Q l ⟨S.regs, S.objs.set i (.row v e z (ds.set k dz)), S.facts⟩) : EL X ops Q (o :: l) S := by
  constructor
  intro a w ha
  have hkn := ha.kn fun t => t ∈ o.looksAt ops
  have h1 := ev_v hkn hx (looks_op (by rw [ho]; simp [Op.operands, Call.operands]))
  have hmem := List.mem_of_getElem? hi
  have hat := ha.mem.at_ _ hmem
  obtain ⟨hu, _⟩ := slTI hT (by rw [← hsz]; exact hpos)
  obtain ⟨g, c, cur, rows, H⟩ := row_in hat (by omega)
  have hkl : ds[k]? = some ds[k] := List.getElem?_eq_getElem (by omega)
  obtain ⟨r, A, B, g1, g2, g3, g4, g5, g6⟩ := H.elem hkl
  obtain ⟨zv, hz1, hz2⟩ := (zvI hz).get
  obtain ⟨cs, hcs, rfl⟩ := (readV_agg hag).1 (hz2 (X.ok S.objs w) w)
  have hcl : cs.length = z := by rw [← hsz]; exact Reads.len _ _ hcs
  have hcur : cur = (A ++ r ++ B).toArray := by rw [← g4]
  have hv : sufV k z v = .slice (some ⟨g, 0 + k * z, none⟩) 1 (c - k) := by
    rw [H.val]
    have hle := H.le
    unfold sufV
    dsimp only
    rw [if_neg (by omega), show ds.length - k = 1 by omega, Option.map_some, add_none]
  have hheap := H.heap
  rw [hcur] at hheap
  have hset := setCells_row cs A r B w (by rw [hcl, g2]) hheap
  rw [g5] at hset
  have hgr := grownBy_setCells g cs (k * z) w
  have hno : ∀ b, X.ok S.objs w b → b ≠ g := fun b' hb' e' => hb'.2.2 _ hmem (by rw [e']; show v.ownBlock = some g; rw [H.val]; rfl)
  have hcell : ∀ q : Addr, X.ok S.objs w q.block → (w.setCells g (k * z) cs).cell? q = w.cell? q := fun q hq => World.cell?_of_block (hgr.block _ hq.2.1 fun e' => hno _ hq (by injection e'))
  have hrows := ReadsRows.set ds rows k dz cs H.rows hcs hcl
  have hrows' := ReadsRows.mono (fun _ h => h) hcell z _ _ hrows
  have hat' : Obj.At X.mine (X.ok S.objs w) (w.setCells g (k * z) cs) (.row v e z (ds.set k dz)) := RowIn.at (g := g) (c := c) (cur := (A ++ cs ++ B).toArray) (rows := rows.set k cs) ⟨by rw [List.length_set]; exact H.val, hset, by rw [List.length_set]; exact g6 _ hcl, by
    have := congrArg List.length g4
    rw [Array.length_toList, H.size] at this
    simp only [List.size_toArray, List.length_append] at this ⊢
    omega, by rw [List.length_set]; exact H.le, H.max, hrows', H.mine⟩
  have hst : (storeCells ⟨g, 0 + k * z, none⟩ (Builtin.zeroCells (Value.agg cs.toArray).cells 1).toList).run Tryz.prog w = .ok () (w.setCells g (k * z) cs) := by
    have e1 : (Builtin.zeroCells (Value.agg cs.toArray).cells 1).toList = cs := by
      simp [Builtin.zeroCells, Value.cells]
      apply List.ext_getElem
      · simp
      · intro j h1 h2
        simp [Nat.mod_eq_of_lt h2, h2]
    rw [e1]
    have := run_storeCells_cells (P := Tryz.prog) g (k * z) cs 0 w (fun j hj => ?_) (fun j hj => ?_) (Reads.one _ _ hcs)
    · simpa using this
    · rw [cell_of_row w g _ _ _ _ hheap, Option.isSome_iff_exists]
      have hsz2 : k * z + 0 + j < (A ++ r ++ B).toArray.size := by
        simp only [List.size_toArray, List.length_append]
        omega
      exact ⟨_, Array.getElem?_eq_getElem hsz2⟩
    · simp [World.frozen?, hheap]
  have hrun : (Builtin.clear_ #[T] o.type #[sufV k z v]).run Tryz.prog w = .ok (.tuple #[]) (w.setCells g (k * z) cs) := by
    rw [hv]
    rw [Nat.zero_add] at hst ⊢
    simp [Builtin.clear_, run_underlying hu, hz1, hst]
  unfold wpList
  rw [if_pos (wanted_of ha hg)]
  refine .inl ?_
  unfold Oper.wp execOp
  simp only [ho, resolve, invoke, builtin, Sem.run_bind, Sem.run_pure, Result.andThen_ok, List.map_toArray, List.map_cons, List.map_nil, h1, hrun]
  simp only [Oper.upon_value, hd, Act.put]
  exact kk.go _ _ (ha.turn hi (by rw [show (Obj.row v e z ds).blk = some g by show v.ownBlock = some g; rw [H.val]; rfl]; exact hgr) (.inl rfl) fun hok hcell => hat'.move hok (fun _ _ => rfl) fun _ _ => rfl)
theorem P_clear1 {T e z b k ty : Nat} {pos : String} {af : Array Edge} {gd : Option (Nat × Bool)} {x : Operand} {v : Value} {ds : List D} {dz : D} (hx : ev (⟨rs, os, fs⟩ : St) x = some (.val (.v (sufV k z v)))) (hset : SetAt os (.row v e z ds) (.row v e z (ds.set k dz)) os') (hk : k + 1 = ds.length) (hT : assoc slL T = some (e, z, b)) (hz : assoc zeroL e = some dz) (hag : dz.agg = true) (hsz : dz.size = z) (hpos : Nat.blt 0 dz.size = true) (hg : guardOf ops ⟨rs, os, fs⟩ ⟨none, .call { callee := .builtin .clear, args := #[x], argTypes := #[T] }, ty, pos, af, gd⟩ = some true) (kk : EL X ops Q l ⟨rs, os', fs⟩) : EL X ops Q (⟨none, .call { callee := .builtin .clear, args := #[x], argTypes := #[T] }, ty, pos, af, gd⟩ :: l) ⟨rs, os, fs⟩ := by
  obtain ⟨i, hi, rfl⟩ := hset.ix
  exact EL.clear1 i rfl hg rfl hx hi hT hz hag hsz hpos hk kk
end
end E
end Go.Proofs.YtdhicdnmgmkpkaaGreat
/-
  The abstract machine: 'append(nil, make(..)...)', 'clear' of a row's end.
  Conditions: none.
-/
namespace Go.Proofs.YtdhicdnmgmkpkaaGreat
set_option linter.unusedVariables false
open Go.RowKit Mono Rlp
namespace E
theorem zeroCells_flat (cs : List Value) (h0 : 0 < cs.length) (m : Nat) : (Builtin.zeroCells cs.toArray m).toList = (List.replicate m cs).flatten := by
  have hl : ∀ m, (List.replicate m cs).flatten.length = m * cs.length := fun m => by
    induction m with
    | zero => simp
    | succ m ih => rw [List.replicate_succ, List.flatten_cons, List.length_append, ih, Nat.add_mul, Nat.one_mul, Nat.add_comm]
  have hg : ∀ m j, j < m * cs.length → (List.replicate m cs).flatten[j]? = cs[j % cs.length]? := fun m => by
    induction m with
    | zero => intro j h; omega
    | succ m ih =>
      intro j h
      rw [List.replicate_succ, List.flatten_cons]
      by_cases hj : j < cs.length
      · rw [List.getElem?_append_left hj, Nat.mod_eq_of_lt hj]
      · rw [List.getElem?_append_right (by omega), ih (j - cs.length) (by rw [Nat.add_mul, Nat.one_mul] at h; omega)]
        conv => rhs; rw [show j = j - cs.length + cs.length by omega, Nat.add_mod_right]
  refine List.ext_getElem? fun j => ?_
  by_cases hj : j < m * cs.length
  · rw [hg m j hj]
    have hm : j % cs.length < cs.length := Nat.mod_lt _ h0
    simp [Builtin.zeroCells, hj, hm]
  · rw [List.getElem?_eq_none (by simp [Builtin.zeroCells]; omega), List.getElem?_eq_none (by rw [hl]; omega)]
theorem rows_repl {ok : Nat → Prop} {w : World} {z : Nat} {d : D} {cs : List Value} (h : Reads ok w d cs) (hl : cs.length = z) : ∀ m : Nat, ReadsRows ok w z (List.replicate m d) (List.replicate m cs)
  | 0 => by rw [List.replicate_zero, ReadsRows]; rfl
  | m + 1 => by
    rw [List.replicate_succ, List.replicate_succ, ReadsRows]
    exact ⟨cs, _, rfl, hl, h, rows_repl h hl m⟩
section
variable {N : Nat} {X : Cx N} {S : St} {ops : Array Oper} {o : Oper} {Q : Exit → Act → World → Prop} {l : List Oper} {rs : List (Tmp × R)} {os os' : List Obj} {fs : List (Value × D)}
theorem EL.clearK {T e z b k : Nat} {x : Operand} {v : Value} {ds : List D} {dz : D} (i : Nat) (ho : o.op = .call { callee := .builtin .clear, args := #[x], argTypes := #[T] }) (hg : guardOf ops S o = some true) (hd : o.dst = none) (hx : ev S x = some (.val (.v (sufV k z v)))) (hi : S.objs[i]? = some (.row v e z ds)) (hT : assoc slL T = some (e, z, b)) (hz : assoc zeroL e = some dz) (hag : dz.agg = true) (hsz : dz.size = z) (hpos : Nat.blt 0 dz.size = true) (hk : k < ds.length) (kk : EL X ops Q l ⟨S.regs, S.objs.set i (.row v e z (ds.take k ++ List.replicate (ds.length - k) dz)), S.facts⟩) : EL X ops Q (o :: l) S := by
  constructor
  intro a w ha
  have hkn := ha.kn fun t => t ∈ o.looksAt ops
  have h1 := ev_v hkn hx (looks_op (by rw [ho]; simp [Op.operands, Call.operands]))
  have hmem := List.mem_of_getElem? hi
  have hat := ha.mem.at_ _ hmem
  obtain ⟨hu, _⟩ := slTI hT (by rw [← hsz]; exact hpos)
  obtain ⟨g, c, cur, rows, H⟩ := row_in hat (by omega)
  obtain ⟨zv, hz1, hz2⟩ := (zvI hz).get
  obtain ⟨cs, hcs, rfl⟩ := (readV_agg hag).1 (hz2 (X.ok S.objs w) w)
  have hcl : cs.length = z := by rw [← hsz]; exact Reads.len _ _ hcs
  have hz0 : 0 < cs.length := by rw [hcl, ← hsz]; simpa using hpos
  have hmk : ds.length - k ≠ 0 := by omega
  obtain ⟨m, hm⟩ : ∃ m, ds.length - k = m := ⟨_, rfl⟩
  rw [hm] at hmk kk
  obtain ⟨hl1, hl2⟩ := ReadsRows.lens ds rows H.rows
  obtain ⟨sp, hsplit⟩ : ∃ sp, cur.toList = rows.flatten ++ sp := ⟨cur.toList.drop (ds.length * z), by rw [← H.cells, List.take_append_drop]⟩
  have hrs : rows.flatten = (rows.take k).flatten ++ (rows.drop k).flatten := by rw [← List.flatten_append, List.take_append_drop]
  have hA : (rows.take k).flatten.length = k * z := by
    rw [flat_len _ fun r hr => hl2 r (List.mem_of_mem_take hr), List.length_take, hl1, Nat.min_eq_left (by omega)]
  have hM : (rows.drop k).flatten.length = m * z := by
    rw [flat_len _ fun r hr => hl2 r (List.mem_of_mem_drop hr), List.length_drop, hl1, hm]
  have hN : (List.replicate m cs).flatten.length = m * z := by
    rw [flat_len _ (show ∀ r ∈ List.replicate m cs, r.length = z from fun r hr => by rw [List.eq_of_mem_replicate hr]; exact hcl), List.length_replicate]
  generalize hAe : (rows.take k).flatten = A at hrs hA
  generalize hMe : (rows.drop k).flatten = r at hrs hM
  have hcur : cur = (A ++ r ++ sp).toArray := by rw [← hrs, ← hsplit]
  have hv : sufV k z v = .slice (some ⟨g, 0 + k * z, none⟩) m (c - k) := by
    rw [H.val]
    have hle := H.le
    unfold sufV
    dsimp only
    rw [if_neg (by omega), hm, Option.map_some, add_none]
  have hheap := H.heap
  rw [hcur] at hheap
  have hset := setCells_row (List.replicate m cs).flatten A r sp w (by rw [hN, hM]) hheap
  rw [hA] at hset
  have hgr := grownBy_setCells g (List.replicate m cs).flatten (k * z) w
  have hno : ∀ b, X.ok S.objs w b → b ≠ g := fun b' hb' e' => hb'.2.2 _ hmem (by rw [e']; show v.ownBlock = some g; rw [H.val]; rfl)
  have hcell : ∀ q : Addr, X.ok S.objs w q.block → (w.setCells g (k * z) (List.replicate m cs).flatten).cell? q = w.cell? q := fun q hq => World.cell?_of_block (hgr.block _ hq.2.1 fun e' => hno _ hq (by injection e'))
  have hnl : (ds.take k ++ List.replicate m dz).length = ds.length := by rw [List.length_append, List.length_take, List.length_replicate]; omega
  have hrows := ReadsRows.append _ _ _ _ (ReadsRows.take ds rows k H.rows) (rows_repl hcs hcl m)
  have hrows' := ReadsRows.mono (fun _ h => h) hcell z _ _ hrows
  have hat' : Obj.At X.mine (X.ok S.objs w) (w.setCells g (k * z) (List.replicate m cs).flatten) (.row v e z (ds.take k ++ List.replicate m dz)) := RowIn.at (g := g) (c := c) (cur := (A ++ (List.replicate m cs).flatten ++ sp).toArray) (rows := rows.take k ++ List.replicate m cs) ⟨by rw [hnl]; exact H.val, hset, by
    rw [hnl, List.flatten_append, hAe]
    have : ds.length * z = (A ++ (List.replicate m cs).flatten).length := by
      rw [List.length_append, hA, hN, ← Nat.add_mul, show k + m = ds.length by omega]
    rw [this]
    exact List.take_left' rfl, by
    have := congrArg List.length hsplit
    rw [Array.length_toList, H.size, hrs] at this
    simp only [List.size_toArray, List.length_append] at this ⊢
    rw [hN, ← hM]
    omega, by rw [hnl]; exact H.le, H.max, hrows', H.mine⟩
  have hst : (storeCells ⟨g, 0 + k * z, none⟩ (Builtin.zeroCells (Value.agg cs.toArray).cells m).toList).run Tryz.prog w = .ok () (w.setCells g (k * z) (List.replicate m cs).flatten) := by
    rw [show (Value.agg cs.toArray).cells = cs.toArray from rfl, zeroCells_flat cs hz0 m]
    have := run_storeCells_cells (P := Tryz.prog) g (k * z) (List.replicate m cs).flatten 0 w (fun j hj => ?_) (fun j hj => ?_) (fun u hu => by
      obtain ⟨r', hr', hu'⟩ := List.mem_flatten.1 hu
      rw [List.eq_of_mem_replicate hr'] at hu'
      exact Reads.one _ _ hcs u hu')
    · simpa using this
    · rw [cell_of_row w g _ _ _ _ hheap, Option.isSome_iff_exists]
      have hsz2 : k * z + 0 + j < (A ++ r ++ sp).toArray.size := by
        simp only [List.size_toArray, List.length_append]
        rw [hN] at hj
        omega
      exact ⟨_, Array.getElem?_eq_getElem hsz2⟩
    · simp [World.frozen?, hheap]
  have hrun : (Builtin.clear_ #[T] o.type #[sufV k z v]).run Tryz.prog w = .ok (.tuple #[]) (w.setCells g (k * z) (List.replicate m cs).flatten) := by
    rw [hv]
    obtain ⟨m', rfl⟩ : ∃ m', m = m' + 1 := ⟨m - 1, by omega⟩
    rw [Nat.zero_add] at hst ⊢
    simp [Builtin.clear_, run_underlying hu, hz1, hst]
  unfold wpList
  rw [if_pos (wanted_of ha hg)]
  refine .inl ?_
  unfold Oper.wp execOp
  simp only [ho, resolve, invoke, builtin, Sem.run_bind, Sem.run_pure, Result.andThen_ok, List.map_toArray, List.map_cons, List.map_nil, h1, hrun]
  simp only [Oper.upon_value, hd, Act.put]
  exact kk.go _ _ (ha.turn hi (by rw [show (Obj.row v e z ds).blk = some g by show v.ownBlock = some g; rw [H.val]; rfl]; exact hgr) (.inl rfl) fun hok hcell => hat'.move hok (fun _ _ => rfl) fun _ _ => rfl)
theorem P_clearK {T e z b k ty : Nat} {pos : String} {af : Array Edge} {gd : Option (Nat × Bool)} {x : Operand} {v : Value} {ds : List D} {dz : D} (hx : ev (⟨rs, os, fs⟩ : St) x = some (.val (.v (sufV k z v)))) (hset : SetAt os (.row v e z ds) (.row v e z (ds.take k ++ List.replicate (ds.length - k) dz)) os') (hk : k < ds.length) (hT : assoc slL T = some (e, z, b)) (hz : assoc zeroL e = some dz) (hag : dz.agg = true) (hsz : dz.size = z) (hpos : Nat.blt 0 dz.size = true) (hg : guardOf ops ⟨rs, os, fs⟩ ⟨none, .call { callee := .builtin .clear, args := #[x], argTypes := #[T] }, ty, pos, af, gd⟩ = some true) (kk : EL X ops Q l ⟨rs, os', fs⟩) : EL X ops Q (⟨none, .call { callee := .builtin .clear, args := #[x], argTypes := #[T] }, ty, pos, af, gd⟩ :: l) ⟨rs, os, fs⟩ := by
  obtain ⟨i, hi, rfl⟩ := hset.ix
  exact EL.clearK i rfl hg rfl hx hi hT hz hag hsz hpos hk kk
theorem m_zeros {T U e z b n : Nat} {k : Int} {s x : Operand} {dz : D} (ho : o.op = .call { callee := .builtin .append, args := #[s, x], argTypes := #[T, U] }) (hs : ev S s = some (.val (.v (.slice none 0 0)))) (hx : ev S x = some (.val (.v (.int .i64 k)))) (hT : assoc slL T = some (e, z, b)) (hU : Tryz.prog.underlying U = some (.int .i64)) (hz : assoc zeroL e = some dz) (hag : dz.agg = true) (hsz : dz.size = z) (hpos : Nat.blt 0 dz.size = true) (hk : k = (n : Int)) (hn : 0 < n ∧ n * b ≤ 281474976710656 ∧ n ≤ 4611686018427387904) :
    Muts ops S o [] (fun r os' => ∃ v, r = .val (.v v) ∧ os' = [.row v e z (List.replicate n dz)]) := .mk fun base ok a w ha hown => by
  subst hk
  have h1 := ev_v ha hs fun t e => looks_of e (by rw [ho]; simp [Op.operands, Call.operands])
  have h2 := ev_v ha hx fun t e => looks_of e (by rw [ho]; simp [Op.operands, Call.operands])
  have hS := slTI hT (by rw [← hsz]; exact hpos)
  obtain ⟨i, zv, hi, hzv, hsz', hby, hcs⟩ := hS.info
  obtain ⟨zv', hz1, hz2⟩ := (zvI hz).get
  obtain rfl : zv' = zv := by
    have := hz1 w
    simp [zeroValue, typeInfo, hi, hzv] at this
    exact this.symm
  obtain ⟨cs, hcs', rfl⟩ := (readV_agg hag).1 (hz2 ok w)
  have hcl : cs.length = z := by rw [← hsz]; exact Reads.len _ _ hcs'
  have hz0 : 0 < cs.length := by rw [hcl, ← hsz]; simpa using hpos
  have hrun := Lib.run_append_nil_zeros (P := Tryz.prog) w T U o.type e i (.agg cs.toArray) .i64 .i64 hS.und hU hi hzv n hn.1 (by rw [hsz']; omega) (by omega) (by rw [hby]; exact hn.2.1)
  have hge := grownCap_ge w n 0 e
  have hle := grownCap_le_maxLen w n 0 e (by unfold maxLen; omega)
  generalize grownCap w n 0 e = cap at hrun hge hle
  have hc1 : (Builtin.zeroCells (Value.agg cs.toArray).cells n ++ Builtin.zeroCells (Value.agg cs.toArray).cells (cap - n)).toList = (List.replicate n cs).flatten ++ (List.replicate (cap - n) cs).flatten := by
    rw [Array.toList_append, show (Value.agg cs.toArray).cells = cs.toArray from rfl, zeroCells_flat cs hz0, zeroCells_flat cs hz0]
  have hflen : ∀ m, (List.replicate m cs).flatten.length = m * z := fun m => by
    rw [flat_len _ (show ∀ r ∈ List.replicate m cs, r.length = z from fun r hr => by rw [List.eq_of_mem_replicate hr]; exact hcl), List.length_replicate]
  generalize Builtin.zeroCells (Value.agg cs.toArray).cells n ++ Builtin.zeroCells (Value.agg cs.toArray).cells (cap - n) = C at hrun hc1
  have hCs : C.size = cap * z := by
    rw [← Array.length_toList, hc1, List.length_append, hflen, hflen, ← Nat.add_mul, show n + (cap - n) = cap by omega]
  unfold execOp
  simp only [ho, resolve, invoke, builtin, Sem.run_bind, Sem.run_pure, Result.andThen_ok, List.map_toArray, List.map_cons, List.map_nil, h1, h2, hrun, setsTo]
  have hheap : (w.drew.alloc (.cells C e)).heap[w.heap.size]? = some (.cells C e (0, 0)) := (MapKept.heap_alloc w.drew _).1
  have hB : Below w.heap.size w (w.drew.alloc (.cells C e)) := ⟨rfl, rfl, rfl, Nat.le_of_lt (lt_of_some hheap), fun k hk => (MapKept.heap_alloc w.drew (.cells C e)).2 k hk⟩
  refine ⟨.val (.v (.slice (some ⟨w.heap.size, 0, none⟩) n cap)), [.row (.slice (some ⟨w.heap.size, 0, none⟩) n cap) e z (List.replicate n dz)], ⟨_, rfl, rfl⟩, ⟨.of hB, by simp, fun o' ho' => ?_⟩, readV_v.2 ⟨rfl, rfl⟩⟩
  obtain rfl : o' = _ := by simpa using ho'
  obtain ⟨cs2, hr2, he2⟩ := (readV_agg hag).1 (hz2 (okM ok [] w [.row (.slice (some ⟨w.heap.size, 0, none⟩) n cap) e z (List.replicate n dz)] (w.drew.alloc (.cells C e))) (w.drew.alloc (.cells C e)))
  obtain rfl : cs2 = cs := by simpa using he2.symm
  refine RowIn.at (g := w.heap.size) (c := cap) (cur := C) (rows := List.replicate n cs2) ⟨by rw [List.length_replicate], hheap, ?_, hCs, by rw [List.length_replicate]; exact hge, hle, rows_repl hr2 hcl n, .inr (Nat.le_refl _)⟩
  rw [List.length_replicate, hc1]
  exact List.take_left' (hflen n)
end
end E
end Go.Proofs.YtdhicdnmgmkpkaaGreat
/-
  bytes.Compare of arrays in variables of the call's own; bytes.Equal; trie.Compare; halving.
  Conditions: none.
-/
namespace Go.Proofs.YtdhicdnmgmkpkaaGreat
set_option linter.unusedVariables false
open Go.RowKit Mono Rlp Go.Sort
namespace E
section
variable {N : Nat} {X : Cx N} {S : St} {ops : Array Oper} {o : Oper} {Q : Exit → Act → World → Prop} {l' : List Oper} {rs : List (Tmp × R)} {os : List Obj} {fs : List (Value × D)}
theorem isB_var {base ok : Nat → Prop} {L : Tmp → Prop} {a : Act} {w : World} (ha : Kn base ok L S a w) {x : Operand} {g n m i : Nat} {t : TypeId} {d : D} {l : List UInt8} (hL : ∀ u, x = .tmp u → L u) (hx : ev S x = some (.val (.v (.slice (some ⟨g, n, none⟩) m m)))) (hi : S.objs[i]? = some (.var g t d)) (hs : d.sub n m true = some (.arr m l)) (hm : Nat.ble m 4096 = true) : IsB w (a.eval x) l := by
  have hx' := ev_v ha hx hL
  obtain ⟨_, cs, hh, hr⟩ := ha.objs _ (List.mem_of_getElem? hi)
  obtain ⟨e1, e2, pre, mid, post, rfl, e3, e4⟩ := sub_spec d n m true _ cs hs hr
  have hr := range_part (range_of_row hh)
  rw [Nat.zero_add, e3] at hr
  rw [hx']
  exact isB_range hm (Array.getElem?_eq_some_iff.1 hh).1 hr e4
theorem g_cmpvar {x y : Operand} {tys : Array TypeId} {g1 n1 m1 i1 g2 n2 m2 i2 : Nat} {t1 t2 : TypeId} {d1 d2 : D} {l1 l2 : List UInt8} (ho : o.op = .call { callee := .value (.func 77), args := #[x, y], argTypes := tys })
    (hx : ev S x = some (.val (.v (.slice (some ⟨g1, n1, none⟩) m1 m1)))) (hi1 : S.objs[i1]? = some (.var g1 t1 d1)) (hs1 : d1.sub n1 m1 true = some (.arr m1 l1)) (hm1 : Nat.ble m1 4096 = true)
    (hy : ev S y = some (.val (.v (.slice (some ⟨g2, n2, none⟩) m2 m2)))) (hi2 : S.objs[i2]? = some (.var g2 t2 d2)) (hs2 : d2.sub n2 m2 true = some (.arr m2 l2)) (hm2 : Nat.ble m2 4096 = true) : Grows ops S o (· = .val (.v (.int .i64 (cmpB l1 l2)))) := fun base ok a w ha => by
  have h1 := isB_var ha (looks_op (by rw [ho]; simp [Op.operands, Call.operands])) hx hi1 hs1 hm1
  have h2 := isB_var ha (looks_op (by rw [ho]; simp [Op.operands, Call.operands])) hy hi2 hs2 hm2
  have hrun : (execOp a.eval o).run Tryz.prog w = .ok (.enter 77 #[a.eval x, a.eval y]) w := by
    unfold execOp
    simp [ho, resolve, Act.eval, Deferred.ofValue, invoke]
  rw [hrun]
  refine ⟨Gr.refl w, (bytes_CompareW _ _ l1 l2 w h1 h2).mono ?_⟩
  rintro e w' ⟨rfl, rfl⟩
  exact ⟨_, rfl, Gr.refl _, _, rfl, readV_v.2 ⟨rfl, rfl⟩⟩
theorem P_slnil {t ty : Nat} {pos : String} {af : Array Edge} {gd : Option (Nat × Bool)} {x y : Operand} {T U e z b : Nat} {ds : List D} (hx : ev (⟨rs, os, fs⟩ : St) x = some (.val (.sl z ds))) (hy : ev (⟨rs, os, fs⟩ : St) y = some (.val (.v (.slice none 0 0)))) (hT : assoc slL T = some (e, z, b)) (hz : Nat.blt 0 z = true) (hg : guardOf ops ⟨rs, os, fs⟩ ⟨some t, .binOp .eql T x y U, ty, pos, af, gd⟩ = some true) (hN : Nat.blt t N = true) (kk : ∀ v, (v = true → ds = []) → EL X ops Q l' ⟨(t, .val (.v (.bool v))) :: rs, os, fs⟩) : EL X ops Q (⟨some t, .binOp .eql T x y U, ty, pos, af, gd⟩ :: l') ⟨rs, os, fs⟩ := by
  refine EL.growE (Φ := fun r => ∃ v, (v = true → ds = []) ∧ r = .val (.v (.bool v))) hg (dst_lt rfl hN) (fun base ok a w ha => ?_) fun r ⟨v, h1, h2⟩ => by
    subst h2
    exact kk v h1
  obtain ⟨A, c, rows, h1, h2, h3, h4, _⟩ := sl_ex (ha.ev hx (looks_op (by simp [Op.operands])))
  have h5 := ev_v ha hy (looks_op (by simp [Op.operands]))
  have hu := (slTI hT hz).und
  have hrun : (execOp a.eval ⟨some t, .binOp .eql T x y U, ty, pos, af, gd⟩).run Tryz.prog w = .ok (.value (.bool A.isNone)) w := by
    unfold execOp
    have hq : (eqGuard .eql T x y (.slice A ds.length c) (.slice none 0 0)).run Tryz.prog w = .ok () w := by simp [eqGuard]
    simp only [h1, h5, Sem.run_bind, hq, Result.andThen_ok, Lib.run_eql_slice_nil w T e A ds.length c 0 0 hu, Sem.run_pure]
  rw [hrun]
  refine ⟨Gr.refl w, _, ⟨_, fun hv => ?_, rfl⟩, readV_v.2 ⟨rfl, rfl⟩⟩
  cases A with
  | none => exact List.eq_nil_of_length_eq_zero (h4 rfl).1
  | some _ => cases hv
theorem m_lit0 {T e z b : Nat} (ho : o.op = .buildSlice T 0 #[]) (hT : assoc slL T = some (e, z, b)) (hz : Nat.blt 0 z = true) : Muts ops S o [] (fun r os' => ∃ v, r = .val (.v v) ∧ os' = [.row v e z []]) := .mk fun base ok a w ha hown => by
  have hS := slTI hT hz
  obtain ⟨i, zv, hi, hzv, hsz, hby, hcs⟩ := hS.info
  have hr : (execOp a.eval o).run Tryz.prog w = .ok (.value (.slice (some ⟨w.heap.size, 0, none⟩) 0 0)) (w.alloc (.cells #[] e)) := by
    unfold execOp
    simp [ho, Instr.buildSlice, run_underlying hS.und, sizeOf, typeInfo, hi, Instr.fill, newRow]
    have e0 : Array.map (fun _ : Nat => (default : Value)) (Array.range 0) = #[] := by apply Array.ext'; simp
    rw [e0]
  rw [hr]
  obtain ⟨g1, g2⟩ := m_new (ok := ok) (w := w) (q := .row (.slice (some ⟨w.heap.size, 0, none⟩) 0 0) e z []) (r := .val (.v (.slice (some ⟨w.heap.size, 0, none⟩) 0 0))) (ob := .cells #[] e) (v := .slice (some ⟨w.heap.size, 0, none⟩) 0 0) rfl (fun ok' hk => ⟨[], ⟨by
    have := own_lit w #[] e z 0 w.heap.size 0 rfl (Nat.zero_le _) (by simp [maxLen]) (by simp)
    exact this, fun b hb => by cases hb; exact .inr (Nat.le_refl _)⟩, by rw [ReadsRows]⟩) (fun _ => v_mk rfl) ha.lt
  exact ⟨_, _, ⟨_, rfl, rfl⟩, g1, g2⟩
end
theorem f_Equal (l m : List UInt8) : Fn 137 [.bs l, .bs m] (· = .val (.v (.bool (l == m)))) := by
  have hb := (bin_string l m).1
  refine Fn.walk 10 Tryz.func137 rfl Tryz.ntmps137 (by simp) fun X => ?_
  repeat
    (first
     | (apply P_bin; (iterate 2 exact rfl); exact hb; (iterate 2 exact rfl)) | (apply P_move; (iterate 3 exact rfl)) | (apply P_assign; (iterate 3 exact rfl)) | (apply P_str; (iterate 3 exact rfl))
     | apply EL.nil | ((with_reducible apply EK.then_normal); apply EK.code)
     | (with_reducible first | apply EC.seq | apply EC.region | apply EC.skip | apply EC.label | apply EC.block | apply EC.exit | apply EC.ret | apply EK.in_normal | apply EK.in_same | apply EK.in_ret | apply EK.then_ret | apply EK.then_exit))
  exact EK.ret1 rfl rfl rfl
theorem bin_half (n : Nat) (hn : n ≤ 9223372036854775807) : Bin .shr 166 (.v (.int .u64 (n : Int))) (.v (.int .u64 1)) (.int .u64 ((n / 2 : Nat) : Int)) := by
  refine bin_of rfl fun w => ?_
  have h1 : ¬ ((1 : Int) < 0) := by decide
  have h2 : min ((1 : Int)).toNat IntKind.u64.bits = 1 := by decide
  have h3 : (n : Int).fdiv (2 ^ 1) = ((n / 2 : Nat) : Int) := by
    rw [Int.fdiv_eq_ediv_of_nonneg _ (by decide)]
    simp
  show (Op.shift .shr .u64 (n : Int) .u64 1).run Tryz.prog w = _
  unfold Op.shift
  rw [if_neg h1]
  simp only [h2, h3, Sem.run_pure]
end E
end Go.Proofs.YtdhicdnmgmkpkaaGreat
