/-
  Merged (wip/tools/merge.py): TE, Item, EItem0, RlpBig, NumW, RlpMeas, RlpRead.
  Conditions: none.
-/
import Derived.Test.YtdhicdnmgmkpkaaGreatZN12
import Derived.Test.YtdhicdnmgmkpkaaGreatZN7
import Derived.Test.YtdhicdnmgmkpkaaGreatZN8
import Derived.Test.YtdhicdnmgmkpkaaGreatZN13
import Derived.Test.YtdhicdnmgmkpkaaGreatZN2
import Derived.Laws.Rows
import Derived.BigQuiet
import Derived.Deep.QuietTactic
import Derived.RegionTactic
import Derived.BigRegion
import Derived.Lib.SliceRun
import Derived.Test.YtdhicdnmgmkpkaaGreatZN5
/-
  The abstract machine, more: slices of bytes and of arrays that are known, an array's part, interfaces beside nil, what writes no piece.
  Conditions: none.
-/
namespace Go.Proofs.YtdhicdnmgmkpkaaGreat
set_option linter.unusedVariables false
open Go.RowKit Mono Rlp
namespace E
section
variable {N : Nat} {X : Cx N} {S : St} {ops : Array Oper} {o : Oper} {Q : Exit → Act → World → Prop} {l : List Oper} {TT : St → List Fr → Prop} {EE : List Fr} {rs : List (Tmp × R)} {os : List Obj} {fs : List (Value × D)}
theorem g_slpd {x : Operand} {T n m : Nat} {b : List UInt8} (hA : SliceA T n) (hn : Nat.ble n 4096 = true) (ho : o.op = .slice T x none none none) (hx : ev S x = some (.val (.pd (.arr m b)))) (hm : m = n) (h0 : Nat.blt 0 n = true) : Still ops S o (.val (.bs b)) := fun base ok a w ha => by
  subst hm
  have h1 := (readV_one rfl).1 (ha.ev hx fun t e => looks_of e (by rw [ho]; simp [Op.operands]))
  rw [Reads] at h1
  obtain ⟨g, k, cs, e, hg, hr, h2⟩ := h1
  rw [Reads] at h2
  obtain ⟨hl, rfl⟩ := h2
  have e' : a.eval x = .pointer (some ⟨g, k, none⟩) := List.singleton_inj.1 e
  simp only [Nat.ble_eq] at hn
  refine ⟨.slice (some ⟨g, k, none⟩) m m, ?_, (readV_one rfl).2 ?_⟩
  · unfold execOp
    simp only [ho, e', Option.map_none, Sem.run_bind, hA.ok w g k, Result.andThen_ok, Sem.run_pure]
  · rw [Reads]
    refine ⟨_, rfl, some ⟨g, k, none⟩, m, by rw [hl], by omega, by simp [maxLen]; omega, fun _ => ⟨g, k, rfl, hg, fun j u hu => hr j u hu⟩⟩
theorem P_slpd {t ty : Nat} {pos : String} {af : Array Edge} {gd : Option (Nat × Bool)} {x : Operand} {T n m : Nat} {b : List UInt8} (hA : SliceA T n) (hn : Nat.ble n 4096 = true) (hx : ev (⟨rs, os, fs⟩ : St) x = some (.val (.pd (.arr m b)))) (hm : m = n) (h0 : Nat.blt 0 n = true) (hg : guardOf ops ⟨rs, os, fs⟩ ⟨some t, .slice T x none none none, ty, pos, af, gd⟩ = some true) (hN : Nat.blt t N = true) (kk : EL X ops Q l ⟨(t, .val (.bs b)) :: rs, os, fs⟩) : EL X ops Q (⟨some t, .slice T x none none none, ty, pos, af, gd⟩ :: l) ⟨rs, os, fs⟩ := ES.still (g_slpd hA hn rfl hx hm h0) hg rfl hN kk
theorem H_slpd {t ty : Nat} {pos : String} {af : Array Edge} {gd : Option (Nat × Bool)} {x : Operand} {T n m : Nat} {b : List UInt8} (hA : SliceA T n) (hn : Nat.ble n 4096 = true) (hx : ev (⟨rs, os, fs⟩ : St) x = some (.val (.pd (.arr m b)))) (hm : m = n) (h0 : Nat.blt 0 n = true) (hg : guardOf ops ⟨rs, os, fs⟩ ⟨some t, .slice T x none none none, ty, pos, af, gd⟩ = some true) (hoff : offB N (some t) EE = true) (kk : EM N ops TT l ⟨(t, .val (.bs b)) :: rs, os, fs⟩ EE) : EM N ops TT (⟨some t, .slice T x none none none, ty, pos, af, gd⟩ :: l) ⟨rs, os, fs⟩ EE := EH.still (g_slpd hA hn rfl hx hm h0) hg rfl hoff kk
theorem bs_take1 {x y : Operand} {T e b : Nat} {k : Int} {m : List UInt8} (ho : o.op = .slice T x none (some y) none) (hx : ev S x = some (.val (.bs m))) (hy : ev S y = some (.val (.v (.int .i64 k)))) (hT : assoc slL T = some (e, 1, b)) (hk : 0 ≤ k ∧ k.toNat ≤ m.length) : Still ops S o (.val (.bs (m.take k.toNat))) := fun base ok a w ha => by
  obtain ⟨A, c, h1, h2, h3, h4⟩ := bs_ex (ha.ev hx (looks_op (by rw [ho]; simp [Op.operands])))
  have hy' := ev_v ha hy (looks_op (by rw [ho]; simp [Op.operands]))
  obtain ⟨hu, hs⟩ := elem_und hT
  refine ⟨.slice (if c = 0 then A else A.map (·.add (0 * 1))) (k.toNat - 0) (c - 0), ?_, bs_mk ⟨A, c, ?_, by rw [List.length_take]; omega, h3, fun hne => ?_⟩⟩
  · unfold execOp
    simp only [ho, h1, hy', Option.map_none, Option.map_some, Sem.run_bind]
    rw [run_sliceAt_slice _ _ _ _ _ _ hu, run_slice_h _ _ _ _ _ hu _ _ (by omega) (by omega), hs]
    simp only [Result.andThen_ok, Sem.run_pure, sliced]
  · have h5 : (if c = 0 then A else A.map (·.add (0 * 1))) = A := by
      split
      · rfl
      · cases A <;> simp [Addr.add]
    rw [h5, List.length_take, Nat.min_eq_left hk.2]
    rfl
  · rw [bvs_take] at hne ⊢
    obtain ⟨b, o, e1, e2, e3⟩ := h4 (fun e => hne (by rw [e]; simp))
    refine ⟨b, o, e1, e2, fun j u hu => e3 j u ?_⟩
    rw [List.getElem?_take] at hu
    split at hu
    · exact hu
    · cases hu
theorem bs_from1 {x y : Operand} {T e b : Nat} {k : Int} {m : List UInt8} (ho : o.op = .slice T x (some y) none none) (hx : ev S x = some (.val (.bs m))) (hy : ev S y = some (.val (.v (.int .i64 k)))) (hT : assoc slL T = some (e, 1, b)) (hk : 0 ≤ k ∧ k.toNat ≤ m.length) : Still ops S o (.val (.bs (m.drop k.toNat))) := fun base ok a w ha => by
  obtain ⟨A, c, h1, h2, h3, h4⟩ := bs_ex (ha.ev hx (looks_op (by rw [ho]; simp [Op.operands])))
  have hy' := ev_v ha hy (looks_op (by rw [ho]; simp [Op.operands]))
  obtain ⟨hu, hs⟩ := elem_und hT
  refine ⟨.slice (if c = k.toNat then A else A.map (·.add (k.toNat * 1))) (m.length - k.toNat) (c - k.toNat), ?_, bs_mk ⟨if c = k.toNat then A else A.map (·.add (k.toNat * 1)), c - k.toNat, by rw [List.length_drop], by rw [List.length_drop]; omega, by omega, ?_⟩⟩
  · unfold execOp
    have hr : (Instr.sliceAt T (.slice A m.length c) (some (.int .i64 k)) none none).run Tryz.prog w = .ok (.slice (if c = k.toNat then A else A.map (·.add (k.toNat * 1))) (m.length - k.toNat) (c - k.toNat)) w := by
      rw [run_sliceAt_slice (P := Tryz.prog) w T _ _ _ _ hu, run_slice_l (P := Tryz.prog) w T A m.length c hu .i64 k hk.1 (by omega), hs]
      rfl
    simp only [ho, h1, hy', Option.map_none, Option.map_some, Sem.run_bind, hr, Result.andThen_ok, Sem.run_pure]
  · have := rdp_drop (z := 1) h4 (by rw [bvs_length, Nat.mul_one]) h2 k.toNat hk.2
    rw [Nat.mul_one] at this
    rw [Nat.mul_one]
    unfold bvs at this ⊢
    rw [List.map_drop]
    exact this
theorem H_bsto {t ty : Nat} {pos : String} {af : Array Edge} {gd : Option (Nat × Bool)} {x y : Operand} {T e b : Nat} {k : Int} {m : List UInt8} (hx : ev (⟨rs, os, fs⟩ : St) x = some (.val (.bs m))) (hy : ev (⟨rs, os, fs⟩ : St) y = some (.val (.v (.int .i64 k)))) (hT : assoc slL T = some (e, 1, b)) (hk : 0 ≤ k ∧ k.toNat ≤ m.length) (hg : guardOf ops ⟨rs, os, fs⟩ ⟨some t, .slice T x none (some y) none, ty, pos, af, gd⟩ = some true) (hoff : offB N (some t) EE = true) (kk : EM N ops TT l ⟨(t, .val (.bs (m.take k.toNat))) :: rs, os, fs⟩ EE) : EM N ops TT (⟨some t, .slice T x none (some y) none, ty, pos, af, gd⟩ :: l) ⟨rs, os, fs⟩ EE := EH.still (bs_take1 rfl hx hy hT hk) hg rfl hoff kk
theorem H_bsfrom {t ty : Nat} {pos : String} {af : Array Edge} {gd : Option (Nat × Bool)} {x y : Operand} {T e b : Nat} {k : Int} {m : List UInt8} (hx : ev (⟨rs, os, fs⟩ : St) x = some (.val (.bs m))) (hy : ev (⟨rs, os, fs⟩ : St) y = some (.val (.v (.int .i64 k)))) (hT : assoc slL T = some (e, 1, b)) (hk : 0 ≤ k ∧ k.toNat ≤ m.length) (hg : guardOf ops ⟨rs, os, fs⟩ ⟨some t, .slice T x (some y) none none, ty, pos, af, gd⟩ = some true) (hoff : offB N (some t) EE = true) (kk : EM N ops TT l ⟨(t, .val (.bs (m.drop k.toNat))) :: rs, os, fs⟩ EE) : EM N ops TT (⟨some t, .slice T x (some y) none none, ty, pos, af, gd⟩ :: l) ⟨rs, os, fs⟩ EE := EH.still (bs_from1 rfl hx hy hT hk) hg rfl hoff kk
theorem g_indextup {x y : Operand} {T n e z : Nat} {k : Int} {ds : List D} {d : D} (ho : o.op = .index T x y) (hx : ev S x = some (.val (.tup ds))) (hy : ev S y = some (.val (.v (.int .i64 k)))) (hT : assoc arL T = some (n, e, z)) (hz : z = 1) (he : ∀ w, (isAgg e).run Tryz.prog w = .ok false w) (hs : ∀ d ∈ ds, d.size = 1 ∧ d.agg = false) (hn : ds.length = n) (hk : 0 ≤ k ∧ ds[k.toNat]? = some d) : Still ops S o (.val d) := fun base ok a w ha => by
  subst hz
  obtain ⟨cs, h1, h2⟩ := (readV_agg rfl).1 (ha.ev hx (looks_op (by rw [ho]; simp [Op.operands])))
  have hy' := ev_v ha hy (looks_op (by rw [ho]; simp [Op.operands]))
  obtain ⟨hk', rfl⟩ := List.getElem?_eq_some_iff.1 hk.2
  rw [Reads] at h1
  have hcs : ∀ (ds : List D) (cs : List Value), (∀ d ∈ ds, d.size = 1 ∧ d.agg = false) → ReadsL ok w ds cs → cs.length = ds.length ∧ ∀ (i : Nat) (hi : i < ds.length), ∃ u, cs[i]? = some u ∧ Reads ok w ds[i] [u] := by
    intro ds
    induction ds with
    | nil =>
      intro cs _ h
      rw [ReadsL] at h
      subst h
      exact ⟨rfl, fun i hi => absurd hi (Nat.not_lt_zero _)⟩
    | cons d ds ih =>
      intro cs hd h
      rw [ReadsL] at h
      obtain ⟨c1, c2, rfl, g1, g2⟩ := h
      obtain ⟨u, rfl⟩ : ∃ u, c1 = [u] := List.length_eq_one_iff.1 ((Reads.len _ _ g1).trans (hd d (by simp)).1)
      obtain ⟨i1, i2⟩ := ih c2 (fun d hd' => hd d (by simp [hd'])) g2
      refine ⟨by simp [i1], fun i hi => ?_⟩
      cases i with
      | zero => exact ⟨u, rfl, g1⟩
      | succ i => simpa using i2 i (by simpa using hi)
  obtain ⟨hl, hat⟩ := hcs ds cs hs h1
  obtain ⟨u, hu, hr⟩ := hat k.toNat hk'
  refine ⟨u, ?_, (readV_one (hs _ (List.getElem_mem hk')).2).2 hr⟩
  have hlt : k < (n : Int) := by omega
  have hA := arI' hT
  have hrun : (Instr.index T (.agg cs.toArray) (.int .i64 k)).run Tryz.prog w = .ok u w := by
    unfold Instr.index
    have h0 := hk.1
    simp [run_underlying hA.und, asIntOf, h0, hlt, run_size hA.size, part, he, hu]
  unfold execOp
  simp only [ho, h2, hy', Sem.run_bind, hrun, Result.andThen_ok, Sem.run_pure]
theorem Still.refine {d d' : D} (h : Still ops S o (.val d)) (hR : RefineL S.facts [d] [d']) : Still ops S o (.val d') := fun base ok a w ha => by
  obtain ⟨v, h1, h2⟩ := h base ok a w ha
  exact ⟨v, h1, Refine1.readV ha.facts hR h2⟩
theorem P_buildR {t ty : Nat} {pos : String} {af : Array Edge} {gd : Option (Nat × Bool)} {T : Nat} {parts : Array (Nat × Operand)} {lf : List (Nat × Nat × Bool)} {d0 d d' : D} {ps : List (Nat × D)} (hx : evps (⟨rs, os, fs⟩ : St) parts.toList = some ps) (hT : assoc stL T = some lf) (hz : assoc zeroL T = some d0) (hd0 : d0.agg = true) (hf : fillD (lf.map fun x => (x.1, x.2.1)) d0 ps = some d) (hR : RefineL fs [d] [d']) (hg : guardOf ops ⟨rs, os, fs⟩ ⟨some t, .build T parts, ty, pos, af, gd⟩ = some true) (hN : Nat.blt t N = true) (kk : EL X ops Q l ⟨(t, (.val d')) :: rs, os, fs⟩) : EL X ops Q (⟨some t, .build T parts, ty, pos, af, gd⟩ :: l) ⟨rs, os, fs⟩ := ES.still (Still.refine (g_buildI rfl hx hT hz hd0 hf) hR) hg rfl hN kk
theorem H_buildR {t ty : Nat} {pos : String} {af : Array Edge} {gd : Option (Nat × Bool)} {T : Nat} {parts : Array (Nat × Operand)} {lf : List (Nat × Nat × Bool)} {d0 d d' : D} {ps : List (Nat × D)} (hx : evps (⟨rs, os, fs⟩ : St) parts.toList = some ps) (hT : assoc stL T = some lf) (hz : assoc zeroL T = some d0) (hd0 : d0.agg = true) (hf : fillD (lf.map fun x => (x.1, x.2.1)) d0 ps = some d) (hR : RefineL fs [d] [d']) (hg : guardOf ops ⟨rs, os, fs⟩ ⟨some t, .build T parts, ty, pos, af, gd⟩ = some true) (hoff : offB N (some t) EE = true) (kk : EM N ops TT l ⟨(t, (.val d')) :: rs, os, fs⟩ EE) : EM N ops TT (⟨some t, .build T parts, ty, pos, af, gd⟩ :: l) ⟨rs, os, fs⟩ EE := EH.still (Still.refine (g_buildI rfl hx hT hz hd0 hf) hR) hg rfl hoff kk
end
theorem FnM.toFn {f : FuncId} {ds : List D} {Φ : R → Prop} (h : FnM f ds [] (fun r os' => Φ r ∧ os' = [])) : Fn f ds Φ := ⟨fun ok w xs hok hr => by
  refine (h.go ok w xs hok ⟨fun o ho => by simp at ho, .nil, fun b ⟨o, ho, _⟩ => by simp at ho⟩ hr).mono ?_
  rintro e w' ⟨v, r, os', rfl, ⟨hΦ, rfl⟩, ht, hv⟩
  refine ⟨ht.gr.gr fun b ⟨o, ho, _⟩ => by simp at ho, v, r, rfl, hΦ, hv.mono (fun b hb => ⟨?_, hb.2.1⟩) fun _ _ => rfl⟩
  rcases hb.1 with h | ⟨o, ho, _⟩ | h
  · exact .inl h
  · simp at ho
  · exact .inr h⟩
end E
end Go.Proofs.YtdhicdnmgmkpkaaGreat
/-
  Items in memory; rlp's of.
  Conditions: none.
-/
namespace Go.Proofs.YtdhicdnmgmkpkaaGreat
set_option linter.unusedVariables false
open Go.RowKit Mono Rlp
mutual
def ItemAtP (ok : Nat → Prop) (w : World) : Raw → List Value → Prop
  | .mk b bs xs, cs => ∃ vb A c rows, cs = [.bool b, vb, .slice A xs.length c] ∧ IsBP ok w vb bs ∧ xs.length ≤ c ∧ c ≤ maxLen ∧ (A = none → xs.length = 0 ∧ c = 0) ∧ RdP ok w A rows.flatten ∧ ItemsAtP ok w xs rows
def ItemsAtP (ok : Nat → Prop) (w : World) : List Raw → List (List Value) → Prop
  | [], rows => rows = []
  | x :: xs, rows => ∃ r rest, rows = r :: rest ∧ ItemAtP ok w x r ∧ ItemsAtP ok w xs rest
end
def ItemAt (w : World) (x : Raw) (cs : List Value) : Prop := ItemAtP (fun b => b < w.heap.size) w x cs
def ItemsAt (w : World) (xs : List Raw) (rows : List (List Value)) : Prop := ItemsAtP (fun b => b < w.heap.size) w xs rows
mutual
theorem ItemAtP.mono {ok ok' : Nat → Prop} {w w' : World} (h1 : ∀ b, ok b → ok' b) (h2 : ∀ p : Addr, ok p.block → w'.cell? p = w.cell? p) : ∀ (x : Raw) (cs : List Value), ItemAtP ok w x cs → ItemAtP ok' w' x cs
  | .mk b bs xs, cs, h => by
    rw [ItemAtP] at h ⊢
    obtain ⟨vb, A, c, rows, g1, g2, g3, g4, g5, g6, g7⟩ := h
    exact ⟨vb, A, c, rows, g1, g2.mono h1 h2, g3, g4, g5, g6.mono h1 h2, ItemsAtP.mono h1 h2 xs rows g7⟩
theorem ItemsAtP.mono {ok ok' : Nat → Prop} {w w' : World} (h1 : ∀ b, ok b → ok' b) (h2 : ∀ p : Addr, ok p.block → w'.cell? p = w.cell? p) : ∀ (xs : List Raw) (rows : List (List Value)), ItemsAtP ok w xs rows → ItemsAtP ok' w' xs rows
  | [], rows, h => by rw [ItemsAtP] at h ⊢; exact h
  | x :: xs, rows, h => by
    rw [ItemsAtP] at h ⊢
    obtain ⟨r, rest, g1, g2, g3⟩ := h
    exact ⟨r, rest, g1, ItemAtP.mono h1 h2 x r g2, ItemsAtP.mono h1 h2 xs rest g3⟩
end
theorem ItemAt.eq (w : World) (b : Bool) (bs : List UInt8) (xs : List Raw) (cs : List Value) : ItemAt w (.mk b bs xs) cs = ∃ vb A c rows, cs = [.bool b, vb, .slice A xs.length c] ∧ IsB w vb bs ∧ xs.length ≤ c ∧ c ≤ maxLen ∧ (A = none → xs.length = 0 ∧ c = 0) ∧ Rd w w.heap.size A rows.flatten ∧ ItemsAt w xs rows := by
  unfold ItemAt
  rw [ItemAtP]
  rfl
theorem ItemsAt.nil_eq (w : World) (rows : List (List Value)) : ItemsAt w [] rows = (rows = []) := by unfold ItemsAt; rw [ItemsAtP]
theorem ItemsAt.cons_eq (w : World) (x : Raw) (xs : List Raw) (rows : List (List Value)) : ItemsAt w (x :: xs) rows = ∃ r rest, rows = r :: rest ∧ ItemAt w x r ∧ ItemsAt w xs rest := by
  unfold ItemsAt
  rw [ItemsAtP]
  rfl
theorem ItemAt.gr {w w' : World} (hg : Gr w w') (x : Raw) (cs : List Value) (h : ItemAt w x cs) : ItemAt w' x cs :=
  ItemAtP.mono (fun b hb => Nat.lt_of_lt_of_le hb hg.size) (fun p hp => hg.cell hp) x cs h
theorem ItemsAt.gr {w w' : World} (hg : Gr w w') (xs : List Raw) (rows : List (List Value)) (h : ItemsAt w xs rows) : ItemsAt w' xs rows :=
  ItemsAtP.mono (fun b hb => Nat.lt_of_lt_of_le hb hg.size) (fun p hp => hg.cell hp) xs rows h
theorem ItemsAtP.append {ok : Nat → Prop} {w : World} : ∀ (xs ys : List Raw) (rows rest : List (List Value)), ItemsAtP ok w xs rows → ItemsAtP ok w ys rest → ItemsAtP ok w (xs ++ ys) (rows ++ rest)
  | [], ys, rows, rest, h, h2 => by rw [ItemsAtP] at h; subst h; exact h2
  | x :: xs, ys, rows, rest, h, h2 => by
    rw [ItemsAtP] at h
    obtain ⟨r, rs, rfl, h3, h4⟩ := h
    rw [List.cons_append, ItemsAtP]
    exact ⟨r, rs ++ rest, rfl, h3, ItemsAtP.append xs ys rs rest h4 h2⟩
theorem ItemAtP.len {ok : Nat → Prop} {w : World} {x : Raw} {cs : List Value} (h : ItemAtP ok w x cs) : ∃ b A1 n1 c1 A n c, cs = [.bool b, .slice A1 n1 c1, .slice A n c] := by
  cases x
  rw [ItemAtP] at h
  obtain ⟨vb, A, c, rows, h1, ⟨A1, c1, rfl, _⟩, _⟩ := h
  exact ⟨_, _, _, _, _, _, _, h1⟩
theorem ItemAt.len {w : World} {x : Raw} {cs : List Value} (h : ItemAt w x cs) : ∃ b vb A n c, cs = [.bool b, vb, .slice A n c] := by
  cases x
  rw [ItemAt.eq] at h
  obtain ⟨vb, A, c, rows, h1, _⟩ := h
  exact ⟨_, _, _, _, _, h1⟩
theorem ItemsAt.length {w : World} : ∀ (xs : List Raw) (rows : List (List Value)), ItemsAt w xs rows → rows.length = xs.length
  | [], rows, h => by rw [ItemsAt.nil_eq] at h; rw [h]; rfl
  | x :: xs, rows, h => by
    rw [ItemsAt.cons_eq] at h
    obtain ⟨r, rest, rfl, _, h3⟩ := h
    simp [ItemsAt.length xs rest h3]
theorem ItemsAt.get {w : World} : ∀ (xs : List Raw) (rows : List (List Value)), ItemsAt w xs rows → ∀ k (hk : k < xs.length), ∃ cs, ItemAt w xs[k] cs ∧ ∀ j u, cs[j]? = some u → rows.flatten[k * 3 + j]? = some u
  | [], rows, _, k, hk => by simp at hk
  | x :: xs, rows, h, k, hk => by
    rw [ItemsAt.cons_eq] at h
    obtain ⟨r, rest, rfl, h2, h3⟩ := h
    obtain ⟨b, vb, A, n, c, hr⟩ := h2.len
    have hr3 : r.length = 3 := by rw [hr]; rfl
    cases k with
    | zero =>
      refine ⟨r, h2, fun j u hu => ?_⟩
      have hj := (List.getElem?_eq_some_iff.1 hu).1
      rw [Nat.zero_mul, Nat.zero_add, List.flatten_cons, List.getElem?_append_left hj]
      exact hu
    | succ k =>
      obtain ⟨cs, h4, h5⟩ := ItemsAt.get xs rest h3 k (by simpa using hk)
      refine ⟨cs, h4, fun j u hu => ?_⟩
      rw [List.flatten_cons, List.getElem?_append_right (by omega), hr3, ← h5 j u hu]
      congr 1
      omega
def IsItem (w : World) (v : Value) (x : Raw) : Prop := ∃ cs, v = .agg cs.toArray ∧ ItemAt w x cs
def IsItems (w : World) (v : Value) (xs : List Raw) : Prop := ∃ A c rows, v = .slice A xs.length c ∧ xs.length ≤ c ∧ c ≤ maxLen ∧ (A = none → xs.length = 0 ∧ c = 0) ∧ Rd w w.heap.size A rows.flatten ∧ ItemsAt w xs rows
theorem IsItem.gr {w w' : World} {v : Value} {x : Raw} (h : IsItem w v x) (hg : Gr w w') : IsItem w' v x := by
  obtain ⟨cs, h1, h2⟩ := h
  exact ⟨cs, h1, h2.gr hg⟩
theorem IsItems.gr {w w' : World} {v : Value} {xs : List Raw} (h : IsItems w v xs) (hg : Gr w w') : IsItems w' v xs := by
  obtain ⟨A, c, rows, h1, h2, h3, h4, h5, h6⟩ := h
  exact ⟨A, c, rows, h1, h2, h3, h4, h5.gr hg, h6.gr hg⟩
theorem isItem_form {w : World} {v : Value} {b : Bool} {bs : List UInt8} {xs : List Raw} (h : IsItem w v (.mk b bs xs)) : ∃ vb vl, v = .agg #[.bool b, vb, vl] ∧ IsB w vb bs ∧ IsItems w vl xs := by
  obtain ⟨cs, rfl, h⟩ := h
  rw [ItemAt.eq] at h
  obtain ⟨vb, A, c, rows, rfl, h2, h3, h4, h5, h6, h7⟩ := h
  exact ⟨vb, _, rfl, h2, A, c, rows, rfl, h3, h4, h5, h6, h7⟩
theorem IsItems.nil (w : World) : IsItems w (.slice none 0 0) [] := ⟨none, 0, [], rfl, Nat.le_refl _, by simp [maxLen], fun _ => ⟨rfl, rfl⟩, Rd.nil, by rw [ItemsAt.nil_eq]⟩
theorem items_at {w : World} {A : Option Addr} {xs : List Raw} {rows : List (List Value)} (hr : Rd w w.heap.size A rows.flatten) (h : ItemsAt w xs rows) (k : Nat) (hk : k < xs.length) :
    ∃ bl o f vb vl, A = some ⟨bl, o, none⟩ ∧ bl < w.heap.size ∧ w.cell? ⟨bl, o + k * 3, none⟩ = some (.bool f) ∧ w.cell? ⟨bl, o + k * 3 + 1, none⟩ = some vb ∧ w.cell? ⟨bl, o + k * 3 + 2, none⟩ = some vl ∧
      IsItem w (.agg #[.bool f, vb, vl]) xs[k] ∧ (∃ A' n c, vb = .slice A' n c) ∧ (∃ A' n c, vl = .slice A' n c) := by
  obtain ⟨cs, h1, h2⟩ := ItemsAt.get xs rows h k hk
  obtain ⟨f, vb, A', n, c, rfl⟩ := h1.len
  have hvb : ∃ A' n c, vb = .slice A' n c := by
    have h3 := h1
    generalize xs[k] = x at h3
    obtain ⟨b', bs', xs'⟩ := x
    rw [ItemAt.eq] at h3
    obtain ⟨vb', A2, c2, rows2, h4, h5, _⟩ := h3
    simp only [List.cons.injEq] at h4
    obtain ⟨A3, c3, h6, _⟩ := h5
    exact ⟨_, _, _, h4.2.1.trans h6⟩
  have hne : rows.flatten ≠ [] := fun e => by
    have := h2 0 _ rfl
    rw [e] at this
    simp at this
  obtain ⟨bl, o, rfl, hb, hc⟩ := hr hne
  exact ⟨bl, o, f, vb, .slice A' n c, rfl, hb, hc _ _ (h2 0 _ rfl), hc _ _ (h2 1 _ rfl), hc _ _ (h2 2 _ rfl), ⟨_, rfl, h1⟩, hvb, A', n, c, rfl⟩
@[go_sem] theorem as_bytes (v : Value) (w : World) : (Instr.typeAssert (.iface 35 v) 323 35 true).run Tryz.prog w = .ok (.tuple #[v, .bool true]) w := by kernel_rfl
@[go_sem] theorem as_bytes_no (v : Value) (w : World) : (Instr.typeAssert (.iface 276 v) 323 35 true).run Tryz.prog w = .ok (.tuple #[.slice none 0 0, .bool false]) w := by kernel_rfl
@[go_sem] theorem as_items (v : Value) (w : World) : (Instr.typeAssert (.iface 276 v) 323 276 true).run Tryz.prog w = .ok (.tuple #[v, .bool true]) w := by kernel_rfl
def IsOf (w : World) (v : Value) : Raw → Prop
  | .mk false bs _ => ∃ vb, v = .iface 35 vb ∧ IsB w vb bs
  | .mk true _ xs => ∃ vl, v = .iface 276 vl ∧ IsItems w vl xs
theorem IsOf.gr {w w' : World} {v : Value} {x : Raw} (h : IsOf w v x) (hg : Gr w w') : IsOf w' v x := by
  obtain ⟨b, bs, xs⟩ := x
  cases b
  · obtain ⟨vb, h1, h2⟩ := h
    exact ⟨vb, h1, h2.gr hg⟩
  · obtain ⟨vb, h1, h2⟩ := h
    exact ⟨vb, h1, h2.gr hg⟩
set_option maxHeartbeats 400000 in
theorem rlp_of (v : Value) (x : Raw) (w : World) (h : IsItem w v x) : Calls Tryz.prog 225 #[v] w (Ret (fun v w' => IsOf w' v x) w) := by
  obtain ⟨b, bs, xs⟩ := x
  obtain ⟨vb, vl, rfl, h1, h2⟩ := isItem_form h
  have H1 := Lib.hid h1
  have H2 := Lib.hid h2
  clear h h1 h2
  cases b with
  | false =>
    go_enter Tryz.func225, Tryz.ntmps225
    go_wp2
    refine bodyPost_ret (results_tmp rfl _ _ _) rfl ?_
    exact ⟨_, rfl, gr_alloc w _, _, rfl, H1.out.gr (gr_alloc w _)⟩
  | true =>
    go_enter Tryz.func225, Tryz.ntmps225
    go_wp2
    refine bodyPost_ret (results_tmp rfl _ _ _) rfl ?_
    exact ⟨_, rfl, gr_alloc w _, _, rfl, H2.out.gr (gr_alloc w _)⟩
def ItemIn (ok : Nat → Prop) (w : World) (v : Value) (x : Raw) : Prop := ∃ cs, v = .agg cs.toArray ∧ ItemAtP ok w x cs
theorem ItemIn.mono {ok ok' : Nat → Prop} {w w' : World} {v : Value} {x : Raw} (h : ItemIn ok w v x) (h1 : ∀ b, ok b → ok' b) (h2 : ∀ p : Addr, ok p.block → w'.cell? p = w.cell? p) : ItemIn ok' w' v x := by
  obtain ⟨cs, e, h⟩ := h
  exact ⟨cs, e, ItemAtP.mono h1 h2 x cs h⟩
theorem ItemIn.is {ok : Nat → Prop} {w : World} {v : Value} {x : Raw} (h : ItemIn ok w v x) (h1 : ∀ b, ok b → b < w.heap.size) : IsItem w v x := h.mono h1 fun _ _ => rfl
theorem itemIn_bytes {ok : Nat → Prop} {w : World} {vb : Value} {l : List UInt8} (h : IsBP ok w vb l) : ItemIn ok w (.agg #[.bool false, vb, .slice none 0 0]) (.mk false l []) := by
  refine ⟨[.bool false, vb, .slice none 0 0], rfl, ?_⟩
  rw [ItemAtP]
  exact ⟨vb, none, 0, [], rfl, h, Nat.le_refl _, by simp [maxLen], fun _ => ⟨rfl, rfl⟩, fun hn => absurd rfl hn, by rw [ItemsAtP]⟩
end Go.Proofs.YtdhicdnmgmkpkaaGreat
/-
  Items, slots, changes, diffs as the abstract machine reads them; what the functions of rlp and of the reference yield of them.
  Conditions: none.
-/
namespace Go.Proofs.YtdhicdnmgmkpkaaGreat
set_option linter.unusedVariables false
open Go.RowKit Mono Rlp
namespace E
mutual
def dItem : Raw → D
  | .mk b bs xs => .tup [.v (.bool b), .bs bs, .sl 3 (dItems xs)]
def dItems : List Raw → List D
  | [] => []
  | x :: xs => dItem x :: dItems xs
end
theorem dItems_map : ∀ xs : List Raw, dItems xs = xs.map dItem
  | [] => rfl
  | x :: xs => by rw [dItems, List.map_cons, dItems_map xs]
theorem dItems_length (xs : List Raw) : (dItems xs).length = xs.length := by rw [dItems_map, List.length_map]
section
variable {ok : Nat → Prop} {w : World}
theorem dItem_size (x : Raw) : (dItem x).size = 3 := by
  obtain ⟨b, bs, xs⟩ := x
  rw [dItem]
  rfl
theorem dItem_agg (x : Raw) : (dItem x).agg = true := by
  obtain ⟨b, bs, xs⟩ := x
  rw [dItem]
  rfl
mutual
theorem reads_item : ∀ (x : Raw) (cs : List Value), Reads ok w (dItem x) cs ↔ ItemAtP ok w x cs
  | .mk b bs xs, cs => by
    rw [dItem, Reads, ItemAtP, ReadsL]
    constructor
    · rintro ⟨c1, c2, rfl, h1, h2⟩
      rw [ReadsL] at h2
      obtain ⟨c3, c4, rfl, h3, h4⟩ := h2
      rw [ReadsL] at h4
      obtain ⟨c5, c6, rfl, h5, h6⟩ := h4
      rw [ReadsL] at h6
      subst h6
      rw [Reads] at h1
      rw [Reads] at h3
      rw [Reads] at h5
      obtain ⟨u, rfl, h3⟩ := h3
      obtain ⟨A, c, rows, rfl, g2, g3, g4, g5, g6⟩ := h5
      rw [h1.2]
      rw [dItems_length] at *
      exact ⟨u, A, c, rows, rfl, h3, g2, g3, g4, g5, (reads_items xs rows).1 g6⟩
    · rintro ⟨vb, A, c, rows, rfl, g1, g2, g3, g4, g5, g6⟩
      refine ⟨[.bool b], [vb, .slice A xs.length c], rfl, by rw [Reads]; exact ⟨rfl, rfl⟩, ?_⟩
      rw [ReadsL]
      refine ⟨[vb], [.slice A xs.length c], rfl, by rw [Reads]; exact ⟨vb, rfl, g1⟩, ?_⟩
      rw [ReadsL]
      refine ⟨[.slice A xs.length c], [], rfl, ?_, by rw [ReadsL]⟩
      rw [Reads, dItems_length]
      exact ⟨A, c, rows, rfl, g2, g3, g4, g5, (reads_items xs rows).2 g6⟩
theorem reads_items : ∀ (xs : List Raw) (rows : List (List Value)), ReadsRows ok w 3 (dItems xs) rows ↔ ItemsAtP ok w xs rows
  | [], rows => by rw [dItems, ReadsRows, ItemsAtP]
  | x :: xs, rows => by
    rw [dItems, ReadsRows, ItemsAtP]
    constructor
    · rintro ⟨r, rest, rfl, h1, h2, h3⟩
      exact ⟨r, rest, rfl, (reads_item x r).1 h2, (reads_items xs rest).1 h3⟩
    · rintro ⟨r, rest, rfl, h2, h3⟩
      have h4 := (reads_item x r).2 h2
      exact ⟨r, rest, rfl, by rw [Reads.len _ _ h4, dItem_size], h4, (reads_items xs rest).2 h3⟩
end
theorem readV_item {x : Raw} {v : Value} : ReadV ok w (dItem x) v ↔ ItemIn ok w v x := by
  rw [readV_agg (dItem_agg x)]
  constructor
  · rintro ⟨cs, h, rfl⟩
    exact ⟨cs, rfl, (reads_item x cs).1 h⟩
  · rintro ⟨cs, rfl, h⟩
    exact ⟨cs, (reads_item x cs).2 h, rfl⟩
theorem isItem_of (hok : ∀ b, ok b → b < w.heap.size) {x : Raw} {v : Value} (h : ReadV ok w (dItem x) v) : IsItem w v x := ItemIn.is (readV_item.1 h) hok
theorem tpl2 {d e : D} {x y : Value} (h1 : ReadV ok w d x) (h2 : ReadV ok w e y) : ReadR ok w (.tpl [d, e]) (.tuple #[x, y]) := ⟨[x, y], rfl, x, [y], rfl, h1, y, [], rfl, h2, rfl⟩
end
/-! ### What functions yield -/
def packD (o : Option (List UInt8)) : R := match o with
  | some b => .tpl [.bs b, .v (.int .i64 0)]
  | none => .tpl [.v (.slice none 0 0), .v (.int .i64 3)]
theorem more_new {ok : Nat → Prop} {w w' : World} (b : Nat) (h : w.heap.size ≤ b ∧ b < w'.heap.size) : (ok b ∨ w.heap.size ≤ b) ∧ b < w'.heap.size := ⟨.inr h.1, h.2⟩
end E
end Go.Proofs.YtdhicdnmgmkpkaaGreat
/-
  rlp: a number's bytes, heads.
  Conditions: lengths are at most 2^46.
-/
namespace Go.Proofs.YtdhicdnmgmkpkaaGreat
open Go.RowKit Mono Rlp
def revd (l : List UInt8) (i : Nat) : List UInt8 := (List.range l.length).map fun k => if k < i ∨ l.length ≤ k + i then l.getD (l.length - 1 - k) 0 else l.getD k 0
theorem revd_length (l : List UInt8) (i : Nat) : (revd l i).length = l.length := by simp [revd]
theorem revd_get (l : List UInt8) (i k : Nat) (hk : k < l.length) : (revd l i)[k]? = some (if k < i ∨ l.length ≤ k + i then l.getD (l.length - 1 - k) 0 else l.getD k 0) := by
  unfold revd
  rw [List.getElem?_map, List.getElem?_range hk]
  rfl
theorem revd_zero (l : List UInt8) : revd l 0 = l := by
  apply List.ext_getElem?
  intro k
  by_cases hk : k < l.length
  · rw [revd_get l 0 k hk, if_neg (by omega)]
    simp [hk]
  · rw [List.getElem?_eq_none (by rw [revd_length]; omega), List.getElem?_eq_none (by omega)]
theorem revd_all (l : List UInt8) (i : Nat) (h : l.length ≤ 2 * i + 1) : revd l i = l.reverse := by
  apply List.ext_getElem?
  intro k
  by_cases hk : k < l.length
  · rw [revd_get l i k hk, List.getElem?_reverse hk]
    by_cases hi : k < i ∨ l.length ≤ k + i
    · rw [if_pos hi]
      simp [show l.length - 1 - k < l.length by omega]
    · rw [if_neg hi]
      have : l.length - 1 - k = k := by omega
      rw [this]
      simp [hk]
  · rw [List.getElem?_eq_none (by rw [revd_length]; omega), List.getElem?_eq_none (by simp; omega)]
theorem revd_step (l : List UInt8) (i : Nat) (h : 2 * i + 1 < l.length) : ((revd l i).set i (l.getD (l.length - 1 - i) 0)).set (l.length - 1 - i) (l.getD i 0) = revd l (i + 1) := by
  apply List.ext_getElem?
  intro k
  rw [List.getElem?_set, List.getElem?_set, List.length_set, revd_length]
  by_cases hk : k < l.length
  · rw [revd_get l (i + 1) k hk, revd_get l i k hk]
    by_cases h1 : l.length - 1 - i = k
    · rw [if_pos h1, if_pos (by omega), if_pos (by omega)]
      congr 2
      omega
    · rw [if_neg h1]
      by_cases h2 : i = k
      · subst h2
        rw [if_pos rfl, if_pos (by omega), if_pos (by omega)]
      · rw [if_neg h2]
        by_cases h3 : k < i ∨ l.length ≤ k + i
        · rw [if_pos h3, if_pos (by omega)]
        · rw [if_neg h3, if_neg (by omega)]
  · rw [List.getElem?_eq_none (l := revd l (i + 1)) (by rw [revd_length]; omega), if_neg (by omega), if_neg (by omega), List.getElem?_eq_none (by rw [revd_length]; omega)]
theorem bvs_set' (l : List UInt8) (k : Nat) (b : UInt8) : (bvs l).set k (bv b) = bvs (l.set k b) := by simp [bvs, List.map_set]
theorem own_drew {w : World} {base e size n : Nat} {v : Value} {xs : List Value} (h : w.ownsRow base e size v n xs) : w.drew.ownsRow base e size v n xs := h
def RetB (R : World → Prop) (e : Ending) (w' : World) : Prop := e = .returned (.tuple #[]) ∧ R w'
set_option maxHeartbeats 1000000 in
theorem reverse_bytes (base : Nat) (v : Value) (l : List UInt8) (w : World) (h : OwnB w base v l) (hl : l.length ≤ 1073741824) :
    Calls Tryz.prog 241 #[v] w (RetB fun w' => OwnB w' base v l.reverse ∧ Below base w w') := by
  obtain ⟨A, c, rfl, hc1, hc2⟩ := own_form h
  unfold maxLen at hc2
  rcases Nat.eq_zero_or_pos l.length with h0 | h0
  · obtain rfl := List.eq_nil_of_length_eq_zero h0
    have H := Lib.hid h
    clear h h0
    go_enter Tryz.func241, Tryz.ntmps241
    go_wp2
    go_loopw [2, 3] (fun i j wr => i = .int .i64 0 ∧ j = .int .i64 (-1) ∧ wr = w) (fun _ _ _ => 0)
    case atStart => exact ⟨rfl, rfl, rfl⟩
    case round =>
      obtain ⟨rfl, rfl, rfl⟩ := hrel
      go_wp2_with fail
      exact bodyPost_end (results_none rfl _ _ _) rfl ⟨rfl, H.out, Below.refl _ _⟩
  · obtain ⟨g, rfl, hgb, hgl⟩ := own_some h h0
    have H := Lib.hid h
    clear h
    go_enter Tryz.func241, Tryz.ntmps241
    go_wp2
    go_loopw [2, 3] (fun i j wr => ∃ k : Nat, 2 * k ≤ l.length ∧ i = .int .i64 k ∧ j = .int .i64 ((l.length : Int) - 1 - (k : Int)) ∧ wr.ownsRow base 5 1 (.slice (some ⟨g, 0, none⟩) l.length c) l.length (bvs (revd l k)) ∧ Below base w wr) (fun i _ _ => l.length - (intOf i).toNat)
    case atStart => exact ⟨0, by omega, rfl, by simp, by rw [revd_zero]; exact H.out, Below.refl _ _⟩
    case round =>
      clear H
      obtain ⟨k, hk, rfl, rfl, hown, hb⟩ := hrel
      have HO := Lib.hid hown
      have HB := Lib.hid hb
      clear hown hb
      by_cases h1 : 2 * k + 1 < l.length
      · have e1 := HO.out.cellAt k (by omega)
        have e2 := HO.out.cellAt (l.length - 1 - k) (by omega)
        have e3 := HO.out.frozenAt k
        have e4 := HO.out.frozenAt (l.length - 1 - k)
        have g1 : (bvs (revd l k))[k]? = some (.int .u8 ((l.getD k 0).toNat : Int)) := by
          simp only [bvs, List.getElem?_map]
          rw [revd_get l k k (by omega), if_neg (by omega)]
          rfl
        have g2 : (bvs (revd l k))[l.length - 1 - k]? = some (.int .u8 ((l.getD (l.length - 1 - k) 0).toNat : Int)) := by
          simp only [bvs, List.getElem?_map]
          rw [revd_get l k _ (by omega), if_neg (by omega)]
          rfl
        rw [g1] at e1
        rw [g2] at e2
        clear g1 g2
        have hne : k ≠ l.length - 1 - k := by omega
        go_wp2
        go_region
        go_wp2
        go_roundw
        case rel =>
          have hs := (HO.out.stored k (bv (l.getD (l.length - 1 - k) 0)))
          have hs2 := hs.1.stored (l.length - 1 - k) (bv (l.getD k 0))
          rw [bvs_set', bvs_set', revd_step l k h1] at hs2
          refine ⟨k + 1, by omega, by go_num, by congr 1; omega, own_drew hs2.1, ?_⟩
          exact ((HB.out.setCell (by dsimp only; omega) _).setCell (by dsimp only; omega) _).drew
        case measure => simp [intOf]; omega
      · have h2 : l.length ≤ 2 * k + 1 := by omega
        clear h1
        have hr := Lib.hid (revd_all l k h2)
        go_wp2_with fail
        refine bodyPost_end (results_none rfl _ _ _) rfl ⟨rfl, ?_, HB.out⟩
        unfold OwnB
        rw [List.length_reverse, ← hr.out]
        exact HO.out
theorem bv_nat (m : Nat) : Value.int .u8 ((m : Int) % 256) = bv (UInt8.ofNat m) := by
  unfold bv
  rw [UInt8.toNat_ofNat']
  rfl
theorem bv_small (m : Nat) (h : m < 256) : Value.int .u8 (m : Int) = bv (UInt8.ofNat m) := by
  unfold bv
  rw [UInt8.toNat_ofNat']
  congr 2
  omega
set_option maxHeartbeats 1000000 in
theorem rlp_big (n : Nat) (w : World) (hn : n ≤ 9223372036854775807) : Calls Tryz.prog 223 #[.int .i64 n] w (Ret (fun v w' => OwnB w' w.heap.size v (be n)) w) := by
  have hlen := le_length 8 n (by omega)
  go_enter Tryz.func223, Tryz.ntmps223
  go_wp2
  go_loopw [0, 3] (fun i v wr => ∃ (m : Nat) (acc : List UInt8), m ≤ n ∧ i = .int .i64 m ∧ acc ++ le m = le n ∧ acc.length ≤ 8 ∧ OwnB wr w.heap.size v acc ∧ Below w.heap.size w wr) (fun i _ _ => (intOf i).toNat)
  case atStart => exact ⟨n, [], Nat.le_refl _, rfl, rfl, by simp, OwnB.nil _ _, Below.refl _ _⟩
  case round =>
    obtain ⟨m, acc, hm, rfl, hacc, hal, hown, hb⟩ := hrel
    obtain ⟨A', c', rfl, hc1, hc2⟩ := own_form hown
    have hbs := hb.size
    have HO := Lib.hid hown
    have HB := Lib.hid hb
    have HA := Lib.hid hacc
    clear hown hb hacc
    by_cases h1 : 0 < m
    · have hle := Lib.hid (le_pos m h1)
      have hal2 : acc.length + 1 ≤ 8 := by
        have h2 := congrArg List.length HA.out
        rw [hle.out, List.length_append, List.length_cons] at h2
        omega
      go_wp2_with (at_builtin; refine wpL_append (.tmp 8) (.tmp 11) 35 slT_bytes (base := w.heap.size) _ acc.length (bvs acc) _ 1 1 (wr.heap.size + 1) [.int .u8 ((m : Int) % 256)] rfl rfl rfl rfl (HO.out.alloc _) (Rd.new _ _ _) rfl (by simp [Value.oneCell']) (by simp only [maxLen]; omega) (by omega) (by simp; omega) ?_; intro A2 c2 w2 hown2 hg2 _)
      go_roundw
      case rel =>
        refine ⟨m / 256, acc ++ [UInt8.ofNat m], by omega, by go_num, ?_, by simp; omega, ?_, (HB.out.alloc hbs _).grown hg2 (by simp; omega) fun j hj => own_block_ge HO.out j hj⟩
        · rw [List.append_assoc, List.singleton_append, ← hle.out, HA.out]
        · rw [bv_nat] at hown2
          refine ownB_of hown2 ?_
          rw [bvs_append]
          rfl
      case measure => simp [intOf]; omega
    · have h0 : m = 0 := by omega
      have HE : Hid (acc.reverse = be n) := by
        refine Lib.hid ?_
        have := HA.out
        rw [h0, le_zero, List.append_nil] at this
        rw [this]
        rfl
      clear HA hlen
      go_wp2_with fail
      refine (reverse_bytes w.heap.size _ acc _ HO.out (by omega)).mono ?_
      rintro e w2 ⟨rfl, hown2, hb2⟩
      have HO2 := Lib.hid hown2
      have HB2 := Lib.hid (HB.out.trans hb2)
      clear hown2 hb2
      go_wp2_with fail
      refine bodyPost_ret (results_tmp rfl _ _ _) rfl ?_
      refine ⟨_, rfl, HB2.out, ?_⟩
      rw [← HE.out]
      exact HO2.out
set_option maxHeartbeats 1000000 in
theorem rlp_big_neg (n : Int) (w : World) (h1 : -9223372036854775808 ≤ n) (h2 : n < 0) : Calls Tryz.prog 223 #[.int .i64 n] w (Ret (fun v w' => OwnB w' w.heap.size v []) w) := by
  go_enter Tryz.func223, Tryz.ntmps223
  go_wp2
  go_loopw [0, 3] (fun i v wr => i = .int .i64 n ∧ v = .slice none 0 0 ∧ wr = w) (fun _ _ _ => 0)
  case atStart => exact ⟨rfl, rfl, rfl⟩
  case round =>
    obtain ⟨rfl, rfl, rfl⟩ := hrel
    go_wp2_with fail
    refine (reverse_bytes wr.heap.size _ [] _ (OwnB.nil _ _) (by simp)).mono ?_
    rintro e w2 ⟨rfl, hown2, hb2⟩
    have HO2 := Lib.hid hown2
    have HB2 := Lib.hid hb2
    clear hown2 hb2
    go_wp2_with fail
    refine bodyPost_ret (results_tmp rfl _ _ _) rfl ?_
    exact ⟨_, rfl, HB2.out, HO2.out⟩
set_option maxHeartbeats 1000000 in
theorem clone_bytes (v : Value) (l : List UInt8) (w : World) (h : IsB w v l) (hl : l.length ≤ 140737488355328) : Calls Tryz.prog 224 #[v] w (Ret (fun v w' => OwnB w' w.heap.size v l) w) := by
  obtain ⟨A, c, rfl, hc1, hc2, hr⟩ := h
  cases A with
  | none =>
    have hl0 : l = [] := by
      by_cases hn : bvs l = []
      · simpa [bvs] using hn
      · obtain ⟨b, o, e, _⟩ := hr hn
        cases e
    subst hl0
    clear hr
    have hq := Lib.run_eql_slice_nil w 35 5 none 0 c 0 0 Tryz.underlying35
    go_enter Tryz.func224, Tryz.ntmps224
    go_wp2
    refine bodyPost_ret (results_tmp rfl _ _ _) rfl ?_
    exact ⟨_, rfl, Gr.refl _, OwnB.nil _ _⟩
  | some a =>
    have HR := Lib.hid hr
    clear hr
    have hq := Lib.run_eql_slice_nil w 35 5 (some a) l.length c 0 0 Tryz.underlying35
    go_enter Tryz.func224, Tryz.ntmps224
    go_wp2_with (at_builtin; refine wpL_append (.tmp 5) (.tmp 6) 35 slT_bytes (base := w.heap.size) _ 0 [] _ l.length c w.heap.size (bvs l) rfl rfl rfl rfl (own_lit w #[] 5 1 0 w.heap.size w.heap.size rfl (Nat.le_refl _) (by simp [maxLen]) rfl) (HR.out.below ((Below.refl _ _).alloc (Nat.le_refl _) _)) (by simp [bvs]) (bvs_one _) (by simp only [maxLen]; omega) (by omega) (by simp) ?_; intro A2 c2 w2 hown2 hg2 _)
    refine bodyPost_ret (results_tmp rfl _ _ _) rfl ?_
    refine ⟨_, rfl, ((Below.refl _ _).alloc (Nat.le_refl _) _).grown hg2 (by simp) (fun j hj => by cases hj; exact Nat.le_refl _), ?_⟩
    rw [Nat.zero_add, List.nil_append] at hown2
    exact hown2
set_option maxHeartbeats 1000000 in
theorem rlp_size (n : Nat) (w : World) (hn : n ≤ 4611686018427387904) : Calls Tryz.prog 242 #[.int .i64 n] w (Ret (eqV (.int .i64 (szB n))) w) := by
  have hl := be_length 8 n (by omega)
  by_cases h1 : n < 56
  · have hs := Lib.hid (show szB n = 1 + n from if_pos h1)
    go_enter Tryz.func242, Tryz.ntmps242
    go_wp2_with fail
    refine bodyPost_ret (results_tmp rfl _ _ _) rfl ?_
    refine ⟨_, rfl, Gr.refl _, ?_⟩
    unfold eqV
    rw [hs.out]
    simp
  · have hs := Lib.hid (show szB n = 1 + (be n).length + n from if_neg h1)
    have h2 : 55 < n := by omega
    clear h1
    go_enter Tryz.func242, Tryz.ntmps242
    go_wp2_with fail
    refine (rlp_big n _ (by omega)).mono ?_
    rintro e w1 ⟨v, rfl, hg1, hown⟩
    obtain ⟨A, c, rfl, hc1, hc2⟩ := own_form hown
    clear hown
    unfold maxLen at hc2
    go_wp2_with fail
    refine bodyPost_ret (results_tmp rfl _ _ _) rfl ?_
    refine ⟨_, rfl, hg1, ?_⟩
    unfold eqV
    rw [hs.out]
    simp
set_option maxHeartbeats 1000000 in
theorem rlp_size_any (n : Nat) (w : World) (hn : n ≤ 9223372036854775807) (h2 : 55 < n) : Calls Tryz.prog 242 #[.int .i64 n] w (Ret (fun v _ => ∃ z : Int, v = .int .i64 z) w) := by
  have hl := be_length 8 n (by omega)
  go_enter Tryz.func242, Tryz.ntmps242
  go_wp2_with fail
  refine (rlp_big n _ (by omega)).mono ?_
  rintro e w1 ⟨v, rfl, hg1, hown⟩
  obtain ⟨A, c, rfl, hc1, hc2⟩ := own_form hown
  clear hown
  unfold maxLen at hc2
  go_wp2_with fail
  refine bodyPost_ret (results_tmp rfl _ _ _) rfl ?_
  exact ⟨_, rfl, hg1, _, rfl⟩
set_option maxHeartbeats 1000000 in
theorem rlp_headed (base : Nat) (v : Value) (l : List UInt8) (w : World) (h : IsB w v l) (hl : l.length ≤ 70368744177664) (hb : base ≤ 192) : Calls Tryz.prog 243 #[.int .i64 base, v] w (Ret (fun v w' => OwnB w' w.heap.size v (head l.length base ++ l)) w) := by
  obtain ⟨A, c, rfl, hc1, hc2, hr⟩ := h
  have HR := Lib.hid hr
  clear hr
  unfold maxLen at hc2
  have hbl := be_length 8 l.length (by omega)
  by_cases h1 : l.length < 56
  · have hs := Lib.hid (show head l.length base = [UInt8.ofNat (base + l.length)] from if_pos h1)
    go_enter Tryz.func243, Tryz.ntmps243
    go_wp2_with (at_builtin; refine wpL_append (.tmp 15) (.tmp 16) 35 slT_bytes (base := w.heap.size) _ 1 [.int .u8 (((base : Int) + (l.length : Int)))] _ l.length c w.heap.size (bvs l) rfl rfl rfl rfl (own_lit w #[.int .u8 (((base : Int) + (l.length : Int)))] 5 1 1 w.heap.size w.heap.size rfl (Nat.le_refl _) (by simp [maxLen]) rfl) (HR.out.below ((Below.refl _ _).alloc (Nat.le_refl _) _)) (by simp [bvs]) (bvs_one _) (by simp only [maxLen]; omega) (by omega) (by simp) ?_; intro A2 c2 w2 hown2 hg2 _)
    refine bodyPost_ret (results_tmp rfl _ _ _) rfl ?_
    refine ⟨_, rfl, ((Below.refl _ _).alloc (Nat.le_refl _) _).grown hg2 (by simp) (fun j hj => by cases hj; exact Nat.le_refl _), ?_⟩
    refine ownB_of hown2 ?_
    rw [hs.out, ← Int.natCast_add, bv_small _ (by omega)]
    rfl
  · have hs := Lib.hid (show head l.length base = UInt8.ofNat (base + 55 + (be l.length).length) :: be l.length from if_neg h1)
    have h2 : 55 < l.length := by omega
    clear h1
    go_enter Tryz.func243, Tryz.ntmps243
    go_wp2_with fail
    refine (rlp_big l.length _ (by omega)).mono ?_
    rintro e w1 ⟨v, rfl, hg1, hown⟩
    obtain ⟨A1, c1, rfl, hd1, hd2⟩ := own_form hown
    have HO := Lib.hid hown
    have HG := Lib.hid hg1
    have hz1 := hg1.size
    clear hown hg1
    unfold maxLen at hd2
    have HRB := Lib.hid (OwnB.isB HO.out)
    obtain ⟨_, _, he, _, _, hrb⟩ := OwnB.isB HO.out
    injection he with he1 _ he2
    subst he1 he2
    have HB := Lib.hid hrb
    clear hrb HRB
    go_wp2_with first
      | (at_builtin; refine wpL_append (.tmp 26) (.tmp 27) 35 slT_bytes (base := w.heap.size) _ 1 [.int .u8 (((base : Int) + 55 + ((be l.length).length : Int)))] _ (be l.length).length c1 w1.heap.size (bvs (be l.length)) rfl rfl rfl rfl (own_lit w1 #[.int .u8 (((base : Int) + 55 + ((be l.length).length : Int)))] 5 1 1 w1.heap.size w.heap.size rfl hz1 (by simp [maxLen]) rfl) (HB.out.below ((Below.refl _ _).alloc (Nat.le_refl _) _)) (by simp [bvs]) (bvs_one _) (by simp only [maxLen]; omega) (by omega) (by simp; omega) ?_; intro A2 c2 w2 hown2 hg2 _; have HG2 := Lib.hid ((HG.out.alloc hz1 _).grown hg2 (by simp; omega) (fun j hj => by cases hj; exact hz1)); have HO2 := Lib.hid hown2; clear hown2 hg2)
      | (at_builtin; refine wpL_append (.tmp 28) (.tmp 29) 35 slT_bytes (base := w.heap.size) _ _ _ _ l.length c w.heap.size (bvs l) rfl rfl rfl rfl HO2.out (HR.out.below HG2.out) (by simp [bvs]) (bvs_one _) (by simp only [maxLen]; omega) (by omega) HG2.out.size ?_; intro A3 c3 w3 hown3 hg3 _)
    refine bodyPost_ret (results_tmp rfl _ _ _) rfl ?_
    refine ⟨_, rfl, HG2.out.grown hg3 HG2.out.size fun j hj => own_block_ge HO2.out j hj, ?_⟩
    refine ownB_of hown3 ?_
    have e1 : ((base : Int) + 55 + ((be l.length).length : Int)) = ((base + 55 + (be l.length).length : Nat) : Int) := by simp
    rw [hs.out, e1, bv_small _ (by omega)]
    simp [bvs]
end Go.Proofs.YtdhicdnmgmkpkaaGreat
/-
  Words: variables of words, slices of them.
  Conditions: none.
-/
namespace Go.Proofs.YtdhicdnmgmkpkaaGreat
set_option linter.unusedVariables false
open Go.RowKit Mono Rlp
theorem arr_old {w : World} {g : Nat} {t : TypeId} {l : List UInt8} (h : Arr w g t l) (o : Obj) : Arr (w.alloc o) g t l := (heap_old w o g h.lt).trans h
theorem item_info (cs : Array Value) (h : cs.size = 3) : (Tryz.prog.info? 278).map (·.size) = some cs.size := by
  rw [h]
  kernel_rfl
end Go.Proofs.YtdhicdnmgmkpkaaGreat
/-
  rlp: how an item is measured.
  Conditions: none.
-/
namespace Go.Proofs.YtdhicdnmgmkpkaaGreat
open Go.RowKit Mono Rlp
theorem szB_le (n : Nat) (h : n ≤ most) : szB n ≤ most + 9 := by
  have := be_length 8 n (by simp only [most] at h; omega)
  unfold szB
  split <;> omega
theorem szE_le (bs : List UInt8) (h : bs.length ≤ most) : szE bs ≤ most + 9 := by
  unfold szE
  split
  · simp only [most]; omega
  · exact szB_le _ h
theorem measL_le : ∀ (xs : List Raw) (d n k : Nat), measL xs d n = some k → n ≤ most → k ≤ most
  | [], d, n, k, h, hn => by rw [measL] at h; rw [← Option.some.inj h]; exact hn
  | x :: xs, d, n, k, h, hn => by
    rw [measL] at h
    cases hx : meas x d with
    | none => rw [hx] at h; cases h
    | some j =>
      rw [hx] at h
      dsimp only at h
      split at h
      · cases h
      · exact measL_le xs d _ k h (by omega)
theorem meas_le : ∀ (r : Raw) (d k : Nat), meas r d = some k → k ≤ most + 9
  | .mk false bs _, d, k, h => by
    rw [meas] at h
    split at h
    · rw [← Option.some.inj h]; exact szE_le bs (by assumption)
    · cases h
  | .mk true _ xs, d, k, h => by
    rw [meas] at h
    split at h
    · cases h
    · cases hm : measL xs (d + 1) 0 with
      | none => rw [hm] at h; cases h
      | some j =>
        rw [hm] at h
        rw [← Option.some.inj h]
        exact szB_le _ (measL_le xs _ 0 j hm (by simp [most]))
def MeasV (r : Raw) (d : Nat) : VP := fun v _ => match meas r d with
  | some k => v = .tuple #[.int .i64 (k : Int), .bool true]
  | none => ∃ z : Int, v = .tuple #[.int .i64 z, .bool false]
theorem measV_some {r : Raw} {d k : Nat} {v : Value} {w : World} (h : meas r d = some k) (hv : v = .tuple #[.int .i64 (k : Int), .bool true]) : MeasV r d v w := by unfold MeasV; rw [h]; exact hv
theorem measV_none {r : Raw} {d : Nat} {v : Value} {w : World} (h : meas r d = none) (z : Int) (hv : v = .tuple #[.int .i64 z, .bool false]) : MeasV r d v w := by unfold MeasV; rw [h]; exact ⟨z, hv⟩
set_option maxHeartbeats 1000000 in
set_option maxRecDepth 20000 in
theorem meas_bytes (d : Nat) (v : Value) (bs : List UInt8) (w : World) (hv : IsB w v bs) (xs : List Raw) : Calls Tryz.prog 226 #[.iface 35 v, .int .i64 d] w (Ret (MeasV (.mk false bs xs) d) w) := by
  obtain ⟨A, c, rfl, hc1, hc2, hr⟩ := hv
  have HR := Lib.hid hr
  unfold maxLen at hc2
  clear hr
  by_cases h1 : bs.length = 1
  · obtain ⟨b, rfl⟩ := List.length_eq_one_iff.1 h1
    obtain ⟨bl, o, rfl, hbl, hcell⟩ := HR.out (by simp [bvs])
    have e1 := hcell 0 (bv b) rfl
    rw [Nat.add_zero] at e1
    unfold bv at e1
    clear hcell h1
    have hbl2 := bv_lt b
    simp only [List.length_singleton] at hc1 ⊢
    by_cases h2 : b < 128
    · have h3 : b.toNat < 128 := UInt8.lt_iff_toNat_lt.1 h2
      have HM := Lib.hid (show meas (.mk false [b] xs) d = some 1 by rw [meas, if_pos (by simp [most]), szE, if_pos ⟨rfl, h2⟩])
      clear h2
      go_enter Tryz.func226, Tryz.ntmps226
      go_wp2_with fail
      refine bodyPost_ret (results_tmp2 rfl _ _ _) rfl ?_
      exact ⟨_, rfl, Gr.refl _, measV_some HM.out (by simp)⟩
    · have h3 : 128 ≤ b.toNat := Nat.not_lt.1 fun e => h2 (UInt8.lt_iff_toNat_lt.2 e)
      have HM := Lib.hid (show meas (.mk false [b] xs) d = some (szB 1) by rw [meas, if_pos (by simp [most]), szE, if_neg (fun h => h2 h.2)]; rfl)
      clear h2
      go_enter Tryz.func226, Tryz.ntmps226
      go_wp2_with fail
      refine (rlp_size 1 _ (by omega)).mono ?_
      rintro e w1 ⟨_, rfl, hg1, rfl⟩
      go_wp2_with fail
      refine bodyPost_ret (results_tmp2 rfl _ _ _) rfl ?_
      exact ⟨_, rfl, hg1, measV_some HM.out (by simp)⟩
  · have hd : ((bs.length : Int) == 1) = false := by simp; omega
    by_cases h2 : bs.length ≤ most
    · have HM := Lib.hid (show meas (.mk false bs xs) d = some (szB bs.length) by rw [meas, if_pos h2, szE, if_neg (fun h => h1 h.1)])
      simp only [most] at h2
      clear h1
      go_enter Tryz.func226, Tryz.ntmps226
      go_wp2_with fail
      refine (rlp_size bs.length _ (by omega)).mono ?_
      rintro e w1 ⟨_, rfl, hg1, rfl⟩
      go_wp2_with fail
      refine bodyPost_ret (results_tmp2 rfl _ _ _) rfl ?_
      exact ⟨_, rfl, hg1, measV_some HM.out (by simp; omega)⟩
    · have HM := Lib.hid (show meas (.mk false bs xs) d = none by rw [meas, if_neg h2])
      have h3 : 16777216 < bs.length := by simp only [most] at h2; omega
      clear h1 h2
      go_enter Tryz.func226, Tryz.ntmps226
      go_wp2_with fail
      refine (rlp_size_any bs.length _ (by omega) (by omega)).mono ?_
      rintro e w1 ⟨_, rfl, hg1, z, rfl⟩
      go_wp2_with fail
      refine bodyPost_ret (results_tmp2 rfl _ _ _) rfl ?_
      exact ⟨_, rfl, hg1, measV_none HM.out z (by simp; try omega)⟩
set_option maxHeartbeats 4000000 in
set_option maxRecDepth 20000 in
theorem rlp_measure : ∀ (m d : Nat), d + m = 32 → ∀ (r : Raw) (v : Value) (w : World), IsOf w v r → Calls Tryz.prog 226 #[v, .int .i64 d] w (Ret (MeasV r d) w)
  | m, d, hd, .mk false bs xs, v, w, h => by
    obtain ⟨vb, rfl, hb⟩ := h
    exact meas_bytes d vb bs w hb xs
  | 0, d, hd, .mk true bs xs, v, w, h => by
    obtain ⟨vl, rfl, A, c, rows, rfl, _, _, _, _, _⟩ := h
    obtain rfl : d = 32 := by omega
    have HM := Lib.hid (show meas (.mk true bs xs) 32 = none by rw [meas, if_pos rfl])
    go_enter Tryz.func226, Tryz.ntmps226
    go_wp2_with fail
    refine bodyPost_ret (results_tmp2 rfl _ _ _) rfl ?_
    exact ⟨_, rfl, Gr.refl _, measV_none HM.out 0 rfl⟩
  | m + 1, d, hd, .mk true bs xs, v, w, h => by
    have ih := Lib.hid (rlp_measure m (d + 1) (by omega))
    obtain ⟨vl, rfl, A, c, rows, rfl, hc1, hc2, _, hr, hi⟩ := h
    have HR := Lib.hid hr
    have HI := Lib.hid hi
    have hd2 : d < 32 := by omega
    have hdd : ((d : Int) == 32) = false := by simp; omega
    unfold maxLen at hc2
    clear hr hi
    go_enter Tryz.func226, Tryz.ntmps226
    go_wp2_with fail
    go_loopw [8, 39] (fun nv i wr => ∃ k n : Nat, k ≤ xs.length ∧ i = .int .i64 k ∧ nv = .int .i64 n ∧ n ≤ 16777216 ∧ measL xs (d + 1) 0 = measL (xs.drop k) (d + 1) n ∧ Gr w wr) (fun _ i _ => xs.length - (intOf i).toNat)
    case atStart => exact ⟨0, 0, by omega, rfl, rfl, by omega, rfl, Gr.refl _⟩
    case round =>
      obtain ⟨k, n, hk, rfl, rfl, hn, hM, hb⟩ := hrel
      have HM := Lib.hid hM
      have HB := Lib.hid hb
      have hbs := hb.size
      clear hM hb
      by_cases h1 : k < xs.length
      · obtain ⟨bl, o, f, vb, vl, rfl, hbl, e1, e2, e3, hx, ⟨A2, n2, c2, rfl⟩, A', n', c', rfl⟩ := items_at HR.out HI.out k h1
        have e1' := (HB.out.cell (p := ⟨bl, o + k * 3, none⟩) hbl).trans e1
        have e2' := (HB.out.cell (p := ⟨bl, o + k * 3 + 1, none⟩) hbl).trans e2
        have e3' := (HB.out.cell (p := ⟨bl, o + k * 3 + 2, none⟩) hbl).trans e3
        have HX := Lib.hid (hx.gr HB.out)
        clear e1 e2 e3 hx
        go_wp2_with (refine wpList_store_row rfl 278 (.tmp 10) (.tmp 42) rfl wr.heap.size #[.bool f, .slice A2 n2 c2, .slice A' n' c'] rfl rfl 278 _ (heap_alloc_new wr _) (by kernel_rfl) (by kernel_rfl) (by simp [Value.oneCell']) ?_; rw [World.setRow_alloc_new])
        refine (rlp_of _ xs[k] _ (HX.out.gr (gr_alloc _ _))).mono ?_
        rintro e w1 ⟨v1, rfl, hg1, ho1⟩
        have HG1 := Lib.hid ((gr_alloc _ _).trans hg1)
        have HO1 := Lib.hid ho1
        clear hg1 ho1
        go_wp2_with fail
        refine (ih.out xs[k] v1 _ HO1.out).mono ?_
        rintro e w2 ⟨v2, rfl, hg2, hm2⟩
        have HG2 := Lib.hid ((HB.out.trans HG1.out).trans hg2)
        have hdk : xs.drop k = xs[k] :: xs.drop (k + 1) := List.drop_eq_getElem_cons h1
        have HM2 : Hid (measL xs (d + 1) 0 = match meas xs[k] (d + 1) with | none => none | some j => if n + j > most then none else measL (xs.drop (k + 1)) (d + 1) (n + j)) := by
          refine Lib.hid ?_
          rw [HM.out, hdk, measL]
          cases meas xs[k] (d + 1) <;> rfl
        unfold MeasV at hm2
        clear HO1 HG1 hg2 HM hdk HX e1' e2' e3'
        cases hmx : meas xs[k] (d + 1) with
        | none =>
          rw [hmx] at HM2 hm2
          obtain ⟨z, rfl⟩ := hm2
          have HM3 := Lib.hid (show meas (.mk true bs xs) d = none by rw [meas, if_neg (by omega), HM2.out]; rfl)
          clear hmx HM2
          go_wp2_with fail
          refine bodyPost_ret (results_tmp2 rfl _ _ _) rfl ?_
          exact ⟨_, rfl, HG2.out, measV_none HM3.out 0 (by simp)⟩
        | some j =>
          rw [hmx] at HM2 hm2
          dsimp only at hm2
          subst hm2
          have hj := meas_le _ _ _ hmx
          simp only [most] at hj
          clear hmx
          by_cases h3 : n + j > 16777216
          · have HM3 := Lib.hid (show meas (.mk true bs xs) d = none by rw [meas, if_neg (by omega), HM2.out]; dsimp only; rw [if_pos h3]; rfl)
            clear HM2
            go_wp2_with fail
            refine bodyPost_ret (results_tmp2 rfl _ _ _) rfl ?_
            exact ⟨_, rfl, HG2.out, measV_none HM3.out 0 (by simp)⟩
          · have HM3 := Lib.hid (show measL xs (d + 1) 0 = measL (xs.drop (k + 1)) (d + 1) (n + j) by rw [HM2.out]; dsimp only; rw [if_neg h3])
            clear HM2
            go_wp2_with fail
            go_roundw
            case rel => exact ⟨k + 1, n + j, by omega, by go_num, by go_num, by omega, HM3.out, HG2.out⟩
            case measure => simp [intOf]; omega
      · have h2 : xs.length ≤ k := by omega
        have HM2 := Lib.hid (show meas (.mk true bs xs) d = some (szB n) by
          rw [meas, if_neg (by omega), HM.out, List.drop_eq_nil_of_le h2, measL]
          rfl)
        clear h1 HM
        go_wp2_with fail
        refine (rlp_size n _ (by omega)).mono ?_
        rintro e w2 ⟨_, rfl, hg2, rfl⟩
        have HG2 := Lib.hid (HB.out.trans hg2)
        clear hg2
        go_wp2_with fail
        refine bodyPost_ret (results_tmp2 rfl _ _ _) rfl ?_
        exact ⟨_, rfl, HG2.out, measV_some HM2.out (by simp)⟩
end Go.Proofs.YtdhicdnmgmkpkaaGreat
/-
  Items in plain words: what bytes are read as.
  Conditions: none. No program is named here.
-/
namespace Go.Proofs.YtdhicdnmgmkpkaaGreat
namespace Rlp
set_option maxRecDepth 100000
def hdr (b : List UInt8) (base : Nat) : Option (Nat × Nat) :=
  if (b.getD 0 0).toNat - base ≤ 55 then
    if (b.getD 0 0).toNat - base ≤ b.length - 1 then some (1, (b.getD 0 0).toNat - base) else none
  else if b.length < 1 + ((b.getD 0 0).toNat - base - 55) ∨ b.getD 1 0 = 0 then none
  else if val ((b.drop 1).take ((b.getD 0 0).toNat - base - 55)) > most then none
  else if 55 < val ((b.drop 1).take ((b.getD 0 0).toNat - base - 55)) ∧ val ((b.drop 1).take ((b.getD 0 0).toNat - base - 55)) ≤ b.length - 1 - ((b.getD 0 0).toNat - base - 55) then
    some (1 + ((b.getD 0 0).toNat - base - 55), val ((b.drop 1).take ((b.getD 0 0).toNat - base - 55)))
  else none
/-! ### What is read is an item's bytes -/
/-! ### An item's bytes are read as it -/
theorem head_pos (n base : Nat) : 0 < (head n base).length := by
  unfold head
  split <;> simp
/-! ### Items that are one -/
end Rlp
end Go.Proofs.YtdhicdnmgmkpkaaGreat
