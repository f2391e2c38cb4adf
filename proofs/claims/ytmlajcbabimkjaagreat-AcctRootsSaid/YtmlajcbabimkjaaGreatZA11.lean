/-
  Merged (wip/tools/merge.py): ET, TE, Cmp0, EQ0, Path, Split, Join, Join2, Join3.
  Conditions: none.
-/
import Derived.Test.YtmlajcbabimkjaaGreatZA10
import Derived.Test.YtmlajcbabimkjaaGreatZA7
import Derived.Test.YtmlajcbabimkjaaGreatZA8
import Derived.Test.YtmlajcbabimkjaaGreatZA2
import Derived.Lib.Bytealg
import Derived.Lib.BytesEntry
import Derived.Sort.Walk0
import Derived.BigQuiet
import Derived.Deep.QuietTactic
import Derived.StillTailTactics
/-
  The abstract machine: regions that draw their order, whose writing operations are not all in one row: at each place all that are ready.
  Conditions: none.
-/
namespace Go.Proofs.YtmlajcbabimkjaaGreat
set_option linter.unusedVariables false
open Go.RowKit Mono Rlp
namespace E
def readyL (l : List Oper) (chain done : List Nat) : List Nat := chain.filter fun k => !done.contains k && match l[k]? with
  | some o => o.after.toList.all fun e => !(Region.binds .any e) || !chain.contains e.on || done.contains e.on
  | none => true
def CT (N : Nat) (l : List Oper) (os1 : List Obj) (T : St → Prop) (chain : List Nat) : Nat → List Nat → St → Prop
  | 0, _, S => T S
  | m + 1, done, S => ∀ k ∈ readyL l chain done, CH N l.toArray os1 (fun S' => CT N l os1 T chain m (k :: done) S') (pickL l [k]) S
theorem CT.pick {N : Nat} {l : List Oper} {os1 : List Obj} {T : St → Prop} {chain : List Nat} {m : Nat} {done : List Nat} {S : St} (ks : List Nat) (hk : readyL l chain done = ks) (h : ∀ k ∈ ks, CH N l.toArray os1 (fun S' => CT N l os1 T chain m (k :: done) S') (pickL l [k]) S) : CT N l os1 T chain (m + 1) done S := by
  unfold CT
  rw [hk]
  exact h
theorem CT.nil {N : Nat} {l : List Oper} {os1 : List Obj} {T : St → Prop} {chain : List Nat} {done : List Nat} {S : St} (h : T S) : CT N l os1 T chain 0 done S := h
end E
end Go.Proofs.YtmlajcbabimkjaaGreat
/-
  The abstract machine, more: slices of bytes and of arrays that are known, an array's part, interfaces beside nil, what writes no piece.
  Conditions: none.
-/
namespace Go.Proofs.YtmlajcbabimkjaaGreat
set_option linter.unusedVariables false
open Go.RowKit Mono Rlp
namespace E
section
variable {N : Nat} {X : Cx N} {S : St} {ops : Array Oper} {o : Oper} {Q : Exit → Act → World → Prop} {l : List Oper} {TT : St → List Fr → Prop} {EE : List Fr} {rs : List (Tmp × R)} {os : List Obj} {fs : List (Value × D)}
theorem g_slpd {x : Operand} {T n m : Nat} {b : List UInt8} (hA : SliceA T n) (hn : Nat.ble n 4096 = true) (ho : o.op = .slice T x none none none) (hx : ev S x = some (.val (.pd (.arr m b)))) (hm : m = n) (h0 : Nat.blt 0 n = true) : Still ops S o (.val (.bs b)) := fun base ok a w ha => by
  subst hm
  have h1 := (readV_one rfl).1 (ha.ev hx fun t e => looks_of e (by rw [ho]; simp [Op.operands]))
  rw [Reads] at h1
  obtain ⟨g, k, cs, e, hg, hr, h2⟩ := h1
  rw [Reads] at h2
  obtain ⟨hl, rfl⟩ := h2
  have e' : a.eval x = .pointer (some ⟨g, k, none⟩) := List.singleton_inj.1 e
  simp only [Nat.ble_eq] at hn
  refine ⟨.slice (some ⟨g, k, none⟩) m m, ?_, (readV_one rfl).2 ?_⟩
  · unfold execOp
    simp only [ho, e', Option.map_none, Sem.run_bind, hA.ok w g k, Result.andThen_ok, Sem.run_pure]
  · rw [Reads]
    refine ⟨_, rfl, some ⟨g, k, none⟩, m, by rw [hl], by omega, by simp [maxLen]; omega, fun _ => ⟨g, k, rfl, hg, fun j u hu => hr j u hu⟩⟩
theorem P_slpd {t ty : Nat} {pos : String} {af : Array Edge} {gd : Option (Nat × Bool)} {x : Operand} {T n m : Nat} {b : List UInt8} (hA : SliceA T n) (hn : Nat.ble n 4096 = true) (hx : ev (⟨rs, os, fs⟩ : St) x = some (.val (.pd (.arr m b)))) (hm : m = n) (h0 : Nat.blt 0 n = true) (hg : guardOf ops ⟨rs, os, fs⟩ ⟨some t, .slice T x none none none, ty, pos, af, gd⟩ = some true) (hN : Nat.blt t N = true) (kk : EL X ops Q l ⟨(t, .val (.bs b)) :: rs, os, fs⟩) : EL X ops Q (⟨some t, .slice T x none none none, ty, pos, af, gd⟩ :: l) ⟨rs, os, fs⟩ := ES.still (g_slpd hA hn rfl hx hm h0) hg rfl hN kk
theorem H_slpd {t ty : Nat} {pos : String} {af : Array Edge} {gd : Option (Nat × Bool)} {x : Operand} {T n m : Nat} {b : List UInt8} (hA : SliceA T n) (hn : Nat.ble n 4096 = true) (hx : ev (⟨rs, os, fs⟩ : St) x = some (.val (.pd (.arr m b)))) (hm : m = n) (h0 : Nat.blt 0 n = true) (hg : guardOf ops ⟨rs, os, fs⟩ ⟨some t, .slice T x none none none, ty, pos, af, gd⟩ = some true) (hoff : offB N (some t) EE = true) (kk : EM N ops TT l ⟨(t, .val (.bs b)) :: rs, os, fs⟩ EE) : EM N ops TT (⟨some t, .slice T x none none none, ty, pos, af, gd⟩ :: l) ⟨rs, os, fs⟩ EE := EH.still (g_slpd hA hn rfl hx hm h0) hg rfl hoff kk
theorem bs_take1 {x y : Operand} {T e b : Nat} {k : Int} {m : List UInt8} (ho : o.op = .slice T x none (some y) none) (hx : ev S x = some (.val (.bs m))) (hy : ev S y = some (.val (.v (.int .i64 k)))) (hT : assoc slL T = some (e, 1, b)) (hk : 0 ≤ k ∧ k.toNat ≤ m.length) : Still ops S o (.val (.bs (m.take k.toNat))) := fun base ok a w ha => by
  obtain ⟨A, c, h1, h2, h3, h4⟩ := bs_ex (ha.ev hx (looks_op (by rw [ho]; simp [Op.operands])))
  have hy' := ev_v ha hy (looks_op (by rw [ho]; simp [Op.operands]))
  obtain ⟨hu, hs⟩ := elem_und hT
  refine ⟨.slice (if c = 0 then A else A.map (·.add (0 * 1))) (k.toNat - 0) (c - 0), ?_, bs_mk ⟨A, c, ?_, by rw [List.length_take]; omega, h3, fun hne => ?_⟩⟩
  · unfold execOp
    simp only [ho, h1, hy', Option.map_none, Option.map_some, Sem.run_bind]
    rw [run_sliceAt_slice _ _ _ _ _ _ hu, run_slice_h _ _ _ _ _ hu _ _ (by omega) (by omega), hs]
    simp only [Result.andThen_ok, Sem.run_pure, sliced]
  · have h5 : (if c = 0 then A else A.map (·.add (0 * 1))) = A := by
      split
      · rfl
      · cases A <;> simp [Addr.add]
    rw [h5, List.length_take, Nat.min_eq_left hk.2]
    rfl
  · rw [bvs_take] at hne ⊢
    obtain ⟨b, o, e1, e2, e3⟩ := h4 (fun e => hne (by rw [e]; simp))
    refine ⟨b, o, e1, e2, fun j u hu => e3 j u ?_⟩
    rw [List.getElem?_take] at hu
    split at hu
    · exact hu
    · cases hu
theorem bs_from1 {x y : Operand} {T e b : Nat} {k : Int} {m : List UInt8} (ho : o.op = .slice T x (some y) none none) (hx : ev S x = some (.val (.bs m))) (hy : ev S y = some (.val (.v (.int .i64 k)))) (hT : assoc slL T = some (e, 1, b)) (hk : 0 ≤ k ∧ k.toNat ≤ m.length) : Still ops S o (.val (.bs (m.drop k.toNat))) := fun base ok a w ha => by
  obtain ⟨A, c, h1, h2, h3, h4⟩ := bs_ex (ha.ev hx (looks_op (by rw [ho]; simp [Op.operands])))
  have hy' := ev_v ha hy (looks_op (by rw [ho]; simp [Op.operands]))
  obtain ⟨hu, hs⟩ := elem_und hT
  refine ⟨.slice (if c = k.toNat then A else A.map (·.add (k.toNat * 1))) (m.length - k.toNat) (c - k.toNat), ?_, bs_mk ⟨if c = k.toNat then A else A.map (·.add (k.toNat * 1)), c - k.toNat, by rw [List.length_drop], by rw [List.length_drop]; omega, by omega, ?_⟩⟩
  · unfold execOp
    have hr : (Instr.sliceAt T (.slice A m.length c) (some (.int .i64 k)) none none).run Tryz.prog w = .ok (.slice (if c = k.toNat then A else A.map (·.add (k.toNat * 1))) (m.length - k.toNat) (c - k.toNat)) w := by
      rw [run_sliceAt_slice (P := Tryz.prog) w T _ _ _ _ hu, run_slice_l (P := Tryz.prog) w T A m.length c hu .i64 k hk.1 (by omega), hs]
      rfl
    simp only [ho, h1, hy', Option.map_none, Option.map_some, Sem.run_bind, hr, Result.andThen_ok, Sem.run_pure]
  · have := rdp_drop (z := 1) h4 (by rw [bvs_length, Nat.mul_one]) h2 k.toNat hk.2
    rw [Nat.mul_one] at this
    rw [Nat.mul_one]
    unfold bvs at this ⊢
    rw [List.map_drop]
    exact this
theorem P_bsto {t ty : Nat} {pos : String} {af : Array Edge} {gd : Option (Nat × Bool)} {x y : Operand} {T e b : Nat} {k : Int} {m : List UInt8} (hx : ev (⟨rs, os, fs⟩ : St) x = some (.val (.bs m))) (hy : ev (⟨rs, os, fs⟩ : St) y = some (.val (.v (.int .i64 k)))) (hT : assoc slL T = some (e, 1, b)) (hk : 0 ≤ k ∧ k.toNat ≤ m.length) (hg : guardOf ops ⟨rs, os, fs⟩ ⟨some t, .slice T x none (some y) none, ty, pos, af, gd⟩ = some true) (hN : Nat.blt t N = true) (kk : EL X ops Q l ⟨(t, .val (.bs (m.take k.toNat))) :: rs, os, fs⟩) : EL X ops Q (⟨some t, .slice T x none (some y) none, ty, pos, af, gd⟩ :: l) ⟨rs, os, fs⟩ := ES.still (bs_take1 rfl hx hy hT hk) hg rfl hN kk
theorem H_bsto {t ty : Nat} {pos : String} {af : Array Edge} {gd : Option (Nat × Bool)} {x y : Operand} {T e b : Nat} {k : Int} {m : List UInt8} (hx : ev (⟨rs, os, fs⟩ : St) x = some (.val (.bs m))) (hy : ev (⟨rs, os, fs⟩ : St) y = some (.val (.v (.int .i64 k)))) (hT : assoc slL T = some (e, 1, b)) (hk : 0 ≤ k ∧ k.toNat ≤ m.length) (hg : guardOf ops ⟨rs, os, fs⟩ ⟨some t, .slice T x none (some y) none, ty, pos, af, gd⟩ = some true) (hoff : offB N (some t) EE = true) (kk : EM N ops TT l ⟨(t, .val (.bs (m.take k.toNat))) :: rs, os, fs⟩ EE) : EM N ops TT (⟨some t, .slice T x none (some y) none, ty, pos, af, gd⟩ :: l) ⟨rs, os, fs⟩ EE := EH.still (bs_take1 rfl hx hy hT hk) hg rfl hoff kk
theorem H_bsfrom {t ty : Nat} {pos : String} {af : Array Edge} {gd : Option (Nat × Bool)} {x y : Operand} {T e b : Nat} {k : Int} {m : List UInt8} (hx : ev (⟨rs, os, fs⟩ : St) x = some (.val (.bs m))) (hy : ev (⟨rs, os, fs⟩ : St) y = some (.val (.v (.int .i64 k)))) (hT : assoc slL T = some (e, 1, b)) (hk : 0 ≤ k ∧ k.toNat ≤ m.length) (hg : guardOf ops ⟨rs, os, fs⟩ ⟨some t, .slice T x (some y) none none, ty, pos, af, gd⟩ = some true) (hoff : offB N (some t) EE = true) (kk : EM N ops TT l ⟨(t, .val (.bs (m.drop k.toNat))) :: rs, os, fs⟩ EE) : EM N ops TT (⟨some t, .slice T x (some y) none none, ty, pos, af, gd⟩ :: l) ⟨rs, os, fs⟩ EE := EH.still (bs_from1 rfl hx hy hT hk) hg rfl hoff kk
theorem g_indextup {x y : Operand} {T n e z : Nat} {k : Int} {ds : List D} {d : D} (ho : o.op = .index T x y) (hx : ev S x = some (.val (.tup ds))) (hy : ev S y = some (.val (.v (.int .i64 k)))) (hT : assoc arL T = some (n, e, z)) (hz : z = 1) (he : ∀ w, (isAgg e).run Tryz.prog w = .ok false w) (hs : ∀ d ∈ ds, d.size = 1 ∧ d.agg = false) (hn : ds.length = n) (hk : 0 ≤ k ∧ ds[k.toNat]? = some d) : Still ops S o (.val d) := fun base ok a w ha => by
  subst hz
  obtain ⟨cs, h1, h2⟩ := (readV_agg rfl).1 (ha.ev hx (looks_op (by rw [ho]; simp [Op.operands])))
  have hy' := ev_v ha hy (looks_op (by rw [ho]; simp [Op.operands]))
  obtain ⟨hk', rfl⟩ := List.getElem?_eq_some_iff.1 hk.2
  rw [Reads] at h1
  have hcs : ∀ (ds : List D) (cs : List Value), (∀ d ∈ ds, d.size = 1 ∧ d.agg = false) → ReadsL ok w ds cs → cs.length = ds.length ∧ ∀ (i : Nat) (hi : i < ds.length), ∃ u, cs[i]? = some u ∧ Reads ok w ds[i] [u] := by
    intro ds
    induction ds with
    | nil =>
      intro cs _ h
      rw [ReadsL] at h
      subst h
      exact ⟨rfl, fun i hi => absurd hi (Nat.not_lt_zero _)⟩
    | cons d ds ih =>
      intro cs hd h
      rw [ReadsL] at h
      obtain ⟨c1, c2, rfl, g1, g2⟩ := h
      obtain ⟨u, rfl⟩ : ∃ u, c1 = [u] := List.length_eq_one_iff.1 ((Reads.len _ _ g1).trans (hd d (by simp)).1)
      obtain ⟨i1, i2⟩ := ih c2 (fun d hd' => hd d (by simp [hd'])) g2
      refine ⟨by simp [i1], fun i hi => ?_⟩
      cases i with
      | zero => exact ⟨u, rfl, g1⟩
      | succ i => simpa using i2 i (by simpa using hi)
  obtain ⟨hl, hat⟩ := hcs ds cs hs h1
  obtain ⟨u, hu, hr⟩ := hat k.toNat hk'
  refine ⟨u, ?_, (readV_one (hs _ (List.getElem_mem hk')).2).2 hr⟩
  have hlt : k < (n : Int) := by omega
  have hA := arI' hT
  have hrun : (Instr.index T (.agg cs.toArray) (.int .i64 k)).run Tryz.prog w = .ok u w := by
    unfold Instr.index
    have h0 := hk.1
    simp [run_underlying hA.und, asIntOf, h0, hlt, run_size hA.size, part, he, hu]
  unfold execOp
  simp only [ho, h2, hy', Sem.run_bind, hrun, Result.andThen_ok, Sem.run_pure]
theorem Still.refine {d d' : D} (h : Still ops S o (.val d)) (hR : RefineL S.facts [d] [d']) : Still ops S o (.val d') := fun base ok a w ha => by
  obtain ⟨v, h1, h2⟩ := h base ok a w ha
  exact ⟨v, h1, Refine1.readV ha.facts hR h2⟩
theorem P_buildR {t ty : Nat} {pos : String} {af : Array Edge} {gd : Option (Nat × Bool)} {T : Nat} {parts : Array (Nat × Operand)} {lf : List (Nat × Nat × Bool)} {d0 d d' : D} {ps : List (Nat × D)} (hx : evps (⟨rs, os, fs⟩ : St) parts.toList = some ps) (hT : assoc stL T = some lf) (hz : assoc zeroL T = some d0) (hd0 : d0.agg = true) (hf : fillD (lf.map fun x => (x.1, x.2.1)) d0 ps = some d) (hR : RefineL fs [d] [d']) (hg : guardOf ops ⟨rs, os, fs⟩ ⟨some t, .build T parts, ty, pos, af, gd⟩ = some true) (hN : Nat.blt t N = true) (kk : EL X ops Q l ⟨(t, (.val d')) :: rs, os, fs⟩) : EL X ops Q (⟨some t, .build T parts, ty, pos, af, gd⟩ :: l) ⟨rs, os, fs⟩ := ES.still (Still.refine (g_buildI rfl hx hT hz hd0 hf) hR) hg rfl hN kk
theorem H_buildR {t ty : Nat} {pos : String} {af : Array Edge} {gd : Option (Nat × Bool)} {T : Nat} {parts : Array (Nat × Operand)} {lf : List (Nat × Nat × Bool)} {d0 d d' : D} {ps : List (Nat × D)} (hx : evps (⟨rs, os, fs⟩ : St) parts.toList = some ps) (hT : assoc stL T = some lf) (hz : assoc zeroL T = some d0) (hd0 : d0.agg = true) (hf : fillD (lf.map fun x => (x.1, x.2.1)) d0 ps = some d) (hR : RefineL fs [d] [d']) (hg : guardOf ops ⟨rs, os, fs⟩ ⟨some t, .build T parts, ty, pos, af, gd⟩ = some true) (hoff : offB N (some t) EE = true) (kk : EM N ops TT l ⟨(t, (.val d')) :: rs, os, fs⟩ EE) : EM N ops TT (⟨some t, .build T parts, ty, pos, af, gd⟩ :: l) ⟨rs, os, fs⟩ EE := EH.still (Still.refine (g_buildI rfl hx hT hz hd0 hf) hR) hg rfl hoff kk
end
theorem FnM.toFn {f : FuncId} {ds : List D} {Φ : R → Prop} (h : FnM f ds [] (fun r os' => Φ r ∧ os' = [])) : Fn f ds Φ := ⟨fun ok w xs hok hr => by
  refine (h.go ok w xs hok ⟨fun o ho => by simp at ho, .nil, fun b ⟨o, ho, _⟩ => by simp at ho⟩ hr).mono ?_
  rintro e w' ⟨v, r, os', rfl, ⟨hΦ, rfl⟩, ht, hv⟩
  refine ⟨ht.gr.gr fun b ⟨o, ho, _⟩ => by simp at ho, v, r, rfl, hΦ, hv.mono (fun b hb => ⟨?_, hb.2.1⟩) fun _ _ => rfl⟩
  rcases hb.1 with h | ⟨o, ho, _⟩ | h
  · exact .inl h
  · simp at ho
  · exact .inr h⟩
end E
end Go.Proofs.YtmlajcbabimkjaaGreat
/-
  bytes.Compare: the order of bytes.
  Conditions: none.
-/
namespace Go.Proofs.YtmlajcbabimkjaaGreat
set_option linter.unusedVariables false
open Go.RowKit Mono
abbrev cmpB (l m : List UInt8) : Int := Lib.compareBytes l m
theorem less_cmp : ∀ a b : List UInt8, Op.bytesLess a b = decide (cmpB a b < 0)
  | [], [] => rfl
  | _ :: _, [] => rfl
  | [], _ :: _ => rfl
  | a :: x, b :: y => by
    rw [Op.bytesLess, cmpB, Lib.compareBytes, less_cmp x y]
    by_cases h1 : a < b
    · simp [h1]
    · by_cases h2 : b < a
      · have h3 : ¬ a = b := fun e => by subst e; exact h1 h2
        simp [h1, h2, h3]
      · have h3 : a = b := by
          apply UInt8.toNat_inj.1
          have := UInt8.not_lt.1 h1
          have := UInt8.not_lt.1 h2
          exact Nat.le_antisymm (UInt8.le_iff_toNat_le.1 (UInt8.not_lt.1 h2)) (UInt8.le_iff_toNat_le.1 (UInt8.not_lt.1 h1))
        subst h3
        simp [h1]
theorem run_bytesOf {w : World} {v : Value} {l : List UInt8} (h : IsB w v l) : (Extern.Bytes.bytesOf v).run Tryz.prog w = .ok (bs l) w := by
  obtain ⟨A, c, rfl, h1, h2, hr⟩ := h
  cases A with
  | none =>
    have : l = [] := by
      by_cases hl : bvs l = []
      · simpa [bvs] using hl
      · obtain ⟨b, o, e, _⟩ := hr hl
        cases e
    subst this
    rfl
  | some ad =>
    have := Lib.run_loadBytesX (P := Tryz.prog) (w := w) (l.map fun x => (x.toNat : Int)) ad .empty fun j x hx => by
      rw [List.getElem?_map] at hx
      obtain ⟨y, hy, rfl⟩ := Option.map_eq_some_iff.1 hx
      obtain ⟨b, o, e, _, hc⟩ := hr (fun e => by have := congrArg List.length e; rw [bvs_length] at this; simp at this; rw [this] at hy; simp at hy)
      injection e with e
      subst e
      rw [add_none]
      exact hc j _ (by simp [bvs, bv, hy])
    rw [List.length_map] at this
    show (Extern.Bytes.loadBytes ad l.length .empty).run Tryz.prog w = _
    rw [this]
    have h2 : Lib.bytesOf (l.map fun x => (x.toNat : Int)) = l := by
      simp only [Lib.bytesOf, List.map_map]
      refine (List.map_congr_left fun x _ => ?_).trans (List.map_id l)
      simp
    rw [h2]
    simp [bs]
theorem run_compare {w : World} {v u : Value} {l m : List UInt8} (h1 : IsB w v l) (h2 : IsB w u m) : (Extern.BytealgCompare.compare #[v, u]).run Tryz.prog w = .ok (.int .i64 (cmpB l m)) w := by
  change Sem.run Tryz.prog (do pure (goInt (Extern.BytealgCompare.cmp (← Extern.Bytes.bytesOf v) (← Extern.Bytes.bytesOf u)))) w = _
  simp only [Sem.run_bind, run_bytesOf h1, run_bytesOf h2, Result.andThen_ok, Sem.run_pure, Lib.cmp_eq]
  rfl
set_option maxRecDepth 20000 in
set_option maxHeartbeats 1000000 in
theorem bytes_CompareW (v u : Value) (l m : List UInt8) (w : World) (h1 : IsB w v l) (h2 : IsB w u m) : Calls Tryz.prog 65 #[v, u] w fun e w' => e = .returned (.int .i64 (cmpB l m)) ∧ w' = w := by
  have hr := run_compare h1 h2
  go_enter Tryz.func65, Tryz.ntmps65
  go_wp2_with fail
  rw [run_callFunc_extern Tryz.func94 (by kernel_rfl) (by kernel_rfl) (by kernel_rfl) (e := Extern.BytealgCompare.compare) (by kernel_rfl), hr]
  simp only [Result.andThen]
  rw [Oper.upon_value]
  go_wp2_with fail
  exact bodyPost_ret (results_tmp rfl _ _ _) rfl ⟨rfl, rfl⟩
theorem bl_iff (a b : List UInt8) : Op.bytesLess a b = decide (a < b) := Go.Proofs.bytesLess_eq a b
theorem cmpB_lt (a b : List UInt8) : decide (cmpB a b < 0) = decide (a < b) := by rw [← less_cmp, bl_iff]
end Go.Proofs.YtmlajcbabimkjaaGreat
/-
  bytes.Compare of arrays in variables of the call's own; bytes.Equal.
  Conditions: none.
-/
namespace Go.Proofs.YtmlajcbabimkjaaGreat
set_option linter.unusedVariables false
open Go.RowKit Mono Rlp
namespace E
section
variable {N : Nat} {X : Cx N} {S : St} {ops : Array Oper} {o : Oper} {Q : Exit → Act → World → Prop} {l' : List Oper} {rs : List (Tmp × R)} {os : List Obj} {fs : List (Value × D)}
theorem isB_var {base ok : Nat → Prop} {L : Tmp → Prop} {a : Act} {w : World} (ha : Kn base ok L S a w) {x : Operand} {g n m i : Nat} {t : TypeId} {d : D} {l : List UInt8} (hL : ∀ u, x = .tmp u → L u) (hx : ev S x = some (.val (.v (.slice (some ⟨g, n, none⟩) m m)))) (hi : S.objs[i]? = some (.var g t d)) (hs : d.sub n m true = some (.arr m l)) (hm : Nat.ble m 4096 = true) : IsB w (a.eval x) l := by
  have hx' := ev_v ha hx hL
  obtain ⟨_, cs, hh, hr⟩ := ha.objs _ (List.mem_of_getElem? hi)
  obtain ⟨e1, e2, pre, mid, post, rfl, e3, e4⟩ := sub_spec d n m true _ cs hs hr
  have hr := range_part (range_of_row hh)
  rw [Nat.zero_add, e3] at hr
  rw [hx']
  exact isB_range hm (Array.getElem?_eq_some_iff.1 hh).1 hr e4
theorem g_cmpvar {x y : Operand} {tys : Array TypeId} {g1 n1 m1 i1 g2 n2 m2 i2 : Nat} {t1 t2 : TypeId} {d1 d2 : D} {l1 l2 : List UInt8} (ho : o.op = .call { callee := .value (.func 65), args := #[x, y], argTypes := tys })
    (hx : ev S x = some (.val (.v (.slice (some ⟨g1, n1, none⟩) m1 m1)))) (hi1 : S.objs[i1]? = some (.var g1 t1 d1)) (hs1 : d1.sub n1 m1 true = some (.arr m1 l1)) (hm1 : Nat.ble m1 4096 = true)
    (hy : ev S y = some (.val (.v (.slice (some ⟨g2, n2, none⟩) m2 m2)))) (hi2 : S.objs[i2]? = some (.var g2 t2 d2)) (hs2 : d2.sub n2 m2 true = some (.arr m2 l2)) (hm2 : Nat.ble m2 4096 = true) : Grows ops S o (· = .val (.v (.int .i64 (cmpB l1 l2)))) := fun base ok a w ha => by
  have h1 := isB_var ha (looks_op (by rw [ho]; simp [Op.operands, Call.operands])) hx hi1 hs1 hm1
  have h2 := isB_var ha (looks_op (by rw [ho]; simp [Op.operands, Call.operands])) hy hi2 hs2 hm2
  have hrun : (execOp a.eval o).run Tryz.prog w = .ok (.enter 65 #[a.eval x, a.eval y]) w := by
    unfold execOp
    simp [ho, resolve, Act.eval, Deferred.ofValue, invoke]
  rw [hrun]
  refine ⟨Gr.refl w, (bytes_CompareW _ _ l1 l2 w h1 h2).mono ?_⟩
  rintro e w' ⟨rfl, rfl⟩
  exact ⟨_, rfl, Gr.refl _, _, rfl, readV_v.2 ⟨rfl, rfl⟩⟩
end
end E
end Go.Proofs.YtmlajcbabimkjaaGreat
/-
  The functions of path, and the reference's, each by what it gives.
  Conditions: the lengths are bounded as each theorem says.
-/
namespace Go.Proofs.YtmlajcbabimkjaaGreat
open Go.RowKit Mono
def common : List UInt8 → List UInt8 → Nat
  | x :: xs, y :: ys => if x = y then common xs ys + 1 else 0
  | _, _ => 0
theorem common_step (l m : List UInt8) (k : Nat) (h1 : k < l.length) (h2 : k < m.length) :
    common (l.drop k) (m.drop k) = if l[k] = m[k] then common (l.drop (k + 1)) (m.drop (k + 1)) + 1 else 0 := by
  rw [List.drop_eq_getElem_cons h1, List.drop_eq_getElem_cons h2, common]
theorem common_end (l m : List UInt8) (k : Nat) (h : l.length ≤ k ∨ m.length ≤ k) : common (l.drop k) (m.drop k) = 0 := by
  rcases h with h | h
  · rw [List.drop_eq_nil_of_le h]; rfl
  · rw [List.drop_eq_nil_of_le h]; cases l.drop k <;> rfl
theorem u8_beq (a b : UInt8) : ((a.toNat : Int) == (b.toNat : Int)) = decide (a = b) := by
  rw [Bool.eq_iff_iff]; simp only [beq_iff_eq, decide_eq_true_eq]; rw [Int.ofNat_inj, UInt8.toNat_inj]
def RetNat (n : Nat) (w : World) (e : Ending) (w' : World) : Prop := e = .returned (.int .i64 n) ∧ ∃ k, w' = w.drewN k
set_option maxHeartbeats 400000 in
theorem ref_common (v1 v2 : Value) (l m : List UInt8) (w : World) (h1 : IsB w v1 l) (h2 : IsB w v2 m) :
    Calls Tryz.prog 81 #[v1, v2] w (RetNat (common l m) w) := by
  obtain ⟨A, c, rfl, hl1, hl2, hA⟩ := h1
  obtain ⟨B, d, rfl, hm1, hm2, hB⟩ := h2
  unfold maxLen at hl2 hm2
  have HA := Lib.hid hA
  have HB := Lib.hid hB
  clear hA hB
  go_enter Tryz.func81, Tryz.ntmps81
  go_wp2
  go_loopw [5] (fun n wr => ∃ k : Nat, k ≤ l.length ∧ k ≤ m.length ∧ n = .int .i64 k ∧ (∃ n, wr = w.drewN n) ∧ Hid (common l m = k + common (l.drop k) (m.drop k))) (fun n _ => l.length - (intOf n).toNat)
  case atStart => exact ⟨0, by omega, by omega, rfl, ⟨0, rfl⟩, Lib.hid (by simp)⟩
  case round =>
    obtain ⟨k, hk1, hk2, rfl, ⟨nn, rfl⟩, hC⟩ := hrel
    by_cases h1 : k < l.length
    · by_cases h2 : k < m.length
      · obtain ⟨b1, o1, rfl, _, c1⟩ := HA.out (by intro e; have := bvs_length l; rw [e] at this; simp at this; omega)
        obtain ⟨b2, o2, rfl, _, c2⟩ := HB.out (by intro e; have := bvs_length m; rw [e] at this; simp at this; omega)
        have d1 := c1 k _ (bvs_at l k h1)
        have d2 := c2 k _ (bvs_at m k h2)
        clear c1 c2
        unfold bv at d1 d2
        have hst := Lib.hid (common_step l m k h1 h2)
        go_wp2
        go_quiet (fail)
        go_wp2
        · go_roundw
          case rel =>
            have he : l[k] = m[k] := by have h := ‹((l[k].toNat : Int) == (m[k].toNat : Int)) = true›; rw [u8_beq] at h; simpa using h
            exact ⟨k + 1, by omega, by omega, by go_num, ⟨nn + nq, by simp⟩, Lib.hid (by rw [hC.out, hst.out, if_pos he]; omega)⟩
          case measure => simp [intOf]; omega
        · have he : ¬ l[k] = m[k] := by have h := ‹((l[k].toNat : Int) == (m[k].toNat : Int)) = false›; rw [u8_beq] at h; simpa using h
          go_ret
          exact ⟨by rw [hC.out, hst.out, if_neg he]; simp, nn + nq, by simp⟩
      · have hst := Lib.hid (common_end l m k (by omega))
        go_wp2
        go_quiet (fail)
        go_wp2
        go_ret
        exact ⟨by rw [hC.out, hst.out]; simp, nn + nq, by simp⟩
    · have hst := Lib.hid (common_end l m k (by omega))
      go_wp2
      go_quiet (fail)
      go_wp2
      go_ret
      exact ⟨by rw [hC.out, hst.out]; simp, nn + nq, by simp⟩
set_option maxHeartbeats 400000 in
theorem path_common (v1 v2 : Value) (l m : List UInt8) (w : World) (h1 : IsB w v1 l) (h2 : IsB w v2 m) :
    Calls Tryz.prog 106 #[v1, v2] w (RetNat (common l m) w) := by
  obtain ⟨A, c, rfl, hl1, hl2, hA⟩ := h1
  obtain ⟨B, d, rfl, hm1, hm2, hB⟩ := h2
  unfold maxLen at hl2 hm2
  have HA := Lib.hid hA
  have HB := Lib.hid hB
  clear hA hB
  go_enter Tryz.func106, Tryz.ntmps106
  go_wp2
  go_loopw [5] (fun n wr => ∃ k : Nat, k ≤ l.length ∧ k ≤ m.length ∧ n = .int .i64 k ∧ (∃ n, wr = w.drewN n) ∧ Hid (common l m = k + common (l.drop k) (m.drop k))) (fun n _ => l.length - (intOf n).toNat)
  case atStart => exact ⟨0, by omega, by omega, rfl, ⟨0, rfl⟩, Lib.hid (by simp)⟩
  case round =>
    obtain ⟨k, hk1, hk2, rfl, ⟨nn, rfl⟩, hC⟩ := hrel
    by_cases h1 : k < l.length
    · by_cases h2 : k < m.length
      · obtain ⟨b1, o1, rfl, _, c1⟩ := HA.out (by intro e; have := bvs_length l; rw [e] at this; simp at this; omega)
        obtain ⟨b2, o2, rfl, _, c2⟩ := HB.out (by intro e; have := bvs_length m; rw [e] at this; simp at this; omega)
        have d1 := c1 k _ (bvs_at l k h1)
        have d2 := c2 k _ (bvs_at m k h2)
        clear c1 c2
        unfold bv at d1 d2
        have hst := Lib.hid (common_step l m k h1 h2)
        go_wp2
        go_quiet (fail)
        go_wp2
        · go_roundw
          case rel =>
            have he : l[k] = m[k] := by have h := ‹((l[k].toNat : Int) == (m[k].toNat : Int)) = true›; rw [u8_beq] at h; simpa using h
            exact ⟨k + 1, by omega, by omega, by go_num, ⟨nn + nq, by simp⟩, Lib.hid (by rw [hC.out, hst.out, if_pos he]; omega)⟩
          case measure => simp [intOf]; omega
        · have he : ¬ l[k] = m[k] := by have h := ‹((l[k].toNat : Int) == (m[k].toNat : Int)) = false›; rw [u8_beq] at h; simpa using h
          go_ret
          exact ⟨by rw [hC.out, hst.out, if_neg he]; simp, nn + nq, by simp⟩
      · have hst := Lib.hid (common_end l m k (by omega))
        go_wp2
        go_quiet (fail)
        go_wp2
        go_ret
        exact ⟨by rw [hC.out, hst.out]; simp, nn + nq, by simp⟩
    · have hst := Lib.hid (common_end l m k (by omega))
      go_wp2
      go_quiet (fail)
      go_wp2
      go_ret
      exact ⟨by rw [hC.out, hst.out]; simp, nn + nq, by simp⟩
end Go.Proofs.YtmlajcbabimkjaaGreat
/-
  path.Split and the reference's Split: the half bytes.
  Conditions: at most 2 to the 30th bytes.
-/
namespace Go.Proofs.YtmlajcbabimkjaaGreat
open Go.RowKit Mono
def split (l : List UInt8) : List UInt8 := l.flatMap fun (x : UInt8) => [x >>> 4, x &&& 15]
theorem split_length (l : List UInt8) : (split l).length = 2 * l.length := by
  induction l with
  | nil => rfl
  | cons x l ih => unfold split at *; rw [List.flatMap_cons, List.length_append, ih]; simp; omega
theorem split_take (l : List UInt8) (k : Nat) (h : k < l.length) : split (l.take (k + 1)) = split (l.take k) ++ [l[k] >>> 4, l[k] &&& 15] := by
  rw [List.take_succ_eq_append_getElem h, split, List.flatMap_append]; rfl
theorem nibs (x : UInt8) : bvs [x >>> 4, x &&& 15] = [.int .u8 ((x.toNat : Int) / 16), .int .u8 ((x.toNat : Int) % 16)] := by
  have h1 : (x >>> 4).toNat = x.toNat / 16 := by rw [UInt8.toNat_shiftRight]; simp [Nat.shiftRight_eq_div_pow]
  have h2 : (x &&& 15).toNat = x.toNat % 16 := by rw [UInt8.toNat_and]; exact Nat.and_two_pow_sub_one_eq_mod _ 4
  simp [bvs, bv, h1, h2]
set_option maxHeartbeats 400000 in
theorem path_split (v1 : Value) (l : List UInt8) (w : World) (h1 : IsB w v1 l) (hlen : l.length ≤ 1073741824) :
    Calls Tryz.prog 102 #[v1] w (Ret (fun v w' => OwnB w' w.heap.size v (split l)) w) := by
  obtain ⟨A, c, rfl, hl1, hl2, hA⟩ := h1
  clear hl1 hl2
  have HA := Lib.hid hA
  clear hA
  go_enter Tryz.func102, Tryz.ntmps102
  go_wp2
  go_loopw [3, 8] (fun v i wr => ∃ k : Nat, k ≤ l.length ∧ i = .int .i64 k ∧ OwnB wr w.heap.size v (split (l.take k)) ∧ Below w.heap.size w wr) (fun _ i _ => l.length - (intOf i).toNat)
  case atStart => exact ⟨0, by omega, rfl, OwnB.nil w w.heap.size, Below.refl _ _⟩
  case round =>
    obtain ⟨k, hk1, rfl, hown, hb⟩ := hrel
    obtain ⟨A', c', rfl, hc1, hc2⟩ := own_form hown
    have hsl : (split (l.take k)).length ≤ 2 * k := by rw [split_length, List.length_take]; omega
    have hbs := hb.size
    have HO := Lib.hid hown
    have HB := Lib.hid hb
    clear hown hb
    by_cases h1 : k < l.length
    · obtain ⟨b1, o1, rfl, hb1, c1⟩ := HA.out (by intro e; have := bvs_length l; rw [e] at this; simp at this; omega)
      have d1 := (HB.out.cell (p := ⟨b1, o1 + k, none⟩) hb1).trans (c1 k _ (bvs_at l k h1))
      clear c1
      unfold bv at d1
      have hlx := bv_lt l[k]
      have HS := Lib.hid (split_take l k h1)
      have HN := Lib.hid (nibs l[k])
      generalize l[k].toNat = x at d1 hlx HN
      go_wp2_with (at_builtin; refine wpL_append _ _ 30 slT_bytes _ _ _ _ _ _ (wr.heap.size + 1) [.int .u8 (↑x / 16), .int .u8 (↑x % 16)] rfl rfl rfl rfl (HO.out.alloc _) (Rd.new _ _ _) rfl (by simp [Value.oneCell']) (by simp only [maxLen]; omega) (by omega) (by simp; omega) ?_; intro A2 c2 w2 hown2 hg2 _)
      go_roundw
      case rel =>
        refine ⟨k + 1, by omega, by go_num, ?_, ?_⟩
        · unfold OwnB
          rw [HS.out, bvs_append, List.length_append]
          have e := HN.out
          rw [← e] at hown2
          exact hown2
        · exact (HB.out.alloc hbs _).grown hg2 (by simp; omega) fun j hj => own_block_ge HO.out j hj
      case measure => simp [intOf]; omega
    · go_wp2
      refine bodyPost_ret (results_tmp rfl _ _ _) rfl ?_
      refine ⟨_, rfl, HB.out, ?_⟩
      have h := HO.out
      rw [List.take_of_length_le (by omega)] at h
      show OwnB _ _ (.slice A' (split (l.take k)).length c') _
      rw [List.take_of_length_le (by omega)]
      exact h
set_option maxHeartbeats 400000 in
theorem ref_split (v1 : Value) (l : List UInt8) (w : World) (h1 : IsB w v1 l) (hlen : l.length ≤ 1073741824) :
    Calls Tryz.prog 33 #[v1] w (Ret (fun v w' => OwnB w' w.heap.size v (split l)) w) := by
  obtain ⟨A, c, rfl, hl1, hl2, hA⟩ := h1
  clear hl1 hl2
  have HA := Lib.hid hA
  clear hA
  go_enter Tryz.func33, Tryz.ntmps33
  go_wp2
  go_loopw [3, 4] (fun v i wr => ∃ k : Nat, k ≤ l.length ∧ i = .int .i64 k ∧ OwnB wr w.heap.size v (split (l.take k)) ∧ Below w.heap.size w wr) (fun _ i _ => l.length - (intOf i).toNat)
  case atStart => exact ⟨0, by omega, rfl, OwnB.nil w w.heap.size, Below.refl _ _⟩
  case round =>
    obtain ⟨k, hk1, rfl, hown, hb⟩ := hrel
    obtain ⟨A', c', rfl, hc1, hc2⟩ := own_form hown
    have hsl : (split (l.take k)).length ≤ 2 * k := by rw [split_length, List.length_take]; omega
    have hbs := hb.size
    have HO := Lib.hid hown
    have HB := Lib.hid hb
    clear hown hb
    by_cases h1 : k < l.length
    · obtain ⟨b1, o1, rfl, hb1, c1⟩ := HA.out (by intro e; have := bvs_length l; rw [e] at this; simp at this; omega)
      have hbw : b1 < wr.heap.size := by omega
      have d1 := later_cell (w := wr) (p := ⟨b1, o1 + k, none⟩) hbw ((HB.out.cell (p := ⟨b1, o1 + k, none⟩) hb1).trans (c1 k _ (bvs_at l k h1)))
      clear c1
      unfold bv at d1
      have hlx := bv_lt l[k]
      have HS := Lib.hid (split_take l k h1)
      have HN := Lib.hid (nibs l[k])
      generalize l[k].toNat = x at d1 hlx HN
      go_wp2
      refine wp_region_N 12 (by kernel_rfl) (by kernel_rfl) (by kernel_rfl) ?_
      simp only [List.take_succ_cons, List.take_zero, List.drop_succ_cons, List.drop_zero]
      refine wpN_quiet 11 (by kernel_rfl) ?_
      simp only [List.take_succ_cons, List.take_zero, List.drop_succ_cons, List.drop_zero]
      repeat (go_big_quiet_step (fail))
      refine wpQuiet_nil ?_
      refine wpN_gen 22 (fun v w => IsB w v [l[k] >>> 4, l[k] &&& 15]) rfl rfl (by kernel_rfl) (by kernel_rfl) (stable_isB _) (fun x => ?_) ?_
      · simp [go_sem, growsTo]
        exact ⟨gr_alloc _ _, isB_new _ _ _ HN.out.symm (by simp [maxLen])⟩
      refine wpN_nil (by kernel_rfl) ?_
      intro W hW
      replace hW := hW.gr
      have hbs2 := hW.size
      intro v22 h22
      obtain ⟨A22, c22, rfl, _, _, hrd⟩ := h22
      unfold finN
      go_wp2_with (at_builtin; refine wpL_append _ _ 30 slT_bytes _ _ _ _ _ _ _ (bvs [l[k] >>> 4, l[k] &&& 15]) rfl rfl rfl rfl (own_gr HO.out hW) hrd (by simp [bvs]) (bvs_one _) (by simp only [maxLen]; simp; omega) (by simp; omega) (by omega) ?_; intro A2 c2 w2 hown2 hg2 _)
      go_roundw
      case rel =>
        refine ⟨k + 1, by omega, by go_num, ?_, ?_⟩
        · unfold OwnB
          rw [HS.out, bvs_append, List.length_append]
          exact hown2
        · exact (HB.out.trans (hW.mono hbs)).grown hg2 (by omega) fun j hj => own_block_ge HO.out j hj
      case measure => simp [intOf]; omega
    · go_wp2
      refine bodyPost_ret (results_tmp rfl _ _ _) rfl ?_
      refine ⟨_, rfl, HB.out, ?_⟩
      have h := HO.out
      rw [List.take_of_length_le (by omega)] at h
      show OwnB _ _ (.slice A' (split (l.take k)).length c') _
      rw [List.take_of_length_le (by omega)]
      exact h
end Go.Proofs.YtmlajcbabimkjaaGreat
/-
  path.Join and the reference's Join: the bytes of half bytes.
  Conditions: at most 2 to the 30th of them.
-/
namespace Go.Proofs.YtmlajcbabimkjaaGreat
open Go.RowKit Mono
def joinL : List UInt8 → Option (List UInt8)
  | [] => some []
  | [_] => none
  | x :: y :: r => if x.toNat ≤ 15 ∧ y.toNat ≤ 15 then (joinL r).map fun t => (x <<< 4 ||| y) :: t else none
theorem joinL_odd : ∀ (p : List UInt8), p.length % 2 = 1 → joinL p = none
  | [], h => by simp at h
  | [_], _ => rfl
  | x :: y :: r, h => by
    rw [joinL, joinL_odd r (by simp at h; omega)]
    simp
theorem joinL_step (p : List UInt8) (k : Nat) (h1 : k < p.length) (h2 : k + 1 < p.length) :
    joinL (p.drop k) = if p[k].toNat ≤ 15 ∧ p[k + 1].toNat ≤ 15 then (joinL (p.drop (k + 2))).map fun t => (p[k] <<< 4 ||| p[k + 1]) :: t else none := by
  rw [List.drop_eq_getElem_cons h1, List.drop_eq_getElem_cons h2, joinL]
def JoinV (base : Nat) (p : List UInt8) : VP := fun v w => ∃ v1, v = .tuple #[v1, .bool (joinL p).isSome] ∧ OwnB w base v1 ((joinL p).getD [])
theorem orNib (x y : Nat) (hx : x ≤ 15) (hy : y ≤ 15) (a b : UInt8) (ha : a.toNat = x) (hb : b.toNat = y) : (a <<< 4 ||| b).toNat = x * 16 + y := by
  have h : ∀ x : Fin 16, ∀ y : Fin 16, ((UInt8.ofNat x.1) <<< 4 ||| (UInt8.ofNat y.1)).toNat = x.1 * 16 + y.1 := by decide +kernel
  subst ha hb
  simpa using h ⟨a.toNat, by omega⟩ ⟨b.toNat, by omega⟩
theorem orBits (x y : Nat) (hx : x ≤ 15) (hy : y ≤ 15) : bits .or .u8 ((x : Int) * 16) (y : Int) = ((x * 16 + y : Nat) : Int) := by
  have h : ∀ x : Fin 16, ∀ y : Fin 16, bits .or .u8 ((x.1 : Int) * 16) (y.1 : Int) = ((x.1 * 16 + y.1 : Nat) : Int) := by decide +kernel
  exact h ⟨x, by omega⟩ ⟨y, by omega⟩
set_option maxHeartbeats 400000 in
theorem ref_join (v1 : Value) (p : List UInt8) (w : World) (h1 : IsB w v1 p) (hlen : p.length ≤ 1073741824) :
    Calls Tryz.prog 60 #[v1] w (Ret (JoinV w.heap.size p) w) := by
  obtain ⟨A, c, rfl, hl1, hl2, hA⟩ := h1
  clear hl1 hl2
  have HA := Lib.hid hA
  clear hA
  by_cases hodd : p.length % 2 = 1
  · have HJ := Lib.hid (joinL_odd p hodd)
    go_enter Tryz.func60, Tryz.ntmps60
    go_wp2
    refine bodyPost_ret (results_tmp2 rfl _ _ _) rfl ?_
    refine ⟨_, rfl, Below.refl _ _, .slice none 0 0, ?_, ?_⟩
    · rw [HJ.out]; rfl
    · rw [HJ.out]; exact OwnB.nil _ _
  · have hev : p.length % 2 = 0 := by omega
    clear hodd
    have hevI : (p.length : Int) % 2 = 0 := by omega
    go_enter Tryz.func60, Tryz.ntmps60
    go_wp2
    clear hevI
    go_loopw [4, 5] (fun v i wr => ∃ (j : Nat) (pre : List UInt8), 2 * j ≤ p.length ∧ i = .int .i64 (2 * j : Nat) ∧ pre.length = j ∧ OwnB wr w.heap.size v pre ∧ Below w.heap.size w wr ∧ Hid (joinL p = (joinL (p.drop (2 * j))).map (pre ++ ·))) (fun _ i _ => p.length - (intOf i).toNat)
    case atStart => exact ⟨0, [], by omega, rfl, rfl, OwnB.nil w w.heap.size, Below.refl _ _, Lib.hid (by simp)⟩
    case round =>
      obtain ⟨j, pre, hj, rfl, hpre, hown, hb, hJ⟩ := hrel
      obtain ⟨A', c', rfl, hc1, hc2⟩ := own_form hown
      have hbs := hb.size
      have HO := Lib.hid hown
      have HB := Lib.hid hb
      have HP := Lib.hid hpre
      have hpl : pre.length ≤ j := by omega
      clear hown hb hpre
      by_cases h1 : 2 * j < p.length
      · have h2 : 2 * j + 1 < p.length := by omega
        obtain ⟨b1, o1, rfl, hb1, c1⟩ := HA.out (by intro e; have := bvs_length p; rw [e] at this; simp at this; omega)
        have hbw : b1 < wr.heap.size := by omega
        have r1 := (HB.out.cell (p := ⟨b1, o1 + 2 * j, none⟩) hb1).trans (c1 (2 * j) _ (bvs_at p (2 * j) h1))
        have r2 := (HB.out.cell (p := ⟨b1, o1 + (2 * j + 1), none⟩) hb1).trans (c1 (2 * j + 1) _ (bvs_at p (2 * j + 1) h2))
        have d1 := later_cell (w := wr) (p := ⟨b1, o1 + 2 * j, none⟩) hbw r1
        have d2 := later_cell (w := wr) (p := ⟨b1, o1 + (2 * j + 1), none⟩) hbw r2
        clear c1
        unfold bv at d1 d2 r1 r2
        have HS := Lib.hid (joinL_step p (2 * j) h1 h2)
        have hx0 := bv_lt p[2 * j]
        have hy0 := bv_lt p[2 * j + 1]
        obtain ⟨x, hx⟩ : ∃ x, x = p[2 * j].toNat := ⟨_, rfl⟩
        obtain ⟨y, hy⟩ : ∃ y, y = p[2 * j + 1].toNat := ⟨_, rfl⟩
        rw [← hx] at d1 r1 hx0
        rw [← hy] at d2 r2 hy0
        have HX := Lib.hid hx
        have HY := Lib.hid hy
        clear hx hy
        by_cases hc : x ≤ 15 ∧ y ≤ 15
        · obtain ⟨hcx, hcy⟩ := hc
          go_wp2
          refine wp_region_N 13 (by kernel_rfl) (by kernel_rfl) (by kernel_rfl) ?_
          simp only [List.take_succ_cons, List.take_zero, List.drop_succ_cons, List.drop_zero]
          refine wpN_quiet 12 (by kernel_rfl) ?_
          simp only [List.take_succ_cons, List.take_zero, List.drop_succ_cons, List.drop_zero]
          repeat (go_big_quiet_step (fail))
          refine wpQuiet_nil ?_
          refine wpN_gen 41 (fun v w => IsB w v [p[2 * j] <<< 4 ||| p[2 * j + 1]]) rfl rfl (by kernel_rfl) (by kernel_rfl) (stable_isB _) (fun xw => ?_) ?_
          · simp [go_sem, growsTo]
            rw [orBits x y hcx hcy]
            refine ⟨gr_alloc _ _, isB_new _ _ [p[2 * j] <<< 4 ||| p[2 * j + 1]] ?_ (by simp [maxLen])⟩
            simp [bvs, bv, orNib x y hcx hcy _ _ HX.out.symm HY.out.symm]
          refine wpN_nil (by kernel_rfl) ?_
          intro W hW
          replace hW := hW.gr
          have hbs2 := hW.size
          intro v22 h22
          obtain ⟨A22, c22, rfl, _, _, hrd⟩ := h22
          unfold finN
          go_wp2_with (at_builtin; refine wpL_append _ _ 30 slT_bytes _ _ _ _ _ _ _ (bvs [p[2 * j] <<< 4 ||| p[2 * j + 1]]) rfl rfl rfl rfl (own_gr HO.out hW) hrd (by simp [bvs]) (bvs_one _) (by simp only [maxLen]; simp; omega) (by simp; omega) (by omega) ?_; intro A2 c2 w2 hown2 hg2 _)
          go_roundw
          case rel =>
            refine ⟨j + 1, pre ++ [p[2 * j] <<< 4 ||| p[2 * j + 1]], by omega, by go_num, by simp [HP.out], ?_, (HB.out.trans (hW.mono hbs)).grown hg2 (by omega) fun j hj => own_block_ge HO.out j hj, Lib.hid ?_⟩
            · unfold OwnB
              rw [bvs_append, List.length_append]
              exact hown2
            · rw [hJ.out, HS.out, if_pos ⟨by rw [← HX.out]; exact hcx, by rw [← HY.out]; exact hcy⟩, show 2 * (j + 1) = 2 * j + 2 by omega]
              cases joinL (p.drop (2 * j + 2)) <;> simp
          case measure => simp [intOf]; omega
        · by_cases hcx : x ≤ 15
          · have hcy : 15 < y := by omega
            have hno := Lib.hid hc
            clear hc
            go_wp2
            refine bodyPost_ret (results_tmp2 rfl _ _ _) rfl ?_
            refine ⟨_, rfl, HB.out, .slice none 0 0, ?_, ?_⟩
            · rw [hJ.out, HS.out, if_neg (by rw [← HX.out, ← HY.out]; exact hno.out)]; rfl
            · rw [hJ.out, HS.out, if_neg (by rw [← HX.out, ← HY.out]; exact hno.out)]; exact OwnB.nil _ _
          · have hcx' : 15 < x := by omega
            have hno := Lib.hid hc
            clear hc hcx
            go_wp2
            refine bodyPost_ret (results_tmp2 rfl _ _ _) rfl ?_
            refine ⟨_, rfl, HB.out, .slice none 0 0, ?_, ?_⟩
            · rw [hJ.out, HS.out, if_neg (by rw [← HX.out, ← HY.out]; exact hno.out)]; rfl
            · rw [hJ.out, HS.out, if_neg (by rw [← HX.out, ← HY.out]; exact hno.out)]; exact OwnB.nil _ _
      · have hd := Lib.hid (List.drop_eq_nil_of_le (Nat.le_of_not_lt h1))
        go_wp2
        refine bodyPost_ret (results_tmp2 rfl _ _ _) rfl ?_
        refine ⟨_, rfl, HB.out, .slice A' pre.length c', ?_, ?_⟩
        · rw [hJ.out, hd.out]; rfl
        · rw [hJ.out, hd.out]; simpa [joinL] using HO.out
end Go.Proofs.YtmlajcbabimkjaaGreat
/-
  path.fine and path.Join.
  Conditions: at most 2 to the 30th half bytes.
-/
namespace Go.Proofs.YtmlajcbabimkjaaGreat
open Go.RowKit Mono
theorem fine_one (x : UInt8) (w : World) : Calls Tryz.prog 170 #[bv x] w fun e w' => e = .returned (.bool (decide (15 < x.toNat))) ∧ w' = w := by
  unfold bv
  have hlx := bv_lt x
  generalize x.toNat = n at hlx
  go_enter Tryz.func170, Tryz.ntmps170
  go_wp2
  go_ret
  simp
  omega
def RetBool (b : Bool) (w : World) (e : Ending) (w' : World) : Prop := e = .returned (.bool b) ∧ ∃ k, w' = w.drewN k
def RetInt (b : Int) (w : World) (e : Ending) (w' : World) : Prop := e = .returned (.int .i64 b) ∧ ∃ k, w' = w.drewN k
def bigAt : List UInt8 → Nat → Int
  | [], _ => -1
  | x :: l, k => if 15 < x.toNat then k else bigAt l (k + 1)
theorem bigAt_lt (l : List UInt8) : ∀ k, (0 ≤ bigAt l k ↔ ∃ x ∈ l, 15 < x.toNat) := by
  induction l with
  | nil => intro k; simp [bigAt]
  | cons x l ih =>
    intro k
    unfold bigAt
    split
    · simp [*]
    · rw [ih]; simp [*]
theorem bigAt_step (l : List UInt8) (k : Nat) (h : k < l.length) : bigAt (l.drop k) k = if 15 < l[k].toNat then (k : Int) else bigAt (l.drop (k + 1)) (k + 1) := by
  rw [List.drop_eq_getElem_cons h, bigAt]
set_option maxHeartbeats 400000 in
theorem index_fine (v1 : Value) (l : List UInt8) (w : World) (h1 : IsB w v1 l) :
    Calls Tryz.prog 172 #[v1, .func (.func 170) #[] #[]] w (RetInt (bigAt l 0) w) := by
  obtain ⟨A, c, rfl, hl1, hl2, hA⟩ := h1
  unfold maxLen at hl2
  have HA := Lib.hid hA
  clear hA
  go_enter Tryz.func172, Tryz.ntmps172
  go_wp2
  go_loopw [8] (fun i wr => ∃ k : Nat, k ≤ l.length ∧ i = .int .i64 k ∧ wr = w ∧ Hid (bigAt l 0 = bigAt (l.drop k) k)) (fun i _ => l.length - (intOf i).toNat)
  case atStart => exact ⟨0, by omega, rfl, rfl, Lib.hid (by simp)⟩
  case round =>
    obtain ⟨k, hk1, rfl, rfl, hC⟩ := hrel
    by_cases h1 : k < l.length
    · obtain ⟨b1, o1, rfl, _, c1⟩ := HA.out (by intro e; have := bvs_length l; rw [e] at this; simp at this; omega)
      have d1 := c1 k _ (bvs_at l k h1)
      clear c1
      have hst := Lib.hid (bigAt_step l k h1)
      by_cases hb : 15 < l[k].toNat
      · have he : decide (15 < l[k].toNat) = true := by simpa using hb
        have hf := fine_one l[k] wr
        rw [he] at hf
        have HB := Lib.hid hb
        clear hb he
        generalize bv l[k] = u at d1 hf
        have HF := Lib.hid hf
        clear hf
        go_wp2_with (go_at_call 170; refine HF.out.mono ?_; rintro e w' ⟨rfl, rfl⟩)
        go_ret
        refine ⟨?_, 0, rfl⟩
        rw [hC.out, hst.out, if_pos HB.out]
        rfl
      · have he : decide (15 < l[k].toNat) = false := by simpa using hb
        have hf := fine_one l[k] wr
        rw [he] at hf
        have HB := Lib.hid hb
        clear hb he
        generalize bv l[k] = u at d1 hf
        have HF := Lib.hid hf
        clear hf
        go_wp2_with (go_at_call 170; refine HF.out.mono ?_; rintro e w' ⟨rfl, rfl⟩)
        go_roundw
        case rel => exact ⟨k + 1, by omega, by go_num, trivial, Lib.hid (by rw [hC.out, hst.out, if_neg HB.out])⟩
        case measure => simp [intOf]; omega
    · have hd := Lib.hid (List.drop_eq_nil_of_le (Nat.le_of_not_lt h1))
      go_wp2
      go_ret
      exact ⟨by rw [hC.out, hd.out]; rfl, 0, rfl⟩
theorem contains_fine (v1 : Value) (l : List UInt8) (w : World) (h1 : IsB w v1 l) :
    Calls Tryz.prog 169 #[v1, .func (.func 170) #[] #[]] w (RetBool (l.any fun x => decide (15 < x.toNat)) w) := by
  have hc := Lib.hid (index_fine v1 l w h1)
  have hb := Lib.hid (bigAt_lt l 0)
  clear h1
  generalize bigAt l 0 = n at hc hb
  go_enter Tryz.func169, Tryz.ntmps169
  go_wp2_with fail
  refine hc.out.mono ?_
  rintro e w' ⟨rfl, k, rfl⟩
  go_wp2
  go_ret
  refine ⟨?_, k, rfl⟩
  show Ending.returned (.bool (decide (0 ≤ n))) = _
  congr 2
  have := hb.out
  rw [Bool.eq_iff_iff]
  simp only [decide_eq_true_eq, List.any_eq_true]
  exact this
theorem path_fine (v1 : Value) (l : List UInt8) (w : World) (h1 : IsB w v1 l) :
    Calls Tryz.prog 164 #[v1] w (RetBool (!(l.any fun x => decide (15 < x.toNat))) w) := by
  have hc := Lib.hid (contains_fine v1 l w h1)
  clear h1
  generalize (l.any fun x => decide (15 < x.toNat)) = n at hc
  go_enter Tryz.func164, Tryz.ntmps164
  go_wp2_with fail
  refine hc.out.mono ?_
  rintro e w' ⟨rfl, k, rfl⟩
  go_wp2
  go_ret
  exact ⟨by simp, k, rfl⟩
end Go.Proofs.YtmlajcbabimkjaaGreat
/-
  path.Join.
  Conditions: at most 2 to the 30th half bytes.
-/
namespace Go.Proofs.YtmlajcbabimkjaaGreat
open Go.RowKit Mono
theorem joinL_big : ∀ (p : List UInt8), (p.any fun x => decide (15 < x.toNat)) = true → joinL p = none
  | [], h => by simp at h
  | [_], _ => rfl
  | x :: y :: r, h => by
    rw [joinL]
    split
    · rename_i hc
      rw [joinL_big r (by
        simp only [List.any_cons, Bool.or_eq_true, decide_eq_true_eq] at h
        rcases h with h | h | h
        · omega
        · omega
        · exact h)]
      rfl
    · rfl
theorem small_at (p : List UInt8) (h : (p.any fun x => decide (15 < x.toNat)) = false) (k : Nat) (hk : k < p.length) : p[k].toNat ≤ 15 := by
  rw [List.any_eq_false] at h
  have := h p[k] (List.getElem_mem hk)
  simpa using this
set_option maxHeartbeats 400000 in
theorem path_join (v1 : Value) (p : List UInt8) (w : World) (h1 : IsB w v1 p) (hlen : p.length ≤ 1073741824) :
    Calls Tryz.prog 150 #[v1] w (Ret (JoinV w.heap.size p) w) := by
  have hf := path_fine v1 p w h1
  obtain ⟨A, c, rfl, hl1, hl2, hA⟩ := h1
  clear hl1 hl2
  have HA := Lib.hid hA
  clear hA
  by_cases hodd : p.length % 2 = 1
  · have HJ := Lib.hid (joinL_odd p hodd)
    have hoddI : (p.length : Int) % 2 = 1 := by omega
    clear hf hodd
    go_enter Tryz.func150, Tryz.ntmps150
    go_wp2_with fail
    refine bodyPost_ret (results_tmp2 rfl _ _ _) rfl ?_
    refine ⟨_, rfl, Below.refl _ _, .slice none 0 0, ?_, ?_⟩
    · rw [HJ.out]; rfl
    · rw [HJ.out]; exact OwnB.nil _ _
  · have hev : p.length % 2 = 0 := by omega
    clear hodd
    have hevI : (p.length : Int) % 2 = 0 := by omega
    by_cases hbig : (p.any fun x => decide (15 < x.toNat)) = true
    · rw [hbig] at hf
      have HJ := Lib.hid (joinL_big p hbig)
      have HF := Lib.hid hf
      clear hf hbig
      go_enter Tryz.func150, Tryz.ntmps150
      go_wp2_with (go_at_call 164; refine HF.out.mono ?_; rintro e w' ⟨rfl, q, rfl⟩)
      refine bodyPost_ret (results_tmp2 rfl _ _ _) rfl ?_
      refine ⟨_, rfl, below_drewN (Below.refl _ _) q, .slice none 0 0, ?_, ?_⟩
      · rw [HJ.out]; rfl
      · rw [HJ.out]; exact OwnB.nil _ _
    · have hbig' : (p.any fun x => decide (15 < x.toNat)) = false := by simpa using hbig
      rw [hbig'] at hf
      have HF := Lib.hid hf
      have HS0 := Lib.hid (small_at p hbig')
      clear hf hbig hbig'
      go_enter Tryz.func150, Tryz.ntmps150
      go_wp2_with (go_at_call 164; refine HF.out.mono ?_; rintro e w' ⟨rfl, q, rfl⟩)
      clear hevI
      go_loopw [4, 5] (fun v i wr => ∃ (j : Nat) (pre : List UInt8), 2 * j ≤ p.length ∧ i = .int .i64 (2 * j : Nat) ∧ pre.length = j ∧ OwnB wr w.heap.size v pre ∧ Below w.heap.size w wr ∧ Hid (joinL p = (joinL (p.drop (2 * j))).map (pre ++ ·))) (fun _ i _ => p.length - (intOf i).toNat)
      case atStart => exact ⟨0, [], by omega, rfl, rfl, OwnB.nil _ w.heap.size, below_drewN (Below.refl _ _) q, Lib.hid (by simp)⟩
      case round =>
        obtain ⟨j, pre, hj, rfl, hpre, hown, hb, hJ⟩ := hrel
        obtain ⟨A', c', rfl, hc1, hc2⟩ := own_form hown
        have hbs := hb.size
        have HO := Lib.hid hown
        have HB := Lib.hid hb
        have HP := Lib.hid hpre
        have hpl : pre.length ≤ j := by omega
        clear hown hb hpre
        by_cases h1 : 2 * j < p.length
        · have h2 : 2 * j + 1 < p.length := by omega
          obtain ⟨b1, o1, rfl, hb1, c1⟩ := HA.out (by intro e; have := bvs_length p; rw [e] at this; simp at this; omega)
          have hbw : b1 < wr.heap.size := by omega
          have r1 := (HB.out.cell (p := ⟨b1, o1 + 2 * j, none⟩) hb1).trans (c1 (2 * j) _ (bvs_at p (2 * j) h1))
          have r2 := (HB.out.cell (p := ⟨b1, o1 + (2 * j + 1), none⟩) hb1).trans (c1 (2 * j + 1) _ (bvs_at p (2 * j + 1) h2))
          have d1 := later_cell (w := wr) (p := ⟨b1, o1 + 2 * j, none⟩) hbw r1
          have d2 := later_cell (w := wr) (p := ⟨b1, o1 + (2 * j + 1), none⟩) hbw r2
          clear c1 r1 r2
          unfold bv at d1 d2
          have HS := Lib.hid (joinL_step p (2 * j) h1 h2)
          have hcx := HS0.out (2 * j) h1
          have hcy := HS0.out (2 * j + 1) h2
          obtain ⟨x, hx⟩ : ∃ x, x = p[2 * j].toNat := ⟨_, rfl⟩
          obtain ⟨y, hy⟩ : ∃ y, y = p[2 * j + 1].toNat := ⟨_, rfl⟩
          rw [← hx] at d1 hcx
          rw [← hy] at d2 hcy
          have HX := Lib.hid hx
          have HY := Lib.hid hy
          clear hx hy
          go_wp2
          refine wp_region_N 13 (by kernel_rfl) (by kernel_rfl) (by kernel_rfl) ?_
          simp only [List.take_succ_cons, List.take_zero, List.drop_succ_cons, List.drop_zero]
          refine wpN_quiet 12 (by kernel_rfl) ?_
          simp only [List.take_succ_cons, List.take_zero, List.drop_succ_cons, List.drop_zero]
          repeat (go_big_quiet_step (fail))
          refine wpQuiet_nil ?_
          refine wpN_gen 33 (fun v w => IsB w v [p[2 * j] <<< 4 ||| p[2 * j + 1]]) rfl rfl (by kernel_rfl) (by kernel_rfl) (stable_isB _) (fun xw => ?_) ?_
          · simp [go_sem, growsTo]
            rw [orBits x y hcx hcy]
            refine ⟨gr_alloc _ _, isB_new _ _ [p[2 * j] <<< 4 ||| p[2 * j + 1]] ?_ (by simp [maxLen])⟩
            simp [bvs, bv, orNib x y hcx hcy _ _ HX.out.symm HY.out.symm]
          refine wpN_nil (by kernel_rfl) ?_
          intro W hW
          replace hW := hW.gr
          have hbs2 := hW.size
          intro v22 h22
          obtain ⟨A22, c22, rfl, _, _, hrd⟩ := h22
          unfold finN
          go_wp2_with (at_builtin; refine wpL_append _ _ 30 slT_bytes _ _ _ _ _ _ _ (bvs [p[2 * j] <<< 4 ||| p[2 * j + 1]]) rfl rfl rfl rfl (own_gr HO.out hW) hrd (by simp [bvs]) (bvs_one _) (by simp only [maxLen]; simp; omega) (by simp; omega) (by omega) ?_; intro A2 c2 w2 hown2 hg2 _)
          go_roundw
          case rel =>
            refine ⟨j + 1, pre ++ [p[2 * j] <<< 4 ||| p[2 * j + 1]], by omega, by go_num, by simp [HP.out], ?_, (HB.out.trans (hW.mono hbs)).grown hg2 (by omega) fun j hj => own_block_ge HO.out j hj, Lib.hid ?_⟩
            · unfold OwnB
              rw [bvs_append, List.length_append]
              exact hown2
            · rw [hJ.out, HS.out, if_pos ⟨by rw [← HX.out]; exact hcx, by rw [← HY.out]; exact hcy⟩, show 2 * (j + 1) = 2 * j + 2 by omega]
              cases joinL (p.drop (2 * j + 2)) <;> simp
          case measure => simp [intOf]; omega
        · have hd := Lib.hid (List.drop_eq_nil_of_le (Nat.le_of_not_lt h1))
          go_wp2
          refine bodyPost_ret (results_tmp2 rfl _ _ _) rfl ?_
          refine ⟨_, rfl, HB.out, .slice A' pre.length c', ?_, ?_⟩
          · rw [hJ.out, hd.out]; rfl
          · rw [hJ.out, hd.out]; simpa [joinL] using HO.out
end Go.Proofs.YtmlajcbabimkjaaGreat
