/-
 Merged: lemmas of this claim.
 Conditions: none.
-/
import Derived.Test.YtohlgnfachkmaaaGreatZA12
import Derived.Maps.RangeRun
import Derived.Test.YtohlgnfachkmaaaGreatZA6
import Derived.Test.YtohlgnfachkmaaaGreatZA7
import Derived.Test.YtohlgnfachkmaaaGreatZA2
import Derived.Lib.SliceRun
import Derived.Test.YtohlgnfachkmaaaGreatZA11
import Derived.Test.YtohlgnfachkmaaaGreatZA0
namespace Go.Proofs.YtohlgnfachkmaaaGreat
set_option linter.unusedVariables false
open Go.RowKit Mono Rlp
open Go.ChangeMaps (setBlock)
namespace E
abbrev itO (r b c : Nat) (seen : Array Nat) : Obj := .it r (.mapIter (some b) c seen c)
theorem fM.left {α β : Type} {R : α → β → Prop} : ∀ {l : List α} {m : List β}, fM R l m → ∀ a ∈ l, ∃ b ∈ m, R a b
 | _, _, .nil, a, h => by cases h
 | _, _, .cons h1 h2, a, h => by
  rcases Lj.1 h with rfl | h
  · exact ⟨_, Ld, h1⟩
  ·
   obtain ⟨b, hb, hr⟩ := h2.left a h
   exact ⟨b, Lu _ hb, hr⟩
theorem fM.right {α β : Type} {R : α → β → Prop} : ∀ {l : List α} {m : List β}, fM R l m → ∀ b ∈ m, ∃ a ∈ l, R a b
 | _, _, .nil, a, h => by cases h
 | _, _, .cons h1 h2, a, h => by
  rcases Lj.1 h with rfl | h
  · exact ⟨_, Ld, h1⟩
  ·
   obtain ⟨b, hb, hr⟩ := h2.right a h
   exact ⟨b, Lu _ hb, hr⟩
theorem xO {ok : Nat → Prop} {w : World} {n : Nat} : ∀ {l : List MapEntry} {m : List Ent}, fM (jM ok w n) l m → l.map (·.born) = m.map (·.1)
 | _, _, .nil => rfl
 | _, _, .cons h1 h2 => by rw [LV, LV, h1.born, xO h2]
section
variable {N : Nat} {X : Cx N} {S : St} {a : Act} {w w' : World} {ops : Array Oper} {o : Oper} {Q : Exit → Act → World → Prop} {l : List Oper} {rs : List (Tmp × R)} {os os' rest : List Obj} {fs : List (Value × D)}
theorem Gt {T K n E b c i : Nat} {es : List Ent} {x : Operand} (ho : o.op = .range T x) (hx : ev S x = some (.val (.v (.map (some b))))) (hi : S.objs[i]? = some (.map b n c es)) (hT : assoc ji T = some (K, n, E)) : lg ops S o [] (fun r os' => ∃ g, r = .val (.v (.pointer (some ⟨g, 0, none⟩))) ∧ os' = [itO g b c #[]]) := .mk fun base ok a w ha hown => by
 have h1 := bK ha hx (aF (by rw [ho]; simp [Op.operands]))
 obtain ⟨_, _, arr, h2, _⟩ := ha.map hi
 have hr : (execOp a.eval o).run Tryz.prog w = .ok (.value (.pointer (some ⟨w.heap.size, 0, none⟩))) (w.alloc (.mapIter (some b) c #[] c)) := by
  simp [execOp, ho, h1, run_range_map w T _ _ b arr c (nD hT).1 h2, Result.andThen]
 rw [hr]
 obtain ⟨g1, g2⟩ := sD (ok := ok) (w := w) (q := itO w.heap.size b c #[]) (r := .val (.v (.pointer (some ⟨w.heap.size, 0, none⟩)))) (ob := .mapIter (some b) c #[] c) (v := .pointer (some ⟨w.heap.size, 0, none⟩)) rfl (fun ok' _ => ⟨.inr (LG _), heap_alloc_new w _⟩) (fun _ => dR rfl) ha.lt
 exact ⟨_, _, ⟨_, rfl, rfl⟩, g1, g2⟩
theorem Ho {t T K n E b c i ty : Nat} {pos : String} {af : Array Edge} {gd : Option (Nat × Bool)} {es : List Ent} {x : Operand} (hx : ev (⟨rs, os, fs⟩ : St) x = some (.val (.v (.map (some b))))) (hi : os[i]? = some (.map b n c es)) (hT : assoc ji T = some (K, n, E)) (hg : guardOf ops ⟨rs, os, fs⟩ ⟨some t, .range T x, ty, pos, af, gd⟩ = some true) (hN : Nat.blt t N = true) (kk : ∀ g, EL X ops Q l ⟨(t, .val (.v (.pointer (some ⟨g, 0, none⟩)))) :: rs, itO g b c #[] :: os, fs⟩) : EL X ops Q (⟨some t, .range T x, ty, pos, af, gd⟩ :: l) ⟨rs, os, fs⟩ :=
 EL.mut (os := []) (rest := os) hg (fK rfl hN) (Gt rfl hx hi hT) fun r os' ⟨g, h1, h2⟩ => by
  subst h1 h2
  exact kk g
theorem Ja {b n c g : Nat} {es : List Ent} {seen : Array Nat} {x : Operand} (ho : o.op = .next x false) (hx : ev S x = some (.val (.v (.pointer (some ⟨g, 0, none⟩))))) :
  lg ops S o [itO g b c seen, .map b n c es] (fun r os' => (r = .tpl [.v (.bool false)] ∧ (∀ e ∈ es, e.1 ∈ seen) ∧ os' = [itO g b c seen, .map b n c es]) ∨ (∃ e ∈ es, e.1 ∉ seen ∧ r = .tpl [.v (.bool true), .arr n e.2.1, e.2.2] ∧ os' = [itO g b c (seen.push e.1), .map b n c es])) := .mk fun base ok a w ha hown => by
 have h1 := bK ha hx (aF (by rw [ho]; simp [Op.operands]))
 obtain ⟨_, h2⟩ := hown.at_ (itO g b c seen) (by simp)
 obtain ⟨_, hE, arr, h3, h4⟩ := hown.at_ (.map b n c es) (by simp)
 have hne : g ≠ b := fun e => by rw [e, h3] at h2; cases h2
 have hlt : ∀ x ∈ arr.toList, x.born < c := fun x hx => by
  obtain ⟨y, hy, h5⟩ := h4.left x hx
  rw [h5.born]
  exact hE.lt y hy
 have hBg : jK [itO g b c seen, .map b n c es] g := ⟨_, Ld, rfl⟩
 rcases run_next_at (P := Tryz.prog) w o.type g b c c seen arr c h2 h3 hlt (LG _) with ⟨h0, hrun⟩ | ⟨e, he, w1, hal, hrun⟩
 ·
  have hr : (execOp a.eval o).run Tryz.prog w = .ok (.value (.tuple #[.bool false])) w := by simp [execOp, ho, h1, hrun, Result.andThen]
  rw [hr]
  refine ⟨_, _, .inl ⟨rfl, fun e he => ?_, rfl⟩, ⟨.refl w, hown.apart, fun p hp => ?_⟩, ?_⟩
  ·
   obtain ⟨x, hx, h5⟩ := h4.right e he
   have h6 : leftOf arr seen = #[] := Array.eq_empty_of_size_eq_zero h0
   refine LY fun hn => ?_
   have : x ∈ leftOf arr seen := by
    unfold leftOf
    rw [Array.mem_filter]
    refine ⟨by simpa using hx, ?_⟩
    rw [h5.born]
    simpa using hn
   rw [h6] at this
   simp at this
  · refine ((hown.at_ p hp).move (fun b' hb' => ⟨.inl hb', ha.lt b' hb', fun o' ho' e => hown.off b' ⟨o', ho', e⟩ hb'⟩) (fun _ _ => rfl) fun _ _ => rfl).iw fun b' e => .inl ⟨p, hp, e⟩
  · exact ⟨[.bool false], rfl, _, _, rfl, dR rfl, rfl⟩
 ·
  obtain ⟨hem, hes⟩ := mem_left he
  have hr1 : w1.heap[g]? = some (.mapIter (some b) c seen c) := by rcases hal with rfl | rfl <;> exact h2
  have hset : (setBlock w1 g (.mapIter (some b) c (seen.push e.born) c)).heap[g]? = some (.mapIter (some b) c (seen.push e.born) c) ∧ ∀ j, j ≠ g → (setBlock w1 g (.mapIter (some b) c (seen.push e.born) c)).heap[j]? = w1.heap[j]? := MapKept.heap_set (o' := .mapIter (some b) c (seen.push e.born) c) hr1
  have hgr : w.grownBy (setBlock w1 g (.mapIter (some b) c (seen.push e.born) c)) (some g) := by rcases hal with rfl | rfl <;> exact ⟨rfl, rfl, rfl, by simp [setBlock], fun i _ hi => hset.2 i (fun e1 => hi (by rw [e1]))⟩
  have hr : (execOp a.eval o).run Tryz.prog w = .ok (.value (.tuple #[.bool true, e.key, e.val])) (setBlock w1 g (.mapIter (some b) c (seen.push e.born) c)) := by simp [execOp, ho, h1, hrun, Result.andThen]
  rw [hr]
  obtain ⟨x, hx, h5⟩ := h4.left e (by simpa using hem)
  generalize setBlock w1 g (.mapIter (some b) c (seen.push e.born) c) = w2 at hset hgr hr ⊢
  rw [h5.born] at hset
  have hok : ∀ b', ok b' → okM ok [itO g b c seen, .map b n c es] w [itO g b c (seen.push x.1), .map b n c es] w2 b' := fun b' hb' => ⟨.inl hb', LU (ha.lt b' hb') hgr.size, fun o' ho' e' => by
   simp only [Lj, Og, or_false] at ho'
   rcases ho' with rfl | rfl
   · exact hown.off b' ⟨itO g b c seen, Ld, e'⟩ hb'
   · exact hown.off b' ⟨.map b n c es, by simp, e'⟩ hb'⟩
  have hcell : ∀ p : Addr, ok p.block → w2.cell? p = w.cell? p := fun p hp => World.cell?_of_block (hgr.block _ (ha.lt _ hp) fun e' => hown.off p.block ⟨itO g b c seen, Ld, e'.symm ▸ rfl⟩ hp)
  refine ⟨_, _, .inr ⟨x, hx, ?_, rfl, rfl⟩, ⟨⟨hgr.os, hgr.tape, hgr.output, hgr.size, fun k hk hn => hgr.block k hk fun e' => hn (by injection e' with e'; subst e'; exact hBg)⟩, ?_, fun p hp => ?_⟩, ?_⟩
  ·
   rw [← h5.born]
   intro hm
   rw [Array.contains_iff_mem.2 hm] at hes
   cases hes
  ·
   have := hown.apart
   simpa [Apart, Obj.blk] using this
  ·
   simp only [Lj, Og, or_false] at hp
   rcases hp with rfl | rfl
   · exact ⟨.inl hBg, hset.1⟩
   · refine ⟨.inl ⟨.map b n c es, by simp, rfl⟩, hE, arr, (hset.2 b (fun e' => hne e'.symm)).trans (by rcases hal with rfl | rfl <;> exact h3), gK (fun _ _ h => h.mono hok hcell) h4⟩
  ·
   refine ⟨[.bool true, e.key, e.val], rfl, _, _, rfl, dR rfl, _, _, rfl, ?_, _, _, rfl, h5.val.mono hok hcell, rfl⟩
   rw [h5.key]
   exact Ad h5.len
theorem GL {b n c g i j : Nat} {es : List Ent} {seen : Array Nat} {x : Operand} {e : Ent} (he : e ∈ es) (ho : o.op = .entry x) (hx : ev S x = some (.val (.v (.pointer (some ⟨g, 0, none⟩))))) (hi : S.objs[i]? = some (itO g b c (seen.push e.1))) (hj : S.objs[j]? = some (.map b n c es)) : Still ops S o (.tpl [.arr n e.2.1, e.2.2]) := fun base ok a w ha => by
 have h1 := bK ha hx (aF (by rw [ho]; simp [Op.operands]))
 obtain ⟨_, hE, arr, h3, h4⟩ := ha.map hj
 obtain ⟨_, h2⟩ := ha.objs _ (LC hi)
 obtain ⟨y, hy, h5⟩ := h4.right e he
 rw [← h5.born] at h2
 have hrun := run_entry_at (P := Tryz.prog) w g b c seen arr c y h2 h3 hy (by rw [xO h4]; exact hE.borns)
 refine ⟨.tuple #[y.key, y.val], ?_, [y.key, y.val], rfl, _, _, rfl, by rw [h5.key]; exact Ad h5.len, _, _, rfl, h5.val, rfl⟩
 simp [execOp, ho, h1, hrun, Result.andThen]
theorem Ju {t b n c g ty : Nat} {pos : String} {af : Array Edge} {gd : Option (Nat × Bool)} {es : List Ent} {seen : Array Nat} {x : Operand} (hx : ev (⟨rs, os, fs⟩ : St) x = some (.val (.v (.pointer (some ⟨g, 0, none⟩))))) (hg : guardOf ops ⟨rs, [itO g b c seen, .map b n c es] ++ os, fs⟩ ⟨some t, .next x false, ty, pos, af, gd⟩ = some true) (hN : Nat.blt t N = true)
  (kd : (∀ e ∈ es, e.1 ∈ seen) → EL X ops Q l ⟨(t, .tpl [.v (.bool false)]) :: rs, itO g b c seen :: .map b n c es :: os, fs⟩)
  (km : ∀ e ∈ es, e.1 ∉ seen → EL X ops Q l ⟨(t, .tpl [.v (.bool true), .arr n e.2.1, e.2.2]) :: rs, itO g b c (seen.push e.1) :: .map b n c es :: os, fs⟩) : EL X ops Q (⟨some t, .next x false, ty, pos, af, gd⟩ :: l) ⟨rs, itO g b c seen :: .map b n c es :: os, fs⟩ :=
 EL.mut (os := [itO g b c seen, .map b n c es]) (rest := os) hg (fK rfl hN) (Ja rfl hx) fun r os' h => by
  rcases h with ⟨h1, h2, h3⟩ | ⟨e, h1, h2, h3, h4⟩
  ·
   subst h1 h3
   exact kd h2
  ·
   subst h3 h4
   exact km e h1 h2
theorem Ae {t b n c g i j ty : Nat} {pos : String} {af : Array Edge} {gd : Option (Nat × Bool)} {es : List Ent} {seen : Array Nat} {x : Operand} {e : Ent} (he : e ∈ es) (hx : ev (⟨rs, os, fs⟩ : St) x = some (.val (.v (.pointer (some ⟨g, 0, none⟩))))) (hi : os[i]? = some (itO g b c (seen.push e.1))) (hj : os[j]? = some (.map b n c es)) (hg : guardOf ops ⟨rs, os, fs⟩ ⟨some t, .entry x, ty, pos, af, gd⟩ = some true) (hN : Nat.blt t N = true) (kk : EL X ops Q l ⟨(t, .tpl [.arr n e.2.1, e.2.2]) :: rs, os, fs⟩) : EL X ops Q (⟨some t, .entry x, ty, pos, af, gd⟩ :: l) ⟨rs, os, fs⟩ := ES.still (GL he rfl hx hi hj) hg rfl hN kk
theorem jC {T K n E g c : Nat} {x y z : Operand} {es : List Ent} {l1 : List UInt8} {d : D} (ho : o.op = .insert T x y z) (hx : ev S x = some (.val (.v (.map (some g))))) (hy : ev S y = some (.val (.arr n l1))) (hz : ev S z = some (.val d)) (hT : assoc ji T = some (K, n, E)) : Puts ops S o (.map g n c es) (.map g n (aU c es l1) (aX c es l1 d)) := by
 refine ⟨rfl, fun base ok a w ha hno hat => ?_⟩
 have h1 := bK ha hx (aF (by rw [ho]; simp [Op.operands]))
 obtain ⟨h2, h3⟩ := iP (ha.ev hy (aF (by rw [ho]; simp [Op.operands])))
 obtain ⟨w', h4, h5, h6⟩ := lu (nD hT).1 (nD hT).2 hat l1 h2 (ha.ev hz (aF (by rw [ho]; simp [Op.operands]))) (hno g rfl)
 refine ⟨w', g, ?_, rfl, h5, h6⟩
 unfold execOp
 simp only [ho, h1, h3, Lr, h4, Lh, LD]
end
end E
end Go.Proofs.YtohlgnfachkmaaaGreat
namespace Go.Proofs.YtohlgnfachkmaaaGreat
set_option linter.unusedVariables false
set_option maxHeartbeats 2000000
open Go.RowKit Mono Rlp
namespace E
def uD (l : List Oper) (chain done : List Nat) : List Nat := chain.filter fun k => !done.contains k && match l[k]? with
 | some o => o.after.toList.all fun e => !(Region.binds .any e) || !chain.contains e.on || done.contains e.on
 | none => true
def CT (N : Nat) (l : List Oper) (os1 : List Obj) (T : St → Prop) (chain : List Nat) : Nat → List Nat → St → Prop
 | 0, _, S => T S
 | m + 1, done, S => ∀ k ∈ uD l chain done, CH N l.toArray os1 (fun S' => CT N l os1 T chain m (k :: done) S') (au l [k]) S
theorem CT.pick {N : Nat} {l : List Oper} {os1 : List Obj} {T : St → Prop} {chain : List Nat} {m : Nat} {done : List Nat} {S : St} (ks : List Nat) (hk : uD l chain done = ks) (h : ∀ k ∈ ks, CH N l.toArray os1 (fun S' => CT N l os1 T chain m (k :: done) S') (au l [k]) S) : CT N l os1 T chain (m + 1) done S := by
 unfold CT
 rw [hk]
 exact h
theorem CT.nil {N : Nat} {l : List Oper} {os1 : List Obj} {T : St → Prop} {chain : List Nat} {done : List Nat} {S : St} (h : T S) : CT N l os1 T chain 0 done S := h
def tV (l : List Oper) (n : Nat) (free chain : List Nat) : Bool :=
 (List.range n).all (fun k => free.contains k != chain.contains k) && free.all (fun k => decide (k < n)) && chain.all (fun k => decide (k < n)) && decide (n ≤ l.length) &&
 (List.range free.length).all (fun i => (List.range i).all fun j => decide (free.getD j 0 < free.getD i 0)) && decide chain.Nodup &&
 (List.range n).all (fun k => match l[k]? with
  | some o => (o.looksAt l.toArray).all (fun t => (List.range n).all fun j => decide (j < k) || (l[j]?.bind (·.dst)) != some t) &&
   (match o.dst with
    | some t => (List.range k).all fun j => (l[j]?.bind (·.dst)) != some t
    | none => true)
  | none => false) &&
 free.all (fun k => match l[k]? with
  | some o => (o.looksAt l.toArray).all fun t => chain.all fun j => (l[j]?.bind (·.dst)) != some t
  | none => true)
structure Jr (l : List Oper) (n : Nat) (free chain : List Nat) : Prop where
 part : ∀ k, k < n → (k ∈ free ∧ k ∉ chain) ∨ (k ∉ free ∧ k ∈ chain)
 flt : ∀ k ∈ free, k < n
 clt : ∀ k ∈ chain, k < n
 le : n ≤ l.length
 fup : ∀ i j : Nat, j < i → i < free.length → free.getD j 0 < free.getD i 0
 nod : chain.Nodup
 back : ∀ (k j : Nat) (o oj : Oper) (t : Tmp), k < n → l[k]? = some o → t ∈ o.looksAt l.toArray → k ≤ j → j < n → l[j]? = some oj → oj.dst ≠ some t
 free : ∀ (k j : Nat) (o oj : Oper) (t : Tmp), k ∈ free → l[k]? = some o → t ∈ o.looksAt l.toArray → j ∈ chain → l[j]? = some oj → oj.dst ≠ some t
 once : ∀ (k j : Nat) (o oj : Oper) (t : Tmp), k < n → l[k]? = some o → o.dst = some t → j < k → l[j]? = some oj → oj.dst ≠ some t
theorem Ah {l : List Oper} {n : Nat} {free chain : List Nat} (h : tV l n free chain = true) : Jr l n free chain := by
 unfold tV at h
 simp only [MI, Md, NW, decide_eq_true_eq] at h
 obtain ⟨⟨⟨⟨⟨⟨⟨h1, h2⟩, h3⟩, h4⟩, h5⟩, h6⟩, h8⟩, h9⟩ := h
 refine ⟨fun k hk => ?_, h2, h3, h4, fun i j hj hi => h5 i hi j hj, h6, fun k j o oj t hk ho ht hkj hj hoj e => ?_, fun k j o oj t hk ho ht hj hoj e => ?_, fun k j o oj t hk ho ht hj hoj e => ?_⟩
 ·
  have := h1 k hk
  by_cases e1 : k ∈ free <;> by_cases e2 : k ∈ chain <;> simp [e1, e2] at this ⊢
 ·
  have := h8 k hk
  rw [ho] at this
  simp only [MI, Md, NW] at this
  have := this.1 t ht j hj
  rw [hoj] at this
  simp [e] at this
  omega
 ·
  have := h9 k hk
  rw [ho] at this
  simp only [Md] at this
  have := this t ht j hj
  rw [hoj] at this
  simp [e] at this
 ·
  have := h8 k hk
  rw [ho] at this
  simp only [MI] at this
  have := this.2
  rw [ht] at this
  simp only [Md, NW] at this
  have := this j hj
  rw [hoj] at this
  simp [e] at this
section
variable {N : Nat} {X : Cx N} {S : St} {a : Act} {Q : Exit → Act → World → Prop} {l : List Oper}
theorem EC.Iz {id : Nat} (n : Nat) (free chain : List Nat) (os0 os1 : List Obj) (hB : monoB l.toArray n N = true) (hC : tV l n free chain = true) (hS : S.objs = os0 ++ os1)
  (h : EM N l.toArray (fun S' _ => CT N l os1 (fun S'' => EL X l.toArray Q (l.drop n) S'') chain chain.length [] ⟨S'.regs, os0 ++ os1, S.facts⟩) (au l free) ⟨S.regs, os1, S.facts⟩ []) : EC X Q (.region id l.toArray true) S := by
 constructor
 intro a ws ha
 have C := Ah hC
 obtain ⟨infs, hlen, hok, hT, hnp⟩ := jH _ _ _ h
 have hfree := jh (l := l) free fun k hk => LU (C.flt k hk) C.le
 have hchain := jh (l := l) chain fun k hk => LU (C.clt k hk) C.le
 rw [hfree.1] at hlen hT
 have hdst : ∀ k o, l[k]? = some o → aV l.toArray k = o.dst := fun k o ho => by unfold aV; simp [ho]
 have hsl : ∀ k o L vs (b : Act) t, k < n → l[k]? = some o → t ∈ o.looksAt l.toArray → iY l.toArray L vs a b k t → (∃ j oj, j < n ∧ l[j]? = some oj ∧ oj.dst = some t ∧ L j ∧ b.tmps.getD t undef = vs j) ∨ ((∀ j o, j < n → l[j]? = some o → o.dst ≠ some t) ∧ b.tmps.getD t undef = a.tmps.getD t undef) := fun k o L vs b t hk ho ht hs => by
  rcases hs with ⟨j, h1, h2, h3, h4, h5⟩ | ⟨h1, h2⟩
  ·
   have hj : j < l.length := by have := C.le; omega
   exact .inl ⟨j, l[j], by omega, by simp, by rw [← hdst j l[j] (by simp)]; exact h2, h4, h5⟩
  ·
   refine .inr ⟨fun j oj hj hoj e => ?_, h2⟩
   rcases MK j k with h3 | h3
   · exact h1 j h3 (by rw [hdst j oj hoj]; exact e)
   · exact C.back k j o oj t hk ho ht h3 hj hoj e
 have huniq : ∀ j j' o o' t, j < n → j' < n → l[j]? = some o → l[j']? = some o' → o.dst = some t → o'.dst = some t → j = j' := fun j j' o o' t hj hj' ho ho' hd hd' => by
  rcases NG j j' with h | h | h
  · exact absurd hd (C.once j' j o' o t hj' ho' hd' h ho)
  · exact h
  · exact absurd hd' (C.once j j' o o' t hj ho hd h ho')
 let RF := (bW ⟨S.regs, os1, S.facts⟩ (au l free) infs free.length).regs
 have hRF : ∀ t r, look RF t = some r → (∃ p o i, p < free.length ∧ l[free.getD p 0]? = some o ∧ infs[p]? = some i ∧ o.dst = some t ∧ r = i.reg) ∨ look S.regs t = some r := fun t r hr => by
  rcases jd _ _ _ _ _ _ hr with ⟨q, oq, iq, h1, h2, h3, h4, h5⟩ | h1
  · exact .inl ⟨q, oq, iq, h1, by rw [← hfree.2 q h1]; exact h2, h3, h4, h5⟩
  · exact .inr h1
 have hfl : ∀ p, p < free.length → free.getD p 0 < n ∧ free.getD p 0 ∈ free := fun p hp => by
  have : free.getD p 0 ∈ free := by
   rw [Nj, La hp]
   exact MB hp
  exact ⟨C.flt _ this, this⟩
 have hcl : ∀ p, p < chain.length → chain.getD p 0 < n ∧ chain.getD p 0 ∈ chain := fun p hp => by
  have : chain.getD p 0 ∈ chain := by
   rw [Nj, La hp]
   exact MB hp
  exact ⟨C.clt _ this, this⟩
 have hput : ∀ p o i, p < free.length → l[free.getD p 0]? = some o → infs[p]? = some i → ∀ t, o.dst = some t → look RF t = some i.reg := fun p o i hp ho hi t ht => by
  have hlk := (bP (au l free) infs free.length ⟨S.regs, os1, S.facts⟩ t (by rw [hlen, hfree.1]) (by rw [hfree.1]; exact LG _)).1
  refine hlk p o i hp (by rw [hfree.2 p hp]; exact ho) hi ht fun m om h1 h2 h3 e => ?_
  rw [hfree.2 m h2] at h3
  have := huniq _ _ _ _ t (hfl p hp).1 (hfl m h2).1 ho h3 ht e
  have := C.fup m p h1 h2
  omega
 have hmono : ∀ p o t r, p < free.length → l[free.getD p 0]? = some o → t ∈ o.looksAt l.toArray → look (bW ⟨S.regs, os1, S.facts⟩ (au l free) infs p).regs t = some r → look RF t = some r := fun p o t r hp ho ht hr => by
  rcases jd _ _ _ _ _ _ hr with ⟨q, oq, iq, h1, h2, h3, h4, h5⟩ | h1
  ·
   rw [h5]
   have hq : q < free.length := by omega
   exact hput q oq iq hq (by rw [← hfree.2 q hq]; exact h2) h3 t h4
  ·
   have hlk := (bP (au l free) infs free.length ⟨S.regs, os1, S.facts⟩ t (by rw [hlen, hfree.1]) (by rw [hfree.1]; exact LG _)).2
   have hpre := (bP (au l free) infs p ⟨S.regs, os1, S.facts⟩ t (by rw [hlen, hfree.1]) (by rw [hfree.1]; exact OD hp))
   by_cases hex : ∃ m om, m < p ∧ (au l free)[m]? = some om ∧ om.dst = some t
   ·
    -- what was put ahead stays
    obtain ⟨m, om, g1, g2, g3⟩ := hex
    have hm : m < free.length := by omega
    obtain ⟨inf, hi⟩ : ∃ inf, infs[m]? = some inf := ⟨infs[m]'(by omega), by simp⟩
    have e1 := hpre.1 m om inf g1 g2 hi g3 fun m' om' h1 h2 h3 e => by
     rw [hfree.2 m' (by omega)] at h3
     rw [hfree.2 m hm] at g2
     have := huniq _ _ _ _ t (hfl m hm).1 (hfl m' (by omega)).1 g2 h3 g3 e
     have := C.fup m' m h1 (by omega)
     omega
    rw [hr] at e1
    cases e1
    exact hput m om inf hm (by rw [← hfree.2 m hm]; exact g2) hi t g3
   have := hlk fun m om h2 h3 e => by
    rcases MK m p with h4 | h4
    · exact hex ⟨m, om, h4, h3, e⟩
    ·
     rw [hfree.2 m h2] at h3
     have hle : free.getD p 0 ≤ free.getD m 0 := by
      rcases MK p m with h5 | h5
      · exact OD (C.fup m p h5 h2)
      · rw [show m = p by omega]; exact LG _
     exact C.back _ _ o om t (hfl p hp).1 ho ht hle (hfl m h2).1 h3 e
   show look (bW ⟨S.regs, os1, S.facts⟩ (au l free) infs free.length).regs t = some r
   rw [this]
   exact h1
 have hT' : CT N l os1 (fun S'' => EL X l.toArray Q (l.drop n) S'') chain chain.length [] ⟨RF, os0 ++ os1, S.facts⟩ := hT
 clear hT h
 refine fF n (by kernel_rfl) (by rw [ha.size]; exact hB) (fun L vs u => ∃ m done Si, done.length + m = chain.length ∧ done.Nodup ∧ (∀ q ∈ done, q ∈ chain) ∧ (∀ q ∈ chain, (q ∈ done ↔ L q)) ∧ CT N l os1 (fun S'' => EL X l.toArray Q (l.drop n) S'') chain m done Si ∧ Real X l n chain a RF os1 S.facts Si L vs u) ?_ ?_ ?_ ?_
 ·
  rintro L L' vs vs' w hL hvs ⟨m, done, Si, h1, h2, h3, h6, h4, h5⟩
  obtain rfl : L = L' := funext fun j => propext (hL j)
  refine ⟨m, done, Si, h1, h2, h3, h6, h4, h5.mem, h5.tail, h5.facts, fun t r hr => ?_, h5.free⟩
  obtain ⟨g1, g2⟩ := h5.regs t r hr
  exact ⟨fun j o hj ho hd hL => by rw [← hvs j hL]; exact g1 j o hj ho hd hL, g2⟩
 ·
  have had : At X S a ws.drew := ha.gr (by exact ⟨rfl, rfl, rfl, LG _, fun _ _ => rfl⟩)
  refine ⟨chain.length, [], ⟨RF, os0 ++ os1, S.facts⟩, MH _, Nb, fun q hq => by simp at hq, fun q _ => ⟨fun h => by simp at h, fun h => h.elim⟩, hT', ?_, ⟨os0, rfl⟩, rfl, fun t r hr => ⟨fun _ _ _ _ _ h => h.elim, fun hno => ?_⟩, fun t r hr _ => hr⟩
  · rw [← hS]; exact had.mem
  ·
   rcases hRF t r hr with ⟨p, o, i, h1, h2, h3, h4, h5⟩ | h1
   · exact absurd h4 (hno _ o (hfl p h1).1 h2)
   ·
    rw [← hS]
    exact had.regs t r h1
 ·
  intro k o L vs b u hk ho hL hLk ⟨m, done, Si, h1, h2, h3, h6, h4, h5⟩ hslot hwait
  rcases C.part k hk with ⟨hkf, hkc⟩ | ⟨hkf, hkc⟩
  ·
   -- a free operation
   obtain ⟨p, hp, rfl⟩ : ∃ p, p < free.length ∧ free.getD p 0 = k := by
    obtain ⟨p, hp⟩ := OG hkf
    exact ⟨p, (Lp.1 hp).1, by rw [Nj, hp]; rfl⟩
   obtain ⟨inf, hi⟩ : ∃ inf, infs[p]? = some inf := ⟨infs[p]'(by omega), by simp⟩
   obtain ⟨hO, _, _⟩ := hok p o inf (by rw [hfree.2 p hp]; exact ho) hi
   have hkn : Kn X.mine (X.ok Si.objs u) (fun t => t ∈ o.looksAt l.toArray) (bW ⟨S.regs, os1, S.facts⟩ (au l free) infs p) b u := by
    obtain ⟨os, hos⟩ := h5.tail
    refine ⟨fun q hq => ?_, fun f hf => ?_, fun b hb => hb.2.1, fun t r ht hr => ?_⟩
    ·
     rw [(aK _ _ _ _).1] at hq
     exact h5.mem.at_ q (by rw [hos]; exact LW _ hq)
    ·
     rw [(aK _ _ _ _).2] at hf
     exact h5.mem.fact f (by rw [h5.facts]; exact hf)
    ·
     obtain ⟨g1, g2⟩ := h5.regs t r (h5.free t r (hmono p o t r hp ho ht hr) fun j oj hj hoj => C.free _ j o oj t hkf ho ht hj hoj)
     rcases hsl _ o L vs b t hk ho ht (hslot t ht) with ⟨j, oj, e1, e2, e3, e4, e5⟩ | ⟨e1, e2⟩
     · rw [e5]; exact g1 j oj e1 e2 e3 e4
     · rw [e2]; exact g2 e1
   have hnext : ∀ v u', Gr u u' → aO (X.ok Si.objs u') u' inf.reg v → ∃ m done Si, done.length + m = chain.length ∧ done.Nodup ∧ (∀ q ∈ done, q ∈ chain) ∧ (∀ q ∈ chain, (q ∈ done ↔ (q = free.getD p 0 ∨ L q))) ∧ CT N l os1 (fun S'' => EL X l.toArray Q (l.drop n) S'') chain m done Si ∧ Real X l n chain a RF os1 S.facts Si (fun j => j = free.getD p 0 ∨ L j) (fun j => if j = free.getD p 0 then v else vs j) u' := fun v u' hg hv => by
    refine ⟨m, done, Si, h1, h2, h3, fun q hq => ⟨fun h => .inr ((h6 q hq).1 h), fun h => (h6 q hq).2 (h.resolve_left fun e => hkc (by rw [← e]; exact hq))⟩, h4, h5.mem.grown hg, h5.tail, h5.facts, fun t r hr => ?_, h5.free⟩
    ·
     obtain ⟨g1, g2⟩ := h5.regs t r hr
     refine ⟨fun j oj hj hoj hd hLj => ?_, fun hno => kC hg (g2 hno)⟩
     by_cases e : j = free.getD p 0
     ·
      rw [if_pos e]
      subst e
      obtain rfl : oj = o := MS (hoj.symm.trans ho)
      have := h5.free t _ (hput p oj inf hp ho hi t hd) fun j' oj' hj' hoj' e' => by
       have := huniq _ _ _ _ t hk (C.clt j' hj') hoj hoj' hd e'
       exact hkc (by rw [this]; exact hj')
      rw [hr] at this
      cases this
      exact hv
     ·
      rw [if_neg e]
      exact kC hg (g1 j oj hj hoj hd (hLj.resolve_left e))
   cases inf with
   | still r =>
    obtain ⟨hg, hSt⟩ := hO
    refine ⟨fun _ => ?_, fun hw => by rw [aJ hkn hg] at hw; cases hw⟩
    obtain ⟨v, e1, e2⟩ := hSt _ _ b u hkn
    rw [e1]
    exact hnext v u (Gr.refl u) e2
   | grow r =>
    obtain ⟨hg, hSt⟩ := hO
    refine ⟨fun _ => bY (hSt _ _ b u hkn) (fun v w' hgr hv => ?_), fun hw => by rw [aJ hkn hg] at hw; cases hw⟩
    obtain ⟨r', rfl, hv⟩ := hv
    exact hnext v w' hgr (hv.mono (fun b hb => kV h5.mem hgr hb) fun _ _ => rfl)
   | put p q => cases hnp _ _ hi
   | skip =>
    refine ⟨fun hw => (by rw [aJ hkn hO] at hw; cases hw), fun _ => ?_⟩
    exact hnext undef u (Gr.refl u) ⟨[], rfl, rfl⟩
   | new T d =>
    obtain ⟨hg, hSt⟩ := hO
    refine ⟨fun _ => ?_, fun hw => by rw [aJ hkn hg] at hw; cases hw⟩
    obtain ⟨cs, e1, e2⟩ := hSt _ _ b u hkn
    rw [e1]
    exact hnext _ _ (bZ u _) trivial
  ·
   -- the next of the chain
   have hkd : k ∉ done := fun h => hLk ((h6 k hkc).1 h)
   obtain ⟨m, rfl⟩ : ∃ m', m = m' + 1 := by
    cases m with
    | succ m => exact ⟨m, rfl⟩
    | zero =>
     exfalso
     have hlt := (MR.2 ⟨hkd, h2⟩).length_le_of_subset (fun q hq => by
      rcases Lj.1 hq with rfl | hq
      · exact hkc
      · exact h3 q hq : (k :: done) ⊆ chain)
     simp at hlt
     omega
   have hready : k ∈ uD l chain done := by
    unfold uD
    refine Np.2 ⟨hkc, ?_⟩
    rw [ho]
    simp only [MI, Bool.not_eq_true', Md, NH]
    refine ⟨by simpa using hkd, fun e he => ?_⟩
    cases hb : Region.binds .any e with
    | false => exact .inl (.inl rfl)
    | true =>
     have h7 := hwait e (by simpa using he) hb
     by_cases hc : e.on ∈ chain
     · exact .inr (by simpa using (h6 e.on hc).2 h7)
     · exact .inl (.inr (by simpa using hc))
   have h4 := h4 k hready
   rw [show au l [k] = [o] by unfold au; simp [ho]] at h4
   obtain ⟨hdN, h4⟩ := h4
   have hkreg : ∀ t r, t ∈ o.looksAt l.toArray → look Si.regs t = some r → aO (X.ok Si.objs u) u r (b.tmps.getD t undef) := fun t r ht hr => by
    obtain ⟨g1, g2⟩ := h5.regs t r hr
    rcases hsl _ o L vs b t hk ho ht (hslot t ht) with ⟨j, oj, e1, e2, e3, e4, e5⟩ | ⟨e1, e2⟩
    · rw [e5]; exact g1 j oj e1 e2 e3 e4
    · rw [e2]; exact g2 e1
   have hkn : Kn X.mine (X.ok Si.objs u) (fun t => t ∈ o.looksAt l.toArray) Si b u := ⟨h5.mem.at_, h5.mem.fact, fun b hb => hb.2.1, fun t r ht hr => hkreg t r ht hr⟩
   have hnext : ∀ v u' objs' r', Mem X objs' Si.facts u' → (∃ os, objs' = os ++ os1) → (∀ b, X.ok Si.objs u b → X.ok objs' u' b) → (∀ p : Addr, X.ok Si.objs u p.block → u'.cell? p = u.cell? p) → aO (X.ok objs' u') u' r' v →
     CH N l.toArray os1 (fun S' => CT N l os1 (fun S'' => EL X l.toArray Q (l.drop n) S'') chain m (k :: done) S') [] (St.put ⟨Si.regs, objs', Si.facts⟩ o.dst r') →
     ∃ m done Si, done.length + m = chain.length ∧ done.Nodup ∧ (∀ q ∈ done, q ∈ chain) ∧ (∀ q ∈ chain, (q ∈ done ↔ (q = k ∨ L q))) ∧ CT N l os1 (fun S'' => EL X l.toArray Q (l.drop n) S'') chain m done Si ∧ Real X l n chain a RF os1 S.facts Si (fun j => j = k ∨ L j) (fun j => if j = k then v else vs j) u' := fun v u' objs' r' hmem htail hmok hcell hv hCH => by
    have hobj : (St.put ⟨Si.regs, objs', Si.facts⟩ o.dst r').objs = objs' := by cases o.dst <;> rfl
    have hfac : (St.put ⟨Si.regs, objs', Si.facts⟩ o.dst r').facts = Si.facts := by cases o.dst <;> rfl
    refine ⟨m, k :: done, _, by rw [Me]; omega, MR.2 ⟨hkd, h2⟩, fun q hq => ?_, fun q hq => ?_, hCH, by rw [hobj, hfac]; exact hmem, by rw [hobj]; exact htail, by rw [hfac]; exact h5.facts, fun t r hr => ?_, fun t r hr hno => ?_⟩
    ·
     rcases Lj.1 hq with rfl | hq
     · exact hkc
     · exact h3 q hq
    · rw [Lj, h6 q hq]
    ·
     rw [hobj]
     have hcase : (o.dst = some t ∧ r = r') ∨ (o.dst ≠ some t ∧ look Si.regs t = some r) := by
      cases hd : o.dst with
      | none => rw [hd] at hr; exact .inr ⟨(fun e => by cases e), hr⟩
      | some d =>
       rw [hd] at hr
       simp only [St.put, look] at hr
       split at hr
       ·
        rename_i e
        cases hr
        exact .inl ⟨by rw [e], rfl⟩
       ·
        rename_i e
        exact .inr ⟨fun e' => e (by injection e'), hr⟩
     rcases hcase with ⟨hd, rfl⟩ | ⟨hd, hr⟩
     ·
      refine ⟨fun j oj hj hoj hd' _ => ?_, fun hno => absurd hd (hno _ o hk ho)⟩
      rw [if_pos (huniq _ _ _ _ t hj hk hoj ho hd' hd)]
      exact hv
     ·
      obtain ⟨g1, g2⟩ := h5.regs t r hr
      refine ⟨fun j oj hj hoj hd' hLj => ?_, fun hno => (g2 hno).mono hmok hcell⟩
      have hne : j ≠ k := fun e => by
       subst e
       obtain rfl : oj = o := MS (hoj.symm.trans ho)
       exact hd hd'
      rw [if_neg hne]
      exact (g1 j oj hj hoj hd' (hLj.resolve_left hne)).mono hmok hcell
    ·
     cases hd : o.dst with
     | none => exact h5.free t r hr hno
     | some d =>
      simp only [St.put, look]
      rw [if_neg fun e => hno _ o hkc ho (by rw [hd, e])]
      exact h5.free t r hr hno
   rcases h4 with ⟨inf, hnp', hO, hCH⟩ | ⟨os, rest, Φ, hos, hg, hO, hCH⟩
   ·
    have hgr : ∀ v u', Gr u u' → aO (X.ok Si.objs u') u' inf.reg v → _ := fun v u' hg hv => hnext v u' Si.objs inf.reg (h5.mem.grown hg) h5.tail (fun b hb => qy hg hb) (fun p hp => kU hg p hp) hv hCH
    cases inf with
    | still r =>
     obtain ⟨hg, hSt⟩ := hO
     refine ⟨fun _ => ?_, fun hw => by rw [aJ hkn hg] at hw; cases hw⟩
     obtain ⟨v, e1, e2⟩ := hSt _ _ b u hkn
     rw [e1]
     exact hgr v u (Gr.refl u) e2
    | grow r =>
     obtain ⟨hg, hSt⟩ := hO
     refine ⟨fun _ => bY (hSt _ _ b u hkn) (fun v w' hgr' hv => ?_), fun hw => by rw [aJ hkn hg] at hw; cases hw⟩
     obtain ⟨r', rfl, hv⟩ := hv
     exact hgr v w' hgr' (hv.mono (fun b hb => kV h5.mem hgr' hb) fun _ _ => rfl)
    | put p q => cases hnp'
    | skip =>
     refine ⟨fun hw => (by rw [aJ hkn hO] at hw; cases hw), fun _ => ?_⟩
     exact hgr undef u (Gr.refl u) ⟨[], rfl, rfl⟩
    | new T d =>
     obtain ⟨hg, hSt⟩ := hO
     refine ⟨fun _ => ?_, fun hw => by rw [aJ hkn hg] at hw; cases hw⟩
     obtain ⟨cs, e1, e2⟩ := hSt _ _ b u hkn
     rw [e1]
     exact hgr _ _ (bZ u _) trivial
   ·
    obtain ⟨rs, objs, fs⟩ := Si
    dsimp only at hos
    subst hos
    refine ⟨fun _ => ?_, fun hw => by rw [aJ hkn hg] at hw; cases hw⟩
    have := hO.go X.mine (X.ok (os ++ (rest ++ os1)) u) b u ⟨fun q hq => hkn.objs q (LW _ hq), hkn.facts, hkn.lt, hkn.regs⟩ h5.mem.own
    refine jT this fun v u' ⟨r, os', e1, e2, e3⟩ => ?_
    exact hnext v u' (os' ++ (rest ++ os1)) r (h5.mem.turned e2) ⟨os' ++ rest, by rw [L6]⟩ (fun b hb => gZ h5.mem e2 hb) (turned_cell h5.mem e2) (e3.mono (fun b hb => gW h5.mem e2 hb) fun _ _ => rfl) (hCH r os' e1)
 ·
  intro vs u b ⟨m, done, Si, h1, h2, h3, h6, h4, h5⟩ hs hd hslot
  obtain rfl : m = 0 := by
   have hle := C.nod.length_le_of_subset (fun q hq => (h6 q hq).2 (C.clt q hq) : chain ⊆ done)
   omega
  have h4' : EL X l.toArray Q (l.drop n) Si := h4
  refine h4'.go b u ⟨h5.mem, fun t r hr => ?_, hs.trans ha.size, hd.trans ha.defers⟩
  obtain ⟨g1, g2⟩ := h5.regs t r hr
  rcases hslot t with ⟨j, e1, e2, e3, e4, e5⟩ | ⟨e1, e2⟩
  ·
   rw [e5]
   have hj : j < l.length := by have := C.le; omega
   exact g1 j l[j] e1 (by simp) (by rw [← hdst j l[j] (by simp)]; exact e2) e4
  ·
   rw [e2]
   exact g2 fun j o hj ho e => e1 j hj (by rw [hdst j o ho]; exact e)
end
section
variable {N : Nat} {X : Cx N} {S : St} {ops : Array Oper} {o : Oper} {Q : Exit → Act → World → Prop} {l : List Oper} {TT : St → List Fr → Prop} {EE : List Fr} {rs : List (Tmp × R)} {os : List Obj} {fs : List (Value × D)}
theorem Still.refine {d d' : D} (h : Still ops S o (.val d)) (hR : ah S.facts [d] [d']) : Still ops S o (.val d') := fun base ok a w ha => by
 obtain ⟨v, h1, h2⟩ := h base ok a w ha
 exact ⟨v, h1, Refine1.ku ha.facts hR h2⟩
end
theorem FnM.toFn {f : FuncId} {ds : List D} {Φ : R → Prop} (h : FnM f ds [] (fun r os' => Φ r ∧ os' = [])) : Fn f ds Φ := ⟨fun ok w xs hok hr => by
 refine (h.go ok w xs hok ⟨fun o ho => by simp at ho, .nil, fun b ⟨o, ho, _⟩ => by simp at ho⟩ hr).mono ?_
 rintro e w' ⟨v, r, os', rfl, ⟨hΦ, rfl⟩, ht, hv⟩
 refine ⟨ht.gr.gr fun b ⟨o, ho, _⟩ => by simp at ho, v, r, rfl, hΦ, hv.mono (fun b hb => ⟨?_, hb.2.1⟩) fun _ _ => rfl⟩
 rcases hb.1 with h | ⟨o, ho, _⟩ | h
 · exact .inl h
 · simp at ho
 · exact .inr h⟩
end E
end Go.Proofs.YtohlgnfachkmaaaGreat
namespace Go.Proofs.YtohlgnfachkmaaaGreat
set_option linter.unusedVariables false
set_option maxHeartbeats 1000000
open Go.RowKit Mono Rlp
theorem Jk (v : Value) (l : List UInt8) (w : World) (h : IsB w v l) (hl : l.length ≤ 140737488355328) : Calls Tryz.prog 55 #[v] w (Ret (fun v w' => OwnB w' w.heap.size v l) w) := by
 obtain ⟨A, c, rfl, hc1, hc2, hr⟩ := h
 cases A with
 | none =>
  have hl0 : l = [] := by
   by_cases hn : bvs l = []
   · simpa [bvs] using hn
   ·
    obtain ⟨b, o, e, _⟩ := hr hn
    cases e
  subst hl0
  clear hr
  have hq := Lib.run_eql_slice_nil w 54 5 none 0 c 0 0 Tryz.underlying54
  go_enter Tryz.func55, Tryz.ntmps55
  go_wp2
  refine bodyPost_ret (results_tmp rfl _ _ _) rfl ?_
  exact ⟨_, rfl, Gr.refl _, OwnB.nil _ _⟩
 | some a =>
  have HR := Lib.hid hr
  clear hr
  have hq := Lib.run_eql_slice_nil w 54 5 (some a) l.length c 0 0 Tryz.underlying54
  go_enter Tryz.func55, Tryz.ntmps55
  go_wp2_with (at_builtin; refine yg (.tmp 5) (.tmp 6) 54 rQ (base := w.heap.size) _ 0 [] _ l.length c w.heap.size (bvs l) rfl rfl rfl rfl (uF w #[] 5 1 0 w.heap.size w.heap.size rfl (LG _) (by simp [maxLen]) rfl) (HR.out.below ((Below.refl _ _).alloc (LG _) _)) (by simp [bvs]) (kX _) (by simp only [maxLen]; omega) (by omega) (by simp) ?_; intro A2 c2 w2 hown2 hg2 _)
  refine bodyPost_ret (results_tmp rfl _ _ _) rfl ?_
  refine ⟨_, rfl, ((Below.refl _ _).alloc (LG _) _).grown hg2 (by simp) (fun j hj => by cases hj; exact LG _), ?_⟩
  rw [MH, KO] at hown2
  exact hown2
namespace E
theorem mJ (l : List UInt8) (hl : l.length ≤ 140737488355328) : Fn 55 [.bs l] (· = .val (.bs l)) := ⟨fun ok w xs hok hr => by
 obtain ⟨x, _, rfl, hx, rfl⟩ := hr
 refine (Jk x l w (DL hok hx) hl).mono ?_
 rintro e w' ⟨v, rfl, hg, ho⟩
 exact ⟨hg, v, .val (.bs l), rfl, rfl, (bQ rfl).2 (by rw [Reads]; exact ⟨v, rfl, rJ.mono (Dw ho) (fun b hb => ⟨.inr hb.1, hb.2⟩) fun _ _ => rfl⟩)⟩⟩
end E
end Go.Proofs.YtohlgnfachkmaaaGreat
namespace Go.Proofs.YtohlgnfachkmaaaGreat
set_option linter.unusedVariables false
set_option maxRecDepth 20000
set_option maxHeartbeats 4000000
open Go.RowKit Mono Rlp Wd
namespace E
theorem Fn.toM {f : FuncId} {ds : List D} {Φ : R → Prop} (h : Fn f ds Φ) : FnM f ds [] (fun r os' => Φ r ∧ os' = []) := ⟨fun ok w xs hok hown hr => (h.go ok w xs hok hr).mono fun e w' ⟨hg, v, r, he, hΦ, hv⟩ => by
 have hz : okM ok [] w [] w' = fun b => (ok b ∨ w.heap.size ≤ b) ∧ b < w'.heap.size := by
  funext b
  refine propext ⟨fun h => ⟨?_, h.2.1⟩, fun h => ⟨?_, h.2, fun o ho => by simp at ho⟩⟩
  ·
   rcases h.1 with h | ⟨o, ho, _⟩ | h
   · exact .inl h
   · simp at ho
   · exact .inr h
  · exact h.1.imp id .inr
 refine ⟨v, r, [], he, ⟨hΦ, rfl⟩, ⟨.of hg, .nil, fun o ho => by simp at ho⟩, ?_⟩
 rw [hz]
 exact hv⟩
def slE (ss : List Ent) (k : List UInt8) : D := (aC ss k).getD (.arr 32 zero32)
section
variable {g m c ga gs sc : Nat} {u k : Value} {n : Int} {es ss : List Ent} {a w cd q : List UInt8} {us ks : List D} {b : Int}
theorem FU {v : List UInt8} (h : aC es a = some (.v (ptr ga))) (hv : slE ss q = .arr 32 v) : FnM 76 [.v (ptr g), .arr 20 a, .arr 32 q] [stO g m u k n, smO m c es, acO ga b w cd (.map (some gs)), .map gs 32 sc ss] (fun r os' => r = .val (.arr 32 v) ∧ os' = [stO g m u k n, smO m c es, acO ga b w cd (.map (some gs)), .map gs 32 sc ss]) := by
 have h1 := zF (g := g) (m := m) (c := c) (u := u) (k := k) (n := n) h
 have hg : (aC ss q).getD (.arr 32 zero32) = .arr 32 v := hv
 refine FnM.walk 15 Tryz.func76 rfl Tryz.ntmps76 (by simp) fun X => ?_
 repeat (refine stp ?_; intros)
 rename_i g1 g2 g3
 refine EC.le (Le.pick [3, 4, 5, 6, 0, 1, 2] [_, _, _, _, _, _, _] rfl (by decide) rfl) ?_
 refine EC.aZ 8 [0, 1, 6] [2, 3, 4, 5, 7] [_, _, _, _] _ (by kernel_rfl) (by kernel_rfl) rfl ?_
 simp only [au, KW, KY, KT, KU]
 repeat (refine sth ?_; intros)
 refine EM.nil ?_
 repeat (first | rw [KN] | rw [KO])
 refine CH.bC (rest := [_, _]) h1 (k := ?_)
 rintro _ _ ⟨rfl, rfl⟩
 try simp only [St.put]
 repeat (first | rw [KN] | rw [KO])
 refine CH.cut 4 ?_
 simp only [KQ, KX, KP, KR]
 repeat
  (first
   | (apply cu; exact hg; rfl; (first | exact I0 | exact I1 | exact I2 | exact I3 | exact I4 | exact I5); iterate 5 rfl) | (refine sth ?_; intros))
 refine EM.nil ?_
 repeat (first | rw [KN] | rw [KO])
 refine CH.nil ?_
 try simp only [KP, KR]
 repeat (refine stp ?_; intros)
 exact EK.dY 4 [stO g m u k n, smO m c es, acO ga b w cd (.map (some gs)), .map gs 32 sc ss] rfl rfl rfl rfl (by repeat first | exact ah.refl _ _ | exact RL.nil | exact Rf.same) (by (repeat first | exact KZ _ | apply List.Sublist.cons_cons | apply List.Sublist.cons)) ⟨rfl, rfl⟩
theorem CQ (h : aC es a = none) : FnM 76 [.v (ptr g), .arr 20 a, .arr 32 q] [stO g m u k n, smO m c es] (fun r os' => r = .val (.arr 32 zero32) ∧ os' = [stO g m u k n, smO m c es]) := by
 have h1 := uH (g := g) (m := m) (c := c) (u := u) (k := k) (n := n) h
 refine FnM.walk 15 Tryz.func76 rfl Tryz.ntmps76 (by simp) fun X => ?_
 repeat (refine stp ?_; intros)
 rename_i g1 g2 g3
 refine EC.le (Le.pick [3, 4, 0, 1, 2] [_, _, _, _, _] rfl (by decide) rfl) ?_
 refine EC.aZ 8 [0, 1, 6] [2, 3, 4, 5, 7] [_, _] _ (by kernel_rfl) (by kernel_rfl) rfl ?_
 simp only [au, KW, KY, KT, KU]
 repeat (refine sth ?_; intros)
 refine EM.nil ?_
 repeat (first | rw [KN] | rw [KO])
 refine CH.bC (rest := []) h1 (k := ?_)
 rintro _ _ ⟨gz, rfl, rfl⟩
 try simp only [St.put]
 repeat (first | rw [KN] | rw [KO])
 refine CH.cut 4 ?_
 simp only [KQ, KX, KP, KR]
 repeat
  (first
   | (apply x9; iterate 6 rfl) | (refine sth ?_; intros))
 refine EM.nil ?_
 repeat (first | rw [KN] | rw [KO])
 refine CH.nil ?_
 try simp only [KP, KR]
 repeat (refine stp ?_; intros)
 exact EK.dY 3 [stO g m u k n, smO m c es] rfl rfl rfl rfl (by repeat first | exact ah.refl _ _ | exact RL.nil | exact Rf.same) (by (repeat first | exact KZ _ | apply List.Sublist.cons_cons | apply List.Sublist.cons)) ⟨rfl, rfl⟩
theorem uq : FnM 56 [.v (ptr ga), .arr 32 q, .arr 32 zero32] [acO ga b w cd (.map (some gs)), .map gs 32 sc ss] (fun r os' => r = .tpl [] ∧ os' = [acO ga b w cd (.map (some gs)), .map gs 32 sc (fC ss q)]) := by
 have hz := (aP zero32 zero32).1
 rw [beq_self_eq_true] at hz
 refine FnM.walk 20 Tryz.func56 rfl Tryz.ntmps56 (by simp) fun X => ?_
 repeat
  (first
   | (refine bH (hrun := hz) (kk := ?_)) | (refine stp ?_; intros))
 refine EC.draw 5 (by kernel_rfl) ?_
 simp only [KQ, KX, KP, KR]
 repeat (refine sth ?_; intros)
 repeat (refine stp ?_; intros)
 exact EK.IU [acO ga b w cd (.map (some gs)), .map gs 32 sc (fC ss q)] rfl (by (repeat first | exact KZ _ | apply List.Sublist.cons_cons | apply List.Sublist.cons)) ⟨rfl, rfl⟩
theorem uo {v : List UInt8} (hv : (v == zero32) = false) : FnM 56 [.v (ptr ga), .arr 32 q, .arr 32 v] [acO ga b w cd (.map (some gs)), .map gs 32 sc ss] (fun r os' => r = .tpl [] ∧ os' = [acO ga b w cd (.map (some gs)), .map gs 32 (aU sc ss q) (aX sc ss q (.arr 32 v))]) := by
 have hz := (aP v zero32).1
 rw [hv] at hz
 refine FnM.walk 20 Tryz.func56 rfl Tryz.ntmps56 (by simp) fun X => ?_
 repeat
  (first
   | (refine bH (hrun := hz) (kk := ?_)) | (refine stp ?_; intros))
 refine EC.draw 6 (by kernel_rfl) ?_
 simp only [KQ, KX, KP, KR]
 repeat (refine sth ?_; intros)
 repeat (refine stp ?_; intros)
 exact EK.cO [acO ga b w cd (.map (some gs)), .map gs 32 (aU sc ss q) (aX sc ss q (.arr 32 v))] rfl (by (repeat first | exact KZ _ | apply List.Sublist.cons_cons | apply List.Sublist.cons)) ⟨rfl, rfl⟩
end
end E
end Go.Proofs.YtohlgnfachkmaaaGreat
