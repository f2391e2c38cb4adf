/-
 Merged: lemmas of this claim.
 Conditions: none.
-/
import Derived.Test.YtohlgnfachkmaaaGreatZA11
import Derived.Test.YtohlgnfachkmaaaGreatZA7
import Derived.Test.YtohlgnfachkmaaaGreatZA6
import Derived.Test.YtohlgnfachkmaaaGreatZA0
namespace Go.Proofs.YtohlgnfachkmaaaGreat
set_option linter.unusedVariables false
open Go.RowKit Mono Rlp
namespace E
theorem jL {α : Type} : ∀ l : List α, (List.range l.length).filterMap (fun i => l[i]?) = l
 | [] => rfl
 | x :: l => by
  rw [Me, List.range_succ_eq_map, KW]
  simp only [KT, List.filterMap_map]
  congr 1
  exact jL l
theorem gY {os : List Obj} (l : List Nat) (hn : os.length = l.length) (h : l.Perm (List.range l.length)) : os.Perm (l.filterMap fun i => os[i]?) := by
 have := h.filterMap fun i => os[i]?
 rw [← hn, jL] at this
 exact this.symm
theorem Le.pick {N : Nat} {X : Cx N} {rs : List (Tmp × R)} {os : List Obj} {fs : List (Value × D)} (l : List Nat) (os' : List Obj) (hn : os.length = l.length) (h : l.Perm (List.range l.length)) (hp : (l.filterMap fun i => os[i]?) = os') : Le X ⟨rs, os, fs⟩ ⟨rs, os', fs⟩ := hp ▸ Le.perm (gY l hn h)
theorem FnM.pick {f : FuncId} {ds : List D} {os : List Obj} {Φ : R → List Obj → Prop} (hF : FnM f ds os Φ) (l : List Nat) (hn : os.length = l.length) (h : l.Perm (List.range l.length)) : FnM f ds (l.filterMap fun i => os[i]?) Φ := hF.perm (gY l hn h)
theorem FnM.out {f : FuncId} {ds : List D} {os : List Obj} {Φ Ψ : R → List Obj → Prop} (hF : FnM f ds os Φ) (k : ∀ r os', Φ r os' → ∃ os2, os'.Perm os2 ∧ Ψ r os2) : FnM f ds os Ψ := ⟨fun ok w xs h1 h2 h3 => (hF.go ok w xs h1 h2 h3).mono fun e w' ⟨v, r, os', e1, e2, e3, e4⟩ => by
 obtain ⟨os2, hp, hΨ⟩ := k r os' e2
 have hok : okM ok os w os' w' = okM ok os w os2 w' := funext fun b => propext ⟨fun h => ⟨h.1, h.2.1, fun o ho => h.2.2 o (hp.mem_iff.2 ho)⟩, fun h => ⟨h.1, h.2.1, fun o ho => h.2.2 o (hp.mem_iff.1 ho)⟩⟩
 exact ⟨v, r, os2, e1, hΨ, ⟨e3.gr, e3.apart.perm hp, fun o ho => hok ▸ e3.at_ o (hp.mem_iff.2 ho)⟩, hok ▸ e4⟩⟩
theorem FnM.frame {f : FuncId} {ds : List D} {os : List Obj} {Φ : R → List Obj → Prop} (hF : FnM f ds os Φ) (rest : List Obj) : FnM f ds (os ++ rest) (fun r os' => ∃ os2, Φ r os2 ∧ os' = os2 ++ rest) := by
 constructor
 intro ok w xs hok hown hr
 have hap := LX.1 hown.apart
 have hown1 : Own ok os w := ⟨fun o ho => hown.at_ o (LJ _ ho), hap.1, fun b ⟨o, ho, e⟩ => hown.off b ⟨o, LJ _ ho, e⟩⟩
 refine (hF.go ok w xs hok hown1 hr).mono ?_
 rintro e w' ⟨v, r, os', rfl, hΦ, ht, hv⟩
 have hrest : ∀ o ∈ rest, ∀ b, o.blk = some b → b < w.heap.size := fun o ho b e => (Obj.bD (hown.at_ o (LW _ ho)) e).2
 have hoff : ∀ b, (ok b ∨ jK os b ∨ w.heap.size ≤ b) → ∀ o ∈ rest, o.blk ≠ some b := fun b hb o ho e => by
  rcases hb with h | ⟨o', ho', e'⟩ | h
  · exact hown.off b ⟨o, LW _ ho, e⟩ h
  · exact hap.2.2 o' ho' o ho b e' e
  ·
   have := hrest o ho b e
   omega
 have hbl : ∀ b, jK os b → jK (os ++ rest) b := fun b ⟨o, ho, e⟩ => ⟨o, LJ _ ho, e⟩
 have hz : ∀ b, okM ok os w os' w' b → okM ok (os ++ rest) w (os' ++ rest) w' b := fun b hb => ⟨hb.1.imp id (Or.imp (hbl b) id), hb.2.1, fun o ho => by
  rcases LP.1 ho with ho | ho
  · exact hb.2.2 o ho
  · exact hoff b hb.1 o ho⟩
 have hblk : ∀ o ∈ os', ∀ b, o.blk = some b → jK os b ∨ w.heap.size ≤ b := fun o ho b e => (Obj.bD (ht.at_ o ho) e).1
 have hnew : ∀ b, ok b → ∀ o ∈ os', o.blk ≠ some b := fun b hb o ho e => by
  rcases hblk o ho b e with h | h
  · exact hown1.off b h hb
  ·
   have := hok b hb
   omega
 refine ⟨v, r, os' ++ rest, rfl, ⟨os', hΦ, rfl⟩, ⟨?_, LX.2 ⟨ht.apart, hap.2.1, fun o ho p hp b e e' => ?_⟩, fun o ho => ?_⟩, aO.mono hz (fun _ _ => rfl) hv⟩
 · exact (GrE.refl w).step ht.gr fun b hb => .inl (hbl b hb)
 · exact hoff b (.inr (hblk o ho b e)) p hp e'
 ·
  rcases LP.1 ho with ho | ho
  · exact ((ht.at_ o ho).move hz (fun _ _ => rfl) fun _ _ => rfl).iw fun b e => (hblk o ho b e).imp (hbl b) id
  ·
   have hat := hown.at_ o (LW _ ho)
   refine (hat.move (z' := okM ok (os ++ rest) w (os' ++ rest) w') (fun b hb => hz b ⟨.inl hb, LU (hok b hb) ht.gr.size, hnew b hb⟩) (fun p hp => ht.gr.cell (hok _ hp) fun hb => hown1.off _ hb hp) fun g e => ht.gr.block g (hrest o ho g e) fun hb => hoff g (.inr (.inl hb)) o ho e).iw fun b e => .inl ⟨o, LW _ ho, e⟩
section
variable {S : St} {ops : Array Oper} {o : Oper}
theorem gI {T e z y' : Nat} {s x : Operand} {v : Value} {ds es : List D} (ho : o.op = .call { callee := .builtin .append, args := #[s, x], argTypes := #[T, T] }) (hT : assoc slL T = some (e, z, y')) (hz : Nat.blt 0 z = true) (hs : ev S s = some (.val (.v v))) (hx : ev S x = some (.val (.sl z es))) (hlen : (ds.length + es.length) * y' ≤ 140737488355328 ∧ ds.length + es.length ≤ 9223372036854775807) :
  lg ops S o [.row v e z ds] (fun r os' => ∃ v', r = .val (.v v') ∧ os' = [.row v' e z (ds ++ es)]) := .mk fun base ok a w ha hown => by
 have hs' := bK ha hs fun t e => ay e (by rw [ho]; simp [Op.operands, Call.operands])
 obtain ⟨A, c, rows', h1, h2, h3, h4, h5, h6⟩ := og (ha.ev hx fun t e => ay e (by rw [ho]; simp [Op.operands, Call.operands]))
 obtain ⟨rows, h7, h8⟩ := hown.at_ (.row v e z ds) Ld
 obtain ⟨hl1, hl2⟩ := aj.lens es rows' h6
 have hlen' : rows'.flatten.length = es.length * z := by
  have : ∀ rows : List (List Value), (∀ r ∈ rows, r.length = z) → rows.flatten.length = rows.length * z := by
   intro rows
   induction rows with
   | nil => simp
   | cons r rows ih =>
    intro h
    rw [MP, List.length_append, h r (by simp), ih fun r hr => h r (by simp [hr]), Me, Nq, NR, Nat.add_comm]
  rw [this rows' hl2, hl1]
 have hrd : Rd w w.heap.size A rows'.flatten := fun hn => by
  obtain ⟨b, n, e, hb, hc⟩ := h5 hn
  exact ⟨b, n, e, ha.lt b hb, hc⟩
 obtain ⟨A', c', w', hrun, hown', hgr, hblk⟩ := fZ (P := Tryz.prog) (ty := o.type) (c := c) (CS hT hz) h7.1 hlen' hrd (aj.one es rows' h6) (by simp only [maxLen]; exact hlen.2) hlen.1 (LH _)
 have hoff : ∀ b, ok b → v.ownBlock ≠ some b := fun b hb e => hown.off b ⟨_, Ld, e⟩ hb
 have hblk' : ∀ b, (Value.slice A' (ds.length + es.length) c').ownBlock = some b → v.ownBlock = some b ∨ w.heap.size ≤ b := fun b e' => by
  rcases hblk with h | h
  · exact .inl (h ▸ e')
  ·
   rw [h] at e'
   cases e'
   exact .inr (LG _)
 have hz' : ∀ b, ok b → okM ok [.row v e z ds] w [.row (.slice A' (ds.length + es.length) c') e z (ds ++ es)] w' b := fun b hb => ⟨.inl hb, LU (ha.lt b hb) hgr.size, fun o' ho' e' => by
  obtain rfl : o' = _ := by simpa using ho'
  rcases hblk' b e' with h | h
  · exact hoff b hb h
  ·
   have := ha.lt b hb
   omega⟩
 have hcell : ∀ p : Addr, ok p.block → w'.cell? p = w.cell? p := fun p hp => World.cell?_of_block (hgr.block _ (ha.lt _ hp) fun e' => hoff _ hp e'.symm)
 unfold execOp
 simp only [ho, resolve, invoke, builtin, Lr, LD, Lh, Nz, LV, MW, hs', h1, hrun, eu]
 refine ⟨.val (.v (.slice A' (ds.length + es.length) c')), [.row (.slice A' (ds.length + es.length) c') e z (ds ++ es)], ⟨_, rfl, rfl⟩, ⟨⟨hgr.os, hgr.tape, hgr.output, hgr.size, fun k hk hn => hgr.block k hk fun e' => hn ⟨_, Ld, e'.symm⟩⟩, by simp, fun o' ho' => ?_⟩, ?_⟩
 ·
  obtain rfl : o' = _ := by simpa using ho'
  refine ⟨rows ++ rows', ?_, aj.append ds es rows rows' (aj.mono hz' hcell z ds rows h8) (aj.mono hz' hcell z es rows' h6)⟩
  rw [List.flatten_append, List.length_append]
  refine ⟨hown', fun b hb => ?_⟩
  rcases hblk' b hb with h | h
  · exact .inl ⟨_, Ld, h⟩
  · exact .inr h
 · exact aG.2 ⟨rfl, rfl⟩
end
end E
end Go.Proofs.YtohlgnfachkmaaaGreat
namespace Go.Proofs.YtohlgnfachkmaaaGreat
set_option linter.unusedVariables false
set_option maxRecDepth 20000
set_option maxHeartbeats 4000000
open Go.RowKit Mono Rlp Wd
namespace E
section
variable {g m c ga gs T : Nat} {u k : Value} {n : Int} {es : List Ent} {a w cd : List UInt8} {us ks : List D} {d : D} {b : Int} {sv : Value}
abbrev FK (a w : List UInt8) : D := .ifc 178 (.tup [.arr 20 a, .arr 32 w])
abbrev FI (a : List UInt8) (n : Int) : D := .ifc 136 (.tup [.arr 20 a, .v (.int .i64 n)])
theorem lW (h : aC es a = some (.v (ptr ga))) (hu : us.length < 1099511627776) : FnM 62 [.v (ptr g), .arr 20 a, .ifc T d] [stO g m u k n, smO m c es, acO ga b w cd sv, unO u us, mkO k ks] (fun r os' => ∃ u', r = .val (.v (ptr ga)) ∧ os' = [stO g m u' k n, smO m c es, unO u' (dG ks us (.ifc T d)), mkO k ks, acO ga b w cd sv]) := by
 have h1 := ((nR (g := g) (m := m) (c := c) (u := u) (k := k) (n := n) (ks := ks) (T := T) (d := d) h hu).frame [acO ga b w cd sv]).pick [0, 1, 4, 2, 3] rfl (by decide)
 refine FnM.mono h1 ?_
 rintro r _ ⟨_, ⟨u', rfl, rfl⟩, rfl⟩
 exact ⟨u', rfl, rfl⟩
theorem rF {w' : List UInt8} (h : aC es a = some (.v (ptr ga))) (hu : us.length < 1099511627776) : FnM 63 [.v (ptr g), .arr 20 a, .arr 32 w'] [stO g m u k n, smO m c es, unO u us, mkO k ks, acO ga b w cd sv] (fun r os' => r = .tpl [] ∧ ∃ u', os' = [stO g m u' k n, smO m c es, unO u' (dG ks us (FK a w)), mkO k ks, acO ga b w' cd sv]) := by
 have h1 := zf (g := g) (m := m) (c := c) (u := u) (k := k) (n := n) (b := b) (w := w) (cd := cd) (sv := sv) h
 have h2 := lW (g := g) (m := m) (c := c) (u := u) (k := k) (n := n) (ks := ks) (T := 178) (d := .tup [.arr 20 a, .arr 32 w]) (b := b) (w := w) (cd := cd) (sv := sv) h hu
 refine FnM.walk 18 Tryz.func63 rfl Tryz.ntmps63 (by simp) fun X => ?_
 repeat (refine stp ?_; intros)
 refine EC.le (Le.pick [2, 3, 6, 4, 5, 0, 1] [_, _, _, _, _, _, _] rfl (by decide) rfl) ?_
 refine EC.aZ 10 [0, 1, 2, 3, 4, 9] [5, 6, 7, 8] [_, _, _, _, _] _ (by kernel_rfl) (by kernel_rfl) rfl ?_
 simp only [au, KW, KY, KT, KU]
 repeat (refine sth ?_; intros)
 refine EM.nil ?_
 repeat (first | rw [KN] | rw [KO])
 refine CH.bC (rest := [_, _]) h1 (k := ?_)
 rintro _ _ ⟨rfl, rfl⟩
 try simp only [St.put]
 repeat (first | rw [KN] | rw [KO])
 refine CH.cut 2 ?_
 simp only [KQ, KX, KP, KR]
 repeat (refine sth ?_; intros)
 refine EM.nil ?_
 repeat (first | rw [KN] | rw [KO])
 refine CH.bC (rest := []) h2 (k := ?_)
 rintro _ _ ⟨u', rfl, rfl⟩
 try simp only [St.put]
 repeat (first | rw [KN] | rw [KO])
 refine CH.nil ?_
 try simp only [KP, KR]
 repeat (refine stp ?_; intros)
 exact EK.cO [stO g m u' k n, smO m c es, unO u' (dG ks us (FK a w)), mkO k ks, acO ga b w' cd sv] rfl (by (repeat first | exact KZ _ | apply List.Sublist.cons_cons | apply List.Sublist.cons)) ⟨rfl, u', rfl⟩
theorem pX {w' : List UInt8} (h : aC es a = none) (hu : us.length < 1099511627776) : FnM 63 [.v (ptr g), .arr 20 a, .arr 32 w'] [stO g m u k n, smO m c es, unO u us, mkO k ks] (fun r os' => r = .tpl [] ∧ ∃ u' ga gs, os' = [stO g m u' k n, smO m (aU c es a) (aX c es a (.v (ptr ga))), unO u' (dG ks us (FK a zero32)), mkO k ks, acO ga 0 w' [] (.map (some gs)), .map gs 32 0 []]) := by
 have h1 := xQ (g := g) (m := m) (c := c) (u := u) (k := k) (n := n) h
 have h2 := iG (g := g) (m := m) (c := c) (u := u) (k := k) (n := n) (ks := ks) (T := 178) (d := .tup [.arr 20 a, .arr 32 zero32]) h hu
 refine FnM.walk 18 Tryz.func63 rfl Tryz.ntmps63 (by simp) fun X => ?_
 repeat (refine stp ?_; intros)
 refine EC.le (Le.pick [2, 3, 4, 5, 0, 1] [_, _, _, _, _, _] rfl (by decide) rfl) ?_
 refine EC.aZ 10 [0, 1, 2, 3, 4, 9] [5, 6, 7, 8] [_, _, _, _] _ (by kernel_rfl) (by kernel_rfl) rfl ?_
 simp only [au, KW, KY, KT, KU]
 repeat (refine sth ?_; intros)
 refine EM.nil ?_
 repeat (first | rw [KN] | rw [KO])
 refine CH.bC (rest := [_, _]) h1 (k := ?_)
 rintro _ _ ⟨rfl, rfl⟩
 try simp only [St.put]
 repeat (first | rw [KN] | rw [KO])
 refine CH.cut 2 ?_
 simp only [KQ, KX, KP, KR]
 repeat (refine sth ?_; intros)
 refine EM.nil ?_
 repeat (first | rw [KN] | rw [KO])
 refine CH.bC (rest := []) h2 (k := ?_)
 rintro _ _ ⟨u', ga, gs, rfl, rfl⟩
 try simp only [St.put]
 repeat (first | rw [KN] | rw [KO])
 refine CH.nil ?_
 try simp only [KP, KR]
 repeat (refine stp ?_; intros)
 refine EK.le (Le.pick [2, 3, 4, 5, 0, 1, 6, 7] [_, _, _, _, _, _, _, _] rfl (by decide) rfl) ?_
 exact EK.cO [stO g m u' k n, smO m (aU c es a) (aX c es a (.v (ptr ga))), unO u' (dG ks us (FK a zero32)), mkO k ks, acO ga 0 w' [] (.map (some gs)), .map gs 32 0 []] rfl (by (repeat first | exact KZ _ | apply List.Sublist.cons_cons | apply List.Sublist.cons)) ⟨rfl, u', ga, gs, rfl⟩
theorem vT {n' : Int} (h : aC es a = some (.v (ptr ga))) (hu : us.length < 1099511627776) : FnM 30 [.v (ptr g), .arr 20 a, .v (.int .i64 n')] [stO g m u k n, smO m c es, unO u us, mkO k ks, acO ga b w cd sv] (fun r os' => r = .tpl [] ∧ ∃ u', os' = [stO g m u' k n, smO m c es, unO u' (dG ks us (FI a b)), mkO k ks, acO ga (if n' > 0 then n' else 0) w cd sv]) := by
 have h1 := Dx (g := g) (m := m) (c := c) (u := u) (k := k) (n := n) (b := b) (w := w) (cd := cd) (sv := sv) h
 have h2 := lW (g := g) (m := m) (c := c) (u := u) (k := k) (n := n) (ks := ks) (T := 136) (d := .tup [.arr 20 a, .v (.int .i64 b)]) (b := b) (w := w) (cd := cd) (sv := sv) h hu
 refine FnM.walk 19 Tryz.func30 rfl Tryz.ntmps30 (by simp) fun X => ?_
 repeat (refine stp ?_; intros)
 refine EC.le (Le.pick [1, 2, 5, 3, 4, 0] [_, _, _, _, _, _] rfl (by decide) rfl) ?_
 refine EC.aZ 11 [0, 1, 2, 3, 4, 9, 10] [5, 6, 7, 8] [_, _, _, _, _] _ (by kernel_rfl) (by kernel_rfl) rfl ?_
 simp only [au, KW, KY, KT, KU]
 repeat (refine sth ?_; intros)
 refine EM.nil ?_
 repeat (first | rw [KN] | rw [KO])
 refine CH.bC (rest := [_, _]) h1 (k := ?_)
 rintro _ _ ⟨rfl, rfl⟩
 try simp only [St.put]
 repeat (first | rw [KN] | rw [KO])
 refine CH.cut 2 ?_
 simp only [KQ, KX, KP, KR]
 repeat (refine sth ?_; intros)
 refine EM.nil ?_
 repeat (first | rw [KN] | rw [KO])
 refine CH.bC (rest := []) h2 (k := ?_)
 rintro _ _ ⟨u', rfl, rfl⟩
 try simp only [St.put]
 repeat (first | rw [KN] | rw [KO])
 refine CH.nil ?_
 try simp only [KP, KR]
 repeat (refine stp ?_; intros)
 exact EK.cO [stO g m u' k n, smO m c es, unO u' (dG ks us (FI a b)), mkO k ks, acO ga (if n' > 0 then n' else 0) w cd sv] rfl (by (repeat first | exact KZ _ | apply List.Sublist.cons_cons | apply List.Sublist.cons)) ⟨rfl, u', rfl⟩
theorem uw {n' : Int} (h : aC es a = none) (hu : us.length < 1099511627776) : FnM 30 [.v (ptr g), .arr 20 a, .v (.int .i64 n')] [stO g m u k n, smO m c es, unO u us, mkO k ks] (fun r os' => r = .tpl [] ∧ ∃ u' ga gs, os' = [stO g m u' k n, smO m (aU c es a) (aX c es a (.v (ptr ga))), unO u' (dG ks us (FI a 0)), mkO k ks, acO ga (if n' > 0 then n' else 0) zero32 [] (.map (some gs)), .map gs 32 0 []]) := by
 have h1 := AL (g := g) (m := m) (c := c) (u := u) (k := k) (n := n) h
 have h2 := iG (g := g) (m := m) (c := c) (u := u) (k := k) (n := n) (ks := ks) (T := 136) (d := .tup [.arr 20 a, .v (.int .i64 0)]) h hu
 refine FnM.walk 19 Tryz.func30 rfl Tryz.ntmps30 (by simp) fun X => ?_
 repeat (refine stp ?_; intros)
 refine EC.le (Le.pick [1, 2, 3, 4, 0] [_, _, _, _, _] rfl (by decide) rfl) ?_
 refine EC.aZ 11 [0, 1, 2, 3, 4, 9, 10] [5, 6, 7, 8] [_, _, _, _] _ (by kernel_rfl) (by kernel_rfl) rfl ?_
 simp only [au, KW, KY, KT, KU]
 repeat (refine sth ?_; intros)
 refine EM.nil ?_
 repeat (first | rw [KN] | rw [KO])
 refine CH.bC (rest := [_, _]) h1 (k := ?_)
 rintro _ _ ⟨rfl, rfl⟩
 try simp only [St.put]
 repeat (first | rw [KN] | rw [KO])
 refine CH.cut 2 ?_
 simp only [KQ, KX, KP, KR]
 repeat (refine sth ?_; intros)
 refine EM.nil ?_
 repeat (first | rw [KN] | rw [KO])
 refine CH.bC (rest := []) h2 (k := ?_)
 rintro _ _ ⟨u', ga, gs, rfl, rfl⟩
 try simp only [St.put]
 repeat (first | rw [KN] | rw [KO])
 refine CH.nil ?_
 try simp only [KP, KR]
 repeat (refine stp ?_; intros)
 refine EK.le (Le.pick [2, 3, 4, 5, 0, 1, 6] [_, _, _, _, _, _, _] rfl (by decide) rfl) ?_
 exact EK.cO [stO g m u' k n, smO m (aU c es a) (aX c es a (.v (ptr ga))), unO u' (dG ks us (FI a 0)), mkO k ks, acO ga (if n' > 0 then n' else 0) zero32 [] (.map (some gs)), .map gs 32 0 []] rfl (by (repeat first | exact KZ _ | apply List.Sublist.cons_cons | apply List.Sublist.cons)) ⟨rfl, u', ga, gs, rfl⟩
end
end E
end Go.Proofs.YtohlgnfachkmaaaGreat
namespace Go.Proofs.YtohlgnfachkmaaaGreat
set_option linter.unusedVariables false
set_option maxHeartbeats 2000000
open Go.RowKit Mono Rlp
namespace E
def Visit (ops : Array Oper) (S : St) (o : Oper) (r : R) : Prop := ∃ os rest, S.objs.Perm (os ++ rest) ∧ lg ops ⟨S.regs, rest, S.facts⟩ o os (fun r' os' => r' = r ∧ os' = os)
def OkV (N : Nat) (ops : Array Oper) (S : St) (o : Oper) (i : Inf) : Prop := OkI N ops S o i ∨ ∃ r, i = .grow r ∧ guardOf ops S o = some true ∧ Visit ops S o r
def EV (N : Nat) (ops : Array Oper) (T : St → List Fr → Prop) : List Oper → St → List Fr → Prop
 | [], S, E => T S E
 | o :: l, S, E => ∃ inf : Inf, inf.wG = true ∧ bf N o.dst E = true ∧ ((∃ T d, inf = .new T d) → o.dst ≠ none) ∧ OkV N ops S o inf ∧ EV N ops T l (S.put o.dst inf.reg) (lF E o.dst inf)
section
variable {N : Nat} {X : Cx N} {S S' : St} {a : Act} {w w' : World} {ops : Array Oper} {o : Oper} {Q : Exit → Act → World → Prop} {l : List Oper} {T : St → List Fr → Prop} {E : List Fr}
theorem EV.nil (h : T S E) : EV N ops T [] S E := h
theorem EV.seg {l2 : List Oper} : ∀ (l1 : List Oper) (S : St) (E : List Fr), EM N ops (fun S' E' => EV N ops T l2 S' E') l1 S E → EV N ops T (l1 ++ l2) S E
 | [], S, E, h => h
 | o :: l1, S, E, ⟨inf, h0, h1, h2, h3, h4⟩ => ⟨inf, h0, h1, h2, .inl h3, EV.seg l1 _ _ h4⟩
theorem EV.cut (k : Nat) (h : EM N ops (fun S' E' => EV N ops T (l.drop k) S' E') (l.take k) S E) : EV N ops T l S E := by
 have := EV.seg _ _ _ h
 rwa [Nh] at this
theorem EV.visit {r : R} (os rest : List Obj) (hg : guardOf ops S o = some true) (hd : bf N o.dst E = true) (hp : S.objs.Perm (os ++ rest)) (hO : lg ops ⟨S.regs, rest, S.facts⟩ o os (fun r' os' => r' = r ∧ os' = os)) (k : EV N ops T l (S.put o.dst r) E) : EV N ops T (o :: l) S E :=
 ⟨.grow r, rfl, hd, (fun ⟨_, _, e⟩ => by cases e), .inr ⟨r, rfl, hg, os, rest, hp, hO⟩, k⟩
theorem zW : ∀ (l : List Oper) (S : St) (E : List Fr), EV N ops T l S E → ∃ infs : List Inf, infs.length = l.length ∧
  (∀ k o i, l[k]? = some o → infs[k]? = some i → OkV N ops (bW S l infs k) o i ∧ (∀ t, o.dst = some t → t < N ∧ (∀ x ∈ E, x.1 ≠ t) ∧ ∀ j oj T d, j < k → l[j]? = some oj → infs[j]? = some (.new T d) → oj.dst ≠ some t) ∧ ((∃ T d, i = .new T d) → o.dst ≠ none)) ∧
  T (bW S l infs l.length) (yU E l infs) ∧ ∀ (k : Nat) (i : Inf), infs[k]? = some i → i.wG = true
 | [], S, E, h => ⟨[], rfl, (fun k o i h => by simp at h), h, fun k i h => by simp at h⟩
 | o :: l, S, E, h => by
  obtain ⟨inf, h0, h1, h1', h2, h3⟩ := h
  obtain ⟨infs, h4, h5, h6, h7⟩ := zW l _ _ h3
  have hoff : ∀ t, o.dst = some t → t < N ∧ ∀ x ∈ E, x.1 ≠ t := fun t ht => by
   rw [ht] at h1
   simp only [bf, MI, decide_eq_true_eq] at h1
   exact ⟨h1.1, fun x hx => by simpa using Md.1 h1.2 x hx⟩
  refine ⟨inf :: infs, by simp [h4], fun k o' i hk hi => ?_, h6, fun k i hi => by
   cases k with
   | zero =>
    cases hi
    exact h0
   | succ k => exact h7 k i (by simpa using hi)⟩
  cases k with
  | zero =>
   cases hk
   cases hi
   exact ⟨h2, fun t ht => ⟨(hoff t ht).1, (hoff t ht).2, fun j _ _ _ hj => by omega⟩, h1'⟩
  | succ k =>
   obtain ⟨g1, g2, g3⟩ := h5 k o' i (by simpa using hk) (by simpa using hi)
   refine ⟨g1, fun t ht => ⟨(g2 t ht).1, fun x hx => (g2 t ht).2.1 x ?_, fun j oj T d hj hoj hij => ?_⟩, g3⟩
   ·
    unfold lF
    split
    ·
     split
     · exact LJ _ hx
     · exact hx
    · exact hx
   ·
    cases j with
    | zero =>
     cases hoj
     cases hij
     intro e
     exact (g2 t ht).2.1 (t, T, d) (by unfold lF; rw [e]; simp) rfl
    | succ j => exact (g2 t ht).2.2 j oj T d (by omega) (by simpa using hoj) (by simpa using hij)
theorem Mem.perm {os os' : List Obj} {fs : List (Value × D)} (h : os.Perm os') (hm : Mem X os fs w) : Mem X os' fs w :=
 ((Le.perm (X := X) (rs := []) (fs := fs) h) ⟨Array.replicate N undef, []⟩ w ⟨hm, (fun t r hr => by cases hr), by simp, rfl⟩).mem
theorem uG {os os' : List Obj} (h : os.Perm os') : X.ok os w = X.ok os' w := funext fun b => propext ⟨fun hb => ⟨hb.1, hb.2.1, fun o ho => hb.2.2 o (h.mem_iff.2 ho)⟩, fun hb => ⟨hb.1, hb.2.1, fun o ho => hb.2.2 o (h.mem_iff.1 ho)⟩⟩
abbrev Nw := Nat × Nat × TypeId × D
def Nw.pc (e : Nw) : Obj := .var e.2.1 e.2.2.1 e.2.2.2
theorem Io {α : Type} {R : α → α → Prop} (hs : ∀ x y, R x y → R y x) : ∀ {l : List α}, l.Pairwise R → ∀ x, x ∈ l → ∀ y, y ∈ l → x ≠ y → R x y
 | [], _, x, hx, _, _, _ => by cases hx
 | a :: l, h, x, hx, y, hy, hn => by
  obtain ⟨h1, h2⟩ := Mc.1 h
  rcases Lj.1 hx with e | hx' <;> rcases Lj.1 hy with e' | hy'
  · exact absurd (e.trans e'.symm) hn
  · exact e ▸ h1 y hy'
  · exact e' ▸ hs _ _ (h1 x hx')
  · exact Io hs h2 x hx' y hy' hn
structure RV (X : Cx N) (S : St) (a : Act) (infs : List Inf) (L : Nat → Prop) (vs : Nat → Value) (u : World) (nw : List Nw) : Prop where
 nd : (nw.map (·.1)).Nodup
 ok : ∀ e ∈ nw, L e.1 ∧ infs[e.1]? = some (.new e.2.2.1 e.2.2.2) ∧ vs e.1 = .pointer (some ⟨e.2.1, 0, none⟩)
 all : ∀ j T d, L j → infs[j]? = some (.new T d) → ∃ e ∈ nw, e.1 = j
 mem : Mem X (nw.map Nw.pc ++ S.objs) S.facts u
 val : ∀ j i, L j → infs[j]? = some i → aO (X.ok (nw.map Nw.pc ++ S.objs) u) u i.reg (vs j)
 old : ∀ t r, look S.regs t = some r → aO (X.ok (nw.map Nw.pc ++ S.objs) u) u r (a.tmps.getD t undef)
theorem RV.same {infs : List Inf} {L : Nat → Prop} {vs : Nat → Value} {u u' : World} {nw : List Nw} (h : RV X S a infs L vs u nw) {k : Nat} {i : Inf} (hk : ¬ L k) (hi : infs[k]? = some i) (hn : ∀ T d, i ≠ .new T d) (v : Value) (hm : Mem X (nw.map Nw.pc ++ S.objs) S.facts u') (hok : ∀ b, X.ok (nw.map Nw.pc ++ S.objs) u b → X.ok (nw.map Nw.pc ++ S.objs) u' b) (hc : ∀ p : Addr, X.ok (nw.map Nw.pc ++ S.objs) u p.block → u'.cell? p = u.cell? p) (hv : aO (X.ok (nw.map Nw.pc ++ S.objs) u') u' i.reg v) : RV X S a infs (fun j => j = k ∨ L j) (fun j => if j = k then v else vs j) u' nw := by
 refine ⟨h.nd, fun e he => ?_, fun j T d hj hij => ?_, hm, fun j i' hj hij => ?_, fun t r hr => (h.old t r hr).mono hok hc⟩
 ·
  obtain ⟨h1, h2, h3⟩ := h.ok e he
  exact ⟨.inr h1, h2, by rw [if_neg (show ¬ e.1 = k from fun e' => hk (by rw [← e']; exact h1))]; exact h3⟩
 ·
  rcases hj with rfl | hj
  · exact absurd (MS (hi.symm.trans hij)) (hn T d)
  · exact h.all j T d hj hij
 ·
  by_cases e : j = k
  ·
   subst e
   rw [if_pos rfl]
   obtain rfl : i' = i := MS (hij.symm.trans hi)
   exact hv
  ·
   rw [if_neg e]
   exact (h.val j i' (hj.resolve_left e) hij).mono hok hc
theorem RV.new {infs : List Inf} {L : Nat → Prop} {vs : Nat → Value} {u : World} {nw : List Nw} (h : RV X S a infs L vs u nw) {k : Nat} {Ty : TypeId} {d : D} {cs : List Value} (hk : ¬ L k) (hi : infs[k]? = some (.new Ty d)) (hcs : Reads (X.ok (nw.map Nw.pc ++ S.objs) u) u d cs) : RV X S a infs (fun j => j = k ∨ L j) (fun j => if j = k then .pointer (some ⟨u.heap.size, 0, none⟩) else vs j) (u.alloc (.cells cs.toArray Ty)) ((k, u.heap.size, Ty, d) :: nw) := by
 have hgr := bZ u (.cells cs.toArray Ty)
 have hok : ∀ b, X.ok (nw.map Nw.pc ++ S.objs) u b → X.ok (((k, u.heap.size, Ty, d) :: nw : List Nw).map Nw.pc ++ S.objs) (u.alloc (.cells cs.toArray Ty)) b := fun b hb => ⟨hb.1, LU hb.2.1 hgr.size, fun o ho e => by
  rw [LV, KN] at ho
  rcases Lj.1 ho with rfl | ho
  ·
   cases e
   exact absurd hb.2.1 (Nat.lt_irrefl _)
  · exact hb.2.2 o ho e⟩
 have hc : ∀ p : Addr, X.ok (nw.map Nw.pc ++ S.objs) u p.block → (u.alloc (.cells cs.toArray Ty)).cell? p = u.cell? p := fun p hp => hgr.cell hp.2.1
 refine ⟨?_, fun e he => ?_, fun j T' d' hj hij => ?_, ?_, fun j i' hj hij => ?_, fun t r hr => (h.old t r hr).mono hok hc⟩
 ·
  rw [LV]
  refine MR.2 ⟨fun hm => ?_, h.nd⟩
  obtain ⟨e, he, e'⟩ := Ll.1 hm
  have e2 : e.1 = k := e'
  exact hk (by rw [← e2]; exact (h.ok e he).1)
 ·
  rcases Lj.1 he with rfl | he
  · exact ⟨.inl rfl, hi, if_pos rfl⟩
  ·
   obtain ⟨h1, h2, h3⟩ := h.ok e he
   exact ⟨.inr h1, h2, by rw [if_neg (show ¬ e.1 = k from fun e' => hk (by rw [← e']; exact h1))]; exact h3⟩
 ·
  rcases hj with rfl | hj
  · exact ⟨_, Ld, rfl⟩
  ·
   obtain ⟨e, he, e'⟩ := h.all j T' d' hj hij
   exact ⟨e, Lu _ he, e'⟩
 ·
  have hat : At X ⟨[], nw.map Nw.pc ++ S.objs, S.facts⟩ ⟨Array.replicate N undef, []⟩ u := ⟨h.mem, (fun t r hr => by cases hr), by simp, rfl⟩
  exact (hat.new (q := .var u.heap.size Ty d) rfl ⟨.inr h.mem.gr.size, cs, heap_alloc_new u _, Reads.mono hok hc _ _ hcs⟩).mem
 ·
  by_cases e : j = k
  ·
   subst e
   obtain rfl : i' = .new Ty d := MS (hij.symm.trans hi)
   trivial
  ·
   rw [if_neg e]
   exact (h.val j i' (hj.resolve_left e) hij).mono hok hc
theorem EC.Em {id : Nat} (n : Nat) (hB : monoB l.toArray n N = true) (h : EV N l.toArray (fun S' E => lD (EL X l.toArray Q (l.drop n)) E S') (l.take n) S []) : EC X Q (.region id l.toArray true) S := by
 constructor
 intro a ws ha
 obtain ⟨infs, hlen, hok, hT, hnp⟩ := zW _ _ _ h
 have hle : n ≤ l.length := by simpa using (fJ hB).le
 have hln : (l.take n).length = n := by simp; omega
 rw [hln] at hlen hT
 have htake : ∀ k, k < n → (l.take n)[k]? = l[k]? := fun k hk => by rw [Oq, if_pos hk]
 have hdst : ∀ k o, l[k]? = some o → aV l.toArray k = o.dst := fun k o ho => by unfold aV; simp [ho]
 have hread : ∀ k L vs (b : Act) u nw t r, k ≤ n → RV X S a infs L vs u nw → iY l.toArray L vs a b k t → look (bW S (l.take n) infs k).regs t = some r → aO (X.ok (nw.map Nw.pc ++ S.objs) u) u r (b.tmps.getD t undef) := fun k L vs b u nw t r hk hG hs hr => by
  have hlk := bP (l.take n) infs k S t (by rw [hlen, hln]) (by omega)
  rcases hs with ⟨j, h1, h2, h3, h4, h5⟩ | ⟨h1, h2⟩
  ·
   have hjl : j < l.length := by omega
   have hoj : l[j]? = some l[j] := by simp
   have hij : infs[j]? = some infs[j] := by simp
   rw [hlk.1 j l[j] infs[j] h1 (by rw [htake j (by omega)]; exact hoj) hij (by rw [← hdst j _ hoj]; exact h2) fun m om h6 h7 hom => by
    rw [htake m (by omega)] at hom
    rw [← hdst m _ hom]
    exact h3 m h6 h7] at hr
   cases hr
   rw [h5]
   exact hG.val j _ h4 hij
  ·
   rw [hlk.2 fun j oj hj hoj => by
    rw [htake j (by omega)] at hoj
    rw [← hdst j _ hoj]
    exact h1 j hj] at hr
   rw [h2]
   exact hG.old t r hr
 refine fF n (by kernel_rfl) (by rw [ha.size]; exact hB) (fun L vs u => ∃ nw, RV X S a infs L vs u nw) ?_ ?_ ?_ ?_
 ·
  rintro L L' vs vs' w hL hvs ⟨nw, hG⟩
  obtain rfl : L = L' := funext fun j => propext (hL j)
  exact ⟨nw, hG.nd, fun e he => (by obtain ⟨h1, h2, h3⟩ := hG.ok e he; exact ⟨h1, h2, by rw [← hvs _ h1]; exact h3⟩), hG.all, hG.mem, fun j i hj hi => (by rw [← hvs j hj]; exact hG.val j i hj hi), hG.old⟩
 ·
  have had : At X S a ws.drew := ha.gr (by exact ⟨rfl, rfl, rfl, LG _, fun _ _ => rfl⟩)
  exact ⟨[], Nb, (fun e he => by cases he), (fun j T d hj => hj.elim), had.mem, (fun j i hj => hj.elim), had.regs⟩
 ·
  intro k o L vs b u hk ho hL hLk ⟨nw, hG⟩ hslot hwait
  obtain ⟨i, hi⟩ : ∃ i, infs[k]? = some i := ⟨infs[k], by simp [hlen, hk]⟩
  obtain ⟨hO, hof, _⟩ := hok k o i (by rw [htake k hk]; exact ho) hi
  have hkn : Kn X.mine (X.ok (nw.map Nw.pc ++ S.objs) u) (fun t => t ∈ o.looksAt l.toArray) (bW S (l.take n) infs k) b u := by
   refine ⟨fun p hp => ?_, fun f hf => ?_, fun b hb => hb.2.1, fun t r ht hr => hread k L vs b u nw t r (OD hk) hG (hslot t ht) hr⟩
   ·
    rw [(aK _ _ _ _).1] at hp
    exact hG.mem.at_ p (LW _ hp)
   ·
    rw [(aK _ _ _ _).2] at hf
    exact hG.mem.fact f hf
  rcases hO with hO | ⟨r, rfl, hg, os, rest, hp, hM⟩
  ·
   cases i with
   | still r =>
    obtain ⟨hg, hSt⟩ := hO
    refine ⟨fun _ => ?_, fun hw => by rw [aJ hkn hg] at hw; cases hw⟩
    obtain ⟨v, e1, e2⟩ := hSt _ _ b u hkn
    rw [e1]
    exact ⟨nw, hG.same hLk hi (fun _ _ e => by cases e) v hG.mem (fun _ h => h) (fun _ _ => rfl) e2⟩
   | grow r =>
    obtain ⟨hg, hSt⟩ := hO
    refine ⟨fun _ => bY (hSt _ _ b u hkn) (fun v w' hgr hv => ?_), fun hw => by rw [aJ hkn hg] at hw; cases hw⟩
    obtain ⟨r', rfl, hv⟩ := hv
    exact ⟨nw, hG.same hLk hi (fun _ _ e => by cases e) v (hG.mem.grown hgr) (fun b hb => qy hgr hb) (fun p hp => kU hgr p hp) (hv.mono (fun b hb => kV hG.mem hgr hb) fun _ _ => rfl)⟩
   | put p q => cases hnp _ _ hi
   | skip =>
    refine ⟨fun hw => (by rw [aJ hkn hO] at hw; cases hw), fun _ => ?_⟩
    exact ⟨nw, hG.same hLk hi (fun _ _ e => by cases e) undef hG.mem (fun _ h => h) (fun _ _ => rfl) ⟨[], rfl, rfl⟩⟩
   | new T d =>
    obtain ⟨hg, hSt⟩ := hO
    refine ⟨fun _ => ?_, fun hw => by rw [aJ hkn hg] at hw; cases hw⟩
    obtain ⟨cs, e1, e2⟩ := hSt _ _ b u hkn
    rw [e1]
    exact ⟨_, hG.new hLk hi e2⟩
  ·
   refine ⟨fun _ => ?_, fun hw => by rw [aJ hkn hg] at hw; cases hw⟩
   rw [(aK _ _ _ _).1] at hp
   have hpp : (nw.map Nw.pc ++ S.objs).Perm (os ++ (rest ++ nw.map Nw.pc)) := by
    refine MG.trans ?_
    rw [← L6]
    exact hp.append_right _
   have hm := Mem.perm hpp hG.mem
   have hokp : X.ok (nw.map Nw.pc ++ S.objs) u = X.ok (os ++ (rest ++ nw.map Nw.pc)) u := uG hpp
   have hM' := hM.go X.mine (X.ok (os ++ (rest ++ nw.map Nw.pc)) u) b u ⟨fun q hq => hm.at_ q (LW _ (LJ _ hq)), (by rw [(aK _ _ _ _).2, ← hokp]; exact hG.mem.fact), fun b hb => hb.2.1, fun t r ht hr => hokp ▸ hkn.regs t r ht hr⟩ hm.own
   refine jT hM' fun v u' ⟨r', os', ⟨e1, e2⟩, e3, e4⟩ => ?_
   subst e1 e2
   have hm' := hm.turned e3
   refine ⟨nw, hG.same hLk hi (fun _ _ e => by cases e) v (Mem.perm hpp.symm hm') (fun b hb => ?_) (fun p hp => ?_) ?_⟩
   ·
    rw [hokp] at hb
    rw [uG hpp]
    exact gZ hm e3 hb
   ·
    rw [hokp] at hp
    exact turned_cell hm e3 p hp
   ·
    rw [uG hpp]
    exact e4.mono (fun b hb => gW hm e3 hb) fun _ _ => rfl
 ·
  intro vs u b ⟨nw, hG⟩ hs hd hslot
  have hgood : Good X (X.ok (nw.map Nw.pc ++ S.objs) u) (bW S (l.take n) infs n) b u := by
   refine ⟨fun p hp => ?_, ?_, fun p hp b hb => ?_, fun f hf => ?_, fun t r hr => hread n _ vs b u nw t r (LG _) hG (hslot t) hr⟩
   ·
    rw [(aK _ _ _ _).1] at hp
    exact hG.mem.at_ p (LW _ hp)
   ·
    rw [(aK _ _ _ _).1]
    exact (LX.1 hG.mem.apart).2.1
   ·
    rw [(aK _ _ _ _).1] at hp
    exact hb.2.2 p (LW _ hp)
   ·
    rw [(aK _ _ _ _).2] at hf
    exact hG.mem.fact f hf
  let gOf : Nat → Nat := fun j => match vs j with
   | .pointer (some p) => p.block
   | _ => 0
  have hfr : ∀ j T d, infs[j]? = some (.new T d) → ∃ e ∈ nw, e.1 = j ∧ e.2.1 = gOf j ∧ e.2.2.1 = T ∧ e.2.2.2 = d ∧ vs j = .pointer (some ⟨gOf j, 0, none⟩) := fun j T d hj => by
   have hjn : j < n := by
    have := (Lp.1 hj).1
    omega
   obtain ⟨e, he, rfl⟩ := hG.all j T d hjn hj
   obtain ⟨_, h2, h3⟩ := hG.ok e he
   have hg : gOf e.1 = e.2.1 := by simp only [gOf, h3]
   have := MS (hj.symm.trans h2)
   injection this with e1 e2
   exact ⟨e, he, rfl, hg.symm, e1.symm, e2.symm, by rw [hg]; exact h3⟩
  have hE := qK (l.take n) infs 0 []
  rw [KO] at hE
  rw [hE] at hT
  have hmm : (dP 0 (l.take n) infs).map (·.1) = ((dP 0 (l.take n) infs).map fun e => (e.1, gOf e.2)).map (·.1) := by simp [List.map_map, Function.comp_def]
  rw [hmm] at hT
  have hEL := nC _ _ hT
  have hap := LX.1 hG.mem.apart
  have hpc : ∀ e ∈ nw, Nw.pc e ∈ nw.map Nw.pc := fun e he => Ll.2 ⟨e, he, rfl⟩
  have hfe : ∀ e0 ∈ dP 0 (l.take n) infs, ∃ e ∈ nw, e.1 = e0.2 ∧ e.2.1 = gOf e0.2 ∧ e.2.2.1 = e0.1.2.1 ∧ e.2.2.2 = e0.1.2.2 ∧ vs e0.2 = .pointer (some ⟨gOf e0.2, 0, none⟩) ∧ e0.2 < n ∧ ∃ o, l[e0.2]? = some o ∧ o.dst = some e0.1.1 := fun e0 he0 => by
   obtain ⟨j, o, h1, h2, h3, h4⟩ := dF _ _ _ _ he0
   rw [MH] at h1
   have hjn : j < n := by
    have := (Lp.1 h4).1
    omega
   obtain ⟨e, he, g1, g2, g3, g4, g5⟩ := hfr j _ _ h4
   rw [htake j hjn] at h2
   rw [h1]
   exact ⟨e, he, g1, g2, g3, g4, g5, hjn, o, h2, h3⟩
  refine hEL.go b u ((Good.ext _ _ hgood (fun e he => ?_) ?_ fun e he o ho => ?_).at hG.mem.gr (fun b hb => ⟨hb.1, hb.2.1⟩) (hs.trans ha.size) (hd.trans ha.defers))
  ·
   obtain ⟨e0, he0, rfl⟩ := Ll.1 he
   obtain ⟨e1, he1, g1, g2, g3, g4, g5, hjn, o, ho, hdo⟩ := hfe e0 he0
   obtain ⟨hb, cs, hcs, hrd⟩ := hG.mem.at_ (Nw.pc e1) (LJ _ (hpc e1 he1))
   rw [g2] at hb hcs
   rw [g3] at hcs
   rw [g4] at hrd
   refine ⟨hb, fun hz => hz.2.2 (Nw.pc e1) (LJ _ (hpc e1 he1)) (by show some e1.2.1 = _; rw [g2]), ?_, cs, hcs, hrd⟩
   rcases hslot e0.1.1 with ⟨j', k1, k2, k3, k4, k5⟩ | ⟨k1, k2⟩
   ·
    have hjj : j' = e0.2 := by
     rcases NG j' e0.2 with h | h | h
     · exact absurd ((hdst _ o ho).trans hdo) (k3 _ h hjn)
     · exact h
     ·
      exfalso
      have hoj' : l[j']? = some l[j'] := by simp
      have hij' : infs[j']? = some infs[j'] := by simp
      obtain ⟨_, h2, _⟩ := hG.ok e1 he1
      rw [g1] at h2
      exact ((hok j' l[j'] infs[j'] (by rw [htake j' k1]; exact hoj') hij').2.1 e0.1.1 (by rw [← hdst j' _ hoj']; exact k2)).2.2 e0.2 o _ _ h (by rw [htake _ hjn]; exact ho) h2 hdo
    subst hjj
    rw [k5]
    exact g5
   · exact absurd ((hdst _ o ho).trans hdo) (k1 _ hjn)
  ·
   have hnd := fQ (l.take n) infs 0
   rw [Nc]
   refine MQ.2 ?_
   refine (MQ.1 hnd).imp_of_mem fun {x y} hx hy hne e => ?_
   obtain ⟨e1, he1, g1, g2, _⟩ := hfe x hx
   obtain ⟨e2, he2, k1, k2, _⟩ := hfe y hy
   have : e1 ≠ e2 := fun e' => hne (by rw [← g1, ← k1, e'])
   have hpw := MQ.1 hap.1
   exact Io (R := fun x y : Nw => ∀ b, (Nw.pc x).blk = some b → (Nw.pc y).blk ≠ some b) (fun x y h b h1 h2 => h b h2 h1) hpw e1 he1 e2 he2 this _ rfl (by show some e2.2.1 = some e1.2.1; rw [g2, k2]; exact congrArg some e.symm)
  ·
   obtain ⟨e0, he0, rfl⟩ := Ll.1 he
   obtain ⟨e1, he1, g1, g2, _⟩ := hfe e0 he0
   rw [(aK _ _ _ _).1] at ho
   intro e'
   exact hap.2.2 (Nw.pc e1) (hpc e1 he1) o ho _ rfl (by rw [e', ← g2])
theorem EV.nil0 {l' : List Oper} (h : EL X ops Q l' S) : EV N ops (fun S' E => lD (EL X ops Q l') E S') [] S [] := h
theorem EV.JW {l' : List Oper} {t : Tmp} {Ty : TypeId} {d : D} {rs : List (Tmp × R)} {os : List Obj} {fs : List (Value × D)} (h : ∀ g, EL X ops Q l' ⟨(t, .val (.v (.pointer (some ⟨g, 0, none⟩)))) :: rs, .var g Ty d :: os, fs⟩) : EV N ops (fun S' E => lD (EL X ops Q l') E S') [] ⟨rs, os, fs⟩ [(t, Ty, d)] := h
theorem EV.qR {l' : List Oper} {t ty f : Nat} {pos : String} {af : Array Edge} {gd : Option (Nat × Bool)} {args : Array Operand} {tys : Array TypeId} {ds ds' : List D} {r : R} {rs : List (Tmp × R)} {os os0 : List Obj} {fs : List (Value × D)} (hF : FnM f ds' os (fun r' os' => r' = r ∧ os' = os)) (ix : List Nat) (rest : List Obj) (hn : os0.length = ix.length) (hp : ix.Perm (List.range ix.length)) (hq : (ix.filterMap fun i => os0[i]?) = os ++ rest)
  (hx : evs (⟨rs, rest, fs⟩ : St) args.toList = some ds) (hR : ah fs ds ds') (hf : Enters f) (hg : guardOf ops ⟨rs, os0, fs⟩ ⟨some t, .call { callee := .value (.func f), args := args, argTypes := tys }, ty, pos, af, gd⟩ = some true) (hd : bf N (some t) E = true) (k : EV N ops T l' ⟨(t, r) :: rs, os0, fs⟩ E) : EV N ops T (⟨some t, .call { callee := .value (.func f), args := args, argTypes := tys }, ty, pos, af, gd⟩ :: l') ⟨rs, os0, fs⟩ E :=
 EV.visit os rest hg hd (hq ▸ gY ix hn hp) (yL hF rfl hx hR hf) k
theorem pF {l' : List Oper} {t ty f : Nat} {pos : String} {af : Array Edge} {gd : Option (Nat × Bool)} {args : Array Operand} {tys : Array TypeId} {ds ds' : List D} {r : R} {rs : List (Tmp × R)} {os os0 : List Obj} {fs : List (Value × D)} (hF : FnM f ds' os (fun r' os' => r' = r ∧ os' = os)) (ix : List Nat) (rest : List Obj) (hn : os0.length = ix.length) (hp : ix.Perm (List.range ix.length)) (hq : (ix.filterMap fun i => os0[i]?) = os ++ rest)
  (hx : evs (⟨rs, rest, fs⟩ : St) args.toList = some ds) (hR : ah fs ds ds') (hf : Enters f) (hg : guardOf ops ⟨rs, os ++ rest, fs⟩ ⟨some t, .call { callee := .value (.func f), args := args, argTypes := tys }, ty, pos, af, gd⟩ = some true) (hN : Nat.blt t N = true) (k : EL X ops Q l' ⟨(t, r) :: rs, os0, fs⟩) : EL X ops Q (⟨some t, .call { callee := .value (.func f), args := args, argTypes := tys }, ty, pos, af, gd⟩ :: l') ⟨rs, os0, fs⟩ := by
 have hpp : os0.Perm (os ++ rest) := hq ▸ gY ix hn hp
 refine EL.le (Le.perm hpp) ?_
 refine eU hF rfl hx hR hf hg hN ?_
 exact EL.le (Le.perm hpp.symm) k
end
def rE (v : Value) (n m : Nat) : Value :=
 match v with
 | .slice (some a) _ _ => .slice (some ⟨a.block, a.off + n, none⟩) m m
 | _ => .slice none 0 0
theorem CY (v : Value) (n m : Nat) : (rE v n m).oneCell' = true := by
 unfold rE
 split <;> rfl
section
variable {N : Nat} {X : Cx N} {S : St} {ops : Array Oper} {o : Oper} {Q : Exit → Act → World → Prop} {l' : List Oper} {TT : St → List Fr → Prop} {EE : List Fr} {rs : List (Tmp × R)} {os : List Obj} {fs : List (Value × D)} {w : World} {ok : Nat → Prop}
theorem Gy {x : Operand} {T n m e z : Nat} {v : Value} {ds : List D} (hA : nU T m) (ho : o.op = .slice T x none none none) (hx : ev S x = some (.val (.v (aN v n)))) (i : Nat) (hi : S.objs[i]? = some (.row v e z ds)) (hk0 : 0 < ds.length) : Still ops S o (.val (.v (rE v n m))) := fun base ok a w ha => by
 have hx' := bK ha hx (aF (by rw [ho]; simp [Op.operands]))
 obtain ⟨g, c, cur, rows, H⟩ := row_in (ha.objs _ (LC hi)) hk0
 refine ⟨_, ?_, dR (CY _ _ _)⟩
 unfold execOp
 have e1 : aN v n = .pointer (some ⟨g, n, none⟩) := by rw [H.val]; simp [aN]
 have e2 : rE v n m = .slice (some ⟨g, n, none⟩) m m := by rw [H.val]; simp [rE]
 simp only [ho, hx', e1, e2, Ou, Lr, hA.ok w g n, Lh, LD]
theorem nG {g n m : Nat} {l : List UInt8} {mid : List Value} (hm : Nat.ble m 4096 = true) (hg : g < w.heap.size) (hr : w.rangeAt g n mid) (h : Reads ok w (.arr m l) mid) : IsB w (.slice (some ⟨g, n, none⟩) m m) l := by
 obtain ⟨h1, h2⟩ : l.length = m ∧ mid = bvs l := by
  rw [Reads] at h
  exact ⟨h.1, h.2⟩
 subst h1 h2
 have := Nat.le_of_ble_eq_true hm
 exact ⟨_, l.length, rfl, LG _, by simp only [maxLen]; omega, fun _ => ⟨g, n, rfl, hg, hr⟩⟩
theorem DV {x : Operand} {n m k off e z : Nat} {v : Value} {ds : List D} {d : D} {l : List UInt8} (hm : Nat.ble m 4096 = true) (hk : n = k * z + off ∧ ds[k]? = some d) (hs : d.sub off m true = some (.arr m l)) (ho : o.op = .convert 54 9 x) (hx : ev S x = some (.val (.v (rE v n m)))) (i : Nat) (hi : S.objs[i]? = some (.row v e z ds)) : Still ops S o (.val (.v (.string (Go.Proofs.YtohlgnfachkmaaaGreat.bs l)))) := fun base ok a w ha => by
 have hx' := bK ha hx (aF (by rw [ho]; simp [Op.operands]))
 have hat := ha.objs _ (LC hi)
 obtain ⟨g, c, cur, rows, H⟩ := row_in hat (by have := (Lp.1 hk.2).1; omega)
 obtain ⟨r, A, B, h1, h2, h3, h4, h5, _⟩ := H.elem hk.2
 obtain ⟨e1, e2, pre, mid, post, rfl, e3, e4⟩ := fG d off m true _ r hs h3
 have hh : w.heap[g]? = some (.cells (A ++ (pre ++ mid ++ post) ++ B).toArray e (0, 0)) := by rw [← h4]; exact H.heap
 have hr := dM hh
 rw [show A ++ (pre ++ mid ++ post) ++ B = (A ++ pre) ++ mid ++ (post ++ B) by simp] at hr
 have hr := fA hr
 rw [MH, List.length_append, h5, e3, ← hk.1] at hr
 have hg : g < w.heap.size := (LQ.1 hh).1
 have e5 : rE v n m = .slice (some ⟨g, n, none⟩) m m := by rw [H.val]; simp [rE]
 have hb : IsB w (a.eval x) l := by rw [hx', e5]; exact nG hm hg hr e4
 refine ⟨_, ?_, dR rfl⟩
 unfold execOp
 simp only [ho, Lr, lV hb, Lh, LD]
theorem DU {x : Operand} {g n m : Nat} {t : TypeId} {d : D} {l : List UInt8} (hm : Nat.ble m 4096 = true) (hs : d.sub n m true = some (.arr m l)) (ho : o.op = .convert 54 9 x) (hx : ev S x = some (.val (.v (.slice (some ⟨g, n, none⟩) m m)))) (i : Nat) (hi : S.objs[i]? = some (.var g t d)) : Still ops S o (.val (.v (.string (Go.Proofs.YtohlgnfachkmaaaGreat.bs l)))) := fun base ok a w ha => by
 have hx' := bK ha hx (aF (by rw [ho]; simp [Op.operands]))
 obtain ⟨_, cs, hh, hr⟩ := ha.objs _ (LC hi)
 obtain ⟨e1, e2, pre, mid, post, rfl, e3, e4⟩ := fG d n m true _ cs hs hr
 have hr := fA (dM hh)
 rw [MH, e3] at hr
 have hb : IsB w (a.eval x) l := by rw [hx']; exact nG hm (LQ.1 hh).1 hr e4
 refine ⟨_, ?_, dR rfl⟩
 unfold execOp
 simp only [ho, Lr, lV hb, Lh, LD]
theorem pG {t ty : Nat} {pos : String} {af : Array Edge} {gd : Option (Nat × Bool)} {x : Operand} {T n m e z i : Nat} {v : Value} {ds : List D} (hA : nU T m) (hx : ev (⟨rs, os, fs⟩ : St) x = some (.val (.v (aN v n)))) (hi : os[i]? = some (.row v e z ds)) (hk0 : 0 < ds.length) (hg : guardOf ops ⟨rs, os, fs⟩ ⟨some t, .slice T x none none none, ty, pos, af, gd⟩ = some true) (hoff : bf N (some t) EE = true) (kk : EM N ops TT l' ⟨(t, .val (.v (rE v n m))) :: rs, os, fs⟩ EE) : EM N ops TT (⟨some t, .slice T x none none none, ty, pos, af, gd⟩ :: l') ⟨rs, os, fs⟩ EE := EH.still (Gy hA rfl hx i hi hk0) hg rfl hoff kk
theorem mY {t ty : Nat} {pos : String} {af : Array Edge} {gd : Option (Nat × Bool)} {x : Operand} {n m k off e z i : Nat} {v : Value} {ds : List D} {d : D} {l : List UInt8} (hx : ev (⟨rs, os, fs⟩ : St) x = some (.val (.v (rE v n m)))) (hi : os[i]? = some (.row v e z ds)) (hk : n = k * z + off ∧ ds[k]? = some d) (hs : d.sub off m true = some (.arr m l)) (hm : Nat.ble m 4096 = true) (hg : guardOf ops ⟨rs, os, fs⟩ ⟨some t, .convert 54 9 x, ty, pos, af, gd⟩ = some true) (hoff : bf N (some t) EE = true) (kk : EM N ops TT l' ⟨(t, .val (.v (.string (Go.Proofs.YtohlgnfachkmaaaGreat.bs l)))) :: rs, os, fs⟩ EE) : EM N ops TT (⟨some t, .convert 54 9 x, ty, pos, af, gd⟩ :: l') ⟨rs, os, fs⟩ EE := EH.still (DV hm hk hs rfl hx i hi) hg rfl hoff kk
theorem jA {t ty : Nat} {pos : String} {af : Array Edge} {gd : Option (Nat × Bool)} {x : Operand} {g n m i : Nat} {T : TypeId} {d : D} {l : List UInt8} (hx : ev (⟨rs, os, fs⟩ : St) x = some (.val (.v (.slice (some ⟨g, n, none⟩) m m)))) (hi : os[i]? = some (.var g T d)) (hs : d.sub n m true = some (.arr m l)) (hm : Nat.ble m 4096 = true) (hg : guardOf ops ⟨rs, os, fs⟩ ⟨some t, .convert 54 9 x, ty, pos, af, gd⟩ = some true) (hoff : bf N (some t) EE = true) (kk : EM N ops TT l' ⟨(t, .val (.v (.string (Go.Proofs.YtohlgnfachkmaaaGreat.bs l)))) :: rs, os, fs⟩ EE) : EM N ops TT (⟨some t, .convert 54 9 x, ty, pos, af, gd⟩ :: l') ⟨rs, os, fs⟩ EE := EH.still (DU hm hs rfl hx i hi) hg rfl hoff kk
end
theorem mW (l m : List UInt8) : Bin .eql 36 (.arr 20 l) (.arr 20 m) (.bool (l == m)) ∧ Bin .neq 36 (.arr 20 l) (.arr 20 m) (.bool (l != m)) :=
 zZ Tryz.underlying36 Tryz.underlying5 (fun w => by kernel_rfl) (by kernel_rfl) l m
abbrev dn : Value := .slice none 0 0
theorem kY (l m : List UInt8) : Bin .lss 9 (.v (.string (Go.Proofs.YtohlgnfachkmaaaGreat.bs l))) (.v (.string (Go.Proofs.YtohlgnfachkmaaaGreat.bs m))) (.bool (Op.bytesLess l m)) := by
 refine ⟨rfl, fun ok w p q hp hq => ?_⟩
 obtain rfl := (aG.1 hp).2
 obtain rfl := (aG.1 hq).2
 refine ⟨fun x y => by simp [eqGuard], ?_⟩
 simp [binOp, Op.stringOp, nS]
theorem y5 : ∀ l : List UInt8, Op.bytesLess l l = false
 | [] => rfl
 | a :: l => by simp [Op.bytesLess, y5 l]
theorem gV : nU 36 20 := ⟨fun w g o => by
 have hn : Tryz.prog.arrayLen 36 = 20 := by kernel_rfl
 have hs : (sizeOf (Tryz.prog.elem 36)).run Tryz.prog w = .ok 1 w := by kernel_rfl
 rw [run_sliceAt_array_all (P := Tryz.prog) w 36 ⟨g, o, none⟩ (by kernel_rfl), hs]
 simp [slicedAt, hn, bI, Result.andThen]⟩
theorem bv8 (n : Nat) : bv (UInt8.ofNat n) = .int .u8 ((n % 256 : Nat) : Int) := by
 unfold bv
 rw [show (UInt8.ofNat n).toNat = n % 256 from rfl]
abbrev n64 (n : Nat) : Value := .int .i64 (n : Int)
theorem Dz (n : Nat) (h : n < 9223372036854775808) : IntKind.i64.wrap (n : Int) = (n : Int) := IntWalk.i64_in _ ⟨by omega, by omega⟩
theorem rY (a : Nat) (h : a < 18446744073709551616) : (BitVec.ofInt 64 (a : Int)).toNat = a := by
 rw [BitVec.toNat_ofInt]
 omega
theorem Gq (a b : Nat) (ha : a < 9223372036854775808) (hb : b < 9223372036854775808) : bits .and .i64 (a : Int) (b : Int) = ((a &&& b : Nat) : Int) := by
 have h : a &&& b ≤ a := Nat.and_le_left
 show IntKind.i64.wrap (((BitVec.ofInt 64 (a : Int) &&& BitVec.ofInt 64 (b : Int)).toNat : Nat) : Int) = _
 rw [BitVec.toNat_and, rY a (by omega), rY b (by omega)]
 exact Dz _ (by omega)
theorem Aa (T : TypeId) (x k : Nat) (hx : x < 9223372036854775808) (hk : k < 63) (m : Int) (hm : m = ((2 ^ k - 1 : Nat) : Int)) : Bin .and T (.v (n64 x)) (.v (.int .i64 m)) (n64 (x % 2 ^ k)) := y9 rfl fun w => by
 subst hm
 have hp : 2 ^ k - 1 < 9223372036854775808 := by
  have : 2 ^ k < 2 ^ 63 := Nat.pow_lt_pow_right (by decide) hk
  omega
 show Result.ok (Value.int .i64 (bits .and .i64 (x : Int) ((2 ^ k - 1 : Nat) : Int))) w = _
 rw [Gq x _ hx hp, Nat.and_two_pow_sub_one_eq_mod]
theorem Jo (T : TypeId) (x k : Nat) (hk : k < 64) : Bin .shr T (.v (n64 x)) (.v (.int .u64 (k : Int))) (n64 (x / 2 ^ k)) := y9 rfl fun w => by
 have h1 : ¬ ((k : Int) < 0) := by omega
 have h2 : min ((k : Int)).toNat IntKind.i64.bits = k := by
  rw [L8]
  exact OM (OD hk)
 have h3 : (x : Int).fdiv (2 ^ k) = ((x / 2 ^ k : Nat) : Int) := by
  rw [Int.fdiv_eq_ediv_of_nonneg _ (Int.le_of_lt (Int.pow_pos (by decide)))]
  simp
 show (Op.shift .shr .i64 (x : Int) .u64 (k : Int)).run Tryz.prog w = _
 unfold Op.shift
 rw [if_neg h1]
 simp only [h2, h3, LD]
abbrev rsO (g : Nat) (L k : Value) (n : Int) : Obj := .var g 129 (.tup [.v L, .v k, .v (.int .i64 n)])
section
variable {N : Nat} {X : Cx N} {S : St} {ops : Array Oper} {o : Oper} {w : World} {ok : Nat → Prop} {Q : Exit → Act → World → Prop} {l' : List Oper} {TT : St → List Fr → Prop} {EE : List Fr} {rs : List (Tmp × R)} {os : List Obj} {fs : List (Value × D)}
theorem yD {T k off sz : Nat} {ag : Bool} (F : Fld Tryz.prog T k off sz ag) {d d' : D} {cs : List Value} (hr : Reads ok w d cs) (hs : d.sub off sz ag = some d') : ∃ mid, Reads ok w d' mid ∧ (Instr.field T (.agg cs.toArray) k).run Tryz.prog w = .ok (form d' mid) w := by
 obtain ⟨e1, e2, pre, mid, post, rfl, e3, e4⟩ := fG d off sz ag d' cs hs hr
 obtain ⟨⟨fs, f, dd, h1, h2, h3, h4, h5, h6⟩, hpos⟩ := F
 have hml : mid.length = sz := by rw [← e1]; exact Reads.len _ _ e4
 have hA : (isAgg f.type).run Tryz.prog w = .ok ag w := by
  unfold isAgg
  simp only [Lr, run_underlying h5, Lh]
  subst h6
  cases dd <;> rfl
 refine ⟨mid, e4, ?_⟩
 subst h3
 cases ag with
 | true =>
  have hf : form d' mid = .agg mid.toArray := by unfold form; rw [e2]; rfl
  rw [hf]
  unfold Instr.field
  cases hi : Tryz.prog.info? f.type with
  | none => rw [hi] at h4; cases h4
  | some i =>
   rw [hi] at h4
   have hsz : i.size = sz := by simpa using h4
   simp [run_underlying h1, h2, asAgg, part, hA, sizeOf, typeInfo, hi, hsz]
   rw [← e3, ← hml]
   simp
 | false =>
  have hf : form d' mid = mid.headD undef := by unfold form; rw [e2]; rfl
  rw [hf]
  unfold Instr.field
  obtain ⟨x, rest, rfl⟩ : ∃ x rest, mid = x :: rest := by
   cases mid with
   | nil => simp at hml; omega
   | cons x rest => exact ⟨x, rest, rfl⟩
  simp [run_underlying h1, h2, asAgg, part, hA, ← e3]
theorem Ec {x : Operand} {T k off sz : Nat} {ag : Bool} {d d' : D} {lf : List (Nat × Nat × Bool)} (ho : o.op = .field T x k) (hx : ev S x = some (.val d)) (ha : d.agg = true) (h : assoc stL T = some lf) (hk : lf[k]? = some (off, sz, ag)) (h0 : Nat.blt 0 sz = true) (hs : d.sub off sz ag = some d') : Still ops S o (.val d') := fun base ok a w hkn => by
 obtain ⟨cs, h1, h2⟩ := (fP ha).1 (hkn.ev hx (aF (by rw [ho]; simp [Op.operands])))
 obtain ⟨mid, h3, h4⟩ := yD (GU h hk h0) h1 hs
 refine ⟨form d' mid, ?_, mid, h3, rfl⟩
 unfold execOp
 simp only [ho, h2, Lr, h4, Lh, LD]
theorem Fv {t ty : Nat} {pos : String} {af : Array Edge} {gd : Option (Nat × Bool)} {x : Operand} {T k off sz : Nat} {ag : Bool} {d d' : D} {lf : List (Nat × Nat × Bool)} (hx : ev (⟨rs, os, fs⟩ : St) x = some (.val d)) (ha : d.agg = true) (h : assoc stL T = some lf) (hk : lf[k]? = some (off, sz, ag)) (h0 : Nat.blt 0 sz = true) (hs : d.sub off sz ag = some d') (hg : guardOf ops ⟨rs, os, fs⟩ ⟨some t, .field T x k, ty, pos, af, gd⟩ = some true) (hoff : bf N (some t) EE = true) (kk : EM N ops TT l' ⟨(t, .val d') :: rs, os, fs⟩ EE) : EM N ops TT (⟨some t, .field T x k, ty, pos, af, gd⟩ :: l') ⟨rs, os, fs⟩ EE := EH.still (Ec rfl hx ha h hk h0 hs) hg rfl hoff kk
end
end E
end Go.Proofs.YtohlgnfachkmaaaGreat
