/-
 Merged: lemmas of this claim.
 Conditions: none.
-/
import Derived.Test.YtkhjanjlcdhdcaaGreatZQ11
import Derived.Test.YtkhjanjlcdhdcaaGreatZQ12
import Derived.Test.YtkhjanjlcdhdcaaGreatZQ7
import Derived.Test.YtkhjanjlcdhdcaaGreatZQ6
import Derived.Maps.RangeRun
import Derived.Test.YtkhjanjlcdhdcaaGreatZQ0
namespace Go.Proofs.YtkhjanjlcdhdcaaGreat
set_option linter.unusedVariables false
set_option maxHeartbeats 2000000
open Go.RowKit Mono Rlp
namespace E
def Visit (ops : Array Oper) (S : St) (o : Oper) (r : R) : Prop := ∃ os rest, S.objs.Perm (os ++ rest) ∧ oC ops ⟨S.regs, rest, S.facts⟩ o os (fun r' os' => r' = r ∧ os' = os)
def OkV (N : Nat) (ops : Array Oper) (S : St) (o : Oper) (i : Inf) : Prop := OkI N ops S o i ∨ ∃ r, i = .grow r ∧ guardOf ops S o = some true ∧ Visit ops S o r
def EV (N : Nat) (ops : Array Oper) (T : St → List Fr → Prop) : List Oper → St → List Fr → Prop
 | [], S, E => T S E
 | o :: l, S, E => ∃ inf : Inf, inf.wV = true ∧ bg N o.dst E = true ∧ ((∃ T d, inf = .new T d) → o.dst ≠ none) ∧ OkV N ops S o inf ∧ EV N ops T l (S.put o.dst inf.reg) (lQ E o.dst inf)
section
variable {N : Nat} {X : Cx N} {S S' : St} {a : Act} {w w' : World} {ops : Array Oper} {o : Oper} {Q : Exit → Act → World → Prop} {l : List Oper} {T : St → List Fr → Prop} {E : List Fr}
theorem EV.nil (h : T S E) : EV N ops T [] S E := h
theorem EV.seg {l2 : List Oper} : ∀ (l1 : List Oper) (S : St) (E : List Fr), EM N ops (fun S' E' => EV N ops T l2 S' E') l1 S E → EV N ops T (l1 ++ l2) S E
 | [], S, E, h => h
 | o :: l1, S, E, ⟨inf, h0, h1, h2, h3, h4⟩ => ⟨inf, h0, h1, h2, .inl h3, EV.seg l1 _ _ h4⟩
theorem EV.cut (k : Nat) (h : EM N ops (fun S' E' => EV N ops T (l.drop k) S' E') (l.take k) S E) : EV N ops T l S E := by
 have := EV.seg _ _ _ h
 rwa [MF] at this
theorem EV.visit {r : R} (os rest : List Obj) (hg : guardOf ops S o = some true) (hd : bg N o.dst E = true) (hp : S.objs.Perm (os ++ rest)) (hO : oC ops ⟨S.regs, rest, S.facts⟩ o os (fun r' os' => r' = r ∧ os' = os)) (k : EV N ops T l (S.put o.dst r) E) : EV N ops T (o :: l) S E :=
 ⟨.grow r, rfl, hd, (fun ⟨_, _, e⟩ => by cases e), .inr ⟨r, rfl, hg, os, rest, hp, hO⟩, k⟩
theorem AA : ∀ (l : List Oper) (S : St) (E : List Fr), EV N ops T l S E → ∃ infs : List Inf, infs.length = l.length ∧
  (∀ k o i, l[k]? = some o → infs[k]? = some i → OkV N ops (bV S l infs k) o i ∧ (∀ t, o.dst = some t → t < N ∧ (∀ x ∈ E, x.1 ≠ t) ∧ ∀ j oj T d, j < k → l[j]? = some oj → infs[j]? = some (.new T d) → oj.dst ≠ some t) ∧ ((∃ T d, i = .new T d) → o.dst ≠ none)) ∧
  T (bV S l infs l.length) (zo E l infs) ∧ ∀ (k : Nat) (i : Inf), infs[k]? = some i → i.wV = true
 | [], S, E, h => ⟨[], rfl, (fun k o i h => by simp at h), h, fun k i h => by simp at h⟩
 | o :: l, S, E, h => by
  obtain ⟨inf, h0, h1, h1', h2, h3⟩ := h
  obtain ⟨infs, h4, h5, h6, h7⟩ := AA l _ _ h3
  have hoff : ∀ t, o.dst = some t → t < N ∧ ∀ x ∈ E, x.1 ≠ t := fun t ht => by
   rw [ht] at h1
   simp only [bg, MB, decide_eq_true_eq] at h1
   exact ⟨h1.1, fun x hx => by simpa using LZ.1 h1.2 x hx⟩
  refine ⟨inf :: infs, by simp [h4], fun k o' i hk hi => ?_, h6, fun k i hi => by
   cases k with
   | zero =>
    cases hi
    exact h0
   | succ k => exact h7 k i (by simpa using hi)⟩
  cases k with
  | zero =>
   cases hk
   cases hi
   exact ⟨h2, fun t ht => ⟨(hoff t ht).1, (hoff t ht).2, fun j _ _ _ hj => by omega⟩, h1'⟩
  | succ k =>
   obtain ⟨g1, g2, g3⟩ := h5 k o' i (by simpa using hk) (by simpa using hi)
   refine ⟨g1, fun t ht => ⟨(g2 t ht).1, fun x hx => (g2 t ht).2.1 x ?_, fun j oj T d hj hoj hij => ?_⟩, g3⟩
   ·
    unfold lQ
    split
    ·
     split
     · exact Ll _ hx
     · exact hx
    · exact hx
   ·
    cases j with
    | zero =>
     cases hoj
     cases hij
     intro e
     exact (g2 t ht).2.1 (t, T, d) (by unfold lQ; rw [e]; simp) rfl
    | succ j => exact (g2 t ht).2.2 j oj T d (by omega) (by simpa using hoj) (by simpa using hij)
theorem Mem.perm {os os' : List Obj} {fs : List (Value × D)} (h : os.Perm os') (hm : Mem X os fs w) : Mem X os' fs w :=
 ((Le.perm (X := X) (rs := []) (fs := fs) h) ⟨Array.replicate N undef, []⟩ w ⟨hm, (fun t r hr => by cases hr), by simp, rfl⟩).mem
theorem uN {os os' : List Obj} (h : os.Perm os') : X.ok os w = X.ok os' w := funext fun b => propext ⟨fun hb => ⟨hb.1, hb.2.1, fun o ho => hb.2.2 o (h.mem_iff.2 ho)⟩, fun hb => ⟨hb.1, hb.2.1, fun o ho => hb.2.2 o (h.mem_iff.1 ho)⟩⟩
abbrev Nw := Nat × Nat × TypeId × D
def Nw.pc (e : Nw) : Obj := .var e.2.1 e.2.2.1 e.2.2.2
theorem H8 {α : Type} {R : α → α → Prop} (hs : ∀ x y, R x y → R y x) : ∀ {l : List α}, l.Pairwise R → ∀ x, x ∈ l → ∀ y, y ∈ l → x ≠ y → R x y
 | [], _, x, hx, _, _, _ => by cases hx
 | a :: l, h, x, hx, y, hy, hn => by
  obtain ⟨h1, h2⟩ := LY.1 h
  rcases KT.1 hx with e | hx' <;> rcases KT.1 hy with e' | hy'
  · exact absurd (e.trans e'.symm) hn
  · exact e ▸ h1 y hy'
  · exact e' ▸ hs _ _ (h1 x hx')
  · exact H8 hs h2 x hx' y hy' hn
structure RV (X : Cx N) (S : St) (a : Act) (infs : List Inf) (L : Nat → Prop) (vs : Nat → Value) (u : World) (nw : List Nw) : Prop where
 nd : (nw.map (·.1)).Nodup
 ok : ∀ e ∈ nw, L e.1 ∧ infs[e.1]? = some (.new e.2.2.1 e.2.2.2) ∧ vs e.1 = .pointer (some ⟨e.2.1, 0, none⟩)
 all : ∀ j T d, L j → infs[j]? = some (.new T d) → ∃ e ∈ nw, e.1 = j
 mem : Mem X (nw.map Nw.pc ++ S.objs) S.facts u
 val : ∀ j i, L j → infs[j]? = some i → aN (X.ok (nw.map Nw.pc ++ S.objs) u) u i.reg (vs j)
 old : ∀ t r, look S.regs t = some r → aN (X.ok (nw.map Nw.pc ++ S.objs) u) u r (a.tmps.getD t undef)
theorem RV.same {infs : List Inf} {L : Nat → Prop} {vs : Nat → Value} {u u' : World} {nw : List Nw} (h : RV X S a infs L vs u nw) {k : Nat} {i : Inf} (hk : ¬ L k) (hi : infs[k]? = some i) (hn : ∀ T d, i ≠ .new T d) (v : Value) (hm : Mem X (nw.map Nw.pc ++ S.objs) S.facts u') (hok : ∀ b, X.ok (nw.map Nw.pc ++ S.objs) u b → X.ok (nw.map Nw.pc ++ S.objs) u' b) (hc : ∀ p : Addr, X.ok (nw.map Nw.pc ++ S.objs) u p.block → u'.cell? p = u.cell? p) (hv : aN (X.ok (nw.map Nw.pc ++ S.objs) u') u' i.reg v) : RV X S a infs (fun j => j = k ∨ L j) (fun j => if j = k then v else vs j) u' nw := by
 refine ⟨h.nd, fun e he => ?_, fun j T d hj hij => ?_, hm, fun j i' hj hij => ?_, fun t r hr => (h.old t r hr).mono hok hc⟩
 ·
  obtain ⟨h1, h2, h3⟩ := h.ok e he
  exact ⟨.inr h1, h2, by rw [if_neg (show ¬ e.1 = k from fun e' => hk (by rw [← e']; exact h1))]; exact h3⟩
 ·
  rcases hj with rfl | hj
  · exact absurd (MJ (hi.symm.trans hij)) (hn T d)
  · exact h.all j T d hj hij
 ·
  by_cases e : j = k
  ·
   subst e
   rw [if_pos rfl]
   obtain rfl : i' = i := MJ (hij.symm.trans hi)
   exact hv
  ·
   rw [if_neg e]
   exact (h.val j i' (hj.resolve_left e) hij).mono hok hc
theorem RV.new {infs : List Inf} {L : Nat → Prop} {vs : Nat → Value} {u : World} {nw : List Nw} (h : RV X S a infs L vs u nw) {k : Nat} {Ty : TypeId} {d : D} {cs : List Value} (hk : ¬ L k) (hi : infs[k]? = some (.new Ty d)) (hcs : Reads (X.ok (nw.map Nw.pc ++ S.objs) u) u d cs) : RV X S a infs (fun j => j = k ∨ L j) (fun j => if j = k then .pointer (some ⟨u.heap.size, 0, none⟩) else vs j) (u.alloc (.cells cs.toArray Ty)) ((k, u.heap.size, Ty, d) :: nw) := by
 have hgr := cZ u (.cells cs.toArray Ty)
 have hok : ∀ b, X.ok (nw.map Nw.pc ++ S.objs) u b → X.ok (((k, u.heap.size, Ty, d) :: nw : List Nw).map Nw.pc ++ S.objs) (u.alloc (.cells cs.toArray Ty)) b := fun b hb => ⟨hb.1, LC hb.2.1 hgr.size, fun o ho e => by
  rw [Lu, KD] at ho
  rcases KT.1 ho with rfl | ho
  ·
   cases e
   exact absurd hb.2.1 (Nat.lt_irrefl _)
  · exact hb.2.2 o ho e⟩
 have hc : ∀ p : Addr, X.ok (nw.map Nw.pc ++ S.objs) u p.block → (u.alloc (.cells cs.toArray Ty)).cell? p = u.cell? p := fun p hp => hgr.cell hp.2.1
 refine ⟨?_, fun e he => ?_, fun j T' d' hj hij => ?_, ?_, fun j i' hj hij => ?_, fun t r hr => (h.old t r hr).mono hok hc⟩
 ·
  rw [Lu]
  refine Ny.2 ⟨fun hm => ?_, h.nd⟩
  obtain ⟨e, he, e'⟩ := LD.1 hm
  have e2 : e.1 = k := e'
  exact hk (by rw [← e2]; exact (h.ok e he).1)
 ·
  rcases KT.1 he with rfl | he
  · exact ⟨.inl rfl, hi, if_pos rfl⟩
  ·
   obtain ⟨h1, h2, h3⟩ := h.ok e he
   exact ⟨.inr h1, h2, by rw [if_neg (show ¬ e.1 = k from fun e' => hk (by rw [← e']; exact h1))]; exact h3⟩
 ·
  rcases hj with rfl | hj
  · exact ⟨_, KQ, rfl⟩
  ·
   obtain ⟨e, he, e'⟩ := h.all j T' d' hj hij
   exact ⟨e, Ld _ he, e'⟩
 ·
  have hat : At X ⟨[], nw.map Nw.pc ++ S.objs, S.facts⟩ ⟨Array.replicate N undef, []⟩ u := ⟨h.mem, (fun t r hr => by cases hr), by simp, rfl⟩
  exact (hat.new (q := .var u.heap.size Ty d) rfl ⟨.inr h.mem.gr.size, cs, heap_alloc_new u _, Reads.mono hok hc _ _ hcs⟩).mem
 ·
  by_cases e : j = k
  ·
   subst e
   obtain rfl : i' = .new Ty d := MJ (hij.symm.trans hi)
   trivial
  ·
   rw [if_neg e]
   exact (h.val j i' (hj.resolve_left e) hij).mono hok hc
theorem EC.qO {id : Nat} (n : Nat) (hB : monoB l.toArray n N = true) (h : EV N l.toArray (fun S' E => mW (EL X l.toArray Q (l.drop n)) E S') (l.take n) S []) : EC X Q (.region id l.toArray true) S := by
 constructor
 intro a ws ha
 obtain ⟨infs, hlen, hok, hT, hnp⟩ := AA _ _ _ h
 have hle : n ≤ l.length := by simpa using (eY hB).le
 have hln : (l.take n).length = n := by simp; omega
 rw [hln] at hlen hT
 have htake : ∀ k, k < n → (l.take n)[k]? = l[k]? := fun k hk => by rw [Nc, if_pos hk]
 have hdst : ∀ k o, l[k]? = some o → aT l.toArray k = o.dst := fun k o ho => by unfold aT; simp [ho]
 have hread : ∀ k L vs (b : Act) u nw t r, k ≤ n → RV X S a infs L vs u nw → iO l.toArray L vs a b k t → look (bV S (l.take n) infs k).regs t = some r → aN (X.ok (nw.map Nw.pc ++ S.objs) u) u r (b.tmps.getD t undef) := fun k L vs b u nw t r hk hG hs hr => by
  have hlk := bU (l.take n) infs k S t (by rw [hlen, hln]) (by omega)
  rcases hs with ⟨j, h1, h2, h3, h4, h5⟩ | ⟨h1, h2⟩
  ·
   have hjl : j < l.length := by omega
   have hoj : l[j]? = some l[j] := by simp
   have hij : infs[j]? = some infs[j] := by simp
   rw [hlk.1 j l[j] infs[j] h1 (by rw [htake j (by omega)]; exact hoj) hij (by rw [← hdst j _ hoj]; exact h2) fun m om h6 h7 hom => by
    rw [htake m (by omega)] at hom
    rw [← hdst m _ hom]
    exact h3 m h6 h7] at hr
   cases hr
   rw [h5]
   exact hG.val j _ h4 hij
  ·
   rw [hlk.2 fun j oj hj hoj => by
    rw [htake j (by omega)] at hoj
    rw [← hdst j _ hoj]
    exact h1 j hj] at hr
   rw [h2]
   exact hG.old t r hr
 refine eU n (by kernel_rfl) (by rw [ha.size]; exact hB) (fun L vs u => ∃ nw, RV X S a infs L vs u nw) ?_ ?_ ?_ ?_
 ·
  rintro L L' vs vs' w hL hvs ⟨nw, hG⟩
  obtain rfl : L = L' := funext fun j => propext (hL j)
  exact ⟨nw, hG.nd, fun e he => (by obtain ⟨h1, h2, h3⟩ := hG.ok e he; exact ⟨h1, h2, by rw [← hvs _ h1]; exact h3⟩), hG.all, hG.mem, fun j i hj hi => (by rw [← hvs j hj]; exact hG.val j i hj hi), hG.old⟩
 ·
  have had : At X S a ws.drew := ha.gr (by exact ⟨rfl, rfl, rfl, Lj _, fun _ _ => rfl⟩)
  exact ⟨[], MR, (fun e he => by cases he), (fun j T d hj => hj.elim), had.mem, (fun j i hj => hj.elim), had.regs⟩
 ·
  intro k o L vs b u hk ho hL hLk ⟨nw, hG⟩ hslot hwait
  obtain ⟨i, hi⟩ : ∃ i, infs[k]? = some i := ⟨infs[k], by simp [hlen, hk]⟩
  obtain ⟨hO, hof, _⟩ := hok k o i (by rw [htake k hk]; exact ho) hi
  have hkn : Kn X.mine (X.ok (nw.map Nw.pc ++ S.objs) u) (fun t => t ∈ o.looksAt l.toArray) (bV S (l.take n) infs k) b u := by
   refine ⟨fun p hp => ?_, fun f hf => ?_, fun b hb => hb.2.1, fun t r ht hr => hread k L vs b u nw t r (Nr hk) hG (hslot t ht) hr⟩
   ·
    rw [(aF _ _ _ _).1] at hp
    exact hG.mem.at_ p (Lp _ hp)
   ·
    rw [(aF _ _ _ _).2] at hf
    exact hG.mem.fact f hf
  rcases hO with hO | ⟨r, rfl, hg, os, rest, hp, hM⟩
  ·
   cases i with
   | still r =>
    obtain ⟨hg, hSt⟩ := hO
    refine ⟨fun _ => ?_, fun hw => by rw [aC hkn hg] at hw; cases hw⟩
    obtain ⟨v, e1, e2⟩ := hSt _ _ b u hkn
    rw [e1]
    exact ⟨nw, hG.same hLk hi (fun _ _ e => by cases e) v hG.mem (fun _ h => h) (fun _ _ => rfl) e2⟩
   | grow r =>
    obtain ⟨hg, hSt⟩ := hO
    refine ⟨fun _ => bW (hSt _ _ b u hkn) (fun v w' hgr hv => ?_), fun hw => by rw [aC hkn hg] at hw; cases hw⟩
    obtain ⟨r', rfl, hv⟩ := hv
    exact ⟨nw, hG.same hLk hi (fun _ _ e => by cases e) v (hG.mem.grown hgr) (fun b hb => qC hgr hb) (fun p hp => kX hgr p hp) (hv.mono (fun b hb => lg hG.mem hgr hb) fun _ _ => rfl)⟩
   | put p q => cases hnp _ _ hi
   | skip =>
    refine ⟨fun hw => (by rw [aC hkn hO] at hw; cases hw), fun _ => ?_⟩
    exact ⟨nw, hG.same hLk hi (fun _ _ e => by cases e) undef hG.mem (fun _ h => h) (fun _ _ => rfl) ⟨[], rfl, rfl⟩⟩
   | new T d =>
    obtain ⟨hg, hSt⟩ := hO
    refine ⟨fun _ => ?_, fun hw => by rw [aC hkn hg] at hw; cases hw⟩
    obtain ⟨cs, e1, e2⟩ := hSt _ _ b u hkn
    rw [e1]
    exact ⟨_, hG.new hLk hi e2⟩
  ·
   refine ⟨fun _ => ?_, fun hw => by rw [aC hkn hg] at hw; cases hw⟩
   rw [(aF _ _ _ _).1] at hp
   have hpp : (nw.map Nw.pc ++ S.objs).Perm (os ++ (rest ++ nw.map Nw.pc)) := by
    refine Lm.trans ?_
    rw [← Lc]
    exact hp.append_right _
   have hm := Mem.perm hpp hG.mem
   have hokp : X.ok (nw.map Nw.pc ++ S.objs) u = X.ok (os ++ (rest ++ nw.map Nw.pc)) u := uN hpp
   have hM' := hM.go X.mine (X.ok (os ++ (rest ++ nw.map Nw.pc)) u) b u ⟨fun q hq => hm.at_ q (Lp _ (Ll _ hq)), (by rw [(aF _ _ _ _).2, ← hokp]; exact hG.mem.fact), fun b hb => hb.2.1, fun t r ht hr => hokp ▸ hkn.regs t r ht hr⟩ hm.own
   refine jO hM' fun v u' ⟨r', os', ⟨e1, e2⟩, e3, e4⟩ => ?_
   subst e1 e2
   have hm' := hm.turned e3
   refine ⟨nw, hG.same hLk hi (fun _ _ e => by cases e) v (Mem.perm hpp.symm hm') (fun b hb => ?_) (fun p hp => ?_) ?_⟩
   ·
    rw [hokp] at hb
    rw [uN hpp]
    exact gV hm e3 hb
   ·
    rw [hokp] at hp
    exact turned_cell hm e3 p hp
   ·
    rw [uN hpp]
    exact e4.mono (fun b hb => gJ hm e3 hb) fun _ _ => rfl
 ·
  intro vs u b ⟨nw, hG⟩ hs hd hslot
  have hgood : Good X (X.ok (nw.map Nw.pc ++ S.objs) u) (bV S (l.take n) infs n) b u := by
   refine ⟨fun p hp => ?_, ?_, fun p hp b hb => ?_, fun f hf => ?_, fun t r hr => hread n _ vs b u nw t r (Lj _) hG (hslot t) hr⟩
   ·
    rw [(aF _ _ _ _).1] at hp
    exact hG.mem.at_ p (Lp _ hp)
   ·
    rw [(aF _ _ _ _).1]
    exact (LQ.1 hG.mem.apart).2.1
   ·
    rw [(aF _ _ _ _).1] at hp
    exact hb.2.2 p (Lp _ hp)
   ·
    rw [(aF _ _ _ _).2] at hf
    exact hG.mem.fact f hf
  let gOf : Nat → Nat := fun j => match vs j with
   | .pointer (some p) => p.block
   | _ => 0
  have hfr : ∀ j T d, infs[j]? = some (.new T d) → ∃ e ∈ nw, e.1 = j ∧ e.2.1 = gOf j ∧ e.2.2.1 = T ∧ e.2.2.2 = d ∧ vs j = .pointer (some ⟨gOf j, 0, none⟩) := fun j T d hj => by
   have hjn : j < n := by
    have := (KZ.1 hj).1
    omega
   obtain ⟨e, he, rfl⟩ := hG.all j T d hjn hj
   obtain ⟨_, h2, h3⟩ := hG.ok e he
   have hg : gOf e.1 = e.2.1 := by simp only [gOf, h3]
   have := MJ (hj.symm.trans h2)
   injection this with e1 e2
   exact ⟨e, he, rfl, hg.symm, e1.symm, e2.symm, by rw [hg]; exact h3⟩
  have hE := qM (l.take n) infs 0 []
  rw [KE] at hE
  rw [hE] at hT
  have hmm : (dH 0 (l.take n) infs).map (·.1) = ((dH 0 (l.take n) infs).map fun e => (e.1, gOf e.2)).map (·.1) := by simp [List.map_map, Function.comp_def]
  rw [hmm] at hT
  have hEL := nO _ _ hT
  have hap := LQ.1 hG.mem.apart
  have hpc : ∀ e ∈ nw, Nw.pc e ∈ nw.map Nw.pc := fun e he => LD.2 ⟨e, he, rfl⟩
  have hfe : ∀ e0 ∈ dH 0 (l.take n) infs, ∃ e ∈ nw, e.1 = e0.2 ∧ e.2.1 = gOf e0.2 ∧ e.2.2.1 = e0.1.2.1 ∧ e.2.2.2 = e0.1.2.2 ∧ vs e0.2 = .pointer (some ⟨gOf e0.2, 0, none⟩) ∧ e0.2 < n ∧ ∃ o, l[e0.2]? = some o ∧ o.dst = some e0.1.1 := fun e0 he0 => by
   obtain ⟨j, o, h1, h2, h3, h4⟩ := dn _ _ _ _ he0
   rw [L8] at h1
   have hjn : j < n := by
    have := (KZ.1 h4).1
    omega
   obtain ⟨e, he, g1, g2, g3, g4, g5⟩ := hfr j _ _ h4
   rw [htake j hjn] at h2
   rw [h1]
   exact ⟨e, he, g1, g2, g3, g4, g5, hjn, o, h2, h3⟩
  refine hEL.go b u ((Good.ext _ _ hgood (fun e he => ?_) ?_ fun e he o ho => ?_).at hG.mem.gr (fun b hb => ⟨hb.1, hb.2.1⟩) (hs.trans ha.size) (hd.trans ha.defers))
  ·
   obtain ⟨e0, he0, rfl⟩ := LD.1 he
   obtain ⟨e1, he1, g1, g2, g3, g4, g5, hjn, o, ho, hdo⟩ := hfe e0 he0
   obtain ⟨hb, cs, hcs, hrd⟩ := hG.mem.at_ (Nw.pc e1) (Ll _ (hpc e1 he1))
   rw [g2] at hb hcs
   rw [g3] at hcs
   rw [g4] at hrd
   refine ⟨hb, fun hz => hz.2.2 (Nw.pc e1) (Ll _ (hpc e1 he1)) (by show some e1.2.1 = _; rw [g2]), ?_, cs, hcs, hrd⟩
   rcases hslot e0.1.1 with ⟨j', k1, k2, k3, k4, k5⟩ | ⟨k1, k2⟩
   ·
    have hjj : j' = e0.2 := by
     rcases Nk j' e0.2 with h | h | h
     · exact absurd ((hdst _ o ho).trans hdo) (k3 _ h hjn)
     · exact h
     ·
      exfalso
      have hoj' : l[j']? = some l[j'] := by simp
      have hij' : infs[j']? = some infs[j'] := by simp
      obtain ⟨_, h2, _⟩ := hG.ok e1 he1
      rw [g1] at h2
      exact ((hok j' l[j'] infs[j'] (by rw [htake j' k1]; exact hoj') hij').2.1 e0.1.1 (by rw [← hdst j' _ hoj']; exact k2)).2.2 e0.2 o _ _ h (by rw [htake _ hjn]; exact ho) h2 hdo
    subst hjj
    rw [k5]
    exact g5
   · exact absurd ((hdst _ o ho).trans hdo) (k1 _ hjn)
  ·
   have hnd := fH (l.take n) infs 0
   rw [MK]
   refine NJ.2 ?_
   refine (NJ.1 hnd).imp_of_mem fun {x y} hx hy hne e => ?_
   obtain ⟨e1, he1, g1, g2, _⟩ := hfe x hx
   obtain ⟨e2, he2, k1, k2, _⟩ := hfe y hy
   have : e1 ≠ e2 := fun e' => hne (by rw [← g1, ← k1, e'])
   have hpw := NJ.1 hap.1
   exact H8 (R := fun x y : Nw => ∀ b, (Nw.pc x).blk = some b → (Nw.pc y).blk ≠ some b) (fun x y h b h1 h2 => h b h2 h1) hpw e1 he1 e2 he2 this _ rfl (by show some e2.2.1 = some e1.2.1; rw [g2, k2]; exact congrArg some e.symm)
  ·
   obtain ⟨e0, he0, rfl⟩ := LD.1 he
   obtain ⟨e1, he1, g1, g2, _⟩ := hfe e0 he0
   rw [(aF _ _ _ _).1] at ho
   intro e'
   exact hap.2.2 (Nw.pc e1) (hpc e1 he1) o ho _ rfl (by rw [e', ← g2])
theorem EV.nil0 {l' : List Oper} (h : EL X ops Q l' S) : EV N ops (fun S' E => mW (EL X ops Q l') E S') [] S [] := h
theorem EV.Dx {l' : List Oper} {t : Tmp} {Ty : TypeId} {d : D} {rs : List (Tmp × R)} {os : List Obj} {fs : List (Value × D)} (h : ∀ g, EL X ops Q l' ⟨(t, .val (.v (.pointer (some ⟨g, 0, none⟩)))) :: rs, .var g Ty d :: os, fs⟩) : EV N ops (fun S' E => mW (EL X ops Q l') E S') [] ⟨rs, os, fs⟩ [(t, Ty, d)] := h
end
def rG (v : Value) (n m : Nat) : Value :=
 match v with
 | .slice (some a) _ _ => .slice (some ⟨a.block, a.off + n, none⟩) m m
 | _ => .slice none 0 0
theorem CZ (v : Value) (n m : Nat) : (rG v n m).oneCell' = true := by
 unfold rG
 split <;> rfl
section
variable {N : Nat} {X : Cx N} {S : St} {ops : Array Oper} {o : Oper} {Q : Exit → Act → World → Prop} {l' : List Oper} {TT : St → List Fr → Prop} {EE : List Fr} {rs : List (Tmp × R)} {os : List Obj} {fs : List (Value × D)} {w : World} {ok : Nat → Prop}
theorem Gp {x : Operand} {T n m e z : Nat} {v : Value} {ds : List D} (hA : ou T m) (ho : o.op = .slice T x none none none) (hx : ev S x = some (.val (.v (aH v n)))) (i : Nat) (hi : S.objs[i]? = some (.row v e z ds)) (hk0 : 0 < ds.length) : Still ops S o (.val (.v (rG v n m))) := fun base ok a w ha => by
 have hx' := dh ha hx (aB (by rw [ho]; simp [Op.operands]))
 obtain ⟨g, c, cur, rows, H⟩ := row_in (ha.objs _ (Ls hi)) hk0
 refine ⟨_, ?_, dM (CZ _ _ _)⟩
 unfold execOp
 have e1 : aH v n = .pointer (some ⟨g, n, none⟩) := by rw [H.val]; simp [aH]
 have e2 : rG v n m = .slice (some ⟨g, n, none⟩) m m := by rw [H.val]; simp [rG]
 simp only [ho, hx', e1, e2, OL, KW, hA.ok w g n, KL, KX]
theorem sK {g n m : Nat} {l : List UInt8} {mid : List Value} (hm : Nat.ble m 4096 = true) (hg : g < w.heap.size) (hr : w.rangeAt g n mid) (h : Reads ok w (.arr m l) mid) : IsB w (.slice (some ⟨g, n, none⟩) m m) l := by
 obtain ⟨h1, h2⟩ : l.length = m ∧ mid = bvs l := by
  rw [Reads] at h
  exact ⟨h.1, h.2⟩
 subst h1 h2
 have := Nat.le_of_ble_eq_true hm
 exact ⟨_, l.length, rfl, Lj _, by simp only [maxLen]; omega, fun _ => ⟨g, n, rfl, hg, hr⟩⟩
theorem DW {x : Operand} {n m k off e z : Nat} {v : Value} {ds : List D} {d : D} {l : List UInt8} (hm : Nat.ble m 4096 = true) (hk : n = k * z + off ∧ ds[k]? = some d) (hs : d.sub off m true = some (.arr m l)) (ho : o.op = .convert 35 9 x) (hx : ev S x = some (.val (.v (rG v n m)))) (i : Nat) (hi : S.objs[i]? = some (.row v e z ds)) : Still ops S o (.val (.v (.string (Go.Proofs.YtkhjanjlcdhdcaaGreat.bs l)))) := fun base ok a w ha => by
 have hx' := dh ha hx (aB (by rw [ho]; simp [Op.operands]))
 have hat := ha.objs _ (Ls hi)
 obtain ⟨g, c, cur, rows, H⟩ := row_in hat (by have := (KZ.1 hk.2).1; omega)
 obtain ⟨r, A, B, h1, h2, h3, h4, h5, _⟩ := H.elem hk.2
 obtain ⟨e1, e2, pre, mid, post, rfl, e3, e4⟩ := fO d off m true _ r hs h3
 have hh : w.heap[g]? = some (.cells (A ++ (pre ++ mid ++ post) ++ B).toArray e (0, 0)) := by rw [← h4]; exact H.heap
 have hr := dG hh
 rw [show A ++ (pre ++ mid ++ post) ++ B = (A ++ pre) ++ mid ++ (post ++ B) by simp] at hr
 have hr := fF hr
 rw [L8, LP, h5, e3, ← hk.1] at hr
 have hg : g < w.heap.size := (LJ.1 hh).1
 have e5 : rG v n m = .slice (some ⟨g, n, none⟩) m m := by rw [H.val]; simp [rG]
 have hb : IsB w (a.eval x) l := by rw [hx', e5]; exact sK hm hg hr e4
 refine ⟨_, ?_, dM rfl⟩
 unfold execOp
 simp only [ho, KW, l9 hb, KL, KX]
theorem DV {x : Operand} {g n m : Nat} {t : TypeId} {d : D} {l : List UInt8} (hm : Nat.ble m 4096 = true) (hs : d.sub n m true = some (.arr m l)) (ho : o.op = .convert 35 9 x) (hx : ev S x = some (.val (.v (.slice (some ⟨g, n, none⟩) m m)))) (i : Nat) (hi : S.objs[i]? = some (.var g t d)) : Still ops S o (.val (.v (.string (Go.Proofs.YtkhjanjlcdhdcaaGreat.bs l)))) := fun base ok a w ha => by
 have hx' := dh ha hx (aB (by rw [ho]; simp [Op.operands]))
 obtain ⟨_, cs, hh, hr⟩ := ha.objs _ (Ls hi)
 obtain ⟨e1, e2, pre, mid, post, rfl, e3, e4⟩ := fO d n m true _ cs hs hr
 have hr := fF (dG hh)
 rw [L8, e3] at hr
 have hb : IsB w (a.eval x) l := by rw [hx']; exact sK hm (LJ.1 hh).1 hr e4
 refine ⟨_, ?_, dM rfl⟩
 unfold execOp
 simp only [ho, KW, l9 hb, KL, KX]
theorem pO {t ty : Nat} {pos : String} {af : Array Edge} {gd : Option (Nat × Bool)} {x : Operand} {T n m e z i : Nat} {v : Value} {ds : List D} (hA : ou T m) (hx : ev (⟨rs, os, fs⟩ : St) x = some (.val (.v (aH v n)))) (hi : os[i]? = some (.row v e z ds)) (hk0 : 0 < ds.length) (hg : guardOf ops ⟨rs, os, fs⟩ ⟨some t, .slice T x none none none, ty, pos, af, gd⟩ = some true) (hoff : bg N (some t) EE = true) (kk : EM N ops TT l' ⟨(t, .val (.v (rG v n m))) :: rs, os, fs⟩ EE) : EM N ops TT (⟨some t, .slice T x none none none, ty, pos, af, gd⟩ :: l') ⟨rs, os, fs⟩ EE := EH.still (Gp hA rfl hx i hi hk0) hg rfl hoff kk
theorem nK {t ty : Nat} {pos : String} {af : Array Edge} {gd : Option (Nat × Bool)} {x : Operand} {n m k off e z i : Nat} {v : Value} {ds : List D} {d : D} {l : List UInt8} (hx : ev (⟨rs, os, fs⟩ : St) x = some (.val (.v (rG v n m)))) (hi : os[i]? = some (.row v e z ds)) (hk : n = k * z + off ∧ ds[k]? = some d) (hs : d.sub off m true = some (.arr m l)) (hm : Nat.ble m 4096 = true) (hg : guardOf ops ⟨rs, os, fs⟩ ⟨some t, .convert 35 9 x, ty, pos, af, gd⟩ = some true) (hoff : bg N (some t) EE = true) (kk : EM N ops TT l' ⟨(t, .val (.v (.string (Go.Proofs.YtkhjanjlcdhdcaaGreat.bs l)))) :: rs, os, fs⟩ EE) : EM N ops TT (⟨some t, .convert 35 9 x, ty, pos, af, gd⟩ :: l') ⟨rs, os, fs⟩ EE := EH.still (DW hm hk hs rfl hx i hi) hg rfl hoff kk
theorem je {t ty : Nat} {pos : String} {af : Array Edge} {gd : Option (Nat × Bool)} {x : Operand} {g n m i : Nat} {T : TypeId} {d : D} {l : List UInt8} (hx : ev (⟨rs, os, fs⟩ : St) x = some (.val (.v (.slice (some ⟨g, n, none⟩) m m)))) (hi : os[i]? = some (.var g T d)) (hs : d.sub n m true = some (.arr m l)) (hm : Nat.ble m 4096 = true) (hg : guardOf ops ⟨rs, os, fs⟩ ⟨some t, .convert 35 9 x, ty, pos, af, gd⟩ = some true) (hoff : bg N (some t) EE = true) (kk : EM N ops TT l' ⟨(t, .val (.v (.string (Go.Proofs.YtkhjanjlcdhdcaaGreat.bs l)))) :: rs, os, fs⟩ EE) : EM N ops TT (⟨some t, .convert 35 9 x, ty, pos, af, gd⟩ :: l') ⟨rs, os, fs⟩ EE := EH.still (DV hm hs rfl hx i hi) hg rfl hoff kk
end
theorem jc (l m : List UInt8) : Bin .eql 32 (.arr 20 l) (.arr 20 m) (.bool (l == m)) ∧ Bin .neq 32 (.arr 20 l) (.arr 20 m) (.bool (l != m)) :=
 AL Tryz.underlying32 Tryz.underlying5 (fun w => by kernel_rfl) (by kernel_rfl) l m
abbrev bF : Value := .slice none 0 0
theorem lF (l m : List UInt8) : Bin .lss 9 (.v (.string (Go.Proofs.YtkhjanjlcdhdcaaGreat.bs l))) (.v (.string (Go.Proofs.YtkhjanjlcdhdcaaGreat.bs m))) (.bool (Op.bytesLess l m)) := by
 refine ⟨rfl, fun ok w p q hp hq => ?_⟩
 obtain rfl := (ay.1 hp).2
 obtain rfl := (ay.1 hq).2
 refine ⟨fun x y => by simp [eqGuard], ?_⟩
 simp [binOp, Op.stringOp, og]
theorem zB : ∀ l : List UInt8, Op.bytesLess l l = false
 | [] => rfl
 | a :: l => by simp [Op.bytesLess, zB l]
theorem iC : ou 32 20 := ⟨fun w g o => by
 have hn : Tryz.prog.arrayLen 32 = 20 := by kernel_rfl
 have hs : (sizeOf (Tryz.prog.elem 32)).run Tryz.prog w = .ok 1 w := by kernel_rfl
 rw [run_sliceAt_array_all (P := Tryz.prog) w 32 ⟨g, o, none⟩ (by kernel_rfl), hs]
 simp [slicedAt, hn, bQ, Result.andThen]⟩
abbrev rsO (g : Nat) (L k : Value) (n : Int) : Obj := .var g 67 (.tup [.v L, .v k, .v (.int .i64 n)])
section
variable {N : Nat} {X : Cx N} {S : St} {ops : Array Oper} {o : Oper} {w : World} {ok : Nat → Prop} {Q : Exit → Act → World → Prop} {l' : List Oper} {TT : St → List Fr → Prop} {EE : List Fr} {rs : List (Tmp × R)} {os : List Obj} {fs : List (Value × D)}
theorem yS {T k off sz : Nat} {ag : Bool} (F : Fld Tryz.prog T k off sz ag) {d d' : D} {cs : List Value} (hr : Reads ok w d cs) (hs : d.sub off sz ag = some d') : ∃ mid, Reads ok w d' mid ∧ (Instr.field T (.agg cs.toArray) k).run Tryz.prog w = .ok (form d' mid) w := by
 obtain ⟨e1, e2, pre, mid, post, rfl, e3, e4⟩ := fO d off sz ag d' cs hs hr
 obtain ⟨⟨fs, f, dd, h1, h2, h3, h4, h5, h6⟩, hpos⟩ := F
 have hml : mid.length = sz := by rw [← e1]; exact Reads.len _ _ e4
 have hA : (isAgg f.type).run Tryz.prog w = .ok ag w := by
  unfold isAgg
  simp only [KW, run_underlying h5, KL]
  subst h6
  cases dd <;> rfl
 refine ⟨mid, e4, ?_⟩
 subst h3
 cases ag with
 | true =>
  have hf : form d' mid = .agg mid.toArray := by unfold form; rw [e2]; rfl
  rw [hf]
  unfold Instr.field
  cases hi : Tryz.prog.info? f.type with
  | none => rw [hi] at h4; cases h4
  | some i =>
   rw [hi] at h4
   have hsz : i.size = sz := by simpa using h4
   simp [run_underlying h1, h2, asAgg, part, hA, sizeOf, typeInfo, hi, hsz]
   rw [← e3, ← hml]
   simp
 | false =>
  have hf : form d' mid = mid.headD undef := by unfold form; rw [e2]; rfl
  rw [hf]
  unfold Instr.field
  obtain ⟨x, rest, rfl⟩ : ∃ x rest, mid = x :: rest := by
   cases mid with
   | nil => simp at hml; omega
   | cons x rest => exact ⟨x, rest, rfl⟩
  simp [run_underlying h1, h2, asAgg, part, hA, ← e3]
theorem Ee {x : Operand} {T k off sz : Nat} {ag : Bool} {d d' : D} {lf : List (Nat × Nat × Bool)} (ho : o.op = .field T x k) (hx : ev S x = some (.val d)) (ha : d.agg = true) (h : assoc stL T = some lf) (hk : lf[k]? = some (off, sz, ag)) (h0 : Nat.blt 0 sz = true) (hs : d.sub off sz ag = some d') : Still ops S o (.val d') := fun base ok a w hkn => by
 obtain ⟨cs, h1, h2⟩ := (iV ha).1 (hkn.ev hx (aB (by rw [ho]; simp [Op.operands])))
 obtain ⟨mid, h3, h4⟩ := yS (GH h hk h0) h1 hs
 refine ⟨form d' mid, ?_, mid, h3, rfl⟩
 unfold execOp
 simp only [ho, h2, KW, h4, KL, KX]
theorem kN {t ty : Nat} {pos : String} {af : Array Edge} {gd : Option (Nat × Bool)} {x : Operand} {T k off sz : Nat} {ag : Bool} {d d' : D} {lf : List (Nat × Nat × Bool)} (hx : ev (⟨rs, os, fs⟩ : St) x = some (.val d)) (ha : d.agg = true) (h : assoc stL T = some lf) (hk : lf[k]? = some (off, sz, ag)) (h0 : Nat.blt 0 sz = true) (hs : d.sub off sz ag = some d') (hg : guardOf ops ⟨rs, os, fs⟩ ⟨some t, .field T x k, ty, pos, af, gd⟩ = some true) (hN : Nat.blt t N = true) (kk : EL X ops Q l' ⟨(t, .val d') :: rs, os, fs⟩) : EL X ops Q (⟨some t, .field T x k, ty, pos, af, gd⟩ :: l') ⟨rs, os, fs⟩ := ES.still (Ee rfl hx ha h hk h0 hs) hg rfl hN kk
end
end E
end Go.Proofs.YtkhjanjlcdhdcaaGreat
namespace Go.Proofs.YtkhjanjlcdhdcaaGreat
set_option linter.unusedVariables false
open Go.RowKit Mono Rlp
open Go.ChangeMaps (setBlock)
namespace E
theorem fD.left {α β : Type} {R : α → β → Prop} : ∀ {l : List α} {m : List β}, fD R l m → ∀ a ∈ l, ∃ b ∈ m, R a b
 | _, _, .nil, a, h => by cases h
 | _, _, .cons h1 h2, a, h => by
  rcases KT.1 h with rfl | h
  · exact ⟨_, KQ, h1⟩
  ·
   obtain ⟨b, hb, hr⟩ := h2.left a h
   exact ⟨b, Ld _ hb, hr⟩
theorem fD.right {α β : Type} {R : α → β → Prop} : ∀ {l : List α} {m : List β}, fD R l m → ∀ b ∈ m, ∃ a ∈ l, R a b
 | _, _, .nil, a, h => by cases h
 | _, _, .cons h1 h2, a, h => by
  rcases KT.1 h with rfl | h
  · exact ⟨_, KQ, h1⟩
  ·
   obtain ⟨b, hb, hr⟩ := h2.right a h
   exact ⟨b, Ld _ hb, hr⟩
end E
end Go.Proofs.YtkhjanjlcdhdcaaGreat
namespace Go.Proofs.YtkhjanjlcdhdcaaGreat
set_option linter.unusedVariables false
set_option maxHeartbeats 2000000
open Go.RowKit Mono Rlp
namespace E
def uJ (l : List Oper) (chain done : List Nat) : List Nat := chain.filter fun k => !done.contains k && match l[k]? with
 | some o => o.after.toList.all fun e => !(Region.binds .any e) || !chain.contains e.on || done.contains e.on
 | none => true
def CT (N : Nat) (l : List Oper) (os1 : List Obj) (T : St → Prop) (chain : List Nat) : Nat → List Nat → St → Prop
 | 0, _, S => T S
 | m + 1, done, S => ∀ k ∈ uJ l chain done, CH N l.toArray os1 (fun S' => CT N l os1 T chain m (k :: done) S') (aA l [k]) S
theorem CT.pick {N : Nat} {l : List Oper} {os1 : List Obj} {T : St → Prop} {chain : List Nat} {m : Nat} {done : List Nat} {S : St} (ks : List Nat) (hk : uJ l chain done = ks) (h : ∀ k ∈ ks, CH N l.toArray os1 (fun S' => CT N l os1 T chain m (k :: done) S') (aA l [k]) S) : CT N l os1 T chain (m + 1) done S := by
 unfold CT
 rw [hk]
 exact h
theorem CT.nil {N : Nat} {l : List Oper} {os1 : List Obj} {T : St → Prop} {chain : List Nat} {done : List Nat} {S : St} (h : T S) : CT N l os1 T chain 0 done S := h
def ug (l : List Oper) (n : Nat) (free chain : List Nat) : Bool :=
 (List.range n).all (fun k => free.contains k != chain.contains k) && free.all (fun k => decide (k < n)) && chain.all (fun k => decide (k < n)) && decide (n ≤ l.length) &&
 (List.range free.length).all (fun i => (List.range i).all fun j => decide (free.getD j 0 < free.getD i 0)) && decide chain.Nodup &&
 (List.range n).all (fun k => match l[k]? with
  | some o => (o.looksAt l.toArray).all (fun t => (List.range n).all fun j => decide (j < k) || (l[j]?.bind (·.dst)) != some t) &&
   (match o.dst with
    | some t => (List.range k).all fun j => (l[j]?.bind (·.dst)) != some t
    | none => true)
  | none => false) &&
 free.all (fun k => match l[k]? with
  | some o => (o.looksAt l.toArray).all fun t => chain.all fun j => (l[j]?.bind (·.dst)) != some t
  | none => true)
structure Ju (l : List Oper) (n : Nat) (free chain : List Nat) : Prop where
 part : ∀ k, k < n → (k ∈ free ∧ k ∉ chain) ∨ (k ∉ free ∧ k ∈ chain)
 flt : ∀ k ∈ free, k < n
 clt : ∀ k ∈ chain, k < n
 le : n ≤ l.length
 fup : ∀ i j : Nat, j < i → i < free.length → free.getD j 0 < free.getD i 0
 nod : chain.Nodup
 back : ∀ (k j : Nat) (o oj : Oper) (t : Tmp), k < n → l[k]? = some o → t ∈ o.looksAt l.toArray → k ≤ j → j < n → l[j]? = some oj → oj.dst ≠ some t
 free : ∀ (k j : Nat) (o oj : Oper) (t : Tmp), k ∈ free → l[k]? = some o → t ∈ o.looksAt l.toArray → j ∈ chain → l[j]? = some oj → oj.dst ≠ some t
 once : ∀ (k j : Nat) (o oj : Oper) (t : Tmp), k < n → l[k]? = some o → o.dst = some t → j < k → l[j]? = some oj → oj.dst ≠ some t
theorem AY {l : List Oper} {n : Nat} {free chain : List Nat} (h : ug l n free chain = true) : Ju l n free chain := by
 unfold ug at h
 simp only [MB, LZ, NQ, decide_eq_true_eq] at h
 obtain ⟨⟨⟨⟨⟨⟨⟨h1, h2⟩, h3⟩, h4⟩, h5⟩, h6⟩, h8⟩, h9⟩ := h
 refine ⟨fun k hk => ?_, h2, h3, h4, fun i j hj hi => h5 i hi j hj, h6, fun k j o oj t hk ho ht hkj hj hoj e => ?_, fun k j o oj t hk ho ht hj hoj e => ?_, fun k j o oj t hk ho ht hj hoj e => ?_⟩
 ·
  have := h1 k hk
  by_cases e1 : k ∈ free <;> by_cases e2 : k ∈ chain <;> simp [e1, e2] at this ⊢
 ·
  have := h8 k hk
  rw [ho] at this
  simp only [MB, LZ, NQ] at this
  have := this.1 t ht j hj
  rw [hoj] at this
  simp [e] at this
  omega
 ·
  have := h9 k hk
  rw [ho] at this
  simp only [LZ] at this
  have := this t ht j hj
  rw [hoj] at this
  simp [e] at this
 ·
  have := h8 k hk
  rw [ho] at this
  simp only [MB] at this
  have := this.2
  rw [ht] at this
  simp only [LZ, NQ] at this
  have := this j hj
  rw [hoj] at this
  simp [e] at this
section
variable {N : Nat} {X : Cx N} {S : St} {a : Act} {Q : Exit → Act → World → Prop} {l : List Oper}
theorem EC.JZ {id : Nat} (n : Nat) (free chain : List Nat) (os0 os1 : List Obj) (hB : monoB l.toArray n N = true) (hC : ug l n free chain = true) (hS : S.objs = os0 ++ os1)
  (h : EM N l.toArray (fun S' _ => CT N l os1 (fun S'' => EL X l.toArray Q (l.drop n) S'') chain chain.length [] ⟨S'.regs, os0 ++ os1, S.facts⟩) (aA l free) ⟨S.regs, os1, S.facts⟩ []) : EC X Q (.region id l.toArray true) S := by
 constructor
 intro a ws ha
 have C := AY hC
 obtain ⟨infs, hlen, hok, hT, hnp⟩ := jq _ _ _ h
 have hfree := iW (l := l) free fun k hk => LC (C.flt k hk) C.le
 have hchain := iW (l := l) chain fun k hk => LC (C.clt k hk) C.le
 rw [hfree.1] at hlen hT
 have hdst : ∀ k o, l[k]? = some o → aT l.toArray k = o.dst := fun k o ho => by unfold aT; simp [ho]
 have hsl : ∀ k o L vs (b : Act) t, k < n → l[k]? = some o → t ∈ o.looksAt l.toArray → iO l.toArray L vs a b k t → (∃ j oj, j < n ∧ l[j]? = some oj ∧ oj.dst = some t ∧ L j ∧ b.tmps.getD t undef = vs j) ∨ ((∀ j o, j < n → l[j]? = some o → o.dst ≠ some t) ∧ b.tmps.getD t undef = a.tmps.getD t undef) := fun k o L vs b t hk ho ht hs => by
  rcases hs with ⟨j, h1, h2, h3, h4, h5⟩ | ⟨h1, h2⟩
  ·
   have hj : j < l.length := by have := C.le; omega
   exact .inl ⟨j, l[j], by omega, by simp, by rw [← hdst j l[j] (by simp)]; exact h2, h4, h5⟩
  ·
   refine .inr ⟨fun j oj hj hoj e => ?_, h2⟩
   rcases Me j k with h3 | h3
   · exact h1 j h3 (by rw [hdst j oj hoj]; exact e)
   · exact C.back k j o oj t hk ho ht h3 hj hoj e
 have huniq : ∀ j j' o o' t, j < n → j' < n → l[j]? = some o → l[j']? = some o' → o.dst = some t → o'.dst = some t → j = j' := fun j j' o o' t hj hj' ho ho' hd hd' => by
  rcases Nk j j' with h | h | h
  · exact absurd hd (C.once j' j o' o t hj' ho' hd' h ho)
  · exact h
  · exact absurd hd' (C.once j j' o o' t hj ho hd h ho')
 let RF := (bV ⟨S.regs, os1, S.facts⟩ (aA l free) infs free.length).regs
 have hRF : ∀ t r, look RF t = some r → (∃ p o i, p < free.length ∧ l[free.getD p 0]? = some o ∧ infs[p]? = some i ∧ o.dst = some t ∧ r = i.reg) ∨ look S.regs t = some r := fun t r hr => by
  rcases iR _ _ _ _ _ _ hr with ⟨q, oq, iq, h1, h2, h3, h4, h5⟩ | h1
  · exact .inl ⟨q, oq, iq, h1, by rw [← hfree.2 q h1]; exact h2, h3, h4, h5⟩
  · exact .inr h1
 have hfl : ∀ p, p < free.length → free.getD p 0 < n ∧ free.getD p 0 ∈ free := fun p hp => by
  have : free.getD p 0 ∈ free := by
   rw [LK, KJ hp]
   exact LW hp
  exact ⟨C.flt _ this, this⟩
 have hcl : ∀ p, p < chain.length → chain.getD p 0 < n ∧ chain.getD p 0 ∈ chain := fun p hp => by
  have : chain.getD p 0 ∈ chain := by
   rw [LK, KJ hp]
   exact LW hp
  exact ⟨C.clt _ this, this⟩
 have hput : ∀ p o i, p < free.length → l[free.getD p 0]? = some o → infs[p]? = some i → ∀ t, o.dst = some t → look RF t = some i.reg := fun p o i hp ho hi t ht => by
  have hlk := (bU (aA l free) infs free.length ⟨S.regs, os1, S.facts⟩ t (by rw [hlen, hfree.1]) (by rw [hfree.1]; exact Lj _)).1
  refine hlk p o i hp (by rw [hfree.2 p hp]; exact ho) hi ht fun m om h1 h2 h3 e => ?_
  rw [hfree.2 m h2] at h3
  have := huniq _ _ _ _ t (hfl p hp).1 (hfl m h2).1 ho h3 ht e
  have := C.fup m p h1 h2
  omega
 have hmono : ∀ p o t r, p < free.length → l[free.getD p 0]? = some o → t ∈ o.looksAt l.toArray → look (bV ⟨S.regs, os1, S.facts⟩ (aA l free) infs p).regs t = some r → look RF t = some r := fun p o t r hp ho ht hr => by
  rcases iR _ _ _ _ _ _ hr with ⟨q, oq, iq, h1, h2, h3, h4, h5⟩ | h1
  ·
   rw [h5]
   have hq : q < free.length := by omega
   exact hput q oq iq hq (by rw [← hfree.2 q hq]; exact h2) h3 t h4
  ·
   have hlk := (bU (aA l free) infs free.length ⟨S.regs, os1, S.facts⟩ t (by rw [hlen, hfree.1]) (by rw [hfree.1]; exact Lj _)).2
   have hpre := (bU (aA l free) infs p ⟨S.regs, os1, S.facts⟩ t (by rw [hlen, hfree.1]) (by rw [hfree.1]; exact Nr hp))
   by_cases hex : ∃ m om, m < p ∧ (aA l free)[m]? = some om ∧ om.dst = some t
   ·
    -- what was put ahead stays
    obtain ⟨m, om, g1, g2, g3⟩ := hex
    have hm : m < free.length := by omega
    obtain ⟨inf, hi⟩ : ∃ inf, infs[m]? = some inf := ⟨infs[m]'(by omega), by simp⟩
    have e1 := hpre.1 m om inf g1 g2 hi g3 fun m' om' h1 h2 h3 e => by
     rw [hfree.2 m' (by omega)] at h3
     rw [hfree.2 m hm] at g2
     have := huniq _ _ _ _ t (hfl m hm).1 (hfl m' (by omega)).1 g2 h3 g3 e
     have := C.fup m' m h1 (by omega)
     omega
    rw [hr] at e1
    cases e1
    exact hput m om inf hm (by rw [← hfree.2 m hm]; exact g2) hi t g3
   have := hlk fun m om h2 h3 e => by
    rcases Me m p with h4 | h4
    · exact hex ⟨m, om, h4, h3, e⟩
    ·
     rw [hfree.2 m h2] at h3
     have hle : free.getD p 0 ≤ free.getD m 0 := by
      rcases Me p m with h5 | h5
      · exact Nr (C.fup m p h5 h2)
      · rw [show m = p by omega]; exact Lj _
     exact C.back _ _ o om t (hfl p hp).1 ho ht hle (hfl m h2).1 h3 e
   show look (bV ⟨S.regs, os1, S.facts⟩ (aA l free) infs free.length).regs t = some r
   rw [this]
   exact h1
 have hT' : CT N l os1 (fun S'' => EL X l.toArray Q (l.drop n) S'') chain chain.length [] ⟨RF, os0 ++ os1, S.facts⟩ := hT
 clear hT h
 refine eU n (by kernel_rfl) (by rw [ha.size]; exact hB) (fun L vs u => ∃ m done Si, done.length + m = chain.length ∧ done.Nodup ∧ (∀ q ∈ done, q ∈ chain) ∧ (∀ q ∈ chain, (q ∈ done ↔ L q)) ∧ CT N l os1 (fun S'' => EL X l.toArray Q (l.drop n) S'') chain m done Si ∧ Real X l n chain a RF os1 S.facts Si L vs u) ?_ ?_ ?_ ?_
 ·
  rintro L L' vs vs' w hL hvs ⟨m, done, Si, h1, h2, h3, h6, h4, h5⟩
  obtain rfl : L = L' := funext fun j => propext (hL j)
  refine ⟨m, done, Si, h1, h2, h3, h6, h4, h5.mem, h5.tail, h5.facts, fun t r hr => ?_, h5.free⟩
  obtain ⟨g1, g2⟩ := h5.regs t r hr
  exact ⟨fun j o hj ho hd hL => by rw [← hvs j hL]; exact g1 j o hj ho hd hL, g2⟩
 ·
  have had : At X S a ws.drew := ha.gr (by exact ⟨rfl, rfl, rfl, Lj _, fun _ _ => rfl⟩)
  refine ⟨chain.length, [], ⟨RF, os0 ++ os1, S.facts⟩, L8 _, MR, fun q hq => by simp at hq, fun q _ => ⟨fun h => by simp at h, fun h => h.elim⟩, hT', ?_, ⟨os0, rfl⟩, rfl, fun t r hr => ⟨fun _ _ _ _ _ h => h.elim, fun hno => ?_⟩, fun t r hr _ => hr⟩
  · rw [← hS]; exact had.mem
  ·
   rcases hRF t r hr with ⟨p, o, i, h1, h2, h3, h4, h5⟩ | h1
   · exact absurd h4 (hno _ o (hfl p h1).1 h2)
   ·
    rw [← hS]
    exact had.regs t r h1
 ·
  intro k o L vs b u hk ho hL hLk ⟨m, done, Si, h1, h2, h3, h6, h4, h5⟩ hslot hwait
  rcases C.part k hk with ⟨hkf, hkc⟩ | ⟨hkf, hkc⟩
  ·
   -- a free operation
   obtain ⟨p, hp, rfl⟩ : ∃ p, p < free.length ∧ free.getD p 0 = k := by
    obtain ⟨p, hp⟩ := OA hkf
    exact ⟨p, (KZ.1 hp).1, by rw [LK, hp]; rfl⟩
   obtain ⟨inf, hi⟩ : ∃ inf, infs[p]? = some inf := ⟨infs[p]'(by omega), by simp⟩
   obtain ⟨hO, _, _⟩ := hok p o inf (by rw [hfree.2 p hp]; exact ho) hi
   have hkn : Kn X.mine (X.ok Si.objs u) (fun t => t ∈ o.looksAt l.toArray) (bV ⟨S.regs, os1, S.facts⟩ (aA l free) infs p) b u := by
    obtain ⟨os, hos⟩ := h5.tail
    refine ⟨fun q hq => ?_, fun f hf => ?_, fun b hb => hb.2.1, fun t r ht hr => ?_⟩
    ·
     rw [(aF _ _ _ _).1] at hq
     exact h5.mem.at_ q (by rw [hos]; exact Lp _ hq)
    ·
     rw [(aF _ _ _ _).2] at hf
     exact h5.mem.fact f (by rw [h5.facts]; exact hf)
    ·
     obtain ⟨g1, g2⟩ := h5.regs t r (h5.free t r (hmono p o t r hp ho ht hr) fun j oj hj hoj => C.free _ j o oj t hkf ho ht hj hoj)
     rcases hsl _ o L vs b t hk ho ht (hslot t ht) with ⟨j, oj, e1, e2, e3, e4, e5⟩ | ⟨e1, e2⟩
     · rw [e5]; exact g1 j oj e1 e2 e3 e4
     · rw [e2]; exact g2 e1
   have hnext : ∀ v u', Gr u u' → aN (X.ok Si.objs u') u' inf.reg v → ∃ m done Si, done.length + m = chain.length ∧ done.Nodup ∧ (∀ q ∈ done, q ∈ chain) ∧ (∀ q ∈ chain, (q ∈ done ↔ (q = free.getD p 0 ∨ L q))) ∧ CT N l os1 (fun S'' => EL X l.toArray Q (l.drop n) S'') chain m done Si ∧ Real X l n chain a RF os1 S.facts Si (fun j => j = free.getD p 0 ∨ L j) (fun j => if j = free.getD p 0 then v else vs j) u' := fun v u' hg hv => by
    refine ⟨m, done, Si, h1, h2, h3, fun q hq => ⟨fun h => .inr ((h6 q hq).1 h), fun h => (h6 q hq).2 (h.resolve_left fun e => hkc (by rw [← e]; exact hq))⟩, h4, h5.mem.grown hg, h5.tail, h5.facts, fun t r hr => ?_, h5.free⟩
    ·
     obtain ⟨g1, g2⟩ := h5.regs t r hr
     refine ⟨fun j oj hj hoj hd hLj => ?_, fun hno => jU hg (g2 hno)⟩
     by_cases e : j = free.getD p 0
     ·
      rw [if_pos e]
      subst e
      obtain rfl : oj = o := MJ (hoj.symm.trans ho)
      have := h5.free t _ (hput p oj inf hp ho hi t hd) fun j' oj' hj' hoj' e' => by
       have := huniq _ _ _ _ t hk (C.clt j' hj') hoj hoj' hd e'
       exact hkc (by rw [this]; exact hj')
      rw [hr] at this
      cases this
      exact hv
     ·
      rw [if_neg e]
      exact jU hg (g1 j oj hj hoj hd (hLj.resolve_left e))
   cases inf with
   | still r =>
    obtain ⟨hg, hSt⟩ := hO
    refine ⟨fun _ => ?_, fun hw => by rw [aC hkn hg] at hw; cases hw⟩
    obtain ⟨v, e1, e2⟩ := hSt _ _ b u hkn
    rw [e1]
    exact hnext v u (Gr.refl u) e2
   | grow r =>
    obtain ⟨hg, hSt⟩ := hO
    refine ⟨fun _ => bW (hSt _ _ b u hkn) (fun v w' hgr hv => ?_), fun hw => by rw [aC hkn hg] at hw; cases hw⟩
    obtain ⟨r', rfl, hv⟩ := hv
    exact hnext v w' hgr (hv.mono (fun b hb => lg h5.mem hgr hb) fun _ _ => rfl)
   | put p q => cases hnp _ _ hi
   | skip =>
    refine ⟨fun hw => (by rw [aC hkn hO] at hw; cases hw), fun _ => ?_⟩
    exact hnext undef u (Gr.refl u) ⟨[], rfl, rfl⟩
   | new T d =>
    obtain ⟨hg, hSt⟩ := hO
    refine ⟨fun _ => ?_, fun hw => by rw [aC hkn hg] at hw; cases hw⟩
    obtain ⟨cs, e1, e2⟩ := hSt _ _ b u hkn
    rw [e1]
    exact hnext _ _ (cZ u _) trivial
  ·
   -- the next of the chain
   have hkd : k ∉ done := fun h => hLk ((h6 k hkc).1 h)
   obtain ⟨m, rfl⟩ : ∃ m', m = m' + 1 := by
    cases m with
    | succ m => exact ⟨m, rfl⟩
    | zero =>
     exfalso
     have hlt := (Ny.2 ⟨hkd, h2⟩).length_le_of_subset (fun q hq => by
      rcases KT.1 hq with rfl | hq
      · exact hkc
      · exact h3 q hq : (k :: done) ⊆ chain)
     simp at hlt
     omega
   have hready : k ∈ uJ l chain done := by
    unfold uJ
    refine List.mem_filter.2 ⟨hkc, ?_⟩
    rw [ho]
    simp only [MB, Bool.not_eq_true', LZ, Oa]
    refine ⟨by simpa using hkd, fun e he => ?_⟩
    cases hb : Region.binds .any e with
    | false => exact .inl (.inl rfl)
    | true =>
     have h7 := hwait e (by simpa using he) hb
     by_cases hc : e.on ∈ chain
     · exact .inr (by simpa using (h6 e.on hc).2 h7)
     · exact .inl (.inr (by simpa using hc))
   have h4 := h4 k hready
   rw [show aA l [k] = [o] by unfold aA; simp [ho]] at h4
   obtain ⟨hdN, h4⟩ := h4
   have hkreg : ∀ t r, t ∈ o.looksAt l.toArray → look Si.regs t = some r → aN (X.ok Si.objs u) u r (b.tmps.getD t undef) := fun t r ht hr => by
    obtain ⟨g1, g2⟩ := h5.regs t r hr
    rcases hsl _ o L vs b t hk ho ht (hslot t ht) with ⟨j, oj, e1, e2, e3, e4, e5⟩ | ⟨e1, e2⟩
    · rw [e5]; exact g1 j oj e1 e2 e3 e4
    · rw [e2]; exact g2 e1
   have hkn : Kn X.mine (X.ok Si.objs u) (fun t => t ∈ o.looksAt l.toArray) Si b u := ⟨h5.mem.at_, h5.mem.fact, fun b hb => hb.2.1, fun t r ht hr => hkreg t r ht hr⟩
   have hnext : ∀ v u' objs' r', Mem X objs' Si.facts u' → (∃ os, objs' = os ++ os1) → (∀ b, X.ok Si.objs u b → X.ok objs' u' b) → (∀ p : Addr, X.ok Si.objs u p.block → u'.cell? p = u.cell? p) → aN (X.ok objs' u') u' r' v →
     CH N l.toArray os1 (fun S' => CT N l os1 (fun S'' => EL X l.toArray Q (l.drop n) S'') chain m (k :: done) S') [] (St.put ⟨Si.regs, objs', Si.facts⟩ o.dst r') →
     ∃ m done Si, done.length + m = chain.length ∧ done.Nodup ∧ (∀ q ∈ done, q ∈ chain) ∧ (∀ q ∈ chain, (q ∈ done ↔ (q = k ∨ L q))) ∧ CT N l os1 (fun S'' => EL X l.toArray Q (l.drop n) S'') chain m done Si ∧ Real X l n chain a RF os1 S.facts Si (fun j => j = k ∨ L j) (fun j => if j = k then v else vs j) u' := fun v u' objs' r' hmem htail hmok hcell hv hCH => by
    have hobj : (St.put ⟨Si.regs, objs', Si.facts⟩ o.dst r').objs = objs' := by cases o.dst <;> rfl
    have hfac : (St.put ⟨Si.regs, objs', Si.facts⟩ o.dst r').facts = Si.facts := by cases o.dst <;> rfl
    refine ⟨m, k :: done, _, by rw [LX]; omega, Ny.2 ⟨hkd, h2⟩, fun q hq => ?_, fun q hq => ?_, hCH, by rw [hobj, hfac]; exact hmem, by rw [hobj]; exact htail, by rw [hfac]; exact h5.facts, fun t r hr => ?_, fun t r hr hno => ?_⟩
    ·
     rcases KT.1 hq with rfl | hq
     · exact hkc
     · exact h3 q hq
    · rw [KT, h6 q hq]
    ·
     rw [hobj]
     have hcase : (o.dst = some t ∧ r = r') ∨ (o.dst ≠ some t ∧ look Si.regs t = some r) := by
      cases hd : o.dst with
      | none => rw [hd] at hr; exact .inr ⟨(fun e => by cases e), hr⟩
      | some d =>
       rw [hd] at hr
       simp only [St.put, look] at hr
       split at hr
       ·
        rename_i e
        cases hr
        exact .inl ⟨by rw [e], rfl⟩
       ·
        rename_i e
        exact .inr ⟨fun e' => e (by injection e'), hr⟩
     rcases hcase with ⟨hd, rfl⟩ | ⟨hd, hr⟩
     ·
      refine ⟨fun j oj hj hoj hd' _ => ?_, fun hno => absurd hd (hno _ o hk ho)⟩
      rw [if_pos (huniq _ _ _ _ t hj hk hoj ho hd' hd)]
      exact hv
     ·
      obtain ⟨g1, g2⟩ := h5.regs t r hr
      refine ⟨fun j oj hj hoj hd' hLj => ?_, fun hno => (g2 hno).mono hmok hcell⟩
      have hne : j ≠ k := fun e => by
       subst e
       obtain rfl : oj = o := MJ (hoj.symm.trans ho)
       exact hd hd'
      rw [if_neg hne]
      exact (g1 j oj hj hoj hd' (hLj.resolve_left hne)).mono hmok hcell
    ·
     cases hd : o.dst with
     | none => exact h5.free t r hr hno
     | some d =>
      simp only [St.put, look]
      rw [if_neg fun e => hno _ o hkc ho (by rw [hd, e])]
      exact h5.free t r hr hno
   rcases h4 with ⟨inf, hnp', hO, hCH⟩ | ⟨os, rest, Φ, hos, hg, hO, hCH⟩
   ·
    have hgr : ∀ v u', Gr u u' → aN (X.ok Si.objs u') u' inf.reg v → _ := fun v u' hg hv => hnext v u' Si.objs inf.reg (h5.mem.grown hg) h5.tail (fun b hb => qC hg hb) (fun p hp => kX hg p hp) hv hCH
    cases inf with
    | still r =>
     obtain ⟨hg, hSt⟩ := hO
     refine ⟨fun _ => ?_, fun hw => by rw [aC hkn hg] at hw; cases hw⟩
     obtain ⟨v, e1, e2⟩ := hSt _ _ b u hkn
     rw [e1]
     exact hgr v u (Gr.refl u) e2
    | grow r =>
     obtain ⟨hg, hSt⟩ := hO
     refine ⟨fun _ => bW (hSt _ _ b u hkn) (fun v w' hgr' hv => ?_), fun hw => by rw [aC hkn hg] at hw; cases hw⟩
     obtain ⟨r', rfl, hv⟩ := hv
     exact hgr v w' hgr' (hv.mono (fun b hb => lg h5.mem hgr' hb) fun _ _ => rfl)
    | put p q => cases hnp'
    | skip =>
     refine ⟨fun hw => (by rw [aC hkn hO] at hw; cases hw), fun _ => ?_⟩
     exact hgr undef u (Gr.refl u) ⟨[], rfl, rfl⟩
    | new T d =>
     obtain ⟨hg, hSt⟩ := hO
     refine ⟨fun _ => ?_, fun hw => by rw [aC hkn hg] at hw; cases hw⟩
     obtain ⟨cs, e1, e2⟩ := hSt _ _ b u hkn
     rw [e1]
     exact hgr _ _ (cZ u _) trivial
   ·
    obtain ⟨rs, objs, fs⟩ := Si
    dsimp only at hos
    subst hos
    refine ⟨fun _ => ?_, fun hw => by rw [aC hkn hg] at hw; cases hw⟩
    have := hO.go X.mine (X.ok (os ++ (rest ++ os1)) u) b u ⟨fun q hq => hkn.objs q (Lp _ hq), hkn.facts, hkn.lt, hkn.regs⟩ h5.mem.own
    refine jO this fun v u' ⟨r, os', e1, e2, e3⟩ => ?_
    exact hnext v u' (os' ++ (rest ++ os1)) r (h5.mem.turned e2) ⟨os' ++ rest, by rw [Lc]⟩ (fun b hb => gV h5.mem e2 hb) (turned_cell h5.mem e2) (e3.mono (fun b hb => gJ h5.mem e2 hb) fun _ _ => rfl) (hCH r os' e1)
 ·
  intro vs u b ⟨m, done, Si, h1, h2, h3, h6, h4, h5⟩ hs hd hslot
  obtain rfl : m = 0 := by
   have hle := C.nod.length_le_of_subset (fun q hq => (h6 q hq).2 (C.clt q hq) : chain ⊆ done)
   omega
  have h4' : EL X l.toArray Q (l.drop n) Si := h4
  refine h4'.go b u ⟨h5.mem, fun t r hr => ?_, hs.trans ha.size, hd.trans ha.defers⟩
  obtain ⟨g1, g2⟩ := h5.regs t r hr
  rcases hslot t with ⟨j, e1, e2, e3, e4, e5⟩ | ⟨e1, e2⟩
  ·
   rw [e5]
   have hj : j < l.length := by have := C.le; omega
   exact g1 j l[j] e1 (by simp) (by rw [← hdst j l[j] (by simp)]; exact e2) e4
  ·
   rw [e2]
   exact g2 fun j o hj ho e => e1 j hj (by rw [hdst j o ho]; exact e)
end
section
variable {N : Nat} {X : Cx N} {S : St} {ops : Array Oper} {o : Oper} {Q : Exit → Act → World → Prop} {l : List Oper} {TT : St → List Fr → Prop} {EE : List Fr} {rs : List (Tmp × R)} {os : List Obj} {fs : List (Value × D)}
theorem Still.refine {d d' : D} (h : Still ops S o (.val d)) (hR : aj S.facts [d] [d']) : Still ops S o (.val d') := fun base ok a w ha => by
 obtain ⟨v, h1, h2⟩ := h base ok a w ha
 exact ⟨v, h1, Refine1.jA ha.facts hR h2⟩
end
end E
end Go.Proofs.YtkhjanjlcdhdcaaGreat
