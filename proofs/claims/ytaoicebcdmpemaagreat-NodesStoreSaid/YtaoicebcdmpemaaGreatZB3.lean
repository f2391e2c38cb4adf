/-
 Merged: lemmas of this claim.
 Conditions: none.
-/
import Derived.Test.YtaoicebcdmpemaaGreatZB2
import Derived.IntWalk
import Derived.Test.YtaoicebcdmpemaaGreatZB0
namespace Go.Proofs.YtaoicebcdmpemaaGreat
set_option linter.unusedVariables false
open Go.RowKit Mono Rlp
namespace E
inductive Obj where
 | var (g : Nat) (t : TypeId) (d : D)
 | row (v : Value) (e : TypeId) (z : Nat) (ds : List D)
 | map (g n c : Nat) (es : List (Nat × List UInt8 × D))
 | it (g : Nat) (o : Go.Obj)
def Obj.blk : Obj → Option Nat
 | .var g _ _ => some g
 | .row v _ _ _ => v.ownBlock
 | .map g _ _ _ => some g
 | .it g _ => some g
structure GrE (H : Nat → Prop) (w w' : World) : Prop where
 os : w'.os = w.os
 tape : w'.tape = w.tape
 output : w'.output = w.output
 size : w.heap.size ≤ w'.heap.size
 block : ∀ k, k < w.heap.size → ¬ H k → w'.heap[k]? = w.heap[k]?
structure St where
 regs : List (Tmp × R)
 objs : List Obj
 facts : List (Value × D)
def look : List (Tmp × R) → Tmp → Option R
 | [], _ => none
 | (u, r) :: l, t => if u = t then some r else look l t
def St.put (S : St) (d : Option Tmp) (r : R) : St :=
 match d with
 | some d => { S with regs := (d, r) :: S.regs }
 | none => S
structure Cx (N : Nat) where
 w0 : World
 ok0 : Nat → Prop
 own0 : Nat → Prop
 low : ∀ b, ok0 b → b < w0.heap.size
def Cx.mine {N : Nat} (X : Cx N) (b : Nat) : Prop := X.own0 b ∨ X.w0.heap.size ≤ b
def Cx.ok {N : Nat} (X : Cx N) (objs : List Obj) (w : World) (b : Nat) : Prop := (X.ok0 b ∨ X.mine b) ∧ b < w.heap.size ∧ ∀ o ∈ objs, o.blk ≠ some b
inductive dY {α β : Type} (R : α → β → Prop) : List α → List β → Prop
 | nil : dY R [] []
 | cons {a : α} {b : β} {l : List α} {m : List β} (h1 : R a b) (h2 : dY R l m) : dY R (a :: l) (b :: m)
structure jQ (ok : Nat → Prop) (w : World) (n : Nat) (e : MapEntry) (x : Nat × List UInt8 × D) : Prop where
 born : e.born = x.1
 key : e.key = bg x.2.1
 len : x.2.1.length = n
 val : aP ok w x.2.2 e.val
def Row (base : Nat → Prop) (w : World) (e z : Nat) (v : Value) (n : Nat) (cs : List Value) : Prop := w.ownsRow 0 e z v n cs ∧ ∀ b, v.ownBlock = some b → base b
structure lK (c : Nat) (es : List (Nat × List UInt8 × D)) : Prop where
 keys : (es.map (·.2.1)).Nodup
 borns : (es.map (·.1)).Nodup
 lt : ∀ x ∈ es, x.1 < c
def Obj.At (base : Nat → Prop) (ok : Nat → Prop) (w : World) : Obj → Prop
 | .var g t d => base g ∧ ∃ cs, w.heap[g]? = some (.cells cs.toArray t (0, 0)) ∧ Reads ok w d cs
 | .row v e z ds => ∃ rows, Row base w e z v ds.length rows.flatten ∧ ah ok w z ds rows
 | .map g n c es => base g ∧ lK c es ∧ ∃ arr : Array MapEntry, w.heap[g]? = some (.map arr c) ∧ dY (jQ ok w n) arr.toList es
 | .it g o => base g ∧ w.heap[g]? = some o
structure Mem {N : Nat} (X : Cx N) (objs : List Obj) (facts : List (Value × D)) (w : World) : Prop where
 gr : GrE X.own0 X.w0 w
 apart : objs.Pairwise fun o p => ∀ b, o.blk = some b → p.blk ≠ some b
 at_ : ∀ o ∈ objs, o.At X.mine (X.ok objs w) w
 fact : ∀ f ∈ facts, Reads (X.ok objs w) w f.2 [f.1]
structure At {N : Nat} (X : Cx N) (S : St) (a : Act) (w : World) : Prop where
 mem : Mem X S.objs S.facts w
 regs : ∀ t r, look S.regs t = some r → aC (X.ok S.objs w) w r (a.tmps.getD t undef)
 size : a.tmps.size = N
 defers : a.defers = []
structure Kn (base : Nat → Prop) (ok : Nat → Prop) (L : Tmp → Prop) (S : St) (a : Act) (w : World) : Prop where
 objs : ∀ o ∈ S.objs, o.At base ok w
 facts : ∀ f ∈ S.facts, Reads ok w f.2 [f.1]
 lt : ∀ b, ok b → b < w.heap.size
 regs : ∀ t r, L t → look S.regs t = some r → aC ok w r (a.tmps.getD t undef)
theorem At.kn {N : Nat} {X : Cx N} {S : St} {a : Act} {w : World} (h : At X S a w) (L : Tmp → Prop) : Kn X.mine (X.ok S.objs w) L S a w := ⟨h.mem.at_, h.mem.fact, fun b hb => hb.2.1, fun t r _ hr => h.regs t r hr⟩
section
variable {N : Nat} {X : Cx N} {S S' : St} {a : Act} {w w' : World} {objs : List Obj} {facts : List (Value × D)}
theorem GrE.of {H : Nat → Prop} (h : Gr w w') : GrE H w w' := ⟨h.os, h.tape, h.output, h.size, fun k hk _ => h.block k hk⟩
theorem GrE.refl {H : Nat → Prop} (w : World) : GrE H w w := .of (Gr.refl w)
theorem GrE.cell {H : Nat → Prop} (h : GrE H w w') {p : Addr} (hp : p.block < w.heap.size) (hn : ¬ H p.block) : w'.cell? p = w.cell? p := World.cell?_of_block (h.block _ hp hn)
theorem GrE.trans {H : Nat → Prop} {w'' : World} (h : GrE H w w') (k : GrE H w' w'') : GrE H w w'' := ⟨k.os.trans h.os, k.tape.trans h.tape, k.output.trans h.output, La h.size k.size, fun b hb hn => (k.block b (KA hb h.size) hn).trans (h.block b hb hn)⟩
theorem GrE.gr {H : Nat → Prop} (h : GrE H w w') (h0 : ∀ b, ¬ H b) : Gr w w' := ⟨h.os, h.tape, h.output, h.size, fun b hb => h.block b hb (h0 b)⟩
theorem GrE.step {H K : Nat → Prop} {w'' : World} (h : GrE H w w') (k : GrE K w' w'') (hK : ∀ b, K b → H b ∨ w.heap.size ≤ b) : GrE H w w'' := ⟨k.os.trans h.os, k.tape.trans h.tape, k.output.trans h.output, La h.size k.size, fun b hb hn => (k.block b (KA hb h.size) fun hk => by
 rcases hK b hk with h1 | h1
 · exact hn h1
 · omega).trans (h.block b hb hn)⟩
theorem GrE.grown {H : Nat → Prop} {w'' : World} {row : Option Nat} (h : GrE H w w') (k : w'.grownBy w'' row) (hK : ∀ b, row = some b → H b ∨ w.heap.size ≤ b) : GrE H w w'' :=
 h.step (K := fun b => row = some b) ⟨k.os, k.tape, k.output, k.size, fun b hb hn => k.block b hb fun e => hn e.symm⟩ hK
theorem Row.lt {base : Nat → Prop} {e z n : Nat} {v : Value} {cs : List Value} (h : Row base w e z v n cs) {b : Nat} (hb : v.ownBlock = some b) : base b ∧ b < w.heap.size := ⟨h.2 b hb, (h.1.lt b hb).2⟩
theorem Obj.bn {base ok : Nat → Prop} {o : Obj} (h : o.At base ok w) {b : Nat} (hb : o.blk = some b) : base b ∧ b < w.heap.size := by
 cases o with
 | var g t d =>
  obtain ⟨h1, cs, h2, _⟩ := h
  obtain rfl : g = b := by simpa [Obj.blk] using hb
  exact ⟨h1, lt_of_some h2⟩
 | row v e z ds =>
  obtain ⟨rows, h1, _⟩ := h
  exact h1.lt hb
 | map g n c es =>
  obtain ⟨h1, _, arr, h2, _⟩ := h
  obtain rfl : g = b := by simpa [Obj.blk] using hb
  exact ⟨h1, lt_of_some h2⟩
 | it g o =>
  obtain ⟨h1, h2⟩ := h
  obtain rfl : g = b := by simpa [Obj.blk] using hb
  exact ⟨h1, lt_of_some h2⟩
theorem jQ.mono {ok ok' : Nat → Prop} {n : Nat} {e : MapEntry} {x : Nat × List UInt8 × D} (h : jQ ok w n e x) (h1 : ∀ b, ok b → ok' b) (h2 : ∀ p : Addr, ok p.block → w'.cell? p = w.cell? p) : jQ ok' w' n e x := ⟨h.born, h.key, h.len, h.val.mono h1 h2⟩
theorem fP {α β : Type} {R T : α → β → Prop} (h : ∀ a b, R a b → T a b) : ∀ {l : List α} {m : List β}, dY R l m → dY T l m
 | _, _, .nil => .nil
 | _, _, .cons h1 h2 => .cons (h _ _ h1) (fP h h2)
theorem Obj.At.move {base : Nat → Prop} {z z' : Nat → Prop} {u u' : World} {o : Obj} (h : o.At base z u) (hz : ∀ b, z b → z' b) (hc : ∀ p : Addr, z p.block → u'.cell? p = u.cell? p) (hb : ∀ g, o.blk = some g → u'.heap[g]? = u.heap[g]?) : o.At base z' u' := by
 cases o with
 | var g t d =>
  obtain ⟨h1, cs, h2, h3⟩ := h
  exact ⟨h1, cs, (hb g rfl).trans h2, Reads.mono hz hc _ _ h3⟩
 | row v e s ds =>
  obtain ⟨rows, ⟨h1, hm⟩, h2⟩ := h
  refine ⟨rows, ⟨⟨h1.1, ?_⟩, hm⟩, ah.mono hz hc s ds rows h2⟩
  rcases h1.2 with h1 | ⟨g, cap, cur, k1, k2, k3, k4⟩
  · exact .inl h1
  · exact .inr ⟨g, cap, cur, k1, k2, by rw [hb g (by rw [k1]; rfl)]; exact k3, k4⟩
 | map g n c es =>
  obtain ⟨h1, h0, arr, h2, h3⟩ := h
  exact ⟨h1, h0, arr, (hb g rfl).trans h2, fP (fun e x h => h.mono hz hc) h3⟩
 | it g o => exact ⟨h.1, (hb g rfl).trans h.2⟩
theorem Obj.At.iD {base base' : Nat → Prop} {ok : Nat → Prop} {o : Obj} (h : o.At base ok w) (hb : ∀ b, o.blk = some b → base' b) : o.At base' ok w := by
 cases o with
 | var g t d => exact ⟨hb g rfl, h.2⟩
 | row v e s ds =>
  obtain ⟨rows, ⟨h1, hm⟩, h2⟩ := h
  exact ⟨rows, ⟨h1, hb⟩, h2⟩
 | map g n c es => exact ⟨hb g rfl, h.2⟩
 | it g o => exact ⟨hb g rfl, h.2⟩
theorem um (hg : Gr w w') {b : Nat} (h : X.ok objs w b) : X.ok objs w' b := ⟨h.1, KA h.2.1 hg.size, h.2.2⟩
theorem mQ (hg : Gr w w') (p : Addr) (h : X.ok objs w p.block) : w'.cell? p = w.cell? p := hg.cell h.2.1
theorem AU (hg : Gr w w') {d : D} {cs : List Value} (h : Reads (X.ok objs w) w d cs) : Reads (X.ok objs w') w' d cs := Reads.mono (fun _ => um hg) (mQ hg) d cs h
theorem nO (hg : Gr w w') {r : R} {x : Value} (h : aC (X.ok objs w) w r x) : aC (X.ok objs w') w' r x := aC.mono (fun _ => um hg) (mQ hg) h
theorem Obj.At.gr {base : Nat → Prop} {o : Obj} (h : o.At base (X.ok objs w) w) (hg : Gr w w') : o.At base (X.ok objs w') w' :=
 h.move (fun _ => um hg) (mQ hg) fun g hb => hg.block g (Obj.bn h hb).2
theorem Mem.grown (h : Mem X objs facts w) (hg : Gr w w') : Mem X objs facts w' := ⟨h.gr.trans (.of hg), h.apart, fun o ho => (h.at_ o ho).gr hg, fun f hf => AU hg (h.fact f hf)⟩
def more (ok : Nat → Prop) (w w' : World) (b : Nat) : Prop := (ok b ∨ w.heap.size ≤ b) ∧ b < w'.heap.size
theorem mV (h : Mem X objs facts w) (hg : Gr w w') {b : Nat} (hb : more (X.ok objs w) w w' b) : X.ok objs w' b := by
 have h0 := h.gr.size
 rcases hb.1 with h1 | h1
 · exact um hg h1
 ·
  refine ⟨.inr (.inr (La h0 h1)), hb.2, fun p hp e => ?_⟩
  have := (Obj.bn (h.at_ p hp) e).2
  omega
theorem At.gr (h : At X S a w) (hg : Gr w w') : At X S a w' := ⟨h.mem.grown hg, fun t r hr => nO hg (h.regs t r hr), h.size, h.defers⟩
theorem At.put (h : At X S a w) {d : Option Tmp} {r : R} {x : Value} (hd : ∀ t, d = some t → t < N) (hx : aC (X.ok S.objs w) w r x) : At X (S.put d r) (a.put d x) w := by
 cases d with
 | none => exact h
 | some d =>
  refine ⟨h.mem, fun t r' hr => ?_, by rw [bH]; exact h.size, by rw [put_defers]; exact h.defers⟩
  simp only [St.put, look] at hr
  split at hr
  ·
   rename_i e
   subst e
   cases hr
   rw [jf _ (by rw [h.size]; exact hd _ rfl)]
   exact hx
  ·
   rename_i e
   rw [dI _ (by simpa using e)]
   exact h.regs t r' hr
theorem At.drop (h : At X S a w) {d : Option Tmp} {x : Value} : At X (S.put d .any) (a.put d x) w := by
 cases d with
 | none => exact h
 | some d =>
  refine ⟨h.mem, fun t r' hr => ?_, by rw [bH]; exact h.size, by rw [put_defers]; exact h.defers⟩
  simp only [St.put, look] at hr
  split at hr
  ·
   cases hr
   trivial
  ·
   rename_i e
   rw [dI _ (by simpa using e)]
   exact h.regs t r' hr
def Le {N : Nat} (X : Cx N) (S S' : St) : Prop := ∀ a w, At X S a w → At X S' a w
def Sub (l : List (Tmp × R)) : List (Tmp × R) → Prop
 | [] => True
 | (t, r) :: m => look l t = some r ∧ Sub l m
theorem Sub.get {l : List (Tmp × R)} : ∀ (m : List (Tmp × R)), Sub l m → ∀ t r, look m t = some r → look l t = some r
 | [], _, t, r, h => by simp [look] at h
 | (u, r') :: m, hs, t, r, h => by
  rw [look] at h
  split at h
  ·
   rename_i e
   cases h
   subst e
   exact hs.1
  · exact Sub.get m hs.2 t r h
theorem Le.refl {N : Nat} (X : Cx N) (S : St) : Le X S S := fun _ _ h => h
theorem Le.trans {S'' : St} (h : Le X S S') (h' : Le X S' S'') : Le X S S'' := fun a w k => h' a w (h a w k)
theorem Mem.less {objs' : List Obj} {facts' : List (Value × D)} (h : Mem X objs facts w) (ho : objs'.Sublist objs) (hf : ∀ f ∈ facts', f ∈ facts) : Mem X objs' facts' w := by
 have hok : ∀ b, X.ok objs w b → X.ok objs' w b := fun b hb => ⟨hb.1, hb.2.1, fun o hm => hb.2.2 o (ho.subset hm)⟩
 exact ⟨h.gr, h.apart.sublist ho, fun o hm => (h.at_ o (ho.subset hm)).move hok (fun _ _ => rfl) fun _ _ => rfl, fun f hm => Reads.mono hok (fun _ _ => rfl) _ _ (h.fact f (hf f hm))⟩
theorem Le.less (ho : S'.objs.Sublist S.objs) (hf : ∀ f ∈ S'.facts, f ∈ S.facts) (hr : Sub S.regs S'.regs) : Le X S S' := fun a w h =>
 ⟨h.mem.less ho hf, fun t r ht => aC.mono (fun b hb => ⟨hb.1, hb.2.1, fun o hm => hb.2.2 o (ho.subset hm)⟩) (fun _ _ => rfl) (h.regs t r (Sub.get _ hr t r ht)), h.size, h.defers⟩
theorem Le.freeze {v : Value} {e : TypeId} {z : Nat} {ds : List D} {pre post : List Obj} (ho : S.objs = pre ++ .row v e z ds :: post) : Le X S ⟨S.regs, pre ++ post, (v, .sl z ds) :: S.facts⟩ := by
 intro a w h
 have hm := h.mem
 rw [ho] at hm
 have hsub : (pre ++ post).Sublist S.objs := by rw [ho]; exact List.Sublist.append (Lc _) (MH _ _)
 have hl : At X ⟨S.regs, pre ++ post, S.facts⟩ a w := ⟨h.mem.less hsub (fun _ hf => hf), fun t r ht => aC.mono (fun b hb => ⟨hb.1, hb.2.1, fun o hm => hb.2.2 o (hsub.subset hm)⟩) (fun _ _ => rfl) (h.regs t r ht), h.size, h.defers⟩
 refine ⟨⟨hl.mem.gr, hl.mem.apart, hl.mem.at_, fun f hf => ?_⟩, hl.regs, hl.size, hl.defers⟩
 rcases Kz.1 hf with rfl | hf
 ·
  obtain ⟨rows, h1, h2⟩ := hm.at_ (.row v e z ds) (by simp)
  obtain ⟨h1, hmine⟩ := h1
  obtain ⟨A, c, rfl, hc1, hc2⟩ := eF h1
  show Reads _ _ (D.sl z ds) [.slice A ds.length c]
  rw [Reads]
  refine ⟨A, c, rows, rfl, hc1, hc2, fun e => by subst e; exact Bc h1, ?_, ah.mono (fun b hb => ⟨hb.1, hb.2.1, fun o hm => hb.2.2 o (by
   rcases Lh.1 hm with hm | hm
   · simp [hm]
   · simp [hm])⟩) (fun _ _ => rfl) z ds rows h2⟩
  intro hn
  obtain ⟨b, o, rfl, hb, hc⟩ := D9 h1 hn
  refine ⟨b, o, rfl, ⟨.inr (hmine b rfl), hb.2, fun p hp => ?_⟩, hc⟩
  have hap := hm.apart
  rcases Lh.1 hp with hp | hp
  · exact fun e => (Lj.1 hap).2.2 p hp _ (Kt) b e rfl
  · exact (KR.1 (Lj.1 hap).2.1).1 p hp b rfl
 · exact hl.mem.fact f hf
mutual
def Refine (F : List (Value × D)) : D → D → Prop
 | .v x, d' => d' = .v x ∨ ((x, d') ∈ F ∧ d'.agg = false) ∨ (x = .slice none 0 0 ∧ (d' = .bs [] ∨ ∃ z, d' = .sl z []))
 | .tup ds, d' => ∃ ds', d' = .tup ds' ∧ aj F ds ds'
 | .arr n l, d' => d' = .arr n l
 | .bs l, d' => d' = .bs l
 | .sl z ds, d' => d' = .sl z ds
 | .pd d, d' => d' = .pd d
 | .ifc t d, d' => d' = .ifc t d
def aj (F : List (Value × D)) : List D → List D → Prop
 | [], l => l = []
 | d :: ds, l => ∃ d' ds', l = d' :: ds' ∧ Refine F d d' ∧ aj F ds ds'
end
mutual
theorem Refine.reads {ok : Nat → Prop} {F : List (Value × D)} (hF : ∀ f ∈ F, Reads ok w f.2 [f.1]) : ∀ (d d' : D) (cs : List Value), Refine F d d' → Reads ok w d cs → Reads ok w d' cs ∧ d'.agg = d.agg
 | .v x, d', cs, h, hr => by
  rw [Refine] at h
  rcases h with rfl | ⟨h, h2⟩ | ⟨rfl, rfl | ⟨z, rfl⟩⟩
  · exact ⟨hr, rfl⟩
  ·
   rw [Reads] at hr
   rw [hr.2]
   exact ⟨hF _ h, h2⟩
  ·
   rw [Reads] at hr
   refine ⟨?_, rfl⟩
   rw [Reads]
   exact ⟨_, hr.2, none, 0, rfl, Nat.le_refl _, by simp [maxLen], fun hn => absurd rfl hn⟩
  ·
   rw [Reads] at hr
   refine ⟨?_, rfl⟩
   rw [Reads]
   exact ⟨none, 0, [], hr.2, Nat.le_refl _, by simp [maxLen], fun _ => ⟨rfl, rfl⟩, fun hn => absurd rfl hn, by rw [ah]⟩
 | .tup ds, d', cs, h, hr => by
  rw [Refine] at h
  obtain ⟨ds', rfl, h⟩ := h
  rw [Reads] at hr ⊢
  exact ⟨aj.reads hF ds ds' cs h hr, rfl⟩
 | .arr n l, d', cs, h, hr => by rw [Refine] at h; subst h; exact ⟨hr, rfl⟩
 | .bs l, d', cs, h, hr => by rw [Refine] at h; subst h; exact ⟨hr, rfl⟩
 | .sl z ds, d', cs, h, hr => by rw [Refine] at h; subst h; exact ⟨hr, rfl⟩
 | .pd d, d', cs, h, hr => by rw [Refine] at h; subst h; exact ⟨hr, rfl⟩
 | .ifc t d, d', cs, h, hr => by rw [Refine] at h; subst h; exact ⟨hr, rfl⟩
theorem aj.reads {ok : Nat → Prop} {F : List (Value × D)} (hF : ∀ f ∈ F, Reads ok w f.2 [f.1]) : ∀ (ds l : List D) (cs : List Value), aj F ds l → aK ok w ds cs → aK ok w l cs
 | [], l, cs, h, hr => by rw [aj] at h; subst h; exact hr
 | d :: ds, l, cs, h, hr => by
  rw [aj] at h
  obtain ⟨d', ds', rfl, h1, h2⟩ := h
  rw [aK] at hr ⊢
  obtain ⟨c1, c2, rfl, h3, h4⟩ := hr
  exact ⟨c1, c2, rfl, (Refine.reads hF d d' c1 h1 h3).1, aj.reads hF ds ds' c2 h2 h4⟩
end
theorem Refine.gJ {ok : Nat → Prop} {F : List (Value × D)} (hF : ∀ f ∈ F, Reads ok w f.2 [f.1]) {d d' : D} {x : Value} (h : Refine F d d') (hr : aP ok w d x) : aP ok w d' x := by
 obtain ⟨cs, h1, rfl⟩ := hr
 obtain ⟨h2, h3⟩ := Refine.reads hF d d' cs h h1
 exact ⟨cs, h2, by unfold form; rw [h3]⟩
theorem Le.refine {t : Tmp} {d d' : D} (hl : look S.regs t = some (.val d)) (hr : Refine S.facts d d') : Le X S ⟨(t, .val d') :: S.regs, S.objs, S.facts⟩ := fun a w h => by
 refine ⟨h.mem, fun u r hu => ?_, h.size, h.defers⟩
 rw [look] at hu
 split at hu
 ·
  rename_i e
  cases hu
  subst e
  exact hr.gJ h.mem.fact (h.regs _ _ hl)
 · exact h.regs u r hu
structure EL {N : Nat} (X : Cx N) (ops : Array Oper) (Q : Exit → Act → World → Prop) (l : List Oper) (S : St) : Prop where
 go : ∀ a w, At X S a w → wpList Tryz.prog ops Q l a w
structure EC {N : Nat} (X : Cx N) (Q : Exit → Act → World → Prop) (c : Code) (S : St) : Prop where
 go : ∀ a w, At X S a w → c.wp Tryz.prog Q a w
structure EK {N : Nat} (X : Cx N) (K : Act → World → Prop) (S : St) : Prop where
 go : ∀ a w, At X S a w → K a w
variable {Q : Exit → Act → World → Prop} {K : Act → World → Prop} {c y : Code} {ops : Array Oper} {l : List Oper}
theorem EL.le (h : Le X S S') (k : EL X ops Q l S') : EL X ops Q l S := ⟨fun a w ha => k.go a w (h a w ha)⟩
theorem EC.le (h : Le X S S') (k : EC X Q c S') : EC X Q c S := ⟨fun a w ha => k.go a w (h a w ha)⟩
theorem EK.le (h : Le X S S') (k : EK X K S') : EK X K S := ⟨fun a w ha => k.go a w (h a w ha)⟩
theorem EL.nil (h : EK X (Q .normal) S) : EL X ops Q [] S := ⟨fun a w ha => wpList_nil (h.go a w ha)⟩
theorem EC.r0 {id : Nat} (h : EL X l.toArray Q l S) : EC X Q (.region id l.toArray false) S := ⟨fun a w ha => wp_region_lit (h.go a w ha)⟩
theorem EC.k0 (h : EK X (Q .normal) S) : EC X Q .skip S := ⟨fun a w ha => wp_skip (h.go a w ha)⟩
theorem EC.label {n : Nat} (h : EK X (Q .normal) S) : EC X Q (.label n) S := ⟨fun a w ha => wp_label (h.go a w ha)⟩
theorem EC.seq (h : EC X (Exit.then (y.wp Tryz.prog Q) Q) c S) : EC X Q (.seq c y) S := ⟨fun a w ha => wp_seq (h.go a w ha)⟩
theorem EC.cut {ι : Type} (J : ι → St) (h : EC X (Exit.then (fun a w => ∃ i, At X (J i) a w) Q) c S) (k : ∀ i, EC X Q y (J i)) : EC X Q (.seq c y) S := ⟨fun a w ha =>
 wp_seq (wp_mono (h.go a w ha) fun e a w hq => by
  cases e with
  | normal =>
   obtain ⟨i, hi⟩ := hq
   exact (k i).go a w hi
  | _ => exact hq)⟩
theorem EK.meet {ι : Type} {J : ι → St} (i : ι) (h : Le X S (J i)) : EK X (fun a w => ∃ i, At X (J i) a w) S := ⟨fun a w ha => ⟨i, h a w ha⟩⟩
theorem EC.cond {t : Tmp} {b : Bool} {x : Code} (hl : look S.regs t = some (.val (.v (.bool b)))) (ht : b = true → EC X Q x S) (hf : b = false → EC X Q y S) : EC X Q (.cond (.tmp t) x y) S := ⟨fun a w ha => by
 have hv := (ay.1 (ha.regs t _ hl)).2
 exact wp_cond_split (t := b) hv (fun e => (ht e).go a w ha) (fun e => (hf e).go a w ha)⟩
theorem EC.t0 {t : Tmp} {x : Code} (hl : look S.regs t = some (.val (.v (.bool true)))) (h : EC X Q x S) : EC X Q (.cond (.tmp t) x y) S := EC.cond hl (fun _ => h) (fun e => by cases e)
theorem EC.f0 {t : Tmp} {x : Code} (hl : look S.regs t = some (.val (.v (.bool false)))) (h : EC X Q y S) : EC X Q (.cond (.tmp t) x y) S := EC.cond hl (fun e => by cases e) (fun _ => h)
theorem EC.b0 {id : Nat} (h : EC X (Exit.inBlock id Q) c S) : EC X Q (.block id c) S := ⟨fun a w ha => wp_block (h.go a w ha)⟩
theorem EC.x0 {id : Nat} (h : EK X (Q (.exit id)) S) : EC X Q (.exit id) S := ⟨fun a w ha => wp_exit (h.go a w ha)⟩
theorem EC.ret (h : EK X (Q .ret) S) : EC X Q .ret S := ⟨fun a w ha => wp_ret (h.go a w ha)⟩
def Again {N : Nat} (X : Cx N) {ι : Type} (I : ι → St) (μ : ι → Nat) (i : ι) : Act → World → Prop := fun a w => ∃ i', μ i' < μ i ∧ At X (I i') a w
theorem EC.loop {ι : Type} (I : ι → St) (μ : ι → Nat) (i0 : ι) (h0 : Le X S (I i0)) (hr : ∀ i, EC X (Exit.then (Again X I μ i) Q) c (I i)) : EC X Q (.loop c) S := ⟨fun a w ha =>
 wp_loop_ghost (fun n a w => ∃ i, μ i = n ∧ At X (I i) a w) (μ i0) ⟨i0, rfl, h0 a w ha⟩ fun n a w ⟨i, hn, hi⟩ => by
  subst hn
  refine wp_mono ((hr i).go a w hi) fun e a w hq => ?_
  cases e with
  | normal =>
   obtain ⟨i', h1, h2⟩ := hq
   exact ⟨μ i', h1, i', rfl, h2⟩
  | _ => exact hq⟩
theorem EK.again {ι : Type} {I : ι → St} {μ : ι → Nat} {i : ι} (i' : ι) (hm : μ i' < μ i) (h : Le X S (I i')) : EK X (Again X I μ i) S := ⟨fun a w ha => ⟨i', hm, h a w ha⟩⟩
theorem EK.code (h : EC X Q c S) : EK X (c.wp Tryz.prog Q) S := ⟨h.go⟩
theorem EK.h0 (h : EK X K S) : EK X (Exit.then K Q .normal) S := h
theorem EK.yT {id : Nat} (h : EK X (Q (.exit id)) S) : EK X (Exit.then K Q (.exit id)) S := h
theorem EK.Ar (h : EK X (Q .ret) S) : EK X (Exit.then K Q .ret) S := h
theorem EK.n0 {id : Nat} (h : EK X (Q .normal) S) : EK X (Exit.inBlock id Q .normal) S := h
theorem EK.Hz {id : Nat} (h : EK X (Q .ret) S) : EK X (Exit.inBlock id Q .ret) S := h
theorem EK.s0 {id : Nat} (h : EK X (Q .normal) S) : EK X (Exit.inBlock id Q (.exit id)) S := ⟨fun a w ha => by
 simp only [Exit.inBlock, if_true]
 exact h.go a w ha⟩
theorem EK.BF {id id' : Nat} (hne : (id' == id) = false) (h : EK X (Q (.exit id')) S) : EK X (Exit.inBlock id Q (.exit id')) S := ⟨fun a w ha => by
 simp only [Exit.inBlock]
 rw [if_neg (by simpa using hne)]
 exact h.go a w ha⟩
end
def ev (S : St) : Operand → Option R
 | .tmp t => look S.regs t
 | .const v => if v.oneCell' then some (.val (.v v)) else some .any
 | .func f => some (.val (.v (.func (.func f) #[] #[])))
 | .global g => some (.val (.v (.pointer (some ⟨g, 0, none⟩))))
def evs (S : St) : List Operand → Option (List D)
 | [] => some []
 | x :: xs => match ev S x, evs S xs with
  | some (.val d), some ds => some (d :: ds)
  | _, _ => none
def guardOf (ops : Array Oper) (S : St) (o : Oper) : Option Bool :=
 match o.guard with
 | none => some true
 | some (j, want) => match (ops[j]?).bind (·.dst) with
  | some d => match look S.regs d with
   | some (.val (.v (.bool b))) => some (b == want)
   | some (.tpl []) => some false
   | _ => none
  | none => none
section
variable {N : Nat} {X : Cx N} {S S' : St} {a : Act} {w w' : World} {ops : Array Oper} {o : Oper} {Q : Exit → Act → World → Prop} {l : List Oper} {L : Tmp → Prop} {base : Nat → Prop} {ok : Nat → Prop}
theorem Kn.ev (h : Kn base ok L S a w) {x : Operand} {r : R} (hx : E.ev S x = some r) (hL : ∀ t, x = .tmp t → L t) : aC ok w r (a.eval x) := by
 cases x with
 | tmp t => exact h.regs t r (hL t rfl) hx
 | const v =>
  simp only [E.ev] at hx
  split at hx
  ·
   rename_i h1
   cases hx
   exact ay.2 ⟨h1, rfl⟩
  ·
   cases hx
   trivial
 | func f =>
  cases hx
  exact ay.2 ⟨rfl, rfl⟩
 | global g =>
  cases hx
  exact ay.2 ⟨rfl, rfl⟩
theorem Kn.evs (h : Kn base ok L S a w) : ∀ (xs : List Operand) (ds : List D), E.evs S xs = some ds → (∀ t, .tmp t ∈ xs → L t) → bC ok w ds (xs.map a.eval)
 | [], ds, hx, _ => by cases hx; rfl
 | x :: xs, ds, hx, hL => by
  rw [E.evs] at hx
  cases h1 : E.ev S x with
  | none => rw [h1] at hx; cases hx
  | some r =>
   cases h2 : E.evs S xs with
   | none => rw [h1, h2] at hx; cases r <;> cases hx
   | some es =>
    rw [h1, h2] at hx
    cases r with
    | val d =>
     cases hx
     exact ⟨_, _, rfl, h.ev h1 (fun t e => hL t (by simp [e])), Kn.evs h xs es h2 fun t ht => hL t (by simp [ht])⟩
    | _ => cases hx
theorem ak {x : Operand} {t : Tmp} (hx : x = .tmp t) (h : x ∈ o.op.operands.toList) : t ∈ o.looksAt ops := by
 subst hx
 unfold Oper.looksAt
 exact KO _ (List.mem_filterMap.2 ⟨_, h, rfl⟩)
theorem aU (h : Kn base ok (fun t => t ∈ o.looksAt ops) S a w) {b : Bool} (hg : guardOf ops S o = some b) : Region.wanted o (yielded ops a.tmps) = b := by
 unfold guardOf at hg
 unfold Region.wanted
 split at hg
 ·
  rename_i e
  cases hg
  rw [e]
 ·
  rename_i j want e
  rw [e]
  dsimp only
  split at hg
  ·
   rename_i d hd
   split at hg
   ·
    rename_i b' hl
    cases hg
    have hv := (ay.1 (h.regs d _ (by
     unfold Oper.looksAt
     refine KL _ ?_
     rw [e]
     simp [hd]) hl)).2
    unfold yielded
    rw [hd]
    have hlt : d < a.tmps.size := by
     rcases KP d a.tmps.size with h1 | h1
     · exact h1
     ·
      simp [Array.getElem?_eq_none h1] at hv
      cases hv
    simp [hlt] at hv
    simp [hlt, hv]
   ·
    rename_i hl
    cases hg
    obtain ⟨vs, hv, hvs⟩ := h.regs d _ (by
     unfold Oper.looksAt
     refine KL _ ?_
     rw [e]
     simp [hd]) hl
    obtain rfl : vs = [] := hvs
    unfold yielded
    rw [hd]
    rcases KP d a.tmps.size with h1 | h1
    ·
     simp [h1] at hv
     simp [h1, hv]
    · simp [Array.getElem?_eq_none h1]
   · cases hg
  · cases hg
theorem bK (h : At X S a w) {b : Bool} (hg : guardOf ops S o = some b) : Region.wanted o (yielded ops a.tmps) = b := aU (h.kn _) hg
def Still (ops : Array Oper) (S : St) (o : Oper) (r : R) : Prop :=
 ∀ base ok a w, Kn base ok (fun t => t ∈ o.looksAt ops) S a w → ∃ v, (execOp a.eval o).run Tryz.prog w = .ok (.value v) w ∧ aC ok w r v
def ig (ops : Array Oper) (S : St) (o : Oper) (Φ : R → Prop) : Prop :=
 ∀ base ok a w, Kn base ok (fun t => t ∈ o.looksAt ops) S a w → bJ Tryz.prog (fun v w' => ∃ r, Φ r ∧ aC (more ok w w') w' r v) w ((execOp a.eval o).run Tryz.prog w)
theorem EL.growE {Φ : R → Prop} (hg : guardOf ops S o = some true) (hd : ∀ t, o.dst = some t → t < N) (hO : ig ops S o Φ) (k : ∀ r, Φ r → EL X ops Q l (S.put o.dst r)) : EL X ops Q (o :: l) S := by
 constructor
 intro a w ha
 have h1 := hO _ _ a w (ha.kn _)
 unfold wpList
 rw [if_pos (bK ha hg)]
 refine .inl ?_
 unfold Oper.wp
 generalize (execOp a.eval o).run Tryz.prog w = res at *
 have hnext : ∀ v w', Gr w w' → (∃ r, Φ r ∧ aC (more (X.ok S.objs w) w w') w' r v) → wpList Tryz.prog ops Q l (a.put o.dst v) w' := fun v w' hgr ⟨r, hr, hv⟩ => (k r hr).go _ _ ((ha.gr hgr).put hd (hv.mono (fun b hb => mV ha.mem hgr hb) fun _ _ => rfl))
 cases res with
 | ok x w' =>
  cases x <;> simp only [bJ] at h1 <;> simp only [Oper.upon]
  case value v => exact hnext _ _ h1.1 h1.2
  case skip => exact hnext _ _ h1.1 h1.2
  case enter g args =>
   obtain ⟨hgr, hc⟩ := h1
   refine hc.mono fun e w'' ⟨v, he, hg', hv⟩ => ?_
   subst he
   exact hnext _ _ (hgr.trans hg') hv
 | halt x w' => simp only [bJ] at h1
theorem EL.grow {r : R} (hg : guardOf ops S o = some true) (hd : ∀ t, o.dst = some t → t < N) (hO : ig ops S o (· = r)) (k : EL X ops Q l (S.put o.dst r)) : EL X ops Q (o :: l) S :=
 EL.growE hg hd hO fun _ e => e ▸ k
theorem EL.still {r : R} (hg : guardOf ops S o = some true) (hd : ∀ t, o.dst = some t → t < N) (hO : Still ops S o r) (k : EL X ops Q l (S.put o.dst r)) : EL X ops Q (o :: l) S := by
 constructor
 intro a w ha
 obtain ⟨v, h1, h2⟩ := hO _ _ a w (ha.kn _)
 unfold wpList
 rw [if_pos (bK ha hg)]
 refine .inl ?_
 unfold Oper.wp
 rw [h1]
 exact k.go _ _ (ha.put hd h2)
theorem EL.skip (hg : guardOf ops S o = some false) (hd : ∀ t, o.dst = some t → t < N) (k : EL X ops Q l (S.put o.dst (.tpl []))) : EL X ops Q (o :: l) S := by
 constructor
 intro a w ha
 unfold wpList
 rw [if_neg (by rw [bK ha hg]; decide)]
 exact k.go _ _ (ha.put hd ⟨[], rfl, rfl⟩)
theorem EL.split (b : Bool) (k1 : b = true → EL X ops Q l S) (k2 : b = false → EL X ops Q l S) : EL X ops Q l S := by
 cases b
 · exact k2 rfl
 · exact k1 rfl
theorem BL {x : Operand} {r : R} (ho : o.op = .move x) (hx : ev S x = some r) : Still ops S o (r) := fun base ok a w ha => by
 refine ⟨a.eval x, ?_, ha.ev hx fun t e => ak e (by rw [ho]; simp [Op.operands])⟩
 unfold execOp
 simp only [ho, Ku]
theorem uP {x : Operand} {r : R} (ho : o.op = .assign x) (hx : ev S x = some r) : Still ops S o (r) := fun base ok a w ha => by
 refine ⟨a.eval x, ?_, ha.ev hx fun t e => ak e (by rw [ho]; simp [Op.operands])⟩
 unfold execOp
 simp only [ho, Ku]
theorem nM {ok : Nat → Prop} : ∀ (ds : List D) (xs : List Value) (i : Nat) (d : D), bC ok w ds xs → ds[i]? = some d → ∃ x, xs[i]? = some x ∧ aP ok w d x
 | [], xs, i, d, _, h => by simp at h
 | e :: ds, xs, i, d, h, hi => by
  obtain ⟨x, rest, rfl, h1, h2⟩ := h
  cases i with
  | zero => cases hi; exact ⟨x, rfl, h1⟩
  | succ i => exact nM ds rest i d h2 (by simpa using hi)
theorem qH {x : Operand} {i : Nat} {ds : List D} {d : D} (ho : o.op = .extract x i) (hx : ev S x = some (.tpl ds)) (hd : ds[i]? = some d) : Still ops S o (.val d) := fun base ok a w ha => by
 obtain ⟨vs, h1, h2⟩ := ha.ev hx fun t e => ak e (by rw [ho]; simp [Op.operands])
 obtain ⟨y, h3, h4⟩ := nM ds vs i d h2 hd
 refine ⟨y, ?_, h4⟩
 unfold execOp
 simp only [ho, h1, Instr.extract, Kq]
 simp [h3]
theorem BK {c x y : Operand} {b : Bool} {r : R} (ho : o.op = .pick c x y) (hc : ev S c = some (.val (.v (.bool b)))) (hx : ev S (if b then x else y) = some r) : Still ops S o (r) := fun base ok a w ha => by
 have h1 := (ay.1 (ha.ev hc fun t e => ak e (by rw [ho]; simp [Op.operands]))).2
 refine ⟨a.eval (if b then x else y), ?_, ha.ev hx fun t e => ak e (by rw [ho]; cases b <;> simp [Op.operands])⟩
 unfold execOp
 simp only [ho, h1, asBool, Kq, Ku, J6]
 cases b <;> simp
structure Fld (P : Program) (T k off sz : Nat) (ag : Bool) : Prop where
 get : ∃ fs f d, P.underlying T = some (.struct fs) ∧ fs[k]? = some f ∧ f.offset = off ∧ (P.info? f.type).map (·.size) = some sz ∧ P.underlying f.type = some d ∧ d.isRow = ag
 pos : 0 < sz
structure Ty (P : Program) (T sz : Nat) (ag : Bool) : Prop where
 get : ∃ d, P.underlying T = some d ∧ d.isRow = ag ∧ (P.info? T).map (·.size) = some sz
def tyB (P : Program) (T : Nat) : Option (Nat × Bool) :=
 match P.info? T, P.underlying T with
 | some i, some d => some (i.size, d.isRow)
 | _, _ => none
theorem IZ {P : Program} {T sz : Nat} {ag : Bool} (h : tyB P T = some (sz, ag)) : Ty P T sz ag := by
 unfold tyB at h
 split at h
 ·
  rename_i i d hi hd
  simp only [MB, Prod.mk.injEq] at h
  exact ⟨d, hd, h.2, by rw [hi]; simp [h.1]⟩
 · cases h
theorem iZ {P : Program} {T k off sz : Nat} {ag : Bool} (F : Fld P T k off sz ag) (b n : Nat) : (Instr.fieldAt T (.pointer (some ⟨b, n, none⟩)) k).run P w = .ok (.pointer (some ⟨b, n + off, none⟩)) w := by
 obtain ⟨⟨fs, f, d, h1, h2, h3, h4, h5, h6⟩, h7⟩ := F
 cases hi : P.info? f.type with
 | none => rw [hi] at h4; cases h4
 | some i =>
  rw [hi] at h4
  have hs : i.size = sz := by simpa using h4
  have hne : ¬ i.size = 0 := by omega
  simp [Instr.fieldAt, run_underlying h1, h2, Instr.sureAddr, fieldPlace, sizeOf, typeInfo, hi, hne, h3, bM]
theorem fD {P : Program} {T : TypeId} {d : D} {ok : Nat → Prop} {cs : List Value} {b n : Nat} (hT : Ty P T d.size d.agg) (hr : Reads ok w d cs) (hc : w.rangeAt b n cs) : (Instr.loadAt T (.pointer (some ⟨b, n, none⟩))).run P w = .ok (form d cs) w := by
 obtain ⟨de, h1, h2, h3⟩ := hT
 have hl := Reads.len d cs hr
 unfold form
 cases hd : d.agg with
 | true =>
  rw [hd] at h2
  exact run_loadAt_mid w b n T cs de hc h1 h2 (by rw [h3, hl])
 | false =>
  rw [hd] at h2
  have h1' : cs.length = 1 := by
   rw [hl]
   cases d <;> simp [D.agg] at hd <;> rfl
  obtain ⟨c, rfl⟩ := List.length_eq_one_iff.1 h1'
  have hcell := hc 0 c rfl
  rw [Nat.add_zero] at hcell
  have hagg : (isAgg T).run P w = .ok false w := by
   unfold isAgg
   rw [Kq, run_underlying h1 w]
   cases de <;> simp_all
  simp [Instr.loadAt, Instr.sureAddr, loadVar, Sem.run_bind, hagg, hcell]
theorem fF {b n : Nat} {pre mid post : List Value} (h : w.rangeAt b n (pre ++ mid ++ post)) : w.rangeAt b (n + pre.length) mid := fun j v hv => by
 rw [Nc]
 refine h (pre.length + j) v ?_
 rw [KY, Lr (by omega), Nat.add_sub_cancel_left, LC ((Kw.1 hv).1)]
 exact hv
theorem dA {g : Nat} {cs : List Value} {t : TypeId} (h : w.heap[g]? = some (.cells cs.toArray t (0, 0))) : w.rangeAt g 0 cs := fun j v hv => by
 rw [KJ, cell_of_row w g j _ t (0, 0) h]
 simpa using hv
theorem Ez {x : Operand} {T k off sz g n : Nat} {ag : Bool} (ho : o.op = .fieldAddr T x k) (hx : ev S x = some (.val (.v (.pointer (some ⟨g, n, none⟩))))) (F : Fld Tryz.prog T k off sz ag) : Still ops S o (.val (.v (.pointer (some ⟨g, n + off, none⟩)))) := fun base ok a w ha => by
 have h1 := (ay.1 (ha.ev hx fun t e => ak e (by rw [ho]; simp [Op.operands]))).2
 refine ⟨_, ?_, ay.2 ⟨rfl, rfl⟩⟩
 unfold execOp
 simp only [ho, h1, Kq, iZ F, J6, Ku]
theorem xE {x : Operand} {T k off sz : Nat} {ag : Bool} {d d' : D} (ho : o.op = .fieldAddr T x k) (hx : ev S x = some (.val (.pd d))) (F : Fld Tryz.prog T k off sz ag) (hs : d.sub off sz ag = some d') : Still ops S o (.val (.pd d')) := fun base ok a w ha => by
 have h1 := (aI rfl).1 (ha.ev hx fun t e => ak e (by rw [ho]; simp [Op.operands]))
 rw [Reads] at h1
 obtain ⟨b, n, cs, h2, h3, h4, h5⟩ := h1
 have h2' : a.eval x = .pointer (some ⟨b, n, none⟩) := by simpa using h2
 obtain ⟨e1, e2, pre, mid, post, rfl, e3, e4⟩ := gB d off sz ag d' cs hs h5
 refine ⟨_, ?_, (aI rfl).2 (by rw [Reads]; exact ⟨b, n + off, mid, rfl, h3, by rw [← e3]; exact fF h4, e4⟩)⟩
 unfold execOp
 simp only [ho, h2', Kq, iZ F, J6, Ku]
theorem Kn.var (h : Kn base ok L S a w) {i g : Nat} {t : TypeId} {d : D} (hi : S.objs[i]? = some (.var g t d)) : base g ∧ ∃ cs, w.heap[g]? = some (.cells cs.toArray t (0, 0)) ∧ Reads ok w d cs := h.objs _ (KE hi)
theorem Mem.var {objs : List Obj} {facts : List (Value × D)} (h : Mem X objs facts w) {i g : Nat} {t : TypeId} {d : D} (hi : objs[i]? = some (.var g t d)) : X.mine g ∧ ∃ cs, w.heap[g]? = some (.cells cs.toArray t (0, 0)) ∧ Reads (X.ok objs w) w d cs := h.at_ _ (KE hi)
theorem H6 {x : Operand} {T sz g n : Nat} {ag : Bool} {t : TypeId} {d d' : D} (i : Nat) (ho : o.op = .load T x) (hx : ev S x = some (.val (.v (.pointer (some ⟨g, n, none⟩))))) (hi : S.objs[i]? = some (.var g t d)) (hT : Ty Tryz.prog T sz ag) (hs : d.sub n sz ag = some d') : Still ops S o (.val d') := fun base ok a w ha => by
 have h1 := (ay.1 (ha.ev hx fun t e => ak e (by rw [ho]; simp [Op.operands]))).2
 obtain ⟨_, cs, h2, h3⟩ := ha.var hi
 obtain ⟨e1, e2, pre, mid, post, rfl, e3, e4⟩ := gB d n sz ag d' cs hs h3
 have hr := fF (dA h2)
 rw [KJ, e3] at hr
 refine ⟨form d' mid, ?_, mid, e4, rfl⟩
 unfold execOp
 simp only [ho, h1, Kq, fD (d := d') (by rw [e1, e2]; exact hT) e4 hr, J6, Ku]
theorem zI {x : Operand} {T sz : Nat} {ag : Bool} {d d' : D} (ho : o.op = .load T x) (hx : ev S x = some (.val (.pd d))) (hT : Ty Tryz.prog T sz ag) (hs : d.sub 0 sz ag = some d') : Still ops S o (.val d') := fun base ok a w ha => by
 have h1 := (aI rfl).1 (ha.ev hx fun t e => ak e (by rw [ho]; simp [Op.operands]))
 rw [Reads] at h1
 obtain ⟨b, n, cs, h2, h3, h4, h5⟩ := h1
 have h2' : a.eval x = .pointer (some ⟨b, n, none⟩) := by simpa using h2
 obtain ⟨e1, e2, pre, mid, post, rfl, e3, e4⟩ := gB d 0 sz ag d' cs hs h5
 have hr := fF h4
 rw [e3, Nat.add_zero] at hr
 refine ⟨form d' mid, ?_, mid, e4, rfl⟩
 unfold execOp
 simp only [ho, h2', Kq, fD (d := d') (by rw [e1, e2]; exact hT) e4 hr, J6, Ku]
end
section
variable {N : Nat} {X : Cx N} {S S' : St} {a : Act} {w w' : World} {ops : Array Oper} {o : Oper} {Q : Exit → Act → World → Prop} {l : List Oper} {L : Tmp → Prop}
structure Dj (T e z : Nat) : Prop where
 und : Tryz.prog.underlying T = some (.slice e)
 size : (Tryz.prog.info? e).map (·.size) = some z
structure IU (T n e z : Nat) : Prop where
 und : Tryz.prog.underlying T = some (.array n e)
 size : (Tryz.prog.info? e).map (·.size) = some z
theorem iW {e z : Nat} (h : (Tryz.prog.info? e).map (·.size) = some z) (w : World) : (sizeOf e).run Tryz.prog w = .ok z w := by
 cases hi : Tryz.prog.info? e with
 | none => rw [hi] at h; cases h
 | some i =>
  rw [hi] at h
  have hs : i.size = z := by simpa using h
  simp [sizeOf, typeInfo, hi, hs]
theorem vw {ok : Nat → Prop} {l : List UInt8} {x : Value} (h : aP ok w (.bs l) x) : mM ok w x l := by
 have := (aI rfl).1 h
 rw [Reads] at this
 obtain ⟨u, h1, h2⟩ := this
 obtain rfl : x = u := by simpa using h1
 exact h2
theorem ny {ok : Nat → Prop} {z : Nat} {ds : List D} {x : Value} (h : aP ok w (.sl z ds) x) : ∃ A c rows, x = .slice A ds.length c ∧ ds.length ≤ c ∧ c ≤ maxLen ∧ (A = none → ds.length = 0 ∧ c = 0) ∧ RdP ok w A rows.flatten ∧ ah ok w z ds rows := by
 have := (aI rfl).1 h
 rw [Reads] at this
 obtain ⟨A, c, rows, h1, h2⟩ := this
 exact ⟨A, c, rows, by simpa using h1, h2⟩
theorem Jz {ok : Nat → Prop} {l : List UInt8} {x : Value} (h : mM ok w x l) : aP ok w (.bs l) x := (aI rfl).2 (by rw [Reads]; exact ⟨x, rfl, h⟩)
theorem dM {ok : Nat → Prop} {x : Value} (h : x.oneCell' = true) : aP ok w (.v x) x := ay.2 ⟨h, rfl⟩
theorem dh {base : Nat → Prop} {ok : Nat → Prop} (h : Kn base ok L S a w) {x : Operand} {y : Value} (hx : ev S x = some (.val (.v y))) (hL : ∀ t, x = .tmp t → L t) : a.eval x = y := (ay.1 (h.ev hx hL)).2
theorem D6 {ok : Nat → Prop} {z : Nat} {ds : List D} {A : Option Addr} {rows : List (List Value)} (hr : RdP ok w A rows.flatten) (h : ah ok w z ds rows) (hz : 0 < z) (k : Nat) (hk : k < ds.length) :
  ∃ b n r, A = some ⟨b, n, none⟩ ∧ ok b ∧ w.rangeAt b (n + k * z) r ∧ Reads ok w ds[k] r := by
 obtain ⟨r, h1, h2, h3⟩ := ah.get ds rows h k hk
 have hl := (ah.lens ds rows h).2
 have hget : ∀ j v, r[j]? = some v → rows.flatten[k * z + j]? = some v := by
  have : ∀ (rows : List (List Value)) (k : Nat), (∀ r ∈ rows, r.length = z) → rows[k]? = some r → ∀ j v, r[j]? = some v → rows.flatten[k * z + j]? = some v := by
   intro rows
   induction rows with
   | nil => intro k _ hk; simp at hk
   | cons x xs ih =>
    intro k hn hk j v hv
    rw [KG]
    cases k with
    | zero =>
     simp at hk
     subst hk
     rw [Nat.zero_mul, KJ, LC ((Kw.1 hv).1)]
     exact hv
    | succ k =>
     have hx := hn x (by simp)
     rw [LW, Md, Lr (by omega), hx, show k * z + z + j - z = k * z + j by omega]
     exact ih k (fun r hr => hn r (by simp [hr])) (by simpa using hk) j v hv
  exact this rows k hl h1
 have hne : 0 < r.length := by omega
 have h0 := hget 0 r[0] (by simp)
 obtain ⟨b, n, e, hb, hc⟩ := hr (fun e => by rw [e] at h0; simp at h0)
 exact ⟨b, n, r, e, hb, fun j v hv => by rw [Nc]; exact hc _ v (hget j v hv), h3⟩
theorem Ey {x y : Operand} {T e z : Nat} {k : Int} {ds : List D} (ho : o.op = .indexAddr T x y) (hx : ev S x = some (.val (.sl z ds))) (hy : ev S y = some (.val (.v (.int .i64 k)))) (hT : Dj T e z) (hz : 0 < z) (h0 : 0 ≤ k) (hk : k.toNat < ds.length) : Still ops S o (.val (.pd ds[k.toNat])) := fun base ok a w ha => by
 obtain ⟨A, c, rows, h1, h2, h3, h4, h5, h6⟩ := ny (ha.ev hx fun t e => ak e (by rw [ho]; simp [Op.operands]))
 have hy' := dh ha hy fun t e => ak e (by rw [ho]; simp [Op.operands])
 obtain ⟨b, n, r, rfl, hb, hrg, hrd⟩ := D6 h5 h6 hz _ hk
 refine ⟨.pointer (some ⟨b, n + k.toNat * z, none⟩), ?_, (aI rfl).2 (by rw [Reads]; exact ⟨b, _, r, rfl, hb, hrg, hrd⟩)⟩
 have hlt : k < (ds.length : Int) := by omega
 unfold execOp
 simp [ho, h1, hy', Instr.indexAt, run_underlying hT.und, asIntOf, h0, hlt, iW hT.size, bM]
theorem xC {x y : Operand} {T e : Nat} {k : Int} {l : List UInt8} (ho : o.op = .indexAddr T x y) (hx : ev S x = some (.val (.bs l))) (hy : ev S y = some (.val (.v (.int .i64 k)))) (hT : Dj T e 1) (h0 : 0 ≤ k) (hk : k.toNat < l.length) : Still ops S o (.val (.pd (.v (bv l[k.toNat])))) := fun base ok a w ha => by
 obtain ⟨A, c, h1, h2, h3, h4⟩ := vw (ha.ev hx fun t e => ak e (by rw [ho]; simp [Op.operands]))
 have hy' := dh ha hy fun t e => ak e (by rw [ho]; simp [Op.operands])
 obtain ⟨b, n, rfl, hb, hc⟩ := h4 (fun e => by have := congrArg List.length e; rw [aJ] at this; simp at this; rw [this] at hk; simp at hk)
 refine ⟨.pointer (some ⟨b, n + k.toNat, none⟩), ?_, (aI rfl).2 (by
  rw [Reads]
  refine ⟨b, _, [bv l[k.toNat]], rfl, hb, fun j v hv => ?_, by rw [Reads]; exact ⟨rfl, rfl⟩⟩
  cases j with
  | zero => cases hv; exact hc _ _ (sJ l _ hk)
  | succ j => simp at hv)⟩
 have hlt : k < (l.length : Int) := by omega
 unfold execOp
 simp [ho, h1, hy', Instr.indexAt, run_underlying hT.und, asIntOf, h0, hlt, iW hT.size, bM]
theorem BO {x : Operand} {T e : Nat} {l : List UInt8} (ho : o.op = .call { callee := .builtin .len, args := #[x], argTypes := #[T] }) (hx : ev S x = some (.val (.bs l))) (hT : Tryz.prog.underlying T = some (.slice e)) : Still ops S o (.val (.v (.int .i64 l.length))) := fun base ok a w ha => by
 obtain ⟨A, c, h1, h2, h3, h4⟩ := vw (ha.ev hx fun t e => ak e (by rw [ho]; simp [Op.operands, Call.operands]))
 refine ⟨_, ?_, dM rfl⟩
 unfold execOp
 simp [ho, h1, resolve, invoke, builtin, Builtin.len_, run_underlying hT, goInt]
theorem BN {x : Operand} {T e z : Nat} {ds : List D} (ho : o.op = .call { callee := .builtin .len, args := #[x], argTypes := #[T] }) (hx : ev S x = some (.val (.sl z ds))) (hT : Tryz.prog.underlying T = some (.slice e)) : Still ops S o (.val (.v (.int .i64 ds.length))) := fun base ok a w ha => by
 obtain ⟨A, c, rows, h1, h2⟩ := ny (ha.ev hx fun t e => ak e (by rw [ho]; simp [Op.operands, Call.operands]))
 refine ⟨_, ?_, dM rfl⟩
 unfold execOp
 simp [ho, h1, resolve, invoke, builtin, Builtin.len_, run_underlying hT, goInt]
theorem zK {x : Operand} {T e n c : Nat} {A : Option Addr} (ho : o.op = .call { callee := .builtin .len, args := #[x], argTypes := #[T] }) (hx : ev S x = some (.val (.v (.slice A n c)))) (hT : Tryz.prog.underlying T = some (.slice e)) : Still ops S o (.val (.v (.int .i64 n))) := fun base ok a w ha => by
 have h1 := dh ha hx fun t e => ak e (by rw [ho]; simp [Op.operands, Call.operands])
 refine ⟨_, ?_, dM rfl⟩
 unfold execOp
 simp [ho, h1, resolve, invoke, builtin, Builtin.len_, run_underlying hT, goInt]
theorem zJ {x : Operand} {T e e' z : Nat} {v : Value} {ds : List D} (i : Nat) (ho : o.op = .call { callee := .builtin .len, args := #[x], argTypes := #[T] }) (hx : ev S x = some (.val (.v v))) (hi : S.objs[i]? = some (.row v e' z ds)) (hT : Tryz.prog.underlying T = some (.slice e)) : Still ops S o (.val (.v (.int .i64 ds.length))) := fun base ok a w ha => by
 have h1 := dh ha hx fun t e => ak e (by rw [ho]; simp [Op.operands, Call.operands])
 obtain ⟨rows, h2, _⟩ := ha.objs _ (KE hi)
 obtain ⟨A, c, rfl, _⟩ := eF h2.1
 refine ⟨_, ?_, dM rfl⟩
 unfold execOp
 simp [ho, h1, resolve, invoke, builtin, Builtin.len_, run_underlying hT, goInt]
def kT (op : BinOp) (x y : Int) : Option Bool :=
 match op with
 | .eql => some (x == y)
 | .neq => some (x != y)
 | .lss => some (decide (x < y))
 | .leq => some (decide (x ≤ y))
 | .gtr => some (decide (x > y))
 | .geq => some (decide (x ≥ y))
 | _ => none
theorem Gn {x y : Operand} {op : BinOp} {T U : TypeId} {k : IntKind} {m n : Int} {b : Bool} (ho : o.op = .binOp op T x y U) (hx : ev S x = some (.val (.v (.int k m)))) (hy : ev S y = some (.val (.v (.int k n)))) (hb : kT op m n = some b) : Still ops S o (.val (.v (.bool b))) := fun base ok a w ha => by
 have hx' := dh ha hx fun t e => ak e (by rw [ho]; simp [Op.operands])
 have hy' := dh ha hy fun t e => ak e (by rw [ho]; simp [Op.operands])
 refine ⟨_, ?_, dM rfl⟩
 unfold execOp
 cases op <;> simp [kT] at hb <;> subst hb <;> simp [ho, hx', hy', eqGuard, binOp, Op.intCmp]
def arI (op : BinOp) (x y : Int) : Option Int :=
 match op with
 | .add => some (x + y)
 | .sub => some (x - y)
 | .mul => some (x * y)
 | _ => none
theorem Jv {x y : Operand} {op : BinOp} {T U : TypeId} {m n r : Int} (ho : o.op = .binOp op T x y U) (hx : ev S x = some (.val (.v (.int .i64 m)))) (hy : ev S y = some (.val (.v (.int .i64 n)))) (hb : arI op m n = some r) (h1 : -9223372036854775808 ≤ r) (h2 : r ≤ 9223372036854775807) : Still ops S o (.val (.v (.int .i64 r))) := fun base ok a w ha => by
 have hx' := dh ha hx fun t e => ak e (by rw [ho]; simp [Op.operands])
 have hy' := dh ha hy fun t e => ak e (by rw [ho]; simp [Op.operands])
 have hw : IntKind.i64.wrap r = r := IntWalk.i64_in r ⟨h1, h2⟩
 refine ⟨_, ?_, dM rfl⟩
 unfold execOp
 cases op <;> simp [arI] at hb <;> subst hb <;> simp [ho, hx', hy', eqGuard, binOp, Op.intArith, hw]
theorem Gl {x : Operand} {T : TypeId} {b : Bool} (ho : o.op = .unOp .not T x) (hx : ev S x = some (.val (.v (.bool b)))) : Still ops S o (.val (.v (.bool (!b)))) := fun base ok a w ha => by
 have hx' := dh ha hx fun t e => ak e (by rw [ho]; simp [Op.operands])
 refine ⟨_, ?_, dM rfl⟩
 unfold execOp
 simp [ho, hx', Op.unary]
theorem Ju {x y : Operand} {op : BinOp} {T U : TypeId} {d e : D} {c : Value} (ho : o.op = .binOp op T x y U) (hx : ev S x = some (.val d)) (hy : ev S y = some (.val e)) (hc : c.oneCell' = true)
  (hrun : ∀ ok w p q, aP ok w d p → aP ok w e q → (eqGuard op T x y p q).run Tryz.prog w = .ok () w ∧ (binOp op T p q).run Tryz.prog w = .ok c w) : Still ops S o (.val (.v c)) := fun base ok a w ha => by
 have hx' := ha.ev hx fun t e => ak e (by rw [ho]; simp [Op.operands])
 have hy' := ha.ev hy fun t e => ak e (by rw [ho]; simp [Op.operands])
 obtain ⟨h1, h2⟩ := hrun _ _ _ _ hx' hy'
 refine ⟨_, ?_, dM hc⟩
 unfold execOp
 simp only [ho, Kq, h1, h2, J6, Ku]
theorem Gj {x : Operand} {l : List UInt8} (ho : o.op = .convert 41 9 x) (hx : ev S x = some (.val (.bs l))) : Still ops S o (.val (.v (.string (Go.Proofs.YtaoicebcdmpemaaGreat.bs l)))) := fun base ok a w ha => by
 have hb := vw (ha.ev hx fun t e => ak e (by rw [ho]; simp [Op.operands]))
 have : IsB w (a.eval x) l := by
  obtain ⟨A, c, h1, h2, h3, h4⟩ := hb
  exact ⟨A, c, h1, h2, h3, fun hn => by
   obtain ⟨b, n, e, hb, hc⟩ := h4 hn
   exact ⟨b, n, e, ha.lt _ hb, hc⟩⟩
 refine ⟨_, ?_, dM rfl⟩
 unfold execOp
 simp only [ho, Kq, oQ this, J6, Ku]
structure Fn (f : FuncId) (ds : List D) (Φ : R → Prop) : Prop where
 go : ∀ (ok : Nat → Prop) (w : World) (xs : List Value), (∀ b, ok b → b < w.heap.size) → bC ok w ds xs →
  Calls Tryz.prog f xs.toArray w fun e w' => Gr w w' ∧ ∃ v r, e = .returned v ∧ Φ r ∧ aC (fun b => (ok b ∨ w.heap.size ≤ b) ∧ b < w'.heap.size) w' r v
def Enters (f : FuncId) : Prop := ∀ xs w, (callFunc f xs).run Tryz.prog w = .ok (.enter f xs) w
def jd : Nat → List D → List (Tmp × R)
 | _, [] => []
 | k, d :: ds => (k, .val d) :: jd (k + 1) ds
def Out (X : Cx N) (Φ : R → Prop) (e : Ending) (w' : World) : Prop := GrE X.own0 X.w0 w' ∧ ∃ v r, e = .returned v ∧ Φ r ∧ aC (fun b => (X.ok0 b ∨ X.mine b) ∧ b < w'.heap.size) w' r v
theorem gI {ok : Nat → Prop} : ∀ (ds : List D) (xs : List Value) (k : Nat) (tmps : Array Value), bC ok w ds xs → (∀ j x, xs[j]? = some x → tmps.getD (k + j) undef = x) → ∀ t r, look (jd k ds) t = some r → aC ok w r (tmps.getD t undef)
 | [], xs, k, tmps, _, _, t, r, h => by simp [jd, look] at h
 | d :: ds, xs, k, tmps, hr, ht, t, r, h => by
  obtain ⟨x, rest, rfl, h1, h2⟩ := hr
  rw [jd, look] at h
  split at h
  ·
   rename_i e
   cases h
   subst e
   have := ht 0 x rfl
   rw [Nat.add_zero] at this
   rw [this]
   exact h1
  · exact gI ds rest (k + 1) tmps h2 (fun j y hy => by have := ht (j + 1) y (by simpa using hy); rwa [show k + 1 + j = k + (j + 1) by omega]) t r h
theorem fE {ok : Nat → Prop} : ∀ (ds : List D) (xs : List Value), bC ok w ds xs → xs.length = ds.length
 | [], xs, h => by cases h; rfl
 | d :: ds, xs, h => by
  obtain ⟨x, rest, rfl, _, h2⟩ := h
  simp [fE ds rest h2]
theorem Fn.walk {f : FuncId} {fn : Func} {c : Code} {ds : List D} {Φ : R → Prop} (N : Nat) (hf : Tryz.prog.funcs[f]? = some fn) (hb : fn.body = some c) (hN : fn.ntmps = N) (hl : ds.length ≤ N)
  (h : ∀ X : Cx N, EC X (bodyPost Tryz.prog fn (Out X Φ)) c ⟨jd 0 ds, [], []⟩) : Fn f ds Φ := by
 constructor
 intro ok w xs hok hr
 have hxl := fE ds xs hr
 refine Calls.mono (calls_of_wp hf hb ((h ⟨w, ok, fun _ => False, hok⟩).go _ w ⟨⟨.refl w, List.Pairwise.nil, (fun o ho => by cases ho), (fun f hf => by cases hf)⟩, fun t r ht => ?_, ?_, rfl⟩)) ?_
 ·
  refine gI ds xs 0 _ (bC.mono (fun b hb => ⟨.inl hb, hok b hb, (fun o ho => by cases ho)⟩) (fun _ _ => rfl) ds xs hr) (fun j x hx => ?_) t r ht
  have hj := (Kw.1 hx).1
  have : (xs.toArray ++ Array.replicate (fn.ntmps - xs.toArray.size) undef)[j]? = some x := by
   rw [MO (by simpa using hj)]
   simpa using hx
  rw [KJ, MI, this]
  rfl
 ·
  simp [hN]
  omega
 ·
  rintro e w' ⟨h1, v, r, h2, h3, h4⟩
  exact ⟨h1.gr (fun _ h => h), v, r, h2, h3, h4.mono (fun b hb => ⟨hb.1.imp id fun h => h.resolve_left id, hb.2⟩) fun _ _ => rfl⟩
theorem EK.yZ {X : Cx N} {fn : Func} {t : Tmp} {r : R} {Φ : R → Prop} (hres : fn.results = #[.tmp t]) (hl : look S.regs t = some r) (hΦ : Φ r) : EK X (bodyPost Tryz.prog fn (Out X Φ) .ret) S := by
 constructor
 intro a w ha
 exact bodyPost_ret (results_tmp hres a.tmps Tryz.prog w) ha.defers ⟨ha.mem.gr, _, r, rfl, hΦ, (ha.regs t r hl).mono (fun b hb => ⟨hb.1, hb.2.1⟩) (fun _ _ => rfl)⟩
theorem EK.JL {X : Cx N} {fn : Func} {t u : Tmp} {d e : D} {Φ : R → Prop} (hres : fn.results = #[.tmp t, .tmp u]) (hl : look S.regs t = some (.val d)) (hk : look S.regs u = some (.val e)) (hΦ : Φ (.tpl [d, e])) : EK X (bodyPost Tryz.prog fn (Out X Φ) .ret) S := by
 constructor
 intro a w ha
 exact bodyPost_ret (results_tmp2 hres a.tmps Tryz.prog w) ha.defers ⟨ha.mem.gr, _, _, rfl, hΦ, [a.tmps.getD t undef, a.tmps.getD u undef], rfl, _, _, rfl, aP.mono (fun b hb => ⟨hb.1, hb.2.1⟩) (fun _ _ => rfl) (ha.regs t _ hl), _, _, rfl, aP.mono (fun b hb => ⟨hb.1, hb.2.1⟩) (fun _ _ => rfl) (ha.regs u _ hk), rfl⟩
theorem nG {ty g : Nat} {d : D} {i : Nat} {t : TypeId} {objs : List Obj} {facts : List (Value × D)} (hm : Mem X objs facts w) (hi : objs[i]? = some (.var g t d)) (hT : Ty Tryz.prog ty d.size d.agg) : ∃ x, (loadVar ty ⟨g, 0, none⟩).run Tryz.prog w = .ok x w ∧ aP (X.ok objs w) w d x := by
 obtain ⟨_, cs, h2, h3⟩ := hm.var hi
 have hr := dA h2
 have := fD (P := Tryz.prog) hT h3 hr
 simp only [Instr.loadAt, Instr.sureAddr, Kq, Ku, J6] at this
 exact ⟨_, this, cs, h3, rfl⟩
end
end E
end Go.Proofs.YtaoicebcdmpemaaGreat
