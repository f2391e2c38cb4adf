/-
 Merged: lemmas of this claim.
 Conditions: none.
-/
import Derived.Test.YtelbhdobjdnglaaGreatZC17
import Derived.Test.YtelbhdobjdnglaaGreatZC12
import Derived.Test.YtelbhdobjdnglaaGreatZC13
import Derived.Test.YtelbhdobjdnglaaGreatZC0
namespace Go.Proofs.YtelbhdobjdnglaaGreat
set_option linter.unusedVariables false
set_option maxRecDepth 20000
set_option maxHeartbeats 16000000
open Go.RowKit Mono Rlp
namespace E
structure Gd (x : Raw) : Prop where
 nrm : norm x = x
 deep : ∀ m, fE x m ≤ 32
 dep : dep x ≤ 33
 len : (Rlp.E x).length ≤ most
theorem wP {p : List UInt8 → Except Nat (Raw × Nat)} {Q : Raw → Prop} (hp : ∀ b x k, p b = .ok (x, k) → Q x) : ∀ (f : Nat) (b : List UInt8) (xs : List Raw), bI p f b = .ok xs → ∀ x ∈ xs, Q x
 | _, [], xs, h => by unfold bI at h; cases h; intro x hx; cases hx
 | 0, _ :: _, xs, h => by unfold bI at h; cases h
 | f + 1, c :: b, xs, h => by
  unfold bI at h
  split at h
  · cases h
  ·
   rename_i x k hx
   split at h
   · cases h
   ·
    rename_i ys hy
    cases h
    intro z hz
    rcases Xb.1 hz with rfl | hz
    · exact hp _ _ _ hx
    · exact wP hp f _ ys hy z hz
theorem BO : ∀ xs : List Raw, (∀ x ∈ xs, norm x = x) → yZ xs = xs
 | [], _ => by rw [yZ]
 | x :: xs, h => by rw [yZ, h x WT, BO xs fun y hy => h y (WZ _ hy)]
theorem Kq {n : Nat} : ∀ xs : List Raw, (∀ x ∈ xs, dep x ≤ n) → Ea xs ≤ n
 | [], _ => by rw [Ea]; omega
 | x :: xs, h => by
  rw [Ea]
  have h1 := h x WT
  have h2 := Kq xs fun y hy => h y (WZ _ hy)
  omega
theorem yh (p : Option (List UInt8 → Except Nat (Raw × Nat))) (d : Nat) (hp : ∀ q, p = some q → 0 < d ∧ ∀ b x k, q b = .ok (x, k) → norm x = x ∧ (∀ m, fE x m ≤ d - 1) ∧ dep x ≤ d) (b : List UInt8) (x : Raw) (n : Nat) (h : ql p b = .ok (x, n)) : norm x = x ∧ (∀ m, fE x m ≤ d) ∧ dep x ≤ d + 1 := by
 have hB : ∀ l : List UInt8, norm (.mk false l []) = .mk false l [] ∧ (∀ m, fE (.mk false l []) m ≤ d) ∧ dep (.mk false l []) ≤ d + 1 := fun l => ⟨by rw [norm], fun m => by rw [fE]; omega, by rw [dep, Ea]; omega⟩
 cases b with
 | nil => cases h
 | cons c t =>
  rw [gI] at h
  split at h
  ·
   cases h
   exact hB _
  ·
   split at h
   ·
    split at h
    · cases h
    ·
     split at h
     · cases h
     ·
      cases h
      exact hB _
   ·
    cases p with
    | none => cases h
    | some p =>
     obtain ⟨hd, hq⟩ := hp p rfl
     dsimp only at h
     split at h
     · cases h
     ·
      split at h
      · cases h
      ·
       rename_i ys hy
       cases h
       have hall := wP hq _ _ _ hy
       refine ⟨by rw [norm, BO ys fun x hx => (hall x hx).1], fun m => ?_, ?_⟩
       ·
        cases m with
        | zero => rw [fE]; omega
        | succ m =>
         rw [fE]
         have := (maxD_le ys m 0 (d - 1)).2 ⟨Xo _, fun x hx => (hall x hx).2.1 m⟩
         omega
       ·
        rw [dep]
        have := Kq ys fun x hx => (hall x hx).2.2
        omega
theorem yV : ∀ (d : Nat) (b : List UInt8) (x : Raw) (n : Nat), parse d b = .ok (x, n) → norm x = x ∧ (∀ m, fE x m ≤ d) ∧ dep x ≤ d + 1
 | 0, b, x, n, h => yh none 0 (fun q e => by cases e) b x n h
 | d + 1, b, x, n, h => yh (some (parse d)) (d + 1) (fun q e => by cases e; exact ⟨Nat.succ_pos _, yV d⟩) b x n h
theorem OD {b : List UInt8} {x : Raw} (h : fU b = .ok x) : Gd x := by
 have hE := Dw h
 unfold fU at h
 split at h
 · cases h
 ·
  rename_i hl
  split at h
  · cases h
  ·
   rename_i y n hy
   split at h
   ·
    cases h
    obtain ⟨h1, h2, h3⟩ := yV 32 b x n hy
    exact ⟨h1, h2, h3, by rw [← hE]; omega⟩
   · cases h
theorem Gd.pk {x : Raw} (h : Gd x) : packed x = some (Rlp.E x) := L6 (h.deep 32) h.len
theorem Gd.pkB {x : Raw} (h : Gd x) : E.pkB x = Rlp.E x := by
 unfold E.pkB
 rw [h.pk]
 rfl
theorem BN : ∀ {xs : List Raw}, yZ xs = xs → ∀ x ∈ xs, norm x = x
 | y :: xs, h, x, hx => by
  rw [yZ] at h
  injection h with h1 h2
  rcases Xb.1 hx with rfl | hx
  · exact h1
  · exact BN h2 x hx
theorem Gd.kid {b : List UInt8} {xs : List Raw} {y : Raw} (h : Gd (.mk true b xs)) (hy : y ∈ xs) : Gd y where
 nrm := by
  have := h.nrm
  rw [norm] at this
  injection this with _ _ h3
  exact BN h3 y hy
 deep m := by
  have h1 := h.deep (m + 1)
  rw [fE] at h1
  have := ((maxD_le xs m 0 31).1 (by omega)).2 y hy
  omega
 dep := by
  have h1 := h.dep
  rw [E.dep] at h1
  have := xK hy
  omega
 len := XD (KH hy) h.len
theorem RP : Gd jw := ⟨by rw [jw, norm], fun m => by rw [jw, fE]; omega, by rw [jw, E.dep, Ea]; omega, by decide⟩
inductive Nd where
 | nil
 | hash (w : List UInt8)
 | leaf (p v : List UInt8)
 | ext (p : List UInt8) (k : Nd)
 | br (ks : Nat → Nd) (v : List UInt8)
def Nd.isNil : Nd → Bool
 | .nil => true
 | _ => false
def Nd.zn : Nd → Bool
 | .br _ _ => true
 | .hash _ => true
 | _ => false
def iU (N : Raw → Nd × Bool) (x : Raw) : Nd × Bool := if isL x then (match packed x with
  | none => (.nil, false)
  | some b => if b.length < 32 then N x else (.nil, false)) else if (bts x).length = 0 then (.nil, true) else if (bts x).length = 32 then (.hash (bts x), true) else (.nil, false)
def qE (N : Raw → Nd × Bool) (a b : Raw) : Nd × Bool := match rdP (bts a) with
 | none => (.nil, false)
 | some (p, lf) => if isL a then (.nil, false) else if lf then (.leaf p (bts b), !isL b && decide (0 < (bts b).length)) else if (iU N b).1.zn then (.ext p (iU N b).1, (iU N b).2 && decide (0 < p.length)) else (.nil, false)
def cntF (N : Raw → Nd × Bool) (xs : List Raw) : Nat := (xs.filter fun x => !(iU N x).1.isNil).length
def brF (N : Raw → Nd × Bool) (xs : List Raw) : Nd × Bool := if (xs.take 16).all (fun x => (iU N x).2) then (.br (fun k => (iU N (xs.getD k jw)).1) (bts (xs.getD 16 jw)), !isL (xs.getD 16 jw) && decide (1 < cntF N (xs.take 16) + (if 0 < (bts (xs.getD 16 jw)).length then 1 else 0))) else (.nil, false)
def fF : Nat → Raw → Nd × Bool
 | 0, _ => (.nil, false)
 | _ + 1, .mk false _ _ => (.nil, false)
 | f + 1, .mk true _ xs => if xs.length = 2 then qE (fF f) (xs.getD 0 jw) (xs.getD 1 jw) else if xs.length = 17 then brF (fF f) xs else (.nil, false)
theorem all_eq {α : Type} {p q : α → Bool} : ∀ {l : List α}, (∀ x ∈ l, p x = q x) → l.all p = l.all q
 | [], _ => rfl
 | x :: l, h => by rw [List.all_cons, List.all_cons, h x WT, all_eq fun y hy => h y (WZ _ hy)]
theorem zG {α : Type} {p q : α → Bool} : ∀ {l : List α}, (∀ x ∈ l, p x = q x) → l.filter p = l.filter q
 | [], _ => rfl
 | x :: l, h => by rw [List.filter_cons, List.filter_cons, h x WT, zG fun y hy => h y (WZ _ hy)]
theorem IG : ∀ (f : Nat) (x : Raw), (fF f x).2 = true → (fF f x).1.isNil = false
 | 0, x, h => by cases h
 | _ + 1, .mk false _ _, h => by cases h
 | f + 1, .mk true b xs, h => by
  rw [fF] at h ⊢
  split
  ·
   rename_i h2
   rw [if_pos h2] at h
   unfold qE at h ⊢
   split
   ·
    rename_i e
    rw [e] at h
    cases h
   ·
    rename_i p lf e
    rw [e] at h
    dsimp only at h
    split
    ·
     rename_i h3
     rw [if_pos h3] at h
     cases h
    ·
     split
     · rfl
     ·
      split
      · rfl
      ·
       rename_i h3 h4 h5
       rw [if_neg h3, if_neg h4, if_neg h5] at h
       cases h
  ·
   rename_i h2
   rw [if_neg h2] at h
   split
   ·
    rename_i h3
    rw [if_pos h3] at h
    unfold brF at h ⊢
    split
    · rfl
    ·
     rename_i h4
     rw [if_neg h4] at h
     cases h
   ·
    rename_i h3
    rw [if_neg h3] at h
    cases h
theorem OV : ∀ (f : Nat) (x : Raw), (fF f x).2 = true → (fF f x).1.zn = !decide ((its x).length = 2)
 | 0, x, h => by cases h
 | _ + 1, .mk false _ _, h => by cases h
 | f + 1, .mk true b xs, h => by
  rw [fF] at h ⊢
  show _ = !decide (xs.length = 2)
  split
  ·
   rename_i h2
   rw [if_pos h2] at h
   rw [decide_eq_true h2]
   unfold qE at h ⊢
   split
   · rfl
   ·
    rename_i p lf e
    rw [e] at h
    dsimp only at h
    split
    · rfl
    ·
     split
     · rfl
     ·
      split
      · rfl
      · rfl
  ·
   rename_i h2
   rw [if_neg h2] at h
   rw [decide_eq_false h2]
   split
   ·
    rename_i h3
    rw [if_pos h3] at h
    unfold brF at h ⊢
    split
    · rfl
    ·
     rename_i h4
     rw [if_neg h4] at h
     cases h
   ·
    rename_i h3
    rw [if_neg h3] at h
    cases h
theorem vF {N : Raw → Nd × Bool} {x : Raw} (hx : Gd x) (hl : isL x = true) : iU N x = if (Rlp.E x).length < 32 then N x else (.nil, false) := by
 unfold iU
 rw [if_pos hl, hx.pk]
theorem JE {f : Nat} {x : Raw} (hx : Gd x) (ih : (fF f x).2 = isN f x) : (iU (fF f) x).2 = rfB (isN f) true x ∧ ((iU (fF f) x).2 = true → (!(iU (fF f) x).1.isNil) = some1 x) := by
 obtain ⟨l, b, xs⟩ := x
 cases l with
 | true =>
  rw [vF hx rfl]
  rw [uj]
  unfold some1
  rw [hx.pkB, show isL (.mk true b xs) = true from rfl, Y7]
  split
  ·
   rename_i h
   rw [decide_eq_true h, XO]
   exact ⟨ih, fun h2 => by rw [IG f _ h2]; rfl⟩
  ·
   rename_i h
   rw [decide_eq_false h, Yk]
   exact ⟨rfl, fun h => by cases h⟩
 | false =>
  rw [vC]
  unfold iU some1
  rw [show isL (.mk false b xs) = false from rfl, if_neg Bool.false_ne_true, show bts (.mk false b xs) = b from rfl, YM]
  by_cases h0 : b.length = 0
  ·
   rw [if_pos h0]
   refine ⟨by simp [h0], fun _ => ?_⟩
   rw [h0]
   rfl
  ·
   rw [if_neg h0]
   by_cases h32 : b.length = 32
   ·
    rw [if_pos h32]
    refine ⟨by simp [h32], fun _ => ?_⟩
    rw [h32]
    rfl
   ·
    rw [if_neg h32]
    refine ⟨by simp [h0, h32], fun h => by cases h⟩
theorem oz : ∀ (f : Nat) (x : Raw), Gd x → (fF f x).2 = isN f x
 | 0, x, _ => rfl
 | _ + 1, .mk false _ _, _ => by rw [fF, isN]
 | f + 1, .mk true b xs, hx => by
  have ih : ∀ y ∈ xs, (fF f y).2 = isN f y := fun y hy => oz f y (hx.kid hy)
  rw [fF, isN]
  by_cases h2 : xs.length = 2
  ·
   rw [if_pos h2, if_neg (by omega), if_pos h2]
   match xs, h2 with
   | [a, c], _ =>
    have hc := hx.kid (y := c) (WZ _ WT)
    have ic := ih c (WZ _ WT)
    show (qE (fF f) a c).2 = prB (isN f) a c
    unfold qE prB
    cases hr : rdP (bts a) with
    | none => simp
    | some pl =>
     obtain ⟨p, lf⟩ := pl
     dsimp only
     cases hla : isL a with
     | true => rfl
     | false =>
      rw [if_neg Bool.false_ne_true, YD, XO]
      cases lf with
      | true => rfl
      | false =>
       rw [if_neg Bool.false_ne_true]
       dsimp only
       obtain ⟨cl, cb, cx⟩ := c
       cases cl with
       | true =>
        rw [vF hc rfl]
        rw [uj]
        rw [hc.pkB, show isL (.mk true cb cx) = true from rfl, XO]
        split
        ·
         rename_i hlt
         rw [decide_eq_true hlt, XO]
         cases hn : isN f (.mk true cb cx) with
         | true =>
          rw [hn] at ic
          rw [OV f _ ic, ic]
          cases hd : decide ((its (.mk true cb cx)).length = 2) with
          | true => simp
          | false => simp
         | false =>
          rw [hn] at ic
          rw [ic]
          split <;> simp
        ·
         rename_i hlt
         rw [decide_eq_false hlt]
         simp [Nd.zn]
       | false =>
        rw [vC]
        unfold iU
        rw [show isL (.mk false cb cx) = false from rfl, if_neg Bool.false_ne_true, show bts (.mk false cb cx) = cb from rfl]
        by_cases h0 : cb.length = 0
        ·
         rw [if_pos h0]
         simp [Nd.zn, h0]
        ·
         rw [if_neg h0]
         by_cases h32 : cb.length = 32
         ·
          rw [if_pos h32]
          simp [Nd.zn, h32]
         ·
          rw [if_neg h32]
          simp [Nd.zn, h32]
  ·
   rw [if_neg h2]
   by_cases h17 : xs.length = 17
   ·
    rw [if_pos h17, if_pos h17]
    unfold brF brB
    have hk : ∀ y ∈ xs.take 16, (iU (fF f) y).2 = rfB (isN f) true y := fun y hy => (JE (hx.kid (Yl hy)) (ih y (Yl hy))).1
    rw [all_eq hk]
    cases hall : (xs.take 16).all (rfB (isN f) true) with
    | false => simp
    | true =>
     rw [if_pos rfl, XO]
     dsimp only
     congr 1
     have : (xs.take 16).filter (fun x => !(iU (fF f) x).1.isNil) = (xs.take 16).filter some1 := zG fun y hy => (JE (hx.kid (Yl hy)) (ih y (Yl hy))).2 (by rw [hk y hy]; exact Xk.1 hall y hy)
     unfold cntF
     rw [this]
     rfl
   · rw [if_neg h17, if_neg h17, if_neg h2]
theorem jS {S : St} {ops : Array Oper} {o : Oper} {Ty : TypeId} {x : Operand} {d : D} (ho : o.op = .box Ty x) (hx : ev S x = some (.val d)) : oN ops S o (· = .val (.pd d)) := fun base ok a w ha => by
 obtain ⟨cs, h1, h2⟩ := JL ho hx base ok a w ha
 rw [h1]
 have hg := au w (.cells cs.toArray Ty)
 refine ⟨hg, _, rfl, (dn rfl).2 ?_⟩
 rw [Reads]
 have hs : w.heap.size < (w.alloc (.cells cs.toArray Ty)).heap.size := by simp
 have hr : (w.alloc (.cells cs.toArray Ty)).heap[w.heap.size]? = some (.cells cs.toArray Ty (0, 0)) := (X8 w _).1
 exact ⟨w.heap.size, 0, cs, rfl, ⟨.inr (Nat.le_refl _), hs⟩, iL hr, Reads.mono (fun b hb => ⟨.inl hb, Xd (ha.lt b hb) hg.size⟩) (fun p hp => hg.cell (ha.lt _ hp)) _ _ h2⟩
theorem EK.cO {N : Nat} {X : Cx N} {fn : Func} {Φ : R → List Obj → Prop} {S : St} {t u : Tmp} {d e d' e' : D} (os' : List Obj) (hres : fn.results = #[.tmp t, .tmp u]) (hl : look S.regs t = some (.val d)) (hk : look S.regs u = some (.val e)) (hR : aj S.facts [d, e] [d', e']) (ho : os'.Sublist S.objs) (hΦ : Φ (.tpl [d', e']) os') : EK X (bodyPost Tryz.prog fn (Au X Φ) .ret) S := by
 refine EK.le (S' := ⟨S.regs, os', S.facts⟩) ?_ (EK.Ue hres hl hk hR hΦ)
 exact fun a w h => ⟨h.mem.less ho (fun f hf => hf), fun t r ht => bU.mono (fun b hb => rG ho hb) (fun _ _ => rfl) (h.regs t r ht), h.size, h.defers⟩
theorem Jl (x : Nat) (h : x < 256) : bits .and .u8 (x : Int) 1 = ((x % 2 : Nat) : Int) := by
 have h' : ∀ x : Fin 256, bits .and .u8 (x.1 : Int) 1 = ((x.1 % 2 : Nat) : Int) := by decide +kernel
 exact h' ⟨x, h⟩
theorem Qo (a : UInt8) : Bin .and 5 (.v (bv a)) (.v (.int .u8 1)) (.int .u8 ((a.toNat % 2 : Nat) : Int)) := Qm rfl fun w => by
 have h := Jl a.toNat a.toNat_lt
 show Result.ok (Value.int .u8 (bits .and .u8 (a.toNat : Int) 1)) w = _
 rw [h]
theorem SC (b : List UInt8) (hb : b.length ≤ 536870912) : Fn 188 [.bs b] (· = rpD b) := by
 have hS := PX b (by omega)
 unfold rpD
 refine FnM.toFn ?_
 cases b with
 | nil =>
  rw [show split [] = [] from rfl] at hS
  rw [rdP]
  refine FnM.walk 37 Tryz.func188 rfl Tryz.ntmps188 (by simp) fun X => ?_
  repeat
   (first
    | (apply dO; iterate 2 rfl) | (apply aC (hS); rfl; exact aj.refl _ _; exact enA; iterate 2 rfl) | (apply ak; iterate 3 rfl)
    | (apply ah; iterate 3 rfl) | (apply aK; iterate 4 rfl) | (apply aF (b := true); (iterate 2 rfl); exact aQ; iterate 2 rfl)
    | (apply aV; iterate 4 rfl) | apply EL.nil | (apply EC.t0; rfl)
    | (with_reducible first | apply EK.nc | apply EC.seq | apply EC.r0 | apply EC.ret | apply EK.aB))
  exact EK.mM [] rfl rfl rfl rfl RL.a RL.a RL.a (WI _) ⟨rfl, rfl⟩
 | cons c r =>
  have hsl := jO r
  rw [WS] at hb
  rw [wF] at hS
  rw [rdP]
  generalize c >>> 4 = x at hS ⊢
  generalize c &&& 15 = y at hS ⊢
  generalize split r = s at hS hsl ⊢
  have hl2 : (x :: y :: s).length = s.length + 2 := rfl
  have hrem := Qo x
  refine FnM.walk 37 Tryz.func188 rfl Tryz.ntmps188 (by simp) fun X => ?_
  by_cases h3 : 3 < x.toNat
  ·
   rw [if_pos h3]
   repeat
    (first
     | (apply aC (hS); rfl; exact aj.refl _ _; exact enA; iterate 2 rfl) | (apply ak; iterate 3 rfl) | (apply ah; iterate 3 rfl)
     | (apply aG; iterate 5 rfl) | (apply aK; iterate 4 rfl) | (apply aF (b := true); (iterate 2 rfl); exact aQ; iterate 2 rfl)
     | (apply aF (b := false); (iterate 2 rfl); exact aQ; iterate 2 rfl) | (apply aV; iterate 4 rfl)
     | (apply iw; (iterate 3 rfl); exact ixA; iterate 2 rfl) | apply EL.nil
     | (apply EC.t0; rfl) | (with_reducible first | apply EK.nc | apply EC.seq | apply EC.r0 | apply EC.ret | apply EK.aB))
   exact EK.mM [] rfl rfl rfl rfl RL.a RL.a RL.a (WI _) ⟨rfl, rfl⟩
  ·
   rw [if_neg h3]
   by_cases h1 : x.toNat % 2 = 1
   ·
    rw [if_pos h1]
    rw [h1] at hrem
    by_cases h2 : 2 ≤ x.toNat
    ·
     rw [show decide (2 ≤ x.toNat) = true by simp [h2]]
     repeat
      (first
       | (apply aC (hS); rfl; exact aj.refl _ _; exact enA; iterate 2 rfl) | (apply nC; (iterate 2 rfl); exact hrem; iterate 2 rfl)
       | (apply uV; (iterate 3 rfl); exact ⟨by decide, by rw [hl2]; show 1 ≤ _; omega⟩; iterate 2 rfl) | (apply ak; iterate 3 rfl) | (apply ah; iterate 3 rfl)
       | (apply aG; iterate 5 rfl) | (apply aK; iterate 4 rfl) | (apply aF (b := true); (iterate 2 rfl); exact aQ; iterate 2 rfl)
       | (apply aF (b := false); (iterate 2 rfl); exact aQ; iterate 2 rfl) | (apply aV; iterate 4 rfl)
       | (apply iw; (iterate 3 rfl); exact ixA; iterate 2 rfl) | apply EL.nil
       | (apply EC.t0; rfl) | (apply EC.f0; rfl)
       | (with_reducible first | apply EK.nc | apply EC.seq | apply EC.r0 | apply EC.k0 | apply EC.ret | apply EK.aB))
     exact EK.mM [] rfl rfl rfl rfl RL.a RL.a RL.a (WI _) ⟨rfl, rfl⟩
    ·
     rw [show decide (2 ≤ x.toNat) = false by simp [h2]]
     repeat
      (first
       | (apply aC (hS); rfl; exact aj.refl _ _; exact enA; iterate 2 rfl) | (apply nC; (iterate 2 rfl); exact hrem; iterate 2 rfl)
       | (apply uV; (iterate 3 rfl); exact ⟨by decide, by rw [hl2]; show 1 ≤ _; omega⟩; iterate 2 rfl) | (apply ak; iterate 3 rfl) | (apply ah; iterate 3 rfl)
       | (apply aG; iterate 5 rfl) | (apply aK; iterate 4 rfl) | (apply aF (b := true); (iterate 2 rfl); exact aQ; iterate 2 rfl)
       | (apply aF (b := false); (iterate 2 rfl); exact aQ; iterate 2 rfl) | (apply aV; iterate 4 rfl)
       | (apply iw; (iterate 3 rfl); exact ixA; iterate 2 rfl) | apply EL.nil
       | (apply EC.t0; rfl) | (apply EC.f0; rfl)
       | (with_reducible first | apply EK.nc | apply EC.seq | apply EC.r0 | apply EC.k0 | apply EC.ret | apply EK.aB))
     exact EK.mM [] rfl rfl rfl rfl RL.a RL.a RL.a (WI _) ⟨rfl, rfl⟩
   ·
    have h0 : x.toNat % 2 = 0 := by omega
    rw [if_neg h1]
    rw [h0] at hrem
    by_cases hy : y.toNat = 0
    ·
     rw [if_pos hy]
     by_cases h2 : 2 ≤ x.toNat
     ·
      rw [show decide (2 ≤ x.toNat) = true by simp [h2]]
      repeat
       (first
        | (apply aC (hS); rfl; exact aj.refl _ _; exact enA; iterate 2 rfl) | (apply nC; (iterate 2 rfl); exact hrem; iterate 2 rfl)
        | (apply uV; (iterate 3 rfl); exact ⟨by decide, by rw [hl2]; show 2 ≤ _; omega⟩; iterate 2 rfl) | (apply ak; iterate 3 rfl) | (apply ah; iterate 3 rfl)
        | (apply aG; iterate 5 rfl) | (apply aK; iterate 4 rfl) | (apply aF (b := true); (iterate 2 rfl); exact aQ; iterate 2 rfl)
        | (apply aF (b := false); (iterate 2 rfl); exact aQ; iterate 2 rfl) | (apply aV; iterate 4 rfl)
        | (apply iw; (iterate 3 rfl); exact ixA; iterate 2 rfl) | apply EL.nil
        | (apply EC.f0; rfl) | (with_reducible first | apply EK.nc | apply EC.seq | apply EC.r0 | apply EC.k0 | apply EC.ret))
      exact EK.mM [] rfl rfl rfl rfl RL.a RL.a RL.a (WI _) ⟨rfl, rfl⟩
     ·
      rw [show decide (2 ≤ x.toNat) = false by simp [h2]]
      repeat
       (first
        | (apply aC (hS); rfl; exact aj.refl _ _; exact enA; iterate 2 rfl) | (apply nC; (iterate 2 rfl); exact hrem; iterate 2 rfl)
        | (apply uV; (iterate 3 rfl); exact ⟨by decide, by rw [hl2]; show 2 ≤ _; omega⟩; iterate 2 rfl) | (apply ak; iterate 3 rfl) | (apply ah; iterate 3 rfl)
        | (apply aG; iterate 5 rfl) | (apply aK; iterate 4 rfl) | (apply aF (b := false); (iterate 2 rfl); exact aQ; iterate 2 rfl)
        | (apply aV; iterate 4 rfl)
        | (apply iw; (iterate 3 rfl); exact ixA; iterate 2 rfl) | apply EL.nil
        | (apply EC.f0; rfl) | (with_reducible first | apply EK.nc | apply EC.seq | apply EC.r0 | apply EC.k0 | apply EC.ret))
      exact EK.mM [] rfl rfl rfl rfl RL.a RL.a RL.a (WI _) ⟨rfl, rfl⟩
    ·
     rw [if_neg hy]
     repeat
      (first
       | (apply aC (hS); rfl; exact aj.refl _ _; exact enA; iterate 2 rfl) | (apply nC; (iterate 2 rfl); exact hrem; iterate 2 rfl)
       | (apply ak; iterate 3 rfl) | (apply ah; iterate 3 rfl) | (apply aG; iterate 5 rfl) | (apply aK; iterate 4 rfl)
       | (apply aF (b := true); (iterate 2 rfl); exact aQ; iterate 2 rfl) | (apply aF (b := false); (iterate 2 rfl); exact aQ; iterate 2 rfl)
       | (apply aF; iterate 5 rfl) | (apply aV; iterate 4 rfl)
       | (apply iw; (iterate 3 rfl); exact ixA; iterate 2 rfl) | apply EL.nil
       | (apply EC.t0; rfl) | (apply EC.f0; rfl)
       | (with_reducible first | apply EK.nc | apply EC.seq | apply EC.r0 | apply EC.k0 | apply EC.ret | apply EK.aB))
     exact EK.mM [] rfl rfl rfl rfl RL.a RL.a RL.a (WI _) ⟨rfl, rfl⟩
def dN : Nd → D
 | .nil => .v .nilIface
 | .hash w => .ifc 179 (.arr 32 w)
 | .leaf p v => .ifc 233 (.pd (.tup [.bs p, .bs v]))
 | .ext p k => .ifc 237 (.pd (.tup [.bs p, dN k]))
 | .br ks v => .ifc 241 (.pd (.tup [.tup ((List.range 16).map fun i => dN (ks i)), .bs v]))
theorem jV (t : Nd) : (dN t).size = 1 ∧ (dN t).agg = false := by cases t <;> exact ⟨rfl, rfl⟩
def jR (r : Nd × Bool) : R := .tpl [dN r.1, .v (.bool r.2)]
theorem PN (x : Raw) (N : Raw → Nd × Bool) (H : isL x = true → Fn 111 [aX x] (· = jR (N x))) : Fn 189 [aX x] (· = jR (iU N x)) := by
 have h2 := UO x
 refine FnM.toFn ?_
 obtain ⟨l, b, xs⟩ := x
 unfold iU
 cases l with
 | true =>
  rw [if_pos (show isL (.mk true b xs) = true from rfl)]
  have h1 := H rfl
  cases hp : packed (.mk true b xs) with
  | none =>
   rw [hp] at h2
   unfold qG at h2
   dsimp only at h2 ⊢
   clear h1
   unfold aX at h2 ⊢
   refine FnM.walk 36 Tryz.func189 rfl Tryz.ntmps189 (by simp) fun X => ?_
   repeat
    (first
     | (apply dO; iterate 2 rfl) | (apply aC (h2); rfl; exact aj.refl _ _; exact enA; iterate 2 rfl) | (apply ak; iterate 3 rfl)
     | (apply ah; iterate 3 rfl) | (apply aH; iterate 6 rfl) | (apply aA; iterate 4 rfl) | (apply aK; iterate 4 rfl)
     | (apply aI; rfl; exact I.a; iterate 4 rfl) | (apply aF (b := true); (iterate 2 rfl); exact aQ; iterate 2 rfl)
     | (apply cZ; rfl; rfl; rfl; intro _) | apply EL.nil | (apply EC.t0; rfl)
     | (with_reducible first | apply EK.nc | apply EC.seq | apply EC.r0 | apply EC.ret | apply EK.aB))
   exact EK.cO [] rfl rfl rfl RL.a (WI _) ⟨rfl, rfl⟩
  | some pb =>
   rw [hp] at h2
   unfold qG at h2
   dsimp only at h2 ⊢
   by_cases h32 : pb.length < 32
   ·
    rw [if_pos h32]
    unfold jR at h1 ⊢
    generalize N (.mk true b xs) = r at h1 ⊢
    unfold aX at h1 h2 ⊢
    refine FnM.walk 36 Tryz.func189 rfl Tryz.ntmps189 (by simp) fun X => ?_
    repeat
     (first
      | (apply aC (h2); rfl; exact aj.refl _ _; exact enA; iterate 2 rfl) | (apply aC (h1); rfl; exact aj.refl _ _; exact enA; iterate 2 rfl)
      | (apply ak; iterate 3 rfl) | (apply ah; iterate 3 rfl) | (apply aH; iterate 6 rfl) | (apply aA; iterate 4 rfl)
      | (apply aK; iterate 4 rfl) | (apply aI; rfl; exact I.a; iterate 4 rfl) | (apply aF (b := false); (iterate 2 rfl); exact aQ; iterate 2 rfl)
      | (apply aV; iterate 4 rfl) | (apply cZ; rfl; rfl; rfl; intro _) | apply EL.nil
      | (apply EC.t0; rfl) | (apply EC.f0; rfl) | (with_reducible first | apply EK.nc | apply EC.seq | apply EC.r0 | apply EC.k0 | apply EC.ret | apply EK.aB))
    exact EK.cO [] rfl rfl rfl RL.a (WI _) ⟨rfl, rfl⟩
   ·
    rw [if_neg h32]
    clear h1
    unfold aX at h2 ⊢
    refine FnM.walk 36 Tryz.func189 rfl Tryz.ntmps189 (by simp) fun X => ?_
    repeat
     (first
      | (apply aC (h2); rfl; exact aj.refl _ _; exact enA; iterate 2 rfl) | (apply ak; iterate 3 rfl) | (apply ah; iterate 3 rfl)
      | (apply aH; iterate 6 rfl) | (apply aA; iterate 4 rfl) | (apply aK; iterate 4 rfl) | (apply aI; rfl; exact I.a; iterate 4 rfl)
      | (apply aF (b := true); (iterate 2 rfl); exact aQ; iterate 2 rfl) | (apply aF (b := false); (iterate 2 rfl); exact aQ; iterate 2 rfl)
      | (apply aV; iterate 4 rfl) | (apply cZ; rfl; rfl; rfl; intro _) | apply EL.nil
      | (apply EC.t0; rfl) | (with_reducible first | apply EK.nc | apply EC.seq | apply EC.r0 | apply EC.ret | apply EK.aB))
    exact EK.cO [] rfl rfl rfl RL.a (WI _) ⟨rfl, rfl⟩
 | false =>
  clear h2 H
  rw [if_neg (show ¬ isL (.mk false b xs) = true from Bool.false_ne_true)]
  rw [show bts (.mk false b xs) = b from rfl]
  unfold aX
  refine FnM.walk 36 Tryz.func189 rfl Tryz.ntmps189 (by simp) fun X => ?_
  by_cases h0 : b.length = 0
  ·
   rw [if_pos h0]
   have hc : gq .eql (b.length : Int) 0 = some true := by rw [h0]; rfl
   repeat
    (first
     | (apply aF (b := true); (iterate 2 rfl); exact hc; iterate 2 rfl) | (apply ah; iterate 3 rfl) | (apply aH; iterate 6 rfl)
     | (apply aI; rfl; exact I.a; iterate 4 rfl) | (apply aV; iterate 4 rfl) | (apply cZ; rfl; rfl; rfl; intro _) | apply EL.nil
     | (apply EC.t0; rfl) | (apply EC.f0; rfl)
     | (with_reducible first | apply EK.nc | apply EC.seq | apply EC.r0 | apply EC.k0 | apply EC.b0 | apply EC.ret | apply EK.bK | apply EK.aB))
   exact EK.cO [] rfl rfl rfl RL.a (WI _) ⟨rfl, rfl⟩
  ·
   rw [if_neg h0]
   have hc : gq .eql (b.length : Int) 0 = some false := by
    simp only [gq, Xw, beq_eq_false_iff_ne]
    omega
   by_cases h32 : b.length = 32
   ·
    rw [if_pos h32]
    repeat
     (first
      | (apply aF (b := false); (iterate 2 rfl); exact hc; iterate 2 rfl) | (apply ah; iterate 3 rfl) | (apply aH; iterate 6 rfl)
      | (apply aG; iterate 5 rfl) | (apply aI; rfl; exact I.a; iterate 4 rfl) | (apply aF (b := true); (iterate 2 rfl); exact aQ; iterate 2 rfl)
      | (apply aV; iterate 4 rfl) | (apply TQ; (iterate 2 rfl); (focus (first | assumption | omega)); iterate 3 rfl) | (apply iP; iterate 4 rfl)
      | (apply cZ; rfl; rfl; rfl; intro _) | apply EL.nil | (apply EC.t0; rfl) | (apply EC.f0; rfl)
      | (with_reducible first | apply EK.nc | apply EC.seq | apply EC.r0 | apply EC.k0 | apply EC.b0 | apply EC.ret | apply EK.bK | apply EK.aB))
    exact EK.cO [] rfl rfl rfl RL.a (WI _) ⟨rfl, rfl⟩
   ·
    rw [if_neg h32]
    repeat
     (first
      | (apply aF (b := false); (iterate 2 rfl); exact hc; iterate 2 rfl) | (apply ah; iterate 3 rfl) | (apply aH; iterate 6 rfl)
      | (apply aI; rfl; exact I.a; iterate 4 rfl) | (apply aF (b := false); (iterate 2 rfl); exact aQ; iterate 2 rfl) | (apply aV; iterate 4 rfl)
      | (apply cZ; rfl; rfl; rfl; intro _) | apply EL.nil | (apply EC.f0; rfl)
      | (with_reducible first | apply EK.nc | apply EC.seq | apply EC.r0 | apply EC.k0 | apply EC.b0 | apply EC.ret | apply EK.n0))
    exact EK.cO [] rfl rfl rfl RL.a (WI _) ⟨rfl, rfl⟩
theorem Np (p : List UInt8) (t : Nd) : sN (([(0, 1, false), (1, 1, false)] : List (Nat × Nat × Bool)).map fun x => (x.1, x.2.1)) (.tup [.v (.slice none 0 0), .v .nilIface]) [(0, .bs p), (1, dN t)] = some (.tup [.bs p, dN t]) := by
 have h1 := (jV t).1
 have h2 := (jV t).2
 have h3 : (D.bs p).agg = false := rfl
 simp [sN, D.upd, D.vg, D.size, D.sizes, h1, h2, h3]
theorem Sr (x y : Raw) (N : Raw → Nd × Bool) (hx : (bts x).length ≤ 536870912) (H : isL y = true → Fn 111 [aX y] (· = jR (N y))) : Fn 159 [aX x, aX y] (· = jR (qE N x y)) := by
 have hR := PN y N H
 clear H
 refine FnM.toFn ?_
 unfold qE
 obtain ⟨xl, xb, xx⟩ := x
 have hP := SC xb hx
 rw [show isL (.mk xl xb xx) = xl from rfl, show bts (.mk xl xb xx) = xb from rfl]
 unfold rpD at hP
 cases hr : rdP xb with
 | none =>
  rw [hr] at hP
  dsimp only at hP ⊢
  clear hR
  obtain ⟨yl, yb, yx⟩ := y
  unfold aX
  refine FnM.walk 65 Tryz.func159 rfl Tryz.ntmps159 (by simp) fun X => ?_
  cases xl with
  | true =>
   repeat
    (first
     | (apply dO; iterate 2 rfl) | (apply aC (hP); rfl; exact aj.refl _ _; exact enA; iterate 2 rfl) | (apply ak; iterate 3 rfl)
     | (apply ah; iterate 3 rfl) | (apply aH; iterate 6 rfl) | (apply aA; iterate 4 rfl) | (apply aK; iterate 4 rfl)
     | (apply aI; rfl; exact I.a; iterate 4 rfl) | (apply cZ; rfl; rfl; rfl; intro _) | apply EL.nil
     | (apply EC.t0; rfl) | (with_reducible first | apply EK.nc | apply EC.seq | apply EC.r0 | apply EC.b0 | apply EC.ret | apply EK.bK | apply EK.aB))
   exact EK.cO [] rfl rfl rfl RL.a (WI _) ⟨rfl, rfl⟩
  | false =>
   repeat
    (first
     | (apply aC (hP); rfl; exact aj.refl _ _; exact enA; iterate 2 rfl) | (apply ak; iterate 3 rfl) | (apply ah; iterate 3 rfl)
     | (apply aH; iterate 6 rfl) | (apply aA; iterate 4 rfl) | (apply aK; iterate 4 rfl) | (apply bM; iterate 3 rfl)
     | (apply aI; rfl; exact I.a; iterate 4 rfl) | (apply cZ; rfl; rfl; rfl; intro _) | apply EL.nil
     | (apply EC.t0; rfl) | (with_reducible first | apply EK.nc | apply EC.seq | apply EC.r0 | apply EC.b0 | apply EC.ret | apply EK.bK | apply EK.aB))
   exact EK.cO [] rfl rfl rfl RL.a (WI _) ⟨rfl, rfl⟩
 | some pl =>
  obtain ⟨p, lf⟩ := pl
  rw [hr] at hP
  dsimp only at hP ⊢
  cases xl with
  | true =>
   rw [if_pos rfl]
   clear hR
   obtain ⟨yl, yb, yx⟩ := y
   unfold aX
   refine FnM.walk 65 Tryz.func159 rfl Tryz.ntmps159 (by simp) fun X => ?_
   repeat
    (first
     | (apply dO; iterate 2 rfl) | (apply aC (hP); rfl; exact aj.refl _ _; exact enA; iterate 2 rfl) | (apply ak; iterate 3 rfl)
     | (apply ah; iterate 3 rfl) | (apply aH; iterate 6 rfl) | (apply aA; iterate 4 rfl) | (apply aK; iterate 4 rfl)
     | (apply aI; rfl; exact I.a; iterate 4 rfl) | (apply cZ; rfl; rfl; rfl; intro _) | apply EL.nil
     | (apply EC.t0; rfl) | (with_reducible first | apply EK.nc | apply EC.seq | apply EC.r0 | apply EC.b0 | apply EC.ret | apply EK.bK | apply EK.aB))
   exact EK.cO [] rfl rfl rfl RL.a (WI _) ⟨rfl, rfl⟩
  | false =>
   rw [if_neg Bool.false_ne_true]
   cases lf with
   | true =>
    rw [if_pos rfl]
    clear hR
    obtain ⟨yl, yb, yx⟩ := y
    rw [show isL (.mk yl yb yx) = yl from rfl, show bts (.mk yl yb yx) = yb from rfl]
    unfold aX
    refine FnM.walk 65 Tryz.func159 rfl Tryz.ntmps159 (by simp) fun X => ?_
    cases yl with
    | true =>
     rw [Bool.not_true, Yk]
     repeat
      (first
       | (apply aC (hP); rfl; exact aj.refl _ _; exact enA; iterate 2 rfl) | (apply ak; iterate 3 rfl) | (apply ah; iterate 3 rfl)
       | (apply aH; iterate 6 rfl) | (apply aA; iterate 4 rfl) | (apply aK; iterate 4 rfl) | (apply bM; iterate 3 rfl)
       | (apply aI; rfl; exact I.a; iterate 4 rfl) | (apply cZ; rfl; rfl; rfl; intro _) | apply EL.nil
       | (apply EC.t0; rfl) | (apply EC.f0; rfl) | (with_reducible first | apply EK.nc | apply EC.seq | apply EC.r0 | apply EC.b0))
     refine EC.draw 16 (by kernel_rfl) ?_
     simp only [WH, WO, WG, WM]
     repeat
      (first
       | (apply tZ; iterate 2 rfl) | (apply EH.grow (jS rfl rfl); rfl; rfl; rfl) | (apply bV; iterate 3 rfl) | (apply fV; iterate 3 rfl)
       | (apply dJ; iterate 6 rfl) | (apply jr; iterate 4 rfl) | (apply QJ; iterate 3 rfl) | (apply dP; rfl; exact I.a; iterate 4 rfl)
       | (apply rU; iterate 7 rfl) | (apply Eo; iterate 4 rfl) | ((with_reducible apply EH.nil); rfl))
     repeat
      (first
       | (apply ah; iterate 3 rfl) | apply EL.nil | (with_reducible first | apply EK.nc | apply EC.ret | apply EK.bK | apply EK.aB))
     exact EK.cO [] rfl rfl rfl RL.a (WI _) ⟨rfl, rfl⟩
    | false =>
     rw [YD, XO]
     by_cases h0 : 0 < yb.length
     ·
      rw [show decide (0 < yb.length) = true by simp [h0]]
      repeat
       (first
        | (apply aC (hP); rfl; exact aj.refl _ _; exact enA; iterate 2 rfl) | (apply ak; iterate 3 rfl) | (apply ah; iterate 3 rfl)
        | (apply aH; iterate 6 rfl) | (apply aA; iterate 4 rfl) | (apply aK; iterate 4 rfl) | (apply bM; iterate 3 rfl)
        | (apply aI; rfl; exact I.a; iterate 4 rfl) | (apply cZ; rfl; rfl; rfl; intro _) | apply EL.nil
        | (apply EC.t0; rfl) | (apply EC.f0; rfl) | (with_reducible first | apply EK.nc | apply EC.seq | apply EC.r0 | apply EC.b0))
      refine EC.draw 16 (by kernel_rfl) ?_
      simp only [WH, WO, WG, WM]
      repeat
       (first
        | (apply EH.grow (jS rfl rfl); rfl; rfl; rfl) | (apply bV; iterate 3 rfl) | (apply fV; iterate 3 rfl) | (apply dJ; iterate 6 rfl)
        | (apply jr; iterate 4 rfl) | (apply QJ; iterate 3 rfl) | (apply dP; rfl; exact I.a; iterate 4 rfl)
        | (apply kY (b := true); (iterate 2 rfl); exact aQ; iterate 2 rfl) | (apply KG; iterate 4 rfl) | (apply rU; iterate 7 rfl)
        | (apply Eo; iterate 4 rfl) | ((with_reducible apply EH.nil); rfl))
      repeat
       (first
        | (apply ah; iterate 3 rfl) | apply EL.nil | (with_reducible first | apply EK.nc | apply EC.ret | apply EK.bK | apply EK.aB))
      exact EK.cO [] rfl rfl rfl RL.a (WI _) ⟨rfl, rfl⟩
     ·
      rw [show decide (0 < yb.length) = false by simp [h0]]
      have hc : gq .gtr (yb.length : Int) 0 = some false := by
       simp only [gq, Xw, decide_eq_false_iff_not]
       omega
      repeat
       (first
        | (apply aC (hP); rfl; exact aj.refl _ _; exact enA; iterate 2 rfl) | (apply ak; iterate 3 rfl) | (apply ah; iterate 3 rfl)
        | (apply aH; iterate 6 rfl) | (apply aA; iterate 4 rfl) | (apply aK; iterate 4 rfl) | (apply bM; iterate 3 rfl)
        | (apply aI; rfl; exact I.a; iterate 4 rfl) | (apply cZ; rfl; rfl; rfl; intro _) | apply EL.nil
        | (apply EC.t0; rfl) | (apply EC.f0; rfl) | (with_reducible first | apply EK.nc | apply EC.seq | apply EC.r0 | apply EC.b0))
      refine EC.draw 16 (by kernel_rfl) ?_
      simp only [WH, WO, WG, WM]
      repeat
       (first
        | (apply EH.grow (jS rfl rfl); rfl; rfl; rfl) | (apply kY (b := false); (iterate 2 rfl); exact hc; iterate 2 rfl) | (apply bV; iterate 3 rfl)
        | (apply fV; iterate 3 rfl) | (apply dJ; iterate 6 rfl) | (apply jr; iterate 4 rfl) | (apply QJ; iterate 3 rfl)
        | (apply dP; rfl; exact I.a; iterate 4 rfl) | (apply KG; iterate 4 rfl) | (apply rU; iterate 7 rfl) | (apply Eo; iterate 4 rfl)
        | ((with_reducible apply EH.nil); rfl))
      repeat
       (first
        | (apply ah; iterate 3 rfl) | apply EL.nil | (with_reducible first | apply EK.nc | apply EC.ret | apply EK.bK | apply EK.aB))
      exact EK.cO [] rfl rfl rfl RL.a (WI _) ⟨rfl, rfl⟩
   | false =>
    rw [if_neg Bool.false_ne_true]
    unfold jR at hR
    generalize iU N y = k at hR ⊢
    obtain ⟨k, ok⟩ := k
    obtain ⟨yl, yb, yx⟩ := y
    dsimp only at hR ⊢
    have hfe := Np p k
    unfold aX at hR ⊢
    refine FnM.walk 65 Tryz.func159 rfl Tryz.ntmps159 (by simp) fun X => ?_
    cases k with
    | nil =>
     rw [if_neg (show ¬ Nd.nil.zn = true from Bool.false_ne_true)]
     rw [dN] at hR
     repeat
      (first
       | (apply aC (hP); rfl; exact aj.refl _ _; exact enA; iterate 2 rfl) | (apply aC (hR); rfl; exact aj.refl _ _; exact enA; iterate 2 rfl)
       | (apply ak; iterate 3 rfl) | (apply ah; iterate 3 rfl) | (apply aH; iterate 6 rfl) | (apply aA; iterate 4 rfl)
       | (apply aK; iterate 4 rfl) | (apply bM; iterate 3 rfl) | (apply aI; rfl; exact I.a; iterate 4 rfl) | (apply xQ; iterate 5 rfl)
       | (apply cZ; rfl; rfl; rfl; intro _) | apply EL.nil | (apply EC.f0; rfl)
       | (with_reducible first | apply EK.nc | apply EC.seq | apply EC.r0 | apply EC.k0 | apply EC.b0 | apply EC.ret | apply EK.n0))
     exact EK.cO [] rfl rfl rfl RL.a (WI _) ⟨rfl, rfl⟩
    | leaf a b =>
     rw [if_neg (show ¬ (Nd.leaf a b).zn = true from Bool.false_ne_true)]
     rw [dN] at hR
     repeat
      (first
       | (apply aC (hP); rfl; exact aj.refl _ _; exact enA; iterate 2 rfl) | (apply aC (hR); rfl; exact aj.refl _ _; exact enA; iterate 2 rfl)
       | (apply ak; iterate 3 rfl) | (apply ah; iterate 3 rfl) | (apply aH; iterate 6 rfl) | (apply aA; iterate 4 rfl)
       | (apply aK; iterate 4 rfl) | (apply bM; iterate 3 rfl) | (apply aI; rfl; exact I.a; iterate 4 rfl) | (apply ji; iterate 6 rfl)
       | (apply cZ; rfl; rfl; rfl; intro _) | apply EL.nil | (apply EC.f0; rfl)
       | (with_reducible first | apply EK.nc | apply EC.seq | apply EC.r0 | apply EC.k0 | apply EC.b0 | apply EC.ret | apply EK.n0))
     exact EK.cO [] rfl rfl rfl RL.a (WI _) ⟨rfl, rfl⟩
    | ext a b =>
     rw [if_neg (show ¬ (Nd.ext a b).zn = true from Bool.false_ne_true)]
     rw [dN] at hR
     repeat
      (first
       | (apply aC (hP); rfl; exact aj.refl _ _; exact enA; iterate 2 rfl) | (apply aC (hR); rfl; exact aj.refl _ _; exact enA; iterate 2 rfl)
       | (apply ak; iterate 3 rfl) | (apply ah; iterate 3 rfl) | (apply aH; iterate 6 rfl) | (apply aA; iterate 4 rfl)
       | (apply aK; iterate 4 rfl) | (apply bM; iterate 3 rfl) | (apply aI; rfl; exact I.a; iterate 4 rfl) | (apply ji; iterate 6 rfl)
       | (apply cZ; rfl; rfl; rfl; intro _) | apply EL.nil | (apply EC.f0; rfl)
       | (with_reducible first | apply EK.nc | apply EC.seq | apply EC.r0 | apply EC.k0 | apply EC.b0 | apply EC.ret | apply EK.n0))
     exact EK.cO [] rfl rfl rfl RL.a (WI _) ⟨rfl, rfl⟩
    | hash a =>
     rw [if_pos (show (Nd.hash a).zn = true from rfl)]
     rw [jR, dN]
     rw [dN] at hR hfe ⊢
     by_cases h0 : 0 < p.length
     ·
      rw [show decide (0 < p.length) = true by simp [h0], Bool.and_true]
      cases ok with
      | true =>
       repeat
        (first
         | (apply aC (hP); rfl; exact aj.refl _ _; exact enA; iterate 2 rfl) | (apply aC (hR); rfl; exact aj.refl _ _; exact enA; iterate 2 rfl)
         | (apply ES.grow (jS rfl rfl); rfl; rfl; rfl) | (apply ak; iterate 3 rfl) | (apply ah; iterate 3 rfl) | (apply aP; iterate 7 rfl)
         | (apply aA; iterate 4 rfl) | (apply aG; iterate 5 rfl) | (apply aK; iterate 4 rfl) | (apply bM; iterate 3 rfl)
         | (apply aF (b := true); (iterate 2 rfl); exact aQ; iterate 2 rfl) | (apply aV; iterate 4 rfl) | (apply dX; iterate 7 rfl)
         | (apply iP; iterate 4 rfl) | (apply iC; iterate 4 rfl) | (apply ji; iterate 6 rfl) | apply EL.nil
         | (apply EC.t0; rfl) | (apply EC.f0; rfl)
         | (with_reducible first | apply EK.nc | apply EC.seq | apply EC.r0 | apply EC.k0 | apply EC.b0 | apply EC.ret | apply EK.n0 | apply EK.bK | apply EK.aB))
       exact EK.cO [] rfl rfl rfl RL.a (WI _) ⟨rfl, rfl⟩
      | false =>
       repeat
        (first
         | (apply dO; iterate 2 rfl) | (apply aC (hP); rfl; exact aj.refl _ _; exact enA; iterate 2 rfl)
         | (apply aC (hR); rfl; exact aj.refl _ _; exact enA; iterate 2 rfl) | (apply ES.grow (jS rfl rfl); rfl; rfl; rfl) | (apply ak; iterate 3 rfl)
         | (apply ah; iterate 3 rfl) | (apply aP; iterate 7 rfl) | (apply aA; iterate 4 rfl) | (apply aG; iterate 5 rfl)
         | (apply aK; iterate 4 rfl) | (apply bM; iterate 3 rfl) | (apply dX; iterate 7 rfl) | (apply iP; iterate 4 rfl) | (apply iC; iterate 4 rfl)
         | (apply ji; iterate 6 rfl) | apply EL.nil | (apply EC.t0; rfl) | (apply EC.f0; rfl)
         | (with_reducible first | apply EK.nc | apply EC.seq | apply EC.r0 | apply EC.k0 | apply EC.b0 | apply EC.ret | apply EK.n0 | apply EK.bK | apply EK.aB))
       exact EK.cO [] rfl rfl rfl RL.a (WI _) ⟨rfl, rfl⟩
     ·
      rw [show decide (0 < p.length) = false by simp [h0], Bool.and_false]
      have hc : gq .gtr (p.length : Int) 0 = some false := by
       simp only [gq, Xw, decide_eq_false_iff_not]
       omega
      cases ok with
      | true =>
       repeat
        (first
         | (apply aC (hP); rfl; exact aj.refl _ _; exact enA; iterate 2 rfl) | (apply aC (hR); rfl; exact aj.refl _ _; exact enA; iterate 2 rfl)
         | (apply ES.grow (jS rfl rfl); rfl; rfl; rfl) | (apply aF (b := false); (iterate 2 rfl); exact hc; iterate 2 rfl) | (apply ak; iterate 3 rfl)
         | (apply ah; iterate 3 rfl) | (apply aP; iterate 7 rfl) | (apply aA; iterate 4 rfl) | (apply aG; iterate 5 rfl)
         | (apply aK; iterate 4 rfl) | (apply bM; iterate 3 rfl) | (apply aV; iterate 4 rfl) | (apply dX; iterate 7 rfl) | (apply iP; iterate 4 rfl)
         | (apply iC; iterate 4 rfl) | (apply ji; iterate 6 rfl) | apply EL.nil | (apply EC.t0; rfl)
         | (apply EC.f0; rfl) | (with_reducible first | apply EK.nc | apply EC.seq | apply EC.r0 | apply EC.k0 | apply EC.b0 | apply EC.ret | apply EK.n0 | apply EK.bK | apply EK.aB))
       exact EK.cO [] rfl rfl rfl RL.a (WI _) ⟨rfl, rfl⟩
      | false =>
       repeat
        (first
         | (apply dO; iterate 2 rfl) | (apply aC (hP); rfl; exact aj.refl _ _; exact enA; iterate 2 rfl)
         | (apply aC (hR); rfl; exact aj.refl _ _; exact enA; iterate 2 rfl) | (apply ES.grow (jS rfl rfl); rfl; rfl; rfl) | (apply ak; iterate 3 rfl)
         | (apply ah; iterate 3 rfl) | (apply aP; iterate 7 rfl) | (apply aA; iterate 4 rfl) | (apply aG; iterate 5 rfl)
         | (apply aK; iterate 4 rfl) | (apply bM; iterate 3 rfl) | (apply dX; iterate 7 rfl) | (apply iP; iterate 4 rfl) | (apply iC; iterate 4 rfl)
         | (apply ji; iterate 6 rfl) | apply EL.nil | (apply EC.t0; rfl) | (apply EC.f0; rfl)
         | (with_reducible first | apply EK.nc | apply EC.seq | apply EC.r0 | apply EC.k0 | apply EC.b0 | apply EC.ret | apply EK.n0 | apply EK.bK | apply EK.aB))
       exact EK.cO [] rfl rfl rfl RL.a (WI _) ⟨rfl, rfl⟩
    | br a b =>
     rw [if_pos (show (Nd.br a b).zn = true from rfl)]
     rw [jR, dN]
     rw [dN] at hR hfe ⊢
     generalize (List.range 16).map (fun i => dN (a i)) = K at *
     by_cases h0 : 0 < p.length
     ·
      rw [show decide (0 < p.length) = true by simp [h0], Bool.and_true]
      cases ok with
      | true =>
       repeat
        (first
         | (apply aC (hP); rfl; exact aj.refl _ _; exact enA; iterate 2 rfl) | (apply aC (hR); rfl; exact aj.refl _ _; exact enA; iterate 2 rfl)
         | (apply ES.grow (jS rfl rfl); rfl; rfl; rfl) | (apply ak; iterate 3 rfl) | (apply ah; iterate 3 rfl) | (apply aP; iterate 7 rfl)
         | (apply aA; iterate 4 rfl) | (apply aG; iterate 5 rfl) | (apply aK; iterate 4 rfl) | (apply bM; iterate 3 rfl)
         | (apply aF (b := true); (iterate 2 rfl); exact aQ; iterate 2 rfl) | (apply aV; iterate 4 rfl) | (apply dX; iterate 7 rfl)
         | (apply iP; iterate 4 rfl) | (apply iC; iterate 4 rfl) | (apply ji; iterate 6 rfl) | apply EL.nil
         | (apply EC.t0; rfl) | (apply EC.f0; rfl)
         | (with_reducible first | apply EK.nc | apply EC.seq | apply EC.r0 | apply EC.k0 | apply EC.b0 | apply EC.ret | apply EK.n0 | apply EK.bK | apply EK.aB))
       exact EK.cO [] rfl rfl rfl RL.a (WI _) ⟨rfl, rfl⟩
      | false =>
       repeat
        (first
         | (apply dO; iterate 2 rfl) | (apply aC (hP); rfl; exact aj.refl _ _; exact enA; iterate 2 rfl)
         | (apply aC (hR); rfl; exact aj.refl _ _; exact enA; iterate 2 rfl) | (apply ES.grow (jS rfl rfl); rfl; rfl; rfl) | (apply ak; iterate 3 rfl)
         | (apply ah; iterate 3 rfl) | (apply aP; iterate 7 rfl) | (apply aA; iterate 4 rfl) | (apply aG; iterate 5 rfl)
         | (apply aK; iterate 4 rfl) | (apply bM; iterate 3 rfl) | (apply dX; iterate 7 rfl) | (apply iP; iterate 4 rfl) | (apply iC; iterate 4 rfl)
         | (apply ji; iterate 6 rfl) | apply EL.nil | (apply EC.t0; rfl) | (apply EC.f0; rfl)
         | (with_reducible first | apply EK.nc | apply EC.seq | apply EC.r0 | apply EC.k0 | apply EC.b0 | apply EC.ret | apply EK.n0 | apply EK.bK | apply EK.aB))
       exact EK.cO [] rfl rfl rfl RL.a (WI _) ⟨rfl, rfl⟩
     ·
      rw [show decide (0 < p.length) = false by simp [h0], Bool.and_false]
      have hc : gq .gtr (p.length : Int) 0 = some false := by
       simp only [gq, Xw, decide_eq_false_iff_not]
       omega
      cases ok with
      | true =>
       repeat
        (first
         | (apply aC (hP); rfl; exact aj.refl _ _; exact enA; iterate 2 rfl) | (apply aC (hR); rfl; exact aj.refl _ _; exact enA; iterate 2 rfl)
         | (apply ES.grow (jS rfl rfl); rfl; rfl; rfl) | (apply aF (b := false); (iterate 2 rfl); exact hc; iterate 2 rfl) | (apply ak; iterate 3 rfl)
         | (apply ah; iterate 3 rfl) | (apply aP; iterate 7 rfl) | (apply aA; iterate 4 rfl) | (apply aG; iterate 5 rfl)
         | (apply aK; iterate 4 rfl) | (apply bM; iterate 3 rfl) | (apply aV; iterate 4 rfl) | (apply dX; iterate 7 rfl) | (apply iP; iterate 4 rfl)
         | (apply iC; iterate 4 rfl) | (apply ji; iterate 6 rfl) | apply EL.nil | (apply EC.t0; rfl)
         | (apply EC.f0; rfl) | (with_reducible first | apply EK.nc | apply EC.seq | apply EC.r0 | apply EC.k0 | apply EC.b0 | apply EC.ret | apply EK.n0 | apply EK.bK | apply EK.aB))
       exact EK.cO [] rfl rfl rfl RL.a (WI _) ⟨rfl, rfl⟩
      | false =>
       repeat
        (first
         | (apply dO; iterate 2 rfl) | (apply aC (hP); rfl; exact aj.refl _ _; exact enA; iterate 2 rfl)
         | (apply aC (hR); rfl; exact aj.refl _ _; exact enA; iterate 2 rfl) | (apply ES.grow (jS rfl rfl); rfl; rfl; rfl) | (apply ak; iterate 3 rfl)
         | (apply ah; iterate 3 rfl) | (apply aP; iterate 7 rfl) | (apply aA; iterate 4 rfl) | (apply aG; iterate 5 rfl)
         | (apply aK; iterate 4 rfl) | (apply bM; iterate 3 rfl) | (apply dX; iterate 7 rfl) | (apply iP; iterate 4 rfl) | (apply iC; iterate 4 rfl)
         | (apply ji; iterate 6 rfl) | apply EL.nil | (apply EC.t0; rfl) | (apply EC.f0; rfl)
         | (with_reducible first | apply EK.nc | apply EC.seq | apply EC.r0 | apply EC.k0 | apply EC.b0 | apply EC.ret | apply EK.n0 | apply EK.bK | apply EK.aB))
       exact EK.cO [] rfl rfl rfl RL.a (WI _) ⟨rfl, rfl⟩
end E
end Go.Proofs.YtelbhdobjdnglaaGreat
