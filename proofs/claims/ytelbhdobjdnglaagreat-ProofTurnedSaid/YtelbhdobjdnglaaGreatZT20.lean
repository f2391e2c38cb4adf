/-
 Merged: lemmas of this claim.
 Conditions: none.
-/
import Derived.Test.YtelbhdobjdnglaaGreatZT19
import Derived.Test.YtelbhdobjdnglaaGreatZT0
namespace Go.Proofs.YtelbhdobjdnglaaGreat
set_option linter.unusedVariables false
set_option maxRecDepth 20000
set_option maxHeartbeats 32000000
open Go.RowKit Mono Rlp
namespace E
abbrev oB (g gs : Nat) (ns : List Pr) (c : Bool) : Obj := .var g 149 (.tup [.sl 33 (ns.map dNd), .v (ptr gs), .v (.bool c)])
theorem Vy (g gs : Nat) (ns : List Pr) (c : Bool) (v : Value) (S : List Pr) (x : List UInt8) (hs : Srt S) (hl : ns.length ≤ 1000000000) (hS : S.length ≤ 1000000000) (hx : x.length ≤ 1099511627776) :
  FnM 72 [.v (ptr g), .bs x] [oB g gs ns c, sdO gs v, sdR v S] (fun r os' => ∃ v', r = .val (.arr 32 (hash x)) ∧ os' = [oB g gs (gG (hash x, x) ns) (c || !okN (hash x, x) S), sdO gs v', sdR v' (gG (hash x, x) S)]) := by
 have hK := vg x hx
 have hP := Cc ns (hash x, x) hl
 have hA := Oz gs v S (hash x) x hs hS (by omega)
 have hnl := (KD (T := 78) (by kernel_rfl) (some ⟨gs, 0, none⟩)).2
 refine FnM.walk 38 Tryz.func72 rfl Tryz.ntmps72 (by simp) fun X => ?_
 repeat
  (first
   | (apply aA (hK); rfl; exact aj.refl _ _; exact enA; iterate 2 rfl) | (apply ak; iterate 3 rfl) | (apply aT; rfl; rfl; rfl; intro _)
   | (apply aI; rfl; exact saA; iterate 4 rfl) | apply EL.nil
   | (with_reducible first | apply EK.nc | apply EC.seq | apply EC.r0))
 refine EC.le (Le.pick [3, 4, 0, 1, 2] [_, _, _, _, _] rfl (by decide) rfl) ?_
 refine EC.iU 15 [0, 1, 2, 3, 4, 5, 6, 7, 8, 9, 10, 11] [12, 13, 14] [_, _] _ (by kernel_rfl) (by kernel_rfl) rfl ?_
 simp only [bJ, XD, XG, Xz, Xy]
 repeat
  (first
   | (apply lH; (iterate 2 rfl); exact hnl; iterate 2 rfl) | (apply aX; iterate 3 rfl) | (apply dH; iterate 6 rfl)
   | (apply dw; rfl; exact I.a; iterate 4 rfl) | (apply gU; iterate 3 rfl))
 refine EM.nil ?_
 repeat (first | rw [Xr] | rw [List.nil_append])
 refine CH.mut (os := [_, _]) (rest := []) rfl rfl (Iy hA rfl rfl (aj.refl _ _) (by intro _ _; simp [go_sem])) ?_
 rintro _ _ ⟨v', rfl, rfl⟩
 try simp only [St.put]
 repeat (first | rw [Xr] | rw [List.nil_append])
 cases hok : okN (hash x, x) S with
 | true =>
  rw [show (c || !true) = c by cases c <;> rfl]
  refine CH.cut 2 ?_
  simp only [Xp, Xu, mP, Xq]
  repeat
   (first
    | (apply jI; iterate 4 rfl) | (apply G8; iterate 3 rfl))
  refine EM.nil ?_
  repeat (first | rw [Xr] | rw [List.nil_append])
  refine CH.nil ?_
  try simp only [mP, Xq]
  repeat
   (first
    | apply EL.nil | (apply EC.f0; rfl) | (with_reducible first | apply EK.nc | apply EC.seq | apply EC.k0))
  refine EC.le (Le.pick [4, 0, 1, 2, 3] [_, _, _, _, _] rfl (by decide) rfl) ?_
  refine EC.iU 12 [0, 1, 2, 3, 5, 6, 7, 9, 10] [4, 8, 11] [_] _ (by kernel_rfl) (by kernel_rfl) rfl ?_
  simp only [bJ, XD, XG, Xz, Xy]
  repeat
   (first
    | (apply aX; iterate 3 rfl) | (apply dH; iterate 6 rfl) | (apply dw; rfl; exact I.a; iterate 4 rfl) | (apply iM; iterate 7 rfl)
    | (apply gU; iterate 3 rfl))
  refine EM.nil ?_
  repeat (first | rw [Xr] | rw [List.nil_append])
  refine CH.cut 2 ?_
  simp only [Xp, Xu, mP, Xq]
  repeat
   (first
    | (apply fD (hP); rfl; exact aj.refl _ _; exact enA; iterate 2 rfl) | (apply dw; rfl; exact I.a; iterate 4 rfl))
  refine EM.nil ?_
  repeat (first | rw [Xr] | rw [List.nil_append])
  refine CH.mut (os := [_]) (rest := []) rfl rfl (l9 (iQ rfl rfl rfl rfl rfl)) ?_
  rintro _ _ ⟨rfl, rfl⟩
  try simp only [St.put]
  repeat (first | rw [Xr] | rw [List.nil_append])
  refine CH.nil ?_
  try simp only [mP, Xq]
  repeat
   (first
    | (apply bH; rfl; exact I.a; iterate 4 rfl) | (apply aI; rfl; exact saA; iterate 4 rfl) | apply EL.nil
    | (with_reducible first | apply EK.nc | apply EC.seq | apply EC.r0 | apply EC.ret))
  refine EK.kW 4 [oB g gs (gG (hash x, x) ns) c, sdO gs v', sdR v' (gG (hash x, x) S)] rfl rfl rfl rfl ?_ (by (repeat first | exact Xt _ | apply List.Sublist.cons_cons | apply List.Sublist.cons)) ⟨v', rfl, rfl⟩
  (exact RL.a)
 | false =>
  rw [show (c || !false) = true by cases c <;> rfl]
  refine CH.cut 2 ?_
  simp only [Xp, Xu, mP, Xq]
  repeat
   (first
    | (apply jI; iterate 4 rfl) | (apply G8; iterate 3 rfl))
  refine EM.nil ?_
  repeat (first | rw [Xr] | rw [List.nil_append])
  refine CH.nil ?_
  try simp only [mP, Xq]
  repeat
   (first
    | (apply ak; iterate 3 rfl) | (apply bn; iterate 6 rfl) | (apply jl; iterate 3 rfl)
    | (apply aI; rfl; exact saA; iterate 4 rfl) | apply EL.nil
    | (apply EC.t0; rfl) | (with_reducible first | apply EK.nc | apply EC.seq | apply EC.r0))
  refine EC.le (Le.pick [4, 0, 1, 2, 3] [_, _, _, _, _] rfl (by decide) rfl) ?_
  refine EC.iU 12 [0, 1, 2, 3, 5, 6, 7, 9, 10] [4, 8, 11] [_] _ (by kernel_rfl) (by kernel_rfl) rfl ?_
  simp only [bJ, XD, XG, Xz, Xy]
  repeat
   (first
    | (apply aX; iterate 3 rfl) | (apply dH; iterate 6 rfl) | (apply dw; rfl; exact I.a; iterate 4 rfl) | (apply iM; iterate 7 rfl)
    | (apply gU; iterate 3 rfl))
  refine EM.nil ?_
  repeat (first | rw [Xr] | rw [List.nil_append])
  refine CH.cut 2 ?_
  simp only [Xp, Xu, mP, Xq]
  repeat
   (first
    | (apply fD (hP); rfl; exact aj.refl _ _; exact enA; iterate 2 rfl) | (apply dw; rfl; exact I.a; iterate 4 rfl))
  refine EM.nil ?_
  repeat (first | rw [Xr] | rw [List.nil_append])
  refine CH.mut (os := [_]) (rest := []) rfl rfl (l9 (iQ rfl rfl rfl rfl rfl)) ?_
  rintro _ _ ⟨rfl, rfl⟩
  try simp only [St.put]
  repeat (first | rw [Xr] | rw [List.nil_append])
  refine CH.nil ?_
  try simp only [mP, Xq]
  repeat
   (first
    | (apply bH; rfl; exact I.a; iterate 4 rfl) | (apply aI; rfl; exact saA; iterate 4 rfl) | apply EL.nil
    | (with_reducible first | apply EK.nc | apply EC.seq | apply EC.r0 | apply EC.ret))
  refine EK.kW 4 [oB g gs (gG (hash x, x) ns) true, sdO gs v', sdR v' (gG (hash x, x) S)] rfl rfl rfl rfl ?_ (by (repeat first | exact Xt _ | apply List.Sublist.cons_cons | apply List.Sublist.cons)) ⟨v', rfl, rfl⟩
  (exact RL.a)
structure SS where
 ns : List Pr
 c : Bool
 v : Value
 S : List Pr
 srt : Srt S
def SSR (U : List (List UInt8)) (C : Nat) (s t : SS) : Prop := t.ns.length ≤ s.ns.length + C ∧ t.S.length ≤ s.S.length + C ∧ (∀ y ∈ s.S, y ∈ t.S) ∧ (t.c = false → s.c = false ∧ ∀ x ∈ U, (hash x, x) ∈ t.S)
def WS (g gs : Nat) : Bld g where
 σ := SS
 os s := [oB g gs s.ns s.c, sdO gs s.v, sdR s.v s.S]
 sz s := max s.ns.length s.S.length
 Rl U C s t := SSR U C s t
 none s := ⟨Nat.le_refl _, Nat.le_refl _, fun _ h => h, fun h => ⟨h, fun x hx => by cases hx⟩⟩
 app h1 h2 := ⟨by have := h1.1; have := h2.1; omega, by have := h1.2.1; have := h2.2.1; omega, fun y hy => h2.2.2.1 y (h1.2.2.1 y hy), fun h => by
  obtain ⟨a1, a2⟩ := h2.2.2.2 h
  obtain ⟨b1, b2⟩ := h1.2.2.2 a1
  refine ⟨b1, fun x hx => ?_⟩
  rcases XJ.1 hx with hx | hx
  · exact h2.2.2.1 _ (b2 x hx)
  · exact a2 x hx⟩
 more h1 h2 := ⟨by have := h1.1; omega, by have := h1.2.1; omega, h1.2.2.1, h1.2.2.2⟩
 size h := by have := h.1; have := h.2.1; omega
 put s x h1 h2 := (Vy g gs s.ns s.c s.v s.S x s.srt (by omega) (by omega) h2).mono fun r os' ⟨v', hr, ho⟩ => ⟨⟨gG (hash x, x) s.ns, s.c || !okN (hash x, x) s.S, v', gG (hash x, x) s.S, uD _ _ s.srt⟩, ⟨nV _ _, nV _ _, fun y hy => nU _ _ _ hy, fun h => by
  have h1 : s.c = false ∧ okN (hash x, x) s.S = true := by simpa using h
  refine ⟨h1.1, fun y hy => ?_⟩
  obtain rfl : y = x := by simpa using hy
  exact Dn _ _ h1.2⟩, hr, ho⟩
def bQ (p : List UInt8) (l : List Pr) : Nat := l.foldl (fun n x => if common p x.1 < n then common p x.1 else n) p.length
theorem Jb (p : List UInt8) (l : List Pr) (x : Pr) : bQ p (l ++ [x]) = if common p x.1 < bQ p l then common p x.1 else bQ p l := by
 unfold bQ
 rw [Zf]
 rfl
theorem Ci (a b : List UInt8) : common a b ≤ a.length ∧ common a b ≤ b.length := ⟨(eY a b).2.1, (eY a b).2.2⟩
theorem jO (p : List UInt8) : ∀ (l : List Pr) (m : Nat), m ≤ p.length → (l.foldl (fun n x => if common p x.1 < n then common p x.1 else n) m) ≤ m ∧ ∀ x ∈ l, (l.foldl (fun n x => if common p x.1 < n then common p x.1 else n) m) ≤ common p x.1
 | [], m, h => ⟨Nat.le_refl _, fun x hx => by cases hx⟩
 | y :: l, m, h => by
  rw [Yr]
  split
  ·
   rename_i hlt
   obtain ⟨h1, h2⟩ := jO p l (common p y.1) (Ci p y.1).1
   refine ⟨by omega, fun x hx => ?_⟩
   rcases XB.1 hx with rfl | hx
   · exact h1
   · exact h2 x hx
  ·
   rename_i hge
   obtain ⟨h1, h2⟩ := jO p l m h
   refine ⟨h1, fun x hx => ?_⟩
   rcases XB.1 hx with rfl | hx
   · omega
   · exact h2 x hx
def headD (d : Nat) (x : Pr) : Bool := match x.1 with
 | [] => false
 | c :: _ => c.toNat == d
def gJ (d : Nat) (x : Pr) : Bool := match x.1 with
 | [] => false
 | c :: _ => decide (c.toNat < d)
def aW (d : Nat) (l : List Pr) : List Pr := bW 1 (l.filter (headD d))
def iJ (l : List Pr) : List UInt8 := l.foldl (fun v x => if x.1.isEmpty then x.2 else v) []
theorem KY (l : List Pr) (x : Pr) : iJ (l ++ [x]) = if x.1.isEmpty then x.2 else iJ l := by
 unfold iJ
 rw [Zf]
 rfl
def aB : Nat → List Pr → Raw
 | 0, _ => .mk false [] []
 | f + 1, l => match l with
  | [] => .mk true [] []
  | [x] => .mk true [] [.mk false (ppk x.1 true) [], .mk false x.2 []]
  | x :: y :: r =>
   if 0 < bQ x.1 (y :: r) then .mk true [] [.mk false (ppk (x.1.take (bQ x.1 (y :: r))) false) [], dX (bW (bQ x.1 (y :: r)) (x :: y :: r)) (aB f (bW (bQ x.1 (y :: r)) (x :: y :: r)))]
   else .mk true [] ((List.range 16).map (fun d => dX (aW d (x :: y :: r)) (aB f (aW d (x :: y :: r)))) ++ [.mk false (iJ (x :: y :: r)) []])
def bZ : Nat → List Pr → List (List UInt8)
 | 0, _ => []
 | f + 1, l => match l with
  | [] => []
  | [_] => []
  | x :: y :: r =>
   if 0 < bQ x.1 (y :: r) then jG (bW (bQ x.1 (y :: r)) (x :: y :: r)) (bZ f (bW (bQ x.1 (y :: r)) (x :: y :: r))) (aB f (bW (bQ x.1 (y :: r)) (x :: y :: r)))
   else ((List.range 16).map fun d => jG (aW d (x :: y :: r)) (bZ f (aW d (x :: y :: r))) (aB f (aW d (x :: y :: r)))).flatten
theorem Qp (l : List Pr) (d : Nat) : (l.filter (gJ (d + 1))).length = (l.filter (gJ d)).length + (l.filter (headD d)).length := by
 induction l with
 | nil => rfl
 | cons x l ih =>
  obtain ⟨p, v⟩ := x
  cases p with
  | nil =>
   rw [Ye (p := gJ (d + 1)) (by simp [gJ]; try omega), Ye (p := gJ d) (by simp [gJ]; try omega), Ye (p := headD d) (by simp [headD]; try omega)]
   exact ih
  | cons c p =>
   by_cases h1 : c.toNat = d
   ·
    rw [YP (p := gJ (d + 1)) (by simp [gJ]; try omega), Ye (p := gJ d) (by simp [gJ]; try omega), YP (p := headD d) (by simp [headD]; try omega), List.length_cons, List.length_cons]
    omega
   ·
    by_cases h2 : c.toNat < d
    ·
     rw [YP (p := gJ (d + 1)) (by simp [gJ]; try omega), YP (p := gJ d) (by simp [gJ]; try omega), Ye (p := headD d) (by simp [headD]; try omega), List.length_cons, List.length_cons]
     omega
    ·
     rw [Ye (p := gJ (d + 1)) (by simp [gJ]; try omega), Ye (p := gJ d) (by simp [gJ]; try omega), Ye (p := headD d) (by simp [headD]; try omega)]
     exact ih
theorem cnt_le (l : List Pr) (d : Nat) : (l.filter (gJ d)).length ≤ l.length := Y9 _ _
theorem vS (n : Nat) (l : List Pr) : (bW n l).length = l.length := List.length_map _
theorem Pm (d : Nat) (l : List Pr) : (aW d l).length = (l.filter (headD d)).length := vS _ _
theorem oC {d : Nat} {l : List Pr} {y : Pr} (h : y ∈ aW d l) : ∃ x ∈ l, headD d x = true ∧ y = (x.1.drop 1, x.2) := by
 obtain ⟨x, hx, rfl⟩ := XA.1 h
 exact ⟨x, (Yb.1 hx).1, (Yb.1 hx).2, rfl⟩
theorem oG {d : Nat} {x : Pr} (h : headD d x = true) : 1 ≤ x.1.length := by
 unfold headD at h
 split at h
 · cases h
 ·
  rename_i e
  rw [e]
  simp
def QO {g : Nat} (B : Bld g) (f : Nat) : Prop := ∀ (l : List Pr) (s : B.σ), l.isEmpty = false → (∀ x ∈ l, x.1.length < f) → (∀ x ∈ l, x.1.length ≤ 536870912) → l.length ≤ 1000000 → B.sz s + f * l.length ≤ 1000000000 →
 FnM 71 [.v (ptr g), .sl 2 (l.map dPr)] (B.os s) (fun r os' => ∃ t, B.Rl (bZ f l) (f * l.length) s t ∧ r = .val (aO (aB f l)) ∧ os' = B.os t)
theorem O9 {g : Nat} (B : Bld g) (f : Nat) (x : Pr) (s : B.σ) (hx : x.1.length ≤ 536870912) : FnM 71 [.v (ptr g), .sl 2 ([x].map dPr)] (B.os s) (fun r os' => ∃ t, B.Rl (bZ (f + 1) [x]) ((f + 1) * [x].length) s t ∧ r = .val (aO (aB (f + 1) [x])) ∧ os' = B.os t) := by
 have h1 := Gm x.1 true hx
 have h2 := mF (ppk x.1 true)
 have h3 := mF x.2
 have h4 := DR [.mk false (ppk x.1 true) [], .mk false x.2 []]
 rw [aB, bZ]
 generalize (joinL (hdr x.1 true ++ x.1)).isSome = bo at h1
 generalize ppk x.1 true = pp at h1 h2 h4 ⊢
 have hd : ([x].map dPr)[0]? = some (.tup [.bs x.1, .bs x.2]) := rfl
 refine FnM.walk 151 Tryz.func71 rfl Tryz.ntmps71 (by simp) fun X => ?_
 repeat
  (first
   | (apply aA (h1); rfl; exact aj.refl _ _; exact enA; iterate 2 rfl)
   | (apply bT (d := .tup [.bs x.1, .bs x.2]); (iterate 4 rfl); exact ⟨by decide, rfl⟩; iterate 2 rfl) | (apply ak; iterate 3 rfl) | (apply ah; iterate 3 rfl)
   | (apply bC; iterate 7 rfl) | (apply aF; iterate 4 rfl) | (apply aH; iterate 5 rfl)
   | (apply aC (b := true); (iterate 2 rfl); exact aK; iterate 2 rfl) | (apply aJ; iterate 4 rfl) | (apply aT; rfl; rfl; rfl; intro _) | apply EL.nil
   | (apply EC.t0; rfl) | (with_reducible first | apply EK.nc | apply EC.seq | apply EC.r0))
 refine EC.iU 10 [0, 1, 2, 3, 4, 5, 6, 7, 8] [9] [_] _ (by kernel_rfl) (by kernel_rfl) rfl ?_
 simp only [bJ, XD, XG, Xz, Xy]
 repeat
  (first
   | (apply fD (h2); rfl; exact aj.refl _ _; exact enA; iterate 2 rfl) | (apply fD (h3); rfl; exact aj.refl _ _; exact enA; iterate 2 rfl)
   | (apply fD (h4); rfl; exact aj.refl _ _; exact enA; iterate 2 rfl)
   | (apply dJ (d := .tup [.bs x.1, .bs x.2]); (iterate 4 rfl); exact ⟨by decide, rfl⟩; iterate 2 rfl) | (apply aX; iterate 3 rfl) | (apply dA; iterate 7 rfl)
   | (apply bD; iterate 5 rfl) | (apply kK; iterate 9 rfl))
 refine EM.nil ?_
 repeat (first | rw [Xr] | rw [List.nil_append])
 refine CH.mut (os := [_]) (rest := []) rfl rfl (l9 (iQ rfl rfl rfl rfl rfl)) ?_
 rintro _ _ ⟨rfl, rfl⟩
 try simp only [St.put]
 repeat (first | rw [Xr] | rw [List.nil_append])
 refine CH.nil ?_
 try simp only [mP, Xq]
 repeat
  (first
   | apply EL.nil | (with_reducible first | apply EK.nc | apply EC.ret | apply EK.aG))
 refine EK.kW 0 (B.os s) rfl rfl rfl rfl ?_ (by (repeat first | exact X4 _ | apply List.Sublist.cons_cons | apply List.Sublist.cons)) ⟨s, B.more (B.none s) (XQ _), rfl, rfl⟩
 (exact RL.a)
theorem MO {g : Nat} (B : Bld g) (f : Nat) (ih : QO B f) (x y : Pr) (r : List Pr) (s : B.σ) (hf : ∀ z ∈ x :: y :: r, z.1.length < f + 1) (hp : ∀ z ∈ x :: y :: r, z.1.length ≤ 536870912) (hl : (x :: y :: r).length ≤ 1000000) (hN : B.sz s + (f + 1) * (x :: y :: r).length ≤ 1000000000) :
  FnM 71 [.v (ptr g), .sl 2 ((x :: y :: r).map dPr)] (B.os s) (fun r' os' => ∃ t, B.Rl (bZ (f + 1) (x :: y :: r)) ((f + 1) * (x :: y :: r).length) s t ∧ r' = .val (aO (aB (f + 1) (x :: y :: r))) ∧ os' = B.os t) := by
 obtain ⟨res, hres⟩ : ∃ res, aB (f + 1) (x :: y :: r) = res := ⟨_, rfl⟩
 obtain ⟨U, hU⟩ : ∃ U, bZ (f + 1) (x :: y :: r) = U := ⟨_, rfl⟩
 rw [hres, hU]
 rw [aB] at hres
 rw [bZ] at hU
 have hml : ((x :: y :: r).map dPr).length = r.length + 1 + 1 := by simp
 have hLl : (x :: y :: r).length = r.length + 1 + 1 := by simp
 have hd0 : ((x :: y :: r).map dPr)[0]? = some (.tup [.bs x.1, .bs x.2]) := rfl
 have hdi : ∀ j, (hj : j < (y :: r).length) → ((x :: y :: r).map dPr)[j + 1]? = some (.tup [.bs (y :: r)[j].1, .bs (y :: r)[j].2]) := fun j hj => by
  rw [X0, Xy, XK, List.getElem?_eq_getElem hj]
  rfl
 have htl : (y :: r).length = r.length + 1 := rfl
 obtain ⟨L, hL⟩ : ∃ L, x :: y :: r = L := ⟨_, rfl⟩
 rw [hL] at hres hU hml hLl hd0 hdi hf hp hl hN ⊢
 refine FnM.walk 151 Tryz.func71 rfl Tryz.ntmps71 (by simp) fun X => ?_
 have hm2 : (L.map dPr).length ≠ 1 := by omega
 generalize hDs : L.map dPr = Ds at hml hd0 hdi hm2 ⊢
 repeat
  (first
   | (apply bT (d := .tup [.bs x.1, .bs x.2]); (iterate 4 rfl); exact ⟨by decide, hd0⟩; iterate 2 rfl) | (apply ak; iterate 3 rfl) | (apply ah; iterate 3 rfl)
   | (apply bC; iterate 7 rfl) | (apply aH; iterate 5 rfl) | (apply aC (b := false); (iterate 2 rfl); exact aK; iterate 2 rfl)
   | (apply aP; iterate 4 rfl) | (apply aJ; iterate 4 rfl) | (apply aT; rfl; rfl; rfl; intro _) | apply EL.nil
   | (apply EC.f0; rfl) | (with_reducible first | apply EK.nc | apply EC.seq | apply EC.r0 | apply EC.k0 | apply EC.b0))
 rename_i g4
 refine EC.loop (ι := {j : Nat // j ≤ (y :: r).length})
  (fun j => ⟨[(8, .val (.v (.int .i64 ((j.1 + 1 : Nat) : Int)))), (7, .val (.v (.int .i64 (bQ x.1 ((y :: r).take j.1) : Nat)))), (0, .val (.v (ptr g))), (1, .val (.sl 2 Ds)), (4, .val (.v (.pointer (some ⟨g4, 0, none⟩))))], (.var g4 138 (.tup [.v (.bool false), .v (.slice none 0 0), .v (.slice none 0 0)]) :: B.os s), []⟩)
  (fun j => (y :: r).length - j.1) ⟨0, XQ _⟩ ?_ ?_
 · exact (Le.keep (by repeat first | exact trivial | refine ⟨rfl, ?_⟩) (by repeat first | exact X4 _ | apply List.Sublist.cons_cons | apply List.Sublist.cons) (by simp))
 rintro ⟨j, hj⟩
 dsimp only at hj ⊢
 by_cases hlt : j < (y :: r).length
 ·
  have hd := hdi j hlt
  have hc := Cb x.1 (y :: r)[j].1
  have hsn := Jb x.1 ((y :: r).take j) (y :: r)[j]
  rw [← XE hlt] at hsn
  have hix : ((j + 1 : Nat) : Int).toNat = j + 1 := XL _
  by_cases hcl : common x.1 (y :: r)[j].1 < bQ x.1 ((y :: r).take j)
  ·
   rw [if_pos hcl] at hsn
   rw [← hsn] at hc hcl
   generalize (y :: r)[j] = z at hd hc
   generalize bQ x.1 ((y :: r).take j) = n0 at hcl ⊢
   generalize hn1 : bQ x.1 ((y :: r).take (j + 1)) = n1 at hc hcl hsn
   repeat
    (first
     | (apply ak; iterate 3 rfl) | (apply aC (b := true); (iterate 2 rfl); exact aK; iterate 2 rfl) | (apply aJ; iterate 4 rfl) | apply EL.nil
     | (apply EC.t0; rfl) | (with_reducible first | apply EK.nc | apply EC.seq | apply EC.r0 | apply EC.k0 | apply EC.b0))
   refine EC.draw 11 (by kernel_rfl) ?_
   simp only [Xp, Xu, mP, Xq]
   repeat
    (first
     | (apply fD (hc); rfl; exact aj.refl _ _; exact enA; iterate 2 rfl)
     | (apply dJ (d := .tup [.bs x.1, .bs x.2]); (iterate 4 rfl); exact ⟨by decide, hd0⟩; iterate 2 rfl)
     | (apply dJ (d := .tup [.bs z.1, .bs z.2]); (iterate 4 rfl); exact ⟨by omega, by rw [hix]; exact hd⟩; iterate 2 rfl) | (apply aX; iterate 3 rfl)
     | (apply fA; iterate 3 rfl) | (apply dA; iterate 7 rfl) | (apply bD; iterate 5 rfl) | ((with_reducible apply EH.nil); rfl))
   repeat
    (first
     | (apply ak; iterate 3 rfl) | (apply ah; iterate 3 rfl) | (apply aC (b := true); (iterate 2 rfl); exact aK; iterate 2 rfl)
     | (apply jh; (iterate 3 rfl); (focus omega); (focus omega); iterate 2 rfl) | apply EL.nil | (apply EC.t0; rfl)
     | (with_reducible first | apply EK.nc | apply EC.seq | apply EC.r0 | apply EK.n0))
   refine EK.again ⟨j + 1, hlt⟩ (by dsimp only; omega) ?_
   dsimp only
   rw [hn1, show (((j + 1 : Nat) : Int) + 1) = ((j + 1 + 1 : Nat) : Int) by omega]
   exact (Le.keep (by repeat first | exact trivial | refine ⟨rfl, ?_⟩) (by repeat first | exact X4 _ | apply List.Sublist.cons_cons | apply List.Sublist.cons) (by simp))
  ·
   rw [if_neg hcl] at hsn
   generalize (y :: r)[j] = z at hd hc hcl
   generalize hn1 : bQ x.1 ((y :: r).take (j + 1)) = n1 at hsn
   rw [← hsn] at hcl ⊢
   generalize common x.1 z.1 = n2 at hc hcl
   repeat
    (first
     | (apply ak; iterate 3 rfl) | (apply aC (b := true); (iterate 2 rfl); exact aK; iterate 2 rfl) | (apply aJ; iterate 4 rfl) | apply EL.nil
     | (apply EC.t0; rfl) | (with_reducible first | apply EK.nc | apply EC.seq | apply EC.r0 | apply EC.k0 | apply EC.b0))
   refine EC.draw 11 (by kernel_rfl) ?_
   simp only [Xp, Xu, mP, Xq]
   repeat
    (first
     | (apply fD (hc); rfl; exact aj.refl _ _; exact enA; iterate 2 rfl)
     | (apply dJ (d := .tup [.bs x.1, .bs x.2]); (iterate 4 rfl); exact ⟨by decide, hd0⟩; iterate 2 rfl)
     | (apply dJ (d := .tup [.bs z.1, .bs z.2]); (iterate 4 rfl); exact ⟨by omega, by rw [hix]; exact hd⟩; iterate 2 rfl) | (apply aX; iterate 3 rfl)
     | (apply fA; iterate 3 rfl) | (apply dA; iterate 7 rfl) | (apply bD; iterate 5 rfl) | ((with_reducible apply EH.nil); rfl))
   repeat
    (first
     | (apply ak; iterate 3 rfl) | (apply ah; iterate 3 rfl) | (apply aC (b := false); (iterate 2 rfl); exact aK; iterate 2 rfl)
     | (apply jh; (iterate 3 rfl); (focus omega); (focus omega); iterate 2 rfl) | apply EL.nil | (apply EC.f0; rfl)
     | (with_reducible first | apply EK.nc | apply EC.seq | apply EC.r0 | apply EC.k0 | apply EK.n0))
   refine EK.again ⟨j + 1, hlt⟩ (by dsimp only; omega) ?_
   dsimp only
   rw [hn1, show (((j + 1 : Nat) : Int) + 1) = ((j + 1 + 1 : Nat) : Int) by omega]
   exact (Le.keep (by repeat first | exact trivial | refine ⟨rfl, ?_⟩) (by repeat first | exact X4 _ | apply List.Sublist.cons_cons | apply List.Sublist.cons) (by simp))
 have hje : j = (y :: r).length := by omega
 rw [show (y :: r).take j = y :: r by rw [hje, Yl]]
 clear hdi
 have hcm := jO x.1 (y :: r) x.1.length (Nat.le_refl _)
 change bQ x.1 (y :: r) ≤ x.1.length ∧ _ at hcm
 have hcx : ∀ z ∈ L, bQ x.1 (y :: r) ≤ z.1.length := fun z hz => by
  rw [← hL] at hz
  rcases XB.1 hz with rfl | hz
  · exact hcm.1
  · exact Yi (hcm.2 z hz) (Ci _ _).2
 have hxL : x ∈ L := by rw [← hL]; exact List.mem_cons_self
 by_cases hpos : 0 < bQ x.1 (y :: r)
 ·
  rw [if_pos hpos] at hres hU
  have hpx := hp x hxL
  generalize bQ x.1 (y :: r) = n at hpos hres hU hcm hcx ⊢
  have h1 := Gm (x.1.take n) false (by rw [List.length_take]; omega)
  have h2 := mF (ppk (x.1.take n) false)
  have h3 := PY L n hl hcx
  rw [hDs] at h3
  have hrl := vS n L
  have h4 := Uh B s (bW n L) (aB f (bW n L)) (bZ f (bW n L)) (f * L.length) (by rw [YA] at hN; omega) fun he => by
   have := ih (bW n L) s he (fun z hz => by
    obtain ⟨w, hw, rfl⟩ := XA.1 hz
    have := hf w hw
    have := hcx w hw
    show (w.1.drop n).length < f
    rw [Xx]
    omega) (fun z hz => by
    obtain ⟨w, hw, rfl⟩ := XA.1 hz
    have := hp w hw
    show (w.1.drop n).length ≤ _
    rw [Xx]
    omega) (by omega) (by rw [hrl]; rw [YA] at hN; omega)
   rw [hrl] at this
   exact this
  rw [hU] at h4
  generalize dX (bW n L) (aB f (bW n L)) = rx at h4 hres
  generalize ppk (x.1.take n) false = pp at h1 h2 hres
  generalize (joinL (hdr (x.1.take n) false ++ x.1.take n)).isSome = bo at h1
  generalize (bW n L).map dPr = Dr at h3 h4
  have h5 := DR [.mk false pp [], rx]
  have hmn : (f + 1) * L.length = f * L.length + L.length := by rw [YA, YQ]
  repeat
   (first
    | (apply bT (d := .tup [.bs x.1, .bs x.2]); (iterate 4 rfl); exact ⟨by decide, hd0⟩; iterate 2 rfl)
    | (apply QN; (iterate 3 rfl); exact ⟨by omega, by rw [XL]; omega⟩; (iterate 2 rfl); rw [XL])
    | (apply aA (h1); rfl; exact aj.refl _ _; exact enA; iterate 2 rfl) | (apply aA (h2); rfl; exact aj.refl _ _; exact enA; iterate 2 rfl)
    | (apply aA (h3); rfl; exact aj.refl _ _; exact enA; iterate 2 rfl) | (apply ak; iterate 3 rfl) | (apply ah; iterate 3 rfl)
    | (apply bC; iterate 7 rfl) | (apply aF; iterate 4 rfl) | (apply aH; iterate 5 rfl)
    | (apply aC (b := true); (iterate 2 rfl); exact aK; iterate 2 rfl) | (apply aC (b := false); (iterate 2 rfl); exact aK; iterate 2 rfl)
    | (apply aJ; iterate 4 rfl) | apply EL.nil | (apply EC.t0; rfl) | (apply EC.f0; rfl)
    | (with_reducible first | apply EK.nc | apply EC.seq | apply EC.r0 | apply EC.x0 | apply EK.s0 | apply EK.aY))
  refine yg h4 [_] rfl rfl (aj.refl _ _) (by intro _ _; simp [go_sem]) rfl rfl ?_
  rintro _ _ ⟨s1, hn1, rfl, rfl⟩
  simp only [Xr, List.nil_append]
  have hn2 : B.Rl U ((f + 1) * L.length) s s1 := B.more hn1 (by split <;> omega)
  cases rx with
  | mk rb rs rl =>
   rw [← hres]
   unfold aO at h5 ⊢
   repeat
    (first
     | (apply aA (h5); rfl; exact aj.refl _ _; exact enA; iterate 2 rfl) | (apply jF; iterate 9 rfl)
     | (apply aI; rfl; exact saA; iterate 4 rfl) | apply EL.nil
     | (with_reducible first | apply EK.nc | apply EC.ret | apply EK.aG))
   refine EK.kW 0 (B.os s1) rfl rfl rfl rfl ?_ (by (repeat first | exact X4 _ | apply List.Sublist.cons_cons | apply List.Sublist.cons)) ⟨s1, hn2, rfl, rfl⟩
   (exact RL.a)
 ·
  rw [if_neg hpos] at hres hU
  clear hcm hcx
  generalize bQ x.1 (y :: r) = n at hpos ⊢
  have hDl : Ds.length = L.length := by rw [← hDs, List.length_map]
  have hdL : ∀ i, (hi : i < L.length) → Ds[i]? = some (.tup [.bs L[i].1, .bs L[i].2]) := fun i hi => by
   rw [← hDs, XK, List.getElem?_eq_getElem hi]
   rfl
  repeat
   (first
    | (apply ak; iterate 3 rfl) | (apply ah; iterate 3 rfl) | (apply aC (b := false); (iterate 2 rfl); exact aK; iterate 2 rfl)
    | (apply aJ; iterate 4 rfl) | apply EL.nil | (apply EC.f0; rfl)
    | (with_reducible first | apply EK.nc | apply EC.seq | apply EC.r0 | apply EC.k0 | apply EC.b0 | apply EC.x0 | apply EK.s0 | apply EK.aY))
  refine EC.le (Le.row 138 3) ?_
  refine EC.loop (ι := {p : Nat × Value × B.σ // p.1 ≤ 16 ∧ B.Rl ((List.range p.1).map fun d => jG (aW d L) (bZ f (aW d L)) (aB f (aW d L))).flatten ((f + 1) * (L.filter (gJ p.1)).length) s p.2.2})
   (fun p => ⟨[(14, .val (.v (.int .i64 (p.1.1 : Int)))), (13, .val (.v (.slice none 0 0))), (12, .val (.v p.1.2.1)), (0, .val (.v (ptr g))), (1, .val (.sl 2 Ds)), (4, .val (.v (.pointer (some ⟨g4, 0, none⟩))))], (.row p.1.2.1 138 3 ((List.range p.1.1).map fun d => aO (dX (aW d L) (aB f (aW d L)))) :: .var g4 138 (.tup [.v (.bool false), .v (.slice none 0 0), .v (.slice none 0 0)]) :: B.os p.1.2.2), []⟩)
   (fun p => 16 - p.1.1) ⟨(0, .slice none 0 0, s), XQ _, B.more (B.none s) (XQ _)⟩ ?_ ?_
  · exact (Le.keep (by repeat first | exact trivial | refine ⟨rfl, ?_⟩) (by repeat first | exact X4 _ | apply List.Sublist.cons_cons | apply List.Sublist.cons) (by simp))
  rintro ⟨⟨d, v, s1⟩, hd16, hb1⟩
  dsimp only at hd16 hb1 ⊢
  by_cases hdlt : d < 16
  ·
   skip
   repeat
    (first
     | (apply ak; iterate 3 rfl) | (apply ah; iterate 3 rfl) | (apply aC (b := true); (iterate 2 rfl); exact aK; iterate 2 rfl) | apply EL.nil
     | (apply EC.t0; rfl) | (with_reducible first | apply EK.nc | apply EC.seq | apply EC.r0 | apply EC.k0 | apply EC.b0))
   refine EC.le (Le.row 146 2) ?_
   refine EC.loop (ι := {q : Nat × Value // q.1 ≤ L.length})
    (fun q => ⟨[(16, .val (.v (.int .i64 (q.1.1 : Int)))), (15, .val (.v q.1.2)), (14, .val (.v (.int .i64 (d : Int)))), (13, .val (.v (.slice none 0 0))), (12, .val (.v v)), (0, .val (.v (ptr g))), (1, .val (.sl 2 Ds)), (4, .val (.v (.pointer (some ⟨g4, 0, none⟩))))], (.row q.1.2 146 2 (((L.take q.1.1).filter (headD d)).map dPr) :: .row v 138 3 ((List.range d).map fun d => aO (dX (aW d L) (aB f (aW d L)))) :: .var g4 138 (.tup [.v (.bool false), .v (.slice none 0 0), .v (.slice none 0 0)]) :: B.os s1), []⟩)
    (fun q => L.length - q.1.1) ⟨(0, .slice none 0 0), XQ _⟩ ?_ ?_
   · exact (Le.keep (by repeat first | exact trivial | refine ⟨rfl, ?_⟩) (by repeat first | exact X4 _ | apply List.Sublist.cons_cons | apply List.Sublist.cons) (by simp))
   rintro ⟨⟨i, u⟩, hi⟩
   dsimp only at hi ⊢
   by_cases hilt : i < L.length
   ·
    have hd := hdL i hilt
    have htk : L.take (i + 1) = L.take i ++ [L[i]] := XE hilt
    have hfl : ((L.take i).filter (headD d)).length ≤ 1000000 := Yi (Y9 _ _) (by rw [List.length_take]; omega)
    generalize L[i] = z at hd htk
    obtain ⟨zp, zv⟩ := z
    cases zp with
    | nil =>
     have hno : (L.take (i + 1)).filter (headD d) = (L.take i).filter (headD d) := by
      rw [htk, Y6, Ye (by simp [headD]), ZL, X9]
     repeat
      (first
       | (apply eX; iterate 2 rfl) | (apply ak; iterate 3 rfl) | (apply ah; iterate 3 rfl) | (apply bC; iterate 7 rfl)
       | (apply aH; iterate 5 rfl) | (apply aS; iterate 4 rfl) | (apply aC (b := true); (iterate 2 rfl); exact aK; iterate 2 rfl)
       | (apply aC (b := false); (iterate 2 rfl); exact aK; iterate 2 rfl) | (apply jh; (iterate 3 rfl); (focus omega); (focus omega); iterate 2 rfl)
       | (apply aP; iterate 4 rfl) | (apply aJ; iterate 4 rfl)
       | (apply bT; (iterate 4 rfl); exact ixA; iterate 2 rfl) | apply EL.nil
       | (apply EC.t0; rfl) | (apply EC.f0; rfl)
       | (with_reducible first | apply EK.nc | apply EC.seq | apply EC.r0 | apply EC.k0 | apply EC.b0 | apply EK.n0))
     refine EK.again ⟨(i + 1, u), hilt⟩ (by dsimp only; omega) ?_
     dsimp only
     rw [hno]
     simp only [XV]
     exact (Le.keep (by repeat first | exact trivial | refine ⟨rfl, ?_⟩) (by repeat first | exact X4 _ | apply List.Sublist.cons_cons | apply List.Sublist.cons) (by simp))
    | cons c zp =>
     have c1 : ∀ w, (Go.convert 5 3 (bv c)).run Tryz.prog w = .ok (.int .i64 (c.toNat : Int)) w := Qo (T := 5) (U := 3) (k := .u8) (k' := .i64) Tryz.underlying5 Tryz.underlying3 (c.toNat : Int) (c.toNat : Int) (IntWalk.i64_in _ (by have := c.toNat_lt; omega))
     by_cases hcd : c.toNat = d
     ·
      have hno : (L.take (i + 1)).filter (headD d) = (L.take i).filter (headD d) ++ [(c :: zp, zv)] := by
       rw [htk, Y6, YP (by simp [headD, hcd]), ZL]
      have hnm : ((L.take (i + 1)).filter (headD d)).map dPr = ((L.take i).filter (headD d)).map dPr ++ [.tup [.bs (c :: zp), .bs zv]] := by
       rw [hno, Yd]
       rfl
      have hfm : (((L.take i).filter (headD d)).map dPr).length ≤ 1000000 := by rw [List.length_map]; exact hfl
      generalize ((L.take i).filter (headD d)).map dPr = fl at hnm hfm ⊢
      repeat
       (first
        | (apply QM; rfl; exact c1; iterate 3 rfl)
        | (apply ig; rfl; exact saA; (iterate 5 rfl); (constructor <;> (simp; omega)); intro u2)
        | (apply ak; iterate 3 rfl) | (apply ah; iterate 3 rfl) | (apply bC; iterate 7 rfl) | (apply aH; iterate 5 rfl)
        | (apply aS; iterate 4 rfl) | (apply aC (b := true); (iterate 2 rfl); exact aK; iterate 2 rfl)
        | (apply jh; (iterate 3 rfl); (focus omega); (focus omega); iterate 2 rfl) | (apply aP; iterate 4 rfl) | (apply aJ; iterate 4 rfl)
        | (apply bT; (iterate 4 rfl); exact ixA; iterate 2 rfl)
        | (apply gB; (iterate 3 rfl); exact ixA; iterate 2 rfl)
        | (apply jF; iterate 9 rfl) | apply EL.nil | (apply EC.t0; rfl)
        | (with_reducible first | apply EK.nc | apply EC.seq | apply EC.r0 | apply EC.k0 | apply EC.b0 | apply EK.n0))
      refine EK.again ⟨(i + 1, u2), hilt⟩ (by dsimp only; omega) ?_
      dsimp only
      rw [hnm]
      simp only [XV]
      exact (Le.keep (by repeat first | exact trivial | refine ⟨rfl, ?_⟩) (by repeat first | exact X4 _ | apply List.Sublist.cons_cons | apply List.Sublist.cons) (by simp))
     ·
      have hno : (L.take (i + 1)).filter (headD d) = (L.take i).filter (headD d) := by
       rw [htk, Y6, Ye (by simp [headD, hcd]), ZL, X9]
      repeat
       (first
        | (apply QM; rfl; exact c1; iterate 3 rfl) | (apply ak; iterate 3 rfl) | (apply ah; iterate 3 rfl) | (apply bC; iterate 7 rfl)
        | (apply aH; iterate 5 rfl) | (apply aS; iterate 4 rfl) | (apply aC (b := true); (iterate 2 rfl); exact aK; iterate 2 rfl)
        | (apply aC (b := false); (iterate 2 rfl); exact aK; iterate 2 rfl) | (apply jh; (iterate 3 rfl); (focus omega); (focus omega); iterate 2 rfl)
        | (apply aP; iterate 4 rfl) | (apply aJ; iterate 4 rfl)
        | (apply bT; (iterate 4 rfl); exact ixA; iterate 2 rfl)
        | (apply gB; (iterate 3 rfl); exact ixA; iterate 2 rfl) | apply EL.nil
        | (apply EC.t0; rfl) | (apply EC.f0; rfl)
        | (with_reducible first | apply EK.nc | apply EC.seq | apply EC.r0 | apply EC.k0 | apply EC.b0 | apply EK.n0))
      refine EK.again ⟨(i + 1, u), hilt⟩ (by dsimp only; omega) ?_
      dsimp only
      rw [hno]
      simp only [XV]
      exact (Le.keep (by repeat first | exact trivial | refine ⟨rfl, ?_⟩) (by repeat first | exact X4 _ | apply List.Sublist.cons_cons | apply List.Sublist.cons) (by simp))
   ·
    have hie : i = L.length := by omega
    rw [show L.take i = L by rw [hie, Yl]]
    have hFl : (L.filter (headD d)).length ≤ L.length := Y9 _ _
    have h3 := PY (L.filter (headD d)) 1 (by omega) fun z hz => oG (Yb.1 hz).2
    have hst := Qp L d
    have hcl := cnt_le L (d + 1)
    have hmn : (f + 1) * (L.filter (gJ (d + 1))).length = (f + 1) * (L.filter (gJ d)).length + (f + 1) * (L.filter (headD d)).length := by rw [hst, Nat.mul_add]
    have hmn2 : (f + 1) * (L.filter (headD d)).length = f * (L.filter (headD d)).length + (L.filter (headD d)).length := by rw [YA, YQ]
    have hmn3 : (f + 1) * (L.filter (gJ (d + 1))).length ≤ (f + 1) * L.length := Nat.mul_le_mul_left _ hcl
    have hkl := Pm d L
    have hbs := B.size hb1
    have hbig : B.sz s1 + (f * (L.filter (headD d)).length) ≤ 1000000000 := by omega
    have h4 := Uh B s1 (aW d L) (aB f (aW d L)) (bZ f (aW d L)) (f * (L.filter (headD d)).length) hbig fun he => by
     have := ih (aW d L) s1 he (fun z hz => by
      obtain ⟨w, hw, h1, rfl⟩ := oC hz
      have := hf w hw
      have := oG h1
      show (w.1.drop 1).length < f
      rw [Xx]
      omega) (fun z hz => by
      obtain ⟨w, hw, h1, rfl⟩ := oC hz
      have := hp w hw
      show (w.1.drop 1).length ≤ _
      rw [Xx]
      omega) (by omega) (by rw [hkl]; exact hbig)
     rw [hkl] at this
     exact this
    have hrs : (List.range (d + 1)).map (fun d => aO (dX (aW d L) (aB f (aW d L)))) = (List.range d).map (fun d => aO (dX (aW d L) (aB f (aW d L)))) ++ [aO (dX (aW d L) (aB f (aW d L)))] := by rw [List.range_succ, Yd]; rfl
    have hrl : ((List.range d).map (fun d => aO (dX (aW d L) (aB f (aW d L))))).length = d := by simp
    have hemp : (aW d L).isEmpty = false → 1 ≤ (L.filter (headD d)).length := fun he => by
     rw [← hkl]
     cases hk : aW d L with
     | nil => rw [hk] at he; cases he
     | cons _ _ => simp
    rw [show bW 1 (L.filter (headD d)) = aW d L from rfl] at h3
    have hUs : ((List.range (d + 1)).map fun d => jG (aW d L) (bZ f (aW d L)) (aB f (aW d L))).flatten = ((List.range d).map fun d => jG (aW d L) (bZ f (aW d L)) (aB f (aW d L))).flatten ++ jG (aW d L) (bZ f (aW d L)) (aB f (aW d L)) := by rw [List.range_succ, Yd, Yz]; simp
    generalize dX (aW d L) (aB f (aW d L)) = rx at h4 hrs
    refine EC.le (Le.freeze (pre := []) rfl) ?_
    refine EC.le (Le.refine (t := 15) (d' := .sl 2 ((L.filter (headD d)).map dPr)) rfl (Rf.fact List.mem_cons_self rfl)) ?_
    simp only [List.nil_append]
    generalize (L.filter (headD d)).map dPr = Df at h3 ⊢
    generalize hDk : (aW d L).map dPr = Dk at h3 h4
    repeat
     (first
      | (apply aA (h3); rfl; exact aj.refl _ _; exact enA; iterate 2 rfl) | (apply ak; iterate 3 rfl)
      | (apply aC (b := false); (iterate 2 rfl); exact aK; iterate 2 rfl) | (apply aJ; iterate 4 rfl) | apply EL.nil
      | (apply EC.f0; rfl) | (with_reducible first | apply EK.nc | apply EC.seq | apply EC.r0 | apply EC.x0 | apply EK.s0 | apply EK.aY))
    refine yg h4 [_, _] rfl rfl (aj.refl _ _) (by intro _ _; simp [go_sem]) rfl rfl ?_
    rintro _ _ ⟨s2, hn2, rfl, rfl⟩
    simp only [Xr, List.nil_append]
    have hb2 : B.Rl ((List.range (d + 1)).map fun d => jG (aW d L) (bZ f (aW d L)) (aB f (aW d L))).flatten ((f + 1) * (L.filter (gJ (d + 1))).length) s s2 := by
     rw [hUs]
     refine B.more (B.app hb1 hn2) ?_
     cases he : (aW d L).isEmpty with
     | true =>
      rw [if_pos rfl]
      omega
     | false =>
      rw [if_neg (by decide)]
      have := hemp he
      omega
    cases rx with
    | mk rb rq rl =>
     unfold aO at hrs ⊢
     generalize (List.range d).map (fun d => aO (dX (aW d L) (aB f (aW d L)))) = ro at hrs hrl ⊢
     repeat
      (first
       | (apply ig; rfl; exact saA; (iterate 5 rfl); (constructor <;> (simp; omega)); intro v2)
       | (apply ak; iterate 3 rfl) | (apply ah; iterate 3 rfl) | (apply jh; (iterate 3 rfl); (focus omega); (focus omega); iterate 2 rfl)
       | (apply jF; iterate 9 rfl) | apply EL.nil | (with_reducible first | apply EK.nc | apply EC.r0 | apply EK.n0))
     refine EK.again ⟨(d + 1, v2, s2), hdlt, hb2⟩ (by dsimp only; omega) ?_
     dsimp only
     rw [hrs]
     simp only [XV]
     exact (Le.keep (by repeat first | exact trivial | refine ⟨rfl, ?_⟩) (by repeat first | exact X4 _ | apply List.Sublist.cons_cons | apply List.Sublist.cons) (by simp))
  ·
   have hde : d = 16 := by omega
   have hcl := cnt_le L d
   have hmn3 : (f + 1) * (L.filter (gJ d)).length ≤ (f + 1) * L.length := Nat.mul_le_mul_left _ hcl
   have hb2 : B.Rl U ((f + 1) * L.length) s s1 := by
    rw [← hU]
    refine B.more ?_ hmn3
    rw [hde] at hb1 ⊢
    exact hb1
   clear hmn3 hcl
   repeat
    (first
     | (apply ak; iterate 3 rfl) | (apply ah; iterate 3 rfl) | (apply aC (b := false); (iterate 2 rfl); exact aK; iterate 2 rfl) | apply EL.nil
     | (apply EC.f0; rfl)
     | (with_reducible first | apply EK.nc | apply EC.seq | apply EC.r0 | apply EC.b0 | apply EC.x0 | apply EK.s0 | apply EK.aY))
   refine EC.le (Le.refine (t := 13) (d' := .bs []) rfl Rf.bs0) ?_
   refine EC.loop (ι := {i : Nat // i ≤ L.length})
    (fun i => ⟨[(17, .val (.v (.int .i64 (i.1 : Int)))), (13, .val (.bs (iJ (L.take i.1)))), (12, .val (.v v)), (0, .val (.v (ptr g))), (1, .val (.sl 2 Ds)), (4, .val (.v (.pointer (some ⟨g4, 0, none⟩))))], (.row v 138 3 ((List.range d).map fun d => aO (dX (aW d L) (aB f (aW d L)))) :: .var g4 138 (.tup [.v (.bool false), .v (.slice none 0 0), .v (.slice none 0 0)]) :: B.os s1), []⟩)
    (fun i => L.length - i.1) ⟨0, XQ _⟩ ?_ ?_
   · exact (Le.keep (by repeat first | exact trivial | refine ⟨rfl, ?_⟩) (by repeat first | exact X4 _ | apply List.Sublist.cons_cons | apply List.Sublist.cons) (by simp))
   rintro ⟨i, hi⟩
   dsimp only at hi ⊢
   by_cases hilt : i < L.length
   ·
    have hd := hdL i hilt
    have hvs := KY (L.take i) L[i]
    rw [← XE hilt] at hvs
    generalize L[i] = z at hd hvs
    obtain ⟨zp, zv⟩ := z
    cases zp with
    | nil =>
     rw [if_pos (show ([] : List UInt8).isEmpty = true from rfl)] at hvs
     generalize hv1 : iJ (L.take (i + 1)) = v1 at hvs
     repeat
      (first
       | (apply ak; iterate 3 rfl) | (apply ah; iterate 3 rfl) | (apply bC; iterate 7 rfl) | (apply aH; iterate 5 rfl)
       | (apply aC (b := true); (iterate 2 rfl); exact aK; iterate 2 rfl) | (apply jh; (iterate 3 rfl); (focus omega); (focus omega); iterate 2 rfl)
       | (apply aP; iterate 4 rfl) | (apply aJ; iterate 4 rfl)
       | (apply bT; (iterate 4 rfl); exact ixA; iterate 2 rfl) | apply EL.nil
       | (apply EC.t0; rfl) | (with_reducible first | apply EK.nc | apply EC.seq | apply EC.r0 | apply EC.k0 | apply EC.b0 | apply EK.n0))
     refine EK.again ⟨i + 1, hilt⟩ (by dsimp only; omega) ?_
     dsimp only
     rw [hv1, hvs]
     simp only [XV]
     exact (Le.keep (by repeat first | exact trivial | refine ⟨rfl, ?_⟩) (by repeat first | exact X4 _ | apply List.Sublist.cons_cons | apply List.Sublist.cons) (by simp))
    | cons c zp =>
     rw [if_neg (show ¬ ((c :: zp).isEmpty = true) from Xv)] at hvs
     repeat
      (first
       | (apply ak; iterate 3 rfl) | (apply ah; iterate 3 rfl) | (apply bC; iterate 7 rfl) | (apply aH; iterate 5 rfl)
       | (apply aC (b := true); (iterate 2 rfl); exact aK; iterate 2 rfl) | (apply aC (b := false); (iterate 2 rfl); exact aK; iterate 2 rfl)
       | (apply jh; (iterate 3 rfl); (focus omega); (focus omega); iterate 2 rfl) | (apply aP; iterate 4 rfl) | (apply aJ; iterate 4 rfl)
       | (apply bT; (iterate 4 rfl); exact ixA; iterate 2 rfl) | apply EL.nil
       | (apply EC.t0; rfl) | (apply EC.f0; rfl)
       | (with_reducible first | apply EK.nc | apply EC.seq | apply EC.r0 | apply EC.k0 | apply EC.b0 | apply EK.n0))
     refine EK.again ⟨i + 1, hilt⟩ (by dsimp only; omega) ?_
     dsimp only
     rw [hvs]
     simp only [XV]
     exact (Le.keep (by repeat first | exact trivial | refine ⟨rfl, ?_⟩) (by repeat first | exact X4 _ | apply List.Sublist.cons_cons | apply List.Sublist.cons) (by simp))
   ·
    have hie : i = L.length := by omega
    rw [show L.take i = L by rw [hie, Yl]]
    rw [← hde] at hres
    have h5 := mF (iJ L)
    have h6 := DR ((List.range d).map (fun d => dX (aW d L) (aB f (aW d L))) ++ [.mk false (iJ L) []])
    have hmm : dL ((List.range d).map (fun d => dX (aW d L) (aB f (aW d L))) ++ [.mk false (iJ L) []]) = (List.range d).map (fun d => aO (dX (aW d L) (aB f (aW d L)))) ++ [aO (.mk false (iJ L) [])] := by
     rw [jd, Yd, YJ]
     rfl
    have hrl : ((List.range d).map (fun d => aO (dX (aW d L) (aB f (aW d L))))).length = d := by simp
    rw [← hres]
    generalize (List.range d).map (fun d => dX (aW d L) (aB f (aW d L))) ++ [.mk false (iJ L) []] = xs at h6 hmm ⊢
    generalize (List.range d).map (fun d => aO (dX (aW d L) (aB f (aW d L)))) = ro at hmm hrl ⊢
    generalize iJ L = vl at h5 hmm ⊢
    repeat
     (first
      | (apply aA (h5); rfl; exact aj.refl _ _; exact enA; iterate 2 rfl) | (apply aA (h6); rfl; exact aj.refl _ _; exact enA; iterate 2 rfl)
      | (apply ig; rfl; exact saA; (iterate 5 rfl); (constructor <;> (simp; omega)); intro v2; refine EL.le (Le.freeze (pre := []) rfl) ?_; refine EL.le (Le.refine (t := 149) (d' := .sl 3 (dL xs)) rfl (Rf.fact (by rw [hmm]; exact List.mem_cons_self) rfl)) ?_; simp only [List.nil_append])
      | (apply ak; iterate 3 rfl) | (apply aC (b := false); (iterate 2 rfl); exact aK; iterate 2 rfl) | (apply aJ; iterate 4 rfl)
      | (apply jF; iterate 9 rfl) | (apply aI; rfl; exact saA; iterate 4 rfl) | apply EL.nil
      | (apply EC.f0; rfl)
      | (with_reducible first | apply EK.nc | apply EC.seq | apply EC.r0 | apply EC.x0 | apply EC.ret | apply EK.s0 | apply EK.aY))
    refine EK.kW 0 (B.os s1) rfl rfl rfl rfl ?_ (by (repeat first | exact X4 _ | apply List.Sublist.cons_cons | apply List.Sublist.cons)) ⟨s1, hb2, rfl, rfl⟩
    (exact RL.a)
theorem Jh {g : Nat} (B : Bld g) : ∀ f, QO B f
 | 0 => fun l s he hf _ _ _ => by
  cases l with
  | nil => cases he
  | cons x r => exact absurd (hf x List.mem_cons_self) (Yc _)
 | f + 1 => fun l s he hf hp hl hN => by
  match l, he with
  | [x], _ => exact O9 B f x s (hp x List.mem_cons_self)
  | x :: y :: r, _ => exact MO B f (Jh B f) x y r s hf hp hl hN
abbrev bO (g : Nat) (ns : List Pr) : Obj := .var g 149 (.tup [.sl 33 (ns.map dNd), .v (.pointer none), .v (.bool false)])
theorem QD (g : Nat) (ns : List Pr) (x : List UInt8) (hl : ns.length ≤ 1000000000) (hx : x.length ≤ 1099511627776) : FnM 72 [.v (ptr g), .bs x] [bO g ns] (fun r os' => r = .val (.arr 32 (hash x)) ∧ os' = [bO g (gG (hash x, x) ns)]) := by
 have hK := vg x hx
 have hP := Cc ns (hash x, x) hl
 have hnl := (KD (T := 78) (by kernel_rfl) none).2
 refine FnM.walk 38 Tryz.func72 rfl Tryz.ntmps72 (by simp) fun X => ?_
 repeat
  (first
   | (apply aA (hK); rfl; exact aj.refl _ _; exact enA; iterate 2 rfl) | (apply ak; iterate 3 rfl) | (apply aT; rfl; rfl; rfl; intro _)
   | (apply aI; rfl; exact saA; iterate 4 rfl) | apply EL.nil
   | (with_reducible first | apply EK.nc | apply EC.seq | apply EC.r0))
 refine EC.draw 15 (by kernel_rfl) ?_
 simp only [Xp, Xu, mP, Xq]
 repeat
  (first
   | (apply uj; iterate 2 rfl) | (apply lH; (iterate 2 rfl); exact hnl; iterate 2 rfl) | (apply aX; iterate 3 rfl) | (apply dH; iterate 6 rfl)
   | (apply jI; iterate 4 rfl) | (apply dw; rfl; exact I.a; iterate 4 rfl) | (apply gU; iterate 3 rfl) | ((with_reducible apply EH.nil); rfl))
 repeat
  (first
   | apply EL.nil | (apply EC.f0; rfl) | (with_reducible first | apply EK.nc | apply EC.seq | apply EC.k0))
 refine EC.le (Le.pick [2, 0, 1] [_, _, _] rfl (by decide) rfl) ?_
 refine EC.iU 12 [0, 1, 2, 3, 5, 6, 7, 9, 10] [4, 8, 11] [_] _ (by kernel_rfl) (by kernel_rfl) rfl ?_
 simp only [bJ, XD, XG, Xz, Xy]
 repeat
  (first
   | (apply aX; iterate 3 rfl) | (apply dH; iterate 6 rfl) | (apply dw; rfl; exact I.a; iterate 4 rfl) | (apply iM; iterate 7 rfl)
   | (apply gU; iterate 3 rfl))
 refine EM.nil ?_
 repeat (first | rw [Xr] | rw [List.nil_append])
 refine CH.cut 2 ?_
 simp only [Xp, Xu, mP, Xq]
 repeat
  (first
   | (apply fD (hP); rfl; exact aj.refl _ _; exact enA; iterate 2 rfl) | (apply dw; rfl; exact I.a; iterate 4 rfl))
 refine EM.nil ?_
 repeat (first | rw [Xr] | rw [List.nil_append])
 refine CH.mut (os := [_]) (rest := []) rfl rfl (l9 (iQ rfl rfl rfl rfl rfl)) ?_
 rintro _ _ ⟨rfl, rfl⟩
 try simp only [St.put]
 repeat (first | rw [Xr] | rw [List.nil_append])
 refine CH.nil ?_
 try simp only [mP, Xq]
 repeat
  (first
   | (apply bH; rfl; exact I.a; iterate 4 rfl) | (apply aI; rfl; exact saA; iterate 4 rfl) | apply EL.nil
   | (with_reducible first | apply EK.nc | apply EC.seq | apply EC.r0 | apply EC.ret))
 refine EK.kW 2 [bO g (gG (hash x, x) ns)] rfl rfl rfl rfl ?_ (by (repeat first | exact Xt _ | apply List.Sublist.cons_cons | apply List.Sublist.cons)) ⟨rfl, rfl⟩
 (exact RL.a)
end E
end Go.Proofs.YtelbhdobjdnglaaGreat
